/- Are two nodes the same: the program's Same, and the document's, walked: just if they are one as plain nodes. No condition but that both lie in memory. -/
import Derived.Test.YtaklmocjaokkpaaGreatDoorTreeUnlike
import Derived.Test.YtaklmocjaokkpaaGreatDoorBase
namespace Go.Proofs.YtaklmocjaokkpaaGreatDoor.Tr
set_option linter.unusedVariables false
set_option linter.unusedSimpArgs false
open Go.RowKit Go.Shelf Go.Proofs.YtaklmocjaokkpaaGreatDoor.Mem

theorem toList_no {u y : ByteArray} (h : ¬ u = y) : (u.toList == y.toList) = false := by
  rw [beq_eq_false_iff_ne]
  intro e
  rw [ByteArray.toList_eq, ByteArray.toList_eq] at e
  exact h (ByteArray.ext (Array.toList_inj.1 e))
noncomputable def sameN (x y : Nd) : Bool := @decide (x = y) (Classical.propDecidable _)
noncomputable def sameL (x y : List Nd) : Bool := @decide (x = y) (Classical.propDecidable _)
theorem sameN_true {x y : Nd} (h : x = y) : sameN x y = true := @decide_eq_true _ (Classical.propDecidable _) h
theorem sameN_false {x y : Nd} (h : ¬ x = y) : sameN x y = false := @decide_eq_false _ (Classical.propDecidable _) h
theorem sameL_true {x y : List Nd} (h : x = y) : sameL x y = true := @decide_eq_true _ (Classical.propDecidable _) h
theorem sameL_false {x y : List Nd} (h : ¬ x = y) : sameL x y = false := @decide_eq_false _ (Classical.propDecidable _) h
theorem sameN_iff {x y : Nd} : sameN x y = true ↔ x = y := @decide_eq_true_iff _ (Classical.propDecidable _)
theorem nd_eq {x y : Nd} (h1 : x.kind = y.kind) (h2 : x.n = y.n) (h3 : x.text = y.text) (h4 : x.names = y.names) (h5 : x.kids = y.kids) : x = y := by
  cases x; cases y
  simp only [Nd.kind, Nd.n, Nd.text, Nd.names, Nd.kids] at h1 h2 h3 h4 h5
  subst h1 h2 h3 h4 h5
  rfl
set_option maxRecDepth 100000 in
set_option maxHeartbeats 1000000 in
theorem sequal_calls (l m : List ByteArray) (v v' : Value) (w : World) (h : StrsIn w v l) (h' : StrsIn w v' m) :
    Calls Tryz.prog 45 #[v, v'] w fun e w' => e = .returned (.bool (decide (l = m))) ∧ Chg (fun _ => False) w w' := by
  obtain ⟨ad, cap, rfl, hlc, hcm, hel⟩ := h
  obtain ⟨ad', cap', rfl, hlc', hcm', hel'⟩ := h'
  have hcm2 : cap ≤ 9223372036854775807 := by unfold maxLen at hcm; omega
  have hcm2' : cap' ≤ 9223372036854775807 := by unfold maxLen at hcm'; omega
  obtain ⟨res, hres⟩ : ∃ res, decide (l = m) = res := ⟨_, rfl⟩
  rw [hres]
  have HRES := Lib.hid hres
  obtain ⟨n, hn⟩ : ∃ n, l.length = n := ⟨_, rfl⟩
  obtain ⟨n', hn'⟩ : ∃ n', m.length = n' := ⟨_, rfl⟩
  have HN := Lib.hid hn
  have HN' := Lib.hid hn'
  have HEL := Lib.hid hel
  have HEL' := Lib.hid hel'
  rw [hn] at hlc ⊢
  rw [hn'] at hlc' ⊢
  clear hel hel' hcm hcm' hres hn hn'
  go_enter Tryz.func45, Tryz.ntmps45
  by_cases hne : n = n'
  · subst hne
    go_wp2_with fail
    go_loopg [13] (n + 1) (fun g vi wr => ∃ (j : Nat), vi = .int .i64 j ∧ j ≤ n ∧ n < g + j ∧ Hid (l.take j = m.take j) ∧ Hid (Chg (fun _ => False) w wr))
    case atStart => exact ⟨0, rfl, by omega, by omega, Lib.hid rfl, Lib.hid (Chg.refl _ _)⟩
    case round =>
      obtain ⟨j, rfl, hj, hg, hT, hC⟩ := hrel
      by_cases hlt : j < n
      · obtain ⟨gk', rfl⟩ : ∃ q, gk = q + 1 := ⟨gk - 1, by omega⟩
        obtain ⟨s, hs⟩ : ∃ s, l[j]? = some s := ⟨_, List.getElem?_eq_getElem (by rw [HN.out]; exact hlt)⟩
        obtain ⟨t, ht⟩ : ∃ t, m[j]? = some t := ⟨_, List.getElem?_eq_getElem (by rw [HN'.out]; exact hlt)⟩
        obtain ⟨b, off, rfl, _, cs0⟩ := HEL.out j s hs
        obtain ⟨b2, off2, rfl, _, ct0⟩ := HEL'.out j t ht
        have cs := hC.out.cell cs0 (fun e => e)
        have ct := hC.out.cell ct0 (fun e => e)
        have j0 : (0 : Int) ≤ (j : Int) := by omega
        have j1 : (j : Int) < (n : Int) := by omega
        clear cs0 ct0
        by_cases hst : s = t
        · have HT2 : Hid (l.take (j + 1) = m.take (j + 1)) := Lib.hid (by rw [List.take_add_one, List.take_add_one, hs, ht, hst, hT.out])
          have hb : (s.toList == t.toList) = true := by rw [hst]; exact beq_self_eq_true _
          have hb2 : (s.toList != t.toList) = false := by rw [hst]; exact bne_self_eq_false _
          clear hs ht
          go_wp2_with fail
          go_quiet (fail)
          go_wp2_with fail
          go_roundg gk'
          case measure => omega
          case rel => exact ⟨j + 1, by go_num, by omega, by omega, HT2, Lib.hid (hC.out.drewN _)⟩
        · have hb : (s.toList == t.toList) = false := toList_no hst
          have hb2 : (s.toList != t.toList) = true := by rw [bne, hb]; rfl
          obtain rfl : res = false := by
            rw [← HRES.out]
            exact decide_eq_false (fun e => hst (by rw [e] at hs; rw [hs] at ht; exact Option.some.inj ht))
          clear hs ht
          go_wp2_with fail
          go_quiet (fail)
          go_wp2_with fail
          go_ret
          exact ⟨rfl, hC.out.drewN _⟩
      · obtain rfl : j = n := by omega
        have hkk : ¬ ((j : Nat) : Int) < ((j : Nat) : Int) := by omega
        obtain rfl : res = true := by
          rw [← HRES.out]
          have h1 : l.take j = l := List.take_of_length_le (by rw [HN.out]; exact Nat.le_refl _)
          have h2 : m.take j = m := List.take_of_length_le (by rw [HN'.out]; exact Nat.le_refl _)
          exact decide_eq_true (by rw [← h1, ← h2]; exact hT.out)
        go_wp2_with fail
        go_ret
        exact ⟨rfl, hC.out⟩
  · have hne2 : ¬ (n : Int) = (n' : Int) := by omega
    have hne3 : ((n : Int) == (n' : Int)) = false := beq_eq_false_iff_ne.2 hne2
    have hne4 : ((n : Int) != (n' : Int)) = true := bne_iff_ne.2 hne2
    obtain rfl : res = false := by
      rw [← HRES.out]
      exact decide_eq_false (fun e => hne (by rw [← HN.out, ← HN'.out, e]))
    go_wp2_with fail
    go_ret
    exact ⟨rfl, Chg.refl _ _⟩
theorem enter_same (args : Array Value) (w : World) : (callFunc 27 args).run Tryz.prog w = .ok (.enter 27 args) w := enters_of Tryz.func27 (by kernel_rfl) rfl args w
abbrev SameOk (F : FuncId) (a : Nd) : Prop := ∀ (b : Nd) (nv kv nv' kv' : Value) (W : World), NdIn W nv kv a → NdIn W nv' kv' b → Calls Tryz.prog F #[ndV a nv kv, ndV b nv' kv'] W fun e w' => e = .returned (.bool (sameN a b)) ∧ Chg (fun _ => False) W w'
set_option maxRecDepth 100000 in
set_option maxHeartbeats 1000000 in
theorem eqf_calls (ks ls : List Nd) (ad ad' : Option Addr) (cap cap' : Nat) (w : World) (h : KidsIn w ad 0 ks) (h' : KidsIn w ad' 0 ls) (hlc : ks.length ≤ cap) (hlc' : ls.length ≤ cap') (hcm : cap ≤ maxLen) (hcm' : cap' ≤ maxLen) (HS : ∀ a ∈ ks, SameOk 27 a) :
    Calls Tryz.prog 46 #[.slice ad ks.length cap, .slice ad' ls.length cap', .func (.func 27) #[] #[]] w fun e w' => e = .returned (.bool (sameL ks ls)) ∧ Chg (fun _ => False) w w' := by
  have hcm2 : cap ≤ 9223372036854775807 := by unfold maxLen at hcm; omega
  have hcm2' : cap' ≤ 9223372036854775807 := by unfold maxLen at hcm'; omega
  obtain ⟨res, hres⟩ : ∃ res, sameL ks ls = res := ⟨_, rfl⟩
  rw [hres]
  have HRES := Lib.hid hres
  obtain ⟨n, hn⟩ : ∃ n, ks.length = n := ⟨_, rfl⟩
  obtain ⟨n', hn'⟩ : ∃ n', ls.length = n' := ⟨_, rfl⟩
  have HN := Lib.hid hn
  have HN' := Lib.hid hn'
  have HK := Lib.hid h
  have HK' := Lib.hid h'
  have HSS := Lib.hid HS
  have hent := enter_same
  rw [hn] at hlc ⊢
  rw [hn'] at hlc' ⊢
  clear h h' hcm hcm' hres hn hn' HS
  go_enter Tryz.func46, Tryz.ntmps46
  by_cases hne : n = n'
  · subst hne
    go_wp2_with fail
    go_loopg [17] (n + 1) (fun g vi wr => ∃ (j : Nat), vi = .int .i64 j ∧ j ≤ n ∧ n < g + j ∧ Hid (ks.take j = ls.take j) ∧ Hid (Chg (fun _ => False) w wr))
    case atStart => exact ⟨0, rfl, by omega, by omega, Lib.hid rfl, Lib.hid (Chg.refl _ _)⟩
    case round =>
      obtain ⟨j, rfl, hj, hg, hT, hC⟩ := hrel
      by_cases hlt : j < n
      · obtain ⟨gk', rfl⟩ : ∃ q, gk = q + 1 := ⟨gk - 1, by omega⟩
        obtain ⟨b, off, nv, kv, x, rfl, hx, hxm, k0, k1, k2, k3, k4, hxin⟩ := kid_cells (HK.out.kept hC.out) j (by rw [HN.out]; exact hlt)
        obtain ⟨b', off', nv', kv', y, rfl, hy, hym, q0, q1, q2, q3, q4, hyin⟩ := kid_cells (HK'.out.kept hC.out) j (by rw [HN'.out]; exact hlt)
        have HC2 := Lib.hid (fun W (hW : Chg (fun _ => False) wr W) => HSS.out x hxm y nv kv nv' kv' W (hxin.kept hW) (hyin.kept hW))
        obtain ⟨an, cn, ak, ck, rfl, rfl, _⟩ := hxin.forms
        obtain ⟨an', cn', ak', ck', rfl, rfl, _⟩ := hyin.forms
        have j0 : (0 : Int) ≤ (j : Int) := by omega
        have j1 : (j : Int) < (n : Int) := by omega
        obtain ⟨w2, hw2⟩ : ∃ w2, wr.alloc (.cells #[.int .u8 x.kind, .int .i64 x.n, .string x.text, .slice an x.names.length cn, .slice ak x.kids.length ck] 25) = w2 := ⟨_, rfl⟩
        have hc2 : Chg (fun _ => False) wr w2 := by rw [← hw2]; exact (Chg.refl _ wr).alloc _
        have g0 := hc2.cell q0 (fun e => e)
        have g1 := hc2.cell q1 (fun e => e)
        have g2 := hc2.cell q2 (fun e => e)
        have g3 := hc2.cell q3 (fun e => e)
        have g4 := hc2.cell q4 (fun e => e)
        obtain ⟨w3, hw3⟩ : ∃ w3, w2.alloc (.cells #[.int .u8 y.kind, .int .i64 y.n, .string y.text, .slice an' y.names.length cn', .slice ak' y.kids.length ck'] 25) = w3 := ⟨_, rfl⟩
        have hc3 : Chg (fun _ => False) w2 w3 := by rw [← hw3]; exact (Chg.refl _ w2).alloc _
        have hbx := hc3.blk (show w2.heap[wr.heap.size]? = some (.cells #[.int .u8 x.kind, .int .i64 x.n, .string x.text, .slice an x.names.length cn, .slice ak x.kids.length ck] 25) by rw [← hw2]; exact blk_new wr _) (fun e => e)
        have hby : w3.heap[w2.heap.size]? = some (.cells #[.int .u8 y.kind, .int .i64 y.n, .string y.text, .slice an' y.names.length cn', .slice ak' y.kids.length ck'] 25) := by rw [← hw3]; exact blk_new w2 _
        have r0 := cell_of hbx 0
        have r1 := cell_of hbx 1
        have r2 := cell_of hbx 2
        have r3 := cell_of hbx 3
        have r4 := cell_of hbx 4
        have t0 := cell_of hby 0
        have t1 := cell_of hby 1
        have t2 := cell_of hby 2
        have t3 := cell_of hby 3
        have t4 := cell_of hby 4
        have HCC := Lib.hid (hc2.trans hc3)
        have HX := Lib.hid hx
        have HY := Lib.hid hy
        unfold ndV at HC2
        clear hx hy hxm hym hxin hyin hc2 hc3 hbx hby
        by_cases hst : x = y
        · simp only [sameN_true hst] at HC2
          have HT2 : Hid (ks.take (j + 1) = ls.take (j + 1)) := Lib.hid (by rw [List.take_add_one, List.take_add_one, HX.out, HY.out, hst, hT.out])
          clear hst
          go_wp2_with fail
          refine (HC2.out _ HCC.out).mono ?_
          rintro e w4 ⟨rfl, hC4⟩
          have HC4 := Lib.hid ((hC.out.trans HCC.out).trans hC4)
          clear hC4 HC2 k0 k1 k2 k3 k4 q0 q1 q2 q3 q4 g0 g1 g2 g3 g4 r0 r1 r2 r3 r4 t0 t1 t2 t3 t4
          go_wp2_with fail
          go_roundg gk'
          case measure => omega
          case rel => exact ⟨j + 1, by go_num, by omega, by omega, HT2, HC4⟩
        · simp only [sameN_false hst] at HC2
          obtain rfl : res = false := by
            rw [← HRES.out]
            exact sameL_false (fun e => hst (by have h1 := HX.out; rw [e, HY.out] at h1; exact (Option.some.inj h1).symm))
          go_wp2_with fail
          refine (HC2.out _ HCC.out).mono ?_
          rintro e w4 ⟨rfl, hC4⟩
          have HC4 := Lib.hid ((hC.out.trans HCC.out).trans hC4)
          clear hC4 HC2 k0 k1 k2 k3 k4 q0 q1 q2 q3 q4 g0 g1 g2 g3 g4 r0 r1 r2 r3 r4 t0 t1 t2 t3 t4
          go_wp2_with fail
          go_ret
          exact ⟨rfl, HC4.out⟩
      · obtain rfl : j = n := by omega
        have hkk : ¬ ((j : Nat) : Int) < ((j : Nat) : Int) := by omega
        obtain rfl : res = true := by
          rw [← HRES.out]
          have h1 : ks.take j = ks := List.take_of_length_le (by rw [HN.out]; exact Nat.le_refl _)
          have h2 : ls.take j = ls := List.take_of_length_le (by rw [HN'.out]; exact Nat.le_refl _)
          exact sameL_true (by rw [← h1, ← h2]; exact hT.out)
        go_wp2_with fail
        go_ret
        exact ⟨rfl, hC.out⟩
  · have hne2 : ¬ (n : Int) = (n' : Int) := by omega
    have hne3 : ((n : Int) == (n' : Int)) = false := beq_eq_false_iff_ne.2 hne2
    have hne4 : ((n : Int) != (n' : Int)) = true := bne_iff_ne.2 hne2
    obtain rfl : res = false := by
      rw [← HRES.out]
      exact sameL_false (fun e => hne (by rw [← HN.out, ← HN'.out, e]))
    go_wp2_with fail
    go_ret
    exact ⟨rfl, Chg.refl _ _⟩
set_option maxRecDepth 100000 in
set_option maxHeartbeats 2000000 in
theorem tsame_calls : ∀ (x : Nd), SameOk 27 x := by
  intro x
  induction x using Nd.ind with
  | h x ih =>
    intro y nv kv nv' kv' w hin hin'
    obtain ⟨w1, hw1⟩ : ∃ w1, w.alloc (ndBox x nv kv) = w1 := ⟨_, rfl⟩
    obtain ⟨w2, hw2⟩ : ∃ w2, w1.alloc (ndBox y nv' kv') = w2 := ⟨_, rfl⟩
    have hC1 : Chg (fun _ => False) w w1 := by rw [← hw1]; exact (Chg.refl _ w).alloc _
    have hC2 : Chg (fun _ => False) w1 w2 := by rw [← hw2]; exact (Chg.refl _ w1).alloc _
    have HBX := Lib.hid (hC2.blk (show w1.heap[w.heap.size]? = some (ndBox x nv kv) by rw [← hw1]; exact blk_new w _) (fun e => e))
    have HBY := Lib.hid (show w2.heap[w1.heap.size]? = some (ndBox y nv' kv') by rw [← hw2]; exact blk_new w1 _)
    have HC2 := Lib.hid (hC1.trans hC2)
    have hin2 := hin.kept HC2.out
    have hin2' := hin'.kept HC2.out
    have HIN := Lib.hid hin2
    have HIN' := Lib.hid hin2'
    have HIH := Lib.hid ih
    obtain ⟨an, cn, ak, ck, rfl, rfl, hnl, hnm, hkl, hkm, hkk⟩ := hin2.forms
    obtain ⟨an', cn', ak', ck', rfl, rfl, hnl', hnm', hkl', hkm', hkk'⟩ := hin2'.forms
    obtain ⟨res, hres⟩ : ∃ res, sameN x y = res := ⟨_, rfl⟩
    have HRES := Lib.hid hres
    have HEN := Lib.hid (sequal_calls x.names y.names _ _ w2 hin2.names hin2'.names)
    have HEF := Lib.hid (fun W (hW : Chg (fun _ => False) w2 W) => eqf_calls x.kids y.kids ak ak' ck ck' W (hkk.kept hW) (hkk'.kept hW) hkl hkl' hkm hkm' ih)
    unfold ndBox at HBX HBY hw1 hw2
    unfold ndV
    rw [hres]
    have a0 := cell_of HBX.out 0
    have a1 := cell_of HBX.out 1
    have a2 := cell_of HBX.out 2
    have a3 := cell_of HBX.out 3
    have a4 := cell_of HBX.out 4
    have b0 := cell_of HBY.out 0
    have b1 := cell_of HBY.out 1
    have b2 := cell_of HBY.out 2
    have b3 := cell_of HBY.out 3
    have b4 := cell_of HBY.out 4
    clear hin hin' hC1 hC2 hin2 hin2' hnl hnm hkl hkm hkk hnl' hnm' hkl' hkm' hkk' ih hres HIN HIN' HIH
    go_enter Tryz.func27, Tryz.ntmps27
    by_cases ek : x.kind = y.kind
    case neg =>
      have ek2 : ¬ (x.kind : Int) = (y.kind : Int) := by omega
      have ek3 : ((x.kind : Int) == (y.kind : Int)) = false := beq_eq_false_iff_ne.2 ek2
      obtain rfl : res = false := by rw [← HRES.out]; exact sameN_false (fun e => ek (by rw [e]))
      go_wp2_with fail
      go_ret
      exact ⟨rfl, HC2.out⟩
    have ek3 : ((x.kind : Int) == (y.kind : Int)) = true := by rw [ek]; exact beq_self_eq_true _
    have EK := Lib.hid ek
    clear ek
    by_cases en : x.n = y.n
    case neg =>
      have en3 : (x.n == y.n) = false := beq_eq_false_iff_ne.2 en
      obtain rfl : res = false := by rw [← HRES.out]; exact sameN_false (fun e => en (by rw [e]))
      go_wp2_with fail
      go_ret
      exact ⟨rfl, HC2.out⟩
    have en3 : (x.n == y.n) = true := by rw [en]; exact beq_self_eq_true _
    have EN := Lib.hid en
    clear en
    by_cases et : x.text = y.text
    case neg =>
      have et3 : (x.text.toList == y.text.toList) = false := toList_no et
      obtain rfl : res = false := by rw [← HRES.out]; exact sameN_false (fun e => et (by rw [e]))
      go_wp2_with fail
      go_ret
      exact ⟨rfl, HC2.out⟩
    have et3 : (x.text.toList == y.text.toList) = true := by rw [et]; exact beq_self_eq_true _
    have ET := Lib.hid et
    clear et
    by_cases em : x.names = y.names
    case neg =>
      obtain rfl : res = false := by rw [← HRES.out]; exact sameN_false (fun e => em (by rw [e]))
      rw [decide_eq_false em] at HEN
      clear em
      go_wp2_with fail
      refine HEN.out.mono ?_
      rintro e w3 ⟨rfl, hC3⟩
      have HC3 := Lib.hid (HC2.out.trans hC3)
      clear hC3 HEN
      go_wp2_with fail
      go_ret
      exact ⟨rfl, HC3.out⟩
    rw [decide_eq_true em] at HEN
    have EM := Lib.hid em
    clear em
    go_wp2_with fail
    refine HEN.out.mono ?_
    rintro e w3 ⟨rfl, hC3⟩
    have HC3 := Lib.hid (HC2.out.trans hC3)
    have hbx := hC3.blk HBX.out (fun e => e)
    have hby := hC3.blk HBY.out (fun e => e)
    have HEF3 := Lib.hid (HEF.out w3 hC3)
    clear hC3 HEN HEF a0 a1 a2 a3 a4 b0 b1 b2 b3 b4
    have a4 := cell_of hbx 4
    have b4 := cell_of hby 4
    clear hbx hby
    obtain ⟨r, hr⟩ : ∃ r, sameL x.kids y.kids = r := ⟨_, rfl⟩
    obtain rfl : r = res := by
      rw [← HRES.out, ← hr]
      by_cases e : x.kids = y.kids
      · rw [sameL_true e, sameN_true (nd_eq EK.out EN.out ET.out EM.out e)]
      · rw [sameL_false e, sameN_false (fun e2 => e (by rw [e2]))]
    rw [hr] at HEF3
    clear hr
    go_wp2_with fail
    refine HEF3.out.mono ?_
    rintro e w4 ⟨rfl, hC4⟩
    have HC4 := Lib.hid (HC3.out.trans hC4)
    clear hC4 HEF3
    go_wp2_with fail
    go_ret
    exact ⟨rfl, HC4.out⟩
set_option maxRecDepth 100000 in
set_option maxHeartbeats 4000000 in
theorem rsame_calls : ∀ (x : Nd), SameOk 26 x := by
  intro x
  induction x using Nd.ind with
  | h x ih =>
    intro y nv kv nv' kv' w hin hin'
    obtain ⟨w1, hw1⟩ : ∃ w1, w.alloc (ndBox x nv kv) = w1 := ⟨_, rfl⟩
    obtain ⟨w2, hw2⟩ : ∃ w2, w1.alloc (ndBox y nv' kv') = w2 := ⟨_, rfl⟩
    have hC1 : Chg (fun _ => False) w w1 := by rw [← hw1]; exact (Chg.refl _ w).alloc _
    have hC2 : Chg (fun _ => False) w1 w2 := by rw [← hw2]; exact (Chg.refl _ w1).alloc _
    have HBX := Lib.hid (hC2.blk (show w1.heap[w.heap.size]? = some (ndBox x nv kv) by rw [← hw1]; exact blk_new w _) (fun e => e))
    have HBY := Lib.hid (show w2.heap[w1.heap.size]? = some (ndBox y nv' kv') by rw [← hw2]; exact blk_new w1 _)
    have HC2 := Lib.hid (hC1.trans hC2)
    have hin2 := hin.kept HC2.out
    have hin2' := hin'.kept HC2.out
    have HIN := Lib.hid hin2
    have HIN' := Lib.hid hin2'
    have HIH := Lib.hid ih
    obtain ⟨an, cn, ak, ck, rfl, rfl, hnl, hnm, hkl, hkm, hkk⟩ := hin2.forms
    obtain ⟨an', cn', ak', ck', rfl, rfl, hnl', hnm', hkl', hkm', hkk'⟩ := hin2'.forms
    obtain ⟨res, hres⟩ : ∃ res, sameN x y = res := ⟨_, rfl⟩
    have HRES := Lib.hid hres
    have hcn : cn ≤ 9223372036854775807 := by unfold maxLen at hnm; omega
    have hcn' : cn' ≤ 9223372036854775807 := by unfold maxLen at hnm'; omega
    have hck : ck ≤ 9223372036854775807 := by unfold maxLen at hkm; omega
    have hck' : ck' ≤ 9223372036854775807 := by unfold maxLen at hkm'; omega
    have HKK := Lib.hid hkk
    have HKK' := Lib.hid hkk'
    unfold ndBox at HBX HBY hw1 hw2
    unfold ndV
    rw [hres]
    obtain ⟨ln, hln⟩ : ∃ ln, x.names.length = ln := ⟨_, rfl⟩
    obtain ⟨ln', hln'⟩ : ∃ ln, y.names.length = ln := ⟨_, rfl⟩
    obtain ⟨n, hn⟩ : ∃ n, x.kids.length = n := ⟨_, rfl⟩
    obtain ⟨n', hn'⟩ : ∃ n, y.kids.length = n := ⟨_, rfl⟩
    have HSX := Lib.hid hin2.names
    have HSY := Lib.hid hin2'.names
    have HLN := Lib.hid hln
    have HLN' := Lib.hid hln'
    have HN := Lib.hid hn
    have HN' := Lib.hid hn'
    rw [hln, hn] at HBX hw1 ⊢
    rw [hln', hn'] at HBY hw2 ⊢
    rw [hln] at hnl HSX
    rw [hln'] at hnl' HSY
    rw [hn] at hkl
    rw [hn'] at hkl'
    have a0 := cell_of HBX.out 0
    have a1 := cell_of HBX.out 1
    have a2 := cell_of HBX.out 2
    have a3 := cell_of HBX.out 3
    have a4 := cell_of HBX.out 4
    have b0 := cell_of HBY.out 0
    have b1 := cell_of HBY.out 1
    have b2 := cell_of HBY.out 2
    have b3 := cell_of HBY.out 3
    have b4 := cell_of HBY.out 4
    clear hin hin' hC1 hC2 hin2 hin2' hnm hkm hkk hnm' hkm' hkk' ih hres hln hln' hn hn' HIN HIN'
    go_enter Tryz.func26, Tryz.ntmps26
    by_cases ek : x.kind = y.kind
    case neg =>
      have ek2 : ¬ (x.kind : Int) = (y.kind : Int) := by omega
      have ek3 : ((x.kind : Int) == (y.kind : Int)) = false := beq_eq_false_iff_ne.2 ek2
      have ek4 : ((x.kind : Int) != (y.kind : Int)) = true := bne_iff_ne.2 ek2
      obtain rfl : res = false := by rw [← HRES.out]; exact sameN_false (fun e => ek (by rw [e]))
      go_wp2_with fail
      go_ret
      exact ⟨rfl, HC2.out⟩
    have ek3 : ((x.kind : Int) == (y.kind : Int)) = true := by rw [ek]; exact beq_self_eq_true _
    have ek4 : ((x.kind : Int) != (y.kind : Int)) = false := by rw [ek]; exact bne_self_eq_false _
    have EK := Lib.hid ek
    clear ek
    by_cases en : x.n = y.n
    case neg =>
      have en3 : (x.n == y.n) = false := beq_eq_false_iff_ne.2 en
      have en4 : (x.n != y.n) = true := bne_iff_ne.2 en
      obtain rfl : res = false := by rw [← HRES.out]; exact sameN_false (fun e => en (by rw [e]))
      go_wp2_with fail
      go_ret
      exact ⟨rfl, HC2.out⟩
    have en3 : (x.n == y.n) = true := by rw [en]; exact beq_self_eq_true _
    have en4 : (x.n != y.n) = false := by rw [en]; exact bne_self_eq_false _
    have EN := Lib.hid en
    clear en
    by_cases et : x.text = y.text
    case neg =>
      have et3 : (x.text.toList == y.text.toList) = false := toList_no et
      have et4 : (x.text.toList != y.text.toList) = true := by rw [bne, et3]; rfl
      obtain rfl : res = false := by rw [← HRES.out]; exact sameN_false (fun e => et (by rw [e]))
      go_wp2_with fail
      go_ret
      exact ⟨rfl, HC2.out⟩
    have et3 : (x.text.toList == y.text.toList) = true := by rw [et]; exact beq_self_eq_true _
    have et4 : (x.text.toList != y.text.toList) = false := by rw [et]; exact bne_self_eq_false _
    have ET := Lib.hid et
    clear et
    by_cases el : ln = ln'
    case neg =>
      have el2 : ¬ (ln : Int) = (ln' : Int) := by omega
      have el3 : ((ln : Int) == (ln' : Int)) = false := beq_eq_false_iff_ne.2 el2
      have el4 : ((ln : Int) != (ln' : Int)) = true := bne_iff_ne.2 el2
      obtain rfl : res = false := by rw [← HRES.out]; exact sameN_false (fun e => el (by rw [← HLN.out, ← HLN'.out, e]))
      go_wp2_with fail
      go_ret
      exact ⟨rfl, HC2.out⟩
    subst el
    by_cases em : n = n'
    case neg =>
      have el2 : ¬ (n : Int) = (n' : Int) := by omega
      have el3 : ((n : Int) == (n' : Int)) = false := beq_eq_false_iff_ne.2 el2
      have el4 : ((n : Int) != (n' : Int)) = true := bne_iff_ne.2 el2
      obtain rfl : res = false := by rw [← HRES.out]; exact sameN_false (fun e => em (by rw [← HN.out, ← HN'.out, e]))
      go_wp2_with fail
      go_ret
      exact ⟨rfl, HC2.out⟩
    subst em
    go_wp2_with fail
    go_loopg [47] (ln + 1) (fun g vi wr => ∃ (j : Nat), vi = .int .i64 j ∧ j ≤ ln ∧ ln < g + j ∧ Hid (x.names.take j = y.names.take j) ∧ Hid (Chg (fun _ => False) w2 wr))
    case atStart => exact ⟨0, rfl, by omega, by omega, Lib.hid rfl, Lib.hid (Chg.refl _ _)⟩
    case round =>
      obtain ⟨j, rfl, hj, hg, hT, hC⟩ := hrel
      have hbx := hC.out.blk HBX.out (fun e => e)
      have hby := hC.out.blk HBY.out (fun e => e)
      have e3 := cell_of hbx 3
      have e4 := cell_of hbx 4
      have f3 := cell_of hby 3
      have f4 := cell_of hby 4
      clear hbx hby
      by_cases hlt : j < ln
      · obtain ⟨gk', rfl⟩ : ∃ q, gk = q + 1 := ⟨gk - 1, by omega⟩
        obtain ⟨s, hs⟩ : ∃ s, x.names[j]? = some s := ⟨_, List.getElem?_eq_getElem (by rw [HLN.out]; exact hlt)⟩
        obtain ⟨t, ht⟩ : ∃ t, y.names[j]? = some t := ⟨_, List.getElem?_eq_getElem (by rw [HLN'.out]; exact hlt)⟩
        obtain ⟨p1, p2, p3, _, _, p4⟩ := HSX.out.kept hC.out
        simp only [Value.slice.injEq] at p3
        obtain ⟨rfl, _, rfl⟩ := p3
        obtain ⟨q1, q2, q3, _, _, q4⟩ := HSY.out.kept hC.out
        simp only [Value.slice.injEq] at q3
        obtain ⟨rfl, _, rfl⟩ := q3
        obtain ⟨b, off, rfl, _, cs⟩ := p4 j s hs
        obtain ⟨b2, off2, rfl, _, ct⟩ := q4 j t ht
        have j0 : (0 : Int) ≤ (j : Int) := by omega
        have j1 : (j : Int) < (ln : Int) := by omega
        clear p4 q4
        by_cases hst : s = t
        · have HT2 : Hid (x.names.take (j + 1) = y.names.take (j + 1)) := Lib.hid (by rw [List.take_add_one, List.take_add_one, hs, ht, hst, hT.out])
          have hb : (s.toList == t.toList) = true := by rw [hst]; exact beq_self_eq_true _
          have hb2 : (s.toList != t.toList) = false := by rw [hst]; exact bne_self_eq_false _
          clear hs ht
          go_wp2_with fail
          go_quiet (fail)
          go_wp2_with fail
          go_roundg gk'
          case measure => omega
          case rel => exact ⟨j + 1, by go_num, by omega, by omega, HT2, Lib.hid (hC.out.drewN _)⟩
        · have hb : (s.toList == t.toList) = false := toList_no hst
          have hb2 : (s.toList != t.toList) = true := by rw [bne, hb]; rfl
          obtain rfl : res = false := by
            rw [← HRES.out]
            exact sameN_false (fun e => hst (by rw [e] at hs; rw [hs] at ht; exact Option.some.inj ht))
          clear hs ht
          go_wp2_with fail
          go_quiet (fail)
          go_wp2_with fail
          go_ret
          exact ⟨rfl, (HC2.out.trans hC.out).drewN _⟩
      · obtain rfl : j = ln := by omega
        have hkk : ¬ ((j : Nat) : Int) < ((j : Nat) : Int) := by omega
        have EM : Hid (x.names = y.names) := Lib.hid (by
          have h1 : x.names.take j = x.names := List.take_of_length_le (by rw [HLN.out]; exact Nat.le_refl _)
          have h2 : y.names.take j = y.names := List.take_of_length_le (by rw [HLN'.out]; exact Nat.le_refl _)
          rw [← h1, ← h2]; exact hT.out)
        clear hT hlt hj hg
        go_wp2_with fail
        go_loopg [65] (n + 1) (fun g vi wr => ∃ (j : Nat), vi = .int .i64 j ∧ j ≤ n ∧ n < g + j ∧ Hid (x.kids.take j = y.kids.take j) ∧ Hid (Chg (fun _ => False) w2 wr))
        case atStart => exact ⟨0, rfl, by omega, by omega, Lib.hid rfl, hC⟩
        case round =>
          clear hC e3 e4 f3 f4
          obtain ⟨j, rfl, hj, hg, hT, hC⟩ := hrel
          have hbx := hC.out.blk HBX.out (fun e => e)
          have hby := hC.out.blk HBY.out (fun e => e)
          have e4 := cell_of hbx 4
          have f4 := cell_of hby 4
          clear hbx hby
          by_cases hlt : j < n
          · obtain ⟨gk', rfl⟩ : ∃ q, gk = q + 1 := ⟨gk - 1, by omega⟩
            obtain ⟨b, off, nu, ku, u, rfl, hu, hum, k0, k1, k2, k3, k4, huin⟩ := kid_cells (HKK.out.kept hC.out) j (by rw [HN.out]; exact hlt)
            obtain ⟨b', off', nv, kv, v, rfl, hv, hvm, q0, q1, q2, q3, q4, hvin⟩ := kid_cells (HKK'.out.kept hC.out) j (by rw [HN'.out]; exact hlt)
            have HUI := Lib.hid huin
            have HVI := Lib.hid hvin
            have HSU := Lib.hid (fun W (hW : Chg (fun _ => False) w2 W) => HIH.out u hum v nu ku nv kv W ((show NdIn w2 nu ku u by
              obtain ⟨b1, o1, n1, l1, e1, e2, c0, c1, c2, c3, c5, h5⟩ := HKK.out.at_ j u hu
              have ee : b = b1 ∧ off = o1 := by simpa using e1
              obtain ⟨rfl, rfl⟩ := ee
              rw [Nat.zero_add] at c3 c5
              have d3 := hC.out.cell c3 (fun e => e)
              have d5 := hC.out.cell c5 (fun e => e)
              rw [k3] at d3
              rw [k4] at d5
              obtain rfl := Option.some.inj d3
              obtain rfl := Option.some.inj d5
              exact h5).kept hW) ((show NdIn w2 nv kv v by
              obtain ⟨b1, o1, n1, l1, e1, e2, c0, c1, c2, c3, c5, h5⟩ := HKK'.out.at_ j v hv
              have ee : b' = b1 ∧ off' = o1 := by simpa using e1
              obtain ⟨rfl, rfl⟩ := ee
              rw [Nat.zero_add] at c3 c5
              have d3 := hC.out.cell c3 (fun e => e)
              have d5 := hC.out.cell c5 (fun e => e)
              rw [q3] at d3
              rw [q4] at d5
              obtain rfl := Option.some.inj d3
              obtain rfl := Option.some.inj d5
              exact h5).kept hW))
            obtain ⟨au, cu, eu, du, rfl, rfl, _⟩ := huin.forms
            obtain ⟨av, cv, ev, dv, rfl, rfl, _⟩ := hvin.forms
            have j0 : (0 : Int) ≤ (j : Int) := by omega
            have j1 : (j : Int) < (n : Int) := by omega
            have j2 : j < n := hlt
            have HU := Lib.hid hu
            have HV := Lib.hid hv
            unfold ndV at HSU
            clear hu hv hum hvm huin hvin HUI HVI hlt
            by_cases hst : u = v
            · simp only [sameN_true hst] at HSU
              have HT2 : Hid (x.kids.take (j + 1) = y.kids.take (j + 1)) := Lib.hid (by rw [List.take_add_one, List.take_add_one, HU.out, HV.out, hst, hT.out])
              clear hst
              go_wp2_with fail
              refine wp_region_T (S := fun W => W.cell? ⟨w.heap.size, 4, none⟩ = some (.slice (some ⟨b, off, none⟩) n ck) ∧ W.cell? ⟨w1.heap.size, 4, none⟩ = some (.slice (some ⟨b', off', none⟩) n ck') ∧ W.cell? ⟨b, off + j * 5, none⟩ = some (.int .u8 u.kind) ∧ W.cell? ⟨b, off + j * 5 + 1, none⟩ = some (.int .i64 u.n) ∧ W.cell? ⟨b, off + j * 5 + 2, none⟩ = some (.string u.text) ∧ W.cell? ⟨b, off + j * 5 + 3, none⟩ = some (.slice au u.names.length cu) ∧ W.cell? ⟨b, off + j * 5 + 4, none⟩ = some (.slice eu u.kids.length du) ∧ W.cell? ⟨b', off' + j * 5, none⟩ = some (.int .u8 v.kind) ∧ W.cell? ⟨b', off' + j * 5 + 1, none⟩ = some (.int .i64 v.n) ∧ W.cell? ⟨b', off' + j * 5 + 2, none⟩ = some (.string v.text) ∧ W.cell? ⟨b', off' + j * 5 + 3, none⟩ = some (.slice av v.names.length cv) ∧ W.cell? ⟨b', off' + j * 5 + 4, none⟩ = some (.slice ev v.kids.length dv)) 10 2 rfl (by kernel_rfl) ?_ (fun hHeld => ?_)
              · exact ⟨by assumption, by assumption, by assumption, by assumption, by assumption, by assumption, by assumption, by assumption, by assumption, by assumption, by assumption, by assumption⟩
              refine wpAnyT_take (i := 0) (v := ?tv1) rfl (by kernel_rfl) (by decide) (by kernel_rfl) (by kernel_rfl) (fun _ _ _ h => h) (Or.inl ⟨by rfl, ?ty1⟩) (by assumption) ?tr1
              case ty1 => intro w hSw; (try dsimp only at hSw); go_simp; (try with_reducible rfl)
              try simp only [Act.put, List.setIfInBounds_toArray, List.set_cons_zero, List.set_cons_succ, List.getElem_toArray, List.getElem_cons_zero, List.getElem_cons_succ, Nat.zero_add]
              refine wpAnyT_take (i := 1) (v := ?tv2) rfl (by kernel_rfl) (by decide) (by kernel_rfl) (by kernel_rfl) (fun _ _ _ h => h) (Or.inl ⟨by rfl, ?ty2⟩) (by assumption) ?tr2
              case ty2 => intro w hSw; (try dsimp only at hSw); go_simp; (try with_reducible rfl)
              try simp only [Act.put, List.setIfInBounds_toArray, List.set_cons_zero, List.set_cons_succ, List.getElem_toArray, List.getElem_cons_zero, List.getElem_cons_succ, Nat.zero_add]
              refine wpAnyT_take (i := 2) (v := ?tv3) rfl (by kernel_rfl) (by decide) (by kernel_rfl) (by kernel_rfl) (fun _ _ _ h => h) (Or.inl ⟨by rfl, ?ty3⟩) (by assumption) ?tr3
              case ty3 => intro w hSw; (try dsimp only at hSw); go_simp; (try with_reducible rfl)
              try simp only [Act.put, List.setIfInBounds_toArray, List.set_cons_zero, List.set_cons_succ, List.getElem_toArray, List.getElem_cons_zero, List.getElem_cons_succ, Nat.zero_add]
              refine wpAnyT_take (i := 3) (v := ?tv4) rfl (by kernel_rfl) (by decide) (by kernel_rfl) (by kernel_rfl) (fun _ _ _ h => h) (Or.inl ⟨by rfl, ?ty4⟩) (by assumption) ?tr4
              case ty4 => intro w hSw; (try dsimp only at hSw); go_simp; (try with_reducible rfl)
              try simp only [Act.put, List.setIfInBounds_toArray, List.set_cons_zero, List.set_cons_succ, List.getElem_toArray, List.getElem_cons_zero, List.getElem_cons_succ, Nat.zero_add]
              refine wpAnyT_take (i := 4) (v := ?tv5) rfl (by kernel_rfl) (by decide) (by kernel_rfl) (by kernel_rfl) (fun _ _ _ h => h) (Or.inl ⟨by rfl, ?ty5⟩) (by assumption) ?tr5
              case ty5 => intro w hSw; (try dsimp only at hSw); go_simp; (try with_reducible rfl)
              try simp only [Act.put, List.setIfInBounds_toArray, List.set_cons_zero, List.set_cons_succ, List.getElem_toArray, List.getElem_cons_zero, List.getElem_cons_succ, Nat.zero_add]
              refine wpAnyT_take (i := 5) (v := ?tv6) rfl (by kernel_rfl) (by decide) (by kernel_rfl) (by kernel_rfl) (fun _ _ _ h => h) (Or.inl ⟨by rfl, ?ty6⟩) (by assumption) ?tr6
              case ty6 => intro w hSw; (try dsimp only at hSw); go_simp; (try with_reducible rfl)
              try simp only [Act.put, List.setIfInBounds_toArray, List.set_cons_zero, List.set_cons_succ, List.getElem_toArray, List.getElem_cons_zero, List.getElem_cons_succ, Nat.zero_add]
              refine wpAnyT_take (i := 6) (v := ?tv7) rfl (by kernel_rfl) (by decide) (by kernel_rfl) (by kernel_rfl) (fun _ _ _ h => h) (Or.inl ⟨by rfl, ?ty7⟩) (by assumption) ?tr7
              case ty7 => intro w hSw; (try dsimp only at hSw); go_simp; (try with_reducible rfl)
              try simp only [Act.put, List.setIfInBounds_toArray, List.set_cons_zero, List.set_cons_succ, List.getElem_toArray, List.getElem_cons_zero, List.getElem_cons_succ, Nat.zero_add]
              refine wpAnyT_take (i := 7) (v := ?tv8) rfl (by kernel_rfl) (by decide) (by kernel_rfl) (by kernel_rfl) (fun _ _ _ h => h) (Or.inl ⟨by rfl, ?ty8⟩) (by assumption) ?tr8
              case ty8 => intro w hSw; (try dsimp only at hSw); go_simp; (try with_reducible rfl)
              try simp only [Act.put, List.setIfInBounds_toArray, List.set_cons_zero, List.set_cons_succ, List.getElem_toArray, List.getElem_cons_zero, List.getElem_cons_succ, Nat.zero_add]
              refine wpAnyT_take (i := 8) (v := ?tv9) rfl (by kernel_rfl) (by decide) (by kernel_rfl) (by kernel_rfl) (fun _ _ _ h => h) (Or.inl ⟨by rfl, ?ty9⟩) (by assumption) ?tr9
              case ty9 => intro w hSw; (try dsimp only at hSw); go_simp; (try with_reducible rfl)
              try simp only [Act.put, List.setIfInBounds_toArray, List.set_cons_zero, List.set_cons_succ, List.getElem_toArray, List.getElem_cons_zero, List.getElem_cons_succ, Nat.zero_add]
              refine wpAnyT_take (i := 9) (v := ?tv10) rfl (by kernel_rfl) (by decide) (by kernel_rfl) (by kernel_rfl) (fun _ _ _ h => h) (Or.inl ⟨by rfl, ?ty10⟩) (by assumption) ?tr10
              case ty10 => intro w hSw; (try dsimp only at hSw); go_simp; (try with_reducible rfl)
              try simp only [Act.put, List.setIfInBounds_toArray, List.set_cons_zero, List.set_cons_succ, List.getElem_toArray, List.getElem_cons_zero, List.getElem_cons_succ, Nat.zero_add]
              refine wpAnyT_done (by kernel_rfl) ?_
              simp only [List.drop_succ_cons, List.drop_zero]
              have HCD := Lib.hid (hC.out.drew)
              have HCL := Lib.hid (HSU.out _ HCD.out)
              go_wp2_with fail
              refine HCL.out.mono ?_
              rintro e w4 ⟨rfl, hC4⟩
              have HC4 := Lib.hid (HCD.out.trans hC4)
              clear hC4 HCL
              go_wp2_with fail
              go_roundg gk'
              case measure => omega
              case rel => exact ⟨j + 1, by go_num, by omega, by omega, HT2, HC4⟩
            · simp only [sameN_false hst] at HSU
              obtain rfl : res = false := by
                rw [← HRES.out]
                exact sameN_false (fun e => hst (by have h1 := HU.out; rw [e, HV.out] at h1; exact (Option.some.inj h1).symm))
              clear hst
              go_wp2_with fail
              refine wp_region_T (S := fun W => W.cell? ⟨w.heap.size, 4, none⟩ = some (.slice (some ⟨b, off, none⟩) n ck) ∧ W.cell? ⟨w1.heap.size, 4, none⟩ = some (.slice (some ⟨b', off', none⟩) n ck') ∧ W.cell? ⟨b, off + j * 5, none⟩ = some (.int .u8 u.kind) ∧ W.cell? ⟨b, off + j * 5 + 1, none⟩ = some (.int .i64 u.n) ∧ W.cell? ⟨b, off + j * 5 + 2, none⟩ = some (.string u.text) ∧ W.cell? ⟨b, off + j * 5 + 3, none⟩ = some (.slice au u.names.length cu) ∧ W.cell? ⟨b, off + j * 5 + 4, none⟩ = some (.slice eu u.kids.length du) ∧ W.cell? ⟨b', off' + j * 5, none⟩ = some (.int .u8 v.kind) ∧ W.cell? ⟨b', off' + j * 5 + 1, none⟩ = some (.int .i64 v.n) ∧ W.cell? ⟨b', off' + j * 5 + 2, none⟩ = some (.string v.text) ∧ W.cell? ⟨b', off' + j * 5 + 3, none⟩ = some (.slice av v.names.length cv) ∧ W.cell? ⟨b', off' + j * 5 + 4, none⟩ = some (.slice ev v.kids.length dv)) 10 2 rfl (by kernel_rfl) ?_ (fun hHeld => ?_)
              · exact ⟨by assumption, by assumption, by assumption, by assumption, by assumption, by assumption, by assumption, by assumption, by assumption, by assumption, by assumption, by assumption⟩
              refine wpAnyT_take (i := 0) (v := ?tv11) rfl (by kernel_rfl) (by decide) (by kernel_rfl) (by kernel_rfl) (fun _ _ _ h => h) (Or.inl ⟨by rfl, ?ty11⟩) (by assumption) ?tr11
              case ty11 => intro w hSw; (try dsimp only at hSw); go_simp; (try with_reducible rfl)
              try simp only [Act.put, List.setIfInBounds_toArray, List.set_cons_zero, List.set_cons_succ, List.getElem_toArray, List.getElem_cons_zero, List.getElem_cons_succ, Nat.zero_add]
              refine wpAnyT_take (i := 1) (v := ?tv12) rfl (by kernel_rfl) (by decide) (by kernel_rfl) (by kernel_rfl) (fun _ _ _ h => h) (Or.inl ⟨by rfl, ?ty12⟩) (by assumption) ?tr12
              case ty12 => intro w hSw; (try dsimp only at hSw); go_simp; (try with_reducible rfl)
              try simp only [Act.put, List.setIfInBounds_toArray, List.set_cons_zero, List.set_cons_succ, List.getElem_toArray, List.getElem_cons_zero, List.getElem_cons_succ, Nat.zero_add]
              refine wpAnyT_take (i := 2) (v := ?tv13) rfl (by kernel_rfl) (by decide) (by kernel_rfl) (by kernel_rfl) (fun _ _ _ h => h) (Or.inl ⟨by rfl, ?ty13⟩) (by assumption) ?tr13
              case ty13 => intro w hSw; (try dsimp only at hSw); go_simp; (try with_reducible rfl)
              try simp only [Act.put, List.setIfInBounds_toArray, List.set_cons_zero, List.set_cons_succ, List.getElem_toArray, List.getElem_cons_zero, List.getElem_cons_succ, Nat.zero_add]
              refine wpAnyT_take (i := 3) (v := ?tv14) rfl (by kernel_rfl) (by decide) (by kernel_rfl) (by kernel_rfl) (fun _ _ _ h => h) (Or.inl ⟨by rfl, ?ty14⟩) (by assumption) ?tr14
              case ty14 => intro w hSw; (try dsimp only at hSw); go_simp; (try with_reducible rfl)
              try simp only [Act.put, List.setIfInBounds_toArray, List.set_cons_zero, List.set_cons_succ, List.getElem_toArray, List.getElem_cons_zero, List.getElem_cons_succ, Nat.zero_add]
              refine wpAnyT_take (i := 4) (v := ?tv15) rfl (by kernel_rfl) (by decide) (by kernel_rfl) (by kernel_rfl) (fun _ _ _ h => h) (Or.inl ⟨by rfl, ?ty15⟩) (by assumption) ?tr15
              case ty15 => intro w hSw; (try dsimp only at hSw); go_simp; (try with_reducible rfl)
              try simp only [Act.put, List.setIfInBounds_toArray, List.set_cons_zero, List.set_cons_succ, List.getElem_toArray, List.getElem_cons_zero, List.getElem_cons_succ, Nat.zero_add]
              refine wpAnyT_take (i := 5) (v := ?tv16) rfl (by kernel_rfl) (by decide) (by kernel_rfl) (by kernel_rfl) (fun _ _ _ h => h) (Or.inl ⟨by rfl, ?ty16⟩) (by assumption) ?tr16
              case ty16 => intro w hSw; (try dsimp only at hSw); go_simp; (try with_reducible rfl)
              try simp only [Act.put, List.setIfInBounds_toArray, List.set_cons_zero, List.set_cons_succ, List.getElem_toArray, List.getElem_cons_zero, List.getElem_cons_succ, Nat.zero_add]
              refine wpAnyT_take (i := 6) (v := ?tv17) rfl (by kernel_rfl) (by decide) (by kernel_rfl) (by kernel_rfl) (fun _ _ _ h => h) (Or.inl ⟨by rfl, ?ty17⟩) (by assumption) ?tr17
              case ty17 => intro w hSw; (try dsimp only at hSw); go_simp; (try with_reducible rfl)
              try simp only [Act.put, List.setIfInBounds_toArray, List.set_cons_zero, List.set_cons_succ, List.getElem_toArray, List.getElem_cons_zero, List.getElem_cons_succ, Nat.zero_add]
              refine wpAnyT_take (i := 7) (v := ?tv18) rfl (by kernel_rfl) (by decide) (by kernel_rfl) (by kernel_rfl) (fun _ _ _ h => h) (Or.inl ⟨by rfl, ?ty18⟩) (by assumption) ?tr18
              case ty18 => intro w hSw; (try dsimp only at hSw); go_simp; (try with_reducible rfl)
              try simp only [Act.put, List.setIfInBounds_toArray, List.set_cons_zero, List.set_cons_succ, List.getElem_toArray, List.getElem_cons_zero, List.getElem_cons_succ, Nat.zero_add]
              refine wpAnyT_take (i := 8) (v := ?tv19) rfl (by kernel_rfl) (by decide) (by kernel_rfl) (by kernel_rfl) (fun _ _ _ h => h) (Or.inl ⟨by rfl, ?ty19⟩) (by assumption) ?tr19
              case ty19 => intro w hSw; (try dsimp only at hSw); go_simp; (try with_reducible rfl)
              try simp only [Act.put, List.setIfInBounds_toArray, List.set_cons_zero, List.set_cons_succ, List.getElem_toArray, List.getElem_cons_zero, List.getElem_cons_succ, Nat.zero_add]
              refine wpAnyT_take (i := 9) (v := ?tv20) rfl (by kernel_rfl) (by decide) (by kernel_rfl) (by kernel_rfl) (fun _ _ _ h => h) (Or.inl ⟨by rfl, ?ty20⟩) (by assumption) ?tr20
              case ty20 => intro w hSw; (try dsimp only at hSw); go_simp; (try with_reducible rfl)
              try simp only [Act.put, List.setIfInBounds_toArray, List.set_cons_zero, List.set_cons_succ, List.getElem_toArray, List.getElem_cons_zero, List.getElem_cons_succ, Nat.zero_add]
              refine wpAnyT_done (by kernel_rfl) ?_
              simp only [List.drop_succ_cons, List.drop_zero]
              have HCD := Lib.hid (hC.out.drew)
              have HCL := Lib.hid (HSU.out _ HCD.out)
              go_wp2_with fail
              refine HCL.out.mono ?_
              rintro e w4 ⟨rfl, hC4⟩
              have HC4 := Lib.hid (HCD.out.trans hC4)
              clear hC4 HCL
              go_wp2_with fail
              go_ret
              exact ⟨rfl, HC2.out.trans HC4.out⟩
          · obtain rfl : j = n := by omega
            have hkk : ¬ ((j : Nat) : Int) < ((j : Nat) : Int) := by omega
            obtain rfl : res = true := by
              rw [← HRES.out]
              have h1 : x.kids.take j = x.kids := List.take_of_length_le (by rw [HN.out]; exact Nat.le_refl _)
              have h2 : y.kids.take j = y.kids := List.take_of_length_le (by rw [HN'.out]; exact Nat.le_refl _)
              exact sameN_true (nd_eq EK.out EN.out ET.out EM.out (by rw [← h1, ← h2]; exact hT.out))
            go_wp2_with fail
            go_ret
            exact ⟨rfl, HC2.out.trans hC.out⟩
end Go.Proofs.YtaklmocjaokkpaaGreatDoor.Tr
