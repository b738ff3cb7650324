/- Each part of a node that may be may be by itself, a clause apart; in a do, too: the statement, walked. Condition: a node of weight at most 2^20; what XTreeText's functions want of the library's variables. -/
import Derived.Test.YtaklmocjaokkpaaGreatDoorTreeAwake
import Derived.Test.YtaklmocjaokkpaaGreatDoorTreeGreat
import Derived.Test.YtaklmocjaokkpaaGreatDoorTreeRMay
import Derived.Test.YtaklmocjaokkpaaGreatDoorTreeArg
namespace Go.Proofs.YtaklmocjaokkpaaGreatDoor.Tr
set_option linter.unusedVariables false
set_option linter.unusedSimpArgs false
open Go.RowKit Go.Shelf Go.Proofs.YtaklmocjaokkpaaGreatDoor.Mem

theorem head_less {deep k : Nat} {n : Int} {t : ByteArray} {ns : List ByteArray} {ks : List Nd} (h : headB (deep + 1) k n t ns ks = true) : headB deep k n t ns ks = true := by
  unfold headB at h ⊢
  cases hs : shapeOf k with
  | none => rw [hs] at h; cases h
  | some q =>
    obtain ⟨many, least, most⟩ := q
    rw [hs] at h
    by_cases hd : deep + 1 ≤ 60
    · rw [decide_eq_true hd] at h
      simp only [decide_eq_true (show deep ≤ 60 by omega)]
      exact h
    · rw [decide_eq_false hd] at h
      simp at h
theorem right_less : ∀ (x : Nd) (deep : Nat), rightB x (deep + 1) = true → rightB x deep = true := by
  intro x
  induction x using Nd.ind with
  | h x ih =>
    intro deep h
    rw [rightB_is, Bool.and_eq_true, kidsB_all, List.all_eq_true] at h ⊢
    exact ⟨head_less h.1, fun y hy => ih y hy (deep + 1) (h.2 y hy)⟩
theorem kid_may {x y : Nd} (h : mayB x = true) (hy : y ∈ x.kids) : mayB y = decide (y.kind ≤ 16) := by
  unfold mayB at h ⊢
  simp only [Bool.and_eq_true, decide_eq_true_eq] at h
  have h1 := right_less y 1 (right_kid h.1.2 y hy)
  have h2 := size_mem hy
  have h3 := h.2
  rw [sizeN_is] at h3
  have e : decide (y.kind < 17) = decide (y.kind ≤ 16) := by congr 1; apply propext; omega
  rw [h1, decide_eq_true (show sizeN y ≤ 4000 by omega), e]
  simp
/-- A node in a do, a unit behind it. -/
def doN (x : Nd) : Nd := .mk 10 0 ⟨#[]⟩ [] [x, .mk 4 0 ⟨#[]⟩ [] []]
theorem doN_size (x : Nd) : sizeN (doN x) = sizeN x + 2 := by
  unfold doN
  simp only [sizeN, sizesN]
  omega
theorem unit_fine : Fine (.mk 4 0 ⟨#[]⟩ [] []) ∧ Small (.mk 4 0 ⟨#[]⟩ [] []) :=
  ⟨Fine.mk' (show (0 : Nat) ≤ 1048576 by omega) (fun s h => by cases h) (Nat.zero_le _) (Nat.zero_le _) (Fines.mk fun y h => by cases h), Small.mk' (show (0 : Nat) ≤ 1048576 by omega) (Nat.zero_le _) (Smalls.mk fun y h => by cases h)⟩
theorem doN_fine {x : Nd} (h : Fine x) (h2 : Small x) : Fine (doN x) ∧ Small (doN x) := by
  have hm : ∀ y ∈ (doN x).kids, Fine y ∧ Small y := fun y hy => by
    have : y = x ∨ y = .mk 4 0 ⟨#[]⟩ [] [] := by simpa [doN, Nd.kids] using hy
    rcases this with rfl | rfl
    · exact ⟨h, h2⟩
    · exact unit_fine
  exact ⟨Fine.mk' (show (0 : Nat) ≤ 1048576 by omega) (fun s h => by cases h) (Nat.zero_le _) (show (2 : Nat) ≤ 1048576 by omega) (Fines.mk fun y hy => (hm y hy).1), Small.mk' (show (0 : Nat) ≤ 1048576 by omega) (show (2 : Nat) ≤ 1048576 by omega) (Smalls.mk fun y hy => (hm y hy).2)⟩
set_option maxRecDepth 100000 in
set_option maxHeartbeats 3000000 in
theorem treeKids_calls (x : Nd) (nv kv : Value) (w : World) (h : NdIn w nv kv x) (hwt : wt x ≤ 1048576) (hg : Gm w) :
    Calls Tryz.prog 8 #[ndV x nv kv] w fun e w' => e = .returned (.bool true) ∧ Chg (fun _ => False) w w' := by
  obtain ⟨hfi, hsm⟩ := fine_wt x hwt
  have hsz := size_wt x
  have HA := Lib.hid (fun W (hW : Chg (fun _ => False) w W) => awake_calls W (hg.later hW))
  obtain ⟨w1, hw1⟩ : ∃ w1, w.alloc (ndBox x nv kv) = w1 := ⟨_, rfl⟩
  have hC1 : Chg (fun _ => False) w w1 := by rw [← hw1]; exact (Chg.refl _ w).alloc _
  have hb : w1.heap[w.heap.size]? = some (ndBox x nv kv) := by rw [← hw1]; exact blk_new w _
  have HB := Lib.hid hb
  have HC1 := Lib.hid hC1
  have HGR := Lib.hid (great_calls x nv kv 0 w1 (h.kept hC1) (by omega) (by omega))
  have HRM := Lib.hid (fun W (hW : Chg (fun _ => False) w W) => rmay_calls x nv kv W (h.kept hW) hfi (by omega))
  have HSN := Lib.hid (fun W (hW : Chg (fun _ => False) w W) => tsize_calls x nv kv W (h.kept hW) (by omega))
  have HKM : Hid (∀ y ∈ x.kids, ∀ nv' kv' W, NdIn W nv' kv' y → Chg (fun _ => False) w W → mayB x = true → Calls Tryz.prog 22 #[ndV y nv' kv'] W fun e w' => e = .returned (.bool (decide (y.kind ≤ 16))) ∧ Chg (fun _ => False) W w') := Lib.hid fun y hy nv' kv' W hin hW hm => by
    have := may_calls y nv' kv' W hin (hg.later hW) (hsm.kid y hy)
    rw [kid_may hm hy] at this
    exact this
  obtain ⟨hdf, hds⟩ := doN_fine hfi hsm
  have HIN := Lib.hid h
  have HMD := Lib.hid (fun kvd W (hin : NdIn W (.slice none 0 0) kvd (doN x)) (hW : Chg (fun _ => False) w W) => may_calls (doN x) _ kvd W hin (hg.later hW) hds)
  have HRD := Lib.hid (fun kvd W (hin : NdIn W (.slice none 0 0) kvd (doN x)) => rmay_calls (doN x) _ kvd W hin hdf (by rw [doN_size]; omega))
  have HSD := Lib.hid (fun kvd W (hin : NdIn W (.slice none 0 0) kvd (doN x)) => tsize_calls (doN x) _ kvd W hin (by rw [doN_size]; omega))
  obtain ⟨sz, hsz2⟩ : ∃ sz, sizeN x = sz := ⟨_, rfl⟩
  rw [doN_size] at HSD
  rw [hsz2] at HSD HSN hsz
  obtain ⟨md, hmd⟩ : ∃ md, mayB (doN x) = md := ⟨_, rfl⟩
  rw [hmd] at HMD HRD
  obtain ⟨gr, hgr⟩ : ∃ gr, greatB x 0 = gr := ⟨_, rfl⟩
  rw [hgr] at HGR
  obtain ⟨mb, hmb⟩ : ∃ mb, mayB x = mb := ⟨_, rfl⟩
  rw [hmb] at HRM HKM
  have hkb := h.kind
  obtain ⟨an, cn, ak, ck, rfl, rfl, _, _, hkc, hkm, hk⟩ := h.forms
  have hck2 : ck ≤ 9223372036854775807 := by unfold maxLen at hkm; omega
  have HK := Lib.hid hk
  obtain ⟨n, hn⟩ : ∃ n, x.kids.length = n := ⟨_, rfl⟩
  have HN := Lib.hid hn
  unfold ndBox at HB hw1
  unfold ndV at HGR HRM HSN ⊢
  rw [hn] at HB hw1 HGR HRM HSN HIN hkc
  rw [hn]
  have a0 := cell_of HB.out 0
  have a1 := cell_of HB.out 1
  have a2 := cell_of HB.out 2
  have a3 := cell_of HB.out 3
  have a4 := cell_of HB.out 4
  clear h hg hfi hsm hC1 hb hdf hds hsz2 hmd hgr hmb hk hkm hn
  go_enter Tryz.func8, Tryz.ntmps8
  go_wp2_with fail
  refine HGR.out.mono ?_
  rintro e w2 ⟨rfl, hC2⟩
  have HC2 := Lib.hid (HC1.out.trans hC2)
  have hb2 := hC2.blk HB.out (fun e => e)
  have HB2 := Lib.hid hb2
  clear hC2 HGR a0 a1 a2 a3 a4 hw1
  have a0 := cell_of hb2 0
  have a1 := cell_of hb2 1
  have a2 := cell_of hb2 2
  have a3 := cell_of hb2 3
  have a4 := cell_of hb2 4
  clear hb2
  cases gr with
  | true =>
    go_wp2_with fail
    refine (HA.out _ HC2.out).mono ?_
    rintro e w3 ⟨rfl, hC3⟩
    have HC3 := Lib.hid (HC2.out.trans hC3)
    clear hC3 HA
    go_wp2_with fail
    go_ret
    exact ⟨rfl, HC3.out⟩
  | false =>
    go_wp2_with fail
    refine (HRM.out _ HC2.out).mono ?_
    rintro e w3 ⟨rfl, hC3⟩
    have HC3 := Lib.hid (HC2.out.trans hC3)
    have hb3 := hC3.blk HB2.out (fun e => e)
    have HB3 := Lib.hid hb3
    clear hC3 HRM a0 a1 a2 a3 a4
    have a0 := cell_of hb3 0
    have a1 := cell_of hb3 1
    have a2 := cell_of hb3 2
    have a3 := cell_of hb3 3
    have a4 := cell_of hb3 4
    clear hb3
    cases mb with
    | false =>
      go_wp2_with fail
      refine (HA.out _ HC3.out).mono ?_
      rintro e w4 ⟨rfl, hC4⟩
      have HC4 := Lib.hid (HC3.out.trans hC4)
      clear hC4 HA
      go_wp2_with fail
      go_ret
      exact ⟨rfl, HC4.out⟩
    | true =>
      go_wp2_with fail
      go_loopg [3] (n + 1) (fun g vi wr => ∃ (j : Nat), vi = .int .i64 j ∧ j ≤ n ∧ n < g + j ∧ Hid (Chg (fun _ => False) w3 wr))
      case atStart => exact ⟨0, rfl, by omega, by omega, Lib.hid (Chg.refl _ _)⟩
      case round =>
        obtain ⟨j, rfl, hj, hg, hC⟩ := hrel
        have a0r := hC.out.cell a0 (fun e => e)
        have a1r := hC.out.cell a1 (fun e => e)
        have a2r := hC.out.cell a2 (fun e => e)
        have a3r := hC.out.cell a3 (fun e => e)
        have a4r := hC.out.cell a4 (fun e => e)
        by_cases hlt : j < n
        · obtain ⟨gk', rfl⟩ : ∃ q, gk = q + 1 := ⟨gk - 1, by omega⟩
          obtain ⟨b, off, nv', kv', y, rfl, hy, hym, c0, c1, c2, c3, c4, hin⟩ := kid_cells (HK.out.kept (HC3.out.trans hC.out)) j (by rw [HN.out]; exact hlt)
          have HS := Lib.hid (fun W (hW : Chg (fun _ => False) wr W) => HKM.out y hym nv' kv' W (hin.kept hW) ((HC3.out.trans hC.out).trans hW) (by first | rfl | trivial))
          unfold ndV at HS
          obtain ⟨an', cn', ak', ck', rfl, rfl, _⟩ := hin.forms
          have i0 : (0 : Int) ≤ (j : Int) := by omega
          have i1 : (j : Int) < (n : Int) := by omega
          have hykb := hin.kind
          obtain ⟨yk, hyk⟩ : ∃ yk, y.kind = yk := ⟨_, rfl⟩
          rw [hyk] at c0 hykb HS
          clear hy hym hin hyk
          by_cases kk : yk ≤ 16
          · have k1 : ¬ (16 : Int) < (yk : Int) := by omega
            have k2 : (yk : Int) ≤ 16 := by omega
            rw [decide_eq_true kk] at HS
            clear kk
            go_wp2_with fail
            refine (HS.out _ ((Chg.refl _ wr).alloc _)).mono ?_
            rintro e w4 ⟨rfl, hC4⟩
            have HC4 : Hid (Chg (fun _ => False) w3 w4) := Lib.hid ((hC.out.alloc _).trans hC4)
            clear hC4 HS
            go_wp2_with fail
            go_roundg gk'
            case measure => omega
            case rel => exact ⟨j + 1, by go_num, by omega, by omega, HC4⟩
          · have k1 : (16 : Int) < (yk : Int) := by omega
            have k2 : ¬ (yk : Int) ≤ 16 := by omega
            rw [decide_eq_false kk] at HS
            clear kk
            obtain ⟨w4, hw4⟩ : ∃ w4, wr.alloc (.cells #[.int .u8 yk, .int .i64 y.n, .string y.text, .slice an' y.names.length cn', .slice ak' y.kids.length ck'] 25) = w4 := ⟨_, rfl⟩
            have hC4 : Chg (fun _ => False) wr w4 := by rw [← hw4]; exact (Chg.refl _ wr).alloc _
            have hb4 : w4.heap[wr.heap.size]? = some (.cells #[.int .u8 yk, .int .i64 y.n, .string y.text, .slice an' y.names.length cn', .slice ak' y.kids.length ck'] 25) := by rw [← hw4]; exact blk_new wr _
            have HC4 := Lib.hid hC4
            have HB4 := Lib.hid hb4
            have k10 := cell_of hb4 0
            have k11 := cell_of hb4 1
            have k12 := cell_of hb4 2
            have k13 := cell_of hb4 3
            have k14 := cell_of hb4 4
            clear hC4 hb4
            go_wp2_with fail
            refine (HS.out _ HC4.out).mono ?_
            rintro e w5 ⟨rfl, hC5⟩
            have hb5 := hC5.blk HB4.out (fun e => e)
            have HC5 : Hid (Chg (fun _ => False) w3 w5) := Lib.hid ((hC.out.trans HC4.out).trans hC5)
            clear hC5 HS k10 k11 k12 k13 k14 hw4
            have k10 := cell_of hb5 0
            clear hb5
            go_wp2_with fail
            go_roundg gk'
            case measure => omega
            case rel => exact ⟨j + 1, by go_num, by omega, by omega, HC5⟩
        · obtain rfl : j = n := by omega
          have hkk : ¬ (j : Int) < (j : Int) := by omega
          obtain ⟨tx, htx⟩ : ∃ tx, x.text = tx := ⟨_, rfl⟩
          obtain ⟨nn, hnn⟩ : ∃ nn, x.n = nn := ⟨_, rfl⟩
          obtain ⟨ln, hln⟩ : ∃ ln, x.names.length = ln := ⟨_, rfl⟩
          obtain ⟨z, hz⟩ : ∃ z : Int, (x.kind : Int) = z := ⟨_, rfl⟩
          have hbr := hC.out.blk HB3.out (fun e => e)
          obtain ⟨w4, hw4⟩ : ∃ w4, wr.alloc (.cells #[.int .u8 x.kind, .int .i64 x.n, .string x.text, .slice an x.names.length cn, .slice ak j ck, .int .u8 4, .int .i64 0, .string ⟨#[]⟩, .slice none 0 0, .slice none 0 0] 25) = w4 := ⟨_, rfl⟩
          obtain ⟨w5, hw5⟩ : ∃ w5, w4.alloc (.cells #[.int .u8 10, .int .i64 0, .string ⟨#[]⟩, .slice none 0 0, .slice (some ⟨wr.heap.size, 0, none⟩) 2 2] 25) = w5 := ⟨_, rfl⟩
          have hC4 : Chg (fun _ => False) wr w4 := by rw [← hw4]; exact (Chg.refl _ wr).alloc _
          have hC5 : Chg (fun _ => False) w4 w5 := by rw [← hw5]; exact (Chg.refl _ w4).alloc _
          have hkb5 := hC5.blk (show w4.heap[wr.heap.size]? = _ by rw [← hw4]; exact blk_new wr _) (fun e => e)
          have hdb5 : w5.heap[w4.heap.size]? = some (.cells #[.int .u8 10, .int .i64 0, .string ⟨#[]⟩, .slice none 0 0, .slice (some ⟨wr.heap.size, 0, none⟩) 2 2] 25) := by rw [← hw5]; exact blk_new w4 _
          have hnb5 := (hC4.trans hC5).blk hbr (fun e => e)
          have hC5w := ((HC3.out.trans hC.out).trans hC4).trans hC5
          have hind : NdIn w5 (.slice none 0 0) (.slice (some ⟨wr.heap.size, 0, none⟩) 2 2) (doN x) :=
            node_in w5 10 0 _ _ wr.heap.size 2 rfl (by decide) (by decide) (by decide) (kids_two hkb5 rfl rfl rfl (HIN.out.kept hC5w) rfl rfl rfl (leaf_in w5 4 0 _ (by decide) (by decide)))
          have HCW := Lib.hid hC5w
          have HD1 := Lib.hid (fun W (hW : Chg (fun _ => False) w5 W) => HMD.out _ W (hind.kept hW) (hC5w.trans hW))
          have HD2 := Lib.hid (fun W (hW : Chg (fun _ => False) w5 W) => HRD.out _ W (hind.kept hW))
          have HD3 := Lib.hid (fun W (hW : Chg (fun _ => False) w5 W) => HSD.out _ W (hind.kept hW))
          have HD4 := Lib.hid (fun W (hW : Chg (fun _ => False) w5 W) => HSN.out W (hC5w.trans hW))
          have HD5 := Lib.hid (fun W (hW : Chg (fun _ => False) w5 W) => HA.out W (hC5w.trans hW))
          have HBD : Hid (∀ W, Chg (fun _ => False) w5 W → W.heap[w4.heap.size]? = some (.cells #[.int .u8 10, .int .i64 0, .string ⟨#[]⟩, .slice none 0 0, .slice (some ⟨wr.heap.size, 0, none⟩) 2 2] 25)) := Lib.hid fun W hW => hW.blk hdb5 (fun e => e)
          have HBN : Hid (∀ W, Chg (fun _ => False) w5 W → W.heap[w.heap.size]? = some (.cells #[.int .u8 x.kind, .int .i64 x.n, .string x.text, .slice an x.names.length cn, .slice ak j ck] 25)) := Lib.hid fun W hW => hW.blk hnb5 (fun e => e)
          have HE1 : Hid (∀ W, Chg (fun _ => False) w5 W → Calls Tryz.prog 22 #[.agg #[.int .u8 10, .int .i64 0, .string ⟨#[]⟩, .slice none 0 0, .slice (some ⟨wr.heap.size, 0, none⟩) 2 2]] W fun e w' => e = .returned (.bool md) ∧ Chg (fun _ => False) W w') := HD1
          have HE2 : Hid (∀ W, Chg (fun _ => False) w5 W → Calls Tryz.prog 15 #[.agg #[.int .u8 10, .int .i64 0, .string ⟨#[]⟩, .slice none 0 0, .slice (some ⟨wr.heap.size, 0, none⟩) 2 2]] W fun e w' => e = .returned (.bool md) ∧ Chg (fun _ => False) W w') := HD2
          have hdd : ((sz + 2 : Nat) : Int) = (sz : Int) + 2 := by push_cast; rfl
          rw [hdd] at HD3
          have HE3 : Hid (∀ W, Chg (fun _ => False) w5 W → Calls Tryz.prog 20 #[.agg #[.int .u8 10, .int .i64 0, .string ⟨#[]⟩, .slice none 0 0, .slice (some ⟨wr.heap.size, 0, none⟩) 2 2]] W fun e w' => e = .returned (.int .i64 ((sz : Int) + 2)) ∧ Chg (fun _ => False) W w') := HD3
          have swr : IntKind.i64.wrap ((sz : Int) + 2) = (sz : Int) + 2 := by simp [IntKind.wrap, IntKind.signed, IntKind.bits]; omega
          have d0 := cell_of hdb5 0
          have d1 := cell_of hdb5 1
          have d2 := cell_of hdb5 2
          have d3 := cell_of hdb5 3
          have d4 := cell_of hdb5 4
          have n0 := cell_of hnb5 0
          have n1 := cell_of hnb5 1
          have n2 := cell_of hnb5 2
          have n3 := cell_of hnb5 3
          have n4 := cell_of hnb5 4
          clear HD1 HD2 HD3 htx hnn hln hz hbr hC4 hC5 hkb5 hdb5 hnb5 hC5w hind HMD HRD HSD HSN HA HKM hdd
          go_wp2_with fail
          first
            | go_region_with (first | (go_at_call 22; refine (HE1.out _ (by first | exact hcw | exact (Chg.refl _ w5).drew | exact Chg.refl _ w5)).mono ?_; rintro e wt ⟨rfl, hct⟩; (first | (have hcw := hcw.trans hct) | (have hcw := ((Chg.refl _ w5).drew).trans hct)); have hbD := HBD.out _ hcw; have d0 := cell_of hbD 0; have d1 := cell_of hbD 1; have d2 := cell_of hbD 2; have d3 := cell_of hbD 3; have d4 := cell_of hbD 4; have hbN := HBN.out _ hcw; have n0 := cell_of hbN 0; have n1 := cell_of hbN 1; have n2 := cell_of hbN 2; have n3 := cell_of hbN 3; have n4 := cell_of hbN 4) | (go_at_call 15; refine (HE2.out _ (by first | exact hcw | exact (Chg.refl _ w5).drew | exact Chg.refl _ w5)).mono ?_; rintro e wt ⟨rfl, hct⟩; (first | (have hcw := hcw.trans hct) | (have hcw := ((Chg.refl _ w5).drew).trans hct)); have hbD := HBD.out _ hcw; have d0 := cell_of hbD 0; have d1 := cell_of hbD 1; have d2 := cell_of hbD 2; have d3 := cell_of hbD 3; have d4 := cell_of hbD 4; have hbN := HBN.out _ hcw; have n0 := cell_of hbN 0; have n1 := cell_of hbN 1; have n2 := cell_of hbN 2; have n3 := cell_of hbN 3; have n4 := cell_of hbN 4) | (go_at_call_of 20 (Value.string x.text); refine (HD4.out _ (by first | exact hcw | exact (Chg.refl _ w5).drew | exact Chg.refl _ w5)).mono ?_; rintro e wt ⟨rfl, hct⟩; (first | (have hcw := hcw.trans hct) | (have hcw := ((Chg.refl _ w5).drew).trans hct)); have hbD := HBD.out _ hcw; have d0 := cell_of hbD 0; have d1 := cell_of hbD 1; have d2 := cell_of hbD 2; have d3 := cell_of hbD 3; have d4 := cell_of hbD 4; have hbN := HBN.out _ hcw; have n0 := cell_of hbN 0; have n1 := cell_of hbN 1; have n2 := cell_of hbN 2; have n3 := cell_of hbN 3; have n4 := cell_of hbN 4) | (go_at_call 20; refine (HE3.out _ (by first | exact hcw | exact (Chg.refl _ w5).drew | exact Chg.refl _ w5)).mono ?_; rintro e wt ⟨rfl, hct⟩; (first | (have hcw := hcw.trans hct) | (have hcw := ((Chg.refl _ w5).drew).trans hct)); have hbD := HBD.out _ hcw; have d0 := cell_of hbD 0; have d1 := cell_of hbD 1; have d2 := cell_of hbD 2; have d3 := cell_of hbD 3; have d4 := cell_of hbD 4; have hbN := HBN.out _ hcw; have n0 := cell_of hbN 0; have n1 := cell_of hbN 1; have n2 := cell_of hbN 2; have n3 := cell_of hbN 3; have n4 := cell_of hbN 4) | (go_at_call 18; refine (HD5.out _ (by first | exact hcw | exact (Chg.refl _ w5).drew | exact Chg.refl _ w5)).mono ?_; rintro e wt ⟨rfl, hct⟩; (first | (have hcw := hcw.trans hct) | (have hcw := ((Chg.refl _ w5).drew).trans hct)); have hbD := HBD.out _ hcw; have d0 := cell_of hbD 0; have d1 := cell_of hbD 1; have d2 := cell_of hbD 2; have d3 := cell_of hbD 3; have d4 := cell_of hbD 4; have hbN := HBN.out _ hcw; have n0 := cell_of hbN 0; have n1 := cell_of hbN 1; have n2 := cell_of hbN 2; have n3 := cell_of hbN 3; have n4 := cell_of hbN 4))
            | fail
          all_goals try go_wp2_with fail
          all_goals
            go_ret
            exact ⟨rfl, HCW.out.trans hcw⟩
end Go.Proofs.YtaklmocjaokkpaaGreatDoor.Tr
