/- The document's Print, walked: a right node's text. Condition: the node is right; texts in quotes of at most 70000 bytes; at most 2^46 bytes in all. -/
import Derived.Test.YtaklmocjaokkpaaGreatDoorTreeRJoin
import Derived.Test.YtaklmocjaokkpaaGreatDoorTreePText
import Derived.Test.YtaklmocjaokkpaaGreatDoorTreeRight
import Derived.Test.YtaklmocjaokkpaaGreatDoorTreeRParts
import Derived.Test.YtaklmocjaokkpaaGreatDoorLexB
import Derived.Test.YtaklmocjaokkpaaGreatDoorLexQuote
namespace Go.Proofs.YtaklmocjaokkpaaGreatDoor.Tr
set_option linter.unusedVariables false
set_option linter.unusedSimpArgs false
open Go.RowKit Go.Shelf Go.Proofs.YtaklmocjaokkpaaGreatDoor.Mem

theorem refs_le (l : List Nd) (k : Nat) : (refsL (l.take k)).length ≤ l.length := by rw [refsL_len, List.length_take]; omega
theorem refs_app (l : List Nd) (k : Nat) : ∃ q, refsL l = refsL (l.take k) ++ q := by
  refine ⟨refsL (l.drop k), ?_⟩
  have : ∀ a b : List Nd, refsL (a ++ b) = refsL a ++ refsL b := by
    intro a b
    induction a with
    | nil => rfl
    | cons x a ih => rw [List.cons_append, refsL, refsL, ih]; rfl
  rw [← this, List.take_append_drop]
/-- What is joined is no longer than the whole. -/
theorem piece_le (l : List ByteArray) (s : ByteArray) (h : s ∈ l) : s.size ≤ (joinL l).length := by
  obtain ⟨a, b, rfl⟩ := List.append_of_mem h
  have h1 := joinL_take_le (a ++ s :: b) (a.length + 1)
  have h2 : (a ++ s :: b).take (a.length + 1) = a ++ [s] := by rw [show a ++ s :: b = (a ++ [s]) ++ b by simp]; exact List.take_left' (by simp)
  rw [h2] at h1
  by_cases ha : a = []
  · subst ha; rw [List.nil_append, join_sing, bl_len] at h1; exact h1
  · rw [join_snoc _ _ ha, List.length_append, List.length_cons, bl_len] at h1; omega
theorem hd_cells {W : World} {b : Nat} (h : W.heap[b]? = some (.cells #[.string ⟨#[]⟩, .string ⟨#[]⟩, .string ⟨#[]⟩, .string ⟨#[]⟩, .string ⟨#[]⟩, .string ⟨#[]⟩, .string ⟨#[102, 117, 110]⟩, .string ⟨#[99, 97, 108, 108]⟩, .string ⟨#[108, 101, 116]⟩, .string ⟨#[105, 102]⟩, .string ⟨#[100, 111]⟩, .string ⟨#[]⟩, .string ⟨#[112, 101, 114, 102, 111, 114, 109]⟩, .string ⟨#[104, 97, 110, 100, 108, 101]⟩, .string ⟨#[114, 101, 115, 117, 109, 101]⟩, .string ⟨#[100, 114, 111, 112]⟩, .string ⟨#[119, 105, 110, 100]⟩, .string ⟨#[114, 101, 116, 117, 114, 110]⟩, .string ⟨#[111, 110]⟩, .string ⟨#[102, 105, 110, 97, 108, 108, 121]⟩] 9 (0, 0))) (k : Nat) (hk : k < 20) : W.cell? ⟨b, k, none⟩ = some (.string (hdW k)) := by
  rw [cell_of h]
  have : ∀ k, k < 20 → (#[.string ⟨#[]⟩, .string ⟨#[]⟩, .string ⟨#[]⟩, .string ⟨#[]⟩, .string ⟨#[]⟩, .string ⟨#[]⟩, .string ⟨#[102, 117, 110]⟩, .string ⟨#[99, 97, 108, 108]⟩, .string ⟨#[108, 101, 116]⟩, .string ⟨#[105, 102]⟩, .string ⟨#[100, 111]⟩, .string ⟨#[]⟩, .string ⟨#[112, 101, 114, 102, 111, 114, 109]⟩, .string ⟨#[104, 97, 110, 100, 108, 101]⟩, .string ⟨#[114, 101, 115, 117, 109, 101]⟩, .string ⟨#[100, 114, 111, 112]⟩, .string ⟨#[119, 105, 110, 100]⟩, .string ⟨#[114, 101, 116, 117, 114, 110]⟩, .string ⟨#[111, 110]⟩, .string ⟨#[102, 105, 110, 97, 108, 108, 121]⟩] : Array Value)[k]? = some (.string (hdW k)) := by
    intro k hk
    match k, hk with
    | 0, _ => rfl | 1, _ => rfl | 2, _ => rfl | 3, _ => rfl | 4, _ => rfl | 5, _ => rfl | 6, _ => rfl | 7, _ => rfl | 8, _ => rfl | 9, _ => rfl
    | 10, _ => rfl | 11, _ => rfl | 12, _ => rfl | 13, _ => rfl | 14, _ => rfl | 15, _ => rfl | 16, _ => rfl | 17, _ => rfl | 18, _ => rfl | 19, _ => rfl
    | k + 20, hk => omega
  exact this k hk
/-- What the walk knows of its own row. -/
structure RowS (w2 W : World) (v : Value) (l : List ByteArray) : Prop where
  row : RowAt W 9 1 v l.length (l.map Value.string)
  own : ∀ b, v.ownBlock = some b → w2.heap.size ≤ b
  chg : Chg (fun _ => False) w2 W
theorem RowS.later {w2 W W' : World} {v : Value} {l : List ByteArray} (h : RowS w2 W v l) (hc : Chg (fun _ => False) W W') : RowS w2 W' v l :=
  ⟨h.row.kept hc (fun _ _ e => e), h.own, h.chg.trans hc⟩
theorem RowS.add {w2 W W1 W' : World} {v v' : Value} {l q : List ByteArray} {n : Nat} (h : RowS w2 W v l) (hc : Chg (fun _ => False) W W1) (hr : RowAt W' 9 1 v' n (l.map Value.string ++ q.map Value.string)) (hn : n = l.length + q.length) (hg : W1.grownBy W' v.ownBlock)
    (ho : ∀ b, v'.ownBlock = some b → v.ownBlock = some b ∨ b = W1.heap.size) : RowS w2 W' v' (l ++ q) := by
  have hs := h.chg.size
  have hs1 := hc.size
  have hA : Chg (fun b => v.ownBlock = some b) W W' := (hc.mono (fun _ _ e => e.elim)).grown hg (fun b _ e => e)
  subst hn
  refine ⟨by rw [List.length_append, List.map_append]; exact hr, fun b hb => ?_, h.chg.andThen hA (fun b hb e => by have := h.own b e; omega)⟩
  rcases ho b hb with e | e
  · exact h.own b e
  · omega
theorem own_some {g off n cap b : Nat} (h : (Value.slice (some ⟨g, off, none⟩) n cap).ownBlock = some b) : g = b := by simpa [Value.ownBlock] using h
set_option maxRecDepth 100000 in
set_option maxHeartbeats 8000000 in
theorem rprint_calls : ∀ (x : Nd) (nv kv : Value) (d : Nat) (w : World), NdIn w nv kv x → rightB x d = true → Lits (fun _ => True) (fun s => s.size ≤ 70000) x → Small x → (refL x).length ≤ 70368744177664 →
    Calls Tryz.prog 23 #[ndV x nv kv] w fun e w' => e = .returned (.string ⟨(refL x).toArray⟩) ∧ Chg (fun _ => False) w w' := by
  intro x
  induction x using Nd.ind with
  | h x ih =>
    intro nv kv d w h hrt hlt hsm hlen
    obtain ⟨iS, hj0, hj1, hj2, hj3⟩ := info_parts infoS
    have hwl : Tryz.prog.underlying 22 = some (.slice 9) := Tryz.underlying22
    obtain ⟨w1, hw1⟩ : ∃ w1, w.alloc (ndBox x nv kv) = w1 := ⟨_, rfl⟩
    obtain ⟨w2, hw2⟩ : ∃ w2, w1.alloc (.cells #[.string ⟨#[]⟩, .string ⟨#[]⟩, .string ⟨#[]⟩, .string ⟨#[]⟩, .string ⟨#[]⟩, .string ⟨#[]⟩, .string ⟨#[102, 117, 110]⟩, .string ⟨#[99, 97, 108, 108]⟩, .string ⟨#[108, 101, 116]⟩, .string ⟨#[105, 102]⟩, .string ⟨#[100, 111]⟩, .string ⟨#[]⟩, .string ⟨#[112, 101, 114, 102, 111, 114, 109]⟩, .string ⟨#[104, 97, 110, 100, 108, 101]⟩, .string ⟨#[114, 101, 115, 117, 109, 101]⟩, .string ⟨#[100, 114, 111, 112]⟩, .string ⟨#[119, 105, 110, 100]⟩, .string ⟨#[114, 101, 116, 117, 114, 110]⟩, .string ⟨#[111, 110]⟩, .string ⟨#[102, 105, 110, 97, 108, 108, 121]⟩] 9) = w2 := ⟨_, rfl⟩
    have hC1 : Chg (fun _ => False) w w1 := by rw [← hw1]; exact (Chg.refl _ w).alloc _
    have hC2 : Chg (fun _ => False) w1 w2 := by rw [← hw2]; exact (Chg.refl _ w1).alloc _
    have hb : w2.heap[w.heap.size]? = some (ndBox x nv kv) := hC2.blk (by rw [← hw1]; exact blk_new w _) (fun e => e)
    have hh : w2.heap[w1.heap.size]? = some (.cells #[.string ⟨#[]⟩, .string ⟨#[]⟩, .string ⟨#[]⟩, .string ⟨#[]⟩, .string ⟨#[]⟩, .string ⟨#[]⟩, .string ⟨#[102, 117, 110]⟩, .string ⟨#[99, 97, 108, 108]⟩, .string ⟨#[108, 101, 116]⟩, .string ⟨#[105, 102]⟩, .string ⟨#[100, 111]⟩, .string ⟨#[]⟩, .string ⟨#[112, 101, 114, 102, 111, 114, 109]⟩, .string ⟨#[104, 97, 110, 100, 108, 101]⟩, .string ⟨#[114, 101, 115, 117, 109, 101]⟩, .string ⟨#[100, 114, 111, 112]⟩, .string ⟨#[119, 105, 110, 100]⟩, .string ⟨#[114, 101, 116, 117, 114, 110]⟩, .string ⟨#[111, 110]⟩, .string ⟨#[102, 105, 110, 97, 108, 108, 121]⟩] 9 (0, 0)) := by rw [← hw2]; exact blk_new w1 _
    have HB2 := Lib.hid hb
    have HH2 := Lib.hid hh
    have HC2 := Lib.hid (hC1.trans hC2)
    have HIN := Lib.hid h
    have HRT := Lib.hid hrt
    have HLT := Lib.hid hlt
    have HSM := Lib.hid hsm
    have HIH := Lib.hid ih
    have hmany := hsm.many
    have htz := hsm.text
    have hkb := h.kind
    have hnb := h.n
    obtain ⟨_, _, _, hsh, _, hnl⟩ := right_shape hrt
    have hk19 := shape_kind hsh
    have hnm : ¬ x.kind = 6 → x.names.length ≤ 2 := fun h6 => by
      have hk := hk19
      rcases (by omega : x.kind = 1 ∨ x.kind = 2 ∨ x.kind = 3 ∨ x.kind = 4 ∨ x.kind = 5 ∨ x.kind = 7 ∨ x.kind = 8 ∨ x.kind = 9 ∨ x.kind = 10 ∨ x.kind = 11 ∨ x.kind = 12 ∨ x.kind = 13 ∨ x.kind = 14 ∨ x.kind = 15 ∨ x.kind = 16 ∨ x.kind = 17 ∨ x.kind = 18 ∨ x.kind = 19) with e | e | e | e | e | e | e | e | e | e | e | e | e | e | e | e | e | e
      all_goals
        rw [e] at hsh
        simp [shapeOf] at hsh
        have := hnl _ hsh.1.symm
        omega
    obtain ⟨p, hp⟩ : ∃ p, refL x = p := ⟨_, rfl⟩
    rw [hp] at hlen ⊢
    rw [refL_is] at hp
    obtain ⟨an, cn, ak, ck, rfl, rfl, hnc, hncm, hkc, hkm, hk⟩ := h.forms
    have hck2 : ck ≤ 9223372036854775807 := by unfold maxLen at hkm; omega
    have hcn2 : cn ≤ 9223372036854775807 := by unfold maxLen at hncm; omega
    have HNS := Lib.hid h.names
    have HKK := Lib.hid hk
    obtain ⟨kd, hkd⟩ : ∃ kd, x.kind = kd := ⟨_, rfl⟩
    obtain ⟨nn, hnn⟩ : ∃ nn, x.n = nn := ⟨_, rfl⟩
    obtain ⟨tx, htx⟩ : ∃ tx, x.text = tx := ⟨_, rfl⟩
    obtain ⟨ns, hns⟩ : ∃ ns, x.names = ns := ⟨_, rfl⟩
    obtain ⟨ln, hln⟩ : ∃ ln, ns.length = ln := ⟨_, rfl⟩
    obtain ⟨m, hm⟩ : ∃ m, x.kids.length = m := ⟨_, rfl⟩
    have HKD := Lib.hid hkd
    have HTX := Lib.hid htx
    have HM := Lib.hid hm
    have HLN := Lib.hid hln
    have HTSH : Hid (textB kd nn tx m = true) := Lib.hid (by
      obtain ⟨_, _, _, _, ht, _⟩ := right_shape hrt
      rw [hkd, hnn, htx, hm] at ht
      exact ht)
    unfold ndBox at HB2 hw1
    unfold ndV
    rw [hns, hln] at HNS hnc hnm
    rw [hkd, hnn, htx, hns, hln, hm] at HB2 hw1
    rw [hkd, hnn, htx, hns] at hp
    rw [hkd] at hkb hk19 hnm
    rw [hnn] at hnb
    rw [htx] at htz
    rw [hm] at hmany hkc
    rw [hkd, hnn, htx, hns, hln, hm]
    have HP := Lib.hid hp
    clear h hrt hlt hsm ih hC1 hC2 hb hh hsh hnl hp hkd hnn htx hns hln hm hk hkm hncm
    by_cases k5 : kd ≤ 5
    · obtain ⟨z, hz⟩ : ∃ z : Int, (kd : Int) = z := ⟨_, rfl⟩
      rw [hz] at HB2 hw1 ⊢
      have a0 := cell_of HB2.out 0
      have a1 := cell_of HB2.out 1
      have a2 := cell_of HB2.out 2
      have a3 := cell_of HB2.out 3
      have a4 := cell_of HB2.out 4
      go_enter Tryz.func23, Tryz.ntmps23
      rcases (by omega : kd = 1 ∨ kd = 2 ∨ kd = 3 ∨ kd = 4 ∨ kd = 5) with e | e | e | e | e
      · subst e
        obtain rfl : z = 1 := by rw [← hz]; rfl
        clear hz
        have hpp : Lib.itoa nn = p := HP.out
        have HFM := Lib.hid (Lx.numb_calls nn w2 hnb.1 hnb.2)
        rw [numb_itoa, hpp] at HFM
        obtain ⟨s, hs⟩ : ∃ s : ByteArray, ⟨p.toArray⟩ = s := ⟨_, rfl⟩
        rw [hs] at HFM ⊢
        clear hpp hs HIH
        go_wp2_with fail
        refine HFM.out.mono ?_
        rintro e w3 ⟨rfl, hbl⟩
        have hC3 : Chg (fun _ => False) w w3 := HC2.out.callee hbl
        clear hbl HFM
        go_wp2_with fail
        go_ret
        exact ⟨rfl, hC3⟩
      · subst e
        obtain rfl : z = 2 := by rw [← hz]; rfl
        clear hz
        have hpp : (if nn = 1 then [116, 114, 117, 101] else [102, 97, 108, 115, 101]) = p := HP.out
        clear HIH
        by_cases n1 : nn = 1
        · rw [if_pos n1] at hpp
          subst hpp
          subst n1
          go_wp2_with fail
          go_ret
          exact ⟨rfl, HC2.out⟩
        · rw [if_neg n1] at hpp
          subst hpp
          have n2 : (nn == 1) = false := beq_eq_false_iff_ne.2 n1
          go_wp2_with fail
          go_ret
          exact ⟨rfl, HC2.out⟩
      · subst e
        obtain rfl : z = 3 := by rw [← hz]; rfl
        clear hz
        have hpp : Lx.quote tx.data.toList = p := HP.out
        have HQU := Lib.hid (Lx.quote_calls tx w2 (by rw [← HTX.out]; exact HLT.out.str HKD.out))
        rw [hpp] at HQU
        obtain ⟨s, hs⟩ : ∃ s : ByteArray, ⟨p.toArray⟩ = s := ⟨_, rfl⟩
        rw [hs] at HQU ⊢
        clear hpp hs HIH
        go_wp2_with fail
        refine HQU.out.mono ?_
        rintro e w3 ⟨rfl, hbl⟩
        have hC3 : Chg (fun _ => False) w w3 := HC2.out.callee hbl
        clear hbl HQU
        go_wp2_with fail
        go_ret
        exact ⟨rfl, hC3⟩
      · subst e
        obtain rfl : z = 4 := by rw [← hz]; rfl
        clear hz
        have hpp : ([117, 110, 105, 116] : List UInt8) = p := HP.out
        subst hpp
        clear HIH
        go_wp2_with fail
        go_ret
        exact ⟨rfl, HC2.out⟩
      · subst e
        obtain rfl : z = 5 := by rw [← hz]; rfl
        clear hz
        have hpp : bl tx = p := HP.out
        have hts : tx = ⟨p.toArray⟩ := by rw [← hpp]; exact ba_id tx
        rw [← hts]
        clear HIH hpp hts
        go_wp2_with fail
        go_ret
        exact ⟨rfl, HC2.out⟩
    have hpp := HP.out
    rw [if_neg (by omega), if_neg (by omega), if_neg (by omega), if_neg (by omega), if_neg (by omega)] at hpp
    have i1 : ¬ (kd : Int) = 1 := by omega
    have i2 : ¬ (kd : Int) = 2 := by omega
    have i3 : ¬ (kd : Int) = 3 := by omega
    have i4 : ¬ (kd : Int) = 4 := by omega
    have i5 : ¬ (kd : Int) = 5 := by omega
    have x0 : (0 : Int) ≤ (kd : Int) := by omega
    have x1 : (kd : Int) < 20 := by omega
    obtain ⟨hd, hhd⟩ : ∃ hd, hdW kd = hd := ⟨_, rfl⟩
    have HHD := Lib.hid hhd
    obtain ⟨pl, hpl⟩ : ∃ pl, partsL kd tx ns = pl := ⟨_, rfl⟩
    have HPL := Lib.hid hpl
    rw [hpl] at hpp
    have hjl : (joinL (pl ++ refsL x.kids)).length + 2 ≤ 70368744177664 := by rw [← hpp] at hlen; simp only [List.length_cons, List.length_append, List.length_nil] at hlen; omega
    have HJL := Lib.hid hjl
    have HPP := Lib.hid hpp
    obtain ⟨w3, hw3⟩ : ∃ w3, w2.alloc (.cells #[] 9) = w3 := ⟨_, rfl⟩
    have R0 : Hid (RowS w2 w3 (.slice (some ⟨w2.heap.size, 0, none⟩) 0 0) ([] : List ByteArray)) := Lib.hid (by
      rw [← hw3]
      exact ⟨row_empty _ _ (blk_new w2 _), fun b hb => by have := own_some hb; omega, (Chg.refl _ w2).alloc _⟩)
    have HCH : Hid (∀ W, Chg (fun _ => False) w2 W → W.cell? ⟨w1.heap.size, kd, none⟩ = some (.string hd)) := Lib.hid fun W hW => by
      rw [← hhd]
      exact hd_cells (hW.blk HH2.out (fun e => e)) kd (by omega)
    have HCB : Hid (∀ W, Chg (fun _ => False) w2 W → W.heap[w.heap.size]? = some (.cells #[.int .u8 kd, .int .i64 nn, .string tx, .slice an ln cn, .slice ak m ck] 25)) := Lib.hid fun W hW => hW.blk HB2.out (fun e => e)
    have a0 := cell_of HB2.out 0
    have a1 := cell_of HB2.out 1
    have a2 := cell_of HB2.out 2
    have a3 := cell_of HB2.out 3
    have a4 := cell_of HB2.out 4
    clear hhd hpl hpp hjl
    go_enter Tryz.func23, Tryz.ntmps23
    by_cases k6 : kd = 6
    · have HK7 : Hid ((kd : Int) = 6) := Lib.hid (by omega)
      have hne : ¬ hd = ⟨#[]⟩ := by rw [← HHD.out, k6]; decide +kernel
      have tne : ¬ tx = ⟨#[]⟩ := named_text HTSH.out (by omega) (by omega) (by omega)
      have hz1 : hd.toList.isEmpty = false := empty_ne hne
      have hz2 := Lib.hid hne
      clear hne
      have tz1 : tx.toList.isEmpty = false := empty_ne tne
      have tz2 := Lib.hid tne
      clear tne
      have HK6 := Lib.hid k6
      have HP6 : Hid (∀ q : Nat, q = 6 → kd = q) := Lib.hid (fun q hq => by omega)
      clear k6
      have hbW := HCB.out _ R0.out.chg
      have b0 := cell_of hbW 0
      have b1 := cell_of hbW 1
      have b2 := cell_of hbW 2
      have b3 := cell_of hbW 3
      have b4 := cell_of hbW 4
      have ah := HCH.out _ R0.out.chg
      clear hbW
      go_wp2_with (at_builtin; refine wpList_append_row _ rfl _ _ 22 rfl 9 iS _ 1 16 hwl hj0 hj1 hj2 hj3 rfl (by decide) (.slice (some ⟨w2.heap.size, 0, none⟩) 0 0) (0) ((([] : List ByteArray)).map Value.string) rfl ?ya1 ⟨w3.heap.size, 0, none⟩ 1 1 [.string hd] rfl rfl ?ya2 ?ya3 (by decide) ?ya4 ?ya5 _ rfl ?_)
      case ya1 => exact R0.out.row.kept ((Chg.refl (fun _ => False) w3).alloc _) (fun _ _ h => h)
      case ya2 => have h := World.news_of_block (blk_new w3 (.cells #[.string hd] 9)); simpa using h
      case ya3 => simp [Value.oneCell']
      case ya4 => unfold maxLen; omega
      case ya5 => omega
      intro g1 o1 c1 w4 hrow hgrow hat hlt'
      have R1 : Hid (RowS w2 w4 (.slice (some ⟨g1, o1, none⟩) (0 + 1) c1) ((([] : List ByteArray)) ++ [hd])) := Lib.hid (R0.out.add (q := [hd]) ((Chg.refl _ w3).alloc _) hrow (by simp) hgrow (fun b hb => by
        have hq := own_some hb
        rcases hat with e | e
        · exact .inl (by rw [← hq]; exact e)
        · exact .inr (by rw [← hq]; simpa using e)))
      clear hrow hgrow hat hlt' a0 a1 a2 a3 a4 ah
      have hbW := HCB.out _ R1.out.chg
      have a0 := cell_of hbW 0
      have a1 := cell_of hbW 1
      have a2 := cell_of hbW 2
      have a3 := cell_of hbW 3
      have a4 := cell_of hbW 4
      have ah := HCH.out _ R1.out.chg
      clear hbW
      go_wp2_with (at_builtin; refine wpList_append_row _ rfl _ _ 22 rfl 9 iS _ 1 16 hwl hj0 hj1 hj2 hj3 rfl (by decide) (.slice (some ⟨g1, o1, none⟩) 1 c1) (1) ((([] : List ByteArray) ++ [hd]).map Value.string) rfl ?ya1 ⟨w4.heap.size, 0, none⟩ 1 1 [.string tx] rfl rfl ?ya2 ?ya3 (by decide) ?ya4 ?ya5 _ rfl ?_)
      case ya1 => exact R1.out.row.kept ((Chg.refl (fun _ => False) w4).alloc _) (fun _ _ h => h)
      case ya2 => have h := World.news_of_block (blk_new w4 (.cells #[.string tx] 9)); simpa using h
      case ya3 => simp [Value.oneCell']
      case ya4 => unfold maxLen; omega
      case ya5 => omega
      intro g2 o2 c2 w5 hrow hgrow hat hlt'
      have R2 : Hid (RowS w2 w5 (.slice (some ⟨g2, o2, none⟩) (1 + 1) c2) ((([] : List ByteArray) ++ [hd]) ++ [tx])) := Lib.hid (R1.out.add (q := [tx]) ((Chg.refl _ w4).alloc _) hrow (by simp) hgrow (fun b hb => by
        have hq := own_some hb
        rcases hat with e | e
        · exact .inl (by rw [← hq]; exact e)
        · exact .inr (by rw [← hq]; simpa using e)))
      clear hrow hgrow hat hlt' a0 a1 a2 a3 a4 ah
      have hbW := HCB.out _ R2.out.chg
      have a0 := cell_of hbW 0
      have a1 := cell_of hbW 1
      have a2 := cell_of hbW 2
      have a3 := cell_of hbW 3
      have a4 := cell_of hbW 4
      have ah := HCH.out _ R2.out.chg
      clear hbW
      have HJ1 := Lib.hid (rjoin_calls ns _ w5 (HNS.out.kept (HC2.out.trans R2.out.chg)) (by
        have h1 := piece_le (pl ++ refsL x.kids) ⟨(40 :: joinL ns ++ [41]).toArray⟩ (by rw [← HPL.out, HK6.out]; unfold partsL; simp)
        rw [mk_size] at h1
        have h2 := HJL.out
        simp only [List.length_append, List.length_cons] at h1
        omega))
      obtain ⟨js, hjs⟩ : ∃ js : ByteArray, (⟨(joinL ns).toArray⟩ : ByteArray) = js := ⟨_, rfl⟩
      rw [hjs] at HJ1
      have k7 : (kd : Int) = 6 := HK7.out
      have hjz : js.size ≤ 70368744177664 := by
        have h1 := piece_le (pl ++ refsL x.kids) ⟨(40 :: joinL ns ++ [41]).toArray⟩ (by rw [← HPL.out, HK6.out]; unfold partsL; simp)
        rw [mk_size] at h1
        have h2 := HJL.out
        simp only [List.length_append, List.length_cons] at h1
        rw [← hjs, mk_size]
        omega
      have HJS := Lib.hid hjs
      clear hjs
      go_wp2_with fail
      refine HJ1.out.mono ?_
      rintro e w6 ⟨rfl, hq⟩
      obtain rfl : w5 = w6 := hq.symm
      clear HJ1
      go_wp2_with (at_builtin; refine wpList_append_row _ rfl _ _ 22 rfl 9 iS _ 1 16 hwl hj0 hj1 hj2 hj3 rfl (by decide) (.slice (some ⟨g2, o2, none⟩) 2 c2) (2) ((([] : List ByteArray) ++ [hd] ++ [tx]).map Value.string) rfl ?ya1 ⟨w5.heap.size, 0, none⟩ 1 1 [.string ((⟨#[40]⟩ : ByteArray) ++ js ++ ⟨#[41]⟩)] rfl rfl ?ya2 ?ya3 (by decide) ?ya4 ?ya5 _ rfl ?_)
      case ya1 => exact R2.out.row.kept ((Chg.refl (fun _ => False) w5).alloc _) (fun _ _ h => h)
      case ya2 => have h := World.news_of_block (blk_new w5 (.cells #[.string ((⟨#[40]⟩ : ByteArray) ++ js ++ ⟨#[41]⟩)] 9)); simpa using h
      case ya3 => simp [Value.oneCell']
      case ya4 => unfold maxLen; omega
      case ya5 => omega
      intro g3 o3 c3 w7 hrow hgrow hat hlt'
      have R3 : Hid (RowS w2 w7 (.slice (some ⟨g3, o3, none⟩) (2 + 1) c3) ((([] : List ByteArray) ++ [hd] ++ [tx]) ++ [((⟨#[40]⟩ : ByteArray) ++ js ++ ⟨#[41]⟩)])) := Lib.hid (R2.out.add (q := [((⟨#[40]⟩ : ByteArray) ++ js ++ ⟨#[41]⟩)]) ((Chg.refl _ w5).alloc _) hrow (by simp) hgrow (fun b hb => by
        have hq := own_some hb
        rcases hat with e | e
        · exact .inl (by rw [← hq]; exact e)
        · exact .inr (by rw [← hq]; simpa using e)))
      clear hrow hgrow hat hlt' a0 a1 a2 a3 a4 ah
      have hbW := HCB.out _ R3.out.chg
      have a0 := cell_of hbW 0
      have a1 := cell_of hbW 1
      have a2 := cell_of hbW 2
      have a3 := cell_of hbW 3
      have a4 := cell_of hbW 4
      have ah := HCH.out _ R3.out.chg
      clear hbW
      have hplx : (([] : List ByteArray) ++ [hd] ++ [tx] ++ [((⟨#[40]⟩ : ByteArray) ++ js ++ ⟨#[41]⟩)]) = pl := by
        rw [← HPL.out]
        unfold partsL
        rw [HHD.out, one_ne hz2.out, one_ne tz2.out, if_pos HK6.out, ← HJS.out]
        simp
        apply ByteArray.ext
        simp
      have RA := Lib.hid R3.out
      rw [hplx] at RA
      have hpl4 : pl.length ≤ 5 := by
        have := HLN.out
        rw [← hplx]
        simp
        all_goals omega
      have HP4 := Lib.hid hpl4
      clear hplx hpl4
      go_wp2_with fail
      go_loopg [4, 71] (m + 1) (fun g vo vi wr => ∃ (j : Nat), vi = .int .i64 j ∧ j ≤ m ∧ m < g + j ∧ Hid (RowS w2 wr vo (pl ++ refsL (x.kids.take j))))
      case atStart => exact ⟨0, rfl, by omega, by omega, Lib.hid (by rw [List.take_zero]; simpa [refsL] using RA.out)⟩
      case round =>
        obtain ⟨j, rfl, hj, hg, hR⟩ := hrel
        have HCW := Lib.hid (HC2.out.trans hR.out.chg)
        have hbW := HCB.out _ hR.out.chg
        have a0 := cell_of hbW 0
        have a1 := cell_of hbW 1
        have a2 := cell_of hbW 2
        have a3 := cell_of hbW 3
        have a4 := cell_of hbW 4
        clear hbW
        by_cases hlt : j < m
        · obtain ⟨gk', rfl⟩ : ∃ q, gk = q + 1 := ⟨gk - 1, by omega⟩
          obtain ⟨b, off, nv', kv', y, rfl, hy, hym, c0, c1, c2, c3, c4, hin⟩ := kid_cells (HKK.out.kept HCW.out) j (by rw [HM.out]; exact hlt)
          have hst := refsL_take x.kids j y hy
          obtain ⟨q, hq⟩ := refs_app x.kids (j + 1)
          have hpc := piece_le (pl ++ refsL x.kids) ⟨(refL y).toArray⟩ (by rw [hq, hst]; simp)
          rw [mk_size] at hpc
          have hjl := HJL.out
          have HS := Lib.hid (HIH.out y hym nv' kv' (d + 1) wr hin (right_kid HRT.out y hym) (HLT.out.kid y hym) (HSM.out.kid y hym) (by omega))
          unfold ndV at HS
          obtain ⟨an', cn', ak', ck', rfl, rfl, _⟩ := hin.forms
          have i0 : (0 : Int) ≤ (j : Int) := by omega
          have im : (j : Int) < (m : Int) := by omega
          obtain ⟨ys, hys⟩ : ∃ ys : ByteArray, (⟨(refL y).toArray⟩ : ByteArray) = ys := ⟨_, rfl⟩
          rw [hys] at HS hst
          obtain ⟨og, hog⟩ : ∃ og, pl ++ refsL (x.kids.take j) = og := ⟨_, rfl⟩
          rw [hog] at hR
          have HNX : Hid (pl ++ refsL (x.kids.take (j + 1)) = og ++ [ys]) := Lib.hid (by rw [hst, ← List.append_assoc, hog])
          have hol : og.length ≤ 5 + 1048576 := by
            rw [← hog, List.length_append]
            have h1 := refs_le x.kids j
            rw [HM.out] at h1
            have h2 := HP4.out
            omega
          clear hy hym hin hst hq hpc hjl hys hog
          go_wp2_with fail
          refine HS.out.mono ?_
          rintro e w5 ⟨rfl, hC5⟩
          have HR5 := Lib.hid (hR.out.later hC5)
          clear hC5 HS c0 c1 c2 c3 c4 a0 a1 a2 a3 a4
          go_wp2_with (at_builtin; refine wpList_append_row _ rfl _ _ 22 rfl 9 iS _ 1 16 hwl hj0 hj1 hj2 hj3 rfl (by decide) u4 og.length (og.map Value.string) rfl ?ya1 ⟨w5.heap.size, 0, none⟩ 1 1 [.string ys] rfl rfl ?ya2 ?ya3 (by decide) ?ya4 ?ya5 _ rfl ?_)
          case ya1 => exact HR5.out.row.kept ((Chg.refl (fun _ => False) w5).alloc _) (fun _ _ h => h)
          case ya2 => have h := World.news_of_block (blk_new w5 (.cells #[.string ys] 9)); simpa using h
          case ya3 => simp [Value.oneCell']
          case ya4 => unfold maxLen; omega
          case ya5 => omega
          intro gg off2 cap2 w6 hrow hgrow hat hlt'
          have R6 : Hid (RowS w2 w6 (.slice (some ⟨gg, off2, none⟩) (og.length + 1) cap2) (pl ++ refsL (x.kids.take (j + 1)))) := Lib.hid (by
            rw [HNX.out]
            refine HR5.out.add (q := [ys]) ((Chg.refl _ w5).alloc _) hrow (by simp) hgrow (fun b hb => ?_)
            have hq := own_some hb
            rcases hat with e | e
            · exact .inl (by rw [← hq]; exact e)
            · exact .inr (by rw [← hq]; simpa using e))
          clear hrow hgrow hat hlt'
          go_wp2_with fail
          go_roundg gk'
          case measure => omega
          case rel => exact ⟨j + 1, by go_num, by omega, by omega, R6⟩
        · obtain rfl : j = m := by omega
          have hkk : ¬ (j : Int) < (j : Int) := by omega
          have hall : x.kids.take j = x.kids := List.take_of_length_le (by rw [HM.out]; exact Nat.le_refl _)
          have hRW := hR.out.row
          rw [hall] at hRW
          obtain ⟨fl, hfl⟩ : ∃ fl, joinL (pl ++ refsL x.kids) = fl := ⟨_, rfl⟩
          have hjl := HJL.out
          have HJN := Lib.hid (rjoin_calls (pl ++ refsL x.kids) _ wr (row_strs hRW) (by omega))
          obtain ⟨fs, hfs⟩ : ∃ fs : ByteArray, (⟨fl.toArray⟩ : ByteArray) = fs := ⟨_, rfl⟩
          have hfz : fs.size ≤ 70368744177664 := by rw [← hfs, mk_size, ← hfl]; omega
          rw [hfl, hfs] at HJN
          have HFS : Hid ((⟨#[40]⟩ : ByteArray) ++ fs ++ ⟨#[41]⟩ = ⟨p.toArray⟩) := Lib.hid (by
            rw [← HPP.out, hfl, ← hfs]
            apply ByteArray.ext
            simp)
          clear hall hRW hfl hjl hfs hR a0 a1 a2 a3 a4
          go_wp2_with fail
          refine HJN.out.mono ?_
          rintro e w5 ⟨rfl, hq⟩
          have HC5 : Hid (Chg (fun _ => False) w w5) := Lib.hid (by rw [hq]; exact HCW.out)
          clear hq HJN HCW
          go_wp2_with fail
          go_ret
          exact ⟨tup _ _ HFS.out, HC5.out⟩
    · have k7 : ¬ (kd : Int) = 6 := by omega
      have hnl := hnm k6
      have HK6 := Lib.hid k6
      clear k6
      by_cases hne : hd = ⟨#[]⟩
      · have k11 : kd = 11 := by
          have h1 := HHD.out
          rw [hne] at h1
          rcases (by omega : kd = 6 ∨ kd = 7 ∨ kd = 8 ∨ kd = 9 ∨ kd = 10 ∨ kd = 11 ∨ kd = 12 ∨ kd = 13 ∨ kd = 14 ∨ kd = 15 ∨ kd = 16 ∨ kd = 17 ∨ kd = 18 ∨ kd = 19) with e | e | e | e | e | e | e | e | e | e | e | e | e | e
          all_goals first | exact e | (rw [e] at h1; exact absurd h1 (by decide +kernel))
        have tne : ¬ tx = ⟨#[]⟩ := by
          have h1 := HTSH.out
          rw [k11] at h1
          have h2 : takes tx = (m : Int) := of_decide_eq_true h1
          exact takes_ne (by omega)
        have HHN : Hid (one hd = []) := Lib.hid (by rw [hne]; exact one_nil)
        clear k11
        subst hne
        have tz1 : tx.toList.isEmpty = false := empty_ne tne
        have tz2 := Lib.hid tne
        clear tne
        have hbW := HCB.out _ R0.out.chg
        have b0 := cell_of hbW 0
        have b1 := cell_of hbW 1
        have b2 := cell_of hbW 2
        have b3 := cell_of hbW 3
        have b4 := cell_of hbW 4
        have ah := HCH.out _ R0.out.chg
        clear hbW
        go_wp2_with (at_builtin; refine wpList_append_row _ rfl _ _ 22 rfl 9 iS _ 1 16 hwl hj0 hj1 hj2 hj3 rfl (by decide) (.slice (some ⟨w2.heap.size, 0, none⟩) 0 0) (0) ((([] : List ByteArray)).map Value.string) rfl ?ya1 ⟨w3.heap.size, 0, none⟩ 1 1 [.string tx] rfl rfl ?ya2 ?ya3 (by decide) ?ya4 ?ya5 _ rfl ?_)
        case ya1 => exact R0.out.row.kept ((Chg.refl (fun _ => False) w3).alloc _) (fun _ _ h => h)
        case ya2 => have h := World.news_of_block (blk_new w3 (.cells #[.string tx] 9)); simpa using h
        case ya3 => simp [Value.oneCell']
        case ya4 => unfold maxLen; omega
        case ya5 => omega
        intro g1 o1 c1 w4 hrow hgrow hat hlt'
        have R1 : Hid (RowS w2 w4 (.slice (some ⟨g1, o1, none⟩) (0 + 1) c1) ((([] : List ByteArray)) ++ [tx])) := Lib.hid (R0.out.add (q := [tx]) ((Chg.refl _ w3).alloc _) hrow (by simp) hgrow (fun b hb => by
          have hq := own_some hb
          rcases hat with e | e
          · exact .inl (by rw [← hq]; exact e)
          · exact .inr (by rw [← hq]; simpa using e)))
        clear hrow hgrow hat hlt' a0 a1 a2 a3 a4 ah
        have hbW := HCB.out _ R1.out.chg
        have a0 := cell_of hbW 0
        have a1 := cell_of hbW 1
        have a2 := cell_of hbW 2
        have a3 := cell_of hbW 3
        have a4 := cell_of hbW 4
        have ah := HCH.out _ R1.out.chg
        clear hbW
        go_wp2_with (at_builtin; refine wpList_append_strs _ rfl _ _ 22 rfl 9 iS _ 16 hwl hj0 hj1 hj2 hj3 rfl (.slice (some ⟨g1, o1, none⟩) 1 c1) (1) ((([] : List ByteArray) ++ [tx]).map Value.string) rfl ?ya1 (.slice an ln cn) ns ln rfl ?ya2 HLN.out ?ya4 ?ya5 _ rfl ?_)
        case ya1 => exact R1.out.row
        case ya2 => exact HNS.out.kept (HC2.out.trans R1.out.chg)
        case ya4 => unfold maxLen; omega
        case ya5 => omega
        intro ad9 c9 w9 hrow hgrow hat
        have R9 : Hid (RowS w2 w9 (.slice ad9 (1 + ln) c9) ((([] : List ByteArray) ++ [tx]) ++ ns)) := Lib.hid (R1.out.add (q := ns) (Chg.refl _ w4) hrow (by rw [HLN.out]; simp) hgrow (fun b hb => (hat b hb).1))
        clear hrow hgrow hat a0 a1 a2 a3 a4 ah
        have hbW := HCB.out _ R9.out.chg
        have a0 := cell_of hbW 0
        have a1 := cell_of hbW 1
        have a2 := cell_of hbW 2
        have a3 := cell_of hbW 3
        have a4 := cell_of hbW 4
        have ah := HCH.out _ R9.out.chg
        clear hbW
        have hplx : (([] : List ByteArray) ++ [tx] ++ ns) = pl := by
          rw [← HPL.out]
          unfold partsL
          rw [HHD.out, HHN.out, one_ne tz2.out, if_neg HK6.out]
          all_goals simp
        have RA := Lib.hid R9.out
        rw [hplx] at RA
        have hpl4 : pl.length ≤ 5 := by
          have := HLN.out
          rw [← hplx]
          simp
          all_goals omega
        have HP4 := Lib.hid hpl4
        clear hplx hpl4
        go_wp2_with fail
        go_loopg [4, 71] (m + 1) (fun g vo vi wr => ∃ (j : Nat), vi = .int .i64 j ∧ j ≤ m ∧ m < g + j ∧ Hid (RowS w2 wr vo (pl ++ refsL (x.kids.take j))))
        case atStart => exact ⟨0, rfl, by omega, by omega, Lib.hid (by rw [List.take_zero]; simpa [refsL] using RA.out)⟩
        case round =>
          obtain ⟨j, rfl, hj, hg, hR⟩ := hrel
          have HCW := Lib.hid (HC2.out.trans hR.out.chg)
          have hbW := HCB.out _ hR.out.chg
          have a0 := cell_of hbW 0
          have a1 := cell_of hbW 1
          have a2 := cell_of hbW 2
          have a3 := cell_of hbW 3
          have a4 := cell_of hbW 4
          clear hbW
          by_cases hlt : j < m
          · obtain ⟨gk', rfl⟩ : ∃ q, gk = q + 1 := ⟨gk - 1, by omega⟩
            obtain ⟨b, off, nv', kv', y, rfl, hy, hym, c0, c1, c2, c3, c4, hin⟩ := kid_cells (HKK.out.kept HCW.out) j (by rw [HM.out]; exact hlt)
            have hst := refsL_take x.kids j y hy
            obtain ⟨q, hq⟩ := refs_app x.kids (j + 1)
            have hpc := piece_le (pl ++ refsL x.kids) ⟨(refL y).toArray⟩ (by rw [hq, hst]; simp)
            rw [mk_size] at hpc
            have hjl := HJL.out
            have HS := Lib.hid (HIH.out y hym nv' kv' (d + 1) wr hin (right_kid HRT.out y hym) (HLT.out.kid y hym) (HSM.out.kid y hym) (by omega))
            unfold ndV at HS
            obtain ⟨an', cn', ak', ck', rfl, rfl, _⟩ := hin.forms
            have i0 : (0 : Int) ≤ (j : Int) := by omega
            have im : (j : Int) < (m : Int) := by omega
            obtain ⟨ys, hys⟩ : ∃ ys : ByteArray, (⟨(refL y).toArray⟩ : ByteArray) = ys := ⟨_, rfl⟩
            rw [hys] at HS hst
            obtain ⟨og, hog⟩ : ∃ og, pl ++ refsL (x.kids.take j) = og := ⟨_, rfl⟩
            rw [hog] at hR
            have HNX : Hid (pl ++ refsL (x.kids.take (j + 1)) = og ++ [ys]) := Lib.hid (by rw [hst, ← List.append_assoc, hog])
            have hol : og.length ≤ 5 + 1048576 := by
              rw [← hog, List.length_append]
              have h1 := refs_le x.kids j
              rw [HM.out] at h1
              have h2 := HP4.out
              omega
            clear hy hym hin hst hq hpc hjl hys hog
            go_wp2_with fail
            refine HS.out.mono ?_
            rintro e w5 ⟨rfl, hC5⟩
            have HR5 := Lib.hid (hR.out.later hC5)
            clear hC5 HS c0 c1 c2 c3 c4 a0 a1 a2 a3 a4
            go_wp2_with (at_builtin; refine wpList_append_row _ rfl _ _ 22 rfl 9 iS _ 1 16 hwl hj0 hj1 hj2 hj3 rfl (by decide) u4 og.length (og.map Value.string) rfl ?ya1 ⟨w5.heap.size, 0, none⟩ 1 1 [.string ys] rfl rfl ?ya2 ?ya3 (by decide) ?ya4 ?ya5 _ rfl ?_)
            case ya1 => exact HR5.out.row.kept ((Chg.refl (fun _ => False) w5).alloc _) (fun _ _ h => h)
            case ya2 => have h := World.news_of_block (blk_new w5 (.cells #[.string ys] 9)); simpa using h
            case ya3 => simp [Value.oneCell']
            case ya4 => unfold maxLen; omega
            case ya5 => omega
            intro gg off2 cap2 w6 hrow hgrow hat hlt'
            have R6 : Hid (RowS w2 w6 (.slice (some ⟨gg, off2, none⟩) (og.length + 1) cap2) (pl ++ refsL (x.kids.take (j + 1)))) := Lib.hid (by
              rw [HNX.out]
              refine HR5.out.add (q := [ys]) ((Chg.refl _ w5).alloc _) hrow (by simp) hgrow (fun b hb => ?_)
              have hq := own_some hb
              rcases hat with e | e
              · exact .inl (by rw [← hq]; exact e)
              · exact .inr (by rw [← hq]; simpa using e))
            clear hrow hgrow hat hlt'
            go_wp2_with fail
            go_roundg gk'
            case measure => omega
            case rel => exact ⟨j + 1, by go_num, by omega, by omega, R6⟩
          · obtain rfl : j = m := by omega
            have hkk : ¬ (j : Int) < (j : Int) := by omega
            have hall : x.kids.take j = x.kids := List.take_of_length_le (by rw [HM.out]; exact Nat.le_refl _)
            have hRW := hR.out.row
            rw [hall] at hRW
            obtain ⟨fl, hfl⟩ : ∃ fl, joinL (pl ++ refsL x.kids) = fl := ⟨_, rfl⟩
            have hjl := HJL.out
            have HJN := Lib.hid (rjoin_calls (pl ++ refsL x.kids) _ wr (row_strs hRW) (by omega))
            obtain ⟨fs, hfs⟩ : ∃ fs : ByteArray, (⟨fl.toArray⟩ : ByteArray) = fs := ⟨_, rfl⟩
            have hfz : fs.size ≤ 70368744177664 := by rw [← hfs, mk_size, ← hfl]; omega
            rw [hfl, hfs] at HJN
            have HFS : Hid ((⟨#[40]⟩ : ByteArray) ++ fs ++ ⟨#[41]⟩ = ⟨p.toArray⟩) := Lib.hid (by
              rw [← HPP.out, hfl, ← hfs]
              apply ByteArray.ext
              simp)
            clear hall hRW hfl hjl hfs hR a0 a1 a2 a3 a4
            go_wp2_with fail
            refine HJN.out.mono ?_
            rintro e w5 ⟨rfl, hq⟩
            have HC5 : Hid (Chg (fun _ => False) w w5) := Lib.hid (by rw [hq]; exact HCW.out)
            clear hq HJN HCW
            go_wp2_with fail
            go_ret
            exact ⟨tup _ _ HFS.out, HC5.out⟩
      · by_cases tne : tx = ⟨#[]⟩
        · have HTN : Hid (one tx = []) := Lib.hid (by rw [tne]; exact one_nil)
          subst tne
          have hz1 : hd.toList.isEmpty = false := empty_ne hne
          have hz2 := Lib.hid hne
          clear hne
          have hbW := HCB.out _ R0.out.chg
          have b0 := cell_of hbW 0
          have b1 := cell_of hbW 1
          have b2 := cell_of hbW 2
          have b3 := cell_of hbW 3
          have b4 := cell_of hbW 4
          have ah := HCH.out _ R0.out.chg
          clear hbW
          go_wp2_with (at_builtin; refine wpList_append_row _ rfl _ _ 22 rfl 9 iS _ 1 16 hwl hj0 hj1 hj2 hj3 rfl (by decide) (.slice (some ⟨w2.heap.size, 0, none⟩) 0 0) (0) ((([] : List ByteArray)).map Value.string) rfl ?ya1 ⟨w3.heap.size, 0, none⟩ 1 1 [.string hd] rfl rfl ?ya2 ?ya3 (by decide) ?ya4 ?ya5 _ rfl ?_)
          case ya1 => exact R0.out.row.kept ((Chg.refl (fun _ => False) w3).alloc _) (fun _ _ h => h)
          case ya2 => have h := World.news_of_block (blk_new w3 (.cells #[.string hd] 9)); simpa using h
          case ya3 => simp [Value.oneCell']
          case ya4 => unfold maxLen; omega
          case ya5 => omega
          intro g1 o1 c1 w4 hrow hgrow hat hlt'
          have R1 : Hid (RowS w2 w4 (.slice (some ⟨g1, o1, none⟩) (0 + 1) c1) ((([] : List ByteArray)) ++ [hd])) := Lib.hid (R0.out.add (q := [hd]) ((Chg.refl _ w3).alloc _) hrow (by simp) hgrow (fun b hb => by
            have hq := own_some hb
            rcases hat with e | e
            · exact .inl (by rw [← hq]; exact e)
            · exact .inr (by rw [← hq]; simpa using e)))
          clear hrow hgrow hat hlt' a0 a1 a2 a3 a4 ah
          have hbW := HCB.out _ R1.out.chg
          have a0 := cell_of hbW 0
          have a1 := cell_of hbW 1
          have a2 := cell_of hbW 2
          have a3 := cell_of hbW 3
          have a4 := cell_of hbW 4
          have ah := HCH.out _ R1.out.chg
          clear hbW
          go_wp2_with (at_builtin; refine wpList_append_strs _ rfl _ _ 22 rfl 9 iS _ 16 hwl hj0 hj1 hj2 hj3 rfl (.slice (some ⟨g1, o1, none⟩) 1 c1) (1) ((([] : List ByteArray) ++ [hd]).map Value.string) rfl ?ya1 (.slice an ln cn) ns ln rfl ?ya2 HLN.out ?ya4 ?ya5 _ rfl ?_)
          case ya1 => exact R1.out.row
          case ya2 => exact HNS.out.kept (HC2.out.trans R1.out.chg)
          case ya4 => unfold maxLen; omega
          case ya5 => omega
          intro ad9 c9 w9 hrow hgrow hat
          have R9 : Hid (RowS w2 w9 (.slice ad9 (1 + ln) c9) ((([] : List ByteArray) ++ [hd]) ++ ns)) := Lib.hid (R1.out.add (q := ns) (Chg.refl _ w4) hrow (by rw [HLN.out]; simp) hgrow (fun b hb => (hat b hb).1))
          clear hrow hgrow hat a0 a1 a2 a3 a4 ah
          have hbW := HCB.out _ R9.out.chg
          have a0 := cell_of hbW 0
          have a1 := cell_of hbW 1
          have a2 := cell_of hbW 2
          have a3 := cell_of hbW 3
          have a4 := cell_of hbW 4
          have ah := HCH.out _ R9.out.chg
          clear hbW
          have hplx : (([] : List ByteArray) ++ [hd] ++ ns) = pl := by
            rw [← HPL.out]
            unfold partsL
            rw [HHD.out, one_ne hz2.out, HTN.out, if_neg HK6.out]
            all_goals simp
          have RA := Lib.hid R9.out
          rw [hplx] at RA
          have hpl4 : pl.length ≤ 5 := by
            have := HLN.out
            rw [← hplx]
            simp
            all_goals omega
          have HP4 := Lib.hid hpl4
          clear hplx hpl4
          go_wp2_with fail
          go_loopg [4, 71] (m + 1) (fun g vo vi wr => ∃ (j : Nat), vi = .int .i64 j ∧ j ≤ m ∧ m < g + j ∧ Hid (RowS w2 wr vo (pl ++ refsL (x.kids.take j))))
          case atStart => exact ⟨0, rfl, by omega, by omega, Lib.hid (by rw [List.take_zero]; simpa [refsL] using RA.out)⟩
          case round =>
            obtain ⟨j, rfl, hj, hg, hR⟩ := hrel
            have HCW := Lib.hid (HC2.out.trans hR.out.chg)
            have hbW := HCB.out _ hR.out.chg
            have a0 := cell_of hbW 0
            have a1 := cell_of hbW 1
            have a2 := cell_of hbW 2
            have a3 := cell_of hbW 3
            have a4 := cell_of hbW 4
            clear hbW
            by_cases hlt : j < m
            · obtain ⟨gk', rfl⟩ : ∃ q, gk = q + 1 := ⟨gk - 1, by omega⟩
              obtain ⟨b, off, nv', kv', y, rfl, hy, hym, c0, c1, c2, c3, c4, hin⟩ := kid_cells (HKK.out.kept HCW.out) j (by rw [HM.out]; exact hlt)
              have hst := refsL_take x.kids j y hy
              obtain ⟨q, hq⟩ := refs_app x.kids (j + 1)
              have hpc := piece_le (pl ++ refsL x.kids) ⟨(refL y).toArray⟩ (by rw [hq, hst]; simp)
              rw [mk_size] at hpc
              have hjl := HJL.out
              have HS := Lib.hid (HIH.out y hym nv' kv' (d + 1) wr hin (right_kid HRT.out y hym) (HLT.out.kid y hym) (HSM.out.kid y hym) (by omega))
              unfold ndV at HS
              obtain ⟨an', cn', ak', ck', rfl, rfl, _⟩ := hin.forms
              have i0 : (0 : Int) ≤ (j : Int) := by omega
              have im : (j : Int) < (m : Int) := by omega
              obtain ⟨ys, hys⟩ : ∃ ys : ByteArray, (⟨(refL y).toArray⟩ : ByteArray) = ys := ⟨_, rfl⟩
              rw [hys] at HS hst
              obtain ⟨og, hog⟩ : ∃ og, pl ++ refsL (x.kids.take j) = og := ⟨_, rfl⟩
              rw [hog] at hR
              have HNX : Hid (pl ++ refsL (x.kids.take (j + 1)) = og ++ [ys]) := Lib.hid (by rw [hst, ← List.append_assoc, hog])
              have hol : og.length ≤ 5 + 1048576 := by
                rw [← hog, List.length_append]
                have h1 := refs_le x.kids j
                rw [HM.out] at h1
                have h2 := HP4.out
                omega
              clear hy hym hin hst hq hpc hjl hys hog
              go_wp2_with fail
              refine HS.out.mono ?_
              rintro e w5 ⟨rfl, hC5⟩
              have HR5 := Lib.hid (hR.out.later hC5)
              clear hC5 HS c0 c1 c2 c3 c4 a0 a1 a2 a3 a4
              go_wp2_with (at_builtin; refine wpList_append_row _ rfl _ _ 22 rfl 9 iS _ 1 16 hwl hj0 hj1 hj2 hj3 rfl (by decide) u4 og.length (og.map Value.string) rfl ?ya1 ⟨w5.heap.size, 0, none⟩ 1 1 [.string ys] rfl rfl ?ya2 ?ya3 (by decide) ?ya4 ?ya5 _ rfl ?_)
              case ya1 => exact HR5.out.row.kept ((Chg.refl (fun _ => False) w5).alloc _) (fun _ _ h => h)
              case ya2 => have h := World.news_of_block (blk_new w5 (.cells #[.string ys] 9)); simpa using h
              case ya3 => simp [Value.oneCell']
              case ya4 => unfold maxLen; omega
              case ya5 => omega
              intro gg off2 cap2 w6 hrow hgrow hat hlt'
              have R6 : Hid (RowS w2 w6 (.slice (some ⟨gg, off2, none⟩) (og.length + 1) cap2) (pl ++ refsL (x.kids.take (j + 1)))) := Lib.hid (by
                rw [HNX.out]
                refine HR5.out.add (q := [ys]) ((Chg.refl _ w5).alloc _) hrow (by simp) hgrow (fun b hb => ?_)
                have hq := own_some hb
                rcases hat with e | e
                · exact .inl (by rw [← hq]; exact e)
                · exact .inr (by rw [← hq]; simpa using e))
              clear hrow hgrow hat hlt'
              go_wp2_with fail
              go_roundg gk'
              case measure => omega
              case rel => exact ⟨j + 1, by go_num, by omega, by omega, R6⟩
            · obtain rfl : j = m := by omega
              have hkk : ¬ (j : Int) < (j : Int) := by omega
              have hall : x.kids.take j = x.kids := List.take_of_length_le (by rw [HM.out]; exact Nat.le_refl _)
              have hRW := hR.out.row
              rw [hall] at hRW
              obtain ⟨fl, hfl⟩ : ∃ fl, joinL (pl ++ refsL x.kids) = fl := ⟨_, rfl⟩
              have hjl := HJL.out
              have HJN := Lib.hid (rjoin_calls (pl ++ refsL x.kids) _ wr (row_strs hRW) (by omega))
              obtain ⟨fs, hfs⟩ : ∃ fs : ByteArray, (⟨fl.toArray⟩ : ByteArray) = fs := ⟨_, rfl⟩
              have hfz : fs.size ≤ 70368744177664 := by rw [← hfs, mk_size, ← hfl]; omega
              rw [hfl, hfs] at HJN
              have HFS : Hid ((⟨#[40]⟩ : ByteArray) ++ fs ++ ⟨#[41]⟩ = ⟨p.toArray⟩) := Lib.hid (by
                rw [← HPP.out, hfl, ← hfs]
                apply ByteArray.ext
                simp)
              clear hall hRW hfl hjl hfs hR a0 a1 a2 a3 a4
              go_wp2_with fail
              refine HJN.out.mono ?_
              rintro e w5 ⟨rfl, hq⟩
              have HC5 : Hid (Chg (fun _ => False) w w5) := Lib.hid (by rw [hq]; exact HCW.out)
              clear hq HJN HCW
              go_wp2_with fail
              go_ret
              exact ⟨tup _ _ HFS.out, HC5.out⟩
        · have hz1 : hd.toList.isEmpty = false := empty_ne hne
          have hz2 := Lib.hid hne
          clear hne
          have tz1 : tx.toList.isEmpty = false := empty_ne tne
          have tz2 := Lib.hid tne
          clear tne
          have hbW := HCB.out _ R0.out.chg
          have b0 := cell_of hbW 0
          have b1 := cell_of hbW 1
          have b2 := cell_of hbW 2
          have b3 := cell_of hbW 3
          have b4 := cell_of hbW 4
          have ah := HCH.out _ R0.out.chg
          clear hbW
          go_wp2_with (at_builtin; refine wpList_append_row _ rfl _ _ 22 rfl 9 iS _ 1 16 hwl hj0 hj1 hj2 hj3 rfl (by decide) (.slice (some ⟨w2.heap.size, 0, none⟩) 0 0) (0) ((([] : List ByteArray)).map Value.string) rfl ?ya1 ⟨w3.heap.size, 0, none⟩ 1 1 [.string hd] rfl rfl ?ya2 ?ya3 (by decide) ?ya4 ?ya5 _ rfl ?_)
          case ya1 => exact R0.out.row.kept ((Chg.refl (fun _ => False) w3).alloc _) (fun _ _ h => h)
          case ya2 => have h := World.news_of_block (blk_new w3 (.cells #[.string hd] 9)); simpa using h
          case ya3 => simp [Value.oneCell']
          case ya4 => unfold maxLen; omega
          case ya5 => omega
          intro g1 o1 c1 w4 hrow hgrow hat hlt'
          have R1 : Hid (RowS w2 w4 (.slice (some ⟨g1, o1, none⟩) (0 + 1) c1) ((([] : List ByteArray)) ++ [hd])) := Lib.hid (R0.out.add (q := [hd]) ((Chg.refl _ w3).alloc _) hrow (by simp) hgrow (fun b hb => by
            have hq := own_some hb
            rcases hat with e | e
            · exact .inl (by rw [← hq]; exact e)
            · exact .inr (by rw [← hq]; simpa using e)))
          clear hrow hgrow hat hlt' a0 a1 a2 a3 a4 ah
          have hbW := HCB.out _ R1.out.chg
          have a0 := cell_of hbW 0
          have a1 := cell_of hbW 1
          have a2 := cell_of hbW 2
          have a3 := cell_of hbW 3
          have a4 := cell_of hbW 4
          have ah := HCH.out _ R1.out.chg
          clear hbW
          go_wp2_with (at_builtin; refine wpList_append_row _ rfl _ _ 22 rfl 9 iS _ 1 16 hwl hj0 hj1 hj2 hj3 rfl (by decide) (.slice (some ⟨g1, o1, none⟩) 1 c1) (1) ((([] : List ByteArray) ++ [hd]).map Value.string) rfl ?ya1 ⟨w4.heap.size, 0, none⟩ 1 1 [.string tx] rfl rfl ?ya2 ?ya3 (by decide) ?ya4 ?ya5 _ rfl ?_)
          case ya1 => exact R1.out.row.kept ((Chg.refl (fun _ => False) w4).alloc _) (fun _ _ h => h)
          case ya2 => have h := World.news_of_block (blk_new w4 (.cells #[.string tx] 9)); simpa using h
          case ya3 => simp [Value.oneCell']
          case ya4 => unfold maxLen; omega
          case ya5 => omega
          intro g2 o2 c2 w5 hrow hgrow hat hlt'
          have R2 : Hid (RowS w2 w5 (.slice (some ⟨g2, o2, none⟩) (1 + 1) c2) ((([] : List ByteArray) ++ [hd]) ++ [tx])) := Lib.hid (R1.out.add (q := [tx]) ((Chg.refl _ w4).alloc _) hrow (by simp) hgrow (fun b hb => by
            have hq := own_some hb
            rcases hat with e | e
            · exact .inl (by rw [← hq]; exact e)
            · exact .inr (by rw [← hq]; simpa using e)))
          clear hrow hgrow hat hlt' a0 a1 a2 a3 a4 ah
          have hbW := HCB.out _ R2.out.chg
          have a0 := cell_of hbW 0
          have a1 := cell_of hbW 1
          have a2 := cell_of hbW 2
          have a3 := cell_of hbW 3
          have a4 := cell_of hbW 4
          have ah := HCH.out _ R2.out.chg
          clear hbW
          go_wp2_with (at_builtin; refine wpList_append_strs _ rfl _ _ 22 rfl 9 iS _ 16 hwl hj0 hj1 hj2 hj3 rfl (.slice (some ⟨g2, o2, none⟩) 2 c2) (2) ((([] : List ByteArray) ++ [hd] ++ [tx]).map Value.string) rfl ?ya1 (.slice an ln cn) ns ln rfl ?ya2 HLN.out ?ya4 ?ya5 _ rfl ?_)
          case ya1 => exact R2.out.row
          case ya2 => exact HNS.out.kept (HC2.out.trans R2.out.chg)
          case ya4 => unfold maxLen; omega
          case ya5 => omega
          intro ad9 c9 w9 hrow hgrow hat
          have R9 : Hid (RowS w2 w9 (.slice ad9 (2 + ln) c9) ((([] : List ByteArray) ++ [hd] ++ [tx]) ++ ns)) := Lib.hid (R2.out.add (q := ns) (Chg.refl _ w5) hrow (by rw [HLN.out]; simp) hgrow (fun b hb => (hat b hb).1))
          clear hrow hgrow hat a0 a1 a2 a3 a4 ah
          have hbW := HCB.out _ R9.out.chg
          have a0 := cell_of hbW 0
          have a1 := cell_of hbW 1
          have a2 := cell_of hbW 2
          have a3 := cell_of hbW 3
          have a4 := cell_of hbW 4
          have ah := HCH.out _ R9.out.chg
          clear hbW
          have hplx : (([] : List ByteArray) ++ [hd] ++ [tx] ++ ns) = pl := by
            rw [← HPL.out]
            unfold partsL
            rw [HHD.out, one_ne hz2.out, one_ne tz2.out, if_neg HK6.out]
            all_goals simp
          have RA := Lib.hid R9.out
          rw [hplx] at RA
          have hpl4 : pl.length ≤ 5 := by
            have := HLN.out
            rw [← hplx]
            simp
            all_goals omega
          have HP4 := Lib.hid hpl4
          clear hplx hpl4
          go_wp2_with fail
          go_loopg [4, 71] (m + 1) (fun g vo vi wr => ∃ (j : Nat), vi = .int .i64 j ∧ j ≤ m ∧ m < g + j ∧ Hid (RowS w2 wr vo (pl ++ refsL (x.kids.take j))))
          case atStart => exact ⟨0, rfl, by omega, by omega, Lib.hid (by rw [List.take_zero]; simpa [refsL] using RA.out)⟩
          case round =>
            obtain ⟨j, rfl, hj, hg, hR⟩ := hrel
            have HCW := Lib.hid (HC2.out.trans hR.out.chg)
            have hbW := HCB.out _ hR.out.chg
            have a0 := cell_of hbW 0
            have a1 := cell_of hbW 1
            have a2 := cell_of hbW 2
            have a3 := cell_of hbW 3
            have a4 := cell_of hbW 4
            clear hbW
            by_cases hlt : j < m
            · obtain ⟨gk', rfl⟩ : ∃ q, gk = q + 1 := ⟨gk - 1, by omega⟩
              obtain ⟨b, off, nv', kv', y, rfl, hy, hym, c0, c1, c2, c3, c4, hin⟩ := kid_cells (HKK.out.kept HCW.out) j (by rw [HM.out]; exact hlt)
              have hst := refsL_take x.kids j y hy
              obtain ⟨q, hq⟩ := refs_app x.kids (j + 1)
              have hpc := piece_le (pl ++ refsL x.kids) ⟨(refL y).toArray⟩ (by rw [hq, hst]; simp)
              rw [mk_size] at hpc
              have hjl := HJL.out
              have HS := Lib.hid (HIH.out y hym nv' kv' (d + 1) wr hin (right_kid HRT.out y hym) (HLT.out.kid y hym) (HSM.out.kid y hym) (by omega))
              unfold ndV at HS
              obtain ⟨an', cn', ak', ck', rfl, rfl, _⟩ := hin.forms
              have i0 : (0 : Int) ≤ (j : Int) := by omega
              have im : (j : Int) < (m : Int) := by omega
              obtain ⟨ys, hys⟩ : ∃ ys : ByteArray, (⟨(refL y).toArray⟩ : ByteArray) = ys := ⟨_, rfl⟩
              rw [hys] at HS hst
              obtain ⟨og, hog⟩ : ∃ og, pl ++ refsL (x.kids.take j) = og := ⟨_, rfl⟩
              rw [hog] at hR
              have HNX : Hid (pl ++ refsL (x.kids.take (j + 1)) = og ++ [ys]) := Lib.hid (by rw [hst, ← List.append_assoc, hog])
              have hol : og.length ≤ 5 + 1048576 := by
                rw [← hog, List.length_append]
                have h1 := refs_le x.kids j
                rw [HM.out] at h1
                have h2 := HP4.out
                omega
              clear hy hym hin hst hq hpc hjl hys hog
              go_wp2_with fail
              refine HS.out.mono ?_
              rintro e w5 ⟨rfl, hC5⟩
              have HR5 := Lib.hid (hR.out.later hC5)
              clear hC5 HS c0 c1 c2 c3 c4 a0 a1 a2 a3 a4
              go_wp2_with (at_builtin; refine wpList_append_row _ rfl _ _ 22 rfl 9 iS _ 1 16 hwl hj0 hj1 hj2 hj3 rfl (by decide) u4 og.length (og.map Value.string) rfl ?ya1 ⟨w5.heap.size, 0, none⟩ 1 1 [.string ys] rfl rfl ?ya2 ?ya3 (by decide) ?ya4 ?ya5 _ rfl ?_)
              case ya1 => exact HR5.out.row.kept ((Chg.refl (fun _ => False) w5).alloc _) (fun _ _ h => h)
              case ya2 => have h := World.news_of_block (blk_new w5 (.cells #[.string ys] 9)); simpa using h
              case ya3 => simp [Value.oneCell']
              case ya4 => unfold maxLen; omega
              case ya5 => omega
              intro gg off2 cap2 w6 hrow hgrow hat hlt'
              have R6 : Hid (RowS w2 w6 (.slice (some ⟨gg, off2, none⟩) (og.length + 1) cap2) (pl ++ refsL (x.kids.take (j + 1)))) := Lib.hid (by
                rw [HNX.out]
                refine HR5.out.add (q := [ys]) ((Chg.refl _ w5).alloc _) hrow (by simp) hgrow (fun b hb => ?_)
                have hq := own_some hb
                rcases hat with e | e
                · exact .inl (by rw [← hq]; exact e)
                · exact .inr (by rw [← hq]; simpa using e))
              clear hrow hgrow hat hlt'
              go_wp2_with fail
              go_roundg gk'
              case measure => omega
              case rel => exact ⟨j + 1, by go_num, by omega, by omega, R6⟩
            · obtain rfl : j = m := by omega
              have hkk : ¬ (j : Int) < (j : Int) := by omega
              have hall : x.kids.take j = x.kids := List.take_of_length_le (by rw [HM.out]; exact Nat.le_refl _)
              have hRW := hR.out.row
              rw [hall] at hRW
              obtain ⟨fl, hfl⟩ : ∃ fl, joinL (pl ++ refsL x.kids) = fl := ⟨_, rfl⟩
              have hjl := HJL.out
              have HJN := Lib.hid (rjoin_calls (pl ++ refsL x.kids) _ wr (row_strs hRW) (by omega))
              obtain ⟨fs, hfs⟩ : ∃ fs : ByteArray, (⟨fl.toArray⟩ : ByteArray) = fs := ⟨_, rfl⟩
              have hfz : fs.size ≤ 70368744177664 := by rw [← hfs, mk_size, ← hfl]; omega
              rw [hfl, hfs] at HJN
              have HFS : Hid ((⟨#[40]⟩ : ByteArray) ++ fs ++ ⟨#[41]⟩ = ⟨p.toArray⟩) := Lib.hid (by
                rw [← HPP.out, hfl, ← hfs]
                apply ByteArray.ext
                simp)
              clear hall hRW hfl hjl hfs hR a0 a1 a2 a3 a4
              go_wp2_with fail
              refine HJN.out.mono ?_
              rintro e w5 ⟨rfl, hq⟩
              have HC5 : Hid (Chg (fun _ => False) w w5) := Lib.hid (by rw [hq]; exact HCW.out)
              clear hq HJN HCW
              go_wp2_with fail
              go_ret
              exact ⟨tup _ _ HFS.out, HC5.out⟩
end Go.Proofs.YtaklmocjaokkpaaGreatDoor.Tr
