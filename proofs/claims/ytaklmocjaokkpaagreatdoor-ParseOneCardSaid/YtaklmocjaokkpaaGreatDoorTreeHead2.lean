/- The word that a node's text begins with, and the names behind it: the program's head, walked. Condition: a clause of kind return has a name; that text is of at most 2^46 bytes. -/
import Derived.Test.YtaklmocjaokkpaaGreatDoorTreeHead
namespace Go.Proofs.YtaklmocjaokkpaaGreatDoor.Tr
set_option linter.unusedVariables false
set_option linter.unusedSimpArgs false
open Go.RowKit Go.Shelf Go.Proofs.YtaklmocjaokkpaaGreatDoor.Mem

theorem head6 (t : List UInt8) (ns : List ByteArray) : headL 6 t ns = [102, 117, 110, 32] ++ t ++ [32, 40] ++ joinL ns ++ [41] := rfl
theorem head7 (t : List UInt8) (ns : List ByteArray) : headL 7 t ns = [99, 97, 108, 108] := rfl
theorem head8 (t : List UInt8) (ns : List ByteArray) : headL 8 t ns = [108, 101, 116, 32] ++ t := rfl
theorem head9 (t : List UInt8) (ns : List ByteArray) : headL 9 t ns = [105, 102] := rfl
theorem head10 (t : List UInt8) (ns : List ByteArray) : headL 10 t ns = [100, 111] := rfl
theorem head12 (t : List UInt8) (ns : List ByteArray) : headL 12 t ns = [112, 101, 114, 102, 111, 114, 109, 32] ++ t := rfl
theorem head13 (t : List UInt8) (ns : List ByteArray) : headL 13 t ns = [104, 97, 110, 100, 108, 101] := rfl
theorem head14 (t : List UInt8) (ns : List ByteArray) : headL 14 t ns = [114, 101, 115, 117, 109, 101] := rfl
theorem head15 (t : List UInt8) (ns : List ByteArray) : headL 15 t ns = [100, 114, 111, 112] := rfl
theorem head16 (t : List UInt8) (ns : List ByteArray) : headL 16 t ns = [119, 105, 110, 100] := rfl
theorem head17 (t : List UInt8) (ns : List ByteArray) : headL 17 t ns = [114, 101, 116, 117, 114, 110, 32] ++ firstL ns := rfl
theorem head18 (t : List UInt8) (ns : List ByteArray) : headL 18 t ns = [111, 110, 32] ++ t ++ [32] ++ joinL ns := rfl
theorem head19 (t : List UInt8) (ns : List ByteArray) : headL 19 t ns = [102, 105, 110, 97, 108, 108, 121] := rfl
theorem head_else {k : Nat} (t : List UInt8) (ns : List ByteArray) (h6 : ¬ k = 6) (h7 : ¬ k = 7) (h8 : ¬ k = 8) (h9 : ¬ k = 9) (h10 : ¬ k = 10) (h12 : ¬ k = 12) (h13 : ¬ k = 13) (h14 : ¬ k = 14) (h15 : ¬ k = 15) (h16 : ¬ k = 16) (h17 : ¬ k = 17) (h18 : ¬ k = 18) (h19 : ¬ k = 19) : headL k t ns = t := by
  unfold headL
  simp only [h6, h7, h8, h9, h10, h12, h13, h14, h15, h16, h17, h18, h19, if_false]
theorem bl_len (s : ByteArray) : (bl s).length = s.size := by
  show s.data.toList.length = s.data.size
  exact Array.length_toList
theorem join_many (ns : List ByteArray) : ns.length ≤ (joinL ns).length + 1 := by
  cases ns with
  | nil => simp
  | cons x l =>
    unfold joinL
    rw [List.map_cons, Lib.join_length]
    simp
theorem tup (a b : ByteArray) (h : a = b) : Ending.returned (Value.string a) = Ending.returned (Value.string b) := by rw [h]
theorem ba_mk (l : List UInt8) (s : ByteArray) (h : s.data.toList = l) : s = ⟨l.toArray⟩ := (bytes_eq s l).1 h
set_option maxRecDepth 100000 in
set_option maxHeartbeats 4000000 in
theorem head_calls (x : Nd) (nv kv : Value) (w : World) (h : NdIn w nv kv x) (h17 : x.kind = 17 → x.names.length = 1) (hl : (headL x.kind (bl x.text) x.names).length ≤ 70368744177664) :
    Calls Tryz.prog 62 #[ndV x nv kv] w fun e w' => e = .returned (.string ⟨(headL x.kind (bl x.text) x.names).toArray⟩) ∧ Chg (fun _ => False) w w' := by
  obtain ⟨w1, hw1⟩ : ∃ w1, w.alloc (ndBox x nv kv) = w1 := ⟨_, rfl⟩
  have hC1 : Chg (fun _ => False) w w1 := by rw [← hw1]; exact (Chg.refl _ w).alloc _
  have hb : w1.heap[w.heap.size]? = some (ndBox x nv kv) := by rw [← hw1]; exact blk_new w _
  have HB := Lib.hid hb
  have HC := Lib.hid hC1
  have HN := Lib.hid (h.names.kept hC1)
  have HJ : ∀ k, k = x.kind → (k = 6 ∨ k = 18) → Hid (∀ W, Chg (fun _ => False) w W → Calls Tryz.prog 83 #[nv, .string ⟨#[32]⟩] W fun e w' => e = .returned (.string ⟨(joinL x.names).toArray⟩) ∧ Chg (fun _ => False) W w') := fun k hk hkk => Lib.hid fun W hW => by
    have h1 : (joinL x.names).length ≤ 70368744177664 := by
      rw [← hk] at hl
      rcases hkk with e | e
      · subst e; rw [head6] at hl; simp only [List.length_append] at hl; omega
      · subst e; rw [head18] at hl; simp only [List.length_append] at hl; omega
    have h2 := join_many x.names
    exact join_calls x.names nv W (h.names.kept hW) (by omega) (by omega)
  have hkb := h.kind
  obtain ⟨an, cn, ak, ck, rfl, rfl, _⟩ := h.forms
  obtain ⟨kd, hkd⟩ : ∃ kd, x.kind = kd := ⟨_, rfl⟩
  obtain ⟨tx, htx⟩ : ∃ tx, x.text = tx := ⟨_, rfl⟩
  obtain ⟨ns, hns⟩ : ∃ ns, x.names = ns := ⟨_, rfl⟩
  obtain ⟨ln, hln⟩ : ∃ ln, ns.length = ln := ⟨_, rfl⟩
  unfold ndBox at HB hw1
  unfold ndV
  rw [hkd, htx, hns, hln] at HB hw1
  rw [hkd, htx, hns] at hl ⊢
  rw [hln]
  rw [hkd] at hkb h17 HJ
  rw [hns, hln] at h17 HN HJ
  have a0 := cell_of HB.out 0
  have a2 := cell_of HB.out 2
  have a3 := cell_of HB.out 3
  clear h hC1 hb hkd htx hns
  have HBX : Hid (∀ W, Chg (fun _ => False) w1 W → W.cell? ⟨w.heap.size, 2, none⟩ = some (.string tx)) := Lib.hid fun W hW => hW.cell (cell_of HB.out 2) (fun e => e)
  have HLN := Lib.hid hln
  clear hln
  obtain ⟨z, hz⟩ : ∃ z : Int, (kd : Int) = z := ⟨_, rfl⟩
  rw [hz] at HB hw1 a0 ⊢
  have key : kd = 6 ∨ kd = 7 ∨ kd = 8 ∨ kd = 9 ∨ kd = 10 ∨ kd = 12 ∨ kd = 13 ∨ kd = 14 ∨ kd = 15 ∨ kd = 16 ∨ kd = 17 ∨ kd = 18 ∨ kd = 19 ∨ (¬ kd = 6 ∧ ¬ kd = 7 ∧ ¬ kd = 8 ∧ ¬ kd = 9 ∧ ¬ kd = 10 ∧ ¬ kd = 12 ∧ ¬ kd = 13 ∧ ¬ kd = 14 ∧ ¬ kd = 15 ∧ ¬ kd = 16 ∧ ¬ kd = 17 ∧ ¬ kd = 18 ∧ ¬ kd = 19) := by omega
  rcases key with rfl | rfl | rfl | rfl | rfl | rfl | rfl | rfl | rfl | rfl | rfl | rfl | rfl | ⟨h6, h7, h8, h9, h10, h12, h13, h14, h15, h16, h17', h18, h19⟩
  · obtain rfl : z = 6 := by rw [← hz]; rfl
    clear hz
    rw [head6] at hl ⊢
    have HJ1 := HJ 6 rfl (by decide)
    clear HJ h17
    have htz : tx.size ≤ 70368744177664 := by rw [← bl_len]; simp only [List.length_append] at hl; omega
    have hjz : (joinL ns).length ≤ 70368744177664 := by simp only [List.length_append] at hl; omega
    obtain ⟨jl, hjl⟩ : ∃ jl, joinL ns = jl := ⟨_, rfl⟩
    obtain ⟨js, hjs⟩ : ∃ js : ByteArray, ⟨jl.toArray⟩ = js := ⟨_, rfl⟩
    rw [hjl] at HJ1 hjz ⊢
    rw [hjs] at HJ1
    have hjz2 : js.size ≤ 70368744177664 := by rw [← hjs]; exact hjz
    have HJS := Lib.hid hjs
    clear hjs hjl hl hjz
    go_enter Tryz.func62, Tryz.ntmps62
    go_wp2_with fail
    go_region_with (go_at_call 83; refine (HJ1.out _ (by first | exact HC.out | exact HC.out.drew | exact HC.out.drew.drew)).mono ?_; rintro e wj ⟨rfl, hcj⟩; have a2j := HBX.out _ (by first | exact hcj | exact ((Chg.refl _ w1).drew).trans hcj | exact ((Chg.refl _ w1).drew.drew).trans hcj))
    all_goals try go_wp2_with fail
    all_goals
      go_ret
      refine ⟨tup _ _ (ba_mk _ _ ?_), ?_⟩
      · rw [← HJS.out]; simp [bl]
      · first | exact HC.out.trans hcj | exact (HC.out.drew).trans hcj | exact ((HC.out.drew).trans hcj).drew | exact (HC.out.trans hcj).drew | exact ((HC.out.drew.drew).trans hcj)
  · obtain rfl : z = 7 := by rw [← hz]; rfl
    clear hz
    rw [head7]
    clear HJ h17
    go_enter Tryz.func62, Tryz.ntmps62
    go_wp2_with fail
    go_ret
    exact ⟨rfl, HC.out⟩
  · obtain rfl : z = 8 := by rw [← hz]; rfl
    clear hz
    rw [head8] at hl ⊢
    clear HJ h17
    have htz : tx.size ≤ 70368744177664 := by rw [← bl_len]; simp only [List.length_append] at hl; omega
    go_enter Tryz.func62, Tryz.ntmps62
    go_wp2_with fail
    go_ret
    exact ⟨tup _ _ (ba_mk _ _ (by simp [bl])), HC.out⟩
  · obtain rfl : z = 9 := by rw [← hz]; rfl
    clear hz
    rw [head9]
    clear HJ h17
    go_enter Tryz.func62, Tryz.ntmps62
    go_wp2_with fail
    go_ret
    exact ⟨rfl, HC.out⟩
  · obtain rfl : z = 10 := by rw [← hz]; rfl
    clear hz
    rw [head10]
    clear HJ h17
    go_enter Tryz.func62, Tryz.ntmps62
    go_wp2_with fail
    go_ret
    exact ⟨rfl, HC.out⟩
  · obtain rfl : z = 12 := by rw [← hz]; rfl
    clear hz
    rw [head12] at hl ⊢
    clear HJ h17
    have htz : tx.size ≤ 70368744177664 := by rw [← bl_len]; simp only [List.length_append] at hl; omega
    go_enter Tryz.func62, Tryz.ntmps62
    go_wp2_with fail
    go_ret
    exact ⟨tup _ _ (ba_mk _ _ (by simp [bl])), HC.out⟩
  · obtain rfl : z = 13 := by rw [← hz]; rfl
    clear hz
    rw [head13]
    clear HJ h17
    go_enter Tryz.func62, Tryz.ntmps62
    go_wp2_with fail
    go_ret
    exact ⟨rfl, HC.out⟩
  · obtain rfl : z = 14 := by rw [← hz]; rfl
    clear hz
    rw [head14]
    clear HJ h17
    go_enter Tryz.func62, Tryz.ntmps62
    go_wp2_with fail
    go_ret
    exact ⟨rfl, HC.out⟩
  · obtain rfl : z = 15 := by rw [← hz]; rfl
    clear hz
    rw [head15]
    clear HJ h17
    go_enter Tryz.func62, Tryz.ntmps62
    go_wp2_with fail
    go_ret
    exact ⟨rfl, HC.out⟩
  · obtain rfl : z = 16 := by rw [← hz]; rfl
    clear hz
    rw [head16]
    clear HJ h17
    go_enter Tryz.func62, Tryz.ntmps62
    go_wp2_with fail
    go_ret
    exact ⟨rfl, HC.out⟩
  · obtain rfl : z = 17 := by rw [← hz]; rfl
    clear hz
    rw [head17] at hl ⊢
    clear HJ
    obtain rfl : ln = 1 := h17 rfl
    obtain ⟨ad, cap, e, h1, h2, h3⟩ := HN.out
    simp only [Value.slice.injEq] at e
    obtain ⟨rfl, e2, rfl⟩ := e
    clear e2
    obtain ⟨s, hs⟩ : ∃ s, ns[0]? = some s := ⟨_, List.getElem?_eq_getElem (by rw [HLN.out]; decide)⟩
    obtain ⟨b, off, rfl, hbl, c0⟩ := h3 0 s hs
    rw [Nat.add_zero] at c0
    rw [firstL_one hs] at hl ⊢
    have hsz : s.size ≤ 70368744177664 := by rw [← bl_len]; simp only [List.length_append] at hl; omega
    clear h3 h17 hs hl
    go_enter Tryz.func62, Tryz.ntmps62
    go_wp2_with fail
    go_ret
    exact ⟨tup _ _ (ba_mk _ _ (by simp [bl])), HC.out⟩
  · obtain rfl : z = 18 := by rw [← hz]; rfl
    clear hz
    rw [head18] at hl ⊢
    have HJ1 := HJ 18 rfl (by decide)
    clear HJ h17
    have htz : tx.size ≤ 70368744177664 := by rw [← bl_len]; simp only [List.length_append] at hl; omega
    have hjz : (joinL ns).length ≤ 70368744177664 := by simp only [List.length_append] at hl; omega
    obtain ⟨jl, hjl⟩ : ∃ jl, joinL ns = jl := ⟨_, rfl⟩
    obtain ⟨js, hjs⟩ : ∃ js : ByteArray, ⟨jl.toArray⟩ = js := ⟨_, rfl⟩
    rw [hjl] at HJ1 hjz ⊢
    rw [hjs] at HJ1
    have hjz2 : js.size ≤ 70368744177664 := by rw [← hjs]; exact hjz
    have HJS := Lib.hid hjs
    clear hjs hjl hl hjz
    go_enter Tryz.func62, Tryz.ntmps62
    go_wp2_with fail
    go_region_with (go_at_call 83; refine (HJ1.out _ (by first | exact HC.out | exact HC.out.drew | exact HC.out.drew.drew)).mono ?_; rintro e wj ⟨rfl, hcj⟩; have a2j := HBX.out _ (by first | exact hcj | exact ((Chg.refl _ w1).drew).trans hcj | exact ((Chg.refl _ w1).drew.drew).trans hcj))
    all_goals try go_wp2_with fail
    all_goals
      go_ret
      refine ⟨tup _ _ (ba_mk _ _ ?_), ?_⟩
      · rw [← HJS.out]; simp [bl]
      · first | exact HC.out.trans hcj | exact (HC.out.drew).trans hcj | exact ((HC.out.drew).trans hcj).drew | exact (HC.out.trans hcj).drew | exact ((HC.out.drew.drew).trans hcj)
  · obtain rfl : z = 19 := by rw [← hz]; rfl
    clear hz
    rw [head19]
    clear HJ h17
    go_enter Tryz.func62, Tryz.ntmps62
    go_wp2_with fail
    go_ret
    exact ⟨rfl, HC.out⟩
  · rw [head_else _ _ h6 h7 h8 h9 h10 h12 h13 h14 h15 h16 h17' h18 h19]
    clear HJ h17
    have i6 : ¬ z = 6 := by omega
    have i7 : ¬ z = 7 := by omega
    have i8 : ¬ z = 8 := by omega
    have i9 : ¬ z = 9 := by omega
    have i10 : ¬ z = 10 := by omega
    have i12 : ¬ z = 12 := by omega
    have i13 : ¬ z = 13 := by omega
    have i14 : ¬ z = 14 := by omega
    have i15 : ¬ z = 15 := by omega
    have i16 : ¬ z = 16 := by omega
    have i17 : ¬ z = 17 := by omega
    have i18 : ¬ z = 18 := by omega
    have i19 : ¬ z = 19 := by omega
    clear h6 h7 h8 h9 h10 h12 h13 h14 h15 h16 h17' h18 h19
    go_enter Tryz.func62, Tryz.ntmps62
    go_wp2_with fail
    go_ret
    exact ⟨tup _ _ (ba_mk _ _ rfl), HC.out⟩
end Go.Proofs.YtaklmocjaokkpaaGreatDoor.Tr
