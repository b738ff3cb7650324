/- The document's example, walked; no condition. -/
import Derived.Test.YtkidnmjaioejaaaSegAbs
namespace Go.Proofs.Ytkidnmjaioejaaa.Sg
set_option linter.unusedVariables false
set_option linter.unusedSimpArgs false
open Go.RowKit Go.Proofs.Ytkidnmjaioejaaa.Mem

theorem After.chg0 {w0 w w' : World} {B B' : List Nat} (h : After w w' B B') (hc : Chg (fun _ => False) w0 w) (hB : ∀ j ∈ B, w0.heap.size ≤ j) : Chg (fun _ => False) w0 w' ∧ ∀ j ∈ B', w0.heap.size ≤ j :=
  ⟨hc.andThen h.chg (fun j hj e => by have := hB j e; omega), fun j hj => by
    rcases h.new j hj with h1 | h1
    · exact hB j h1
    · have := hc.size; omega⟩
theorem markAt_awake : markAt [fr 1, mk 7, fr 2] 0 = some 1 := by decide
set_option maxHeartbeats 4000000 in
theorem awake_calls (w : World) : Calls Try.prog 24 #[] w fun e w' => e = .returned (.bool true) ∧ Chg (fun _ => False) w w' := by
  go_enter Try.func24, Try.ntmps24
  have HN := Lib.hid (new_abs w)
  go_wp2_with fail
  refine HN.out.mono ?_
  clear HN
  rintro e w1 ⟨rfl, h1, hC1⟩
  have hF1 : ∀ j ∈ [w.heap.size], w.heap.size ≤ j := by simp
  obtain ⟨s, hs⟩ : ∃ s, w.heap.size = s := ⟨_, rfl⟩
  rw [hs] at h1 ⊢
  have HP := Lib.hid (push_abs h1 1 (by simp))
  have HC1 := Lib.hid hC1
  clear h1 hC1
  go_wp2_with fail
  refine HP.out.mono ?_
  clear HP
  rintro e w2 ⟨⟨u2, rfl⟩, F2, h2, a2⟩
  have HM := Lib.hid (mark_abs h2 7 (by simp))
  obtain ⟨hC2, hF2⟩ := a2.chg0 HC1.out (by simp [hs])
  have HC2 := Lib.hid hC2
  clear h2 a2 hC2
  go_wp2_with fail
  refine HM.out.mono ?_
  clear HM
  rintro e w3 ⟨⟨u3, rfl⟩, F3, h3, a3⟩
  have HP := Lib.hid (push_abs h3 2 (by simp))
  obtain ⟨hC3, hF3⟩ := a3.chg0 HC2.out hF2
  have HC3 := Lib.hid hC3
  clear h3 a3 hC3
  go_wp2_with fail
  refine HP.out.mono ?_
  clear HP
  rintro e w4 ⟨⟨u4, rfl⟩, F4, h4, a4⟩
  have HU := Lib.hid (cut_abs h4 0 1 markAt_awake)
  obtain ⟨hC4, hF4⟩ := a4.chg0 HC3.out hF3
  have HC4 := Lib.hid hC4
  clear h4 a4 hC4
  go_wp2_with fail
  refine HU.out.mono ?_
  clear HU
  rintro e w5 ⟨p, F5, Fp, rfl, h5, hp, hnd, a5⟩
  have HI := Lib.hid (items_abs hp)
  obtain ⟨hC5, hF5⟩ := a5.chg0 HC4.out hF4
  have HC5 := Lib.hid hC5
  have H5 := Lib.hid h5
  clear h5 a5 hC5 hp hnd
  go_wp2_with fail
  refine HI.out.mono ?_
  clear HI
  rintro e w6 ⟨v, rfl, hv, hC6, hvo⟩
  have HT := Lib.hid (top_abs (H5.out.chg hC6 (fun _ _ h => h)))
  have HC6 := Lib.hid (HC5.out.trans hC6)
  have hv' : RowAt w6 83 3 v 2 [.bool false, .int .i64 2, .int .i64 0, .bool true, .int .i64 0, .int .i64 7] := hv
  obtain ⟨g, off, cap, rfl, hcap⟩ := hv'.formS (by omega)
  have c0 := hv'.cell 0 (by omega)
  have c1 := hv'.cell 1 (by omega)
  have c2 := hv'.cell 2 (by omega)
  have c3 := hv'.cell 3 (by omega)
  have c4 := hv'.cell 4 (by omega)
  have c5 := hv'.cell 5 (by omega)
  simp only [List.getElem?_cons_zero, List.getElem?_cons_succ, Nat.add_zero] at c0 c1 c2 c3 c4 c5
  clear hv hv' hC6 hvo H5
  have ht : topOf (List.take 1 ([] ++ [fr 1] ++ [mk 7] ++ [fr 2])) = .tuple #[.int .i64 1, .bool true] := rfl
  rw [ht] at HT
  clear ht
  go_wp2_with fail
  refine HT.out.mono ?_
  clear HT
  rintro e w7 ⟨rfl, md, rfl⟩
  go_wp2_with fail
  go_ret
  exact ⟨rfl, HC6.out.drewN _⟩
end Go.Proofs.Ytkidnmjaioejaaa.Sg
