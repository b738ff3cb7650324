/- What a nil stack and a nil piece do, walked; no condition. -/
import Derived.Test.YtkidnmjaioejaaaSegMark
import Derived.Lib.SliceRun
namespace Go.Proofs.Ytkidnmjaioejaaa.Sg
set_option linter.unusedVariables false
set_option linter.unusedSimpArgs false
open Go.RowKit Go.Proofs.Ytkidnmjaioejaaa.Mem

theorem pop_nil (w : World) : Calls Try.prog 35 #[.pointer none] w fun e w' => e = .returned (.tuple #[.int .i64 0, .bool false]) ∧ Chg (fun _ => False) w w' := by
  have HT := Lib.hid (top_nil_calls w)
  go_enter Try.func35, Try.ntmps35
  go_wp2_with fail
  refine HT.out.mono ?_
  rintro e w1 ⟨rfl, hC⟩
  have HC := Lib.hid hC
  clear hC
  go_wp2_with fail
  go_ret2
  exact ⟨rfl, HC.out⟩
theorem unmark_nil (w : World) : Calls Try.prog 37 #[.pointer none] w fun e w' => e = .returned (.tuple #[.int .i64 0, .bool false]) ∧ w' = w := by
  have HT := Lib.hid (marks_nil w)
  go_enter Try.func37, Try.ntmps37
  go_wp2_with fail
  refine HT.out.mono ?_
  rintro e w1 ⟨rfl, rfl⟩
  go_wp2_with fail
  go_ret2
  exact ⟨rfl, rfl⟩
theorem label_nil (i : Int) (w : World) : Calls Try.prog 38 #[.pointer none, .int .i64 i] w fun e w' => e = .returned (.tuple #[.int .i64 0, .bool false]) ∧ w' = w := by
  have HT := Lib.hid (marks_nil w)
  by_cases hi : i < 0
  · go_enter Try.func38, Try.ntmps38
    go_wp2_with fail
    go_ret2
    exact ⟨rfl, rfl⟩
  · have h2 : (0 : Int) ≤ i := by omega
    go_enter Try.func38, Try.ntmps38
    go_wp2_with fail
    refine HT.out.mono ?_
    rintro e w1 ⟨rfl, rfl⟩
    go_wp2_with fail
    go_ret2
    exact ⟨rfl, rfl⟩
theorem cut_nil (i : Int) (w : World) : Calls Try.prog 30 #[.pointer none, .int .i64 i] w fun e w' => e = .returned (.tuple #[.pointer none, .bool false]) ∧ w' = w := by
  have HT := Lib.hid (marks_nil w)
  by_cases hi : i < 0
  · go_enter Try.func30, Try.ntmps30
    go_wp2_with fail
    go_ret2
    exact ⟨rfl, rfl⟩
  · have h2 : (0 : Int) ≤ i := by omega
    go_enter Try.func30, Try.ntmps30
    go_wp2_with fail
    refine HT.out.mono ?_
    rintro e w1 ⟨rfl, rfl⟩
    go_wp2_with fail
    go_ret2
    exact ⟨rfl, rfl⟩
theorem join_nil (v : Value) (w : World) : Calls Try.prog 32 #[.pointer none, v] w fun e w' => e = .returned (.bool false) ∧ w' = w := by
  go_enter Try.func32, Try.ntmps32
  go_wp2_with fail
  go_ret
  exact ⟨rfl, rfl⟩
theorem items_nil (w : World) : Calls Try.prog 41 #[.pointer none] w fun e w' => e = .returned (.slice none 0 0) ∧ w' = w := by
  go_enter Try.func41, Try.ntmps41
  go_wp2_with fail
  go_ret
  exact ⟨rfl, rfl⟩

set_option maxRecDepth 100000 in
/-- slices.Clone of a row of parts that is not empty. -/
theorem clone_parts {w : World} {g off k c : Nat} {xs : List Value} (h : RowAt w 104 2 (.slice (some ⟨g, off, none⟩) k c) k xs) (hk : 0 < k) (hk2 : k ≤ 100000) (hone : ∀ u ∈ xs, u.oneCell' = true) :
    Calls Try.prog 53 #[.slice (some ⟨g, off, none⟩) k c] w fun e w' => ∃ g' off' c', e = .returned (.slice (some ⟨g', off', none⟩) k c') ∧ RowAt w' 104 2 (.slice (some ⟨g', off', none⟩) k c') k xs ∧ Chg (fun _ => False) w w' ∧ w.heap.size ≤ g' := by
  obtain ⟨iP, hj0, hj1, hj2, hj3⟩ := info_parts infoP
  have HR := Lib.hid h
  have HO := Lib.hid hone
  have hl := h.1
  have h00 : Hid (RowAt (w.alloc (.cells #[] 104)) 104 2 (.slice (some ⟨w.heap.size, 0, none⟩) 0 0) 0 []) := ⟨rfl, .inr ⟨w.heap.size, 0, 0, #[], rfl, blk_new _ _, Nat.le_refl _, Nat.zero_le _, Nat.le_refl _, rfl⟩⟩
  have hEq := fun w => Lib.run_eql_slice_nil (P := Try.prog) w 98 _ (some ⟨g, off, none⟩) k c 0 0 Try.underlying98
  clear h hone
  have HL := Lib.hid hl
  clear hl
  go_enter Try.func53, Try.ntmps53
  go_wp2_with (at_builtin; refine wpList_append_row _ rfl _ _ 98 rfl 104 iP _ 2 32 Try.underlying98 hj0 hj1 hj2 hj3 rfl (by decide) (.slice (some ⟨w.heap.size, 0, none⟩) 0 0) 0 [] rfl h00.out ⟨g, off, none⟩ k c xs rfl HL.out ?ya2 HO.out (by assumption) ?ya4 ?ya5 _ rfl ?_)
  case ya2 =>
    intro j u hj
    have hj2 : j < k * 2 := by rw [← HL.out]; exact (List.getElem?_eq_some_iff.1 hj).1
    have := (HR.out.kept ((Chg.refl (fun _ => False) w).alloc (.cells #[] 104)) (fun _ _ h => h)).cell j hj2
    simp only [Addr.add_lit]
    rw [this]; exact hj
  case ya4 => unfold maxLen; omega
  case ya5 => omega
  intro g' off' c' w3 hrow3 hgrow3 hat3 hlt3
  have hA : Hid (Chg (fun _ => False) w w3) := by
    refine Lib.hid (((Chg.refl (fun _ => False) w).alloc _).grown hgrow3 (fun j hj e => ?_))
    have : w.heap.size = j := by simpa [Value.ownBlock] using e
    omega
  have hgg : w.heap.size ≤ g' := by
    rcases hat3 with e | e
    · have : w.heap.size = g' := by simpa [Value.ownBlock] using e
      omega
    · rw [e]; exact Nat.le_succ _
  have hR3 : Hid (RowAt w3 104 2 (.slice (some ⟨g', off', none⟩) k c') k xs) := Lib.hid (by simpa using hrow3)
  clear hrow3 hgrow3 hat3 hlt3
  go_wp2_with fail
  go_ret
  exact ⟨_, _, _, rfl, hR3.out, hA.out, hgg⟩
end Go.Proofs.Ytkidnmjaioejaaa.Sg
