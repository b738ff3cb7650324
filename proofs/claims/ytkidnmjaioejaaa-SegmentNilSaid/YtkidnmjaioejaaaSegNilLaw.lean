/- SegmentNil, walked; no condition. -/
import Derived.Test.YtkidnmjaioejaaaSegAwake
namespace Go.Proofs.Ytkidnmjaioejaaa.Sg
set_option linter.unusedVariables false
set_option linter.unusedSimpArgs false
open Go.RowKit Go.Proofs.Ytkidnmjaioejaaa.Mem

theorem below_of {w w' : World} (h : Chg (fun _ => False) w w') : Below w.heap.size w w' := h.toBelow (Nat.le_refl _) (fun _ _ h => h.elim)
set_option maxHeartbeats 4000000 in
theorem nil_calls (n : Int) (w : World) : Calls Try.prog 10 #[.int .i64 n] w fun e w' => e = .returned (.bool true) ∧ Below w.heap.size w w' := by
  go_enter Try.func10, Try.ntmps10
  have HP := fun n w => Lib.hid (push_nil n w)
  have HM := fun n w => Lib.hid (mark_nil n w)
  have HO := fun w => Lib.hid (pop_nil w)
  have HT := fun w => Lib.hid (top_nil_calls w)
  have HU := fun w => Lib.hid (unmark_nil w)
  have HL := fun n w => Lib.hid (label_nil n w)
  have HC := fun n w => Lib.hid (cut_nil n w)
  have HJ := fun v w => Lib.hid (join_nil v w)
  have HS := fun w => Lib.hid (marks_nil w)
  have HN := fun w => Lib.hid (len_nil w)
  have HI := fun w => Lib.hid (items_nil w)
  have HA := fun w => Lib.hid (awake_calls w)
  go_wp2_with fail
  refine (HP _ _).out.mono ?_
  rintro e w1 ⟨⟨u1, rfl⟩, rfl⟩
  go_wp2_with fail
  refine (HM _ _).out.mono ?_
  rintro e w1 ⟨⟨u2, rfl⟩, rfl⟩
  go_wp2_with fail
  refine (HO _).out.mono ?_
  rintro e w3 ⟨rfl, hC3⟩
  have HC3 := Lib.hid hC3
  clear hC3
  go_wp2_with fail
  refine (HT _).out.mono ?_
  rintro e w4 ⟨rfl, hC4⟩
  have HC4 := Lib.hid (HC3.out.trans hC4)
  clear hC4
  go_wp2_with fail
  refine (HU _).out.mono ?_
  rintro e w5 ⟨rfl, rfl⟩
  go_wp2_with fail
  refine (HL _ _).out.mono ?_
  rintro e w5 ⟨rfl, rfl⟩
  go_wp2_with fail
  refine (HC _ _).out.mono ?_
  rintro e w5 ⟨rfl, rfl⟩
  go_wp2_with fail
  refine (HJ _ _).out.mono ?_
  rintro e w5 ⟨rfl, rfl⟩
  go_wp2_with fail
  refine (HS _).out.mono ?_
  rintro e w5 ⟨rfl, rfl⟩
  go_wp2_with fail
  refine (HN _).out.mono ?_
  rintro e w5 ⟨rfl, rfl⟩
  go_wp2_with fail
  refine (HI _).out.mono ?_
  rintro e w5 ⟨rfl, rfl⟩
  go_wp2_with fail
  refine (HA _).out.mono ?_
  rintro e w6 ⟨rfl, hC6⟩
  have HC6 := Lib.hid (HC4.out.trans hC6)
  clear hC6
  go_wp2_with fail
  go_ret
  exact ⟨rfl, below_of HC6.out⟩
end Go.Proofs.Ytkidnmjaioejaaa.Sg
