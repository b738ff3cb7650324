/- The reference's Number, walked: for every int64 its letters. -/
import Derived.Test.YtkidnmjaioejaabDoorLexNumber
namespace Go.Proofs.YtkidnmjaioejaabDoor.Lx
set_option linter.unusedVariables false
set_option linter.unusedSimpArgs false
open Go.RowKit Go.Proofs.YtkidnmjaioejaabDoor.Mem

set_option maxRecDepth 100000 in
set_option maxHeartbeats 2000000 in
theorem numb_calls (n : Int) (w : World) (h1 : -9223372036854775808 ≤ n) (h2 : n ≤ 9223372036854775807) :
    Calls Tryd.prog 14 #[.int .i64 n] w fun e w' => e = .returned (.string ⟨(numb n).toArray⟩) ∧ Below w.heap.size w w' := by
  obtain ⟨m, hm⟩ : ∃ m, m = n.natAbs := ⟨_, rfl⟩
  have H := Lib.hid (fun w => rdigits_calls 20 m w (by omega) (by omega))
  by_cases hn : n < 0
  · have q1 : IntKind.i64.wrap (n + 1) = n + 1 := by simp [IntKind.wrap, IntKind.signed, IntKind.bits]; omega
    have q2 : IntKind.i64.wrap (-(n + 1)) = -(n + 1) := by simp [IntKind.wrap, IntKind.signed, IntKind.bits]; omega
    have q3 : IntKind.u64.wrap (-(n + 1)) = -(n + 1) := by simp [IntKind.wrap, IntKind.signed, IntKind.bits]; omega
    have q4 : IntKind.u64.wrap (-(n + 1) + 1) = (m : Int) := by simp [IntKind.wrap, IntKind.signed, IntKind.bits]; omega
    have HN : Hid (numb n = 45 :: digs m) := Lib.hid (by unfold numb; rw [if_pos hn, hm])
    have hl : (digs m).length ≤ 100 := digs_len m (by omega)
    clear hm
    go_enter Tryd.func14, Tryd.ntmps14
    go_wp2_with fail
    refine (H.out _).mono ?_
    rintro e w1 ⟨rfl, hb⟩
    have HB := Lib.hid hb
    clear hb
    go_wp2_with fail
    go_ret
    rw [HN.out]
    exact ⟨congrArg (fun b => Ending.returned (Value.string b)) (str_app [45] (digs m)), HB.out⟩
  · have q3 : IntKind.u64.wrap n = (m : Int) := by simp [IntKind.wrap, IntKind.signed, IntKind.bits]; omega
    have HN : Hid (numb n = digs m) := Lib.hid (by unfold numb; rw [if_neg hn, hm])
    clear hm
    go_enter Tryd.func14, Tryd.ntmps14
    go_wp2_with fail
    refine (H.out _).mono ?_
    rintro e w1 ⟨rfl, hb⟩
    have HB := Lib.hid hb
    clear hb
    go_wp2_with fail
    go_ret
    rw [HN.out]
    exact ⟨rfl, HB.out⟩
end Go.Proofs.YtkidnmjaioejaabDoor.Lx
