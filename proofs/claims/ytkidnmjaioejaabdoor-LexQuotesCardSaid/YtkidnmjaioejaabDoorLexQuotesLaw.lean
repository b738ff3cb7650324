/- The statement LexQuotes, walked: true. Condition: the two errors of strconv hold interface values. -/
import Derived.Test.YtkidnmjaioejaabDoorLexLaw1
import Derived.Test.YtkidnmjaioejaabDoorLexQuote
namespace Go.Proofs.YtkidnmjaioejaabDoor.Lx
set_option linter.unusedVariables false
set_option linter.unusedSimpArgs false
open Go.RowKit Go.Proofs.YtkidnmjaioejaabDoor.Mem

set_option maxRecDepth 100000 in
set_option maxHeartbeats 2000000 in
theorem lexQuotes_calls (s : ByteArray) (w : World) (hg : Glob w) : Calls Tryd.prog 4 #[.string s] w fun e w' => e = .returned (.bool true) ∧ Below w.heap.size w w' := by
  by_cases hlong : 1000 < s.size
  · have H := Lib.hid (awake_calls w hg)
    clear hg
    go_enter Tryd.func4, Tryd.ntmps4
    go_wp2_with fail
    refine H.out.mono ?_
    rintro e w1 ⟨rfl, hb⟩
    have HB := Lib.hid hb
    clear hb H
    go_wp2_with fail
    go_ret
    exact ⟨rfl, HB.out⟩
  · have H1 := Lib.hid (quote_calls s w (by omega))
    obtain ⟨q, hq⟩ : ∃ q, q = quote s.data.toList := ⟨_, rfl⟩
    have HT : Hid (tokens (⟨q.toArray⟩ : ByteArray).data.toList = .ok [⟨5, s.data.toList, 0, 0⟩]) := by
      show tokens q.toArray.toList = _
      rw [hq]; simpa using tokens_quote s.data.toList (by rw [len_is]; omega)
    rw [← hq] at H1
    have HG := Lib.hid hg
    have heq : ∀ w, (binOp .eql 33 (.agg #[.int .u8 5, .string s, .int .i64 0, .int .i64 0]) (.agg #[.int .u8 5, .string s, .int .i64 0, .int .i64 0])).run Tryd.prog w = .ok (.bool true) w := fun w => by
      rw [run_eql_struct, eqTok]; rfl
    clear hg hq
    go_enter Tryd.func4, Tryd.ntmps4
    go_wp2_with fail
    refine H1.out.mono ?_
    rintro e w1 ⟨rfl, hb1⟩
    have HB1 := Lib.hid hb1
    clear hb1
    go_wp2_with fail
    refine (tokens_ok _ w1 (HG.out.later HB1.out) _ HT.out).mono ?_
    rintro e w2 ⟨⟨v, rfl, ho⟩, hb2⟩
    obtain ⟨g, cap, rfl, _, _⟩ := ho.form (by simp)
    have c0 : w2.cell? ⟨g, 0, none⟩ = some (.int .u8 5) := row_cell ho rfl 0 0 (by simp) (by decide)
    have c1 : w2.cell? ⟨g, 1, none⟩ = some (.string s) := (row_cell ho rfl 0 1 (by simp) (by decide)).trans (by simp [tokCells])
    have c2 : w2.cell? ⟨g, 2, none⟩ = some (.int .i64 0) := row_cell ho rfl 0 2 (by simp) (by decide)
    have c3 : w2.cell? ⟨g, 3, none⟩ = some (.int .i64 0) := row_cell ho rfl 0 3 (by simp) (by decide)
    have HB2 : Hid (Below w.heap.size w w2) := HB1.out.trans (hb2.mono HB1.out.size)
    clear hb2 ho
    go_wp2_with fail
    refine (awake_calls _ (by exact HG.out.later HB2.out)).mono ?_
    rintro e w3 ⟨rfl, hb3⟩
    have HB3 : Hid (Below w.heap.size w w3) := HB2.out.trans (hb3.mono HB2.out.size)
    clear hb3
    go_wp2_with fail
    go_ret
    exact ⟨rfl, HB3.out⟩
end Go.Proofs.YtkidnmjaioejaabDoor.Lx
