/- The statement LexWords, walked: true. Condition: the two errors of strconv hold interface values. -/
import Derived.Test.YtkidnmjaioejaabDoorLexWordWalk
import Derived.Test.YtkidnmjaioejaabDoorLexWordRef
import Derived.Test.YtkidnmjaioejaabDoorLexNumber2
namespace Go.Proofs.YtkidnmjaioejaabDoor.Lx
set_option linter.unusedVariables false
set_option linter.unusedSimpArgs false
open Go.RowKit Go.Proofs.YtkidnmjaioejaabDoor.Mem

theorem numb_no (n : Int) (h1 : -9223372036854775808 ≤ n) (h2 : n ≤ 9223372036854775807) : wordB (numb n) = false := by
  rw [← word_of_tokens (tokens_numb n h1 h2)]; rfl

set_option maxRecDepth 100000 in
set_option maxHeartbeats 1000000 in
theorem lexWords_calls (s : ByteArray) (n : Int) (w : World) (hn : (Lit.int .i64 n).wf = true) (hg : Glob w) :
    Calls Tryd.prog 8 #[.string s, .int .i64 n] w fun e w' => e = .returned (.bool true) ∧ Below w.heap.size w w' := by
  have h12 : -9223372036854775808 ≤ n ∧ n ≤ 9223372036854775807 := by simpa [Lit.wf, IntKind.min, IntKind.max, IntKind.signed, IntKind.bits] using hn
  clear hn
  by_cases hlong : 1000 < s.size
  · have H := Lib.hid (awake_calls w hg)
    clear hg
    go_enter Tryd.func8, Tryd.ntmps8
    go_wp2_with fail
    refine H.out.mono ?_
    rintro e w1 ⟨rfl, hb⟩
    have HB := Lib.hid hb
    clear hb H
    go_wp2_with fail
    go_ret
    exact ⟨rfl, HB.out⟩
  · have H1 := Lib.hid (lword_calls s w hg)
    have H2 := Lib.hid (fun w => rWord_calls s w (by omega))
    have H3 := Lib.hid (fun w => numb_calls n w h12.1 h12.2)
    obtain ⟨u, hu⟩ : ∃ u, u = numb n := ⟨_, rfl⟩
    have HT : Hid (tokens (⟨u.toArray⟩ : ByteArray).data.toList = .ok [⟨4, [], n, 0⟩]) := by
      show tokens u.toArray.toList = _
      rw [hu]; simpa using tokens_numb n h12.1 h12.2
    have HNo : Hid (wordB (⟨u.toArray⟩ : ByteArray).data.toList = false) := by
      show wordB u.toArray.toList = _
      rw [hu]; simpa using numb_no n h12.1 h12.2
    rw [← hu] at H3
    have HG := Lib.hid hg
    have heq : ∀ w, (binOp .eql 33 (.agg #[.int .u8 4, .string ⟨#[]⟩, .int .i64 n, .int .i64 0]) (.agg #[.int .u8 4, .string ⟨#[]⟩, .int .i64 n, .int .i64 0])).run Tryd.prog w = .ok (.bool true) w := fun w => by
      rw [run_eql_struct, eqTok]; rfl
    obtain ⟨is, his⟩ : ∃ is, is = wordB s.data.toList := ⟨_, rfl⟩
    rw [← his] at H1 H2
    have hbb : (is == is) = true := by cases is <;> rfl
    clear hg hu his
    go_enter Tryd.func8, Tryd.ntmps8
    go_wp2_with fail
    refine H1.out.mono ?_
    rintro e w1 ⟨rfl, hb1⟩
    have HB1 := Lib.hid hb1
    clear hb1
    go_wp2_with fail
    refine (H2.out w1).mono ?_
    rintro e wr ⟨rfl, rfl⟩
    go_wp2_with fail
    refine (H3.out _).mono ?_
    rintro e w2 ⟨rfl, hb2⟩
    have HB2 : Hid (Below w.heap.size w w2) := HB1.out.trans (hb2.mono HB1.out.size)
    clear hb2
    go_wp2_with fail
    refine (tokens_ok _ w2 (HG.out.later HB2.out) _ HT.out).mono ?_
    rintro e w3 ⟨⟨v, rfl, ho⟩, hb3⟩
    obtain ⟨g, cap, rfl, _, _⟩ := ho.form (by simp)
    have c0 : w3.cell? ⟨g, 0, none⟩ = some (.int .u8 4) := row_cell ho rfl 0 0 (by simp) (by decide)
    have c1 : w3.cell? ⟨g, 1, none⟩ = some (.string ⟨#[]⟩) := row_cell ho rfl 0 1 (by simp) (by decide)
    have c2 : w3.cell? ⟨g, 2, none⟩ = some (.int .i64 n) := row_cell ho rfl 0 2 (by simp) (by decide)
    have c3 : w3.cell? ⟨g, 3, none⟩ = some (.int .i64 0) := row_cell ho rfl 0 3 (by simp) (by decide)
    have hgl := World.block_lt_of_cell? w3 _ c0
    have HB3 : Hid (Below w.heap.size w w3) := HB2.out.trans (hb3.mono HB2.out.size)
    clear hb3 ho
    go_wp2_with fail
    refine (H3.out _).mono ?_
    rintro e w4 ⟨rfl, hb4⟩
    have HB4 : Hid (Below w.heap.size w w4) := HB3.out.trans (hb4.mono HB3.out.size)
    have HB34 := Lib.hid hb4
    clear hb4
    go_wp2_with fail
    refine (lword_calls _ w4 (HG.out.later HB4.out)).mono ?_
    rintro e w5 ⟨rfl, hb5⟩
    have HB5 : Hid (Below w.heap.size w w5) := HB4.out.trans (hb5.mono HB4.out.size)
    have b35 : Hid (Below w3.heap.size w3 w5) := HB34.out.trans (hb5.mono HB34.out.size)
    have hno := HNo.out
    have d0 := (b35.out.cell (p := ⟨g, 0, none⟩) hgl).trans c0
    have d1 := (b35.out.cell (p := ⟨g, 1, none⟩) hgl).trans c1
    have d2 := (b35.out.cell (p := ⟨g, 2, none⟩) hgl).trans c2
    have d3 := (b35.out.cell (p := ⟨g, 3, none⟩) hgl).trans c3
    clear hb5 c0 c1 c2 c3
    rw [hno]
    go_wp2_with fail
    refine (awake_calls _ (by exact HG.out.later HB5.out)).mono ?_
    rintro e w6 ⟨rfl, hb6⟩
    have HB6 : Hid (Below w.heap.size w w6) := HB5.out.trans (hb6.mono HB5.out.size)
    clear hb6
    go_wp2_with fail
    go_ret
    exact ⟨rfl, HB6.out⟩
end Go.Proofs.YtkidnmjaioejaabDoor.Lx
