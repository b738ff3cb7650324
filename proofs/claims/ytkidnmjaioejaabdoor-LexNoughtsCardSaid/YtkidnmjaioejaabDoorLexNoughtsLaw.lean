/- The statement LexNoughts, walked: true. Condition: the two errors of strconv hold interface values. -/
import Derived.Test.YtkidnmjaioejaabDoorLexLaw1
import Derived.Test.YtkidnmjaioejaabDoorLexNumber2
import Derived.Test.YtkidnmjaioejaabDoorLexNumPlain
namespace Go.Proofs.YtkidnmjaioejaabDoor.Lx
set_option linter.unusedVariables false
set_option linter.unusedSimpArgs false
open Go.RowKit Go.Proofs.YtkidnmjaioejaabDoor.Mem

theorem zword_len (n : Int) (m : Nat) (h1 : -9223372036854775808 ≤ n) (h2 : n ≤ 9223372036854775807) : (zword n m).length ≤ 100 + m := by
  have := digs_len n.natAbs (by omega)
  unfold zword; simp; omega
theorem zword_succ (n : Int) (m : Nat) : 48 :: zword n m = zword n (m + 1) := by
  unfold zword; rw [List.replicate_succ]; rfl

set_option maxRecDepth 100000 in
set_option maxHeartbeats 1000000 in
theorem lexNoughts_calls (n y : Int) (w : World) (hn : (Lit.int .i64 n).wf = true) (hy : (Lit.int .u8 y).wf = true) (hg : Glob w) :
    Calls Tryd.prog 7 #[.int .i64 n, .int .u8 y] w fun e w' => e = .returned (.bool true) ∧ Below w.heap.size w w' := by
  have h12 : -9223372036854775808 ≤ n ∧ n ≤ 9223372036854775807 := by simpa [Lit.wf, IntKind.min, IntKind.max, IntKind.signed, IntKind.bits] using hn
  have hyy : 0 ≤ y ∧ y ≤ 255 := by simpa [Lit.wf, IntKind.min, IntKind.max, IntKind.signed, IntKind.bits] using hy
  clear hn hy
  obtain ⟨h1, h2⟩ := h12
  obtain ⟨m, hm⟩ : ∃ m : Nat, (m : Int) = y.tmod 51 := ⟨(y.tmod 51).toNat, by rw [Int.tmod_eq_emod_of_nonneg hyy.1]; omega⟩
  have hm50 : m ≤ 50 := by rw [Int.tmod_eq_emod_of_nonneg hyy.1] at hm; omega
  have hm1 : y.tmod 51 = (m : Int) := hm.symm
  obtain ⟨u, hu⟩ : ∃ u, u = nword n m ++ [41] := ⟨_, rfl⟩
  obtain ⟨L, hL⟩ : ∃ L, L = (nword n m).length := ⟨_, rfl⟩
  have HT : Hid (tokens (⟨u.toArray⟩ : ByteArray).data.toList = .ok [⟨4, [], n, 0⟩, ⟨2, [], 0, L⟩]) := by
    show tokens u.toArray.toList = _
    rw [hu, hL]; simpa using tokens_noughts n m hm50 h1 h2
  have HU := Lib.hid hu
  have HLL := Lib.hid hL
  have H1 := Lib.hid (numb_calls n w h1 h2)
  have HG := Lib.hid hg
  have HL : Hid (∀ j, (zword n j).length ≤ 100 + j) := fun j => zword_len n j h1 h2
  have heq : ∀ w, (binOp .eql 33 (.agg #[.int .u8 4, .string ⟨#[]⟩, .int .i64 n, .int .i64 0]) (.agg #[.int .u8 4, .string ⟨#[]⟩, .int .i64 n, .int .i64 0])).run Tryd.prog w = .ok (.bool true) w := fun w => by
    rw [run_eql_struct, eqTok]; rfl
  clear hm hg hu hL
  go_enter Tryd.func7, Tryd.ntmps7
  go_wp2_with fail
  refine H1.out.mono ?_
  rintro e w1 ⟨rfl, hb1⟩
  have HB1 := Lib.hid hb1
  clear hb1
  by_cases hneg : n < 0
  · have hz : numb n = 45 :: zword n 0 := by unfold numb zword; rw [if_pos hneg]; rfl
    have hw : Hid (nword n m = [45] ++ zword n m) := Lib.hid (by unfold nword; rw [if_pos hneg])
    have hsl : ∀ w, (Instr.slice 9 (.string ⟨(45 :: zword n 0).toArray⟩) (some (.int .i64 1)) none none).run Tryd.prog w = .ok (.string ⟨(zword n 0).toArray⟩) w := fun w => by
      have := slice_from 9 Tryd.underlying9 ⟨(45 :: zword n 0).toArray⟩ 1 (by show 1 ≤ (45 :: zword n 0).toArray.size; simp) w
      simpa using this
    simp only [hz]
    clear hz
    go_wp2_with fail
    go_loopg [5, 7] (m + 1) (fun k vs vi wr => ∃ j : Nat, vs = .string ⟨(zword n j).toArray⟩ ∧ vi = .int .i64 j ∧ j ≤ m ∧ m < k + j ∧ wr = w1)
    case atStart => exact ⟨0, rfl, rfl, by omega, by omega, rfl⟩
    case round =>
      obtain ⟨j, rfl, rfl, hj, hk, rfl⟩ := hrel
      by_cases hlt : j < m
      · obtain ⟨k, rfl⟩ : ∃ m, gk = m + 1 := ⟨gk - 1, by omega⟩
        have i1 : (j : Int) < (m : Int) := by omega
        have hlen := HL.out j
        go_wp2_with fail
        go_roundg k
        case measure => omega
        case rel => exact ⟨j + 1, by rw [← zword_succ]; exact congrArg Value.string (str_app [48] (zword n j)), by go_num, by omega, by omega, rfl⟩
      · have hje : j = m := by omega
        subst hje
        have i1 : ¬ (j : Int) < (j : Int) := by omega
        have hlen := HL.out j
        go_wp2_with fail
        have hb : ((⟨#[45]⟩ : ByteArray) ++ ⟨(zword n j).toArray⟩ ++ ⟨#[41]⟩) = ⟨u.toArray⟩ := by
          rw [HU.out, hw.out]
          exact (congrArg (fun b => b ++ (⟨#[41]⟩ : ByteArray)) (str_app [45] (zword n j))).trans (str_app _ [41])
        rw [hb]
        refine (tokens_ok ⟨u.toArray⟩ wr (HG.out.later HB1.out) _ HT.out).mono ?_
        rintro e w2 ⟨⟨v, rfl, ho⟩, hb2⟩
        obtain ⟨g, cap, rfl, _, _⟩ := ho.form (by simp)
        have c0 : w2.cell? ⟨g, 0, none⟩ = some (.int .u8 4) := row_cell ho rfl 0 0 (by simp) (by decide)
        have c1 : w2.cell? ⟨g, 1, none⟩ = some (.string ⟨#[]⟩) := row_cell ho rfl 0 1 (by simp) (by decide)
        have c2 : w2.cell? ⟨g, 2, none⟩ = some (.int .i64 n) := row_cell ho rfl 0 2 (by simp) (by decide)
        have c3 : w2.cell? ⟨g, 3, none⟩ = some (.int .i64 0) := row_cell ho rfl 0 3 (by simp) (by decide)
        have c7 : w2.cell? ⟨g, 7, none⟩ = some (.int .i64 (1 + ((zword n j).length : Int))) := by
          refine (row_cell ho rfl 1 3 (by simp) (by decide)).trans ?_
          show some (Value.int .i64 (L : Int)) = _
          rw [HLL.out, hw.out]
          congr 2
          simp; omega
        have HB2 : Hid (Below w.heap.size w w2) := HB1.out.trans (hb2.mono HB1.out.size)
        clear hb2 ho hb
        go_wp2_with fail
        refine (awake_calls _ (by exact HG.out.later HB2.out)).mono ?_
        rintro e w3 ⟨rfl, hb3⟩
        have HB3 : Hid (Below w.heap.size w w3) := HB2.out.trans (hb3.mono HB2.out.size)
        clear hb3
        go_wp2_with fail
        go_ret
        exact ⟨rfl, HB3.out⟩
  · have hz : numb n = zword n 0 := by unfold numb zword; rw [if_neg hneg]; rfl
    have hw : Hid (nword n m = [] ++ zword n m) := Lib.hid (by unfold nword; rw [if_neg hneg])
    simp only [hz]
    clear hz
    go_wp2_with fail
    go_loopg [5, 7] (m + 1) (fun k vs vi wr => ∃ j : Nat, vs = .string ⟨(zword n j).toArray⟩ ∧ vi = .int .i64 j ∧ j ≤ m ∧ m < k + j ∧ wr = w1)
    case atStart => exact ⟨0, rfl, rfl, by omega, by omega, rfl⟩
    case round =>
      obtain ⟨j, rfl, rfl, hj, hk, rfl⟩ := hrel
      by_cases hlt : j < m
      · obtain ⟨k, rfl⟩ : ∃ m, gk = m + 1 := ⟨gk - 1, by omega⟩
        have i1 : (j : Int) < (m : Int) := by omega
        have hlen := HL.out j
        go_wp2_with fail
        go_roundg k
        case measure => omega
        case rel => exact ⟨j + 1, by rw [← zword_succ]; exact congrArg Value.string (str_app [48] (zword n j)), by go_num, by omega, by omega, rfl⟩
      · have hje : j = m := by omega
        subst hje
        have i1 : ¬ (j : Int) < (j : Int) := by omega
        have hlen := HL.out j
        go_wp2_with fail
        have hb : ((⟨#[]⟩ : ByteArray) ++ ⟨(zword n j).toArray⟩ ++ ⟨#[41]⟩) = ⟨u.toArray⟩ := by
          rw [HU.out, hw.out]
          exact (congrArg (fun b => b ++ (⟨#[41]⟩ : ByteArray)) (str_app [] (zword n j))).trans (str_app _ [41])
        rw [hb]
        refine (tokens_ok ⟨u.toArray⟩ wr (HG.out.later HB1.out) _ HT.out).mono ?_
        rintro e w2 ⟨⟨v, rfl, ho⟩, hb2⟩
        obtain ⟨g, cap, rfl, _, _⟩ := ho.form (by simp)
        have c0 : w2.cell? ⟨g, 0, none⟩ = some (.int .u8 4) := row_cell ho rfl 0 0 (by simp) (by decide)
        have c1 : w2.cell? ⟨g, 1, none⟩ = some (.string ⟨#[]⟩) := row_cell ho rfl 0 1 (by simp) (by decide)
        have c2 : w2.cell? ⟨g, 2, none⟩ = some (.int .i64 n) := row_cell ho rfl 0 2 (by simp) (by decide)
        have c3 : w2.cell? ⟨g, 3, none⟩ = some (.int .i64 0) := row_cell ho rfl 0 3 (by simp) (by decide)
        have c7 : w2.cell? ⟨g, 7, none⟩ = some (.int .i64 (((zword n j).length : Int))) := by
          refine (row_cell ho rfl 1 3 (by simp) (by decide)).trans ?_
          show some (Value.int .i64 (L : Int)) = _
          rw [HLL.out, hw.out]
          simp
        have HB2 : Hid (Below w.heap.size w w2) := HB1.out.trans (hb2.mono HB1.out.size)
        clear hb2 ho hb
        go_wp2_with fail
        refine (awake_calls _ (by exact HG.out.later HB2.out)).mono ?_
        rintro e w3 ⟨rfl, hb3⟩
        have HB3 : Hid (Below w.heap.size w w3) := HB2.out.trans (hb3.mono HB2.out.size)
        clear hb3
        go_wp2_with fail
        go_ret
        exact ⟨rfl, HB3.out⟩
end Go.Proofs.YtkidnmjaioejaabDoor.Lx
