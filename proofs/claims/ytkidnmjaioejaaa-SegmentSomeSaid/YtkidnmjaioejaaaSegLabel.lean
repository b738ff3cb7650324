/- The stack's Label, Unmark, and Cut where there is no such mark, walked. Condition: the stack's block is known, and its rows. -/
import Derived.Test.YtkidnmjaioejaaaSegPop2
namespace Go.Proofs.Ytkidnmjaioejaaa.Sg
set_option linter.unusedVariables false
set_option linter.unusedSimpArgs false
open Go.RowKit Go.Proofs.Ytkidnmjaioejaaa.Mem

theorem label_out {w : World} {s n : Nat} {i : Int} (hM : Calls Try.prog 39 #[.pointer (some ⟨s, 0, none⟩)] w fun e w' => e = .returned (.int .i64 (n : Int)) ∧ w' = w) (hi : i < 0 ∨ (n : Int) ≤ i) :
    Calls Try.prog 38 #[.pointer (some ⟨s, 0, none⟩), .int .i64 i] w fun e w' => e = .returned (.tuple #[.int .i64 0, .bool false]) ∧ w' = w := by
  have HM := Lib.hid hM
  clear hM
  by_cases h0 : i < 0
  · clear hi
    go_enter Try.func38, Try.ntmps38
    go_wp2_with fail
    go_ret2
    exact ⟨rfl, rfl⟩
  · have h1 : (n : Int) ≤ i := by omega
    clear hi
    go_enter Try.func38, Try.ntmps38
    go_wp2_with fail
    refine HM.out.mono ?_
    rintro e w1 ⟨rfl, rfl⟩
    go_wp2_with fail
    go_ret2
    exact ⟨rfl, rfl⟩
theorem cut_out {w : World} {s n : Nat} {i : Int} (hM : Calls Try.prog 39 #[.pointer (some ⟨s, 0, none⟩)] w fun e w' => e = .returned (.int .i64 (n : Int)) ∧ w' = w) (hi : i < 0 ∨ (n : Int) ≤ i) :
    Calls Try.prog 30 #[.pointer (some ⟨s, 0, none⟩), .int .i64 i] w fun e w' => e = .returned (.tuple #[.pointer none, .bool false]) ∧ w' = w := by
  have HM := Lib.hid hM
  clear hM
  by_cases h0 : i < 0
  · clear hi
    go_enter Try.func30, Try.ntmps30
    go_wp2_with fail
    go_ret2
    exact ⟨rfl, rfl⟩
  · have h1 : (n : Int) ≤ i := by omega
    clear hi
    go_enter Try.func30, Try.ntmps30
    go_wp2_with fail
    refine HM.out.mono ?_
    rintro e w1 ⟨rfl, rfl⟩
    go_wp2_with fail
    go_ret2
    exact ⟨rfl, rfl⟩
theorem marks_abs {w : World} {s : Nat} {l : Row} {F : List Nat} (h : SA w s l F) : Calls Try.prog 39 #[.pointer (some ⟨s, 0, none⟩)] w fun e w' => e = .returned (.int .i64 (l.countP (fun x => x.1) : Nat)) ∧ w' = w := by
  obtain ⟨bv, pv, base, L, h1, h2, rfl⟩ := h
  subst h2
  rw [flat_marks]
  exact marks_calls h1
theorem len_abs {w : World} {s : Nat} {l : Row} {F : List Nat} (h : SA w s l F) : Calls Try.prog 40 #[.pointer (some ⟨s, 0, none⟩)] w fun e w' => e = .returned (.int .i64 (l.countP (fun x => !x.1) : Nat)) ∧ w' = w := by
  obtain ⟨bv, pv, base, L, h1, h2, rfl⟩ := h
  subst h2
  rw [flat_frames]
  exact len_calls h1
theorem cut_none {w : World} {s : Nat} {l : Row} {F : List Nat} (h : SA w s l F) (i : Int) (hat : markAt l i = none) :
    Calls Try.prog 30 #[.pointer (some ⟨s, 0, none⟩), .int .i64 i] w fun e w' => e = .returned (.tuple #[.pointer none, .bool false]) ∧ w' = w := by
  obtain ⟨bv, pv, base, L, h1, h2, rfl⟩ := h
  subst h2
  exact cut_out (marks_calls h1) (markAt_none base L i hat)
set_option maxRecDepth 100000 in
set_option maxHeartbeats 2000000 in
theorem label_in {w : World} {s n a g off cap : Nat} {i : Int} {bv : Value} {m : Int} (hM : Calls Try.prog 39 #[.pointer (some ⟨s, 0, none⟩)] w fun e w' => e = .returned (.int .i64 (n : Int)) ∧ w' = w) (hn : n ≤ 100000) (han : a < n) (hi : i = (n : Int) - 1 - (a : Int))
    (c1 : w.cell? ⟨s, 1, none⟩ = some (.slice (some ⟨g, off, none⟩) n cap)) (c2 : w.cell? ⟨g, off + a * 2, none⟩ = some (.int .i64 m)) :
    Calls Try.prog 38 #[.pointer (some ⟨s, 0, none⟩), .int .i64 i] w fun e w' => e = .returned (.tuple #[.int .i64 m, .bool true]) ∧ ∃ md, w' = w.drewN md := by
  have HM := Lib.hid hM
  have hi0 : (0 : Int) ≤ i := by omega
  have hi1 : i < (n : Int) := by omega
  have hat : (n : Int) - 1 - i = (a : Int) := by omega
  have ha0 : (0 : Int) ≤ (a : Int) := by omega
  have ha1 : (a : Int) < (n : Int) := by omega
  clear hM hi
  go_enter Try.func38, Try.ntmps38
  go_wp2_with fail
  refine HM.out.mono ?_
  rintro e w1 ⟨rfl, rfl⟩
  go_wp2_with fail
  go_quiet (fail)
  go_wp2_with fail
  go_ret2
  exact ⟨rfl, _, rfl⟩
/-- What Label tells. -/
def labelOf (l : Row) (i : Int) : Value := match markAt l i with
  | some a => .tuple #[.int .i64 (l[a]?.getD (false, 0)).2, .bool true]
  | none => .tuple #[.int .i64 0, .bool false]
theorem label_abs {w : World} {s : Nat} {l : Row} {F : List Nat} (h : SA w s l F) (i : Int) :
    Calls Try.prog 38 #[.pointer (some ⟨s, 0, none⟩), .int .i64 i] w fun e w' => e = .returned (labelOf l i) ∧ ∃ md, w' = w.drewN md := by
  unfold labelOf
  cases hat : markAt l i with
  | none =>
    obtain ⟨bv, pv, base, L, h1, h2, rfl⟩ := h
    subst h2
    exact (label_out (marks_calls h1) (markAt_none base L i hat)).mono fun e w' ⟨q1, q2⟩ => ⟨q1, 0, q2⟩
  | some a =>
    obtain ⟨bv, pv, base, L, h1, h2, rfl⟩ := h
    subst h2
    obtain ⟨L0, L1, rfl, hi, hp, rfl⟩ := markAt_split base L i a hat
    cases L1 with
    | nil => simp at hp
    | cons e L1 =>
      have hl : (L0 ++ e :: L1).length = L0.length + 1 + L1.length := by simp; omega
      obtain ⟨gp, offp, capp, hpv, hcp, hcell, hfree⟩ := h1.rowAt (by omega)
      have c1 := cell_of h1.blk 1
      rw [hpv] at c1
      have c2 := hcell L0.length 0 (by omega) (by omega)
      simp [pcells] at c2
      have hv : ((flat base (L0 ++ e :: L1))[(flat base L0).length]?.getD (false, 0)).2 = e.m := by
        rw [flat_append, List.getElem?_append_right (Nat.le_refl _), Nat.sub_self]
        rfl
      simp only [hv]
      exact label_in (bv := bv) (marks_calls h1) h1.small.2 (by omega) (by rw [hi]; simp only [List.length_append, List.length_cons]; omega) c1 c2
end Go.Proofs.Ytkidnmjaioejaaa.Sg
