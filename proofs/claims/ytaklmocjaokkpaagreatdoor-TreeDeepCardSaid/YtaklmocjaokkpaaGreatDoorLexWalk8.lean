/- The deferred function of the lexer's Tokens, walked, for a call that returns and for one that throws a fault. Condition: the three results' cells are known. -/
import Derived.Test.YtaklmocjaokkpaaGreatDoorLexWalk7
import Derived.Defers
import Derived.Recover
namespace Go.Proofs.YtaklmocjaokkpaaGreatDoor.Lx
open Go.RowKit Go.Proofs.YtaklmocjaokkpaaGreatDoor.Mem

set_option maxRecDepth 100000 in
theorem catch_idle (B : Nat) (w : World) :
    CallsD Tryz.prog 71 #[.pointer (some ⟨B, 0, none⟩), .pointer (some ⟨B + 1, 0, none⟩), .pointer (some ⟨B + 2, 0, none⟩)] .returning w fun e u' w' => e = .returned (.tuple #[]) ∧ u' = .returning ∧ w' = w := by
  refine callsD_of_wpS Tryz.func71 rfl fun c₀ cs hu => ?_
  apply wpS_seq
  apply wpS_region
  simp [wpOpsS, go_sem, recoverD, hu, Tryz.ntmps71, Exit.thenS]
  refine wpS_of_wp ?_
  go_wp2
  cases c₀
  simp_all [bodyPostS, results, Tryz.results71]

set_option maxRecDepth 100000 in
set_option maxHeartbeats 1000000 in
theorem catch_fault (B : Nat) (v1 v2 v3 : Value) (p n : Nat) (w : World) (h1 : w.cell? ⟨B, 0, none⟩ = some v1) (h2 : w.cell? ⟨B + 1, 0, none⟩ = some v2) (h3 : w.cell? ⟨B + 2, 0, none⟩ = some v3)
    (f1 : w.frozen? ⟨B, 0, none⟩ = false) (f2 : w.frozen? ⟨B + 1, 0, none⟩ = false) (f3 : w.frozen? ⟨B + 2, 0, none⟩ = false) :
    CallsD Tryz.prog 71 #[.pointer (some ⟨B, 0, none⟩), .pointer (some ⟨B + 1, 0, none⟩), .pointer (some ⟨B + 2, 0, none⟩)] (.panicking (fault p n)) w fun e u' w' =>
      e = .returned (.tuple #[]) ∧ u' = .panicking [{ v := .iface 99 (.agg #[.int .i64 p, .int .i64 n]), recovered := true }] ∧
      w'.cell? ⟨B, 0, none⟩ = some (.slice none 0 0) ∧ w'.cell? ⟨B + 1, 0, none⟩ = some (.int .i64 p) ∧ w'.cell? ⟨B + 2, 0, none⟩ = some (.int .i64 n) ∧ Below B w w' := by
  refine callsD_of_wpS Tryz.func71 rfl fun c₀ cs hu => ?_
  unfold fault at hu
  have hta : ∀ w, (Instr.typeAssert (.iface 99 (.agg #[.int .i64 p, .int .i64 n])) 20 99 true).run Tryz.prog w = .ok (.tuple #[.agg #[.int .i64 p, .int .i64 n], .bool true]) w := fun _ => by kernel_rfl
  simp only [Tryz.ntmps71, List.size_toArray, List.length_cons, List.length_nil, Nat.reduceAdd, Nat.reduceSub, Array.replicate_succ, Array.replicate_zero, List.push_toArray, List.append_toArray, List.nil_append, List.cons_append]
  apply wpS_seq
  apply wpS_region
  simp [wpOpsS, go_sem, recoverD, hu, Exit.thenS]
  refine wpS_of_wp ?_
  have g1 := World.block_lt_of_cell? w _ h1
  have g2 := World.block_lt_of_cell? w _ h2
  have g3 := World.block_lt_of_cell? w _ h3
  have m1 : Below w.heap.size w (w.alloc (.cells #[.int .i64 p, .int .i64 n] 99)) := (Below.refl _ _).alloc (Nat.le_refl _) _
  have m2 := blk_new w (.cells #[.int .i64 p, .int .i64 n] 99)
  go_wp2
  generalize w.alloc (.cells #[.int .i64 p, .int .i64 n] 99) = W1 at *
  obtain ⟨m, hm⟩ : ∃ m, m = w.heap.size := ⟨_, rfl⟩
  rw [← hm] at g1 g2 g3 m1 m2 ⊢
  replace h1 := (m1.cell (p := ⟨B, 0, none⟩) g1).trans h1
  replace h2 := (m1.cell (p := ⟨B + 1, 0, none⟩) g2).trans h2
  replace h3 := (m1.cell (p := ⟨B + 2, 0, none⟩) g3).trans h3
  replace f1 := (m1.frozen (p := ⟨B, 0, none⟩) g1).trans f1
  replace f2 := (m1.frozen (p := ⟨B + 1, 0, none⟩) g2).trans f2
  replace f3 := (m1.frozen (p := ⟨B + 2, 0, none⟩) g3).trans f3
  have h4 : W1.cell? ⟨m, 0, none⟩ = some (.int .i64 p) := cell_of m2 0
  have h5 : W1.cell? ⟨m, 1, none⟩ = some (.int .i64 n) := cell_of m2 1
  have n1 : ¬ B = m := by omega
  have n2 : ¬ B + 1 = m := by omega
  have n3 : ¬ B + 2 = m := by omega
  have n4 : ¬ m = B := by omega
  have n5 : ¬ m = B + 1 := by omega
  have n6 : ¬ m = B + 2 := by omega
  have HM := Lib.hid m1
  have HB := Lib.hid hm
  clear m1 hm m2
  go_region
  go_wp2
  clear hta
  cases c₀
  simp only [bodyPostS, results, Tryz.results71]
  have r1 : (((W1.setCell ⟨B, 0, none⟩ (.slice none 0 0)).setCell ⟨B + 1, 0, none⟩ (.int .i64 p)).setCell ⟨B + 2, 0, none⟩ (.int .i64 n)).drew.cell? ⟨B, 0, none⟩ = some (.slice none 0 0) := by simp [go_sem, h1]
  have r2 : (((W1.setCell ⟨B, 0, none⟩ (.slice none 0 0)).setCell ⟨B + 1, 0, none⟩ (.int .i64 p)).setCell ⟨B + 2, 0, none⟩ (.int .i64 n)).drew.cell? ⟨B + 1, 0, none⟩ = some (.int .i64 p) := by simp [go_sem, h2]
  have r3 : (((W1.setCell ⟨B, 0, none⟩ (.slice none 0 0)).setCell ⟨B + 1, 0, none⟩ (.int .i64 p)).setCell ⟨B + 2, 0, none⟩ (.int .i64 n)).drew.cell? ⟨B + 2, 0, none⟩ = some (.int .i64 n) := by simp [go_sem, h3]
  refine ⟨trivial, _, rfl, .tuple #[], by simp [go_sem], rfl, rfl, r1, r2, r3, ?_⟩
  have := HM.out.mono (B' := B) (by omega)
  exact (((this.setCell (p := ⟨B, 0, none⟩) (Nat.le_refl _) _).setCell (p := ⟨B + 1, 0, none⟩) (Nat.le_succ _) _).setCell (p := ⟨B + 2, 0, none⟩) (by simp) _).drew
end Go.Proofs.YtaklmocjaokkpaaGreatDoor.Lx
