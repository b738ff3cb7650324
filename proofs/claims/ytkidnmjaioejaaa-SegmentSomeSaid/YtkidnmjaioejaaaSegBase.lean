/- A segment's stack and pieces in memory: what their blocks hold, and which blocks are theirs; no condition. -/
import Derived.Test.YtkidnmjaioejaaaProg
import Derived.Test.YtkidnmjaioejaaaRow
import Derived.WalkKit
import Derived.Lib.Hide
import Derived.Deep.QuietTactic
import Derived.BigQuiet
import Derived.WalkLawsBesides
import Derived.Deep.RegionHeld3
import Derived.Deep.DrawnRows
import Derived.IntWalk
import Derived.Lib.BufferRead
import Derived.Deep.LoopGhost
import Derived.Laws.IdiomStrings
import Derived.Deep.RegionLaw
import Derived.BigRegion
import Derived.Deep.RegionWith
import Derived.Deep.AppendLies
namespace Go.Proofs.Ytkidnmjaioejaaa.Sg
set_option linter.unusedVariables false
set_option linter.unusedSimpArgs false
open Go.RowKit Go.Proofs.Ytkidnmjaioejaaa.Mem

/-- A part as it lies: its mark, its frames' slice, its frames. -/
structure Part where
  m : Int
  v : Value
  fs : List Int
def pcells (e : Part) : List Value := [.int .i64 e.m, e.v]
abbrev IRow (w : World) (v : Value) (l : List Int) : Prop := RowAt w 3 1 v l.length (l.map (Value.int .i64))
def own (v : Value) : List Nat := v.ownBlock.toList
def blocks (L : List Part) : List Nat := L.flatMap fun e => own e.v
theorem mem_own {v : Value} {j : Nat} : j ∈ own v ↔ v.ownBlock = some j := by unfold own; rw [Option.mem_toList]
theorem mem_blocks {L : List Part} {j : Nat} : j ∈ blocks L ↔ ∃ e ∈ L, e.v.ownBlock = some j := by
  unfold blocks
  rw [List.mem_flatMap]
  constructor
  · rintro ⟨e, he, hj⟩; exact ⟨e, he, mem_own.1 hj⟩
  · rintro ⟨e, he, hj⟩; exact ⟨e, he, mem_own.2 hj⟩
/-- The parts' row, and each part's frames. -/
structure Parts (w : World) (v : Value) (L : List Part) : Prop where
  row : RowAt w 104 2 v L.length (L.flatMap pcells)
  frames : ∀ e ∈ L, IRow w e.v e.fs
theorem Parts.chg {F : Nat → Prop} {w w' : World} {v : Value} {L : List Part} (h : Parts w v L) (hc : Chg F w w') (hf : ∀ j ∈ own v ++ blocks L, ¬ F j) : Parts w' v L :=
  ⟨h.row.kept hc (fun j hj => hf j (List.mem_append_left _ (mem_own.2 hj))), fun e he => (h.frames e he).kept hc (fun j hj => hf j (List.mem_append_right _ (mem_blocks.2 ⟨e, he, hj⟩)))⟩
theorem Parts.lt {w : World} {v : Value} {L : List Part} (h : Parts w v L) (j : Nat) (hj : j ∈ own v ++ blocks L) : j < w.heap.size := by
  rcases List.mem_append.1 hj with h1 | h1
  · exact h.row.lt j (mem_own.1 h1)
  · obtain ⟨e, he, h2⟩ := mem_blocks.1 h1
    exact (h.frames e he).lt j h2
theorem pcells_len (l : List Part) : (l.flatMap pcells).length = l.length * 2 := by
  induction l with
  | nil => rfl
  | cons t l ih => simp only [List.flatMap_cons, List.length_append, ih, List.length_cons]; show 2 + _ = _; omega
theorem pcells_get (l : List Part) (k i : Nat) (hk : k < l.length) (hi : i < 2) : (l.flatMap pcells)[k * 2 + i]? = (pcells l[k])[i]? := by
  induction l generalizing k with
  | nil => simp at hk
  | cons t l ih =>
    rw [List.flatMap_cons]
    cases k with
    | zero => rw [List.getElem?_append_left (by show 0 * 2 + i < 2; omega), Nat.zero_mul, Nat.zero_add]; rfl
    | succ k =>
      rw [List.getElem?_append_right (by show 2 ≤ _; omega), show (k + 1) * 2 + i - (pcells t).length = k * 2 + i from by show (k + 1) * 2 + i - 2 = _; omega]
      exact ih k (by simpa using hk)
/-- The frames' number, of all parts. -/
def count (base : List Int) (L : List Part) : Nat := base.length + (L.map fun e => e.fs.length).sum
/-- The stack in block s. -/
structure StackAt (w : World) (s : Nat) (bv pv : Value) (base : List Int) (L : List Part) : Prop where
  blk : w.heap[s]? = some (.cells #[bv, pv, .int .i64 (count base L : Int)] 100 (0, 0))
  bas : IRow w bv base
  parts : Parts w pv L
  apart : (s :: (own bv ++ (own pv ++ blocks L))).Nodup
  small : count base L ≤ 100000 ∧ L.length ≤ 100000
def foot (s : Nat) (bv pv : Value) (L : List Part) : List Nat := s :: (own bv ++ (own pv ++ blocks L))
theorem StackAt.chg {F : Nat → Prop} {w w' : World} {s : Nat} {bv pv : Value} {base : List Int} {L : List Part} (h : StackAt w s bv pv base L) (hc : Chg F w w') (hf : ∀ j ∈ foot s bv pv L, ¬ F j) : StackAt w' s bv pv base L :=
  ⟨hc.blk h.blk (hf s List.mem_cons_self), h.bas.kept hc (fun j hj => hf j (List.mem_cons_of_mem _ (List.mem_append_left _ (mem_own.2 hj)))),
    h.parts.chg hc (fun j hj => hf j (List.mem_cons_of_mem _ (List.mem_append_right _ hj))), h.apart, h.small⟩
theorem StackAt.lt {w : World} {s : Nat} {bv pv : Value} {base : List Int} {L : List Part} (h : StackAt w s bv pv base L) (j : Nat) (hj : j ∈ foot s bv pv L) : j < w.heap.size := by
  rcases List.mem_cons.1 hj with rfl | h1
  · exact lt_of_block h.blk
  · rcases List.mem_append.1 h1 with h2 | h2
    · exact h.bas.lt j (mem_own.1 h2)
    · exact h.parts.lt j h2
end Go.Proofs.Ytkidnmjaioejaaa.Sg
