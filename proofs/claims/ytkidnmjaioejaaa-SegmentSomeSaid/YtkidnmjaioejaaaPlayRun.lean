/- The play goes on: any act; all that is there is taken; the acts that come in. Condition: at most 200 acts have been. -/
import Derived.Test.YtkidnmjaioejaaaPlayJoin
import Derived.Test.YtkidnmjaioejaaaSegAwake
namespace Go.Proofs.Ytkidnmjaioejaaa.Sg
set_option linter.unusedVariables false
set_option linter.unusedSimpArgs false
open Go.RowKit Go.Proofs.Ytkidnmjaioejaaa.Mem

theorem does_calls {w : World} {P s : Nat} {l : Row} {lv pv cv uv : Value} {F : List Nat} {pcs : List Pc} {B0 : Nat} (h : PlayAt w P s l l lv pv cv uv F pcs B0) (hl : weight l pcs < 100000) (hn : pcs.length < 100000) (kind n : Int) (hi : n ≤ 9223372036854775807) :
    Calls Try.prog 26 #[.pointer (some ⟨P, 0, none⟩), actV kind n] w fun e w' => e = .returned (.bool true) ∧ Did w w' P s l pcs B0 := by
  have hll : l.length < 100000 := by unfold weight at hl; omega
  by_cases k0 : kind = 0
  · subst k0; exact does_put h hll n false
  by_cases k1 : kind = 1
  · subst k1; exact does_put h hll n true
  by_cases k2 : kind = 2
  · exact does_take h (by omega) kind n false (by simpa using k2)
  by_cases k3 : kind = 3
  · exact does_take h (by omega) kind n true (by simpa using k3)
  by_cases k4 : kind = 4
  · subst k4; exact does_cut h hll hn n hi
  by_cases k5 : kind = 5
  · subst k5; exact does_join h (by omega) hn n
  exact does_else h kind n (by omega)
/-- The play behind k acts, made by the caller. -/
def Live (w wr : World) (P s k : Nat) : Prop := ∃ l lv pv cv uv F pcs, PlayAt wr P s l l lv pv cv uv F pcs w.heap.size ∧ weight l pcs ≤ k ∧ pcs.length ≤ k ∧ Below w.heap.size w wr
theorem Live.does {w wr : World} {P s k : Nat} (h : Live w wr P s k) (hk : k < 200) (kind n : Int) (hi : n ≤ 9223372036854775807) :
    Calls Try.prog 26 #[.pointer (some ⟨P, 0, none⟩), actV kind n] wr fun e w' => e = .returned (.bool true) ∧ Live w w' P s (k + 1) := by
  obtain ⟨l, lv, pv, cv, uv, F, pcs, h1, h2, h3, h4⟩ := h
  refine (does_calls h1 (by omega) (by omega) kind n hi).mono ?_
  rintro e w' ⟨q1, l', lv', pv', cv', uv', F', pcs', p1, p2, p3, p4⟩
  exact ⟨q1, l', lv', pv', cv', uv', F', pcs', p1, by omega, by omega, h4.trans (p2.toBelow h4.size (fun j _ e => e))⟩
theorem play_new {w w1 : World} (h : SA w1 w.heap.size [] [w.heap.size]) (hC : Chg (fun _ => False) w w1) :
    Live w (w1.alloc (.cells #[ptr w.heap.size, .slice none 0 0, .slice none 0 0, .slice none 0 0, .slice none 0 0] 61)) w1.heap.size w.heap.size 0 := by
  have hA : Chg (fun _ => False) w1 (w1.alloc (.cells #[ptr w.heap.size, .slice none 0 0, .slice none 0 0, .slice none 0 0, .slice none 0 0] 61)) := (Chg.refl _ w1).alloc _
  have hs := hC.size
  refine ⟨[], .slice none 0 0, .slice none 0 0, .slice none 0 0, .slice none 0 0, [w.heap.size], [], ⟨blk_new _ _, h.chg hA (fun _ _ e => e), RowAt.nil _ _ _, RowAt.nil _ _ _, RowAt.nil _ _ _, RowAt.nil _ _ _, fun x hx => absurd hx (by simp), fun x hx => absurd hx (by simp), by simp,
    hs, fun j hj => by simp at hj; omega, fun j hj => by simp [own, Value.ownBlock] at hj, fun x hx => absurd hx (by simp)⟩, by simp [weight, unusedLen], by simp, ?_⟩
  exact (hC.trans hA).toBelow (Nat.le_refl _) (fun _ _ e => e.elim)
theorem Live.awake {w wr w' : World} {P s k : Nat} (h : Live w wr P s k) (hC : Chg (fun _ => False) wr w') : Below w.heap.size w w' := by
  obtain ⟨l, lv, pv, cv, uv, F, pcs, h1, h2, h3, h4⟩ := h
  exact h4.trans (hC.toBelow h4.size (fun _ _ e => e.elim))
theorem Live.kept {w wr w' : World} {P s k : Nat} (h : Live w wr P s k) (hC : Chg (fun _ => False) wr w') : Live w w' P s k := by
  obtain ⟨l, lv, pv, cv, uv, F, pcs, h1, h2, h3, h4⟩ := h
  exact ⟨l, lv, pv, cv, uv, F, pcs, h1.kept hC, h2, h3, h4.trans (hC.toBelow h4.size (fun _ _ e => e.elim))⟩
structure Act where
  kind : Int
  n : Int
def a0 : Act := ⟨0, 0⟩
def Act.ok (a : Act) : Prop := a.n ≤ 9223372036854775807
def acells (a : Act) : List Value := [.int .i64 a.kind, .int .i64 a.n]
/-- The acts that came in. -/
def ActsAt (w : World) (v : Value) (acts : List Act) : Prop :=
  ∃ ad cap, v = .slice ad acts.length cap ∧ (∀ a ∈ acts, a.ok) ∧ ∀ j, j < acts.length → ∃ b off, ad = some ⟨b, off, none⟩ ∧ b < w.heap.size ∧ ∀ i, i < 2 → w.cell? ⟨b, off + j * 2 + i, none⟩ = (acells (acts.getD j a0))[i]?
theorem takeRow_last (l : Row) (m : Bool) (n : Int) : takeRow (l ++ [(m, n)]) m = l := by simp [takeRow]
end Go.Proofs.Ytkidnmjaioejaaa.Sg
