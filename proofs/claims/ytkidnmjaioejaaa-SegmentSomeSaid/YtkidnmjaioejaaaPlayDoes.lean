/- does, walked, for the acts that take, and for none. Condition: the play is known. -/
import Derived.Test.YtkidnmjaioejaaaPlayLooks
namespace Go.Proofs.Ytkidnmjaioejaaa.Sg
set_option linter.unusedVariables false
set_option linter.unusedSimpArgs false
open Go.RowKit Go.Proofs.Ytkidnmjaioejaaa.Mem

def unusedLen (pcs : List Pc) : Nat := (pcs.map fun x => if x.u then 0 else x.c.length).sum
def weight (l : Row) (pcs : List Pc) : Nat := l.length + unusedLen pcs
/-- The play behind an act. -/
def Did (w w' : World) (P s : Nat) (l : Row) (pcs : List Pc) (B0 : Nat) : Prop :=
  ∃ l' lv' pv' cv' uv' F' pcs', PlayAt w' P s l' l' lv' pv' cv' uv' F' pcs' B0 ∧ Chg (fun j => B0 ≤ j) w w' ∧ weight l' pcs' ≤ weight l pcs + 1 ∧ pcs'.length ≤ pcs.length + 1
def actV (kind n : Int) : Value := .agg #[.int .i64 kind, .int .i64 n]
theorem takeRow_len (l : Row) (mark : Bool) : (takeRow l mark).length ≤ l.length := by
  unfold takeRow
  split
  · split
    · simp
    · exact Nat.le_refl _
  · exact Nat.le_refl _
set_option maxRecDepth 100000 in
set_option maxHeartbeats 4000000 in
theorem does_else {w : World} {P s : Nat} {l : Row} {lv pv cv uv : Value} {F : List Nat} {pcs : List Pc} {B0 : Nat} (h : PlayAt w P s l l lv pv cv uv F pcs B0) (kind n : Int) (hk : kind < 0 ∨ 5 < kind) :
    Calls Try.prog 26 #[.pointer (some ⟨P, 0, none⟩), actV kind n] w fun e w' => e = .returned (.bool true) ∧ Did w w' P s l pcs B0 := by
  have h0 : ¬ kind = 0 := by omega
  have h1 : ¬ kind = 1 := by omega
  have h2 : ¬ kind = 2 := by omega
  have h3 : ¬ kind = 3 := by omega
  have h4 : ¬ kind = 4 := by omega
  have h5 : ¬ kind = 5 := by omega
  have HH := Lib.hid h
  clear h
  unfold actV
  go_enter Try.func26, Try.ntmps26
  go_wp2_with fail
  go_ret
  exact ⟨rfl, _, _, _, _, _, _, _, HH.out.kept ((Chg.refl _ _).alloc _), (Chg.refl _ _).alloc _, by omega, by omega⟩
set_option maxRecDepth 100000 in
set_option maxHeartbeats 4000000 in
theorem does_take {w : World} {P s : Nat} {l : Row} {lv pv cv uv : Value} {F : List Nat} {pcs : List Pc} {B0 : Nat} (h : PlayAt w P s l l lv pv cv uv F pcs B0) (hl : l.length ≤ 100000) (kind n : Int) (mark : Bool) (hk : kind = if mark then 3 else 2) :
    Calls Try.prog 26 #[.pointer (some ⟨P, 0, none⟩), actV kind n] w fun e w' => e = .returned (.bool true) ∧ Did w w' P s l pcs B0 := by
  obtain ⟨w0, hw0⟩ : ∃ w0, w.alloc (.cells #[.int .i64 kind, .int .i64 n] 64) = w0 := ⟨_, rfl⟩
  have hC0 : Chg (fun _ => False) w w0 := by rw [← hw0]; exact (Chg.refl _ w).alloc _
  have hb0 : w0.heap[w.heap.size]? = some (.cells #[.int .i64 kind, .int .i64 n] 64 (0, 0)) := by rw [← hw0]; exact blk_new w _
  have a0 : w0.cell? ⟨w.heap.size, 0, none⟩ = some (.int .i64 kind) := cell_of hb0 0
  have HT := Lib.hid (takes_calls (h.kept hC0) hl mark)
  have HC0 := Lib.hid hC0
  have hlen := takeRow_len l mark
  have HLEN := Lib.hid hlen
  clear h hC0 hb0 hlen
  unfold actV
  cases mark with
  | true =>
    simp only [if_true] at hk
    subst hk
    go_enter Try.func26, Try.ntmps26
    go_wp2_with fail
    refine HT.out.mono ?_
    rintro e w1 ⟨rfl, hd⟩
    have HD := Lib.hid hd
    clear hd
    go_wp2_with fail
    go_ret
    obtain ⟨lv', F', z1, z2⟩ := HD.out
    exact ⟨rfl, _, _, _, _, _, _, _, z1, (HC0.out.mono (fun _ _ e => e.elim)).trans z2, by have := HLEN.out; unfold weight; omega, by omega⟩
  | false =>
    simp only [if_false, Bool.false_eq_true] at hk
    subst hk
    go_enter Try.func26, Try.ntmps26
    go_wp2_with fail
    refine HT.out.mono ?_
    rintro e w1 ⟨rfl, hd⟩
    have HD := Lib.hid hd
    clear hd
    go_wp2_with fail
    go_ret
    obtain ⟨lv', F', z1, z2⟩ := HD.out
    exact ⟨rfl, _, _, _, _, _, _, _, z1, (HC0.out.mono (fun _ _ e => e.elim)).trans z2, by have := HLEN.out; unfold weight; omega, by omega⟩
end Go.Proofs.Ytkidnmjaioejaaa.Sg
