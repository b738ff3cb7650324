/- The cache's keys: five numbers; what a key reads as in a map; no condition. -/
import Derived.Test.YtkidnmjaioejaaaProg
import Derived.Test.YtkidnmjaioejaaaMem
import Derived.Maps.OwnSet
import Derived.Maps.OwnOps
import Derived.DeepKeys4
namespace Go.Proofs.Ytkidnmjaioejaaa.Cx
set_option linter.unusedVariables false
set_option linter.unusedSimpArgs false
open Go.RowKit Go.Proofs.Ytkidnmjaioejaaa.Mem Go.Maps

/-- A key: a function's number, and a shape. -/
structure Key where
  p : Int
  a : Int
  b : Int
  c : Int
  d : Int
deriving DecidableEq
def fits (x : Int) : Prop := (Lit.int .i64 x).wf = true
def Key.ok (k : Key) : Prop := fits k.p ∧ fits k.a ∧ fits k.b ∧ fits k.c ∧ fits k.d
def kcells (k : Key) : List Value := [.int .i64 k.p, .int .i64 k.a, .int .i64 k.b, .int .i64 k.c, .int .i64 k.d]
def kv (k : Key) : Value := .agg #[.int .i64 k.p, .int .i64 k.a, .int .i64 k.b, .int .i64 k.c, .int .i64 k.d]
def kl (k : Key) : Lit := .string (keyBytes [.int .i64 k.p, .int .i64 k.a, .int .i64 k.b, .int .i64 k.c, .int .i64 k.d])

set_option maxRecDepth 100000 in
theorem laidOut : laidOutB Try.prog = true := by kernel_rfl
theorem rowK : (34 : TypeId) < Try.prog.types.size := of_decide_eq_true (by kernel_rfl)
theorem cellsK : Try.prog.cellsOf 34 = 5 := by kernel_rfl
theorem cells4 : Try.prog.cellsOf 32 = 4 := by kernel_rfl
theorem cells3 : Try.prog.cellsOf 3 = 1 := by kernel_rfl
theorem wideK : (match Try.prog.underlying 34 with | some (.array _ _) | some (.struct _) => true | _ => false) = true := by kernel_rfl
theorem keyTypeK : Try.prog.keyType 34 = true := by kernel_rfl
set_option maxRecDepth 100000 in
theorem law : Keyed Try.prog 34 := Keyed.of_law (deep_law_laid laidOut (m := 4) (by omega) rowK (by kernel_rfl) wideK)

theorem formedK (k : Key) : (kv k).formed Try.prog 34 = true := by
  have h := Try.underlying34
  simp [Value.formed, kv, h, cellsK]
theorem lits_int (d : Nat) {x : Int} (hx : fits x) : Try.prog.keyLits (d + 1) 3 [.int .i64 x] = some [.int .i64 x] := by
  unfold fits at hx
  have h := Try.underlying3
  simp [Program.keyLits, h, hx]
theorem hkey {k : Key} (hk : k.ok) : keyOf Try.prog 34 (kv k) = some (kl k) := by
  obtain ⟨h1, h2, h3, h4, h5⟩ := hk
  have hu := Try.underlying34
  have hs : ∃ m, Try.prog.types.size = m + 2 := ⟨Try.prog.types.size - 2, by have h : 34 < Try.prog.types.size := rowK; show Try.prog.types.size = _; revert h; generalize Try.prog.types.size = z; intro h; omega⟩
  obtain ⟨m, hm⟩ := hs
  unfold keyOf
  simp only [hu]
  rw [if_pos (by rw [keyTypeK, formedK]; rfl), hm]
  unfold Program.keyLits
  simp only [hu, Value.cells, kv]
  rw [if_pos ⟨by rw [cellsK]; rfl, by simp⟩]
  have e1 := lits_int (m + 1) h1
  have e2 : Try.prog.keyLits (m + 2) 32 [.int .i64 k.a, .int .i64 k.b, .int .i64 k.c, .int .i64 k.d] = some [.int .i64 k.a, .int .i64 k.b, .int .i64 k.c, .int .i64 k.d] := by
    have hu2 := Try.underlying32
    unfold Program.keyLits
    simp only [hu2]
    rw [if_pos (by rw [cells4]; rfl), show List.range 4 = [0, 1, 2, 3] from rfl]
    simp [List.mapM_cons, cells3, lits_int m h2, lits_int m h3, lits_int m h4, lits_int m h5]
  simp [List.mapM_cons, cells4, cells3, e1, e2, kl]
end Go.Proofs.Ytkidnmjaioejaaa.Cx
