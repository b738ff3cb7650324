/- The reference's Same at two rows of the same tokens: true. Conditions: both rows hold these tokens. -/
import Derived.Test.YtkidnmjaioejaabDoorLexRef5
import Derived.Laws.StructEq
namespace Go.Proofs.YtkidnmjaioejaabDoor.Lx
open Go.RowKit Go.Proofs.YtkidnmjaioejaabDoor.Mem

theorem eqTok (w : World) (k : Int) (s : ByteArray) (n a : Int) :
    (Op.equalIn 10000 33 (.agg #[.int .u8 k, .string s, .int .i64 n, .int .i64 a]) (.agg #[.int .u8 k, .string s, .int .i64 n, .int .i64 a])).run Tryd.prog w = .ok true w := by
  have hS : Tryd.prog.underlying 33 = some (.struct (Tryd.prog.fieldsOf 33)) := by kernel_rfl
  have hp : Tryd.prog.stoodInHeld 33 = false := by kernel_rfl
  rw [show (10000 : Nat) = 9999 + 1 from rfl, run_equalIn_agg w 9999 33 _ _ hS hp]
  simp only [Program.fieldsOf, Tryd.underlying33]
  go_simp

theorem flat_get (l : List Tok) (k i : Nat) (hk : k < l.length) (hi : i < 4) : (l.flatMap tokCells)[k * 4 + i]? = (tokCells l[k])[i]? := by
  induction l generalizing k with
  | nil => simp at hk
  | cons t l ih =>
    rw [List.flatMap_cons]
    cases k with
    | zero =>
      rw [List.getElem?_append_left (by show 0 * 4 + i < 4; omega), Nat.zero_mul, Nat.zero_add]
      rfl
    | succ k =>
      rw [List.getElem?_append_right (by show 4 ≤ (k + 1) * 4 + i; omega)]
      show (l.flatMap tokCells)[(k + 1) * 4 + i - 4]? = _
      rw [show (k + 1) * 4 + i - 4 = k * 4 + i by omega, ih k (by simpa using hk)]
      rfl

theorem row_cell {w : World} {base g n cap : Nat} {e : TypeId} {l : List Tok} (h : w.ownsRow base e 4 (.slice (some ⟨g, 0, none⟩) n cap) n (l.flatMap tokCells)) (hn : n = l.length) (k i : Nat) (hk : k < l.length) (hi : i < 4) :
    w.cell? ⟨g, k * 4 + i, none⟩ = (tokCells l[k])[i]? := by
  rw [h.cellAt (k * 4 + i) (by omega), flat_get l k i hk hi]

theorem zero_form {w : World} {base : Nat} {e : TypeId} {size : Nat} {v : Value} {xs : List Value} (h : w.ownsRow base e size v 0 xs) : ∃ a c, v = .slice a 0 c := by
  rcases h.2 with ⟨rfl, _⟩ | ⟨g, cap, cur, rfl, _⟩
  · exact ⟨_, _, rfl⟩
  · exact ⟨_, _, rfl⟩

set_option maxRecDepth 100000 in
set_option maxHeartbeats 4000000 in
theorem same_calls (va vb : Value) (l : List Tok) (b1 b2 : Nat) (w : World) (hl : l.length ≤ 70000) (ha : w.ownsRow b1 33 4 va l.length (l.flatMap tokCells)) (hb : w.ownsRow b2 33 4 vb l.length (l.flatMap tokCells)) :
    Calls Tryd.prog 12 #[va, vb] w fun e w' => e = .returned (.bool true) ∧ ∃ n, w' = w.drewN n := by
  have hg : ∀ (w : World) (k : Int) (s : ByteArray) (n a : Int), (binOp .neq 33 (.agg #[.int .u8 k, .string s, .int .i64 n, .int .i64 a]) (.agg #[.int .u8 k, .string s, .int .i64 n, .int .i64 a])).run Tryd.prog w = .ok (.bool false) w := fun w k s n a => by
    rw [run_neq_struct, eqTok]; rfl
  cases l with
  | nil =>
    obtain ⟨a1, c1, rfl⟩ := zero_form ha
    obtain ⟨a2, c2, rfl⟩ := zero_form hb
    clear ha hb hl hg
    go_enter Tryd.func12, Tryd.ntmps12
    go_wp2_with fail
    refine wp_loop_rounds 1 ?_
    rw [rounds_succ]
    go_wp2_with fail
    go_ret
    exact ⟨rfl, 0, rfl⟩
  | cons t l =>
    obtain ⟨g1, p1, rfl, _, _⟩ := ha.form (by simp)
    obtain ⟨g2, p2, rfl, _, _⟩ := hb.form (by simp)
    generalize t :: l = l at *
    have A1 : Hid (∀ k i, k < l.length → i < 4 → w.cell? ⟨g1, k * 4 + i, none⟩ = (tokCells (l.getD k ⟨0, [], 0, 0⟩))[i]?) := fun k i hk hi => by
      rw [row_cell ha rfl k i hk hi]; simp [hk]
    have A2 : Hid (∀ k i, k < l.length → i < 4 → w.cell? ⟨g2, k * 4 + i, none⟩ = (tokCells (l.getD k ⟨0, [], 0, 0⟩))[i]?) := fun k i hk hi => by
      rw [row_cell hb rfl k i hk hi]; simp [hk]
    generalize l.length = n at *
    clear ha hb
    go_enter Tryd.func12, Tryd.ntmps12
    go_wp2_with fail
    go_loopg [13] (n + 1) (fun g vi wr => ∃ k : Nat, vi = .int .i64 k ∧ k ≤ n ∧ n < g + k ∧ Hid (∃ m, wr = w.drewN m))
    case atStart => exact ⟨0, rfl, by omega, by omega, 0, rfl⟩
    case round =>
      obtain ⟨k, rfl, hk, hgk, hw⟩ := hrel
      obtain ⟨m, rfl⟩ := hw.out
      clear hw
      by_cases hlt : k < n
      · obtain ⟨g, rfl⟩ : ∃ m, gk = m + 1 := ⟨gk - 1, by omega⟩
        have a0 : w.cell? ⟨g1, k * 4, none⟩ = _ := A1.out k 0 hlt (by omega)
        have a1 := A1.out k 1 hlt (by omega)
        have a2 := A1.out k 2 hlt (by omega)
        have a3 := A1.out k 3 hlt (by omega)
        have d0 : w.cell? ⟨g2, k * 4, none⟩ = _ := A2.out k 0 hlt (by omega)
        have d1 := A2.out k 1 hlt (by omega)
        have d2 := A2.out k 2 hlt (by omega)
        have d3 := A2.out k 3 hlt (by omega)
        generalize l.getD k ⟨0, [], 0, 0⟩ = t at *
        simp only [tokCells, List.getElem?_cons_zero, List.getElem?_cons_succ] at a0 a1 a2 a3 d0 d1 d2 d3
        have i0 : (0 : Int) ≤ (k : Int) := by omega
        have i1 : (k : Int) < (n : Int) := by omega
        go_wp2_with fail
        go_quiet (fail)
        go_wp2_with fail
        go_roundg g
        case measure => omega
        case rel => exact ⟨k + 1, by go_num, by omega, by omega, _, rfl⟩
      · have h2 : ¬ (k : Int) < (n : Int) := by omega
        go_wp2_with fail
        go_ret
        exact ⟨rfl, m, rfl⟩
end Go.Proofs.YtkidnmjaioejaabDoor.Lx
