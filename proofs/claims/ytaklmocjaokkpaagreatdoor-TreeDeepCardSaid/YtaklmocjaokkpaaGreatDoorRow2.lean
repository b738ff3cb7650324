/- An append of a whole row, empty or not, to a row. Condition: the rows' cells are known, and their blocks are not frozen. -/
import Derived.Test.YtaklmocjaokkpaaGreatDoorRow
import Derived.Deep.Upon
namespace Go.Proofs.YtaklmocjaokkpaaGreatDoor.Mem
set_option linter.unusedVariables false
set_option linter.unusedSimpArgs false
open Go Go.RowKit
section
variable {P : Program}
theorem run_append_none (w : World) (t ty e : TypeId) (i : TypeInfo) (ht : P.underlying t = some (.slice e)) (hi : P.info? e = some i) (base : Option Addr) (sLen sCap : Nat) (hle : sLen ≤ sCap) (ad : Option Addr) (c : Nat) :
    (Builtin.append_ #[t, t] ty #[.slice base sLen sCap, .slice ad 0 c]).run P w = .ok (.slice base sLen sCap) w := by
  cases base <;> cases ad <;> simp [Builtin.append_, run_underlying ht, sizeOf, typeInfo, hi, Builtin.lenOf, hle, Builtin.firstCells, storeCells, loadCells, loadCellsFrom]
theorem run_append_rows (w : World) (t ty e : TypeId) (i : TypeInfo) (z : Value) (size bytes : Nat) (ht : P.underlying t = some (.slice e)) (hi : P.info? e = some i) (hz : i.zero = some z)
    (hsize : i.size = size) (hby : i.bytes = bytes) (hzs : z.cells.size = size) (hsz : 0 < size)
    (v : Value) (n : Nat) (xs : List Value) (hown : RowAt w e size v n xs) (e2 : TypeId) (x : Value) (m : Nat) (ys : List Value) (hsrc : RowAt w e2 size x m ys) (h1 : ∀ u ∈ ys, u.oneCell' = true)
    (h63 : n + m ≤ maxLen) (hbytes : (n + m) * bytes ≤ 140737488355328) :
    ∃ v' w', (Builtin.append_ #[t, t] ty #[v, x]).run P w = .ok v' w' ∧ RowAt w' e size v' (n + m) (xs ++ ys) ∧ w.grownBy w' v.ownBlock ∧
      (∀ k, v'.ownBlock = some k → v.ownBlock = some k ∨ k = w.heap.size) := by
  rcases Nat.eq_zero_or_pos m with rfl | hm
  · obtain ⟨ad, cap, rfl, hc1, hc2⟩ := hown.form
    obtain ⟨ad2, cap2, rfl, _, _⟩ := hsrc.form
    have hy : ys = [] := List.eq_nil_of_length_eq_zero (by rw [hsrc.1, Nat.zero_mul])
    subst hy
    exact ⟨_, w, run_append_none w t ty e i ht hi ad n cap hc1 ad2 cap2, by rw [Nat.add_zero, List.append_nil]; exact hown, ⟨rfl, rfl, rfl, Nat.le_refl _, fun _ _ _ => rfl⟩, fun k hk => .inl hk⟩
  · obtain ⟨g, off, cap, rfl, _⟩ := hsrc.formS hm
    refine run_append_row w t ty e i z size bytes ht hi hz hsize hby hzs hsz v n xs hown ⟨g, off, none⟩ m cap ys hsrc.1 (fun j u hu => ?_) h1 hm h63 hbytes
    have hadd : (⟨g, off, none⟩ : Addr).add j = ⟨g, off + j, none⟩ := by unfold Addr.add; split <;> simp_all
    have hj : j < m * size := by rw [← hsrc.1]; exact (List.getElem?_eq_some_iff.1 hu).1
    rw [hadd, hsrc.cell j hj]
    exact hu
theorem wp_append_rows {o : Oper} {a : Act} (w : World) {K : Act → World → Prop} {Q : Exit → Act → World → Prop} (s x : Operand) (t : TypeId)
    (ho : o.op = .call { callee := .builtin .append, args := #[s, x], argTypes := #[t, t] })
    (e : TypeId) (i : TypeInfo) (z : Value) (size bytes : Nat) (ht : P.underlying t = some (.slice e)) (hi : P.info? e = some i) (hz : i.zero = some z)
    (hsize : i.size = size) (hby : i.bytes = bytes) (hzs : z.cells.size = size) (hsz : 0 < size)
    (v : Value) (n : Nat) (xs : List Value) (hs : a.eval s = v) (hown : RowAt w e size v n xs)
    (e2 : TypeId) (xv : Value) (m : Nat) (ys : List Value) (hx : a.eval x = xv) (hsrc : RowAt w e2 size xv m ys) (h1 : ∀ u ∈ ys, u.oneCell' = true)
    (h63 : n + m ≤ maxLen) (hbytes : (n + m) * bytes ≤ 140737488355328) (H : Nat) (hH : w.heap.size = H)
    (h : ∀ ad cap w', RowAt w' e size (.slice ad (n + m) cap) (n + m) (xs ++ ys) → w.grownBy w' v.ownBlock → (∀ g, (Value.slice ad (n + m) cap).ownBlock = some g → (v.ownBlock = some g ∨ g = H) ∧ g < w'.heap.size) → K (a.put o.dst (.slice ad (n + m) cap)) w') : o.wp P a w K Q := by
  obtain ⟨v', w', hr, h2, h3, h4⟩ := run_append_rows (P := P) w t o.type e i z size bytes ht hi hz hsize hby hzs hsz v n xs hown e2 xv m ys hsrc h1 h63 hbytes
  unfold Oper.wp execOp
  simp only [ho, resolve, invoke, builtin, Sem.run_bind, Sem.run_pure, Result.andThen_ok, List.map_toArray, List.map_cons, List.map_nil, hs, hx, hr]
  obtain ⟨ad, cap, rfl, _⟩ := h2.form
  exact h ad cap w' h2 h3 (fun g hg => ⟨by have := h4 g hg; rw [hH] at this; exact this, h2.lt g hg⟩)
theorem step_append_rows {ops : Array Oper} {o : Oper} {a : Act} (w : World) {K : Act → World → Prop} {Q : Exit → Act → World → Prop} {E : Prop} (hgd : o.guard = none) (s x : Operand) (t : TypeId)
    (ho : o.op = .call { callee := .builtin .append, args := #[s, x], argTypes := #[t, t] })
    (e : TypeId) (i : TypeInfo) (z : Value) (size bytes : Nat) (ht : P.underlying t = some (.slice e)) (hi : P.info? e = some i) (hz : i.zero = some z)
    (hsize : i.size = size) (hby : i.bytes = bytes) (hzs : z.cells.size = size) (hsz : 0 < size)
    (v : Value) (n : Nat) (xs : List Value) (hs : a.eval s = v) (hown : RowAt w e size v n xs)
    (e2 : TypeId) (xv : Value) (m : Nat) (ys : List Value) (hx : a.eval x = xv) (hsrc : RowAt w e2 size xv m ys) (h1 : ∀ u ∈ ys, u.oneCell' = true)
    (h63 : n + m ≤ maxLen) (hbytes : (n + m) * bytes ≤ 140737488355328) (H : Nat) (hH : w.heap.size = H)
    (h : ∀ ad cap w', RowAt w' e size (.slice ad (n + m) cap) (n + m) (xs ++ ys) → w.grownBy w' v.ownBlock → (∀ g, (Value.slice ad (n + m) cap).ownBlock = some g → (v.ownBlock = some g ∨ g = H) ∧ g < w'.heap.size) → K (a.put o.dst (.slice ad (n + m) cap)) w') :
    if Region.wanted o (yielded ops a.tmps) = true then Oper.wp P o a w K Q else E := by
  have hw : Region.wanted o (yielded ops a.tmps) = true := by simp [Region.wanted, hgd]
  rw [if_pos hw]
  exact wp_append_rows w s x t ho e i z size bytes ht hi hz hsize hby hzs hsz v n xs hs hown e2 xv m ys hx hsrc h1 h63 hbytes H hH h
theorem wpList_append_rows {ops : Array Oper} {rest : List Oper} {o : Oper} {a : Act} (w : World) {Q : Exit → Act → World → Prop} (hgd : o.guard = none) (s x : Operand) (t : TypeId)
    (ho : o.op = .call { callee := .builtin .append, args := #[s, x], argTypes := #[t, t] })
    (e : TypeId) (i : TypeInfo) (z : Value) (size bytes : Nat) (ht : P.underlying t = some (.slice e)) (hi : P.info? e = some i) (hz : i.zero = some z)
    (hsize : i.size = size) (hby : i.bytes = bytes) (hzs : z.cells.size = size) (hsz : 0 < size)
    (v : Value) (n : Nat) (xs : List Value) (hs : a.eval s = v) (hown : RowAt w e size v n xs)
    (e2 : TypeId) (xv : Value) (m : Nat) (ys : List Value) (hx : a.eval x = xv) (hsrc : RowAt w e2 size xv m ys) (h1 : ∀ u ∈ ys, u.oneCell' = true)
    (h63 : n + m ≤ maxLen) (hbytes : (n + m) * bytes ≤ 140737488355328) (H : Nat) (hH : w.heap.size = H)
    (h : ∀ ad cap w', RowAt w' e size (.slice ad (n + m) cap) (n + m) (xs ++ ys) → w.grownBy w' v.ownBlock → (∀ g, (Value.slice ad (n + m) cap).ownBlock = some g → (v.ownBlock = some g ∨ g = H) ∧ g < w'.heap.size) → wpList P ops Q rest (a.put o.dst (.slice ad (n + m) cap)) w') :
    wpList P ops Q (o :: rest) a w :=
  wpList_plain hgd fun _ hK => wp_append_rows w s x t ho e i z size bytes ht hi hz hsize hby hzs hsz v n xs hs hown e2 xv m ys hx hsrc h1 h63 hbytes H hH fun ad cap w' h2 h3 h4 => hK _ _ (h ad cap w' h2 h3 h4)
end
end Go.Proofs.YtaklmocjaokkpaaGreatDoor.Mem
