/- A map that a call makes out of a literal, with bytes as keys: made, filled, looked into; no condition. -/
import Derived.Test.YtaklmocjaokkpaaGreatDoorTreeUnlike
import Derived.Maps.OwnSet
namespace Go.Proofs.YtaklmocjaokkpaaGreatDoor.Tr
set_option linter.unusedVariables false
set_option linter.unusedSimpArgs false
open Go Go.RowKit Go.Shelf Go.Proofs.YtaklmocjaokkpaaGreatDoor.Mem

/-- A map's entries, oldest first. -/
def MapIs (w : World) (M : Nat) (l : List (Int × Value)) : Prop :=
  ∃ es clock, w.heap[M]? = some (.map es clock) ∧ es.toList.map (fun e => (e.key, e.val)) = l.map (fun x => (Value.int .u8 x.1, x.2))
def lookN : List (Int × Value) → Int → Option Value
  | [], _ => none
  | (j, v) :: l, k => if j = k then some v else lookN l k
theorem findNow_is (k : Int) : ∀ (es : List MapEntry) (l : List (Int × Value)) (i : Nat), es.map (fun e => (e.key, e.val)) = l.map (fun x => (Value.int .u8 x.1, x.2)) →
    ∃ r, Instr.findNow (.int .u8) (.int .u8 k) es i = some r ∧ r.map (·.2) = lookN l k := by
  intro es
  induction es with
  | nil =>
    intro l i h
    have : l = [] := by simpa using h.symm
    subst this
    exact ⟨none, rfl, rfl⟩
  | cons e es ih =>
    intro l i h
    cases l with
    | nil => simp at h
    | cons x l =>
      simp only [List.map_cons, List.cons.injEq, Prod.mk.injEq] at h
      obtain ⟨⟨h1, h2⟩, h3⟩ := h
      obtain ⟨j, v⟩ := x
      simp only at h1 h2
      by_cases hj : j = k
      · subst hj
        refine ⟨some (i, e.val), ?_, ?_⟩
        · simp [Instr.findNow, h1, Instr.sameNow]
        · simp [lookN, h2]
      · obtain ⟨r, r1, r2⟩ := ih l (i + 1) h3
        refine ⟨r, ?_, ?_⟩
        · have hne : (k == j) = false := by rw [beq_eq_false_iff_ne]; exact fun e => hj e.symm
          simp [Instr.findNow, h1, Instr.sameNow, hne]
          exact r1
        · simp [lookN, hj]; exact r2
section
variable {P : Program}
theorem run_check_u8 (w : World) (kt : TypeId) (hk : P.underlying kt = some (.int .u8)) (b : Bool) (k : Int) : (Instr.checkKey b 10000 kt (.int .u8 k)).run P w = .ok () w := by
  unfold Instr.checkKey
  simp only [Sem.run_bind, run_underlying hk, Result.andThen]
  rfl
theorem run_find_u8 (w : World) (kt : TypeId) (hk : P.underlying kt = some (.int .u8)) (k : Int) (es : List MapEntry) (l : List (Int × Value)) (h : es.map (fun e => (e.key, e.val)) = l.map (fun x => (Value.int .u8 x.1, x.2))) :
    ∃ r, (Instr.findKey kt (.int .u8 k) es).run P w = .ok r w ∧ r.map (·.2) = lookN l k := by
  obtain ⟨r, r1, r2⟩ := findNow_is k es l 0 h
  refine ⟨r, ?_, r2⟩
  simp [Instr.findKey, run_underlying hk, r1]
theorem run_insert_u8 (w : World) (t kt et : TypeId) (ht : P.underlying t = some (.map kt et)) (hk : P.underlying kt = some (.int .u8)) (M : Nat) (k : Int) (v : Value) (l : List (Int × Value)) (hm : MapIs w M l) (hno : lookN l k = none) :
    ∃ w', (Instr.mapUpdate t (.map (some M)) (.int .u8 k) v).run P w = .ok () w' ∧ MapIs w' M (l ++ [(k, v)]) ∧ Chg (fun j => j = M) w w' := by
  obtain ⟨es, clock, hb, he⟩ := hm
  obtain ⟨r, r1, r2⟩ := run_find_u8 (P := P) w kt hk k es.toList l he
  rw [hno] at r2
  have hr : r = none := by cases r with | none => rfl | some x => simp at r2
  subst hr
  refine ⟨{ w with heap := w.heap.setIfInBounds M (.map (es.push ⟨.int .u8 k, v, clock⟩) (clock + 1)) }, ?_, ?_, ?_⟩
  · simp [Instr.mapUpdate, run_underlying ht, MapKept.run_getObj_map hb, run_check_u8 w kt hk, r1, MapKept.run_setObj_map _ hb, Result.andThen]
  · refine ⟨es.push ⟨.int .u8 k, v, clock⟩, clock + 1, ?_, ?_⟩
    · simp [lt_of_block hb]
    · simp [he]
  · refine ⟨rfl, rfl, rfl, by simp, fun j hj hne => ?_⟩
    have : M ≠ j := fun e => hne e.symm
    simp [Array.getElem?_setIfInBounds, this]
theorem run_lookup_u8 (w : World) (t kt et : TypeId) (ht : P.underlying t = some (.map kt et)) (hk : P.underlying kt = some (.int .u8)) (z : Value) (hz : (zeroValue et).run P w = .ok z w) (M : Nat) (k : Int) (l : List (Int × Value)) (hm : MapIs w M l) :
    (Instr.lookup t (.map (some M)) (.int .u8 k) true).run P w = .ok (.tuple #[(lookN l k).getD z, .bool (lookN l k).isSome]) w := by
  obtain ⟨es, clock, hb, he⟩ := hm
  obtain ⟨r, r1, r2⟩ := run_find_u8 (P := P) w kt hk k es.toList l he
  rw [← r2]
  cases r with
  | none => simp [Instr.lookup, run_underlying ht, MapKept.run_getObj_map hb, run_check_u8 w kt hk, r1, hz, Result.andThen]
  | some x => simp [Instr.lookup, run_underlying ht, MapKept.run_getObj_map hb, run_check_u8 w kt hk, r1, Result.andThen]
theorem run_makeMap (w : World) (t : TypeId) : (Instr.makeMap t none).run P w = .ok (.map (some w.heap.size)) (w.alloc (.map #[] 0)) := by
  simp [Instr.makeMap, newObj, Sem.run]
theorem map_new (w : World) : MapIs (w.alloc (.map #[] 0)) w.heap.size [] := ⟨#[], 0, blk_new w _, rfl⟩
/-- At the operations. -/
theorem wpList_makeMap {ops : Array Oper} {rest : List Oper} {o : Oper} {a : Act} (w : World) {Q : Exit → Act → World → Prop} (hg : o.guard = none) (t : TypeId) (hop : o.op = Op.makeMap t none)
    (hK : ∀ M w', M = w.heap.size → MapIs w' M [] → Chg (fun _ => False) w w' → wpList P ops Q rest (a.put o.dst (.map (some M))) w') : wpList P ops Q (o :: rest) a w := by
  refine wpList_plain hg fun K' hK' => ?_
  unfold Oper.wp
  simp [execOp, hop, run_makeMap, Result.andThen]
  exact hK' _ _ (hK _ _ rfl (map_new w) ((Chg.refl _ w).alloc _))
theorem wpList_insert_u8 {ops : Array Oper} {rest : List Oper} {o : Oper} {a : Act} (w : World) {Q : Exit → Act → World → Prop} (hg : o.guard = none) (m x v : Operand) (t : TypeId) (hop : o.op = Op.insert t m x v)
    (kt et : TypeId) (ht : P.underlying t = some (.map kt et)) (hk : P.underlying kt = some (.int .u8)) (M : Nat) (k : Int) (val : Value) (l : List (Int × Value)) (hmv : a.eval m = .map (some M)) (hx : a.eval x = .int .u8 k) (hv : a.eval v = val) (hm : MapIs w M l) (hno : lookN l k = none)
    (hK : ∀ w', MapIs w' M (l ++ [(k, val)]) → Chg (fun j => j = M) w w' → wpList P ops Q rest (a.put o.dst undef) w') : wpList P ops Q (o :: rest) a w := by
  refine wpList_plain hg fun K' hK' => ?_
  obtain ⟨w', hrun, r1, r2⟩ := run_insert_u8 (P := P) w t kt et ht hk M k val l hm hno
  unfold Oper.wp
  simp [execOp, hop, hmv, hx, hv, hrun, Result.andThen]
  exact hK' _ _ (hK w' r1 r2)
/-- .. the next one of a table. -/
theorem wpList_insert_tab {ops : Array Oper} {rest : List Oper} {o : Oper} {a : Act} (w : World) {Q : Exit → Act → World → Prop} (hg : o.guard = none) (m x v : Operand) (t : TypeId) (hop : o.op = Op.insert t m x v)
    (kt et : TypeId) (ht : P.underlying t = some (.map kt et)) (hk : P.underlying kt = some (.int .u8)) (M i : Nat) (L : List (Int × Value)) (hm : MapIs w M (L.take i)) (k : Int) (val : Value) (hL : L[i]? = some (k, val)) (hno : lookN (L.take i) k = none)
    (hmv : a.eval m = .map (some M)) (hx : a.eval x = .int .u8 k) (hv : a.eval v = val)
    (hK : ∀ w', MapIs w' M (L.take (i + 1)) → Chg (fun j => j = M) w w' → wpList P ops Q rest (a.put o.dst undef) w') : wpList P ops Q (o :: rest) a w := by
  refine wpList_insert_u8 w hg m x v t hop kt et ht hk M k val _ hmv hx hv hm hno fun w' h1 h2 => hK w' ?_ h2
  rw [List.take_add_one, hL]
  exact h1
theorem wpList_lookup_u8 {ops : Array Oper} {rest : List Oper} {o : Oper} {a : Act} (w : World) {Q : Exit → Act → World → Prop} (hg : o.guard = none) (m x : Operand) (t : TypeId) (hop : o.op = Op.lookup t m x true)
    (kt et : TypeId) (ht : P.underlying t = some (.map kt et)) (hk : P.underlying kt = some (.int .u8)) (z : Value) (hz : (zeroValue et).run P w = .ok z w) (M : Nat) (k : Int) (l : List (Int × Value)) (hmv : a.eval m = .map (some M)) (hx : a.eval x = .int .u8 k) (hm : MapIs w M l)
    (res : Value) (ok : Bool) (hr : (lookN l k).getD z = res ∧ (lookN l k).isSome = ok)
    (hK : wpList P ops Q rest (a.put o.dst (.tuple #[res, .bool ok])) w) : wpList P ops Q (o :: rest) a w := by
  refine wpList_plain hg fun K' hK' => ?_
  unfold Oper.wp
  simp [execOp, hop, hmv, hx, run_lookup_u8 w t kt et ht hk z hz M k l hm, Result.andThen]
  rw [hr.1, hr.2]
  exact hK' _ _ hK
end
end Go.Proofs.YtaklmocjaokkpaaGreatDoor.Tr
