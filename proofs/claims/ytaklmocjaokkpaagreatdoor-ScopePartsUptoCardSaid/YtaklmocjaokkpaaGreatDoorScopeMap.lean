/- A map of counts by texts: looked into, put into, deleted from; no condition. -/
import Derived.Test.YtaklmocjaokkpaaGreatDoorTreeMap
namespace Go.Proofs.YtaklmocjaokkpaaGreatDoor.Tr
set_option linter.unusedVariables false
set_option linter.unusedSimpArgs false
open Go Go.RowKit Go.Shelf Go.Proofs.YtaklmocjaokkpaaGreatDoor.Mem

def lookS : List (ByteArray × Int) → ByteArray → Option Int
  | [], _ => none
  | (j, v) :: l, k => if j = k then some v else lookS l k
abbrev entS (x : ByteArray × Int) : Value × Value := (Value.string x.1, Value.int .i64 x.2)
/-- Block M is a map that counts as c does. -/
def MapC (w : World) (M : Nat) (c : ByteArray → Int) : Prop :=
  ∃ es clock l, w.heap[M]? = some (.map es clock) ∧ es.toList.map (fun e => (e.key, e.val)) = l.map entS ∧ (l.map Prod.fst).Nodup ∧ ∀ s, (lookS l s).getD 0 = c s
theorem MapC.lt {w : World} {M : Nat} {c : ByteArray → Int} (h : MapC w M c) : M < w.heap.size := by
  obtain ⟨es, clock, l, h1, _⟩ := h
  exact lt_of_block h1
theorem MapC.chg {F : Nat → Prop} {w w' : World} {M : Nat} {c : ByteArray → Int} (h : MapC w M c) (hc : Chg F w w') (hf : ¬ F M) : MapC w' M c := by
  obtain ⟨es, clock, l, h1, r⟩ := h
  exact ⟨es, clock, l, hc.blk h1 hf, r⟩
theorem MapC.eq {w : World} {M : Nat} {c d : ByteArray → Int} (h : MapC w M c) (e : ∀ s, c s = d s) : MapC w M d := by
  obtain ⟨es, clock, l, h1, h2, h3, h4⟩ := h
  exact ⟨es, clock, l, h1, h2, h3, fun s => (h4 s).trans (e s)⟩
theorem beq_str (a b : ByteArray) : (a == b) = decide (a = b) := by
  by_cases h : a = b
  · rw [decide_eq_true h]; exact (MapKept.bytes_beq a b).2 h
  · rw [decide_eq_false h]
    cases e : a == b with
    | false => rfl
    | true => exact absurd ((MapKept.bytes_beq a b).1 e) h
theorem beq_strs (a : ByteArray) : (a == a) = true := (MapKept.bytes_beq a a).2 rfl
theorem findNow_s (s : ByteArray) : ∀ (es : List MapEntry) (l : List (ByteArray × Int)) (i : Nat), es.map (fun e => (e.key, e.val)) = l.map entS →
    (Instr.findNow .string (.string s) es i = some none ∧ lookS l s = none) ∨
    ∃ j v, Instr.findNow .string (.string s) es i = some (some (i + j, .int .i64 v)) ∧ l[j]? = some (s, v) ∧ lookS l s = some v := by
  intro es
  induction es with
  | nil =>
    intro l i h
    have : l = [] := by simpa using h.symm
    subst this
    exact .inl ⟨rfl, rfl⟩
  | cons e es ih =>
    intro l i h
    cases l with
    | nil => simp at h
    | cons x l =>
      simp only [List.map_cons, List.cons.injEq, Prod.mk.injEq, entS] at h
      obtain ⟨⟨h1, h2⟩, h3⟩ := h
      obtain ⟨j, v⟩ := x
      simp only at h1 h2
      by_cases hj : j = s
      · subst hj
        refine .inr ⟨0, v, ?_, rfl, by simp [lookS]⟩
        simp [Instr.findNow, h1, h2, Instr.sameNow, beq_strs]
      · have hne : (s == j) = false := by rw [beq_str]; exact decide_eq_false (fun e => hj e.symm)
        rcases ih l (i + 1) h3 with ⟨r1, r2⟩ | ⟨k, v', r1, r2, r3⟩
        · refine .inl ⟨?_, by simp [lookS, hj, r2]⟩
          simp [Instr.findNow, h1, Instr.sameNow, hne]
          exact r1
        · refine .inr ⟨k + 1, v', ?_, by simpa using r2, by simp [lookS, hj, r3]⟩
          simp [Instr.findNow, h1, Instr.sameNow, hne]
          rw [r1, show i + 1 + k = i + (k + 1) by omega]
theorem lookS_none {l : List (ByteArray × Int)} {s : ByteArray} (h : lookS l s = none) : s ∉ l.map Prod.fst := by
  induction l with
  | nil => simp
  | cons x l ih =>
    obtain ⟨j, v⟩ := x
    unfold lookS at h
    split at h
    · cases h
    · rename_i hj
      simp only [List.map_cons, List.mem_cons, not_or]
      exact ⟨fun e => hj e.symm, ih h⟩
theorem lookS_notin {l : List (ByteArray × Int)} {s : ByteArray} (h : s ∉ l.map Prod.fst) : lookS l s = none := by
  induction l with
  | nil => rfl
  | cons x l ih =>
    obtain ⟨j, v⟩ := x
    simp only [List.map_cons, List.mem_cons, not_or] at h
    unfold lookS
    rw [if_neg (fun e => h.1 e.symm)]
    exact ih h.2
theorem lookS_snoc {l : List (ByteArray × Int)} {s t : ByteArray} {n : Int} (h : s ∉ l.map Prod.fst) : lookS (l ++ [(s, n)]) t = if t = s then some n else lookS l t := by
  induction l with
  | nil =>
    simp only [List.nil_append, lookS]
    by_cases e : t = s
    · rw [if_pos e, if_pos e.symm]
    · rw [if_neg e, if_neg (fun h => e h.symm)]
  | cons x l ih =>
    obtain ⟨j, v⟩ := x
    simp only [List.map_cons, List.mem_cons, not_or] at h
    rw [List.cons_append]
    unfold lookS
    by_cases e : j = t
    · subst e
      rw [if_pos rfl, if_pos rfl, if_neg (fun e => h.1 e.symm)]
    · rw [if_neg e, if_neg e]
      exact ih h.2
theorem lookS_set {l : List (ByteArray × Int)} {s t : ByteArray} {n v : Int} {j : Nat} (hd : (l.map Prod.fst).Nodup) (h : l[j]? = some (s, v)) : lookS (l.set j (s, n)) t = if t = s then some n else lookS l t := by
  induction l generalizing j with
  | nil => simp at h
  | cons x l ih =>
    obtain ⟨k, u⟩ := x
    simp only [List.map_cons, List.nodup_cons] at hd
    cases j with
    | zero =>
      have e : (k, u) = (s, v) := by simpa using h
      cases e
      rw [List.set_cons_zero]
      unfold lookS
      by_cases e : s = t
      · rw [if_pos e, if_pos e.symm]
      · rw [if_neg e, if_neg (fun h => e h.symm), if_neg e]
    | succ j =>
      rw [List.set_cons_succ]
      have h' : l[j]? = some (s, v) := by simpa using h
      have hks : k ≠ s := fun e => hd.1 (e ▸ List.mem_map.2 ⟨_, List.mem_of_getElem? h', rfl⟩)
      unfold lookS
      by_cases e : k = t
      · subst e
        rw [if_pos rfl, if_pos rfl, if_neg hks]
      · rw [if_neg e, if_neg e]
        exact ih hd.2 h'
theorem lookS_erase {l : List (ByteArray × Int)} {s t : ByteArray} {v : Int} {j : Nat} (hd : (l.map Prod.fst).Nodup) (h : l[j]? = some (s, v)) : lookS (l.eraseIdx j) t = if t = s then none else lookS l t := by
  induction l generalizing j with
  | nil => simp at h
  | cons x l ih =>
    obtain ⟨k, u⟩ := x
    simp only [List.map_cons, List.nodup_cons] at hd
    cases j with
    | zero =>
      have e : (k, u) = (s, v) := by simpa using h
      cases e
      rw [List.eraseIdx_cons_zero]
      by_cases e : t = s
      · rw [if_pos e]
        exact lookS_notin (by rw [e]; exact hd.1)
      · rw [if_neg e]
        conv => rhs; unfold lookS
        rw [if_neg (fun h => e h.symm)]
    | succ j =>
      rw [List.eraseIdx_cons_succ]
      have h' : l[j]? = some (s, v) := by simpa using h
      have hks : k ≠ s := fun e => hd.1 (e ▸ List.mem_map.2 ⟨_, List.mem_of_getElem? h', rfl⟩)
      unfold lookS
      by_cases e : k = t
      · subst e
        rw [if_pos rfl, if_pos rfl, if_neg hks]
      · rw [if_neg e, if_neg e]
        exact ih hd.2 h'
theorem set_fst {l : List (ByteArray × Int)} {s : ByteArray} {n v : Int} {j : Nat} (h : l[j]? = some (s, v)) : (l.set j (s, n)).map Prod.fst = l.map Prod.fst := by
  induction l generalizing j with
  | nil => simp at h
  | cons x l ih =>
    cases j with
    | zero =>
      have e : x = (s, v) := by simpa using h
      subst e
      simp
    | succ j =>
      rw [List.set_cons_succ, List.map_cons, List.map_cons, ih (by simpa using h)]
theorem erase_map {α β : Type} (f : α → β) : ∀ (l : List α) (j : Nat), (l.eraseIdx j).map f = (l.map f).eraseIdx j
  | [], _ => by simp
  | _ :: _, 0 => by simp
  | x :: l, j + 1 => by simp [erase_map f l j]
section
variable {P : Program}
theorem run_check_s (w : World) (kt : TypeId) (hk : P.underlying kt = some .string) (b : Bool) (s : ByteArray) : (Instr.checkKey b 10000 kt (.string s)).run P w = .ok () w := by
  unfold Instr.checkKey
  simp only [Sem.run_bind, run_underlying hk, Result.andThen]
  rfl
theorem run_stays_s (w : World) (s : ByteArray) : (Instr.keyThatStays (.string s) (.string s)).run P w = .ok (.string s) w := by
  simp [Instr.keyThatStays, Instr.sameBits, beq_strs]
theorem run_lookupC (w : World) (t kt et : TypeId) (ht : P.underlying t = some (.map kt et)) (hk : P.underlying kt = some .string) (hz : (zeroValue et).run P w = .ok (.int .i64 0) w) {M : Nat} {c : ByteArray → Int} (hm : MapC w M c) (s : ByteArray) :
    (Instr.lookup t (.map (some M)) (.string s) false).run P w = .ok (.int .i64 (c s)) w := by
  obtain ⟨es, clock, l, hb, he, hd, hc⟩ := hm
  rw [← hc s]
  rcases findNow_s s es.toList l 0 he with ⟨r1, r2⟩ | ⟨j, v, r1, r2, r3⟩
  · rw [r2]
    simp [Instr.lookup, run_underlying ht, MapKept.run_getObj_map hb, run_check_s w kt hk, Instr.findKey, run_underlying hk, r1, hz, Result.andThen]
  · rw [r3]
    simp [Instr.lookup, run_underlying ht, MapKept.run_getObj_map hb, run_check_s w kt hk, Instr.findKey, run_underlying hk, r1, Result.andThen]
theorem set_heap {w : World} {M : Nat} {o o' : Obj} (hb : w.heap[M]? = some o) : ({ w with heap := w.heap.setIfInBounds M o' } : World).heap[M]? = some o' := by
  simp [lt_of_block hb]
theorem set_chg (w : World) (M : Nat) (o' : Obj) : Chg (fun j => j = M) w { w with heap := w.heap.setIfInBounds M o' } := by
  refine ⟨rfl, rfl, rfl, by simp, fun j hj hne => ?_⟩
  have : M ≠ j := fun e => hne e.symm
  simp [Array.getElem?_setIfInBounds, this]
theorem run_updateC (w : World) (t kt et : TypeId) (ht : P.underlying t = some (.map kt et)) (hk : P.underlying kt = some .string) {M : Nat} {c : ByteArray → Int} (hm : MapC w M c) (s : ByteArray) (n : Int) :
    ∃ w', (Instr.mapUpdate t (.map (some M)) (.string s) (.int .i64 n)).run P w = .ok () w' ∧ MapC w' M (fun x => if x = s then n else c x) ∧ Chg (fun j => j = M) w w' := by
  obtain ⟨es, clock, l, hb, he, hd, hc⟩ := hm
  rcases findNow_s s es.toList l 0 he with ⟨r1, r2⟩ | ⟨j, v, r1, r2, r3⟩
  · refine ⟨{ w with heap := w.heap.setIfInBounds M (.map (es.push ⟨.string s, .int .i64 n, clock⟩) (clock + 1)) }, ?_, ?_, set_chg w M _⟩
    · simp [Instr.mapUpdate, run_underlying ht, MapKept.run_getObj_map hb, run_check_s w kt hk, Instr.findKey, run_underlying hk, r1, MapKept.run_setObj_map _ hb, Result.andThen]
    · have hni := lookS_none r2
      refine ⟨_, _, l ++ [(s, n)], set_heap hb, by simp [he, entS], ?_, fun t => ?_⟩
      · rw [List.map_append, List.nodup_append]
        refine ⟨hd, by simp, fun a ha b hb' => ?_⟩
        have : b = s := by simpa using hb'
        subst this
        exact fun e => hni (e ▸ ha)
      · rw [lookS_snoc hni]
        show _ = if t = s then n else c t
        split
        · rfl
        · exact hc t
  · have hje : es.toList[j]?.map (fun e => (e.key, e.val)) = some (entS (s, v)) := by
      rw [← List.getElem?_map, he, List.getElem?_map, r2]; rfl
    obtain ⟨e, he1, he2⟩ := Option.map_eq_some_iff.1 hje
    simp only [entS, Prod.mk.injEq] at he2
    rw [Array.getElem?_toList] at he1
    refine ⟨{ w with heap := w.heap.setIfInBounds M (.map (es.modify j fun e => { e with key := .string s, val := .int .i64 n }) clock) }, ?_, ?_, set_chg w M _⟩
    · simp [Instr.mapUpdate, run_underlying ht, MapKept.run_getObj_map hb, run_check_s w kt hk, Instr.findKey, run_underlying hk, r1, he1, he2.1, run_stays_s, MapKept.run_setObj_map _ hb, Result.andThen]
    · refine ⟨_, _, l.set j (s, n), set_heap hb, ?_, by rw [set_fst r2]; exact hd, fun t => ?_⟩
      · apply List.ext_getElem?
        intro i
        rw [List.getElem?_map, List.getElem?_map, Array.getElem?_toList, Array.getElem?_modify, List.getElem?_set]
        have hi : es[i]?.map (fun e => (e.key, e.val)) = l[i]?.map entS := by
          rw [← Array.getElem?_toList, ← List.getElem?_map, he, List.getElem?_map]
        have hjl := (List.getElem?_eq_some_iff.1 r2).1
        by_cases hij : j = i
        · subst hij
          rw [if_pos rfl, if_pos rfl, if_pos hjl, he1]
          rfl
        · rw [if_neg hij, if_neg hij]
          exact hi
      · rw [lookS_set hd r2]
        show _ = if t = s then n else c t
        split
        · rfl
        · exact hc t
theorem run_deleteC (w : World) (t kt et : TypeId) (ht : P.underlying t = some (.map kt et)) (hk : P.underlying kt = some .string) {M : Nat} {c : ByteArray → Int} (hm : MapC w M c) (s : ByteArray) :
    ∃ w', (∀ ty, (Builtin.delete_ #[t, kt] ty #[.map (some M), .string s]).run P w = .ok (.tuple #[]) w') ∧ MapC w' M (fun x => if x = s then 0 else c x) ∧ Chg (fun j => j = M) w w' := by
  obtain ⟨es, clock, l, hb, he, hd, hc⟩ := hm
  rcases findNow_s s es.toList l 0 he with ⟨r1, r2⟩ | ⟨j, v, r1, r2, r3⟩
  · refine ⟨{ w with heap := w.heap.setIfInBounds M (.map es clock) }, fun ty => ?_, ⟨es, clock, l, set_heap hb, he, hd, fun t => ?_⟩, set_chg w M _⟩
    · simp [Builtin.delete_, run_underlying ht, MapKept.run_getObj_map hb, run_check_s w kt hk, Instr.findKey, run_underlying hk, r1, MapKept.run_setObj_map _ hb, Result.andThen]
    · show _ = if t = s then 0 else c t
      split
      · rename_i e; rw [e, r2]; rfl
      · exact hc t
  · refine ⟨{ w with heap := w.heap.setIfInBounds M (.map (es.eraseIdxIfInBounds j) clock) }, fun ty => ?_, ⟨_, _, l.eraseIdx j, set_heap hb, ?_, ?_, fun t => ?_⟩, set_chg w M _⟩
    · simp [Builtin.delete_, run_underlying ht, MapKept.run_getObj_map hb, run_check_s w kt hk, Instr.findKey, run_underlying hk, r1, MapKept.run_setObj_map _ hb, Result.andThen]
    · rw [Array.toList_eraseIdxIfInBounds, erase_map, he, ← erase_map]
    · rw [erase_map]
      exact hd.sublist (List.eraseIdx_sublist _ _)
    · rw [lookS_erase hd r2]
      show _ = if t = s then 0 else c t
      split
      · rfl
      · exact hc t
end
theorem mapC_new (w : World) : MapC (w.alloc (.map #[] 0)) w.heap.size (fun _ => 0) := ⟨#[], 0, [], blk_new w _, rfl, List.nodup_nil, fun _ => rfl⟩
end Go.Proofs.YtaklmocjaokkpaaGreatDoor.Tr
