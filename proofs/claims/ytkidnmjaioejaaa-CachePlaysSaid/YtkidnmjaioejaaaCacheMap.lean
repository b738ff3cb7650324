/- The cache's map as a row of entries: what a look-up, a store, a deletion and len do; no condition but that the keys are apart and all numbers fit. -/
import Derived.Test.YtkidnmjaioejaaaCacheDelete
namespace Go.Proofs.Ytkidnmjaioejaaa.Cx
set_option linter.unusedVariables false
set_option linter.unusedSimpArgs false
open Go.RowKit Go.Proofs.Ytkidnmjaioejaaa.Mem Go.Maps

abbrev Ent := Key × Int
def Good (l : List Ent) : Prop := (l.map Prod.fst).Nodup ∧ ∀ e ∈ l, e.1.ok ∧ fits e.2
def without (l : List Ent) (k : Key) : List Ent := l.filter fun e => !decide (e.1 = k)
def find (l : List Ent) (k : Key) : Option Int := (l.find? fun e => decide (e.1 = k)).map Prod.snd
def put (l : List Ent) (k : Key) (x : Int) : List Ent := without l k ++ [(k, x)]

theorem Good.without {l : List Ent} (h : Good l) (k : Key) : Good (without l k) :=
  ⟨h.1.sublist ((List.filter_sublist (l := l)).map _), fun e he => h.2 e (List.mem_filter.1 he).1⟩
theorem not_mem_without (l : List Ent) (k : Key) : k ∉ (without l k).map Prod.fst := by
  intro h
  obtain ⟨e, he, rfl⟩ := List.mem_map.1 h
  have := (List.mem_filter.1 he).2
  simp at this
theorem Good.put {l : List Ent} (h : Good l) {k : Key} (hk : k.ok) {x : Int} (hx : fits x) : Good (put l k x) := by
  refine ⟨?_, fun e he => ?_⟩
  · unfold Cx.put
    rw [List.map_append, List.nodup_append]
    refine ⟨(h.without k).1, by simp, fun a ha b hb => ?_⟩
    simp at hb
    subst hb
    intro e
    subst e
    exact not_mem_without l _ ha
  · unfold Cx.put at he
    rw [List.mem_append] at he
    rcases he with he | he
    · exact (h.without k).2 e he
    · simp at he; subst he; exact ⟨hk, hx⟩
theorem find_mem {l : List Ent} (h : (l.map Prod.fst).Nodup) {k : Key} {x : Int} : find l k = some x ↔ (k, x) ∈ l := by
  induction l with
  | nil => simp [find]
  | cons e l ih =>
    obtain ⟨k', x'⟩ := e
    simp only [List.map_cons, List.nodup_cons] at h
    have ih := ih h.2
    unfold find at ih ⊢
    rw [List.find?_cons]
    by_cases hk : k' = k
    · subst hk
      simp only [decide_true]
      constructor
      · intro e; simp at e; subst e; exact List.mem_cons_self
      · intro hm
        rcases List.mem_cons.1 hm with e | e
        · cases e; rfl
        · exact absurd (List.mem_map.2 ⟨_, e, rfl⟩) h.1
    · simp only [hk, decide_false]
      rw [ih]
      constructor
      · intro e; exact List.mem_cons_of_mem _ e
      · intro hm
        rcases List.mem_cons.1 hm with e | e
        · cases e; exact absurd rfl hk
        · exact e
theorem find_none {l : List Ent} {k : Key} : find l k = none ↔ k ∉ l.map Prod.fst := by
  unfold find
  rw [Option.map_eq_none_iff, List.find?_eq_none]
  constructor
  · intro h hm
    obtain ⟨e, he, rfl⟩ := List.mem_map.1 hm
    simpa using h e he
  · intro h e he
    simp only [decide_eq_true_eq]
    intro hk
    exact h (List.mem_map.2 ⟨e, he, hk⟩)
theorem find_some {l : List Ent} {k : Key} : (find l k).isSome = decide (k ∈ l.map Prod.fst) := by
  rcases h : find l k with _ | x
  · simp only [Option.isSome_none]; exact (decide_eq_false (find_none.1 h)).symm
  · simp only [Option.isSome_some]
    symm
    apply decide_eq_true
    by_cases hm : k ∈ l.map Prod.fst
    · exact hm
    · rw [find_none.2 hm] at h; cases h

/-- Block M is a map that has just these entries. -/
def MapIs (w : World) (M : Nat) (l : List Ent) : Prop :=
  ∃ D : DataW Unit, w.ownsMap Try.prog 34 (plainElem Try.prog 3) M (Maps.size D) D ∧ Maps.size D = l.length ∧
    (∀ k : Key, k.ok → Maps.has D (kl k) = decide (k ∈ l.map Prod.fst)) ∧ ∀ k : Key, ∀ x, (k, x) ∈ l → D.atKey (kl k) (.lit (.int .i64 0)) = .lit (.int .i64 x)

theorem kl_inj {a b : Key} (ha : a.ok) (hb : b.ok) (h : kl a = kl b) : a = b := by
  have h1 := hkey ha
  have h2 := hkey hb
  rw [h] at h1
  have h3 := law.inj h1 h2
  obtain ⟨a1, a2, a3, a4, a5⟩ := a
  obtain ⟨b1, b2, b3, b4, b5⟩ := b
  simp [kv] at h3
  simp [h3]
theorem zero3 (w : World) : (zeroValue 3).run Try.prog w = .ok (.int .i64 0) w := by kernel_rfl
theorem exact_size {w : World} {M n : Nat} {D : DataW Unit} (h : w.ownsMap Try.prog 34 (plainElem Try.prog 3) M n D) : w.ownsMap Try.prog 34 (plainElem Try.prog 3) M (Maps.size D) D := by
  obtain ⟨es, clock, h1, h2, h3, rfl⟩ := h
  exact ⟨es, clock, h1, h2, by simp [Maps.size, length_sorted], rfl⟩

theorem MapIs.chg {F : Nat → Prop} {w w' : World} {M : Nat} {l : List Ent} (h : MapIs w M l) (hc : Chg F w w') (hf : ¬ F M) : MapIs w' M l := by
  obtain ⟨D, ⟨es, clock, h1, h2⟩, r⟩ := h
  exact ⟨D, ⟨es, clock, hc.blk h1 hf, h2⟩, r⟩
theorem MapIs.lt {w : World} {M : Nat} {l : List Ent} (h : MapIs w M l) : M < w.heap.size := by
  obtain ⟨D, h1, _⟩ := h
  exact h1.lt
theorem MapIs.perm {w : World} {M : Nat} {l l' : List Ent} (h : MapIs w M l) (hp : l.Perm l') : MapIs w M l' := by
  obtain ⟨D, h1, h2, h3, h4⟩ := h
  refine ⟨D, h1, h2.trans hp.length_eq, fun k hk => ?_, fun k x hx => h4 k x (hp.mem_iff.2 hx)⟩
  rw [h3 k hk]
  have := (hp.map Prod.fst).mem_iff (a := k)
  simp only [this]
theorem MapIs.made (w : World) : MapIs (w.alloc (.map #[] 0)) w.heap.size [] :=
  ⟨.map [], World.ownsMap_made w _ _ _, rfl, fun k _ => by simp [Maps.has], fun k x h => by cases h⟩
theorem MapIs.look {w : World} {M : Nat} {l : List Ent} (h : MapIs w M l) (hg : Good l) {k : Key} (hk : k.ok) :
    (Instr.lookup 89 (.map (some M)) (kv k) true).run Try.prog w = .ok (.tuple #[.int .i64 ((find l k).getD 0), .bool (find l k).isSome]) w := by
  obtain ⟨D, h1, h2, h3, h4⟩ := h
  obtain ⟨v, ps, hrun, hv⟩ := h1.look_ok law Try.underlying89 (zero3 w) (plainElem_int Try.underlying3 (by decide : (Lit.int .i64 0).wf = true)) (hkey hk)
  obtain ⟨a, rfl, he, _⟩ := plainElem_int_inv Try.underlying3 hv
  rw [hrun, h3 k hk, find_some]
  have hat : a = (find l k).getD 0 := by
    have e1 : D.atKey (kl k) (.lit (.int .i64 0)) = .lit (.int .i64 a) := by injection he
    rcases hf : find l k with _ | x
    · have e2 := (Maps.atKey_of_not_has (by rw [h3 k hk]; exact decide_eq_false (find_none.1 hf)) _).symm.trans e1
      exact (Lit.int.inj (DataW.lit.inj e2)).2.symm
    · have e2 := (h4 k x ((find_mem hg.1).1 hf)).symm.trans e1
      exact (Lit.int.inj (DataW.lit.inj e2)).2.symm
  rw [hat]
theorem MapIs.look1 {w : World} {M : Nat} {l : List Ent} (h : MapIs w M l) (hg : Good l) {k : Key} (hk : k.ok) :
    (Instr.lookup 89 (.map (some M)) (kv k) false).run Try.prog w = .ok (.int .i64 ((find l k).getD 0)) w := by
  obtain ⟨D, h1, h2, h3, h4⟩ := h
  obtain ⟨a, hrun, hat, _⟩ := h1.lookup_int law Try.underlying89 Try.underlying3 (zero3 w) (hkey hk)
  rw [hrun]
  have e1 := hat
  rcases hf : find l k with _ | x
  · have e2 := (Maps.atKey_of_not_has (by rw [h3 k hk]; exact decide_eq_false (find_none.1 hf)) _).symm.trans e1
    rw [← (Lit.int.inj (DataW.lit.inj e2)).2]; rfl
  · have e2 := (h4 k x ((find_mem hg.1).1 hf)).symm.trans e1
    rw [← (Lit.int.inj (DataW.lit.inj e2)).2]; rfl
theorem MapIs.len {w : World} {M : Nat} {l : List Ent} (h : MapIs w M l) (ty : TypeId) : (Builtin.len_ #[89] ty #[.map (some M)]).run Try.prog w = .ok (.int .i64 (l.length : Int)) w := by
  obtain ⟨D, h1, h2, _⟩ := h
  rw [h1.len Try.underlying89 ty, h2]
theorem without_length {l : List Ent} (h : (l.map Prod.fst).Nodup) (k : Key) : (without l k).length + (if k ∈ l.map Prod.fst then 1 else 0) = l.length := by
  induction l with
  | nil => simp [without]
  | cons e l ih =>
    simp only [List.map_cons, List.nodup_cons] at h
    have ih := ih h.2
    unfold without at ih ⊢
    by_cases hk : e.1 = k
    · rw [List.filter_cons_of_neg (by simp [hk])]
      rw [if_neg (by rw [← hk]; exact h.1)] at ih
      rw [if_pos (by simp [hk]), List.length_cons]
      omega
    · rw [List.filter_cons_of_pos (by simp [hk])]
      have : (k ∈ (e :: l).map Prod.fst) ↔ k ∈ l.map Prod.fst := by simp [Ne.symm hk]
      simp only [this, List.length_cons]
      omega
theorem mem_without {l : List Ent} {k k' : Key} : k' ∈ (without l k).map Prod.fst ↔ k' ∈ l.map Prod.fst ∧ k' ≠ k := by
  unfold without
  simp only [List.mem_map, List.mem_filter]
  constructor
  · rintro ⟨e, ⟨h1, h2⟩, rfl⟩; exact ⟨⟨e, h1, rfl⟩, by simpa using h2⟩
  · rintro ⟨⟨e, h1, rfl⟩, h2⟩; exact ⟨e, ⟨h1, by simpa using h2⟩, rfl⟩
theorem MapIs.store {w : World} {M : Nat} {l : List Ent} (h : MapIs w M l) (hg : Good l) {k : Key} (hk : k.ok) {x : Int} (hx : fits x) (hl : l.length < 100000) :
    ∃ w', (Instr.mapUpdate 89 (.map (some M)) (kv k) (.int .i64 x)).run Try.prog w = .ok () w' ∧ MapIs w' M (put l k x) ∧ w.grownBy w' (some M) := by
  obtain ⟨D, h1, h2, h3, h4⟩ := h
  obtain ⟨w', hrun, hown, hgr⟩ := h1.update law Try.underlying89 (by rw [h2]; simp only [maxLen]; omega) (hkey hk) (plainElem_int Try.underlying3 hx)
  have htidy := h1.tidy law
  have hkk := law.key (hkey hk)
  refine ⟨w', hrun, ⟨_, exact_size hown, ?_, fun k' hk' => ?_, fun k' x' hx' => ?_⟩, hgr⟩
  · have := without_length hg.1 k
    rw [Maps.size_put htidy, h3 k hk, h2]
    unfold put
    rw [List.length_append]
    by_cases hm : k ∈ l.map Prod.fst
    · rw [if_pos hm] at this
      rw [if_pos (decide_eq_true hm)]
      simp only [List.length_cons, List.length_nil]; omega
    · rw [if_neg hm] at this
      rw [if_neg (by simp only [decide_eq_true_eq]; exact hm)]
      simp only [List.length_cons, List.length_nil]; omega
  · by_cases he : k' = k
    · subst he
      rw [Maps.has_put_same htidy.isMap hkk]
      symm; apply decide_eq_true
      unfold put; simp
    · rw [Maps.has_put_other (fun e => he (kl_inj hk' hk e)), h3 k' hk']
      have : (k' ∈ l.map Prod.fst) ↔ k' ∈ (put l k x).map Prod.fst := by
        unfold put
        rw [List.map_append, List.mem_append, mem_without]
        constructor
        · intro h; exact .inl ⟨h, he⟩
        · rintro (h | h)
          · exact h.1
          · simp at h; exact absurd h he
      simp only [this]
  · unfold put at hx'
    rw [List.mem_append] at hx'
    rcases hx' with hx' | hx'
    · have h5 := List.mem_filter.1 hx'
      have hne : k' ≠ k := by simpa using h5.2
      rw [Maps.atKey_put_other (fun e => hne (kl_inj (hg.2 _ h5.1).1 hk e))]
      exact h4 k' x' h5.1
    · simp at hx'
      obtain ⟨rfl, rfl⟩ := hx'
      exact Maps.atKey_put_same htidy.isMap hkk _ _
theorem MapIs.drop {w : World} {M : Nat} {l : List Ent} (h : MapIs w M l) (hg : Good l) {k : Key} (hk : k.ok) (ty : TypeId) :
    ∃ w', (Builtin.delete_ #[89, 34] ty #[.map (some M), kv k]).run Try.prog w = .ok (.tuple #[]) w' ∧ MapIs w' M (without l k) ∧ w.grownBy w' (some M) := by
  obtain ⟨D, h1, h2, h3, h4⟩ := h
  obtain ⟨w', hrun, hown, hturn⟩ := h1.drop law Try.underlying89 (hkey hk) ty
  have htidy := h1.tidy law
  refine ⟨w', hrun, ⟨_, exact_size hown, ?_, fun k' hk' => ?_, fun k' x' hx' => ?_⟩, hturn.grown⟩
  · have e1 := without_length hg.1 k
    have e2 := Maps.size_del (k := kl k) htidy
    rw [h3 k hk, h2] at e2
    by_cases hm : k ∈ l.map Prod.fst
    · rw [if_pos hm] at e1
      rw [if_pos (decide_eq_true hm)] at e2
      omega
    · rw [if_neg hm] at e1
      rw [if_neg (by simp only [decide_eq_true_eq]; exact hm)] at e2
      omega
  · by_cases he : k' = k
    · subst he
      rw [Maps.has_del_same]
      symm; apply decide_eq_false
      exact not_mem_without l _
    · rw [Maps.has_del_other (fun e => he (kl_inj hk' hk e)), h3 k' hk']
      have : (k' ∈ l.map Prod.fst) ↔ k' ∈ (without l k).map Prod.fst := by rw [mem_without]; exact ⟨fun h => ⟨h, he⟩, fun h => h.1⟩
      simp only [this]
  · have h5 := List.mem_filter.1 hx'
    have hne : k' ≠ k := by simpa using h5.2
    rw [Maps.atKey_del_other (fun e => hne (kl_inj (hg.2 _ h5.1).1 hk e))]
    exact h4 k' x' h5.1
end Go.Proofs.Ytkidnmjaioejaaa.Cx
