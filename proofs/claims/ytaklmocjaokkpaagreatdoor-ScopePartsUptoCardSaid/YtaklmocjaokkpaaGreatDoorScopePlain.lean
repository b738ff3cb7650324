/- Free names: those that stand in a node unbound, in order, each once; how counts of bound names go; plain Lean, no program, no condition. -/
import Derived.Test.YtaklmocjaokkpaaGreatDoorTreePlain
import Derived.Test.YtaklmocjaokkpaaGreatDoorTreePrintPlain
namespace Go.Proofs.YtaklmocjaokkpaaGreatDoor.Tr
set_option linter.unusedVariables false
set_option linter.unusedSimpArgs false

/-- What is unbound in a node out of what is unbound in its parts. -/
def comb (k : Nat) (t : ByteArray) (ns : List ByteArray) (ls : List (List ByteArray)) : List ByteArray :=
  if k = 5 then [t]
  else if k = 6 then ls.flatten.filter fun s => !memB s (t :: ns)
  else if k = 8 then (ls.take 1).flatten ++ (ls.drop 1).flatten.filter fun s => !memB s [t]
  else if k = 17 ∨ k = 18 then ls.flatten.filter fun s => !memB s ns
  else ls.flatten
mutual
/-- The unbound names of a node, in order, as often as they stand there. -/
def occN : Nd → List ByteArray
  | .mk k _ t ns ks => comb k t ns (occL ks)
def occL : List Nd → List (List ByteArray)
  | [] => []
  | x :: l => occN x :: occL l
end
theorem occL_map (l : List Nd) : occL l = l.map occN := by
  induction l with
  | nil => rw [occL]; rfl
  | cons x l ih => rw [occL, ih]; rfl
theorem occN_is (x : Nd) : occN x = comb x.kind x.text x.names (x.kids.map occN) := by
  cases x; rw [occN, occL_map]; rfl
theorem comb_len (k : Nat) (t : ByteArray) (ns : List ByteArray) (ls : List (List ByteArray)) : (comb k t ns ls).length ≤ 1 + ls.flatten.length := by
  unfold comb
  have h1 := fun p => List.length_filter_le p ls.flatten
  split
  · simp
  split
  · exact Nat.le_trans (h1 _) (by omega)
  split
  · have h2 : ls.flatten = (ls.take 1).flatten ++ (ls.drop 1).flatten := by rw [← List.flatten_append, List.take_append_drop]
    rw [h2, List.length_append, List.length_append]
    have := List.length_filter_le (fun s => !memB s [t]) (ls.drop 1).flatten
    omega
  split
  · exact Nat.le_trans (h1 _) (by omega)
  · omega
theorem occN_len : ∀ x : Nd, (occN x).length ≤ sizeN x := by
  intro x
  induction x using Nd.ind with
  | h x ih =>
    rw [occN_is, sizeN_is]
    have : ∀ l : List Nd, (∀ y ∈ l, (occN y).length ≤ sizeN y) → (l.map occN).flatten.length ≤ sizesN l := by
      intro l
      induction l with
      | nil => intro _; simp [sizesN]
      | cons y l ihl =>
        intro h
        rw [List.map_cons, List.flatten_cons, List.length_append, sizesN]
        have h1 := h y List.mem_cons_self
        have h2 := ihl fun z hz => h z (List.mem_cons_of_mem _ hz)
        omega
    have h1 := this x.kids ih
    have h2 := comb_len x.kind x.text x.names (x.kids.map occN)
    omega
/-- One more name is told, if it isn't bound and wasn't told. -/
def stepF (c : ByteArray → Int) (F : List ByteArray) (s : ByteArray) : List ByteArray := if c s = 0 then (if memB s F = true then F else F ++ [s]) else F
def addF (c : ByteArray → Int) (F l : List ByteArray) : List ByteArray := l.foldl (stepF c) F
theorem addF_nil (c : ByteArray → Int) (F : List ByteArray) : addF c F [] = F := rfl
theorem addF_append (c : ByteArray → Int) (F a b : List ByteArray) : addF c F (a ++ b) = addF c (addF c F a) b := List.foldl_append ..
theorem addF_one (c : ByteArray → Int) (F : List ByteArray) (s : ByteArray) : addF c F [s] = stepF c F s := rfl
theorem stepF_len (c : ByteArray → Int) (F : List ByteArray) (s : ByteArray) : (stepF c F s).length ≤ F.length + 1 := by
  unfold stepF
  split
  · split
    · omega
    · simp
  · omega
theorem addF_len (c : ByteArray → Int) : ∀ (l F : List ByteArray), (addF c F l).length ≤ F.length + l.length
  | [], F => by simp [addF]
  | s :: l, F => by
    have h1 := addF_len c l (stepF c F s)
    have h2 := stepF_len c F s
    show (addF c (stepF c F s) l).length ≤ _
    simp only [List.length_cons]
    omega
theorem addF_congr {c d : ByteArray → Int} (h : ∀ s, c s = d s) (F l : List ByteArray) : addF c F l = addF d F l := by
  have : c = d := funext h
  rw [this]
/-- How often a name stands in a row; counts with those of a row. -/
def cntS (s : ByteArray) (l : List ByteArray) : Nat := l.countP fun x => decide (x = s)
def bump (c : ByteArray → Int) (l : List ByteArray) : ByteArray → Int := fun s => c s + (cntS s l : Int)
theorem cntS_zero (s : ByteArray) (l : List ByteArray) : cntS s l = 0 ↔ memB s l = false := by
  unfold cntS memB
  rw [List.countP_eq_zero, List.any_eq_false]
theorem cntS_le (s : ByteArray) (l : List ByteArray) : cntS s l ≤ l.length := List.countP_le_length
theorem bump_nil (c : ByteArray → Int) (s : ByteArray) : bump c [] s = c s := by simp [bump, cntS]
theorem addF_bump {c : ByteArray → Int} (h0 : ∀ s, 0 ≤ c s) (ns : List ByteArray) : ∀ (l F : List ByteArray), addF (bump c ns) F l = addF c F (l.filter fun s => !memB s ns)
  | [], F => rfl
  | s :: l, F => by
    have hs := h0 s
    show addF (bump c ns) (stepF (bump c ns) F s) l = _
    rw [addF_bump h0 ns l]
    by_cases hm : memB s ns = true
    · rw [List.filter_cons_of_neg (by rw [hm]; decide)]
      have h1 : cntS s ns ≠ 0 := fun e => by rw [(cntS_zero s ns).1 e] at hm; cases hm
      have h2 : ¬ bump c ns s = 0 := by unfold bump; omega
      unfold stepF
      rw [if_neg h2]
    · have hm' : memB s ns = false := by simpa using hm
      rw [List.filter_cons_of_pos (by rw [hm']; decide)]
      have h1 : cntS s ns = 0 := (cntS_zero s ns).2 hm'
      have h2 : bump c ns s = c s := by unfold bump; omega
      show _ = addF c (stepF c F s) _
      unfold stepF
      rw [h2]
theorem cntS_snoc {l : List ByteArray} {k : Nat} {s : ByteArray} (h : l[k]? = some s) (x : ByteArray) : cntS x (l.take (k + 1)) = cntS x (l.take k) + (if x = s then 1 else 0) := by
  unfold cntS
  rw [List.take_add_one, h, List.countP_append]
  by_cases e : x = s
  · subst e; simp
  · have : ¬ s = x := fun h => e h.symm
    simp [e, this]
theorem cntS_drop {l : List ByteArray} {k : Nat} {s : ByteArray} (h : l[k]? = some s) (x : ByteArray) : cntS x (l.drop k) = cntS x (l.drop (k + 1)) + (if x = s then 1 else 0) := by
  have hk := (List.getElem?_eq_some_iff.1 h).1
  have e : l.drop k = s :: l.drop (k + 1) := by
    rw [List.drop_eq_getElem_cons hk]
    congr 1
    exact (List.getElem?_eq_some_iff.1 h).2
  unfold cntS
  rw [e, List.countP_cons]
  by_cases e : x = s
  · subst e; simp
  · have : ¬ s = x := fun h => e h.symm
    simp [e, this]
theorem bump_up {c : ByteArray → Int} {l : List ByteArray} {k : Nat} {s : ByteArray} (h : l[k]? = some s) (x : ByteArray) : (if x = s then bump c (l.take k) s + 1 else bump c (l.take k) x) = bump c (l.take (k + 1)) x := by
  unfold bump
  rw [cntS_snoc h x]
  by_cases e : x = s
  · subst e
    rw [if_pos rfl, if_pos rfl]
    omega
  · rw [if_neg e, if_neg e]
    omega
theorem bump_down {c : ByteArray → Int} {l : List ByteArray} {k : Nat} {s : ByteArray} (h : l[k]? = some s) (x : ByteArray) : (if x = s then bump c (l.drop k) s - 1 else bump c (l.drop k) x) = bump c (l.drop (k + 1)) x := by
  unfold bump
  have hd := cntS_drop h x
  by_cases e : x = s
  · subst e
    rw [if_pos rfl] at hd ⊢
    omega
  · rw [if_neg e] at hd ⊢
    omega
theorem bump_le {c : ByteArray → Int} {B : Int} {l : List ByteArray} {m : Nat} (h : ∀ s, 0 ≤ c s ∧ c s ≤ B) (hl : l.length ≤ m) (s : ByteArray) : 0 ≤ bump c l s ∧ bump c l s ≤ B + m := by
  have h1 := h s
  have h2 := cntS_le s l
  unfold bump
  omega
/-- The free names of a node. -/
def freeB (x : Nd) : List ByteArray := addF (fun _ => 0) [] (occN x)
theorem right_shape {x : Nd} {deep : Nat} (h : rightB x deep = true) : ∃ many least most, shapeOf x.kind = some (many, least, most) ∧ deep ≤ 60 ∧ least ≤ x.kids.length ∧ x.kids.length ≤ most ∧ (∀ m, many = some m → x.names.length = m) := by
  rw [rightB_is, Bool.and_eq_true] at h
  have h1 := h.1
  unfold headB at h1
  cases hs : shapeOf x.kind with
  | none => rw [hs] at h1; cases h1
  | some q =>
    obtain ⟨many, least, most⟩ := q
    rw [hs] at h1
    simp only [Bool.and_eq_true, decide_eq_true_eq] at h1
    refine ⟨many, least, most, rfl, h1.1.1.1.1.1.1.1, h1.1.1.1.1.1.2, h1.1.1.1.1.2, fun m hm => ?_⟩
    subst hm
    simpa using h1.1.1.2
theorem right_kids1 {x : Nd} {deep : Nat} (h : rightB x deep = true) (hk : x.kind = 6 ∨ x.kind = 17 ∨ x.kind = 18) : x.kids.length = 1 := by
  obtain ⟨many, least, most, hs, _, h1, h2, _⟩ := right_shape h
  rcases hk with e | e | e <;> (rw [e] at hs; simp only [shapeOf, Option.some.injEq, Prod.mk.injEq] at hs; omega)
theorem right_kids2 {x : Nd} {deep : Nat} (h : rightB x deep = true) (hk : x.kind = 8) : x.kids.length = 2 := by
  obtain ⟨many, least, most, hs, _, h1, h2, _⟩ := right_shape h
  rw [hk] at hs; simp only [shapeOf, Option.some.injEq, Prod.mk.injEq] at hs; omega
theorem right_deep {x : Nd} {deep : Nat} (h : rightB x deep = true) : deep ≤ 60 := by
  obtain ⟨_, _, _, _, h1, _⟩ := right_shape h
  exact h1
end Go.Proofs.YtaklmocjaokkpaaGreatDoor.Tr
