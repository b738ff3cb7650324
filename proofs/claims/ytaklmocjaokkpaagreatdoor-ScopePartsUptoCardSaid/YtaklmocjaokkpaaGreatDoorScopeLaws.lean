/- Plain laws of free names: those of a do, of a function, of a let and of lets, out of those of their parts; plain Lean, no program, no condition. -/
import Derived.Test.YtaklmocjaokkpaaGreatDoorScopePlain
namespace Go.Proofs.YtaklmocjaokkpaaGreatDoor.Tr
set_option linter.unusedVariables false
set_option linter.unusedSimpArgs false

abbrev addZ (F l : List ByteArray) : List ByteArray := addF (fun _ => 0) F l
theorem memB_mem {s : ByteArray} {l : List ByteArray} : memB s l = true ↔ s ∈ l := by
  unfold memB
  rw [List.any_eq_true]
  exact ⟨fun ⟨x, hx, e⟩ => by rw [← of_decide_eq_true e]; exact hx, fun h => ⟨s, h, decide_eq_true rfl⟩⟩
theorem addZ_cons (F : List ByteArray) (s : ByteArray) (l : List ByteArray) : addZ F (s :: l) = addZ (if memB s F = true then F else F ++ [s]) l := by
  show addF _ (stepF _ F s) l = _
  unfold stepF
  rw [if_pos rfl]
theorem addZ_snoc (F : List ByteArray) (l : List ByteArray) (s : ByteArray) : addZ F (l ++ [s]) = if memB s (addZ F l) = true then addZ F l else addZ F l ++ [s] := by
  show addF _ F (l ++ [s]) = _
  rw [addF_append, addF_one]
  unfold stepF
  rw [if_pos rfl]
theorem mem_addZ {s : ByteArray} : ∀ (l F : List ByteArray), s ∈ addZ F l ↔ s ∈ F ∨ s ∈ l
  | [], F => by simp [addF]
  | x :: l, F => by
    rw [addZ_cons, mem_addZ l]
    by_cases h : memB x F = true
    · rw [if_pos h]
      have := memB_mem.1 h
      simp only [List.mem_cons]
      constructor
      · rintro (h1 | h1)
        · exact .inl h1
        · exact .inr (.inr h1)
      · rintro (h1 | rfl | h1)
        · exact .inl h1
        · exact .inl this
        · exact .inr h1
    · rw [if_neg h]
      simp only [List.mem_append, List.mem_cons, List.not_mem_nil, or_false]
      exact or_assoc
theorem addZ_step (L F : List ByteArray) (s : ByteArray) : addZ L (if memB s F = true then F else F ++ [s]) = if memB s (addZ L F) = true then addZ L F else addZ L F ++ [s] := by
  by_cases h : memB s F = true
  · rw [if_pos h, if_pos (memB_mem.2 ((mem_addZ F L).2 (.inr (memB_mem.1 h))))]
  · rw [if_neg h, addZ_snoc]
theorem addZ_addZ : ∀ (l L F : List ByteArray), addZ L (addZ F l) = addZ (addZ L F) l
  | [], _, _ => rfl
  | x :: l, L, F => by rw [addZ_cons, addZ_addZ l, addZ_step, addZ_cons]
theorem addZ_filter (q : ByteArray → Bool) : ∀ (l F : List ByteArray), addZ (F.filter q) (l.filter q) = (addZ F l).filter q
  | [], F => rfl
  | x :: l, F => by
    rw [addZ_cons F]
    by_cases hq : q x = true
    · rw [List.filter_cons_of_pos hq, addZ_cons]
      have hm : memB x (F.filter q) = memB x F := by
        apply Bool.eq_iff_iff.2
        rw [memB_mem, memB_mem, List.mem_filter]
        exact ⟨fun h => h.1, fun h => ⟨h, hq⟩⟩
      rw [hm]
      by_cases h : memB x F = true
      · rw [if_pos h, if_pos h, addZ_filter q l]
      · have e : F.filter q ++ [x] = (F ++ [x]).filter q := by rw [List.filter_append]; simp [hq]
        rw [if_neg h, if_neg h, e, addZ_filter q l]
    · rw [List.filter_cons_of_neg hq]
      by_cases h : memB x F = true
      · rw [if_pos h, addZ_filter q l]
      · have e : F.filter q = (F ++ [x]).filter q := by rw [List.filter_append]; simp [hq]
        rw [if_neg h, e, addZ_filter q l]
/-- A do of two nodes. -/
def doN2 (a b : Nd) : Nd := .mk 10 0 ⟨#[]⟩ [] [a, b]
def sX : ByteArray := ⟨#[120]⟩
/-- A function by the name x with one parameter. -/
def funN (a : Nd) (p : ByteArray) : Nd := .mk 6 0 sX [p] [a]
def letN (s : ByteArray) (a b : Nd) : Nd := .mk 8 0 s [] [a, b]
theorem free_do (a b : Nd) : freeB (doN2 a b) = addZ (freeB a) (freeB b) := by
  have e : occN (doN2 a b) = occN a ++ occN b := by
    rw [occN_is]
    simp [doN2, Nd.kind, Nd.kids, comb]
  unfold freeB
  rw [e, addF_append]
  exact ((addZ_addZ (occN b) (addZ [] (occN a)) []).trans rfl).symm
theorem free_fun (a : Nd) (p : ByteArray) : freeB (funN a p) = (freeB a).filter fun s => !memB s [sX, p] := by
  have e : occN (funN a p) = (occN a).filter fun s => !memB s [sX, p] := by
    rw [occN_is]
    simp [funN, Nd.kind, Nd.kids, Nd.text, Nd.names, comb]
  unfold freeB
  rw [e]
  exact addZ_filter _ (occN a) []
theorem occ_let (s : ByteArray) (a b : Nd) : occN (letN s a b) = occN a ++ (occN b).filter fun x => !memB x [s] := by
  rw [occN_is]
  simp [letN, Nd.kind, Nd.kids, Nd.text, Nd.names, comb]
theorem mem_free {s : ByteArray} {x : Nd} : s ∈ freeB x ↔ s ∈ occN x := by
  unfold freeB
  rw [mem_addZ]
  simp
/-- What is free in a let by a node's first free name is free in what is bound, or another free name of the node. -/
theorem free_binds {a n : Nd} {s m : ByteArray} (hs : (freeB n)[0]? = some s) (hm : m ∈ freeB (letN s a n)) : m ∈ freeB a ∨ m ∈ (freeB n).drop 1 := by
  rw [mem_free, occ_let, List.mem_append, List.mem_filter] at hm
  rcases hm with h | ⟨h1, h2⟩
  · exact .inl (mem_free.2 h)
  · right
    have hn : m ≠ s := fun e => by
      rw [e, memB_mem.2 (show s ∈ [s] from List.mem_cons_self ..)] at h2
      cases h2
    have h3 := mem_free.2 h1
    cases hf : freeB n with
    | nil => rw [hf] at h3; cases h3
    | cons y l =>
      rw [hf] at h3 hs
      have : y = s := by simpa using hs
      subst this
      rcases List.mem_cons.1 h3 with e | e
      · exact absurd e hn
      · exact e
/-- Lets by one name, one within the other. -/
def letsN (s : ByteArray) : Nat → Nd
  | 0 => .mk 5 0 s [] []
  | k + 1 => letN s (.mk 1 k ⟨#[]⟩ [] []) (letsN s k)
theorem occ_lets (s : ByteArray) : ∀ k, ∀ x ∈ occN (letsN s k), x = s ∧ k = 0
  | 0, x, h => by
    rw [letsN, occN_is] at h
    exact ⟨by simpa [comb, Nd.kind, Nd.text] using h, rfl⟩
  | k + 1, x, h => by
    rw [letsN, occ_let, List.mem_append, List.mem_filter] at h
    rcases h with h | ⟨h1, h2⟩
    · rw [occN_is] at h
      simp [comb, Nd.kind, Nd.kids] at h
    · rw [(occ_lets s k x h1).1, memB_mem.2 (show s ∈ [s] from List.mem_cons_self ..)] at h2
      cases h2
theorem free_lets (s : ByteArray) (k : Nat) : freeB (letsN s (k + 1)) = [] := by
  have : occN (letsN s (k + 1)) = [] := List.eq_nil_iff_forall_not_mem.2 fun x h => by
    have := (occ_lets s _ x h).2
    omega
  unfold freeB
  rw [this]
  rfl
theorem free_var (s : ByteArray) : freeB (.mk 5 0 s [] []) = [s] := by
  have : occN (.mk 5 0 s [] []) = [s] := by rw [occN_is]; simp [comb, Nd.kind, Nd.text]
  unfold freeB
  rw [this]
  rfl
/-- How a filtered row is gone through. -/
theorem filter_at {q : ByteArray → Bool} {l : List ByteArray} {i : Nat} {s : ByteArray} (h : l[i]? = some s) (hq : q s = true) : (l.filter q)[((l.take i).filter q).length]? = some s ∧ ((l.take (i + 1)).filter q).length = ((l.take i).filter q).length + 1 := by
  have e : l.take (i + 1) = l.take i ++ [s] := by rw [List.take_add_one, h]; rfl
  have e2 : (l.take (i + 1)).filter q = (l.take i).filter q ++ [s] := by rw [e, List.filter_append]; simp [hq]
  refine ⟨?_, by rw [e2]; simp⟩
  have e3 : l.filter q = (l.take (i + 1)).filter q ++ (l.drop (i + 1)).filter q := by rw [← List.filter_append, List.take_append_drop]
  rw [e3, e2]
  simp
theorem filter_not {q : ByteArray → Bool} {l : List ByteArray} {i : Nat} {s : ByteArray} (h : l[i]? = some s) (hq : q s = false) : ((l.take (i + 1)).filter q).length = ((l.take i).filter q).length := by
  have e : l.take (i + 1) = l.take i ++ [s] := by rw [List.take_add_one, h]; rfl
  rw [e, List.filter_append]
  simp [hq]
theorem free_len (x : Nd) : (freeB x).length ≤ sizeN x := by
  have h1 := addF_len (fun _ => 0) (occN x) []
  have h2 := occN_len x
  unfold freeB
  simp only [List.length_nil, Nat.zero_add] at h1
  omega
end Go.Proofs.YtaklmocjaokkpaaGreatDoor.Tr
