/- A node's own tokens, and that they are parsed as the node; plain Lean, no program. Condition: the node is right where it stands. -/
import Derived.Test.YtaklmocjaokkpaaGreatDoorParsePlain
namespace Go.Proofs.YtaklmocjaokkpaaGreatDoor.Tr
set_option linter.unusedVariables false
set_option linter.unusedSimpArgs false

abbrev TK := Nat × List UInt8 × Int
def tk (t : Lx.Tok) : TK := (t.kind, t.s, t.n)
def tw (s : ByteArray) : TK := (3, bl s, 0)
def tO : TK := (1, [], 0)
def tC : TK := (2, [], 0)
/-- The word that a kind's text begins with. -/
def wordOf (k : Nat) : ByteArray :=
  if k = 6 then wFun else if k = 7 then wCall else if k = 8 then wLet else if k = 9 then wIf else if k = 10 then wDo else if k = 12 then wPerform else if k = 13 then wHandle else if k = 14 then wResume
  else if k = 15 then wDrop else if k = 16 then wWind else if k = 17 then wReturn else if k = 18 then wOn else if k = 19 then wFinally else ⟨#[]⟩
def headT (k : Nat) (t : ByteArray) (ns : List ByteArray) : List TK :=
  if k = 11 then [tw t]
  else tw (wordOf k) :: (if k = 6 then tw t :: tO :: (ns.map tw ++ [tC]) else if k = 8 ∨ k = 12 then [tw t] else if k = 18 then tw t :: ns.map tw else if k = 17 then ns.map tw else [])
mutual
def toksN : Nd → List TK
  | .mk k n t ns ks =>
    if k = 1 then [(4, [], n)] else if k = 2 then [tw (if n = 1 then sTrue else sFalse)] else if k = 3 then [(5, bl t, 0)] else if k = 4 then [tw sUnit] else if k = 5 then [tw t]
    else tO :: (headT k t ns ++ (toksL ks ++ [tC]))
def toksL : List Nd → List TK
  | [] => []
  | x :: l => toksN x ++ toksL l
end
theorem toksN_is (x : Nd) : toksN x = if x.kind = 1 then [(4, [], x.n)] else if x.kind = 2 then [tw (if x.n = 1 then sTrue else sFalse)] else if x.kind = 3 then [(5, bl x.text, 0)] else if x.kind = 4 then [tw sUnit] else if x.kind = 5 then [tw x.text]
    else tO :: (headT x.kind x.text x.names ++ (toksL x.kids ++ [tC])) := by
  cases x; rw [toksN]; rfl
/-- These tokens stand at a place. -/
def Has (L : List Lx.Tok) (i : Nat) (T : List TK) : Prop := ∀ j x, T[j]? = some x → ∃ t, L[i + j]? = some t ∧ tk t = x
theorem Has.left {L : List Lx.Tok} {i : Nat} {A B : List TK} (h : Has L i (A ++ B)) : Has L i A := fun j x hx =>
  h j x (by rw [List.getElem?_append_left (List.getElem?_eq_some_iff.1 hx).1]; exact hx)
theorem Has.right {L : List Lx.Tok} {i : Nat} {A B : List TK} (h : Has L i (A ++ B)) : Has L (i + A.length) B := fun j x hx => by
  have := h (A.length + j) x (by rw [List.getElem?_append_right (by omega)]; simpa using hx)
  rwa [← Nat.add_assoc] at this
theorem Has.head {L : List Lx.Tok} {i : Nat} {x : TK} {T : List TK} (h : Has L i (x :: T)) : ∃ t, L[i]? = some t ∧ tk t = x := h 0 x rfl
theorem Has.tail {L : List Lx.Tok} {i : Nat} {x : TK} {T : List TK} (h : Has L i (x :: T)) : Has L (i + 1) T := fun j y hy => by
  have := h (j + 1) y (by simpa using hy)
  rwa [show i + (j + 1) = i + 1 + j by omega] at this
theorem Has.len {L : List Lx.Tok} {i : Nat} {T : List TK} (h : Has L i T) (hT : T ≠ []) : i + T.length ≤ L.length := by
  have hl : 0 < T.length := List.length_pos_iff.2 hT
  obtain ⟨t, ht, _⟩ := h (T.length - 1) _ (List.getElem?_eq_getElem (by omega))
  have := (List.getElem?_eq_some_iff.1 ht).1
  omega
theorem Has.word {L : List Lx.Tok} {i : Nat} {s : ByteArray} {T : List TK} (h : Has L i (tw s :: T)) : ∃ t, L[i]? = some t ∧ t.kind = 3 ∧ ba t.s = s := by
  obtain ⟨t, h1, h2⟩ := h.head
  unfold tk tw at h2
  simp only [Prod.mk.injEq] at h2
  exact ⟨t, h1, h2.1, by rw [h2.2.1, ba_bl]⟩
theorem Has.opens {L : List Lx.Tok} {i : Nat} {T : List TK} (h : Has L i (tO :: T)) : ∃ t, L[i]? = some t ∧ t.kind = 1 := by
  obtain ⟨t, h1, h2⟩ := h.head
  unfold tk tO at h2
  simp only [Prod.mk.injEq] at h2
  exact ⟨t, h1, h2.1⟩
theorem Has.closes {L : List Lx.Tok} {i : Nat} {T : List TK} (h : Has L i (tC :: T)) : ∃ t, L[i]? = some t ∧ t.kind = 2 := by
  obtain ⟨t, h1, h2⟩ := h.head
  unfold tk tC at h2
  simp only [Prod.mk.injEq] at h2
  exact ⟨t, h1, h2.1⟩
section
variable {L : List Lx.Tok} {fin : Nat}
theorem nameB_not {s : ByteArray} (h : nameB s = true) : s ≠ sTrue ∧ s ≠ sFalse ∧ s ≠ sUnit := by
  unfold nameB at h
  simp only [Bool.and_eq_true, Bool.not_eq_true', decide_eq_false_iff_not] at h
  exact ⟨h.1.1.2, h.1.2, h.2⟩
theorem name_of {no : List ByteArray} {s : ByteArray} {i : Nat} {T : List TK} (h : Has L i (tw s :: T)) (hs : nameB s = true) (hn : memB s no = false) : nameP L fin no i = .ok s := by
  obtain ⟨t, h1, h2, h3⟩ := h.word
  obtain ⟨e1, e2, e3⟩ := nameB_not hs
  unfold nameP
  rw [h1]
  simp only []
  rw [h3, if_pos ⟨h2, e1, e2, e3, hn⟩]
theorem take_of {i : Nat} {T : List TK} (h : Has L i (tC :: T)) : takeP L fin 2 i = .ok () := by
  obtain ⟨t, h1, h2⟩ := h.closes
  unfold takeP
  rw [h1]
  simp only []
  rw [if_pos h2]
theorem take_open {i : Nat} {T : List TK} (h : Has L i (tO :: T)) : takeP L fin 1 i = .ok () := by
  obtain ⟨t, h1, h2⟩ := h.opens
  unfold takeP
  rw [h1]
  simp only []
  rw [if_pos h2]
theorem unl_head {seen : List ByteArray} {s : ByteArray} {l : List ByteArray} (h : unl seen (s :: l) = true) : nameB s = true ∧ memB s seen = false ∧ unl (seen ++ [s]) l = true := by
  unfold unl at h
  simp only [Bool.and_eq_true, Bool.not_eq_true'] at h
  exact ⟨h.1.1, h.1.2, h.2⟩
theorem names_of : ∀ (rest seen : List ByteArray) (k i : Nat) (T : List TK), unl seen rest = true → Has L i (rest.map tw ++ (tC :: T)) → rest.length < k → namesP L fin k seen i = .ok (seen ++ rest, i + rest.length + 1) := by
  intro rest
  induction rest with
  | nil =>
    intro seen k i T hu h hk
    obtain ⟨k, rfl⟩ : ∃ q, k = q + 1 := ⟨k - 1, by simp at hk; omega⟩
    obtain ⟨t, h1, h2⟩ := h.closes
    unfold namesP
    rw [h1]
    simp only []
    rw [if_pos h2, List.append_nil]
    rfl
  | cons s rest ih =>
    intro seen k i T hu h hk
    obtain ⟨k, rfl⟩ : ∃ q, k = q + 1 := ⟨k - 1, by simp at hk; omega⟩
    obtain ⟨u1, u2, u3⟩ := unl_head hu
    have h' : Has L i (tw s :: (rest.map tw ++ (tC :: T))) := h
    obtain ⟨t, h1, h2, h3⟩ := h'.word
    unfold namesP
    rw [h1]
    simp only []
    rw [if_neg (by rw [h2]; decide), name_of h' u1 u2]
    simp only []
    rw [ih (seen ++ [s]) k (i + 1) T u3 h'.tail (by simp at hk; omega)]
    simp only [List.append_assoc, List.singleton_append, List.length_cons]
    congr 2
    omega
theorem some_of : ∀ (rest seen : List ByteArray) (i : Nat), unl seen rest = true → Has L i (rest.map tw) → someP L fin rest.length seen i = .ok (seen ++ rest, i + rest.length) := by
  intro rest
  induction rest with
  | nil => intro seen i hu h; simp [someP]
  | cons s rest ih =>
    intro seen i hu h
    obtain ⟨u1, u2, u3⟩ := unl_head hu
    have h' : Has L i (tw s :: rest.map tw) := h
    rw [List.length_cons]
    unfold someP
    rw [name_of h' u1 u2]
    simp only []
    rw [ih (seen ++ [s]) (i + 1) u3 h'.tail]
    simp only [List.append_assoc, List.singleton_append]
    congr 2
    omega
theorem toksN_head (x : Nd) : ∃ t r, toksN x = t :: r ∧ t.1 ≠ 2 := by
  rw [toksN_is]
  split
  · exact ⟨_, _, rfl, by simp⟩
  split
  · exact ⟨_, _, rfl, by unfold tw; simp⟩
  split
  · exact ⟨_, _, rfl, by simp⟩
  split
  · exact ⟨_, _, rfl, by unfold tw; simp⟩
  split
  · exact ⟨_, _, rfl, by unfold tw; simp⟩
  · exact ⟨_, _, rfl, by decide⟩
/-- A node's tokens are read as the node, whatever stands behind. -/
def Reads (L : List Lx.Tok) (val : Nat → Nat → PRes Nd) (y : Nd) : Prop := ∀ i n, Has L i (toksN y) → n + sizeN y ≤ 4000 → val i n = .ok (y, i + (toksN y).length, n + sizeN y)
theorem parts_of {val : Nat → Nat → PRes Nd} {many : Int} : ∀ (rest acc : List Nd) (k i n : Nat), (∀ y ∈ rest, Reads L val y) → Has L i (toksL rest) →
    (((acc.length : Int) + rest.length = many) ∨ (many < 0 ∧ (acc ≠ [] ∨ rest ≠ []) ∧ ∃ t, L[i + (toksL rest).length]? = some t ∧ t.kind = 2)) → rest.length < k → n + sizesN rest ≤ 4000 →
    partsP L fin val many k acc i n = .ok (acc ++ rest, i + (toksL rest).length, n + sizesN rest) := by
  intro rest
  induction rest with
  | nil =>
    intro acc k i n hv h hm hk hn
    obtain ⟨k, rfl⟩ : ∃ q, k = q + 1 := ⟨k - 1, by simp at hk; omega⟩
    have : moreP L fin many acc.length i = .ok false := by
      unfold moreP
      rcases hm with e | ⟨h1, h2, t, h3, h4⟩
      · simp only [List.length_nil] at e
        rw [if_neg (by omega), if_neg (by omega)]
      · have ha : acc ≠ [] := by simpa using h2
        have ha2 : ¬ acc.length = 0 := by rw [List.length_eq_zero_iff]; exact ha
        have h3' : L[i]? = some t := by simpa [toksL] using h3
        rw [if_neg (by omega), if_pos h1, if_neg ha2, h3']
        simp only []
        rw [h4]
        rfl
    unfold partsP
    rw [this]
    simp [toksL, sizesN]
  | cons y rest ih =>
    intro acc k i n hv h hm hk hn
    obtain ⟨k, rfl⟩ : ∃ q, k = q + 1 := ⟨k - 1, by simp at hk; omega⟩
    rw [toksL] at h hm ⊢
    rw [sizesN] at hn ⊢
    have hmore : moreP L fin many acc.length i = .ok true := by
      unfold moreP
      rcases hm with e | ⟨h1, h2, t, h3, h4⟩
      · simp only [List.length_cons] at e
        rw [if_pos (by omega)]
      · rw [if_neg (by omega), if_pos h1]
        split
        · rfl
        · obtain ⟨a, r, ha, hk2⟩ := toksN_head y
          have hl := h.left
          rw [ha] at hl
          obtain ⟨u, hu1, hu2⟩ := hl.head
          rw [hu1]
          simp only []
          have : u.kind ≠ 2 := by rw [← hu2] at hk2; exact hk2
          rw [decide_eq_true this]
    unfold partsP
    rw [hmore]
    simp only []
    rw [hv y List.mem_cons_self i n h.left (by omega)]
    simp only []
    rw [ih (acc ++ [y]) k (i + (toksN y).length) (n + sizeN y) (fun z hz => hv z (List.mem_cons_of_mem _ hz)) h.right ?_ (by simp at hk; omega) (by omega)]
    · simp only [List.append_assoc, List.singleton_append, List.length_append]
      congr 3 <;> omega
    · rcases hm with e | ⟨h1, h2, t, h3, h4⟩
      · left
        simp only [List.length_append, List.length_cons, List.length_nil] at e ⊢
        omega
      · refine .inr ⟨h1, .inl (by simp), t, ?_, h4⟩
        rw [List.length_append] at h3
        rw [Nat.add_assoc]
        exact h3
end
/-- What 'right' says of a node, its parts apart. -/
theorem head_parts {deep k : Nat} {n : Int} {t : ByteArray} {ns : List ByteArray} {ks : List Nd} (h : headB deep k n t ns ks = true) : ∃ many least most, shapeOf k = some (many, least, most) ∧ deep ≤ 60 ∧ textB k n t ks.length = true ∧ least ≤ ks.length ∧ ks.length ≤ most ∧ (k = 1 ∨ k = 2 ∨ n = 0) ∧
    (∀ m, many = some m → ns.length = m) ∧ unlike ns = true ∧ (k ≠ 13 → ∀ y ∈ ks, y.kind < 17) ∧ (k = 13 → clausesB (ks.drop 1) = true ∧ ∀ y ∈ ks.take 1, y.kind < 17) := by
  unfold headB at h
  cases hs : shapeOf k with
  | none => rw [hs] at h; cases h
  | some q =>
    obtain ⟨many, least, most⟩ := q
    rw [hs] at h
    simp only [Bool.and_eq_true, decide_eq_true_eq, Bool.or_eq_true] at h
    obtain ⟨⟨⟨⟨⟨⟨⟨h1, h2⟩, h3⟩, h4⟩, h5⟩, h6⟩, h7⟩, h8⟩ := h
    refine ⟨many, least, most, rfl, h1, h2, h3, h4, by omega, fun m hm => ?_, h7, fun hk => ?_, fun hk => ?_⟩
    · subst hm
      simpa using h6
    · rw [if_neg hk] at h8
      intro y hy
      exact of_decide_eq_true (List.all_eq_true.1 h8 y hy)
    · rw [if_pos hk, Bool.and_eq_true] at h8
      exact ⟨h8.1, fun y hy => of_decide_eq_true (List.all_eq_true.1 h8.2 y hy)⟩
theorem shape_range {k : Nat} {q : Option Nat × Nat × Nat} (h : shapeOf k = some q) : 1 ≤ k ∧ k ≤ 19 := by
  constructor
  · rcases Nat.eq_zero_or_pos k with rfl | h1
    · cases h
    · exact h1
  · rcases Nat.lt_or_ge k 20 with h1 | h1
    · omega
    · obtain ⟨j, rfl⟩ : ∃ j, k = j + 20 := ⟨k - 20, by omega⟩
      simp [shapeOf] at h
/-- How many parts a kind takes, as the parser has it. -/
def manyOf (k : Nat) (t : ByteArray) : Int := if k = 11 then takes t else if k = 7 ∨ k = 10 then -1 else if k = 8 ∨ k = 14 ∨ k = 15 then 2 else if k = 9 ∨ k = 16 then 3 else 1
theorem kinds_word : ∀ k ∈ [6, 7, 8, 9, 10, 12, 13, 14, 15, 16], kindsP (wordOf k) = (k, manyOf k ⟨#[]⟩) := by decide +kernel
theorem kinds_prim {t : ByteArray} (h : 0 ≤ takes t) : kindsP t = (11, takes t) := by
  have hn : ∀ w : ByteArray, takes w < 0 → ¬ t = w := fun w hw e => by rw [e] at h; omega
  unfold kindsP
  rw [if_neg (hn _ (by decide +kernel)), if_neg (hn _ (by decide +kernel)), if_neg (hn _ (by decide +kernel)), if_neg (hn _ (by decide +kernel)), if_neg (hn _ (by decide +kernel)), if_neg (hn _ (by decide +kernel)), if_neg (hn _ (by decide +kernel)), if_neg (hn _ (by decide +kernel)), if_neg (hn _ (by decide +kernel)), if_neg (hn _ (by decide +kernel))]
/-- The first word of a bracket's head. -/
def firstW (k : Nat) (t : ByteArray) : ByteArray := if k = 11 then t else wordOf k
theorem headT_is (k : Nat) (t : ByteArray) (ns : List ByteArray) : headT k t ns = tw (firstW k t) :: (if k = 6 then tw t :: tO :: (ns.map tw ++ [tC]) else if k = 8 ∨ k = 12 then [tw t] else if k = 18 then tw t :: ns.map tw else if k = 17 then ns.map tw else []) := by
  unfold headT firstW
  by_cases e : k = 11
  · subst e; rfl
  · rw [if_neg e, if_neg e]
theorem kinds_of {deep k : Nat} {n : Int} {t : ByteArray} {ns : List ByteArray} {ks : List Nd} (h : headB deep k n t ns ks = true) (h5 : 5 < k) (h17 : k < 17) : kindsP (firstW k t) = (k, manyOf k t) ∧ (k = 11 → 0 ≤ manyOf k t) := by
  obtain ⟨many, least, most, hs, _, htx, _⟩ := head_parts h
  unfold firstW
  by_cases e : k = 11
  · subst e
    have : takes t = (ks.length : Int) := by simpa [textB] using htx
    rw [if_pos rfl, kinds_prim (by omega)]
    exact ⟨rfl, fun _ => by show 0 ≤ takes t; omega⟩
  · rw [if_neg e]
    refine ⟨?_, fun h => absurd h e⟩
    have := kinds_word k (by simp; omega)
    rw [this]
    unfold manyOf
    rw [if_neg e, if_neg e]
theorem many_is {deep k : Nat} {n : Int} {t : ByteArray} {ns : List ByteArray} {ks : List Nd} (h : headB deep k n t ns ks = true) (h5 : 5 < k) (h17 : k < 17) (h13 : k ≠ 13) : (ks.length : Int) = manyOf k t ∨ (manyOf k t < 0 ∧ ks ≠ []) := by
  obtain ⟨many, least, most, hs, _, htx, h1, h2, _⟩ := head_parts h
  have hne : 0 < least → ks ≠ [] := fun hl => by
    intro e
    rw [e] at h1
    simp at h1
    omega
  have hk : k = 6 ∨ k = 7 ∨ k = 8 ∨ k = 9 ∨ k = 10 ∨ k = 11 ∨ k = 12 ∨ k = 14 ∨ k = 15 ∨ k = 16 := by omega
  rcases hk with rfl | rfl | rfl | rfl | rfl | rfl | rfl | rfl | rfl | rfl
  case inr.inr.inr.inr.inr.inl =>
    left
    have : takes t = (ks.length : Int) := by simpa [textB] using htx
    show _ = takes t
    omega
  all_goals
    simp only [shapeOf, Option.some.injEq, Prod.mk.injEq] at hs
    obtain ⟨_, rfl, rfl⟩ := hs
    first
      | (left; simp [manyOf]; omega)
      | (right; exact ⟨by simp [manyOf], hne (by decide)⟩)
theorem head_of {L : List Lx.Tok} {fin deep k : Nat} {n : Int} {t : ByteArray} {ns : List ByteArray} {ks : List Nd} {i : Nat} {T : List TK} (h : headB deep k n t ns ks = true) (h5 : 5 < k) (h17 : k < 17) (hh : Has L i (headT k t ns ++ T)) : headP L fin k (firstW k t) (i + 1) = .ok (t, ns, i + (headT k t ns).length) := by
  obtain ⟨many, least, most, hs, _, htx, h1, h2, h3, hnm, hun, _⟩ := head_parts h
  rw [headT_is] at hh ⊢
  have hno : many = some 0 → ns = [] := fun e => List.eq_nil_of_length_eq_zero (hnm 0 e)
  have hk : k = 6 ∨ k = 11 ∨ (k = 8 ∨ k = 12) ∨ (k = 7 ∨ k = 9 ∨ k = 10 ∨ k = 13 ∨ k = 14 ∨ k = 15 ∨ k = 16) := by omega
  rcases hk with rfl | rfl | hk | hk
  · have hnt : nameB t = true := by simpa [textB] using htx
    have hh' : Has L i (tw (firstW 6 t) :: (tw t :: tO :: (ns.map tw ++ (tC :: T)))) := by simpa using hh
    have hb := hh'.tail
    have hc := hb.tail
    have hd := hc.tail
    have hl := hd.len (by simp)
    unfold headP
    rw [if_neg (by decide), if_neg (by decide), if_pos rfl, name_of hb hnt rfl]
    simp only []
    rw [take_open hc]
    simp only []
    rw [names_of ns [] (L.length + 1) (i + 1 + 2) T hun (by simpa [Nat.add_assoc] using hd) (by simp at hl; omega)]
    simp
    omega
  · have : ns = [] := by simp only [shapeOf, Option.some.injEq, Prod.mk.injEq] at hs; exact hno hs.1.symm
    subst this
    unfold headP
    rw [if_pos rfl]
    simp [firstW]
  · have : ns = [] := by rcases hk with rfl | rfl <;> (simp only [shapeOf, Option.some.injEq, Prod.mk.injEq] at hs; exact hno hs.1.symm)
    subst this
    have hnt : nameB t = true := by rcases hk with rfl | rfl <;> simpa [textB] using htx
    have h6 : ¬ k = 6 := by omega
    have h11 : ¬ k = 11 := by omega
    rw [if_neg h6, if_pos hk] at hh ⊢
    have hh' : Has L i (tw (firstW k t) :: (tw t :: T)) := by simpa using hh
    unfold headP
    rw [if_neg h11, if_pos hk, name_of hh'.tail hnt rfl]
    simp
  · have : ns = [] := by rcases hk with rfl | rfl | rfl | rfl | rfl | rfl | rfl <;> (simp only [shapeOf, Option.some.injEq, Prod.mk.injEq] at hs; exact hno hs.1.symm)
    subst this
    have hte : t = ⟨#[]⟩ := by rcases hk with rfl | rfl | rfl | rfl | rfl | rfl | rfl <;> simpa [textB] using htx
    subst hte
    have h6 : ¬ k = 6 := by omega
    have h8 : ¬ (k = 8 ∨ k = 12) := by omega
    have h11 : ¬ k = 11 := by omega
    have h18 : ¬ k = 18 := by omega
    have h17' : ¬ k = 17 := by omega
    unfold headP
    rw [if_neg h11, if_neg h8, if_neg h6, if_neg h6, if_neg h8, if_neg h18, if_neg h17']
    simp
theorem opsOf_cons (x : Nd) (l : List Nd) : opsOf (x :: l) = (if x.kind = 18 then x.text :: opsOf l else opsOf l) := by
  unfold opsOf
  by_cases e : x.kind = 18
  · rw [if_pos e, List.filter_cons_of_pos (by rw [e]; rfl), List.map_cons]
  · rw [if_neg e, List.filter_cons_of_neg (by simpa using e)]
theorem clause_word : ∀ k ∈ [17, 18, 19], clauseKind (wordOf k) = k := by decide +kernel
/-- A handle's clauses are read as they are. -/
theorem clauses_of {L : List Lx.Tok} {fin : Nat} {val : Nat → Nat → PRes Nd} {deep : Nat} : ∀ (rest out : List Nd) (ops : List ByteArray) (last f i n : Nat), orderB last rest = true → unl ops (opsOf rest) = true →
    (∀ c ∈ rest, headB deep c.kind c.n c.text c.names c.kids = true ∧ ∀ y ∈ c.kids, Reads L val y) → Has L i (toksL rest ++ [tC]) → rest.length < f → n + sizesN rest ≤ 4000 →
    clausesP L fin true val f out ops last i n = .ok (out ++ rest, i + (toksL rest).length, n + sizesN rest) := by
  intro rest
  induction rest with
  | nil =>
    intro out ops last f i n ho hu hr hh hf hn
    obtain ⟨f, rfl⟩ : ∃ q, f = q + 1 := ⟨f - 1, by simp at hf; omega⟩
    rw [toksL, List.nil_append] at hh
    obtain ⟨t, h1, h2⟩ := hh.closes
    unfold clausesP
    rw [h1]
    simp only []
    rw [if_pos h2]
    simp [toksL, sizesN]
  | cons c rest ih =>
    intro out ops last f i n ho hu hr hh hf hn
    obtain ⟨f, rfl⟩ : ∃ q, f = q + 1 := ⟨f - 1, by simp at hf; omega⟩
    obtain ⟨hb, hv⟩ := hr c List.mem_cons_self
    obtain ⟨many, least, most, hs, _, htx, hl1, hl2, hn0, hnm, hun, _⟩ := head_parts hb
    unfold orderB at ho
    simp only [Bool.and_eq_true, decide_eq_true_eq, Bool.or_eq_true, Bool.not_eq_true', decide_eq_false_iff_not] at ho
    obtain ⟨⟨⟨o1, o2⟩, o3⟩, o4⟩ := ho
    have hr19 := (shape_range hs).2
    rw [toksL] at hh ⊢
    rw [sizesN] at hn ⊢
    rw [opsOf_cons] at hu
    obtain ⟨k, nn, tx, ns, ks⟩ := c
    simp only [Nd.kind, Nd.n, Nd.text, Nd.names, Nd.kids] at hb hv hs htx hl1 hl2 hn0 hnm hun o1 o2 o3 o4 hr19 hu
    replace hu : unl ops (if k = 18 then tx :: opsOf rest else opsOf rest) = true := hu
    have hnz : nn = 0 := by omega
    subst hnz
    have htk : toksN (.mk k 0 tx ns ks) = tO :: (headT k tx ns ++ (toksL ks ++ [tC])) := by
      rw [toksN, if_neg (by omega), if_neg (by omega), if_neg (by omega), if_neg (by omega), if_neg (by omega)]
    have hsz : sizeN (.mk k 0 tx ns ks) = 1 + sizesN ks := by rw [sizeN]
    have hkl : ks.length = 1 := by
      have hk : k = 17 ∨ k = 18 ∨ k = 19 := by omega
      rcases hk with rfl | rfl | rfl <;> (simp only [shapeOf, Option.some.injEq, Prod.mk.injEq] at hs; omega)
    have hnl : ns.length = clauseNames k := by
      have hk : k = 17 ∨ k = 18 ∨ k = 19 := by omega
      rcases hk with rfl | rfl | rfl <;> (simp only [shapeOf, Option.some.injEq, Prod.mk.injEq] at hs; exact hnm _ hs.1.symm)
    rw [hsz] at hn ⊢
    rw [htk] at hh
    rw [headT_is, if_neg (show ¬ k = 6 by omega), if_neg (show ¬ (k = 8 ∨ k = 12) by omega)] at hh htk
    have hfw : firstW k tx = wordOf k := by unfold firstW; rw [if_neg (by omega)]
    rw [hfw] at hh htk
    have hh1 : Has L i (tO :: tw (wordOf k) :: ((if k = 18 then tw tx :: ns.map tw else if k = 17 then ns.map tw else []) ++ (toksL ks ++ (tC :: (toksL rest ++ [tC]))))) := by simpa using hh
    obtain ⟨t, t1, t2⟩ := hh1.opens
    obtain ⟨u, u1, u2, u3⟩ := hh1.tail.word
    have hck : clauseKind (ba u.s) = k := by rw [u3]; exact clause_word k (by simp; omega)
    have hbody := hh1.tail.tail
    have hop : ∃ i1, opP L fin k ops (i + 2) = .ok (tx, (if k = 18 then ops ++ [tx] else ops), i1) ∧ Has L i1 (ns.map tw ++ (toksL ks ++ (tC :: (toksL rest ++ [tC])))) ∧ i1 + (ns.length + ((toksL ks).length + 1)) = i + (toksN (.mk k 0 tx ns ks)).length := by
      rw [htk]
      by_cases h18 : k = 18
      · subst h18
        simp only [if_pos] at hbody hu ⊢
        obtain ⟨v1, v2, v3⟩ := unl_head hu
        refine ⟨i + 3, ?_, by simpa using hbody.tail, by simp; omega⟩
        unfold opP
        rw [if_pos rfl, name_of (by simpa using hbody) v1 v2]
      · simp only [if_neg h18] at hbody ⊢
        have hte : tx = ⟨#[]⟩ := by
          have hk : k = 17 ∨ k = 19 := by omega
          rcases hk with rfl | rfl <;> simpa [textB] using htx
        refine ⟨i + 2, ?_, ?_, ?_⟩
        · unfold opP
          rw [if_neg h18, hte]
        · by_cases h17 : k = 17
          · rw [if_pos h17] at hbody
            exact hbody
          · rw [if_neg h17] at hbody
            have : ns = [] := List.eq_nil_of_length_eq_zero (by rw [hnl]; unfold clauseNames; rw [if_neg h17, if_neg h18])
            rw [this]
            exact hbody
        · by_cases h17 : k = 17
          · simp only [if_pos h17]
            simp
            omega
          · have : ns = [] := List.eq_nil_of_length_eq_zero (by rw [hnl]; unfold clauseNames; rw [if_neg h17, if_neg h18])
            simp only [if_neg h17, this]
            simp
            omega
    obtain ⟨i1, hop1, hop2, hop3⟩ := hop
    have hsome := some_of (fin := fin) ns [] i1 hun hop2.left
    have hp2 := hop2.right
    rw [List.length_map] at hp2
    have hparts := parts_of (fin := fin) (many := 1) ks [] 4002 (i1 + ns.length) (n + 1) hv hp2.left (.inl (by simp [hkl])) (by omega) (by omega)
    have hp3 := hp2.right
    have hbd : bodyP L fin val k tx i1 (n + 1) = .ok (.mk k 0 tx ns ks, i + (toksN (.mk k 0 tx ns ks)).length, n + (1 + sizesN ks)) := by
      unfold bodyP
      rw [← hnl, hsome]
      simp only [List.nil_append]
      rw [hparts]
      simp only [List.nil_append]
      unfold closeP
      rw [take_of hp3]
      simp only []
      congr 3 <;> omega
    unfold clausesP
    rw [t1]
    simp only []
    rw [if_neg (by rw [t2]; decide), if_neg (by rw [t2]; decide), if_neg (by simp; omega), u1]
    simp only []
    rw [hck, if_neg (by
      rintro (e | e | e | ⟨e, e2⟩)
      · exact e u2
      · omega
      · omega
      · rcases o2 with o2 | o2
        · exact o2 e
        · exact e2 o2), hop1]
    simp only []
    rw [hbd]
    simp only []
    rw [ih (out ++ [Nd.mk k 0 tx ns ks]) (if k = 18 then ops ++ [tx] else ops) k f (i + (toksN (Nd.mk k 0 tx ns ks)).length) (n + (1 + sizesN ks)) o4 ?_ (fun y hy => hr y (List.mem_cons_of_mem _ hy)) ?_ (by simp at hf; omega) (by omega)]
    · simp only [List.append_assoc, List.singleton_append, List.length_append]
      congr 3 <;> omega
    · by_cases h18 : k = 18
      · rw [if_pos h18] at hu ⊢
        exact (unl_head hu).2.2
      · rw [if_neg h18] at hu ⊢
        exact hu
    · have := hp3.tail
      rw [show i1 + ns.length + (toksL ks).length + 1 = i + (toksN (.mk k 0 tx ns ks)).length by omega] at this
      exact this
/-- The clauses of a handle, where nodes may still stand so deep in it. -/
def clD (L : List Lx.Tok) (fin : Nat) : Nat → Nat → Nat → PRes (List Nd)
  | 0 => clausesP L fin false (fun _ _ => .error (0, 0)) 4002 [] [] 16
  | d + 1 => clausesP L fin true (valueD L fin d) 4002 [] [] 16
theorem valueD_succ (L : List Lx.Tok) (fin d : Nat) : valueD L fin (d + 1) = valueP L fin (bracketP L fin (valueD L fin d) (clD L fin d)) true := by
  cases d with
  | zero => rw [valueD]; rfl
  | succ d => rw [valueD]; rfl
theorem ne_cons (l : List Nd) (h : l ≠ []) : ∃ b cs, l = b :: cs := by
  cases l with
  | nil => exact absurd rfl h
  | cons b cs => exact ⟨b, cs, rfl⟩
/-- A node's own tokens are read as the node. -/
theorem value_of {L : List Lx.Tok} {fin : Nat} : ∀ (x : Nd) (deep d : Nat), rightB x deep = true → deep + d = 61 → (x.kind < 17 → Reads L (valueD L fin d) x) ∧ ∀ d', d = d' + 1 → ∀ y ∈ x.kids, y.kind < 17 → Reads L (valueD L fin d') y := by
  intro x
  induction x using Nd.ind with
  | h x ih =>
    intro deep d hr hd
    have hkids := fun y hy => right_kid hr y hy
    rw [rightB_is, Bool.and_eq_true] at hr
    have hb := hr.1
    obtain ⟨many, least, most, hs, hdp, htx, hl1, hl2, hn0, hnm, hun, hks, hcl⟩ := head_parts hb
    obtain ⟨d1, rfl⟩ : ∃ q, d = q + 1 := ⟨d - 1, by omega⟩
    have hsub : ∀ y ∈ x.kids, y.kind < 17 → Reads L (valueD L fin d1) y := fun y hy hk => (ih y hy (deep + 1) d1 (hkids y hy) (by omega)).1 hk
    refine ⟨fun h17 => ?_, fun d' e y hy hk => by
      obtain rfl : d1 = d' := by omega
      exact hsub y hy hk⟩
    intro i n hh hn
    have hrg := shape_range hs
    rw [valueD_succ]
    have hsz1 : 1 ≤ sizeN x := by rw [sizeN_is]; omega
    obtain ⟨k, nn, tx, ns, ks⟩ := x
    simp only [Nd.kind, Nd.n, Nd.text, Nd.names, Nd.kids] at hb hs htx hl1 hl2 hn0 hnm hun hks hcl hsub h17 hrg ih hkids
    by_cases h5 : k ≤ 5
    · have hns : ns = [] := by
        have hk : k = 1 ∨ k = 2 ∨ k = 3 ∨ k = 4 ∨ k = 5 := by omega
        rcases hk with rfl | rfl | rfl | rfl | rfl <;> (simp only [shapeOf, Option.some.injEq, Prod.mk.injEq] at hs; exact List.eq_nil_of_length_eq_zero (hnm 0 hs.1.symm))
      have hkse : ks = [] := by
        have hk : k = 1 ∨ k = 2 ∨ k = 3 ∨ k = 4 ∨ k = 5 := by omega
        rcases hk with rfl | rfl | rfl | rfl | rfl <;> (simp only [shapeOf, Option.some.injEq, Prod.mk.injEq] at hs; exact List.eq_nil_of_length_eq_zero (by omega))
      subst hns hkse
      have hs1 : sizeN (.mk k nn tx [] []) = 1 := by rw [sizeN, sizesN]
      have hlen : (toksN (.mk k nn tx [] [])).length = 1 := by
        rw [toksN]
        have hk : k = 1 ∨ k = 2 ∨ k = 3 ∨ k = 4 ∨ k = 5 := by omega
        rcases hk with rfl | rfl | rfl | rfl | rfl <;> rfl
      have hleaf : ∃ t, L[i]? = some t ∧ t.kind ≠ 1 ∧ t.kind ≠ 2 ∧ leafP t = .mk k nn tx [] [] := by
        rw [toksN] at hh
        have hk : k = 1 ∨ k = 2 ∨ k = 3 ∨ k = 4 ∨ k = 5 := by omega
        rcases hk with rfl | rfl | rfl | rfl | rfl
        · have hte : tx = ⟨#[]⟩ := by simpa [textB] using htx
          obtain ⟨t, h1, h2⟩ := Has.head (T := []) hh
          unfold tk at h2
          simp only [Prod.mk.injEq] at h2
          refine ⟨t, h1, by rw [h2.1]; decide, by rw [h2.1]; decide, ?_⟩
          unfold leafP
          rw [if_pos h2.1, h2.2.2, hte]
        · have hte : tx = ⟨#[]⟩ ∧ (nn = 0 ∨ nn = 1) := by simpa [textB] using htx
          obtain ⟨t, h1, h2, h3⟩ := Has.word (T := []) hh
          refine ⟨t, h1, by rw [h2]; decide, by rw [h2]; decide, ?_⟩
          unfold leafP
          rw [if_neg (by rw [h2]; decide), if_neg (by rw [h2]; decide), h3, hte.1]
          rcases hte.2 with rfl | rfl
          · rw [show (if (0 : Int) = 1 then sTrue else sFalse) = sFalse from if_neg (by decide), if_neg (by decide +kernel), if_pos rfl]
          · rw [show (if (1 : Int) = 1 then sTrue else sFalse) = sTrue from if_pos rfl, if_pos rfl]
        · have hz : nn = 0 := by omega
          obtain ⟨t, h1, h2⟩ := Has.head (T := []) hh
          unfold tk at h2
          simp only [Prod.mk.injEq] at h2
          refine ⟨t, h1, by rw [h2.1]; decide, by rw [h2.1]; decide, ?_⟩
          unfold leafP
          rw [if_neg (by rw [h2.1]; decide), if_pos h2.1, h2.2.1, ba_bl, hz]
        · have hz : nn = 0 := by omega
          have hte : tx = ⟨#[]⟩ := by simpa [textB] using htx
          obtain ⟨t, h1, h2, h3⟩ := Has.word (T := []) hh
          refine ⟨t, h1, by rw [h2]; decide, by rw [h2]; decide, ?_⟩
          unfold leafP
          rw [if_neg (by rw [h2]; decide), if_neg (by rw [h2]; decide), h3, hte, if_neg (by decide +kernel), if_neg (by decide +kernel), if_pos rfl, hz]
        · have hz : nn = 0 := by omega
          have hte : nameB tx = true := by simpa [textB] using htx
          obtain ⟨e1, e2, e3⟩ := nameB_not hte
          obtain ⟨t, h1, h2, h3⟩ := Has.word (T := []) hh
          refine ⟨t, h1, by rw [h2]; decide, by rw [h2]; decide, ?_⟩
          unfold leafP
          rw [if_neg (by rw [h2]; decide), if_neg (by rw [h2]; decide), h3, if_neg e1, if_neg e2, if_neg e3, hz]
      obtain ⟨t, t1, t2, t3, t4⟩ := hleaf
      unfold valueP
      rw [t1]
      simp only []
      rw [if_neg t3, if_neg (by simp; omega), if_neg t2, t4, hs1, hlen]
    · have hz : nn = 0 := by omega
      subst hz
      have htk : toksN (.mk k 0 tx ns ks) = tO :: (headT k tx ns ++ (toksL ks ++ [tC])) := by
        rw [toksN, if_neg (by omega), if_neg (by omega), if_neg (by omega), if_neg (by omega), if_neg (by omega)]
      have hsz : sizeN (.mk k 0 tx ns ks) = 1 + sizesN ks := by rw [sizeN]
      rw [hsz] at hn ⊢
      rw [htk] at hh ⊢
      obtain ⟨t, t1, t2⟩ := hh.opens
      obtain ⟨kk, hkn⟩ := kinds_of hb (by omega) h17
      have hhd := hh.tail
      have hhw := hhd
      rw [headT_is] at hhw
      obtain ⟨u, u1, u2, u3⟩ := Has.word (T := _) hhw
      have hhead := head_of (fin := fin) hb (by omega) h17 hhd
      have hp := hhd.right
      have hcl2 := hp.right
      obtain ⟨cu, cu1, cu2⟩ := hcl2.closes
      have hlen : ks.length ≤ sizesN ks := by
        have : ∀ l : List Nd, l.length ≤ sizesN l := by
          intro l
          induction l with
          | nil => simp
          | cons y l ih => rw [sizesN, List.length_cons]; have : 1 ≤ sizeN y := by rw [sizeN_is]; omega
                           omega
        exact this ks
      unfold valueP
      rw [t1]
      simp only []
      rw [if_neg (by rw [t2]; decide), if_neg (by simp; omega), if_pos t2]
      unfold bracketP
      rw [u1]
      simp only []
      rw [u3, kk]
      simp only []
      rw [if_neg (by
        rintro (e | ⟨e1, e2⟩)
        · exact e u2
        · have := hkn e1
          omega), hhead]
      simp only []
      by_cases h13 : k = 13
      · subst h13
        obtain ⟨hc1, hc2⟩ := hcl rfl
        simp only [shapeOf, Option.some.injEq, Prod.mk.injEq] at hs
        obtain ⟨b, cs, rfl⟩ := ne_cons ks (fun e => by rw [e] at hl1; simp at hl1; omega)
        unfold clausesB at hc1
        rw [Bool.and_eq_true] at hc1
        have hc3 : orderB 16 cs = true := hc1.1
        have hc4 : unlike (opsOf cs) = true := hc1.2
        rw [sizesN] at hn ⊢
        rw [toksL] at hp hcl2 ⊢
        rw [List.append_assoc] at hp
        have hone := parts_of (fin := fin) (many := 1) [b] [] 4002 (i + 1 + (headT 13 tx ns).length) (n + 1) (fun y hy => by
          obtain rfl : y = b := by simpa using hy
          exact hsub y List.mem_cons_self (hc2 y (by simp))) (by simpa [toksL] using hp.left) (.inl rfl) (by simp) (by simp only [sizesN]; omega)
        rw [show manyOf 13 tx = 1 from rfl, hone]
        simp only [List.nil_append, toksL, sizesN, List.append_nil, Nat.add_zero]
        unfold moreKids
        rw [if_pos rfl]
        have hcs := hp.right
        cases cs with
        | nil =>
          have hcz : clD L fin d1 (i + 1 + (headT 13 tx ns).length + (toksN b).length) (n + 1 + sizeN b) = .ok ([], i + 1 + (headT 13 tx ns).length + (toksN b).length, n + 1 + sizeN b) := by
            rw [toksL, List.nil_append] at hcs
            obtain ⟨q, q1, q2⟩ := hcs.closes
            cases d1 with
            | zero => simp only [clD]; unfold clausesP; rw [q1]; simp only []; rw [if_pos q2]
            | succ d2 => simp only [clD]; unfold clausesP; rw [q1]; simp only []; rw [if_pos q2]
          rw [hcz]
          simp only []
          unfold closeP
          rw [toksL, List.nil_append] at hcs
          rw [take_of hcs]
          simp only [toksL, sizesN, List.append_nil, List.length_append, List.length_cons, List.length_nil]
          congr 3 <;> omega
        | cons c cs =>
          obtain ⟨d2, rfl⟩ : ∃ q, d1 = q + 1 := ⟨d1 - 1, by
            have hrc := hkids c (by simp)
            rw [rightB_is, Bool.and_eq_true] at hrc
            obtain ⟨_, _, _, _, h60, _⟩ := head_parts hrc.1
            omega⟩
          have hcz := clauses_of (fin := fin) (val := valueD L fin d2) (deep := deep + 1) (c :: cs) [] [] 16 4002 (i + 1 + (headT 13 tx ns).length + (toksN b).length) (n + 1 + sizeN b) hc3 hc4 (fun y hy => by
            have hry := hkids y (List.mem_cons_of_mem _ hy)
            have h2 := (ih y (List.mem_cons_of_mem _ hy) (deep + 1) (d2 + 1) hry (by omega)).2 d2 rfl
            rw [rightB_is, Bool.and_eq_true] at hry
            refine ⟨hry.1, fun z hz => h2 z hz ?_⟩
            obtain ⟨_, _, _, hs', _, _, _, _, _, _, _, hk', _⟩ := head_parts hry.1
            have : y.kind ≠ 13 := by
              have : ∀ (l : List Nd) (last : Nat), orderB last l = true → ∀ y ∈ l, 17 ≤ y.kind := by
                intro l
                induction l with
                | nil => intro last _ y hy; cases hy
                | cons a l ih =>
                  intro last ho y hy
                  unfold orderB at ho
                  simp only [Bool.and_eq_true, decide_eq_true_eq] at ho
                  rcases List.mem_cons.1 hy with rfl | hy
                  · exact ho.1.2
                  · exact ih _ ho.2 y hy
              have := this _ _ hc3 y hy
              omega
            exact hk' this z hz) hcs (by simp only [List.length_cons] at hlen hl2 ⊢; omega) (by omega)
          rw [show clD L fin (d2 + 1) = clausesP L fin true (valueD L fin d2) 4002 [] [] 16 from rfl, hcz]
          simp only [List.nil_append]
          unfold closeP
          rw [take_of hcs.right]
          simp only [List.length_append, List.length_cons, List.length_nil]
          congr 3 <;> omega
      · have hmany := many_is hb (by omega) h17 h13
        have hparts := parts_of (fin := fin) (val := valueD L fin d1) (many := manyOf k tx) ks [] 4002 (i + 1 + (headT k tx ns).length) (n + 1) (fun y hy => hsub y hy (hks h13 y hy)) hp.left (by
          rcases hmany with e | ⟨e1, e2⟩
          · left
            simp only [List.length_nil]
            omega
          · exact .inr ⟨e1, .inr e2, cu, cu1, cu2⟩) (by omega) (by omega)
        rw [hparts]
        simp only [List.nil_append]
        unfold moreKids
        rw [if_neg h13]
        simp only []
        unfold closeP
        rw [take_of hcl2]
        simp only [List.length_append, List.length_cons, List.length_nil]
        congr 3 <;> omega
end Go.Proofs.YtaklmocjaokkpaaGreatDoor.Tr
