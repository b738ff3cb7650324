/- The parser, plain: what it comes to over tokens; no program, no condition. · A node's own tokens, and that they are parsed as the node; plain Lean, no program. Condition: the node is right where it stands. · The tokens of a node's text are the node's own tokens; two right nodes with one text are the same; plain Lean, no program. Condition: the node is right where it stands, and its numbers are int64's. · What the parser reads is right where it stands, and its own tokens are those that were read; plain Lean, no program. Condition: the tokens are a lexer's. · What is parsed, and what is not: plain laws of the plain parser over the plain lexer; no program. Condition: the source is no longer than a source may be, where a law says so. · A bracket's text, or a text's, that is cut off is parsed as no node; plain Lean, no program. Condition: the node may be, its numbers are int64's. -/
import Derived.Test.YtaklmocjaokkpaaGreatDoorTreePrintPlain
import Derived.Test.YtaklmocjaokkpaaGreatDoorLexD
import Derived.Lib.ParseIntBTie
namespace Go.Proofs.YtaklmocjaokkpaaGreatDoor.Tr
set_option linter.unusedVariables false
set_option linter.unusedSimpArgs false

def ba (l : List UInt8) : ByteArray := ⟨l.toArray⟩
theorem ba_bl (s : ByteArray) : ba (bl s) = s := by unfold ba bl; simp
theorem bl_ba (l : List UInt8) : bl (ba l) = l := by simp [ba, bl]
def wFun : ByteArray := ⟨#[102, 117, 110]⟩
def wCall : ByteArray := ⟨#[99, 97, 108, 108]⟩
def wLet : ByteArray := ⟨#[108, 101, 116]⟩
def wIf : ByteArray := ⟨#[105, 102]⟩
def wDo : ByteArray := ⟨#[100, 111]⟩
def wPerform : ByteArray := ⟨#[112, 101, 114, 102, 111, 114, 109]⟩
def wHandle : ByteArray := ⟨#[104, 97, 110, 100, 108, 101]⟩
def wResume : ByteArray := ⟨#[114, 101, 115, 117, 109, 101]⟩
def wDrop : ByteArray := ⟨#[100, 114, 111, 112]⟩
def wWind : ByteArray := ⟨#[119, 105, 110, 100]⟩
def wReturn : ByteArray := ⟨#[114, 101, 116, 117, 114, 110]⟩
def wOn : ByteArray := ⟨#[111, 110]⟩
def wFinally : ByteArray := ⟨#[102, 105, 110, 97, 108, 108, 121]⟩
/-- The kind that a word begins, and how many parts it takes; -1: as many as stand there. -/
def kindsP (w : ByteArray) : Nat × Int :=
  if w = wFun then (6, 1) else if w = wCall then (7, -1) else if w = wLet then (8, 2) else if w = wIf then (9, 3) else if w = wDo then (10, -1) else if w = wPerform then (12, 1)
  else if w = wHandle then (13, 1) else if w = wResume then (14, 2) else if w = wDrop then (15, 2) else if w = wWind then (16, 3) else (11, takes w)
def clauseKind (s : ByteArray) : Nat := if s = wReturn then 17 else if s = wOn then 18 else if s = wFinally then 19 else 0
def clauseNames (k : Nat) : Nat := if k = 17 then 1 else if k = 18 then 2 else 0
def leafP (t : Lx.Tok) : Nd :=
  if t.kind = 4 then .mk 1 t.n ⟨#[]⟩ [] [] else if t.kind = 5 then .mk 3 0 (ba t.s) [] []
  else if ba t.s = sTrue then .mk 2 1 ⟨#[]⟩ [] [] else if ba t.s = sFalse then .mk 2 0 ⟨#[]⟩ [] [] else if ba t.s = sUnit then .mk 4 0 ⟨#[]⟩ [] [] else .mk 5 0 (ba t.s) [] []
/-- What was read, the place behind, and how many nodes there were by then; or a place and an error. -/
abbrev PRes (α : Type) := Except (Nat × Nat) (α × Nat × Nat)
section
variable (L : List Lx.Tok) (fin : Nat)
def nameP (no : List ByteArray) (i : Nat) : Except (Nat × Nat) ByteArray :=
  match L[i]? with
  | none => .error (fin, 11)
  | some t => if t.kind = 3 ∧ ba t.s ≠ sTrue ∧ ba t.s ≠ sFalse ∧ ba t.s ≠ sUnit ∧ memB (ba t.s) no = false then .ok (ba t.s) else .error (t.at_, 12)
def takeP (k i : Nat) : Except (Nat × Nat) Unit :=
  match L[i]? with
  | none => .error (fin, 11)
  | some t => if t.kind = k then .ok () else .error (t.at_, 12)
/-- Is there one more part? -/
def moreP (many : Int) (len i : Nat) : Except (Nat × Nat) Bool :=
  if (len : Int) < many then .ok true
  else if many < 0 then
    if len = 0 then .ok true else
    match L[i]? with
    | none => .error (fin, 11)
    | some t => .ok (decide (t.kind ≠ 2))
  else .ok false
def partsP (val : Nat → Nat → PRes Nd) (many : Int) : Nat → List Nd → Nat → Nat → PRes (List Nd)
  | 0, acc, i, n => .ok (acc, i, n)
  | k + 1, acc, i, n =>
    match moreP L fin many acc.length i with
    | .error e => .error e
    | .ok false => .ok (acc, i, n)
    | .ok true =>
      match val i n with
      | .error e => .error e
      | .ok (x, i', n') => partsP val many k (acc ++ [x]) i' n'
/-- Names up to a closing bracket. -/
def namesP : Nat → List ByteArray → Nat → Except (Nat × Nat) (List ByteArray × Nat)
  | 0, ns, i => .ok (ns, i)
  | k + 1, ns, i =>
    match L[i]? with
    | none => .error (fin, 11)
    | some t =>
      if t.kind = 2 then .ok (ns, i + 1) else
      match nameP L fin ns i with
      | .error e => .error e
      | .ok s => namesP k (ns ++ [s]) (i + 1)
/-- So many names. -/
def someP : Nat → List ByteArray → Nat → Except (Nat × Nat) (List ByteArray × Nat)
  | 0, ns, i => .ok (ns, i)
  | k + 1, ns, i =>
    match nameP L fin ns i with
    | .error e => .error e
    | .ok s => someP k (ns ++ [s]) (i + 1)
/-- A kind's text and names. -/
def headP (k : Nat) (w : ByteArray) (i : Nat) : Except (Nat × Nat) (ByteArray × List ByteArray × Nat) :=
  if k = 11 then .ok (w, [], i)
  else if k = 8 ∨ k = 12 then
    match nameP L fin [] i with
    | .error e => .error e
    | .ok s => .ok (s, [], i + 1)
  else if k = 6 then
    match nameP L fin [] i with
    | .error e => .error e
    | .ok s =>
      match takeP L fin 1 (i + 1) with
      | .error e => .error e
      | .ok _ =>
        match namesP L fin (L.length + 1) [] (i + 2) with
        | .error e => .error e
        | .ok (ns, j) => .ok (s, ns, j)
  else .ok (⟨#[]⟩, [], i)
/-- A node whose parts and clauses were read: its bracket. -/
def closeP (k : Nat) (tx : ByteArray) (ns : List ByteArray) (ks : List Nd) (i n : Nat) : PRes Nd :=
  match takeP L fin 2 i with
  | .error e => .error e
  | .ok _ => .ok (.mk k 0 tx ns ks, i + 1, n)
/-- A clause, behind its word and its operation. -/
def bodyP (val : Nat → Nat → PRes Nd) (k : Nat) (tx : ByteArray) (i n : Nat) : PRes Nd :=
  match someP L fin (clauseNames k) [] i with
  | .error e => .error e
  | .ok (ns, i1) =>
    match partsP L fin val 1 4002 [] i1 n with
    | .error e => .error e
    | .ok (ks, i2, n2) => closeP L fin k tx ns ks i2 n2
/-- A clause's operation. -/
def opP (k : Nat) (ops : List ByteArray) (i : Nat) : Except (Nat × Nat) (ByteArray × List ByteArray × Nat) :=
  if k = 18 then
    match nameP L fin ops i with
    | .error e => .error e
    | .ok s => .ok (s, ops ++ [s], i + 1)
  else .ok (⟨#[]⟩, ops, i)
def clausesP (dok : Bool) (val : Nat → Nat → PRes Nd) : Nat → List Nd → List ByteArray → Nat → Nat → Nat → PRes (List Nd)
  | 0, out, ops, last, i, n => .ok (out, i, n)
  | f + 1, out, ops, last, i, n =>
    match L[i]? with
    | none => .error (fin, 11)
    | some t =>
      if t.kind = 2 then .ok (out, i, n)
      else if t.kind ≠ 1 then .error (t.at_, 12)
      else if 4000 < n + 1 ∨ dok = false then .error (t.at_, 13)
      else
        match L[i + 1]? with
        | none => .error (fin, 11)
        | some u =>
          if u.kind ≠ 3 ∨ clauseKind (ba u.s) = 0 ∨ clauseKind (ba u.s) < last ∨ (clauseKind (ba u.s) = last ∧ clauseKind (ba u.s) ≠ 18) then .error (u.at_, 12)
          else
            match opP L fin (clauseKind (ba u.s)) ops (i + 2) with
            | .error e => .error e
            | .ok (tx, ops', i1) =>
              match bodyP L fin val (clauseKind (ba u.s)) tx i1 (n + 1) with
              | .error e => .error e
              | .ok (x, i2, n2) => clausesP dok val f (out ++ [x]) ops' (clauseKind (ba u.s)) i2 n2
/-- A handle's clauses; another kind has none. -/
def moreKids (cl : Nat → Nat → PRes (List Nd)) (k : Nat) (ks : List Nd) (i n : Nat) : PRes (List Nd) :=
  if k = 13 then
    match cl i n with
    | .error e => .error e
    | .ok (cs, i', n') => .ok (ks ++ cs, i', n')
  else .ok (ks, i, n)
def bracketP (val : Nat → Nat → PRes Nd) (cl : Nat → Nat → PRes (List Nd)) (i n : Nat) : PRes Nd :=
  match L[i]? with
  | none => .error (fin, 11)
  | some t =>
    if t.kind ≠ 3 ∨ ((kindsP (ba t.s)).1 = 11 ∧ (kindsP (ba t.s)).2 < 0) then .error (t.at_, 12)
    else
      match headP L fin (kindsP (ba t.s)).1 (ba t.s) (i + 1) with
      | .error e => .error e
      | .ok (tx, ns, i1) =>
        match partsP L fin val (kindsP (ba t.s)).2 4002 [] i1 n with
        | .error e => .error e
        | .ok (ks, i2, n2) =>
          match moreKids cl (kindsP (ba t.s)).1 ks i2 n2 with
          | .error e => .error e
          | .ok (ks', i3, n3) => closeP L fin (kindsP (ba t.s)).1 tx ns ks' i3 n3
def valueP (br : Nat → Nat → PRes Nd) (dok : Bool) (i n : Nat) : PRes Nd :=
  match L[i]? with
  | none => .error (fin, 11)
  | some t =>
    if t.kind = 2 then .error (t.at_, 12)
    else if 4000 < n + 1 ∨ dok = false then .error (t.at_, 13)
    else if t.kind = 1 then br (i + 1) (n + 1)
    else .ok (leafP t, i + 1, n + 1)
/-- A value, where nodes may still stand so deep in each other. -/
def valueD : Nat → Nat → Nat → PRes Nd
  | 0 => valueP L fin (fun _ _ => .error (0, 0)) false
  | 1 => valueP L fin (bracketP L fin (valueD 0) (clausesP L fin false (fun _ _ => .error (0, 0)) 4002 [] [] 16)) true
  | d + 2 => valueP L fin (bracketP L fin (valueD (d + 1)) (clausesP L fin true (valueD d) 4002 [] [] 16)) true
end
/-- A source's node, and 0, 0; or a place and an error. -/
def parseP (s : List UInt8) : Except (Nat × Nat) Nd :=
  match Lx.tokens s with
  | .error e => .error e
  | .ok L =>
    match valueD L s.length 60 0 0 with
    | .error e => .error e
    | .ok (x, i, _) =>
      match L[i]? with
      | none => .ok x
      | some t => .error (t.at_, 12)
end Go.Proofs.YtaklmocjaokkpaaGreatDoor.Tr
namespace Go.Proofs.YtaklmocjaokkpaaGreatDoor.Tr
set_option linter.unusedVariables false
set_option linter.unusedSimpArgs false

abbrev TK := Nat × List UInt8 × Int
def tk (t : Lx.Tok) : TK := (t.kind, t.s, t.n)
def tw (s : ByteArray) : TK := (3, bl s, 0)
def tO : TK := (1, [], 0)
def tC : TK := (2, [], 0)
/-- The word that a kind's text begins with. -/
def wordOf (k : Nat) : ByteArray :=
  if k = 6 then wFun else if k = 7 then wCall else if k = 8 then wLet else if k = 9 then wIf else if k = 10 then wDo else if k = 12 then wPerform else if k = 13 then wHandle else if k = 14 then wResume
  else if k = 15 then wDrop else if k = 16 then wWind else if k = 17 then wReturn else if k = 18 then wOn else if k = 19 then wFinally else ⟨#[]⟩
def headT (k : Nat) (t : ByteArray) (ns : List ByteArray) : List TK :=
  if k = 11 then [tw t]
  else tw (wordOf k) :: (if k = 6 then tw t :: tO :: (ns.map tw ++ [tC]) else if k = 8 ∨ k = 12 then [tw t] else if k = 18 then tw t :: ns.map tw else if k = 17 then ns.map tw else [])
mutual
def toksN : Nd → List TK
  | .mk k n t ns ks =>
    if k = 1 then [(4, [], n)] else if k = 2 then [tw (if n = 1 then sTrue else sFalse)] else if k = 3 then [(5, bl t, 0)] else if k = 4 then [tw sUnit] else if k = 5 then [tw t]
    else tO :: (headT k t ns ++ (toksL ks ++ [tC]))
def toksL : List Nd → List TK
  | [] => []
  | x :: l => toksN x ++ toksL l
end
theorem toksN_is (x : Nd) : toksN x = if x.kind = 1 then [(4, [], x.n)] else if x.kind = 2 then [tw (if x.n = 1 then sTrue else sFalse)] else if x.kind = 3 then [(5, bl x.text, 0)] else if x.kind = 4 then [tw sUnit] else if x.kind = 5 then [tw x.text]
    else tO :: (headT x.kind x.text x.names ++ (toksL x.kids ++ [tC])) := by
  cases x; rw [toksN]; rfl
/-- These tokens stand at a place. -/
def Has (L : List Lx.Tok) (i : Nat) (T : List TK) : Prop := ∀ j x, T[j]? = some x → ∃ t, L[i + j]? = some t ∧ tk t = x
theorem Has.left {L : List Lx.Tok} {i : Nat} {A B : List TK} (h : Has L i (A ++ B)) : Has L i A := fun j x hx =>
  h j x (by rw [List.getElem?_append_left (List.getElem?_eq_some_iff.1 hx).1]; exact hx)
theorem Has.right {L : List Lx.Tok} {i : Nat} {A B : List TK} (h : Has L i (A ++ B)) : Has L (i + A.length) B := fun j x hx => by
  have := h (A.length + j) x (by rw [List.getElem?_append_right (by omega)]; simpa using hx)
  rwa [← Nat.add_assoc] at this
theorem Has.head {L : List Lx.Tok} {i : Nat} {x : TK} {T : List TK} (h : Has L i (x :: T)) : ∃ t, L[i]? = some t ∧ tk t = x := h 0 x rfl
theorem Has.tail {L : List Lx.Tok} {i : Nat} {x : TK} {T : List TK} (h : Has L i (x :: T)) : Has L (i + 1) T := fun j y hy => by
  have := h (j + 1) y (by simpa using hy)
  rwa [show i + (j + 1) = i + 1 + j by omega] at this
theorem Has.len {L : List Lx.Tok} {i : Nat} {T : List TK} (h : Has L i T) (hT : T ≠ []) : i + T.length ≤ L.length := by
  have hl : 0 < T.length := List.length_pos_iff.2 hT
  obtain ⟨t, ht, _⟩ := h (T.length - 1) _ (List.getElem?_eq_getElem (by omega))
  have := (List.getElem?_eq_some_iff.1 ht).1
  omega
theorem Has.word {L : List Lx.Tok} {i : Nat} {s : ByteArray} {T : List TK} (h : Has L i (tw s :: T)) : ∃ t, L[i]? = some t ∧ t.kind = 3 ∧ ba t.s = s := by
  obtain ⟨t, h1, h2⟩ := h.head
  unfold tk tw at h2
  simp only [Prod.mk.injEq] at h2
  exact ⟨t, h1, h2.1, by rw [h2.2.1, ba_bl]⟩
theorem Has.opens {L : List Lx.Tok} {i : Nat} {T : List TK} (h : Has L i (tO :: T)) : ∃ t, L[i]? = some t ∧ t.kind = 1 := by
  obtain ⟨t, h1, h2⟩ := h.head
  unfold tk tO at h2
  simp only [Prod.mk.injEq] at h2
  exact ⟨t, h1, h2.1⟩
theorem Has.closes {L : List Lx.Tok} {i : Nat} {T : List TK} (h : Has L i (tC :: T)) : ∃ t, L[i]? = some t ∧ t.kind = 2 := by
  obtain ⟨t, h1, h2⟩ := h.head
  unfold tk tC at h2
  simp only [Prod.mk.injEq] at h2
  exact ⟨t, h1, h2.1⟩
section
variable {L : List Lx.Tok} {fin : Nat}
theorem nameB_not {s : ByteArray} (h : nameB s = true) : s ≠ sTrue ∧ s ≠ sFalse ∧ s ≠ sUnit := by
  unfold nameB at h
  simp only [Bool.and_eq_true, Bool.not_eq_true', decide_eq_false_iff_not] at h
  exact ⟨h.1.1.2, h.1.2, h.2⟩
theorem name_of {no : List ByteArray} {s : ByteArray} {i : Nat} {T : List TK} (h : Has L i (tw s :: T)) (hs : nameB s = true) (hn : memB s no = false) : nameP L fin no i = .ok s := by
  obtain ⟨t, h1, h2, h3⟩ := h.word
  obtain ⟨e1, e2, e3⟩ := nameB_not hs
  unfold nameP
  rw [h1]
  simp only []
  rw [h3, if_pos ⟨h2, e1, e2, e3, hn⟩]
theorem take_of {i : Nat} {T : List TK} (h : Has L i (tC :: T)) : takeP L fin 2 i = .ok () := by
  obtain ⟨t, h1, h2⟩ := h.closes
  unfold takeP
  rw [h1]
  simp only []
  rw [if_pos h2]
theorem take_open {i : Nat} {T : List TK} (h : Has L i (tO :: T)) : takeP L fin 1 i = .ok () := by
  obtain ⟨t, h1, h2⟩ := h.opens
  unfold takeP
  rw [h1]
  simp only []
  rw [if_pos h2]
theorem unl_head {seen : List ByteArray} {s : ByteArray} {l : List ByteArray} (h : unl seen (s :: l) = true) : nameB s = true ∧ memB s seen = false ∧ unl (seen ++ [s]) l = true := by
  unfold unl at h
  simp only [Bool.and_eq_true, Bool.not_eq_true'] at h
  exact ⟨h.1.1, h.1.2, h.2⟩
theorem names_of : ∀ (rest seen : List ByteArray) (k i : Nat) (T : List TK), unl seen rest = true → Has L i (rest.map tw ++ (tC :: T)) → rest.length < k → namesP L fin k seen i = .ok (seen ++ rest, i + rest.length + 1) := by
  intro rest
  induction rest with
  | nil =>
    intro seen k i T hu h hk
    obtain ⟨k, rfl⟩ : ∃ q, k = q + 1 := ⟨k - 1, by simp at hk; omega⟩
    obtain ⟨t, h1, h2⟩ := h.closes
    unfold namesP
    rw [h1]
    simp only []
    rw [if_pos h2, List.append_nil]
    rfl
  | cons s rest ih =>
    intro seen k i T hu h hk
    obtain ⟨k, rfl⟩ : ∃ q, k = q + 1 := ⟨k - 1, by simp at hk; omega⟩
    obtain ⟨u1, u2, u3⟩ := unl_head hu
    have h' : Has L i (tw s :: (rest.map tw ++ (tC :: T))) := h
    obtain ⟨t, h1, h2, h3⟩ := h'.word
    unfold namesP
    rw [h1]
    simp only []
    rw [if_neg (by rw [h2]; decide), name_of h' u1 u2]
    simp only []
    rw [ih (seen ++ [s]) k (i + 1) T u3 h'.tail (by simp at hk; omega)]
    simp only [List.append_assoc, List.singleton_append, List.length_cons]
    congr 2
    omega
theorem some_of : ∀ (rest seen : List ByteArray) (i : Nat), unl seen rest = true → Has L i (rest.map tw) → someP L fin rest.length seen i = .ok (seen ++ rest, i + rest.length) := by
  intro rest
  induction rest with
  | nil => intro seen i hu h; simp [someP]
  | cons s rest ih =>
    intro seen i hu h
    obtain ⟨u1, u2, u3⟩ := unl_head hu
    have h' : Has L i (tw s :: rest.map tw) := h
    rw [List.length_cons]
    unfold someP
    rw [name_of h' u1 u2]
    simp only []
    rw [ih (seen ++ [s]) (i + 1) u3 h'.tail]
    simp only [List.append_assoc, List.singleton_append]
    congr 2
    omega
theorem toksN_head (x : Nd) : ∃ t r, toksN x = t :: r ∧ t.1 ≠ 2 := by
  rw [toksN_is]
  split
  · exact ⟨_, _, rfl, by simp⟩
  split
  · exact ⟨_, _, rfl, by unfold tw; simp⟩
  split
  · exact ⟨_, _, rfl, by simp⟩
  split
  · exact ⟨_, _, rfl, by unfold tw; simp⟩
  split
  · exact ⟨_, _, rfl, by unfold tw; simp⟩
  · exact ⟨_, _, rfl, by decide⟩
/-- A node's tokens are read as the node, whatever stands behind. -/
def Reads (L : List Lx.Tok) (val : Nat → Nat → PRes Nd) (y : Nd) : Prop := ∀ i n, Has L i (toksN y) → n + sizeN y ≤ 4000 → val i n = .ok (y, i + (toksN y).length, n + sizeN y)
theorem parts_of {val : Nat → Nat → PRes Nd} {many : Int} : ∀ (rest acc : List Nd) (k i n : Nat), (∀ y ∈ rest, Reads L val y) → Has L i (toksL rest) →
    (((acc.length : Int) + rest.length = many) ∨ (many < 0 ∧ (acc ≠ [] ∨ rest ≠ []) ∧ ∃ t, L[i + (toksL rest).length]? = some t ∧ t.kind = 2)) → rest.length < k → n + sizesN rest ≤ 4000 →
    partsP L fin val many k acc i n = .ok (acc ++ rest, i + (toksL rest).length, n + sizesN rest) := by
  intro rest
  induction rest with
  | nil =>
    intro acc k i n hv h hm hk hn
    obtain ⟨k, rfl⟩ : ∃ q, k = q + 1 := ⟨k - 1, by simp at hk; omega⟩
    have : moreP L fin many acc.length i = .ok false := by
      unfold moreP
      rcases hm with e | ⟨h1, h2, t, h3, h4⟩
      · simp only [List.length_nil] at e
        rw [if_neg (by omega), if_neg (by omega)]
      · have ha : acc ≠ [] := by simpa using h2
        have ha2 : ¬ acc.length = 0 := by rw [List.length_eq_zero_iff]; exact ha
        have h3' : L[i]? = some t := by simpa [toksL] using h3
        rw [if_neg (by omega), if_pos h1, if_neg ha2, h3']
        simp only []
        rw [h4]
        rfl
    unfold partsP
    rw [this]
    simp [toksL, sizesN]
  | cons y rest ih =>
    intro acc k i n hv h hm hk hn
    obtain ⟨k, rfl⟩ : ∃ q, k = q + 1 := ⟨k - 1, by simp at hk; omega⟩
    rw [toksL] at h hm ⊢
    rw [sizesN] at hn ⊢
    have hmore : moreP L fin many acc.length i = .ok true := by
      unfold moreP
      rcases hm with e | ⟨h1, h2, t, h3, h4⟩
      · simp only [List.length_cons] at e
        rw [if_pos (by omega)]
      · rw [if_neg (by omega), if_pos h1]
        split
        · rfl
        · obtain ⟨a, r, ha, hk2⟩ := toksN_head y
          have hl := h.left
          rw [ha] at hl
          obtain ⟨u, hu1, hu2⟩ := hl.head
          rw [hu1]
          simp only []
          have : u.kind ≠ 2 := by rw [← hu2] at hk2; exact hk2
          rw [decide_eq_true this]
    unfold partsP
    rw [hmore]
    simp only []
    rw [hv y List.mem_cons_self i n h.left (by omega)]
    simp only []
    rw [ih (acc ++ [y]) k (i + (toksN y).length) (n + sizeN y) (fun z hz => hv z (List.mem_cons_of_mem _ hz)) h.right ?_ (by simp at hk; omega) (by omega)]
    · simp only [List.append_assoc, List.singleton_append, List.length_append]
      congr 3 <;> omega
    · rcases hm with e | ⟨h1, h2, t, h3, h4⟩
      · left
        simp only [List.length_append, List.length_cons, List.length_nil] at e ⊢
        omega
      · refine .inr ⟨h1, .inl (by simp), t, ?_, h4⟩
        rw [List.length_append] at h3
        rw [Nat.add_assoc]
        exact h3
end
/-- What 'right' says of a node, its parts apart. -/
theorem head_parts {deep k : Nat} {n : Int} {t : ByteArray} {ns : List ByteArray} {ks : List Nd} (h : headB deep k n t ns ks = true) : ∃ many least most, shapeOf k = some (many, least, most) ∧ deep ≤ 60 ∧ textB k n t ks.length = true ∧ least ≤ ks.length ∧ ks.length ≤ most ∧ (k = 1 ∨ k = 2 ∨ n = 0) ∧
    (∀ m, many = some m → ns.length = m) ∧ unlike ns = true ∧ (k ≠ 13 → ∀ y ∈ ks, y.kind < 17) ∧ (k = 13 → clausesB (ks.drop 1) = true ∧ ∀ y ∈ ks.take 1, y.kind < 17) := by
  unfold headB at h
  cases hs : shapeOf k with
  | none => rw [hs] at h; cases h
  | some q =>
    obtain ⟨many, least, most⟩ := q
    rw [hs] at h
    simp only [Bool.and_eq_true, decide_eq_true_eq, Bool.or_eq_true] at h
    obtain ⟨⟨⟨⟨⟨⟨⟨h1, h2⟩, h3⟩, h4⟩, h5⟩, h6⟩, h7⟩, h8⟩ := h
    refine ⟨many, least, most, rfl, h1, h2, h3, h4, by omega, fun m hm => ?_, h7, fun hk => ?_, fun hk => ?_⟩
    · subst hm
      simpa using h6
    · rw [if_neg hk] at h8
      intro y hy
      exact of_decide_eq_true (List.all_eq_true.1 h8 y hy)
    · rw [if_pos hk, Bool.and_eq_true] at h8
      exact ⟨h8.1, fun y hy => of_decide_eq_true (List.all_eq_true.1 h8.2 y hy)⟩
theorem shape_range {k : Nat} {q : Option Nat × Nat × Nat} (h : shapeOf k = some q) : 1 ≤ k ∧ k ≤ 19 := by
  constructor
  · rcases Nat.eq_zero_or_pos k with rfl | h1
    · cases h
    · exact h1
  · rcases Nat.lt_or_ge k 20 with h1 | h1
    · omega
    · obtain ⟨j, rfl⟩ : ∃ j, k = j + 20 := ⟨k - 20, by omega⟩
      simp [shapeOf] at h
/-- How many parts a kind takes, as the parser has it. -/
def manyOf (k : Nat) (t : ByteArray) : Int := if k = 11 then takes t else if k = 7 ∨ k = 10 then -1 else if k = 8 ∨ k = 14 ∨ k = 15 then 2 else if k = 9 ∨ k = 16 then 3 else 1
theorem kinds_word : ∀ k ∈ [6, 7, 8, 9, 10, 12, 13, 14, 15, 16], kindsP (wordOf k) = (k, manyOf k ⟨#[]⟩) := by decide +kernel
theorem kinds_prim {t : ByteArray} (h : 0 ≤ takes t) : kindsP t = (11, takes t) := by
  have hn : ∀ w : ByteArray, takes w < 0 → ¬ t = w := fun w hw e => by rw [e] at h; omega
  unfold kindsP
  rw [if_neg (hn _ (by decide +kernel)), if_neg (hn _ (by decide +kernel)), if_neg (hn _ (by decide +kernel)), if_neg (hn _ (by decide +kernel)), if_neg (hn _ (by decide +kernel)), if_neg (hn _ (by decide +kernel)), if_neg (hn _ (by decide +kernel)), if_neg (hn _ (by decide +kernel)), if_neg (hn _ (by decide +kernel)), if_neg (hn _ (by decide +kernel))]
/-- The first word of a bracket's head. -/
def firstW (k : Nat) (t : ByteArray) : ByteArray := if k = 11 then t else wordOf k
theorem headT_is (k : Nat) (t : ByteArray) (ns : List ByteArray) : headT k t ns = tw (firstW k t) :: (if k = 6 then tw t :: tO :: (ns.map tw ++ [tC]) else if k = 8 ∨ k = 12 then [tw t] else if k = 18 then tw t :: ns.map tw else if k = 17 then ns.map tw else []) := by
  unfold headT firstW
  by_cases e : k = 11
  · subst e; rfl
  · rw [if_neg e, if_neg e]
theorem kinds_of {deep k : Nat} {n : Int} {t : ByteArray} {ns : List ByteArray} {ks : List Nd} (h : headB deep k n t ns ks = true) (h5 : 5 < k) (h17 : k < 17) : kindsP (firstW k t) = (k, manyOf k t) ∧ (k = 11 → 0 ≤ manyOf k t) := by
  obtain ⟨many, least, most, hs, _, htx, _⟩ := head_parts h
  unfold firstW
  by_cases e : k = 11
  · subst e
    have : takes t = (ks.length : Int) := by simpa [textB] using htx
    rw [if_pos rfl, kinds_prim (by omega)]
    exact ⟨rfl, fun _ => by show 0 ≤ takes t; omega⟩
  · rw [if_neg e]
    refine ⟨?_, fun h => absurd h e⟩
    have := kinds_word k (by simp; omega)
    rw [this]
    unfold manyOf
    rw [if_neg e, if_neg e]
theorem many_is {deep k : Nat} {n : Int} {t : ByteArray} {ns : List ByteArray} {ks : List Nd} (h : headB deep k n t ns ks = true) (h5 : 5 < k) (h17 : k < 17) (h13 : k ≠ 13) : (ks.length : Int) = manyOf k t ∨ (manyOf k t < 0 ∧ ks ≠ []) := by
  obtain ⟨many, least, most, hs, _, htx, h1, h2, _⟩ := head_parts h
  have hne : 0 < least → ks ≠ [] := fun hl => by
    intro e
    rw [e] at h1
    simp at h1
    omega
  have hk : k = 6 ∨ k = 7 ∨ k = 8 ∨ k = 9 ∨ k = 10 ∨ k = 11 ∨ k = 12 ∨ k = 14 ∨ k = 15 ∨ k = 16 := by omega
  rcases hk with rfl | rfl | rfl | rfl | rfl | rfl | rfl | rfl | rfl | rfl
  case inr.inr.inr.inr.inr.inl =>
    left
    have : takes t = (ks.length : Int) := by simpa [textB] using htx
    show _ = takes t
    omega
  all_goals
    simp only [shapeOf, Option.some.injEq, Prod.mk.injEq] at hs
    obtain ⟨_, rfl, rfl⟩ := hs
    first
      | (left; simp [manyOf]; omega)
      | (right; exact ⟨by simp [manyOf], hne (by decide)⟩)
theorem head_of {L : List Lx.Tok} {fin deep k : Nat} {n : Int} {t : ByteArray} {ns : List ByteArray} {ks : List Nd} {i : Nat} {T : List TK} (h : headB deep k n t ns ks = true) (h5 : 5 < k) (h17 : k < 17) (hh : Has L i (headT k t ns ++ T)) : headP L fin k (firstW k t) (i + 1) = .ok (t, ns, i + (headT k t ns).length) := by
  obtain ⟨many, least, most, hs, _, htx, h1, h2, h3, hnm, hun, _⟩ := head_parts h
  rw [headT_is] at hh ⊢
  have hno : many = some 0 → ns = [] := fun e => List.eq_nil_of_length_eq_zero (hnm 0 e)
  have hk : k = 6 ∨ k = 11 ∨ (k = 8 ∨ k = 12) ∨ (k = 7 ∨ k = 9 ∨ k = 10 ∨ k = 13 ∨ k = 14 ∨ k = 15 ∨ k = 16) := by omega
  rcases hk with rfl | rfl | hk | hk
  · have hnt : nameB t = true := by simpa [textB] using htx
    have hh' : Has L i (tw (firstW 6 t) :: (tw t :: tO :: (ns.map tw ++ (tC :: T)))) := by simpa using hh
    have hb := hh'.tail
    have hc := hb.tail
    have hd := hc.tail
    have hl := hd.len (by simp)
    unfold headP
    rw [if_neg (by decide), if_neg (by decide), if_pos rfl, name_of hb hnt rfl]
    simp only []
    rw [take_open hc]
    simp only []
    rw [names_of ns [] (L.length + 1) (i + 1 + 2) T hun (by simpa [Nat.add_assoc] using hd) (by simp at hl; omega)]
    simp
    omega
  · have : ns = [] := by simp only [shapeOf, Option.some.injEq, Prod.mk.injEq] at hs; exact hno hs.1.symm
    subst this
    unfold headP
    rw [if_pos rfl]
    simp [firstW]
  · have : ns = [] := by rcases hk with rfl | rfl <;> (simp only [shapeOf, Option.some.injEq, Prod.mk.injEq] at hs; exact hno hs.1.symm)
    subst this
    have hnt : nameB t = true := by rcases hk with rfl | rfl <;> simpa [textB] using htx
    have h6 : ¬ k = 6 := by omega
    have h11 : ¬ k = 11 := by omega
    rw [if_neg h6, if_pos hk] at hh ⊢
    have hh' : Has L i (tw (firstW k t) :: (tw t :: T)) := by simpa using hh
    unfold headP
    rw [if_neg h11, if_pos hk, name_of hh'.tail hnt rfl]
    simp
  · have : ns = [] := by rcases hk with rfl | rfl | rfl | rfl | rfl | rfl | rfl <;> (simp only [shapeOf, Option.some.injEq, Prod.mk.injEq] at hs; exact hno hs.1.symm)
    subst this
    have hte : t = ⟨#[]⟩ := by rcases hk with rfl | rfl | rfl | rfl | rfl | rfl | rfl <;> simpa [textB] using htx
    subst hte
    have h6 : ¬ k = 6 := by omega
    have h8 : ¬ (k = 8 ∨ k = 12) := by omega
    have h11 : ¬ k = 11 := by omega
    have h18 : ¬ k = 18 := by omega
    have h17' : ¬ k = 17 := by omega
    unfold headP
    rw [if_neg h11, if_neg h8, if_neg h6, if_neg h6, if_neg h8, if_neg h18, if_neg h17']
    simp
theorem opsOf_cons (x : Nd) (l : List Nd) : opsOf (x :: l) = (if x.kind = 18 then x.text :: opsOf l else opsOf l) := by
  unfold opsOf
  by_cases e : x.kind = 18
  · rw [if_pos e, List.filter_cons_of_pos (by rw [e]; rfl), List.map_cons]
  · rw [if_neg e, List.filter_cons_of_neg (by simpa using e)]
theorem clause_word : ∀ k ∈ [17, 18, 19], clauseKind (wordOf k) = k := by decide +kernel
/-- A handle's clauses are read as they are. -/
theorem clauses_of {L : List Lx.Tok} {fin : Nat} {val : Nat → Nat → PRes Nd} {deep : Nat} : ∀ (rest out : List Nd) (ops : List ByteArray) (last f i n : Nat), orderB last rest = true → unl ops (opsOf rest) = true →
    (∀ c ∈ rest, headB deep c.kind c.n c.text c.names c.kids = true ∧ ∀ y ∈ c.kids, Reads L val y) → Has L i (toksL rest ++ [tC]) → rest.length < f → n + sizesN rest ≤ 4000 →
    clausesP L fin true val f out ops last i n = .ok (out ++ rest, i + (toksL rest).length, n + sizesN rest) := by
  intro rest
  induction rest with
  | nil =>
    intro out ops last f i n ho hu hr hh hf hn
    obtain ⟨f, rfl⟩ : ∃ q, f = q + 1 := ⟨f - 1, by simp at hf; omega⟩
    rw [toksL, List.nil_append] at hh
    obtain ⟨t, h1, h2⟩ := hh.closes
    unfold clausesP
    rw [h1]
    simp only []
    rw [if_pos h2]
    simp [toksL, sizesN]
  | cons c rest ih =>
    intro out ops last f i n ho hu hr hh hf hn
    obtain ⟨f, rfl⟩ : ∃ q, f = q + 1 := ⟨f - 1, by simp at hf; omega⟩
    obtain ⟨hb, hv⟩ := hr c List.mem_cons_self
    obtain ⟨many, least, most, hs, _, htx, hl1, hl2, hn0, hnm, hun, _⟩ := head_parts hb
    unfold orderB at ho
    simp only [Bool.and_eq_true, decide_eq_true_eq, Bool.or_eq_true, Bool.not_eq_true', decide_eq_false_iff_not] at ho
    obtain ⟨⟨⟨o1, o2⟩, o3⟩, o4⟩ := ho
    have hr19 := (shape_range hs).2
    rw [toksL] at hh ⊢
    rw [sizesN] at hn ⊢
    rw [opsOf_cons] at hu
    obtain ⟨k, nn, tx, ns, ks⟩ := c
    simp only [Nd.kind, Nd.n, Nd.text, Nd.names, Nd.kids] at hb hv hs htx hl1 hl2 hn0 hnm hun o1 o2 o3 o4 hr19 hu
    replace hu : unl ops (if k = 18 then tx :: opsOf rest else opsOf rest) = true := hu
    have hnz : nn = 0 := by omega
    subst hnz
    have htk : toksN (.mk k 0 tx ns ks) = tO :: (headT k tx ns ++ (toksL ks ++ [tC])) := by
      rw [toksN, if_neg (by omega), if_neg (by omega), if_neg (by omega), if_neg (by omega), if_neg (by omega)]
    have hsz : sizeN (.mk k 0 tx ns ks) = 1 + sizesN ks := by rw [sizeN]
    have hkl : ks.length = 1 := by
      have hk : k = 17 ∨ k = 18 ∨ k = 19 := by omega
      rcases hk with rfl | rfl | rfl <;> (simp only [shapeOf, Option.some.injEq, Prod.mk.injEq] at hs; omega)
    have hnl : ns.length = clauseNames k := by
      have hk : k = 17 ∨ k = 18 ∨ k = 19 := by omega
      rcases hk with rfl | rfl | rfl <;> (simp only [shapeOf, Option.some.injEq, Prod.mk.injEq] at hs; exact hnm _ hs.1.symm)
    rw [hsz] at hn ⊢
    rw [htk] at hh
    rw [headT_is, if_neg (show ¬ k = 6 by omega), if_neg (show ¬ (k = 8 ∨ k = 12) by omega)] at hh htk
    have hfw : firstW k tx = wordOf k := by unfold firstW; rw [if_neg (by omega)]
    rw [hfw] at hh htk
    have hh1 : Has L i (tO :: tw (wordOf k) :: ((if k = 18 then tw tx :: ns.map tw else if k = 17 then ns.map tw else []) ++ (toksL ks ++ (tC :: (toksL rest ++ [tC]))))) := by simpa using hh
    obtain ⟨t, t1, t2⟩ := hh1.opens
    obtain ⟨u, u1, u2, u3⟩ := hh1.tail.word
    have hck : clauseKind (ba u.s) = k := by rw [u3]; exact clause_word k (by simp; omega)
    have hbody := hh1.tail.tail
    have hop : ∃ i1, opP L fin k ops (i + 2) = .ok (tx, (if k = 18 then ops ++ [tx] else ops), i1) ∧ Has L i1 (ns.map tw ++ (toksL ks ++ (tC :: (toksL rest ++ [tC])))) ∧ i1 + (ns.length + ((toksL ks).length + 1)) = i + (toksN (.mk k 0 tx ns ks)).length := by
      rw [htk]
      by_cases h18 : k = 18
      · subst h18
        simp only [if_pos] at hbody hu ⊢
        obtain ⟨v1, v2, v3⟩ := unl_head hu
        refine ⟨i + 3, ?_, by simpa using hbody.tail, by simp; omega⟩
        unfold opP
        rw [if_pos rfl, name_of (by simpa using hbody) v1 v2]
      · simp only [if_neg h18] at hbody ⊢
        have hte : tx = ⟨#[]⟩ := by
          have hk : k = 17 ∨ k = 19 := by omega
          rcases hk with rfl | rfl <;> simpa [textB] using htx
        refine ⟨i + 2, ?_, ?_, ?_⟩
        · unfold opP
          rw [if_neg h18, hte]
        · by_cases h17 : k = 17
          · rw [if_pos h17] at hbody
            exact hbody
          · rw [if_neg h17] at hbody
            have : ns = [] := List.eq_nil_of_length_eq_zero (by rw [hnl]; unfold clauseNames; rw [if_neg h17, if_neg h18])
            rw [this]
            exact hbody
        · by_cases h17 : k = 17
          · simp only [if_pos h17]
            simp
            omega
          · have : ns = [] := List.eq_nil_of_length_eq_zero (by rw [hnl]; unfold clauseNames; rw [if_neg h17, if_neg h18])
            simp only [if_neg h17, this]
            simp
            omega
    obtain ⟨i1, hop1, hop2, hop3⟩ := hop
    have hsome := some_of (fin := fin) ns [] i1 hun hop2.left
    have hp2 := hop2.right
    rw [List.length_map] at hp2
    have hparts := parts_of (fin := fin) (many := 1) ks [] 4002 (i1 + ns.length) (n + 1) hv hp2.left (.inl (by simp [hkl])) (by omega) (by omega)
    have hp3 := hp2.right
    have hbd : bodyP L fin val k tx i1 (n + 1) = .ok (.mk k 0 tx ns ks, i + (toksN (.mk k 0 tx ns ks)).length, n + (1 + sizesN ks)) := by
      unfold bodyP
      rw [← hnl, hsome]
      simp only [List.nil_append]
      rw [hparts]
      simp only [List.nil_append]
      unfold closeP
      rw [take_of hp3]
      simp only []
      congr 3 <;> omega
    unfold clausesP
    rw [t1]
    simp only []
    rw [if_neg (by rw [t2]; decide), if_neg (by rw [t2]; decide), if_neg (by simp; omega), u1]
    simp only []
    rw [hck, if_neg (by
      rintro (e | e | e | ⟨e, e2⟩)
      · exact e u2
      · omega
      · omega
      · rcases o2 with o2 | o2
        · exact o2 e
        · exact e2 o2), hop1]
    simp only []
    rw [hbd]
    simp only []
    rw [ih (out ++ [Nd.mk k 0 tx ns ks]) (if k = 18 then ops ++ [tx] else ops) k f (i + (toksN (Nd.mk k 0 tx ns ks)).length) (n + (1 + sizesN ks)) o4 ?_ (fun y hy => hr y (List.mem_cons_of_mem _ hy)) ?_ (by simp at hf; omega) (by omega)]
    · simp only [List.append_assoc, List.singleton_append, List.length_append]
      congr 3 <;> omega
    · by_cases h18 : k = 18
      · rw [if_pos h18] at hu ⊢
        exact (unl_head hu).2.2
      · rw [if_neg h18] at hu ⊢
        exact hu
    · have := hp3.tail
      rw [show i1 + ns.length + (toksL ks).length + 1 = i + (toksN (.mk k 0 tx ns ks)).length by omega] at this
      exact this
/-- The clauses of a handle, where nodes may still stand so deep in it. -/
def clD (L : List Lx.Tok) (fin : Nat) : Nat → Nat → Nat → PRes (List Nd)
  | 0 => clausesP L fin false (fun _ _ => .error (0, 0)) 4002 [] [] 16
  | d + 1 => clausesP L fin true (valueD L fin d) 4002 [] [] 16
theorem valueD_succ (L : List Lx.Tok) (fin d : Nat) : valueD L fin (d + 1) = valueP L fin (bracketP L fin (valueD L fin d) (clD L fin d)) true := by
  cases d with
  | zero => rw [valueD]; rfl
  | succ d => rw [valueD]; rfl
theorem ne_cons (l : List Nd) (h : l ≠ []) : ∃ b cs, l = b :: cs := by
  cases l with
  | nil => exact absurd rfl h
  | cons b cs => exact ⟨b, cs, rfl⟩
/-- A node's own tokens are read as the node. -/
theorem value_of {L : List Lx.Tok} {fin : Nat} : ∀ (x : Nd) (deep d : Nat), rightB x deep = true → deep + d = 61 → (x.kind < 17 → Reads L (valueD L fin d) x) ∧ ∀ d', d = d' + 1 → ∀ y ∈ x.kids, y.kind < 17 → Reads L (valueD L fin d') y := by
  intro x
  induction x using Nd.ind with
  | h x ih =>
    intro deep d hr hd
    have hkids := fun y hy => right_kid hr y hy
    rw [rightB_is, Bool.and_eq_true] at hr
    have hb := hr.1
    obtain ⟨many, least, most, hs, hdp, htx, hl1, hl2, hn0, hnm, hun, hks, hcl⟩ := head_parts hb
    obtain ⟨d1, rfl⟩ : ∃ q, d = q + 1 := ⟨d - 1, by omega⟩
    have hsub : ∀ y ∈ x.kids, y.kind < 17 → Reads L (valueD L fin d1) y := fun y hy hk => (ih y hy (deep + 1) d1 (hkids y hy) (by omega)).1 hk
    refine ⟨fun h17 => ?_, fun d' e y hy hk => by
      obtain rfl : d1 = d' := by omega
      exact hsub y hy hk⟩
    intro i n hh hn
    have hrg := shape_range hs
    rw [valueD_succ]
    have hsz1 : 1 ≤ sizeN x := by rw [sizeN_is]; omega
    obtain ⟨k, nn, tx, ns, ks⟩ := x
    simp only [Nd.kind, Nd.n, Nd.text, Nd.names, Nd.kids] at hb hs htx hl1 hl2 hn0 hnm hun hks hcl hsub h17 hrg ih hkids
    by_cases h5 : k ≤ 5
    · have hns : ns = [] := by
        have hk : k = 1 ∨ k = 2 ∨ k = 3 ∨ k = 4 ∨ k = 5 := by omega
        rcases hk with rfl | rfl | rfl | rfl | rfl <;> (simp only [shapeOf, Option.some.injEq, Prod.mk.injEq] at hs; exact List.eq_nil_of_length_eq_zero (hnm 0 hs.1.symm))
      have hkse : ks = [] := by
        have hk : k = 1 ∨ k = 2 ∨ k = 3 ∨ k = 4 ∨ k = 5 := by omega
        rcases hk with rfl | rfl | rfl | rfl | rfl <;> (simp only [shapeOf, Option.some.injEq, Prod.mk.injEq] at hs; exact List.eq_nil_of_length_eq_zero (by omega))
      subst hns hkse
      have hs1 : sizeN (.mk k nn tx [] []) = 1 := by rw [sizeN, sizesN]
      have hlen : (toksN (.mk k nn tx [] [])).length = 1 := by
        rw [toksN]
        have hk : k = 1 ∨ k = 2 ∨ k = 3 ∨ k = 4 ∨ k = 5 := by omega
        rcases hk with rfl | rfl | rfl | rfl | rfl <;> rfl
      have hleaf : ∃ t, L[i]? = some t ∧ t.kind ≠ 1 ∧ t.kind ≠ 2 ∧ leafP t = .mk k nn tx [] [] := by
        rw [toksN] at hh
        have hk : k = 1 ∨ k = 2 ∨ k = 3 ∨ k = 4 ∨ k = 5 := by omega
        rcases hk with rfl | rfl | rfl | rfl | rfl
        · have hte : tx = ⟨#[]⟩ := by simpa [textB] using htx
          obtain ⟨t, h1, h2⟩ := Has.head (T := []) hh
          unfold tk at h2
          simp only [Prod.mk.injEq] at h2
          refine ⟨t, h1, by rw [h2.1]; decide, by rw [h2.1]; decide, ?_⟩
          unfold leafP
          rw [if_pos h2.1, h2.2.2, hte]
        · have hte : tx = ⟨#[]⟩ ∧ (nn = 0 ∨ nn = 1) := by simpa [textB] using htx
          obtain ⟨t, h1, h2, h3⟩ := Has.word (T := []) hh
          refine ⟨t, h1, by rw [h2]; decide, by rw [h2]; decide, ?_⟩
          unfold leafP
          rw [if_neg (by rw [h2]; decide), if_neg (by rw [h2]; decide), h3, hte.1]
          rcases hte.2 with rfl | rfl
          · rw [show (if (0 : Int) = 1 then sTrue else sFalse) = sFalse from if_neg (by decide), if_neg (by decide +kernel), if_pos rfl]
          · rw [show (if (1 : Int) = 1 then sTrue else sFalse) = sTrue from if_pos rfl, if_pos rfl]
        · have hz : nn = 0 := by omega
          obtain ⟨t, h1, h2⟩ := Has.head (T := []) hh
          unfold tk at h2
          simp only [Prod.mk.injEq] at h2
          refine ⟨t, h1, by rw [h2.1]; decide, by rw [h2.1]; decide, ?_⟩
          unfold leafP
          rw [if_neg (by rw [h2.1]; decide), if_pos h2.1, h2.2.1, ba_bl, hz]
        · have hz : nn = 0 := by omega
          have hte : tx = ⟨#[]⟩ := by simpa [textB] using htx
          obtain ⟨t, h1, h2, h3⟩ := Has.word (T := []) hh
          refine ⟨t, h1, by rw [h2]; decide, by rw [h2]; decide, ?_⟩
          unfold leafP
          rw [if_neg (by rw [h2]; decide), if_neg (by rw [h2]; decide), h3, hte, if_neg (by decide +kernel), if_neg (by decide +kernel), if_pos rfl, hz]
        · have hz : nn = 0 := by omega
          have hte : nameB tx = true := by simpa [textB] using htx
          obtain ⟨e1, e2, e3⟩ := nameB_not hte
          obtain ⟨t, h1, h2, h3⟩ := Has.word (T := []) hh
          refine ⟨t, h1, by rw [h2]; decide, by rw [h2]; decide, ?_⟩
          unfold leafP
          rw [if_neg (by rw [h2]; decide), if_neg (by rw [h2]; decide), h3, if_neg e1, if_neg e2, if_neg e3, hz]
      obtain ⟨t, t1, t2, t3, t4⟩ := hleaf
      unfold valueP
      rw [t1]
      simp only []
      rw [if_neg t3, if_neg (by simp; omega), if_neg t2, t4, hs1, hlen]
    · have hz : nn = 0 := by omega
      subst hz
      have htk : toksN (.mk k 0 tx ns ks) = tO :: (headT k tx ns ++ (toksL ks ++ [tC])) := by
        rw [toksN, if_neg (by omega), if_neg (by omega), if_neg (by omega), if_neg (by omega), if_neg (by omega)]
      have hsz : sizeN (.mk k 0 tx ns ks) = 1 + sizesN ks := by rw [sizeN]
      rw [hsz] at hn ⊢
      rw [htk] at hh ⊢
      obtain ⟨t, t1, t2⟩ := hh.opens
      obtain ⟨kk, hkn⟩ := kinds_of hb (by omega) h17
      have hhd := hh.tail
      have hhw := hhd
      rw [headT_is] at hhw
      obtain ⟨u, u1, u2, u3⟩ := Has.word (T := _) hhw
      have hhead := head_of (fin := fin) hb (by omega) h17 hhd
      have hp := hhd.right
      have hcl2 := hp.right
      obtain ⟨cu, cu1, cu2⟩ := hcl2.closes
      have hlen : ks.length ≤ sizesN ks := by
        have : ∀ l : List Nd, l.length ≤ sizesN l := by
          intro l
          induction l with
          | nil => simp
          | cons y l ih => rw [sizesN, List.length_cons]; have : 1 ≤ sizeN y := by rw [sizeN_is]; omega
                           omega
        exact this ks
      unfold valueP
      rw [t1]
      simp only []
      rw [if_neg (by rw [t2]; decide), if_neg (by simp; omega), if_pos t2]
      unfold bracketP
      rw [u1]
      simp only []
      rw [u3, kk]
      simp only []
      rw [if_neg (by
        rintro (e | ⟨e1, e2⟩)
        · exact e u2
        · have := hkn e1
          omega), hhead]
      simp only []
      by_cases h13 : k = 13
      · subst h13
        obtain ⟨hc1, hc2⟩ := hcl rfl
        simp only [shapeOf, Option.some.injEq, Prod.mk.injEq] at hs
        obtain ⟨b, cs, rfl⟩ := ne_cons ks (fun e => by rw [e] at hl1; simp at hl1; omega)
        unfold clausesB at hc1
        rw [Bool.and_eq_true] at hc1
        have hc3 : orderB 16 cs = true := hc1.1
        have hc4 : unlike (opsOf cs) = true := hc1.2
        rw [sizesN] at hn ⊢
        rw [toksL] at hp hcl2 ⊢
        rw [List.append_assoc] at hp
        have hone := parts_of (fin := fin) (many := 1) [b] [] 4002 (i + 1 + (headT 13 tx ns).length) (n + 1) (fun y hy => by
          obtain rfl : y = b := by simpa using hy
          exact hsub y List.mem_cons_self (hc2 y (by simp))) (by simpa [toksL] using hp.left) (.inl rfl) (by simp) (by simp only [sizesN]; omega)
        rw [show manyOf 13 tx = 1 from rfl, hone]
        simp only [List.nil_append, toksL, sizesN, List.append_nil, Nat.add_zero]
        unfold moreKids
        rw [if_pos rfl]
        have hcs := hp.right
        cases cs with
        | nil =>
          have hcz : clD L fin d1 (i + 1 + (headT 13 tx ns).length + (toksN b).length) (n + 1 + sizeN b) = .ok ([], i + 1 + (headT 13 tx ns).length + (toksN b).length, n + 1 + sizeN b) := by
            rw [toksL, List.nil_append] at hcs
            obtain ⟨q, q1, q2⟩ := hcs.closes
            cases d1 with
            | zero => simp only [clD]; unfold clausesP; rw [q1]; simp only []; rw [if_pos q2]
            | succ d2 => simp only [clD]; unfold clausesP; rw [q1]; simp only []; rw [if_pos q2]
          rw [hcz]
          simp only []
          unfold closeP
          rw [toksL, List.nil_append] at hcs
          rw [take_of hcs]
          simp only [toksL, sizesN, List.append_nil, List.length_append, List.length_cons, List.length_nil]
          congr 3 <;> omega
        | cons c cs =>
          obtain ⟨d2, rfl⟩ : ∃ q, d1 = q + 1 := ⟨d1 - 1, by
            have hrc := hkids c (by simp)
            rw [rightB_is, Bool.and_eq_true] at hrc
            obtain ⟨_, _, _, _, h60, _⟩ := head_parts hrc.1
            omega⟩
          have hcz := clauses_of (fin := fin) (val := valueD L fin d2) (deep := deep + 1) (c :: cs) [] [] 16 4002 (i + 1 + (headT 13 tx ns).length + (toksN b).length) (n + 1 + sizeN b) hc3 hc4 (fun y hy => by
            have hry := hkids y (List.mem_cons_of_mem _ hy)
            have h2 := (ih y (List.mem_cons_of_mem _ hy) (deep + 1) (d2 + 1) hry (by omega)).2 d2 rfl
            rw [rightB_is, Bool.and_eq_true] at hry
            refine ⟨hry.1, fun z hz => h2 z hz ?_⟩
            obtain ⟨_, _, _, hs', _, _, _, _, _, _, _, hk', _⟩ := head_parts hry.1
            have : y.kind ≠ 13 := by
              have : ∀ (l : List Nd) (last : Nat), orderB last l = true → ∀ y ∈ l, 17 ≤ y.kind := by
                intro l
                induction l with
                | nil => intro last _ y hy; cases hy
                | cons a l ih =>
                  intro last ho y hy
                  unfold orderB at ho
                  simp only [Bool.and_eq_true, decide_eq_true_eq] at ho
                  rcases List.mem_cons.1 hy with rfl | hy
                  · exact ho.1.2
                  · exact ih _ ho.2 y hy
              have := this _ _ hc3 y hy
              omega
            exact hk' this z hz) hcs (by simp only [List.length_cons] at hlen hl2 ⊢; omega) (by omega)
          rw [show clD L fin (d2 + 1) = clausesP L fin true (valueD L fin d2) 4002 [] [] 16 from rfl, hcz]
          simp only [List.nil_append]
          unfold closeP
          rw [take_of hcs.right]
          simp only [List.length_append, List.length_cons, List.length_nil]
          congr 3 <;> omega
      · have hmany := many_is hb (by omega) h17 h13
        have hparts := parts_of (fin := fin) (val := valueD L fin d1) (many := manyOf k tx) ks [] 4002 (i + 1 + (headT k tx ns).length) (n + 1) (fun y hy => hsub y hy (hks h13 y hy)) hp.left (by
          rcases hmany with e | ⟨e1, e2⟩
          · left
            simp only [List.length_nil]
            omega
          · exact .inr ⟨e1, .inr e2, cu, cu1, cu2⟩) (by omega) (by omega)
        rw [hparts]
        simp only [List.nil_append]
        unfold moreKids
        rw [if_neg h13]
        simp only []
        unfold closeP
        rw [take_of hcl2]
        simp only [List.length_append, List.length_cons, List.length_nil]
        congr 3 <;> omega
end Go.Proofs.YtaklmocjaokkpaaGreatDoor.Tr
namespace Go.Proofs.YtaklmocjaokkpaaGreatDoor.Tr
set_option linter.unusedVariables false
set_option linter.unusedSimpArgs false

/-- Bytes that stand in for tokens, wherever they stand. -/
inductive LexR : List UInt8 → List TK → Prop
  | nil : LexR [] []
  | blank {c : UInt8} {s : List UInt8} {T : List TK} : Lx.blank c = true → LexR s T → LexR (c :: s) T
  | opens {s : List UInt8} {T : List TK} : LexR s T → LexR (40 :: s) (tO :: T)
  | closes {s : List UInt8} {T : List TK} : LexR s T → LexR (41 :: s) (tC :: T)
  | word {w s : List UInt8} {t : Lx.Tok} {T : List TK} : w ≠ [] → (∀ c ∈ w, Lx.inWord c) → Lx.wordTok w 0 = .ok t → (∀ c, s.head? = some c → Lx.ends c = true) → LexR s T → LexR (w ++ s) (tk t :: T)
  | text {r s : List UInt8} {T : List TK} : LexR s T → LexR (Lx.quote r ++ s) ((5, r, 0) :: T)
theorem at_pre (pre : List UInt8) (c : UInt8) (s : List UInt8) : (pre ++ c :: s)[pre.length]? = some c := by simp
theorem wend_at (pre w post : List UInt8) (hw : ∀ c ∈ w, Lx.inWord c) (hp : ∀ c, post.head? = some c → Lx.ends c = true) : ∀ (k p : Nat), p ≤ w.length → w.length < k + p → Lx.wordEnd (pre ++ (w ++ post)) k (pre.length + p) = .ok (pre.length + w.length) := by
  intro k
  induction k with
  | zero => intro p h1 h2; omega
  | succ k ih =>
    intro p h1 h2
    have hg : (pre ++ (w ++ post))[pre.length + p]? = (w ++ post)[p]? := by rw [List.getElem?_append_right (by omega)]; congr 1; omega
    by_cases hlt : p < w.length
    · have hc : (pre ++ (w ++ post))[pre.length + p]? = some w[p] := by rw [hg, List.getElem?_append_left hlt, List.getElem?_eq_getElem hlt]
      obtain ⟨e1, e2, e3⟩ := hw w[p] (List.getElem_mem hlt)
      rw [Lx.wordEnd, hc]
      simp only [e1, Bool.false_eq_true, if_false]
      rw [if_neg (by omega)]
      exact ih (p + 1) (by omega) (by omega)
    · have hpe : p = w.length := by omega
      subst hpe
      rw [Lx.wordEnd, hg]
      rcases hc : (w ++ post)[w.length]? with _ | c
      · rfl
      · have : Lx.ends c = true := hp c (by
          rw [List.getElem?_append_right (Nat.le_refl _), Nat.sub_self] at hc
          rw [List.head?_eq_getElem?]; exact hc)
        simp only [this, if_true]
theorem text_at (post : List UInt8) (r : List UInt8) : ∀ (pre out : List UInt8) (k : Nat), r.length < k → Lx.text (pre ++ (r.flatMap Lx.qb ++ 34 :: post)) k pre.length out = .ok (out ++ r, pre.length + (r.flatMap Lx.qb).length + 1) := by
  induction r with
  | nil =>
    intro pre out k hk
    obtain ⟨k, rfl⟩ : ∃ m, k = m + 1 := ⟨k - 1, by simp at hk; omega⟩
    have a0 : (pre ++ (([] : List UInt8).flatMap Lx.qb ++ 34 :: post))[pre.length]? = some 34 := by simp
    show (match (pre ++ (([] : List UInt8).flatMap Lx.qb ++ 34 :: post))[pre.length]? with | none => _ | some c => _) = _
    rw [a0]; simp
  | cons c r ih =>
    intro pre out k hk
    obtain ⟨k, rfl⟩ : ∃ m, k = m + 1 := ⟨k - 1, by simp at hk; omega⟩
    rw [Lx.text_qb _ k _ out c (fun i hi => by
      rw [List.getElem?_append_right (by omega), show pre.length + i - pre.length = i by omega, List.flatMap_cons, List.append_assoc, List.getElem?_append_left hi])]
    have := ih (pre ++ Lx.qb c) (out ++ [c]) k (by simp at hk; omega)
    simp only [List.flatMap_cons, List.length_append, List.append_assoc] at this ⊢
    rw [this]
    simp [Nat.add_assoc]
theorem wtok_at {w : List UInt8} {t : Lx.Tok} (p : Nat) (h : Lx.wordTok w 0 = .ok t) : ∃ u, Lx.wordTok w p = .ok u ∧ tk u = tk t ∧ u.at_ = p := by
  unfold Lx.wordTok at h ⊢
  split at h
  · rename_i e
    rw [if_pos e]
    split at h
    · rename_i v hv
      cases h
      exact ⟨_, rfl, rfl, rfl⟩
    · cases h
  · rename_i e
    rw [if_neg e]
    cases h
    exact ⟨_, rfl, rfl, rfl⟩
theorem next_step {s : List UInt8} {p q : Nat} {k : Nat} {l : List Lx.Tok} {o : Option Lx.Tok} (hp : p < s.length) (h : Lx.next s p = .ok (o, q)) : Lx.toks s (k + 1) p l = Lx.toks s k q (l ++ o.toList) := by
  rw [Lx.toks, if_pos hp, h]
theorem qb_pos (r : List UInt8) : r.length ≤ (r.flatMap Lx.qb).length := by
  induction r with
  | nil => simp
  | cons c s ih =>
    have : 1 ≤ (Lx.qb c).length := by unfold Lx.qb; split <;> (try split) <;> simp
    simp only [List.flatMap_cons, List.length_append, List.length_cons]; omega
theorem in_not {c : UInt8} (h : Lx.inWord c) : Lx.blank c = false ∧ c ≠ 59 ∧ c ≠ 40 ∧ c ≠ 41 ∧ c ≠ 34 := by
  have e1 := h.1
  refine ⟨?_, ?_, ?_, ?_, ?_⟩
  · unfold Lx.ends at e1
    cases hb : Lx.blank c
    · rfl
    · rw [hb] at e1; simp at e1
  all_goals (rintro rfl; exact absurd e1 (by decide))
/-- They are lexed as those tokens. -/
theorem lex_toks {s : List UInt8} {T : List TK} (h : LexR s T) : ∀ (pre : List UInt8) (k : Nat) (l0 : List Lx.Tok), s.length < k →
    ∃ l, Lx.toks (pre ++ s) k pre.length l0 = .ok (l0 ++ l) ∧ l.map tk = T := by
  induction h with
  | nil =>
    intro pre k l0 hk
    obtain ⟨k, rfl⟩ : ∃ q, k = q + 1 := ⟨k - 1, by simp at hk; omega⟩
    refine ⟨[], ?_, rfl⟩
    rw [Lx.toks, if_neg (by simp), List.append_nil]
  | @blank c s T hb _ ih =>
    intro pre k l0 hk
    obtain ⟨k, rfl⟩ : ∃ q, k = q + 1 := ⟨k - 1, by simp at hk; omega⟩
    obtain ⟨l, h1, h2⟩ := ih (pre ++ [c]) k l0 (by simp at hk; omega)
    refine ⟨l, ?_, h2⟩
    have hn : Lx.next (pre ++ c :: s) pre.length = .ok (none, pre.length + 1) := by unfold Lx.next; rw [at_pre]; simp only [hb, if_true]
    rw [next_step (by simp) hn]
    simpa using h1
  | @opens s T _ ih =>
    intro pre k l0 hk
    obtain ⟨k, rfl⟩ : ∃ q, k = q + 1 := ⟨k - 1, by simp at hk; omega⟩
    obtain ⟨l, h1, h2⟩ := ih (pre ++ [40]) k (l0 ++ [⟨1, [], 0, pre.length⟩]) (by simp at hk; omega)
    refine ⟨⟨1, [], 0, pre.length⟩ :: l, ?_, by rw [List.map_cons, h2]; rfl⟩
    have hn : Lx.next (pre ++ 40 :: s) pre.length = .ok (some ⟨1, [], 0, pre.length⟩, pre.length + 1) := by unfold Lx.next; rw [at_pre]; rfl
    rw [next_step (by simp) hn]
    simpa using h1
  | @closes s T _ ih =>
    intro pre k l0 hk
    obtain ⟨k, rfl⟩ : ∃ q, k = q + 1 := ⟨k - 1, by simp at hk; omega⟩
    obtain ⟨l, h1, h2⟩ := ih (pre ++ [41]) k (l0 ++ [⟨2, [], 0, pre.length⟩]) (by simp at hk; omega)
    refine ⟨⟨2, [], 0, pre.length⟩ :: l, ?_, by rw [List.map_cons, h2]; rfl⟩
    have hn : Lx.next (pre ++ 41 :: s) pre.length = .ok (some ⟨2, [], 0, pre.length⟩, pre.length + 1) := by unfold Lx.next; rw [at_pre]; rfl
    rw [next_step (by simp) hn]
    simpa using h1
  | @word w s t T hne hw ht hp _ ih =>
    intro pre k l0 hk
    obtain ⟨k, rfl⟩ : ∃ q, k = q + 1 := ⟨k - 1, by rw [List.length_append] at hk; omega⟩
    obtain ⟨u, hu, hu2, _⟩ := wtok_at pre.length ht
    have hwl : 0 < w.length := List.length_pos_iff.2 hne
    obtain ⟨l, h1, h2⟩ := ih (pre ++ w) k (l0 ++ [u]) (by rw [List.length_append] at hk; omega)
    refine ⟨u :: l, ?_, by rw [List.map_cons, h2, hu2]⟩
    have hn : Lx.next (pre ++ (w ++ s)) pre.length = .ok (some u, pre.length + w.length) := by
      cases w with
      | nil => exact absurd rfl hne
      | cons c r =>
        obtain ⟨n1, n2, n3, n4, n5⟩ := in_not (hw c (by simp))
        have hwe := wend_at pre (c :: r) s hw hp ((pre ++ (c :: r ++ s)).length + 1) 0 (Nat.zero_le _) (by simp; omega)
        simp only [Nat.add_zero] at hwe
        have hc : (pre ++ (c :: r ++ s))[pre.length]? = some c := by simp
        unfold Lx.next
        rw [hc]
        simp only [n1, Bool.false_eq_true, if_false]
        rw [if_neg n2, if_neg n3, if_neg n4, if_neg n5, hwe]
        simp only []
        have hd : ((pre ++ (c :: r ++ s)).drop pre.length).take (pre.length + (c :: r).length - pre.length) = c :: r := by
          rw [List.drop_left, Nat.add_sub_cancel_left, List.take_left]
        rw [hd, hu]
    rw [next_step (by rw [List.length_append, List.length_append]; omega) hn]
    simpa using h1
  | @text r s T _ ih =>
    intro pre k l0 hk
    obtain ⟨k, rfl⟩ : ∃ q, k = q + 1 := ⟨k - 1, by rw [List.length_append] at hk; omega⟩
    have hql : (Lx.quote r).length = (r.flatMap Lx.qb).length + 2 := by unfold Lx.quote; simp
    obtain ⟨l, h1, h2⟩ := ih (pre ++ Lx.quote r) k (l0 ++ [⟨5, r, 0, pre.length⟩]) (by rw [List.length_append] at hk; omega)
    refine ⟨⟨5, r, 0, pre.length⟩ :: l, ?_, by rw [List.map_cons, h2]; rfl⟩
    have hqe : Lx.quote r ++ s = 34 :: (r.flatMap Lx.qb ++ 34 :: s) := by unfold Lx.quote; simp
    have hn : Lx.next (pre ++ (Lx.quote r ++ s)) pre.length = .ok (some ⟨5, r, 0, pre.length⟩, pre.length + (Lx.quote r).length) := by
      have hc : (pre ++ (Lx.quote r ++ s))[pre.length]? = some 34 := by rw [hqe]; simp
      have htx := text_at s r (pre ++ [34]) [] ((pre ++ (Lx.quote r ++ s)).length + 1) (by
        have := qb_pos r
        simp only [List.length_append]
        omega)
      have he : pre ++ [34] ++ (r.flatMap Lx.qb ++ 34 :: s) = pre ++ (Lx.quote r ++ s) := by rw [hqe]; simp
      rw [he] at htx
      unfold Lx.next
      rw [hc]
      simp only [show Lx.blank 34 = false by decide, Bool.false_eq_true, if_false, show ¬ ((34 : UInt8) = 59) by decide, show ¬ ((34 : UInt8) = 40) by decide, show ¬ ((34 : UInt8) = 41) by decide, if_true]
      have e34 : (pre ++ [(34 : UInt8)]).length = pre.length + 1 := by simp
      rw [e34] at htx
      rw [htx]
      simp only [List.nil_append]
      congr 2
      rw [hql]
      omega
    rw [next_step (by rw [List.length_append, List.length_append, hql]; omega) hn]
    simpa using h1
/-- What stands behind a word ends it. -/
def EndsB (s : List UInt8) : Prop := ∀ c, s.head? = some c → Lx.ends c = true
theorem ends_nil : EndsB [] := fun c h => by cases h
theorem ends_cons {c : UInt8} {s : List UInt8} (h : Lx.ends c = true) : EndsB (c :: s) := fun d hd => by
  have : c = d := by simpa using hd
  rw [← this]; exact h
theorem lex_word {w s : List UInt8} {T : List TK} (hw : Lx.wordB w = true) (he : EndsB s) (h : LexR s T) : LexR (w ++ s) ((3, w, 0) :: T) := by
  unfold Lx.wordB at hw
  simp only [Bool.and_eq_true, Bool.not_eq_true', decide_eq_true_eq, List.all_eq_true] at hw
  obtain ⟨⟨⟨b1, b2⟩, b3⟩, b4⟩ := hw
  exact LexR.word (t := ⟨3, w, 0, 0⟩) (by rintro rfl; cases b1) (fun c hc => ⟨(b3 c hc).1.1, (b3 c hc).1.2, (b3 c hc).2⟩) (by unfold Lx.wordTok; rw [b4]; rfl) he h
theorem lex_tw {t : ByteArray} {s : List UInt8} {T : List TK} (hw : Lx.wordB (bl t) = true) (he : EndsB s) (h : LexR s T) : LexR (bl t ++ s) (tw t :: T) := lex_word hw he h
theorem nameB_word {t : ByteArray} (h : nameB t = true) : Lx.wordB (bl t) = true := by
  unfold nameB word at h
  simp only [Bool.and_eq_true] at h
  exact h.1.1.1
theorem lex_sp {s : List UInt8} {T : List TK} (h : LexR s T) : LexR (32 :: s) T := LexR.blank (by decide) h
theorem unl_all : ∀ (l seen : List ByteArray), unl seen l = true → ∀ s ∈ l, nameB s = true
  | [], _, _, s, hs => by cases hs
  | x :: l, seen, h, s, hs => by
    obtain ⟨u1, _, u3⟩ := unl_head h
    rcases List.mem_cons.1 hs with rfl | hs
    · exact u1
    · exact unl_all l _ u3 s hs
/-- Names with blanks between. -/
theorem lex_names : ∀ (ns : List ByteArray) {s : List UInt8} {T : List TK}, (∀ x ∈ ns, nameB x = true) → EndsB s → LexR s T → LexR (joinL ns ++ s) (ns.map tw ++ T) := by
  intro ns
  induction ns with
  | nil => intro s T _ _ h; exact h
  | cons x ns ih =>
    intro s T hn he h
    cases ns with
    | nil =>
      have e : joinL [x] = bl x := by simp [joinL, Lib.join, bl]
      rw [e]
      exact lex_tw (nameB_word (hn x List.mem_cons_self)) he h
    | cons y ns =>
      have e : joinL (x :: y :: ns) = bl x ++ 32 :: joinL (y :: ns) := by simp [joinL, Lib.join, bl]
      rw [e, List.append_assoc]
      exact lex_tw (nameB_word (hn x List.mem_cons_self)) (ends_cons (by decide)) (lex_sp (ih (fun z hz => hn z (List.mem_cons_of_mem _ hz)) he h))
theorem ones_words : ∀ l ∈ onesL, Lx.wordB l = true := by decide +kernel
theorem twos_words : ∀ l ∈ twosL, Lx.wordB l = true := by decide +kernel
theorem takes_word {t : ByteArray} (h : 0 ≤ takes t) : Lx.wordB (bl t) = true := by
  unfold takes takesL at h
  split at h
  · rename_i e
    show Lx.wordB t.data.toList = true
    rw [e]
    decide +kernel
  · split at h
    · rename_i e
      exact ones_words _ e
    · split at h
      · rename_i e
        exact twos_words _ e
      · omega
theorem words_of : ∀ k ∈ [6, 7, 8, 9, 10, 12, 13, 14, 15, 16, 17, 18, 19], Lx.wordB (bl (wordOf k)) = true := by decide +kernel
theorem int_lex {n : Int} (h : -9223372036854775808 ≤ n ∧ n ≤ 9223372036854775807) {s : List UInt8} {T : List TK} (he : EndsB s) (hs : LexR s T) : LexR (Lib.itoa n ++ s) ((4, [], n) :: T) := by
  rw [← numb_itoa, Lx.numb_is]
  exact LexR.word (t := ⟨4, [], n, 0⟩) (Lx.nword_ne n 0 h.1 h.2) (Lx.nword_inWord n 0 h.1 h.2) (Lx.wordTok_num n 0 0 h.1 h.2) he hs
/-- A node's head. -/
theorem head_lex {deep k : Nat} {n : Int} {t : ByteArray} {ns : List ByteArray} {ks : List Nd} (h : headB deep k n t ns ks = true) (h5 : 5 < k) {s : List UInt8} {T : List TK} (he : EndsB s) (hs : LexR s T) : LexR (headL k (bl t) ns ++ s) (headT k t ns ++ T) := by
  obtain ⟨many, least, most, hsh, _, htx, h1, h2, h3, hnm, hun, _⟩ := head_parts h
  have hrg := shape_range hsh
  have hall := unl_all ns [] hun
  have hk : k = 6 ∨ k = 7 ∨ k = 8 ∨ k = 9 ∨ k = 10 ∨ k = 11 ∨ k = 12 ∨ k = 13 ∨ k = 14 ∨ k = 15 ∨ k = 16 ∨ k = 17 ∨ k = 18 ∨ k = 19 := by omega
  have hwd : ∀ k ∈ [6, 7, 8, 9, 10, 12, 13, 14, 15, 16, 17, 18, 19], ∀ {s : List UInt8} {T : List TK}, EndsB s → LexR s T → LexR (bl (wordOf k) ++ s) (tw (wordOf k) :: T) := fun k hk s T he hs => lex_tw (words_of k hk) he hs
  rcases hk with rfl | rfl | rfl | rfl | rfl | rfl | rfl | rfl | rfl | rfl | rfl | rfl | rfl | rfl
  · have hnt : nameB t = true := by simpa [textB] using htx
    have := hwd 6 (by simp) (ends_cons (by decide)) (lex_sp (lex_tw (s := 32 :: 40 :: (joinL ns ++ 41 :: s)) (nameB_word hnt) (ends_cons (by decide)) (lex_sp (LexR.opens (lex_names ns hall (ends_cons (by decide)) (LexR.closes hs))))))
    simpa [headL, headT, wordOf, wFun, bl] using this
  · exact hwd 7 (by simp) he hs
  · have hnt : nameB t = true := by simpa [textB] using htx
    have := hwd 8 (by simp) (ends_cons (by decide)) (lex_sp (lex_tw (nameB_word hnt) he hs))
    simpa [headL, headT, wordOf, wLet, bl] using this
  · exact hwd 9 (by simp) he hs
  · exact hwd 10 (by simp) he hs
  · have : takes t = (ks.length : Int) := by simpa [textB] using htx
    exact lex_tw (takes_word (by omega)) he hs
  · have hnt : nameB t = true := by simpa [textB] using htx
    have := hwd 12 (by simp) (ends_cons (by decide)) (lex_sp (lex_tw (nameB_word hnt) he hs))
    simpa [headL, headT, wordOf, wPerform, bl] using this
  · exact hwd 13 (by simp) he hs
  · exact hwd 14 (by simp) he hs
  · exact hwd 15 (by simp) he hs
  · exact hwd 16 (by simp) he hs
  · simp only [shapeOf, Option.some.injEq, Prod.mk.injEq] at hsh
    have hl := hnm _ hsh.1.symm
    obtain ⟨x, rfl⟩ : ∃ x, ns = [x] := by
      match ns, hl with
      | [x], _ => exact ⟨x, rfl⟩
    have := hwd 17 (by simp) (ends_cons (by decide)) (lex_sp (lex_tw (nameB_word (hall x (by simp))) he hs))
    simpa [headL, headT, wordOf, wReturn, bl, firstL] using this
  · have hnt : nameB t = true := by simpa [textB] using htx
    have := hwd 18 (by simp) (ends_cons (by decide)) (lex_sp (lex_tw (nameB_word hnt) (ends_cons (by decide)) (lex_sp (lex_names ns hall he hs))))
    simpa [headL, headT, wordOf, wOn, bl] using this
  · exact hwd 19 (by simp) he hs
theorem bool_word : ∀ b : Bool, Lib.formatBool b = bl (if b then sTrue else sFalse) := by decide +kernel
abbrev In64 (n : Int) : Prop := -9223372036854775808 ≤ n ∧ n ≤ 9223372036854775807
/-- A node's text. -/
theorem print_lex : ∀ (x : Nd) (deep : Nat), rightB x deep = true → Lits In64 (fun _ => True) x → ∀ {s : List UInt8} {T : List TK}, EndsB s → LexR s T → LexR (printL x ++ s) (toksN x ++ T) := by
  intro x
  induction x using Nd.ind with
  | h x ih =>
    intro deep hr hl s T he hs
    have hkids := fun y hy => right_kid hr y hy
    have hlk := fun y hy => hl.kid y hy
    have hint := hl.int
    rw [rightB_is, Bool.and_eq_true] at hr
    have hb := hr.1
    obtain ⟨many, least, most, hsh, _, htx, h1, h2, h3, hnm, hun, _⟩ := head_parts hb
    rw [printL_is, toksN_is]
    by_cases k1 : x.kind = 1
    · rw [if_pos k1, if_pos k1]
      exact int_lex (hint k1) he hs
    rw [if_neg k1, if_neg k1]
    by_cases k2 : x.kind = 2
    · rw [if_pos k2, if_pos k2, bool_word]
      have : (if decide (x.n = 1) = true then sTrue else sFalse) = if x.n = 1 then sTrue else sFalse := by simp
      rw [this]
      refine lex_tw ?_ he hs
      split <;> decide +kernel
    rw [if_neg k2, if_neg k2]
    by_cases k3 : x.kind = 3
    · rw [if_pos k3, if_pos k3]
      exact LexR.text hs
    rw [if_neg k3, if_neg k3]
    by_cases k4 : x.kind = 4
    · rw [if_pos k4, if_pos k4]
      exact lex_tw (t := sUnit) (by decide +kernel) he hs
    rw [if_neg k4, if_neg k4]
    by_cases k5 : x.kind = 5
    · rw [if_pos k5, if_pos k5]
      have hnt : nameB x.text = true := by rw [k5] at htx; simpa [textB] using htx
      exact lex_tw (nameB_word hnt) he hs
    rw [if_neg k5, if_neg k5]
    have hkl : ∀ (l : List Nd), (∀ y ∈ l, y ∈ x.kids) → ∀ {s : List UInt8} {T : List TK}, EndsB s → LexR s T → LexR (printsL l ++ s) (toksL l ++ T) ∧ EndsB (printsL l ++ s) := by
      intro l
      induction l with
      | nil => intro _ s T he hs; rw [printsL, toksL]; exact ⟨hs, he⟩
      | cons y l ihl =>
        intro hm s T he hs
        obtain ⟨q1, q2⟩ := ihl (fun z hz => hm z (List.mem_cons_of_mem _ hz)) he hs
        have hy := hm y List.mem_cons_self
        rw [printsL, toksL]
        refine ⟨?_, ends_cons (by decide)⟩
        have := lex_sp (ih y hy (deep + 1) (hkids y hy) (hlk y hy) q2 q1)
        simpa using this
    have hrg := shape_range hsh
    obtain ⟨q1, q2⟩ := hkl x.kids (fun _ h => h) (ends_cons (by decide : Lx.ends 41 = true)) (LexR.closes hs)
    have := LexR.opens (head_lex hb (by omega) q2 q1)
    simpa using this
/-- The tokens of a node's text. -/
theorem toks_print {x : Nd} {deep : Nat} (hr : rightB x deep = true) (hl : Lits In64 (fun _ => True) x) : ∃ l, Lx.toks (printL x) ((printL x).length + 1) 0 [] = .ok l ∧ l.map tk = toksN x := by
  have h := print_lex x deep hr hl ends_nil LexR.nil
  rw [List.append_nil, List.append_nil] at h
  obtain ⟨l, h1, h2⟩ := lex_toks h [] ((printL x).length + 1) [] (by omega)
  exact ⟨l, by simpa using h1, h2⟩
theorem has_all (L : List Lx.Tok) : Has L 0 (L.map tk) := fun j x hx => by
  rw [List.getElem?_map] at hx
  obtain ⟨t, h1, h2⟩ := Option.map_eq_some_iff.1 hx
  exact ⟨t, by rw [Nat.zero_add]; exact h1, h2⟩
/-- Two nodes that may be, with one text, are one. -/
theorem print_inj {x y : Nd} (hx : mayB x = true) (hy : mayB y = true) (lx : Lits In64 (fun _ => True) x) (ly : Lits In64 (fun _ => True) y) (h : printL x = printL y) : x = y := by
  unfold mayB at hx hy
  simp only [Bool.and_eq_true, decide_eq_true_eq] at hx hy
  obtain ⟨l, h1, h2⟩ := toks_print hx.1.2 lx
  obtain ⟨m, g1, g2⟩ := toks_print hy.1.2 ly
  rw [← h, h1] at g1
  cases g1
  have e1 := (value_of (L := l) (fin := 0) x 1 60 hx.1.2 rfl).1 hx.1.1 0 0 (by rw [← h2]; exact has_all l) (by omega)
  have e2 := (value_of (L := l) (fin := 0) y 1 60 hy.1.2 rfl).1 hy.1.1 0 0 (by rw [← g2]; exact has_all l) (by omega)
  rw [e1] at e2
  simp only [Except.ok.injEq, Prod.mk.injEq] at e2
  exact e2.1
end Go.Proofs.YtaklmocjaokkpaaGreatDoor.Tr
namespace Go.Proofs.YtaklmocjaokkpaaGreatDoor.Tr
set_option linter.unusedVariables false
set_option linter.unusedSimpArgs false

/-- What a lexer's tokens hold. -/
def LexFine (L : List Lx.Tok) : Prop := ∀ t ∈ L, (t.kind = 3 → Lx.wordB t.s = true ∧ t.n = 0) ∧ (t.kind = 4 → t.s = [] ∧ In64 t.n) ∧ (t.kind = 5 → t.n = 0 ∧ t.s.length ≤ 65536) ∧ (t.kind = 1 → t.s = [] ∧ t.n = 0) ∧ (t.kind = 2 → t.s = [] ∧ t.n = 0) ∧ 1 ≤ t.kind ∧ t.kind ≤ 5
theorem has_one {L : List Lx.Tok} {i : Nat} {t : Lx.Tok} (h : L[i]? = some t) : Has L i [tk t] := fun j x hx => by
  cases j with
  | zero => exact ⟨t, h, by simpa using hx⟩
  | succ j => simp at hx
theorem Has.app {L : List Lx.Tok} {i j : Nat} {A B : List TK} (h : Has L i A) (h' : Has L j B) (hj : j = i + A.length) : Has L i (A ++ B) := fun q x hx => by
  by_cases hq : q < A.length
  · rw [List.getElem?_append_left hq] at hx
    exact h q x hx
  · rw [List.getElem?_append_right (by omega)] at hx
    obtain ⟨t, h1, h2⟩ := h' (q - A.length) x hx
    exact ⟨t, by rw [← h1]; congr 1; omega, h2⟩
theorem has_nil (L : List Lx.Tok) (i : Nat) : Has L i [] := fun j x hx => by simp at hx
theorem take_good {L : List Lx.Tok} {fin k i : Nat} {u : Unit} (h : takeP L fin k i = .ok u) : ∃ t, L[i]? = some t ∧ t.kind = k := by
  unfold takeP at h
  cases hi : L[i]? with
  | none => rw [hi] at h; cases h
  | some t =>
    rw [hi] at h
    simp only [] at h
    split at h
    · rename_i hc
      exact ⟨t, rfl, hc⟩
    · cases h
theorem unl_cons {seen rest : List ByteArray} {s : ByteArray} (h1 : nameB s = true) (h2 : memB s seen = false) (h3 : unl (seen ++ [s]) rest = true) : unl seen (s :: rest) = true := by
  unfold unl
  rw [h1, h2, h3]
  rfl
section
variable {L : List Lx.Tok} {fin : Nat} (hf : LexFine L)
include hf
theorem tok_open {i : Nat} {t : Lx.Tok} (h : L[i]? = some t) (hk : t.kind = 1) : Has L i [tO] := by
  have h2 := (hf t (List.mem_of_getElem? h)).2.2.2.1 hk
  have : tk t = tO := by unfold tk tO; rw [hk, h2.1, h2.2]
  rw [← this]; exact has_one h
theorem tok_close {i : Nat} {t : Lx.Tok} (h : L[i]? = some t) (hk : t.kind = 2) : Has L i [tC] := by
  have h2 := (hf t (List.mem_of_getElem? h)).2.2.2.2.1 hk
  have : tk t = tC := by unfold tk tC; rw [hk, h2.1, h2.2]
  rw [← this]; exact has_one h
theorem tok_word {i : Nat} {t : Lx.Tok} (h : L[i]? = some t) (hk : t.kind = 3) : Has L i [tw (ba t.s)] ∧ word (ba t.s) = true := by
  have h2 := (hf t (List.mem_of_getElem? h)).1 hk
  have : tk t = tw (ba t.s) := by unfold tk tw; rw [hk, h2.2, bl_ba]
  exact ⟨by rw [← this]; exact has_one h, by show Lx.wordB (bl (ba t.s)) = true; rw [bl_ba]; exact h2.1⟩
theorem name_good {no : List ByteArray} {i : Nat} {s : ByteArray} (h : nameP L fin no i = .ok s) : nameB s = true ∧ memB s no = false ∧ Has L i [tw s] := by
  unfold nameP at h
  cases hi : L[i]? with
  | none => rw [hi] at h; cases h
  | some t =>
    rw [hi] at h
    simp only [] at h
    split at h
    · rename_i hc
      cases h
      obtain ⟨h1, h2⟩ := tok_word hf hi hc.1
      refine ⟨?_, hc.2.2.2.2, h1⟩
      unfold nameB
      rw [h2, decide_eq_false hc.2.1, decide_eq_false hc.2.2.1, decide_eq_false hc.2.2.2.1]
      rfl
    · cases h
theorem names_good : ∀ (k : Nat) (seen ns : List ByteArray) (i j : Nat), namesP L fin k seen i = .ok (ns, j) → i ≤ L.length → L.length < i + k → ∃ rest, ns = seen ++ rest ∧ unl seen rest = true ∧ Has L i (rest.map tw ++ [tC]) ∧ j = i + rest.length + 1 := by
  intro k
  induction k with
  | zero => intro seen ns i j h h1 h2; omega
  | succ k ih =>
    intro seen ns i j h h1 h2
    unfold namesP at h
    cases hi : L[i]? with
    | none => rw [hi] at h; cases h
    | some t =>
      rw [hi] at h
      simp only [] at h
      split at h
      · rename_i hc
        cases h
        exact ⟨[], by simp, rfl, by simpa using tok_close hf hi hc, rfl⟩
      · split at h
        · cases h
        · rename_i s hs
          obtain ⟨g1, g2, g3⟩ := name_good hf hs
          have hlt := (List.getElem?_eq_some_iff.1 hi).1
          obtain ⟨rest, r1, r2, r3, r4⟩ := ih _ _ _ _ h (by omega) (by omega)
          exact ⟨s :: rest, by rw [r1]; simp, unl_cons g1 g2 r2, by simpa using g3.app r3 rfl, by rw [r4, List.length_cons]; omega⟩
theorem some_good : ∀ (m : Nat) (seen ns : List ByteArray) (i j : Nat), someP L fin m seen i = .ok (ns, j) → ∃ rest, rest.length = m ∧ ns = seen ++ rest ∧ unl seen rest = true ∧ Has L i (rest.map tw) ∧ j = i + m := by
  intro m
  induction m with
  | zero =>
    intro seen ns i j h
    unfold someP at h
    cases h
    exact ⟨[], rfl, by simp, rfl, has_nil _ _, rfl⟩
  | succ m ih =>
    intro seen ns i j h
    unfold someP at h
    split at h
    · cases h
    · rename_i s hs
      obtain ⟨g1, g2, g3⟩ := name_good hf hs
      obtain ⟨rest, r0, r1, r2, r3, r4⟩ := ih _ _ _ _ h
      exact ⟨s :: rest, by simp [r0], by rw [r1]; simp, unl_cons g1 g2 r2, by simpa using g3.app r3 rfl, by omega⟩
end
/-- What is read by it is right so deep, and its own tokens were read. -/
def Good (L : List Lx.Tok) (val : Nat → Nat → PRes Nd) (deep : Nat) : Prop := ∀ i n x i' n', val i n = .ok (x, i', n') → n ≤ 4000 → rightB x deep = true ∧ x.kind < 17 ∧ n' = n + sizeN x ∧ n' ≤ 4000 ∧ Has L i (toksN x) ∧ i' = i + (toksN x).length ∧ Lits In64 (fun _ => True) x
theorem size_pos (x : Nd) : 1 ≤ sizeN x := by rw [sizeN_is]; omega
theorem parts_good {L : List Lx.Tok} {fin : Nat} {val : Nat → Nat → PRes Nd} {deep : Nat} (hv : Good L val deep) (many : Int) : ∀ (k : Nat) (acc ks : List Nd) (i n i' n' : Nat), partsP L fin val many k acc i n = .ok (ks, i', n') → n ≤ 4000 → 4001 < k + n →
    ∃ rest, ks = acc ++ rest ∧ (∀ y ∈ rest, rightB y deep = true ∧ y.kind < 17 ∧ Lits In64 (fun _ => True) y) ∧ n' = n + sizesN rest ∧ n' ≤ 4000 ∧ Has L i (toksL rest) ∧ i' = i + (toksL rest).length ∧ ((acc.length : Int) ≤ many → (ks.length : Int) = many) ∧ (many < 0 → ks ≠ []) := by
  intro k
  induction k with
  | zero => intro acc ks i n i' n' h h1 h2; omega
  | succ k ih =>
    intro acc ks i n i' n' h h1 h2
    unfold partsP at h
    cases hm : moreP L fin many acc.length i with
    | error e => rw [hm] at h; cases h
    | ok more =>
      rw [hm] at h
      cases more with
      | false =>
        simp only [] at h
        cases h
        refine ⟨[], by simp, fun y hy => (by cases hy), by simp [sizesN], h1, by rw [toksL]; exact has_nil _ _, by simp [toksL], fun hle => ?_, fun hneg => ?_⟩
        · unfold moreP at hm
          split at hm
          · cases hm
          · omega
        · unfold moreP at hm
          rw [if_neg (by omega), if_pos hneg] at hm
          split at hm
          · cases hm
          · rename_i hz
            intro e
            rw [e] at hz
            exact hz rfl
      | true =>
        simp only [] at h
        split at h
        · cases h
        · rename_i x i1 n1 hx
          obtain ⟨g1, g2, g3, g4, g5, g6, g7⟩ := hv _ _ _ _ _ hx h1
          have hp := size_pos x
          obtain ⟨rest, r1, r2, r3, r4, r5, r6, r7, r8⟩ := ih _ _ _ _ _ _ h g4 (by omega)
          refine ⟨x :: rest, by rw [r1]; simp, fun y hy => ?_, by rw [sizesN]; omega, r4, by rw [toksL]; exact g5.app r5 g6, by rw [toksL, List.length_append]; omega, fun hle => ?_, r8⟩
          · rcases List.mem_cons.1 hy with rfl | hy
            · exact ⟨g1, g2, g7⟩
            · exact r2 y hy
          · refine r7 ?_
            rw [List.length_append, List.length_singleton]
            unfold moreP at hm
            split at hm
            · omega
            · split at hm
              · omega
              · cases hm
theorem kinds_inv {w : ByteArray} {k : Nat} {m : Int} (h : kindsP w = (k, m)) : (w = wordOf k ∧ k ∈ [6, 7, 8, 9, 10, 12, 13, 14, 15, 16] ∧ m = manyOf k ⟨#[]⟩) ∨ (k = 11 ∧ m = takes w) := by
  unfold kindsP at h
  repeat' split at h
  all_goals (cases h)
  all_goals first
    | (right; exact ⟨rfl, rfl⟩)
    | (left; rename_i e; exact ⟨e, by decide, rfl⟩)
/-- A node's head is right, its parts apart. -/
theorem head_make {deep k : Nat} {tx : ByteArray} {ns : List ByteArray} {ks : List Nd} {many : Option Nat} {least most : Nat} (hs : shapeOf k = some (many, least, most)) (hd : deep ≤ 60) (ht : textB k 0 tx ks.length = true) (h1 : least ≤ ks.length) (h2 : ks.length ≤ most)
    (hn : ∀ m, many = some m → ns.length = m) (hu : unlike ns = true) (hk : k ≠ 13 → ∀ y ∈ ks, y.kind < 17) (h13 : k = 13 → clausesB (ks.drop 1) = true ∧ ∀ y ∈ ks.take 1, y.kind < 17) : headB deep k 0 tx ns ks = true := by
  unfold headB
  rw [hs]
  simp only [Bool.and_eq_true, decide_eq_true_eq, Bool.or_eq_true]
  refine ⟨⟨⟨⟨⟨⟨⟨hd, ht⟩, h1⟩, h2⟩, .inr (by first | rfl | trivial)⟩, ?_⟩, hu⟩, ?_⟩
  · cases many with
    | none => rfl
    | some m => exact decide_eq_true (hn m rfl)
  · by_cases e : k = 13
    · rw [if_pos e, Bool.and_eq_true]
      exact ⟨(h13 e).1, List.all_eq_true.2 fun y hy => decide_eq_true ((h13 e).2 y hy)⟩
    · rw [if_neg e]
      exact List.all_eq_true.2 fun y hy => decide_eq_true (hk e y hy)
theorem right_make {deep k : Nat} {tx : ByteArray} {ns : List ByteArray} {ks : List Nd} (h : headB deep k 0 tx ns ks = true) (hk : ∀ y ∈ ks, rightB y (deep + 1) = true) : rightB (.mk k 0 tx ns ks) deep = true := by
  rw [rightB_is, Bool.and_eq_true, kidsB_all]
  exact ⟨h, List.all_eq_true.2 hk⟩
theorem sizes_len (l : List Nd) : l.length ≤ sizesN l := by
  induction l with
  | nil => simp
  | cons y l ih => rw [sizesN, List.length_cons]; have := size_pos y; omega
theorem sizesN_app (a b : List Nd) : sizesN (a ++ b) = sizesN a + sizesN b := by
  induction a with
  | nil => simp [sizesN]
  | cons x a ih => rw [List.cons_append, sizesN, sizesN, ih]; omega
theorem toksL_app (a b : List Nd) : toksL (a ++ b) = toksL a ++ toksL b := by
  induction a with
  | nil => simp [toksL]
  | cons x a ih => rw [List.cons_append, toksL, toksL, ih, List.append_assoc]
theorem lits_make {k : Nat} {tx : ByteArray} {ns : List ByteArray} {ks : List Nd} (hk : k ≠ 1) (h : ∀ y ∈ ks, Lits In64 (fun _ => True) y) : Lits In64 (fun _ => True) (.mk k 0 tx ns ks) := by
  have : ∀ l : List Nd, (∀ y ∈ l, Lits In64 (fun _ => True) y) → LitsL In64 (fun _ => True) l := by
    intro l
    induction l with
    | nil => intro _; unfold LitsL; trivial
    | cons x l ih => intro h; unfold LitsL; exact ⟨h x List.mem_cons_self, ih fun y hy => h y (List.mem_cons_of_mem _ hy)⟩
  unfold Lits
  exact ⟨fun e => absurd e hk, fun _ => trivial, this ks h⟩
theorem clause_inv {s : ByteArray} {k : Nat} (h : clauseKind s = k) (h0 : k ≠ 0) : s = wordOf k ∧ (k = 17 ∨ k = 18 ∨ k = 19) := by
  unfold clauseKind at h
  split at h
  · rename_i e; subst h; exact ⟨e, .inl rfl⟩
  split at h
  · rename_i e; subst h; exact ⟨e, .inr (.inl rfl)⟩
  split at h
  · rename_i e; subst h; exact ⟨e, .inr (.inr rfl)⟩
  · exact absurd h.symm h0
theorem op_good {L : List Lx.Tok} {fin : Nat} (hf : LexFine L) {k i i1 : Nat} {ops ops' : List ByteArray} {tx : ByteArray} (h : opP L fin k ops i = .ok (tx, ops', i1)) : (k = 18 → nameB tx = true ∧ memB tx ops = false ∧ ops' = ops ++ [tx] ∧ Has L i [tw tx] ∧ i1 = i + 1) ∧ (k ≠ 18 → tx = ⟨#[]⟩ ∧ ops' = ops ∧ i1 = i) := by
  unfold opP at h
  by_cases e : k = 18
  · rw [if_pos e] at h
    refine ⟨fun _ => ?_, fun h => absurd e h⟩
    split at h
    · cases h
    · rename_i s hs
      cases h
      obtain ⟨g1, g2, g3⟩ := name_good hf hs
      exact ⟨g1, g2, rfl, g3, rfl⟩
  · rw [if_neg e] at h
    cases h
    exact ⟨fun h => absurd h e, fun _ => ⟨rfl, rfl, rfl⟩⟩
theorem body_good {L : List Lx.Tok} {fin : Nat} (hf : LexFine L) {val : Nat → Nat → PRes Nd} {deep : Nat} (hv : Good L val (deep + 1)) (hd : deep ≤ 60) {k i n i' n' : Nat} {tx : ByteArray} {x : Nd} (hk : k = 17 ∨ k = 18 ∨ k = 19) (htx : (k = 18 → nameB tx = true) ∧ (k ≠ 18 → tx = ⟨#[]⟩))
    (h : bodyP L fin val k tx i n = .ok (x, i', n')) (hn : n ≤ 4000) : ∃ ns ks, x = .mk k 0 tx ns ks ∧ rightB x deep = true ∧ n' = n + sizesN ks ∧ n' ≤ 4000 ∧ Has L i (ns.map tw ++ (toksL ks ++ [tC])) ∧ i' = i + (ns.map tw ++ (toksL ks ++ [tC])).length ∧ (k = 19 → ns = []) ∧ Lits In64 (fun _ => True) x := by
  unfold bodyP at h
  split at h
  · cases h
  · rename_i ns i1 hs
    obtain ⟨rest, r0, r1, r2, r3, r4⟩ := some_good hf _ _ _ _ _ hs
    rw [List.nil_append] at r1
    subst r1
    split at h
    · cases h
    · rename_i ks i2 n2 hp
      obtain ⟨rk, p1, p2, p3, p4, p5, p6, p7, p8⟩ := parts_good hv 1 _ _ _ _ _ _ _ hp hn (by omega)
      rw [List.nil_append] at p1
      subst p1
      have hl : ks.length = 1 := by have := p7 (by decide); omega
      unfold closeP at h
      split at h
      · cases h
      · rename_i u hu
        cases h
        obtain ⟨t, t1, t2⟩ := take_good hu
        have hcl := tok_close hf t1 t2
        have hnl : ns.length = clauseNames k := r0
        refine ⟨ns, ks, rfl, ?_, p3, p4, r3.app (p5.app hcl p6) (by rw [r4, List.length_map, hnl]), ?_, fun e => ?_, lits_make (by omega) fun y hy => (p2 y hy).2.2⟩
        · refine right_make ?_ fun y hy => (p2 y hy).1
          have hks : ∀ y ∈ ks, y.kind < 17 := fun y hy => (p2 y hy).2.1
          rcases hk with rfl | rfl | rfl
          · exact head_make (many := some 1) (least := 1) (most := 1) rfl hd (by rw [htx.2 (by decide)]; rfl) (by omega) (by omega) (fun m hm => by cases hm; exact hnl) r2 (fun _ => hks) (fun e => absurd e (by decide))
          · exact head_make (many := some 2) (least := 1) (most := 1) rfl hd (htx.1 rfl) (by omega) (by omega) (fun m hm => by cases hm; exact hnl) r2 (fun _ => hks) (fun e => absurd e (by decide))
          · exact head_make (many := some 0) (least := 1) (most := 1) rfl hd (by rw [htx.2 (by decide)]; rfl) (by omega) (by omega) (fun m hm => by cases hm; exact hnl) r2 (fun _ => hks) (fun e => absurd e (by decide))
        · simp only [List.length_append, List.length_map, List.length_cons, List.length_nil]
          omega
        · subst e
          exact List.eq_nil_of_length_eq_zero hnl
theorem clauses_good {L : List Lx.Tok} {fin : Nat} (hf : LexFine L) {dok : Bool} {val : Nat → Nat → PRes Nd} {deep : Nat} (hd : dok = true → deep ≤ 60 ∧ Good L val (deep + 1)) : ∀ (f : Nat) (out ks : List Nd) (ops : List ByteArray) (last i n i' n' : Nat), clausesP L fin dok val f out ops last i n = .ok (ks, i', n') → n ≤ 4000 → 4001 < f + n →
    ∃ rest, ks = out ++ rest ∧ orderB last rest = true ∧ unl ops (opsOf rest) = true ∧ (∀ c ∈ rest, rightB c deep = true ∧ Lits In64 (fun _ => True) c) ∧ n' = n + sizesN rest ∧ n' ≤ 4000 ∧ Has L i (toksL rest) ∧ i' = i + (toksL rest).length := by
  intro f
  induction f with
  | zero => intro out ks ops last i n i' n' h h1 h2; omega
  | succ f ih =>
    intro out ks ops last i n i' n' h h1 h2
    unfold clausesP at h
    cases hi : L[i]? with
    | none => rw [hi] at h; cases h
    | some t =>
      rw [hi] at h
      simp only [] at h
      split at h
      · cases h
        exact ⟨[], by simp, rfl, rfl, fun c hc => (by cases hc), by simp [sizesN], h1, by rw [toksL]; exact has_nil _ _, by simp [toksL]⟩
      split at h
      · cases h
      split at h
      · cases h
      rename_i k1 k2 k3
      have hk1 : t.kind = 1 := by
        rcases Nat.decEq t.kind 1 with e | e
        · exact absurd e k2
        · exact e
      have hdk : dok = true := by
        cases dok with
        | true => rfl
        | false => exact absurd (.inr rfl) k3
      have hn1 : n + 1 ≤ 4000 := by
        have : ¬ 4000 < n + 1 := fun e => k3 (.inl e)
        omega
      obtain ⟨hd1, hv⟩ := hd hdk
      cases hu : L[i + 1]? with
      | none => rw [hu] at h; cases h
      | some u =>
        rw [hu] at h
        simp only [] at h
        split at h
        · cases h
        rename_i kc
        obtain ⟨kk, hkk⟩ : ∃ kk, clauseKind (ba u.s) = kk := ⟨_, rfl⟩
        rw [hkk] at h kc
        have c1 : u.kind = 3 := by
          rcases Nat.decEq u.kind 3 with e | e
          · exact absurd (.inl e) kc
          · exact e
        have c2 : kk ≠ 0 := fun e => kc (.inr (.inl e))
        have c3 : last ≤ kk := by
          have : ¬ kk < last := fun e => kc (.inr (.inr (.inl e)))
          omega
        have c4 : kk = last → kk = 18 := fun e => by
          rcases Nat.decEq kk 18 with e2 | e2
          · exact absurd (.inr (.inr (.inr ⟨e, e2⟩))) kc
          · exact e2
        obtain ⟨q1, q2⟩ := clause_inv hkk c2
        split at h
        · cases h
        · rename_i tx ops' i1 ho
          obtain ⟨o1, o2⟩ := op_good hf ho
          split at h
          · cases h
          · rename_i x i2 n2 hb
            obtain ⟨ns, ks1, rfl, b1, b2, b3, b4, b5, b6, b7⟩ := body_good hf hv hd1 q2 ⟨fun e => (o1 e).1, fun e => (o2 e).1⟩ hb hn1
            obtain ⟨rest, r1, r2, r3, r4, r5, r6, r7, r8⟩ := ih _ _ _ _ _ _ _ _ h b3 (by omega)
            have htk : toksN (.mk kk 0 tx ns ks1) = tO :: (headT kk tx ns ++ (toksL ks1 ++ [tC])) := by
              rw [toksN, if_neg (by omega), if_neg (by omega), if_neg (by omega), if_neg (by omega), if_neg (by omega)]
            have hw := (tok_word hf hu c1).1
            rw [q1] at hw
            have hop := tok_open hf hi hk1
            have hx : Has L i (toksN (.mk kk 0 tx ns ks1)) ∧ i2 = i + (toksN (.mk kk 0 tx ns ks1)).length := by
              rw [htk]
              have h11 : kk ≠ 11 := by omega
              by_cases e18 : kk = 18
              · obtain ⟨_, _, _, o4, o5⟩ := o1 e18
                have e : headT kk tx ns = [tw (wordOf kk)] ++ ([tw tx] ++ ns.map tw) := by subst e18; rfl
                rw [e]
                refine ⟨?_, ?_⟩
                · have := hop.app (hw.app (o4.app (b4) (by rw [o5]; rfl)) rfl) rfl
                  simpa using this
                · rw [b5, o5]
                  simp only [List.length_append, List.length_map, List.length_cons, List.length_nil]
                  omega
              · obtain ⟨_, _, o5⟩ := o2 e18
                have e : headT kk tx ns = [tw (wordOf kk)] ++ ns.map tw := by
                  rcases q2 with rfl | rfl | rfl
                  · rfl
                  · exact absurd rfl e18
                  · rw [b6 rfl]; rfl
                rw [e]
                refine ⟨?_, ?_⟩
                · have := hop.app (hw.app b4 (by rw [o5]; rfl)) rfl
                  simpa using this
                · rw [b5, o5]
                  simp only [List.length_append, List.length_map, List.length_cons, List.length_nil]
                  omega
            refine ⟨.mk kk 0 tx ns ks1 :: rest, by rw [r1]; simp, ?_, ?_, fun c hc => ?_, ?_, r6, ?_, ?_⟩
            · unfold orderB
              simp only [Bool.and_eq_true, decide_eq_true_eq, Bool.or_eq_true, Bool.not_eq_true', decide_eq_false_iff_not]
              refine ⟨⟨⟨c3, ?_⟩, (show 17 ≤ kk by omega)⟩, r2⟩
              by_cases e : kk = last
              · exact .inr (c4 e)
              · exact .inl e
            · rw [opsOf_cons]
              by_cases e18 : kk = 18
              · obtain ⟨o3, o4, o5, _⟩ := o1 e18
                rw [o5] at r3
                have e : (if (Nd.mk kk 0 tx ns ks1).kind = 18 then (Nd.mk kk 0 tx ns ks1).text :: opsOf rest else opsOf rest) = tx :: opsOf rest := if_pos e18
                rw [e]
                exact unl_cons o3 o4 r3
              · rw [(o2 e18).2.1] at r3
                have e : (if (Nd.mk kk 0 tx ns ks1).kind = 18 then (Nd.mk kk 0 tx ns ks1).text :: opsOf rest else opsOf rest) = opsOf rest := if_neg e18
                rw [e]
                exact r3
            · rcases List.mem_cons.1 hc with rfl | hc
              · exact ⟨b1, b7⟩
              · exact r4 c hc
            · rw [sizesN, sizeN]; omega
            · rw [toksL]; exact hx.1.app r7 hx.2
            · rw [toksL, List.length_append, r8, hx.2]; omega
/-- What stands behind a head's first word. -/
def hT (k : Nat) (tx : ByteArray) (ns : List ByteArray) : List TK := if k = 6 then tw tx :: tO :: (ns.map tw ++ [tC]) else if k = 8 ∨ k = 12 then [tw tx] else []
theorem headT_hT {k : Nat} (h : k < 17) (tx : ByteArray) (ns : List ByteArray) : headT k tx ns = tw (firstW k tx) :: hT k tx ns := by
  rw [headT_is]
  unfold hT
  rw [if_neg (show ¬ k = 18 by omega), if_neg (show ¬ k = 17 by omega)]
theorem head_good {L : List Lx.Tok} {fin : Nat} (hf : LexFine L) {k i j : Nat} {w tx : ByteArray} {ns : List ByteArray} (h : headP L fin k w i = .ok (tx, ns, j)) : Has L i (hT k tx ns) ∧ j = i + (hT k tx ns).length ∧ unlike ns = true ∧ (k = 6 ∨ k = 8 ∨ k = 12 → nameB tx = true) ∧ (k = 11 → tx = w) ∧
    (¬ (k = 6 ∨ k = 8 ∨ k = 12) → k ≠ 11 → tx = ⟨#[]⟩) ∧ (k ≠ 6 → ns = []) := by
  unfold headP at h
  split at h
  · rename_i e
    subst e
    cases h
    exact ⟨has_nil _ _, rfl, rfl, fun h => by omega, fun _ => rfl, fun _ h => absurd rfl h, fun _ => rfl⟩
  rename_i e11
  split at h
  · rename_i e
    split at h
    · cases h
    · rename_i s hs
      cases h
      obtain ⟨g1, g2, g3⟩ := name_good hf hs
      have e2 : hT k tx [] = [tw tx] := by unfold hT; rw [if_neg (by omega), if_pos e]
      rw [e2]
      exact ⟨g3, rfl, rfl, fun _ => g1, fun h => absurd h e11, fun h => absurd (.inr e) h, fun _ => rfl⟩
  rename_i e8
  split at h
  · rename_i e
    subst e
    split at h
    · cases h
    · rename_i s hs
      split at h
      · cases h
      · rename_i u hu
        split at h
        · cases h
        · rename_i ns' j' hn
          cases h
          obtain ⟨g1, g2, g3⟩ := name_good hf hs
          obtain ⟨t, t1, t2⟩ := take_good hu
          have hop := tok_open hf t1 t2
          have hlt := (List.getElem?_eq_some_iff.1 t1).1
          obtain ⟨rest, r1, r2, r3, r4⟩ := names_good hf _ _ _ _ _ hn (by omega) (by omega)
          rw [List.nil_append] at r1
          subst r1
          have e2 : hT 6 tx ns = [tw tx] ++ ([tO] ++ (ns.map tw ++ [tC])) := rfl
          rw [e2]
          refine ⟨g3.app (hop.app r3 rfl) rfl, ?_, r2, fun _ => g1, fun h => absurd h e11, fun h => absurd (.inl rfl) h, fun h => absurd rfl h⟩
          rw [r4]
          simp only [List.length_append, List.length_map, List.length_cons, List.length_nil]
          omega
  · rename_i e6
    cases h
    have e2 : hT k (⟨#[]⟩ : ByteArray) [] = [] := by unfold hT; rw [if_neg e6, if_neg e8]
    rw [e2]
    exact ⟨has_nil _ _, rfl, rfl, fun h => by
      rcases h with h | h
      · exact absurd h e6
      · exact absurd h e8, fun h => absurd h e11, fun _ _ => rfl, fun _ => rfl⟩
theorem takes_le (t : ByteArray) : takes t ≤ 2 := by
  unfold takes takesL
  split
  · omega
  split
  · omega
  split <;> omega
theorem bracket_good {L : List Lx.Tok} {fin : Nat} (hf : LexFine L) {val : Nat → Nat → PRes Nd} {cl : Nat → Nat → PRes (List Nd)} {deep : Nat} (hd : deep ≤ 60) (hv : Good L val (deep + 1))
    (hc : ∀ i n ks i' n', cl i n = .ok (ks, i', n') → n ≤ 4000 → orderB 16 ks = true ∧ unlike (opsOf ks) = true ∧ (∀ c ∈ ks, rightB c (deep + 1) = true ∧ Lits In64 (fun _ => True) c) ∧ n' = n + sizesN ks ∧ n' ≤ 4000 ∧ Has L i (toksL ks) ∧ i' = i + (toksL ks).length)
    {i n i' n' : Nat} {x : Nd} (h : bracketP L fin val cl i n = .ok (x, i', n')) (hn : n ≤ 4000) :
    rightB x deep = true ∧ x.kind < 17 ∧ n' + 1 = n + sizeN x ∧ n' ≤ 4000 ∧ (∃ body, toksN x = tO :: body ∧ Has L i body ∧ i' = i + body.length) ∧ Lits In64 (fun _ => True) x := by
  unfold bracketP at h
  cases hi : L[i]? with
  | none => rw [hi] at h; cases h
  | some t =>
    rw [hi] at h
    simp only [] at h
    obtain ⟨⟨k, m⟩, hkm⟩ : ∃ q, kindsP (ba t.s) = q := ⟨_, rfl⟩
    rw [hkm] at h
    simp only [] at h
    split at h
    · cases h
    rename_i hcnd
    have hk3 : t.kind = 3 := by
      rcases Nat.decEq t.kind 3 with e | e
      · exact absurd (.inl e) hcnd
      · exact e
    have hm0 : k = 11 → 0 ≤ m := fun e => by
      have : ¬ (m < 0) := fun e2 => hcnd (.inr ⟨e, e2⟩)
      omega
    have hw := (tok_word hf hi hk3).1
    have hinv := kinds_inv hkm
    split at h
    · cases h
    · rename_i tx ns i1 hh
      obtain ⟨a1, a2, a3, a4, a5, a6, a7⟩ := head_good hf hh
      split at h
      · cases h
      · rename_i ks i2 n2 hp
        obtain ⟨rk, p1, p2, p3, p4, p5, p6, p7, p8⟩ := parts_good hv m _ _ _ _ _ _ _ hp hn (by omega)
        rw [List.nil_append] at p1
        subst p1
        split at h
        · cases h
        · rename_i ks' i3 n3 hmk
          unfold closeP at h
          split at h
          · cases h
          · rename_i u hu
            cases h
            obtain ⟨t2, t3, t4⟩ := take_good hu
            have hcl := tok_close hf t3 t4
            -- the kinds
            have hk17 : k < 17 ∧ 5 < k := by
              rcases hinv with ⟨_, e, _⟩ | ⟨e, _⟩
              · simp only [List.mem_cons, List.not_mem_nil, or_false] at e; omega
              · omega
            have hfw : firstW k tx = ba t.s := by
              unfold firstW
              rcases hinv with ⟨e, e2, _⟩ | ⟨e, _⟩
              · rw [if_neg (by simp only [List.mem_cons, List.not_mem_nil, or_false] at e2; omega), e]
              · rw [if_pos e, a5 e]
            have hhd : Has L i (headT k tx ns) := by
              rw [headT_hT hk17.1, hfw]
              exact hw.app a1 rfl
            have hhl : i1 = i + (headT k tx ns).length := by
              rw [headT_hT hk17.1, a2, List.length_cons]; omega
            -- the parts, with the clauses
            have hmore : ∃ cs, ks' = ks ++ cs ∧ (k ≠ 13 → cs = []) ∧ orderB 16 cs = true ∧ unlike (opsOf cs) = true ∧ (∀ c ∈ cs, rightB c (deep + 1) = true ∧ Lits In64 (fun _ => True) c) ∧ n' = n2 + sizesN cs ∧ n' ≤ 4000 ∧ Has L i2 (toksL cs) ∧ i3 = i2 + (toksL cs).length := by
              unfold moreKids at hmk
              split at hmk
              · rename_i e13
                split at hmk
                · cases hmk
                · rename_i cs i4 n4 hcs
                  cases hmk
                  obtain ⟨c1, c2, c3, c4, c5, c6, c7⟩ := hc _ _ _ _ _ hcs p4
                  exact ⟨cs, rfl, fun e => absurd e13 e, c1, c2, c3, c4, c5, c6, c7⟩
              · cases hmk
                exact ⟨[], by simp, fun _ => rfl, rfl, rfl, fun c hc => (by cases hc), by simp [sizesN], p4, by rw [toksL]; exact has_nil _ _, by simp [toksL]⟩
            obtain ⟨cs, m1, m2, m3, m4, m5, m6, m7, m8, m9⟩ := hmore
            subst m1
            have hlen := sizes_len (ks ++ cs)
            rw [sizesN_app] at hlen
            have htk : toksN (.mk k 0 tx ns (ks ++ cs)) = tO :: (headT k tx ns ++ (toksL (ks ++ cs) ++ [tC])) := by
              rw [toksN, if_neg (by omega), if_neg (by omega), if_neg (by omega), if_neg (by omega), if_neg (by omega)]
            refine ⟨?_, hk17.1, ?_, m7, ⟨headT k tx ns ++ (toksL (ks ++ cs) ++ [tC]), htk, ?_, ?_⟩, ?_⟩
            · refine right_make ?_ fun y hy => ?_
              · have hks : k ≠ 13 → ∀ y ∈ ks ++ cs, y.kind < 17 := fun e y hy => by
                  rw [m2 e, List.append_nil] at hy
                  exact (p2 y hy).2.1
                rcases hinv with ⟨_, e2, e3⟩ | ⟨e, e3⟩
                · simp only [List.mem_cons, List.not_mem_nil, or_false] at e2
                  have hln : k ≠ 13 → (ks ++ cs).length = ks.length := fun e => by rw [m2 e, List.append_nil]
                  have hz : ((([] : List Nd).length : Nat) : Int) = 0 := rfl
                  rcases e2 with rfl | rfl | rfl | rfl | rfl | rfl | rfl | rfl | rfl | rfl
                  · have hl := p7 (by rw [e3]; decide)
                    rw [e3] at hl
                    have hl2 : ks.length = 1 := by have : (ks.length : Int) = 1 := hl; omega
                    exact head_make (many := none) (least := 1) (most := 1) rfl hd (a4 (.inl rfl)) (by rw [hln (by decide)]; omega) (by rw [hln (by decide)]; omega) (fun m hm => by cases hm) a3 hks (fun e => absurd e (by decide))
                  · have hne := p8 (by rw [e3]; decide)
                    have hl2 : 1 ≤ ks.length := List.length_pos_iff.2 hne
                    exact head_make (many := some 0) (least := 1) (most := 4000) rfl hd (by rw [a6 (by decide) (by decide)]; rfl) (by rw [hln (by decide)]; omega) (by omega) (fun m hm => by cases hm; rw [a7 (by decide)]; rfl) a3 hks (fun e => absurd e (by decide))
                  · have hl := p7 (by rw [e3]; decide)
                    rw [e3] at hl
                    have hl2 : ks.length = 2 := by have : (ks.length : Int) = 2 := hl; omega
                    exact head_make (many := some 0) (least := 2) (most := 2) rfl hd (a4 (.inr (.inl rfl))) (by rw [hln (by decide)]; omega) (by rw [hln (by decide)]; omega) (fun m hm => by cases hm; rw [a7 (by decide)]; rfl) a3 hks (fun e => absurd e (by decide))
                  · have hl := p7 (by rw [e3]; decide)
                    rw [e3] at hl
                    have hl2 : ks.length = 3 := by have : (ks.length : Int) = 3 := hl; omega
                    exact head_make (many := some 0) (least := 3) (most := 3) rfl hd (by rw [a6 (by decide) (by decide)]; rfl) (by rw [hln (by decide)]; omega) (by rw [hln (by decide)]; omega) (fun m hm => by cases hm; rw [a7 (by decide)]; rfl) a3 hks (fun e => absurd e (by decide))
                  · have hne := p8 (by rw [e3]; decide)
                    have hl2 : 1 ≤ ks.length := List.length_pos_iff.2 hne
                    exact head_make (many := some 0) (least := 1) (most := 4000) rfl hd (by rw [a6 (by decide) (by decide)]; rfl) (by rw [hln (by decide)]; omega) (by omega) (fun m hm => by cases hm; rw [a7 (by decide)]; rfl) a3 hks (fun e => absurd e (by decide))
                  · have hl := p7 (by rw [e3]; decide)
                    rw [e3] at hl
                    have hl2 : ks.length = 1 := by have : (ks.length : Int) = 1 := hl; omega
                    exact head_make (many := some 0) (least := 1) (most := 1) rfl hd (a4 (.inr (.inr rfl))) (by rw [hln (by decide)]; omega) (by rw [hln (by decide)]; omega) (fun m hm => by cases hm; rw [a7 (by decide)]; rfl) a3 hks (fun e => absurd e (by decide))
                  · have hl := p7 (by rw [e3]; decide)
                    rw [e3] at hl
                    have hl2 : ks.length = 1 := by have : (ks.length : Int) = 1 := hl; omega
                    obtain ⟨y0, rfl⟩ : ∃ y, ks = [y] := List.length_eq_one_iff.1 hl2
                    refine head_make (many := some 0) (least := 1) (most := 4000) rfl hd (by rw [a6 (by decide) (by decide)]; rfl) (by simp) (by omega) (fun m hm => by cases hm; rw [a7 (by decide)]; rfl) a3 (fun e => absurd rfl e) (fun _ => ⟨?_, fun y hy => ?_⟩)
                    · unfold clausesB
                      rw [show ([y0] ++ cs).drop 1 = cs from rfl, m3, m4]
                      rfl
                    · have : y = y0 := by simpa using hy
                      rw [this]
                      exact (p2 y0 (by simp)).2.1
                  · have hl := p7 (by rw [e3]; decide)
                    rw [e3] at hl
                    have hl2 : ks.length = 2 := by have : (ks.length : Int) = 2 := hl; omega
                    exact head_make (many := some 0) (least := 2) (most := 2) rfl hd (by rw [a6 (by decide) (by decide)]; rfl) (by rw [hln (by decide)]; omega) (by rw [hln (by decide)]; omega) (fun m hm => by cases hm; rw [a7 (by decide)]; rfl) a3 hks (fun e => absurd e (by decide))
                  · have hl := p7 (by rw [e3]; decide)
                    rw [e3] at hl
                    have hl2 : ks.length = 2 := by have : (ks.length : Int) = 2 := hl; omega
                    exact head_make (many := some 0) (least := 2) (most := 2) rfl hd (by rw [a6 (by decide) (by decide)]; rfl) (by rw [hln (by decide)]; omega) (by rw [hln (by decide)]; omega) (fun m hm => by cases hm; rw [a7 (by decide)]; rfl) a3 hks (fun e => absurd e (by decide))
                  · have hl := p7 (by rw [e3]; decide)
                    rw [e3] at hl
                    have hl2 : ks.length = 3 := by have : (ks.length : Int) = 3 := hl; omega
                    exact head_make (many := some 0) (least := 3) (most := 3) rfl hd (by rw [a6 (by decide) (by decide)]; rfl) (by rw [hln (by decide)]; omega) (by rw [hln (by decide)]; omega) (fun m hm => by cases hm; rw [a7 (by decide)]; rfl) a3 hks (fun e => absurd e (by decide))
                · subst e
                  have h0 := hm0 rfl
                  have hl := p7 (by simpa using h0)
                  have hcs := m2 (by decide)
                  subst hcs
                  rw [List.append_nil] at hks ⊢
                  have htx : tx = ba t.s := a5 rfl
                  have h2 := takes_le (ba t.s)
                  refine head_make (many := some 0) (least := 0) (most := 2) rfl hd ?_ (Nat.zero_le _) (by omega) (fun m hm => by cases hm; rw [a7 (by decide)]; rfl) a3 hks (fun e => absurd e (by decide))
                  have : takes tx = (ks.length : Int) := by rw [htx, hl, e3]
                  exact decide_eq_true this
              · rcases List.mem_append.1 hy with hy | hy
                · exact (p2 y hy).1
                · exact (m5 y hy).1
            · rw [sizeN, sizesN_app]; omega
            · rw [toksL_app]
              refine hhd.app ?_ rfl
              rw [hhl] at p5
              have := (p5.app (m8.app hcl m9) (by rw [p6, hhl]))
              simpa using this
            · rw [toksL_app]
              simp only [List.length_append, List.length_cons, List.length_nil]
              omega
            · refine lits_make (by omega) fun y hy => ?_
              rcases List.mem_append.1 hy with hy | hy
              · exact (p2 y hy).2.2
              · exact (m5 y hy).2
theorem leaf_good {L : List Lx.Tok} (hf : LexFine L) {i : Nat} {t : Lx.Tok} {deep : Nat} (hd : deep ≤ 60) (hi : L[i]? = some t) (h1 : t.kind ≠ 1) (h2 : t.kind ≠ 2) : rightB (leafP t) deep = true ∧ (leafP t).kind < 17 ∧ sizeN (leafP t) = 1 ∧ toksN (leafP t) = [tk t] ∧ Lits In64 (fun _ => True) (leafP t) := by
  obtain ⟨f3, f4, f5, _, _, f6, f7⟩ := hf t (List.mem_of_getElem? hi)
  unfold leafP
  split
  · rename_i e
    obtain ⟨g1, g2⟩ := f4 e
    refine ⟨?_, by show 1 < 17; decide, by rw [sizeN, sizesN], ?_, ?_⟩
    · rw [rightB_is, kidsB_all]
      simp [Nd.kind, Nd.n, Nd.text, Nd.names, Nd.kids, headB, shapeOf, textB, unlike, unl, hd]
    · rw [toksN, if_pos rfl]
      unfold tk
      rw [e, g1]
    · unfold Lits; exact ⟨fun _ => g2, fun _ => trivial, by unfold LitsL; trivial⟩
  split
  · rename_i e4 e
    obtain ⟨g1, g2⟩ := f5 e
    refine ⟨?_, by show 3 < 17; decide, by rw [sizeN, sizesN], ?_, ?_⟩
    · rw [rightB_is, kidsB_all]
      have hz : (ba t.s).size ≤ 65536 := g2
      simp [Nd.kind, Nd.n, Nd.text, Nd.names, Nd.kids, headB, shapeOf, textB, unlike, unl, hd, hz]
    · rw [toksN, if_neg (by decide), if_neg (by decide), if_pos rfl, bl_ba]
      unfold tk
      rw [e, g1]
    · unfold Lits; exact ⟨fun e => absurd e (by decide), fun _ => trivial, by unfold LitsL; trivial⟩
  rename_i e4 e5
  have e3 : t.kind = 3 := by omega
  obtain ⟨g1, g2⟩ := f3 e3
  have htk : tk t = tw (ba t.s) := by unfold tk tw; rw [e3, g2, bl_ba]
  split
  · rename_i e
    refine ⟨?_, by show 2 < 17; decide, by rw [sizeN, sizesN], ?_, ?_⟩
    · rw [rightB_is, kidsB_all]
      simp [Nd.kind, Nd.n, Nd.text, Nd.names, Nd.kids, headB, shapeOf, textB, unlike, unl, hd]
    · rw [toksN, if_neg (by decide), if_pos rfl, if_pos rfl, htk, e]
    · unfold Lits; exact ⟨fun e => absurd e (by decide), fun _ => trivial, by unfold LitsL; trivial⟩
  rename_i n1
  split
  · rename_i e
    refine ⟨?_, by show 2 < 17; decide, by rw [sizeN, sizesN], ?_, ?_⟩
    · rw [rightB_is, kidsB_all]
      simp [Nd.kind, Nd.n, Nd.text, Nd.names, Nd.kids, headB, shapeOf, textB, unlike, unl, hd]
    · rw [toksN, if_neg (by decide), if_pos rfl, if_neg (by decide), htk, e]
    · unfold Lits; exact ⟨fun e => absurd e (by decide), fun _ => trivial, by unfold LitsL; trivial⟩
  rename_i n2
  split
  · rename_i e
    refine ⟨?_, by show 4 < 17; decide, by rw [sizeN, sizesN], ?_, ?_⟩
    · rw [rightB_is, kidsB_all]
      simp [Nd.kind, Nd.n, Nd.text, Nd.names, Nd.kids, headB, shapeOf, textB, unlike, unl, hd]
    · rw [toksN, if_neg (by decide), if_neg (by decide), if_neg (by decide), if_pos rfl, htk, e]
    · unfold Lits; exact ⟨fun e => absurd e (by decide), fun _ => trivial, by unfold LitsL; trivial⟩
  · rename_i n3
    have hnm : nameB (ba t.s) = true := by
      unfold nameB
      rw [(tok_word hf hi e3).2, decide_eq_false n1, decide_eq_false n2, decide_eq_false n3]
      rfl
    refine ⟨?_, by show 5 < 17; decide, by rw [sizeN, sizesN], ?_, ?_⟩
    · rw [rightB_is, kidsB_all]
      simp [Nd.kind, Nd.n, Nd.text, Nd.names, Nd.kids, headB, shapeOf, textB, unlike, unl, hd, hnm]
    · rw [toksN, if_neg (by decide), if_neg (by decide), if_neg (by decide), if_neg (by decide), if_pos rfl, htk]
    · unfold Lits; exact ⟨fun e => absurd e (by decide), fun _ => trivial, by unfold LitsL; trivial⟩
/-- What is read is right where it stands. -/
theorem value_good {L : List Lx.Tok} {fin : Nat} (hf : LexFine L) : ∀ (d deep : Nat), deep + d = 61 → Good L (valueD L fin d) deep := by
  intro d
  induction d using Nat.strongRecOn with
  | ind d ih =>
    intro deep hdd i n x i' n' h hn
    cases d with
    | zero =>
      rw [valueD] at h
      unfold valueP at h
      cases hi : L[i]? with
      | none => rw [hi] at h; cases h
      | some t =>
        rw [hi] at h
        simp only [] at h
        split at h
        · cases h
        · rw [if_pos (.inr (by first | rfl | trivial))] at h
          cases h
    | succ d =>
      rw [valueD_succ] at h
      unfold valueP at h
      cases hi : L[i]? with
      | none => rw [hi] at h; cases h
      | some t =>
        rw [hi] at h
        simp only [] at h
        split at h
        · cases h
        rename_i k2
        split at h
        · cases h
        rename_i kq
        have hn1 : n + 1 ≤ 4000 := by
          have : ¬ 4000 < n + 1 := fun e => kq (.inl e)
          omega
        have hd60 : deep ≤ 60 := by omega
        split at h
        · rename_i k1
          have hcl : ∀ i n ks i' n', clD L fin d i n = .ok (ks, i', n') → n ≤ 4000 → orderB 16 ks = true ∧ unlike (opsOf ks) = true ∧ (∀ c ∈ ks, rightB c (deep + 1) = true ∧ Lits In64 (fun _ => True) c) ∧ n' = n + sizesN ks ∧ n' ≤ 4000 ∧ Has L i (toksL ks) ∧ i' = i + (toksL ks).length := by
            intro i n ks i' n' hk hn
            have := fun (dok : Bool) (val : Nat → Nat → PRes Nd) hd' (hk : clausesP L fin dok val 4002 [] [] 16 i n = .ok (ks, i', n')) => clauses_good hf (deep := deep + 1) hd' 4002 [] ks [] 16 i n i' n' hk hn (by omega)
            have hfin : ∀ (dok : Bool) (val : Nat → Nat → PRes Nd), (dok = true → deep + 1 ≤ 60 ∧ Good L val (deep + 1 + 1)) → clausesP L fin dok val 4002 [] [] 16 i n = .ok (ks, i', n') → orderB 16 ks = true ∧ unlike (opsOf ks) = true ∧ (∀ c ∈ ks, rightB c (deep + 1) = true ∧ Lits In64 (fun _ => True) c) ∧ n' = n + sizesN ks ∧ n' ≤ 4000 ∧ Has L i (toksL ks) ∧ i' = i + (toksL ks).length := fun dok val h1 h2 => by
              obtain ⟨rest, r1, r2, r3, r4, r5, r6, r7, r8⟩ := this dok val h1 h2
              rw [List.nil_append] at r1
              subst r1
              exact ⟨r2, r3, r4, r5, r6, r7, r8⟩
            cases d with
            | zero => exact hfin false _ (fun e => by cases e) hk
            | succ d2 => exact hfin true _ (fun _ => ⟨by omega, ih d2 (by omega) (deep + 1 + 1) (by omega)⟩) hk
          obtain ⟨b1, b2, b3, b4, ⟨body, b5, b6, b7⟩, b8⟩ := bracket_good hf hd60 (ih d (by omega) (deep + 1) (by omega)) hcl h hn1
          have hop := tok_open hf hi k1
          refine ⟨b1, b2, by omega, b4, ?_, ?_, b8⟩
          · rw [b5]; exact hop.app b6 rfl
          · rw [b5, List.length_cons]; omega
        · rename_i k1
          cases h
          obtain ⟨l1, l2, l3, l4, l5⟩ := leaf_good hf hd60 hi k1 k2
          exact ⟨l1, l2, by rw [l3], by omega, by rw [l4]; exact has_one hi, by rw [l4]; rfl, l5⟩
end Go.Proofs.YtaklmocjaokkpaaGreatDoor.Tr
namespace Go.Proofs.YtaklmocjaokkpaaGreatDoor.Tr
set_option linter.unusedVariables false
set_option linter.unusedSimpArgs false

/-! Where the lexer's errors stand. -/
theorem at_le {s : List UInt8} {p : Nat} {c : UInt8} (h : s[p]? = some c) : p ≤ s.length := Nat.le_of_lt (List.getElem?_eq_some_iff.1 h).1
theorem hexAt_place {s : List UInt8} {p x e : Nat} (h : Lx.hexAt s p = .error (x, e)) : x ≤ s.length ∧ e ≠ 0 := by
  unfold Lx.hexAt at h
  rcases hc : s[p]? with _ | c
  · rw [hc] at h; cases h; exact ⟨Nat.le_refl _, by decide⟩
  · rw [hc] at h
    simp only [] at h
    split at h
    · cases h; exact ⟨at_le hc, by decide⟩
    · cases h
theorem esc_place {s : List UInt8} {p x e : Nat} (h : Lx.esc s p = .error (x, e)) : x ≤ s.length ∧ e ≠ 0 := by
  unfold Lx.esc at h
  rcases hc : s[p]? with _ | c
  · rw [hc] at h; cases h; exact ⟨Nat.le_refl _, by decide⟩
  · rw [hc] at h
    simp only [] at h
    split at h
    · cases h
    · split at h
      · cases h
      · split at h
        · rcases h1 : Lx.hexAt s (p + 1) with ⟨y, f⟩ | d
          · rw [h1] at h; cases h; exact hexAt_place h1
          · rw [h1] at h
            simp only [] at h
            rcases h2 : Lx.hexAt s (p + 2) with ⟨y, f⟩ | d2
            · rw [h2] at h; cases h; exact hexAt_place h2
            · rw [h2] at h; cases h
        · cases h; exact ⟨at_le hc, by decide⟩
theorem text_place {s : List UInt8} : ∀ (k p : Nat) (out : List UInt8) {x e : Nat}, Lx.text s k p out = .error (x, e) → x ≤ s.length ∧ e ≠ 0 := by
  intro k
  induction k with
  | zero => intro p out x e h; cases h; exact ⟨Nat.le_refl _, by decide⟩
  | succ k ih =>
    intro p out x e h
    rw [Lx.text] at h
    rcases hc : s[p]? with _ | c
    · rw [hc] at h; cases h; exact ⟨Nat.le_refl _, by decide⟩
    · rw [hc] at h
      simp only [] at h
      split at h
      · cases h
      · split at h
        · rcases he : Lx.esc s (p + 1) with ⟨y, f⟩ | ⟨b, r⟩
          · rw [he] at h; cases h; exact esc_place he
          · rw [he] at h; exact ih _ _ h
        · exact ih _ _ h
theorem wend_place {s : List UInt8} : ∀ (k p : Nat) {x e : Nat}, Lx.wordEnd s k p = .error (x, e) → x ≤ s.length ∧ e ≠ 0 := by
  intro k
  induction k with
  | zero => intro p x e h; cases h
  | succ k ih =>
    intro p x e h
    rw [Lx.wordEnd] at h
    rcases hc : s[p]? with _ | c
    · rw [hc] at h; cases h
    · rw [hc] at h
      simp only [] at h
      split at h
      · cases h
      · split at h
        · cases h; exact ⟨at_le hc, by decide⟩
        · exact ih _ h
theorem wtok_place {w : List UInt8} {p x e : Nat} (h : Lx.wordTok w p = .error (x, e)) : x = p ∧ e ≠ 0 := by
  unfold Lx.wordTok at h
  split at h
  · split at h
    · cases h
    · cases h; exact ⟨rfl, by decide⟩
  · cases h
theorem next_place {s : List UInt8} {p x e : Nat} (h : Lx.next s p = .error (x, e)) : x ≤ s.length ∧ e ≠ 0 := by
  unfold Lx.next at h
  rcases hc : s[p]? with _ | c
  · rw [hc] at h; cases h
  · rw [hc] at h
    simp only [] at h
    split at h
    · cases h
    split at h
    · cases h
    split at h
    · cases h
    split at h
    · cases h
    split at h
    · rcases ht : Lx.text s (s.length + 1) (p + 1) [] with ⟨y, f⟩ | ⟨o, q⟩
      · rw [ht] at h; cases h; exact text_place _ _ _ ht
      · rw [ht] at h; cases h
    · rcases ht : Lx.wordEnd s (s.length + 1) p with ⟨y, f⟩ | q
      · rw [ht] at h; cases h; exact wend_place _ _ ht
      · rw [ht] at h
        simp only [] at h
        rcases hw : Lx.wordTok ((s.drop p).take (q - p)) p with ⟨y, f⟩ | t
        · rw [hw] at h; cases h
          have := wtok_place hw
          exact ⟨by rw [this.1]; exact at_le hc, this.2⟩
        · rw [hw] at h; cases h
theorem toks_place {s : List UInt8} : ∀ (k p : Nat) (l : List Lx.Tok) {x e : Nat}, Lx.toks s k p l = .error (x, e) → x ≤ s.length ∧ e ≠ 0 := by
  intro k
  induction k with
  | zero => intro p l x e h; cases h
  | succ k ih =>
    intro p l x e h
    rw [Lx.toks] at h
    split at h
    · rcases hn : Lx.next s p with ⟨y, f⟩ | ⟨t, q⟩
      · rw [hn] at h; cases h; exact next_place hn
      · rw [hn] at h; exact ih _ _ h
    · cases h
theorem tokens_place {s : List UInt8} {x e : Nat} (h : Lx.tokens s = .error (x, e)) : x ≤ s.length ∧ e ≠ 0 := by
  unfold Lx.tokens at h
  split at h
  · cases h; exact ⟨by omega, by decide⟩
  · exact toks_place _ _ _ h

/-! Where the parser's errors stand. -/
def ErrAt (L : List Lx.Tok) (fin : Nat) (q : Nat × Nat) : Prop := (q.1 = fin ∨ ∃ t ∈ L, q.1 = t.at_) ∧ q.2 ≠ 0
def Errs {α : Type} (L : List Lx.Tok) (fin : Nat) (val : Nat → Nat → PRes α) : Prop := ∀ i n q, val i n = .error q → ErrAt L fin q
section
variable {L : List Lx.Tok} {fin : Nat}
theorem err_fin (e : Nat) (h : e ≠ 0) : ErrAt L fin (fin, e) := ⟨.inl rfl, h⟩
theorem err_tok {i : Nat} {t : Lx.Tok} (ht : L[i]? = some t) (e : Nat) (h : e ≠ 0) : ErrAt L fin (t.at_, e) := ⟨.inr ⟨t, List.mem_of_getElem? ht, rfl⟩, h⟩
theorem name_errs {no : List ByteArray} {i : Nat} {q : Nat × Nat} (h : nameP L fin no i = .error q) : ErrAt L fin q := by
  unfold nameP at h
  rcases hi : L[i]? with _ | t
  · rw [hi] at h; cases h; exact err_fin _ (by decide)
  · rw [hi] at h
    simp only [] at h
    split at h
    · cases h
    · cases h; exact err_tok hi _ (by decide)
theorem take_errs {k i : Nat} {q : Nat × Nat} (h : takeP L fin k i = .error q) : ErrAt L fin q := by
  unfold takeP at h
  rcases hi : L[i]? with _ | t
  · rw [hi] at h; cases h; exact err_fin _ (by decide)
  · rw [hi] at h
    simp only [] at h
    split at h
    · cases h
    · cases h; exact err_tok hi _ (by decide)
theorem more_errs {many : Int} {len i : Nat} {q : Nat × Nat} (h : moreP L fin many len i = .error q) : ErrAt L fin q := by
  unfold moreP at h
  split at h
  · cases h
  split at h
  · split at h
    · cases h
    · rcases hi : L[i]? with _ | t
      · rw [hi] at h; cases h; exact err_fin _ (by decide)
      · rw [hi] at h; cases h
  · cases h
theorem parts_errs {val : Nat → Nat → PRes Nd} (hv : Errs L fin val) {many : Int} : ∀ (k : Nat) (acc : List Nd) (i n : Nat) {q : Nat × Nat}, partsP L fin val many k acc i n = .error q → ErrAt L fin q := by
  intro k
  induction k with
  | zero => intro acc i n q h; cases h
  | succ k ih =>
    intro acc i n q h
    unfold partsP at h
    split at h
    · rename_i e he; cases h; exact more_errs he
    · cases h
    · split at h
      · rename_i e he; cases h; exact hv _ _ _ he
      · exact ih _ _ _ h
theorem names_errs : ∀ (k : Nat) (ns : List ByteArray) (i : Nat) {q : Nat × Nat}, namesP L fin k ns i = .error q → ErrAt L fin q := by
  intro k
  induction k with
  | zero => intro ns i q h; cases h
  | succ k ih =>
    intro ns i q h
    rw [namesP] at h
    rcases hi : L[i]? with _ | t
    · rw [hi] at h; cases h; exact err_fin _ (by decide)
    · rw [hi] at h
      simp only [] at h
      split at h
      · cases h
      · split at h
        · rename_i e he; cases h; exact name_errs he
        · exact ih _ _ h
theorem some_errs : ∀ (k : Nat) (ns : List ByteArray) (i : Nat) {q : Nat × Nat}, someP L fin k ns i = .error q → ErrAt L fin q := by
  intro k
  induction k with
  | zero => intro ns i q h; cases h
  | succ k ih =>
    intro ns i q h
    rw [someP] at h
    split at h
    · rename_i e he; cases h; exact name_errs he
    · exact ih _ _ h
theorem head_errs {k : Nat} {w : ByteArray} {i : Nat} {q : Nat × Nat} (h : headP L fin k w i = .error q) : ErrAt L fin q := by
  unfold headP at h
  split at h
  · cases h
  split at h
  · split at h
    · rename_i e he; cases h; exact name_errs he
    · cases h
  split at h
  · split at h
    · rename_i e he; cases h; exact name_errs he
    · split at h
      · rename_i e he; cases h; exact take_errs he
      · split at h
        · rename_i e he; cases h; exact names_errs _ _ _ he
        · cases h
  · cases h
theorem close_errs {k : Nat} {tx : ByteArray} {ns : List ByteArray} {ks : List Nd} {i n : Nat} {q : Nat × Nat} (h : closeP L fin k tx ns ks i n = .error q) : ErrAt L fin q := by
  unfold closeP at h
  split at h
  · rename_i e he; cases h; exact take_errs he
  · cases h
theorem body_errs {val : Nat → Nat → PRes Nd} (hv : Errs L fin val) {k : Nat} {tx : ByteArray} {i n : Nat} {q : Nat × Nat} (h : bodyP L fin val k tx i n = .error q) : ErrAt L fin q := by
  unfold bodyP at h
  split at h
  · rename_i e he; cases h; exact some_errs _ _ _ he
  · split at h
    · rename_i e he; cases h; exact parts_errs hv _ _ _ _ he
    · exact close_errs h
theorem op_errs {k : Nat} {ops : List ByteArray} {i : Nat} {q : Nat × Nat} (h : opP L fin k ops i = .error q) : ErrAt L fin q := by
  unfold opP at h
  split at h
  · split at h
    · rename_i e he; cases h; exact name_errs he
    · cases h
  · cases h
theorem clauses_errs {dok : Bool} {val : Nat → Nat → PRes Nd} (hv : dok = true → Errs L fin val) : ∀ (f : Nat) (out : List Nd) (ops : List ByteArray) (last i n : Nat) {q : Nat × Nat}, clausesP L fin dok val f out ops last i n = .error q → ErrAt L fin q := by
  intro f
  induction f with
  | zero => intro out ops last i n q h; cases h
  | succ f ih =>
    intro out ops last i n q h
    rw [clausesP] at h
    rcases hi : L[i]? with _ | t
    · rw [hi] at h; cases h; exact err_fin _ (by decide)
    · rw [hi] at h
      simp only [] at h
      split at h
      · cases h
      split at h
      · cases h; exact err_tok hi _ (by decide)
      split at h
      · cases h; exact err_tok hi _ (by decide)
      rename_i hq
      have hdk : dok = true := by
        cases dok with
        | true => rfl
        | false => exact absurd (.inr rfl) hq
      rcases hj : L[i + 1]? with _ | u
      · rw [hj] at h; cases h; exact err_fin _ (by decide)
      · rw [hj] at h
        simp only [] at h
        split at h
        · cases h; exact err_tok hj _ (by decide)
        split at h
        · rename_i e he; cases h; exact op_errs he
        · split at h
          · rename_i e he; cases h; exact body_errs (hv hdk) he
          · exact ih _ _ _ _ _ h
theorem bracket_errs {val : Nat → Nat → PRes Nd} {cl : Nat → Nat → PRes (List Nd)} (hv : Errs L fin val) (hc : Errs L fin cl) : Errs L fin (bracketP L fin val cl) := by
  intro i n q h
  unfold bracketP at h
  rcases hi : L[i]? with _ | t
  · rw [hi] at h; cases h; exact err_fin _ (by decide)
  · rw [hi] at h
    simp only [] at h
    split at h
    · cases h; exact err_tok hi _ (by decide)
    split at h
    · rename_i e he; cases h; exact head_errs he
    split at h
    · rename_i e he; cases h; exact parts_errs hv _ _ _ _ he
    split at h
    · rename_i e he
      cases h
      unfold moreKids at he
      split at he
      · split at he
        · rename_i e2 he2; cases he; exact hc _ _ _ he2
        · cases he
      · cases he
    · exact close_errs h
theorem value_errs {br : Nat → Nat → PRes Nd} {dok : Bool} (hb : dok = true → Errs L fin br) : Errs L fin (valueP L fin br dok) := by
  intro i n q h
  unfold valueP at h
  rcases hi : L[i]? with _ | t
  · rw [hi] at h; cases h; exact err_fin _ (by decide)
  · rw [hi] at h
    simp only [] at h
    split at h
    · cases h; exact err_tok hi _ (by decide)
    split at h
    · cases h; exact err_tok hi _ (by decide)
    rename_i hq
    split at h
    · exact hb (by
        cases dok with
        | true => rfl
        | false => exact absurd (.inr rfl) hq) _ _ _ h
    · cases h
theorem valueD_errs : ∀ d, Errs L fin (valueD L fin d) := by
  intro d
  induction d using Nat.strongRecOn with
  | ind d ih =>
    match d with
    | 0 => exact value_errs (fun e => by cases e)
    | 1 => exact value_errs fun _ => bracket_errs (ih 0 (by omega)) (fun i n q h => clauses_errs (fun e => by cases e) _ _ _ _ _ _ h)
    | d + 2 => exact value_errs fun _ => bracket_errs (ih (d + 1) (by omega)) (fun i n q h => clauses_errs (fun _ => ih d (by omega)) _ _ _ _ _ _ h)
end

/-! The lexer's tokens. -/
theorem text_len {s : List UInt8} : ∀ (k p : Nat) (out : List UInt8) {o : List UInt8} {q : Nat}, Lx.text s k p out = .ok (o, q) → o.length + p < out.length + q ∧ q ≤ s.length := by
  intro k
  induction k with
  | zero => intro p out o q h; cases h
  | succ k ih =>
    intro p out o q h
    rw [Lx.text] at h
    rcases hc : s[p]? with _ | c
    · rw [hc] at h; cases h
    · have hlt := (List.getElem?_eq_some_iff.1 hc).1
      rw [hc] at h
      simp only [] at h
      split at h
      · cases h; exact ⟨by omega, by omega⟩
      · split at h
        · rcases he : Lx.esc s (p + 1) with ⟨y, f⟩ | ⟨b, r⟩
          · rw [he] at h; cases h
          · rw [he] at h
            have hr : p + 2 ≤ r := by
              unfold Lx.esc at he
              rcases hc2 : s[p + 1]? with _ | c2
              · rw [hc2] at he; cases he
              · rw [hc2] at he
                simp only [] at he
                split at he
                · cases he; omega
                split at he
                · cases he; omega
                split at he
                · split at he
                  · cases he
                  · split at he
                    · cases he
                    · cases he; omega
                · cases he
            have := ih _ _ h
            rw [List.length_append, List.length_singleton] at this
            exact ⟨by omega, this.2⟩
        · have := ih _ _ h
          rw [List.length_append, List.length_singleton] at this
          exact ⟨by omega, this.2⟩
def TokOk (t : Lx.Tok) : Prop := (t.kind = 3 → Lx.wordB t.s = true ∧ t.n = 0) ∧ (t.kind = 4 → t.s = [] ∧ In64 t.n) ∧ (t.kind = 5 → t.n = 0 ∧ t.s.length ≤ 65536) ∧ (t.kind = 1 → t.s = [] ∧ t.n = 0) ∧ (t.kind = 2 → t.s = [] ∧ t.n = 0) ∧ 1 ≤ t.kind ∧ t.kind ≤ 5
theorem tokOk_leaf {s : List UInt8} {t : Lx.Tok} (hs : s.length ≤ 65536) (hw : Lx.WordAt s t) (h : t.kind = 3 ∨ t.kind = 4) (h3 : t.kind = 3 → t.n = 0) (h4 : t.kind = 4 → t.s = [] ∧ In64 t.n) : TokOk t := by
  refine ⟨fun hk => ⟨?_, h3 hk⟩, h4, fun hk => by omega, fun hk => by omega, fun hk => by omega, by omega, by omega⟩
  obtain ⟨p, q, e1, e2, e3, e4, e5⟩ := hw hk
  have el : t.s.length = q - p := by rw [e1, List.length_take, List.length_drop]; omega
  unfold Lx.wordB
  simp only [Bool.and_eq_true, Bool.not_eq_true', decide_eq_true_eq, List.all_eq_true]
  refine ⟨⟨⟨?_, by omega⟩, fun c hc => ?_⟩, e4⟩
  · cases hts : t.s with
    | nil => rw [hts] at el; simp at el; omega
    | cons => rfl
  · obtain ⟨i, hi, he⟩ := List.mem_iff_getElem.1 hc
    obtain ⟨c', h1, h2, h3, h4⟩ := e5 (p + i) (by omega) (by omega)
    have hg : t.s[i]? = some c := by rw [List.getElem?_eq_getElem hi, he]
    rw [e1, List.getElem?_take_of_lt (by omega), List.getElem?_drop, h1] at hg
    cases hg
    exact ⟨⟨h2, h3⟩, h4⟩
theorem next_fine {s : List UInt8} (hs : s.length ≤ 65536) {p q : Nat} {l : List Lx.Tok} (hp : p < s.length) (h : Lx.nextR s p = .ok (l, q)) : ∀ t ∈ l, TokOk t := by
  have hwa := Lx.next_wordAt hp h
  have hc := List.getElem?_eq_getElem hp
  generalize s[p] = c at hc
  by_cases h1 : Lx.blank c = true
  · rw [Lx.next_blank hc h1] at h; cases h; simp
  · by_cases h2 : c = 59
    · subst h2; rw [Lx.next_note hc] at h; cases h; simp
    · by_cases h3 : c = 40
      · subst h3; rw [Lx.next_open hc] at h; cases h; intro t ht; simp at ht; subst ht
        exact ⟨fun e => (by cases e), fun e => (by cases e), fun e => (by cases e), fun _ => ⟨rfl, rfl⟩, fun e => (by cases e), show 1 ≤ 1 by decide, show 1 ≤ 5 by decide⟩
      · by_cases h4 : c = 41
        · subst h4; rw [Lx.next_close hc] at h; cases h; intro t ht; simp at ht; subst ht
          exact ⟨fun e => (by cases e), fun e => (by cases e), fun e => (by cases e), fun e => (by cases e), fun _ => ⟨rfl, rfl⟩, show 1 ≤ 2 by decide, show 2 ≤ 5 by decide⟩
        · by_cases h5 : c = 34
          · subst h5; rw [Lx.next_text hc] at h
            unfold Lx.textR at h
            rcases ht : Lx.text s (s.length + 1) (p + 1) [] with x | ⟨o, r⟩
            · rw [ht] at h; cases h
            · rw [ht] at h; cases h; intro t ht'; simp at ht'; subst ht'
              have hl := text_len _ _ _ ht
              rw [List.length_nil] at hl
              exact ⟨fun e => (by cases e), fun e => (by cases e), fun _ => ⟨rfl, show o.length ≤ 65536 by omega⟩, fun e => (by cases e), fun e => (by cases e), show 1 ≤ 5 by decide, show 5 ≤ 5 by decide⟩
          · have hb : Lx.blank c = false := by simpa using h1
            rw [Lx.next_word hc hb h2 h3 h4 h5] at h
            unfold Lx.wordR at h
            rcases ht : Lx.wordEnd s (s.length + 1) p with x | r
            · rw [ht] at h; cases h
            · rw [ht] at h
              simp only [] at h
              rcases hw : Lx.wordTok ((s.drop p).take (r - p)) p with x | t
              · rw [hw] at h; cases h
              · rw [hw] at h; cases h
                intro t' ht'
                have hwt := hwa t' ht'
                simp only [List.mem_singleton] at ht'
                subst ht'
                unfold Lx.wordTok at hw
                split at hw
                · split at hw
                  · rename_i v hv
                    cases hw
                    have hb := Lib.parseIntB_bounds hv
                    exact tokOk_leaf hs hwt (.inr rfl) (fun e => by cases e) (fun _ => ⟨rfl, show -9223372036854775808 ≤ v ∧ v ≤ 9223372036854775807 by simp at hb; omega⟩)
                  · cases hw
                · cases hw
                  exact tokOk_leaf hs hwt (.inl rfl) (fun _ => rfl) (fun e => by cases e)
theorem toks_fine {s : List UInt8} (hs : s.length ≤ 65536) : ∀ {k p : Nat} {l m : List Lx.Tok}, (∀ t ∈ l, TokOk t) → l.length ≤ p → Lx.toks s k p l = .ok m → (∀ t ∈ m, TokOk t) ∧ (p ≤ s.length → m.length ≤ s.length) := by
  intro k
  induction k with
  | zero => intro p l m hr hlp h; cases h; exact ⟨hr, fun e => by omega⟩
  | succ k ih =>
    intro p l m hr hlp h
    by_cases hlt : p < s.length
    · rcases hn : Lx.nextR s p with x | ⟨t, q⟩
      · rw [Lx.toks_err hlt hn] at h; cases h
      · rw [Lx.toks_step hlt hn] at h
        have hl := Lx.next_lt hlt hn
        have := ih (fun u hu => by
          rcases List.mem_append.1 hu with hu | hu
          · exact hr u hu
          · exact next_fine hs hlt hn u hu) (by rw [List.length_append]; omega) h
        exact ⟨this.1, fun _ => this.2 hl.2.1⟩
    · rw [Lx.toks_end hlt] at h; cases h; exact ⟨hr, fun e => by omega⟩
theorem tokens_le {s : List UInt8} {L : List Lx.Tok} (h : Lx.tokens s = .ok L) : s.length ≤ 65536 := by
  unfold Lx.tokens at h
  split at h
  · cases h
  · omega
theorem tokens_fine {s : List UInt8} {L : List Lx.Tok} (h : Lx.tokens s = .ok L) : LexFine L ∧ L.length ≤ s.length := by
  have := toks_fine (tokens_le h) (fun t ht => by cases ht) (Nat.zero_le _) (Lx.tokens_toks h)
  exact ⟨this.1, this.2 (Nat.zero_le _)⟩

/-! The plain parser. -/
theorem parse_errs {s : List UInt8} {p e : Nat} (h : parseP s = .error (p, e)) : p ≤ s.length ∧ e ≠ 0 := by
  unfold parseP at h
  rcases ht : Lx.tokens s with ⟨y, f⟩ | L
  · rw [ht] at h; cases h; exact tokens_place ht
  · rw [ht] at h
    simp only [] at h
    have hg := Lx.tokens_good ht
    have hle : ∀ q, ErrAt L s.length q → q.1 ≤ s.length ∧ q.2 ≠ 0 := fun q hq => by
      rcases hq.1 with e1 | ⟨t, ht, e1⟩
      · exact ⟨by omega, hq.2⟩
      · have := (hg.2 t ht).1
        exact ⟨by omega, hq.2⟩
    rcases hv : valueD L s.length 60 0 0 with q | ⟨x, i, n⟩
    · rw [hv] at h; cases h; exact hle _ (valueD_errs 60 _ _ _ hv)
    · rw [hv] at h
      simp only [] at h
      rcases hi : L[i]? with _ | t
      · rw [hi] at h; cases h
      · rw [hi] at h; cases h; exact hle _ (err_tok hi _ (by decide))
/-- What is parsed may be, and its tokens are the source's. -/
theorem parse_good {s : List UInt8} {x : Nd} (h : parseP s = .ok x) : mayB x = true ∧ Lits In64 (fun _ => True) x ∧ ∃ L, Lx.tokens s = .ok L ∧ L.map tk = toksN x := by
  unfold parseP at h
  rcases ht : Lx.tokens s with q | L
  · rw [ht] at h; cases h
  · rw [ht] at h
    simp only [] at h
    rcases hv : valueD L s.length 60 0 0 with q | ⟨y, i, n⟩
    · rw [hv] at h; cases h
    · rw [hv] at h
      simp only [] at h
      rcases hi : L[i]? with _ | t
      · rw [hi] at h
        cases h
        obtain ⟨g1, g2, g3, g4, g5, g6, g7⟩ := value_good (tokens_fine ht).1 60 1 rfl _ _ _ _ _ hv (Nat.zero_le _)
        refine ⟨?_, g7, L, rfl, ?_⟩
        · unfold mayB
          simp only [Bool.and_eq_true, decide_eq_true_eq]
          exact ⟨⟨g2, g1⟩, by omega⟩
        · have hle := List.getElem?_eq_none_iff.1 hi
          rw [Nat.zero_add] at g6
          refine List.ext_getElem? fun j => ?_
          rcases Nat.lt_or_ge j (toksN x).length with hj | hj
          · obtain ⟨t, e1, e2⟩ := g5 j _ (List.getElem?_eq_getElem hj)
            rw [Nat.zero_add] at e1
            rw [List.getElem?_map, e1, List.getElem?_eq_getElem hj]
            exact congrArg some e2
          · rw [List.getElem?_eq_none (by rw [List.length_map]; omega), List.getElem?_eq_none hj]
      · rw [hi] at h; cases h
/-- A source with a node's tokens is parsed as the node. -/
theorem parse_of {s : List UInt8} {L : List Lx.Tok} {x : Nd} (ht : Lx.tokens s = .ok L) (hx : mayB x = true) (hL : L.map tk = toksN x) : parseP s = .ok x := by
  unfold mayB at hx
  simp only [Bool.and_eq_true, decide_eq_true_eq] at hx
  have e1 := (value_of (L := L) (fin := s.length) x 1 60 hx.1.2 rfl).1 hx.1.1 0 0 (by rw [← hL]; exact has_all L) (by omega)
  have hl : L.length = (toksN x).length := by rw [← hL, List.length_map]
  unfold parseP
  rw [ht]
  simp only []
  rw [e1]
  simp only []
  rw [List.getElem?_eq_none (by omega)]
theorem parse_print {x : Nd} (hx : mayB x = true) (hl : Lits In64 (fun _ => True) x) (hs : (printL x).length ≤ 65536) : parseP (printL x) = .ok x := by
  have hx' := hx
  unfold mayB at hx'
  simp only [Bool.and_eq_true, decide_eq_true_eq] at hx'
  obtain ⟨l, h1, h2⟩ := toks_print hx'.1.2 hl
  refine parse_of (L := l) ?_ hx h2
  unfold Lx.tokens
  rw [if_neg (by omega)]
  exact h1
theorem sh_tk (D : Nat) (l : List Lx.Tok) : (l.map (Lx.sh D)).map tk = l.map tk := by
  rw [List.map_map]
  rfl
/-- A note, to the source's end. -/
theorem next_last {s note : List UInt8} {p : Nat} (hn : ∀ c ∈ note, c ≠ 10) (hd : s.drop p = 59 :: note) : Lx.nextR s p = .ok ([], s.length) := by
  have hc : s[p]? = some 59 := by rw [← Nat.add_zero p, ← List.getElem?_drop, hd]; rfl
  rw [Lx.next_note hc]
  unfold Lx.noteEnd
  rw [hd]
  have : ∀ l : List UInt8, (∀ c ∈ l, c ≠ 10) → Lib.indexByte l 10 = -1 := by
    intro l
    induction l with
    | nil => intro _; rfl
    | cons c l ih =>
      intro h
      unfold Lib.indexByte
      have h1 : (c == 10) = false := beq_eq_false_iff_ne.2 (h c (by simp))
      rw [ih (fun d hd => h d (by simp [hd]))]
      simp [h1]
  rw [this _ (fun c hc => by
    rcases List.mem_cons.1 hc with rfl | hc
    · decide
    · exact hn c hc)]
  rfl
theorem index_first {note post : List UInt8} (hn : ∀ c ∈ note, c ≠ 10) : Lib.indexByte (note ++ 10 :: post) 10 = (note.length : Int) := by
  rw [Lx.index_join]
  have : ∀ l : List UInt8, (∀ c ∈ l, c ≠ 10) → Lib.indexByte l 10 = -1 := by
    intro l
    induction l with
    | nil => intro _; rfl
    | cons c l ih =>
      intro h
      unfold Lib.indexByte
      have h1 : (c == 10) = false := beq_eq_false_iff_ne.2 (h c (by simp))
      rw [ih (fun d hd => h d (by simp [hd]))]
      simp [h1]
  rw [this note hn]
  rfl
/-- Notes and blanks ahead and behind. -/
def noted (src note : List UInt8) : List UInt8 := (32 :: 59 :: note) ++ 10 :: (src ++ 10 :: 9 :: 59 :: note)
theorem tokens_noted {src note : List UInt8} {L : List Lx.Tok} (ht : Lx.tokens src = .ok L) (hn : ∀ c ∈ note, c ≠ 10) (hl : src.length + 2 * note.length + 6 ≤ 65536) : ∃ L', Lx.tokens (noted src note) = .ok L' ∧ L'.map tk = L.map tk := by
  obtain ⟨S, hS⟩ : ∃ S, noted src note = S := ⟨_, rfl⟩
  have hSl : S.length = src.length + 2 * note.length + 6 := by rw [← hS]; unfold noted; simp; omega
  have hSe : S = (32 :: 59 :: (note ++ [10])) ++ (src ++ 10 :: 9 :: 59 :: note) := by rw [← hS]; unfold noted; simp
  have c0 : S[0]? = some 32 := by rw [hSe]; rfl
  have e0 := Lx.toks_step (k := S.length) (l := []) (show 0 < S.length by omega) (Lx.next_blank c0 (by decide))
  have c1 : S[1]? = some 59 := by rw [hSe]; rfl
  have hn1 : Lx.noteEnd S 1 = note.length + 2 := by
    unfold Lx.noteEnd
    have hd : S.drop 1 = (59 :: note) ++ 10 :: (src ++ 10 :: 9 :: 59 :: note) := by rw [hSe]; simp
    rw [hd, index_first (fun c hc => by
      rcases List.mem_cons.1 hc with rfl | hc
      · decide
      · exact hn c hc)]
    rw [if_pos (by omega), List.length_cons]
    omega
  have e1 := Lx.toks_step (k := S.length - 1) (l := []) (show 1 < S.length by omega) (Lx.next_note c1)
  rw [hn1] at e1
  have c2 : S[note.length + 2]? = some 10 := by rw [hSe]; simp
  have e2 := Lx.toks_step (k := S.length - 2) (l := []) (show note.length + 2 < S.length by omega) (Lx.next_blank c2 (by decide))
  have hpl : (32 :: 59 :: (note ++ [10]) : List UInt8).length = note.length + 3 := by simp
  obtain ⟨K', k1, e3⟩ := Lx.toks_in (pre := 32 :: 59 :: (note ++ [10])) (s := src) (post := 10 :: 9 :: 59 :: note) (.inr ⟨_, rfl⟩) (Lx.tokens_toks ht) (Nat.zero_le _) (by omega) (S.length - 2) [] (by rw [← hSe, hpl]; omega)
  rw [← hSe, hpl] at k1 e3
  simp only [List.nil_append, List.map_nil, Nat.add_zero] at e3
  have hdr : S.drop (note.length + 3 + src.length) = 10 :: 9 :: 59 :: note := by
    rw [hSe, List.drop_append, hpl, List.drop_of_length_le (by rw [hpl]; omega), List.nil_append, Nat.add_sub_cancel_left, List.drop_left]
  have d0 : S[note.length + 3 + src.length]? = some 10 := by rw [← Nat.add_zero (note.length + 3 + src.length), ← List.getElem?_drop, hdr]; rfl
  have d1 : S[note.length + 3 + src.length + 1]? = some 9 := by rw [← List.getElem?_drop, hdr]; rfl
  have hd2 : S.drop (note.length + 3 + src.length + 1 + 1) = 59 :: note := by rw [Nat.add_assoc (note.length + 3 + src.length), ← List.drop_drop, hdr]; rfl
  obtain ⟨K2, rfl⟩ : ∃ q, K' = q + 1 := ⟨K' - 1, by omega⟩
  have f0 := Lx.toks_step (k := K2) (l := L.map (Lx.sh (note.length + 3))) (show note.length + 3 + src.length < S.length by omega) (Lx.next_blank d0 (by decide))
  obtain ⟨K3, rfl⟩ : ∃ q, K2 = q + 1 := ⟨K2 - 1, by omega⟩
  have f1 := Lx.toks_step (k := K3) (l := L.map (Lx.sh (note.length + 3))) (show note.length + 3 + src.length + 1 < S.length by omega) (Lx.next_blank d1 (by decide))
  obtain ⟨K4, rfl⟩ : ∃ q, K3 = q + 1 := ⟨K3 - 1, by omega⟩
  have f2 := Lx.toks_step (k := K4) (l := L.map (Lx.sh (note.length + 3))) (show note.length + 3 + src.length + 1 + 1 < S.length by omega) (next_last hn hd2)
  refine ⟨L.map (Lx.sh (note.length + 3)), ?_, sh_tk _ _⟩
  rw [List.append_nil] at e0 e1 e2 f0 f1 f2
  rw [hS]
  unfold Lx.tokens
  rw [if_neg (by omega), e0, Nat.zero_add, show S.length = S.length - 1 + 1 by omega, e1]
  rw [show S.length - 1 = S.length - 2 + 1 by omega, e2, e3, f0, f1, f2, Lx.toks_end (by omega)]
theorem parse_noted {src note : List UInt8} {x : Nd} (h : parseP src = .ok x) (hn : ∀ c ∈ note, c ≠ 10) (hl : src.length + 2 * note.length + 6 ≤ 65536) : parseP (noted src note) = .ok x := by
  obtain ⟨h1, _, L, h3, h4⟩ := parse_good h
  obtain ⟨L', g1, g2⟩ := tokens_noted h3 hn hl
  exact parse_of g1 h1 (by rw [g2, h4])
end Go.Proofs.YtaklmocjaokkpaaGreatDoor.Tr
namespace Go.Proofs.YtaklmocjaokkpaaGreatDoor.Tr
set_option linter.unusedVariables false
set_option linter.unusedSimpArgs false

theorem quote_is (r : List UInt8) : Lx.quote r = 34 :: (r.flatMap Lx.qb ++ [34]) := by unfold Lx.quote; simp
theorem quote_length (r : List UInt8) : (Lx.quote r).length = (r.flatMap Lx.qb).length + 2 := by rw [quote_is]; simp
theorem at_pre' (pre X : List UInt8) (c : UInt8) (r : List UInt8) (h : X = c :: r) : (pre ++ X)[pre.length]? = some c := by subst h; simp
/-- A text that is cut off. -/
theorem text_cut {pre r : List UInt8} {c : Nat} (h0 : 0 < c) (h1 : c < (Lx.quote r).length) : ∃ q, Lx.nextR (pre ++ (Lx.quote r).take c) pre.length = .error q := by
  obtain ⟨c, rfl⟩ : ∃ d, c = d + 1 := ⟨c - 1, by omega⟩
  have hc : (pre ++ (Lx.quote r).take (c + 1))[pre.length]? = some 34 := at_pre' _ _ _ _ (by rw [quote_is, List.take_succ_cons])
  rw [Lx.next_text hc]
  unfold Lx.textR
  rcases ht : Lx.text (pre ++ (Lx.quote r).take (c + 1)) ((pre ++ (Lx.quote r).take (c + 1)).length + 1) (pre.length + 1) [] with q | ⟨o, q⟩
  · exact ⟨q, rfl⟩
  · exfalso
    have hl := text_len _ _ _ ht
    have h2 := Lx.text_in (pre := []) (post := (Lx.quote r).drop (c + 1)) ht ((pre ++ (Lx.quote r).take (c + 1)).length + 1 + r.length) (by omega)
    have h3 := text_at [] r (pre ++ [34]) [] ((pre ++ (Lx.quote r).take (c + 1)).length + 1 + r.length) (by omega)
    have e1 : [] ++ ((pre ++ (Lx.quote r).take (c + 1)) ++ (Lx.quote r).drop (c + 1)) = (pre ++ [34]) ++ (r.flatMap Lx.qb ++ [34]) := by
      rw [List.nil_append, List.append_assoc, List.take_append_drop, quote_is]; simp
    have e2 : (pre ++ [(34 : UInt8)]).length = pre.length + 1 := by simp
    rw [e1] at h2
    rw [e2] at h3
    simp only [List.length_nil, Nat.zero_add] at h2
    rw [h2] at h3
    simp only [Except.ok.injEq, Prod.mk.injEq] at h3
    have e3 : (pre ++ (Lx.quote r).take (c + 1)).length = pre.length + (c + 1) := by rw [List.length_append, List.length_take]; omega
    rw [quote_length] at h1
    omega
theorem text_next {pre r X : List UInt8} : Lx.nextR (pre ++ (Lx.quote r ++ X)) pre.length = .ok ([⟨5, r, 0, pre.length⟩], pre.length + (Lx.quote r).length) := by
  have hqe : Lx.quote r ++ X = 34 :: (r.flatMap Lx.qb ++ 34 :: X) := by rw [quote_is]; simp
  rw [Lx.next_text (at_pre' _ _ _ _ hqe)]
  unfold Lx.textR
  have htx := text_at X r (pre ++ [34]) [] ((pre ++ (Lx.quote r ++ X)).length + 1) (by
    have := qb_pos r
    rw [hqe]
    simp only [List.length_append, List.length_cons]
    omega)
  have he : pre ++ [34] ++ (r.flatMap Lx.qb ++ 34 :: X) = pre ++ (Lx.quote r ++ X) := by rw [hqe]; simp
  have e34 : (pre ++ [(34 : UInt8)]).length = pre.length + 1 := by simp
  rw [he, e34] at htx
  rw [htx]
  simp only [List.nil_append]
  congr 2
  rw [quote_length]
  omega
theorem word_next {pre w X : List UInt8} (hne : w ≠ []) (hw : ∀ c ∈ w, Lx.inWord c) (hp : ∀ c, X.head? = some c → Lx.ends c = true) :
    Lx.nextR (pre ++ (w ++ X)) pre.length = match Lx.wordTok w pre.length with | .ok u => .ok ([u], pre.length + w.length) | .error x => .error x := by
  cases w with
  | nil => exact absurd rfl hne
  | cons c r =>
    obtain ⟨n1, n2, n3, n4, n5⟩ := in_not (hw c (by simp))
    have hwe := wend_at pre (c :: r) X hw hp ((pre ++ (c :: r ++ X)).length + 1) 0 (Nat.zero_le _) (by simp; omega)
    simp only [Nat.add_zero] at hwe
    have hc : (pre ++ (c :: r ++ X))[pre.length]? = some c := by simp
    rw [Lx.next_word hc n1 n2 n3 n4 n5]
    unfold Lx.wordR
    rw [hwe]
    simp only []
    have hd : ((pre ++ (c :: r ++ X)).drop pre.length).take (pre.length + (c :: r).length - pre.length) = c :: r := by
      rw [List.drop_left, Nat.add_sub_cancel_left, List.take_left]
    rw [hd]
    cases Lx.wordTok (c :: r) pre.length <;> rfl
theorem wtok_kind {w : List UInt8} {p : Nat} {u : Lx.Tok} (h : Lx.wordTok w p = .ok u) : u.kind = 3 ∨ u.kind = 4 := by
  unfold Lx.wordTok at h
  split at h
  · split at h
    · cases h; exact .inr rfl
    · cases h
  · cases h; exact .inl rfl
theorem lex_blank {s : List UInt8} {T : List TK} (h : LexR s T) : T = [] → ∀ c ∈ s, Lx.blank c = true := by
  induction h with
  | nil => intro _ c hc; cases hc
  | @blank d s T hb _ ih =>
    intro e c hc
    rcases List.mem_cons.1 hc with rfl | hc
    · exact hb
    · exact ih e c hc
  | opens _ _ => intro e; cases e
  | closes _ _ => intro e; cases e
  | word _ _ _ _ _ _ => intro e; cases e
  | text _ _ => intro e; cases e
/-- What the tokens of a source are that is cut off: some of its tokens, and maybe a part of a word. -/
def CutOk (s : List UInt8) (T : List TK) (cut : Nat) (l0 l : List Lx.Tok) : Prop :=
  ∃ (T1 T2 W : List TK) (l' : List Lx.Tok), T = T1 ++ T2 ∧ l = l0 ++ l' ∧ l'.map tk = T1 ++ W ∧ (W = [] ∨ ∃ w, W = [w] ∧ w.1 ≠ 2) ∧ (W = [] → T2 = [] → ∀ c ∈ s.drop cut, Lx.blank c = true)
theorem cut_zero {s : List UInt8} {T : List TK} (h : LexR s T) {pre : List UInt8} {k : Nat} {l0 l : List Lx.Tok} (hh : Lx.toks (pre ++ s.take 0) k pre.length l0 = .ok l) : CutOk s T 0 l0 l := by
  rw [List.take_zero, List.append_nil, Lx.toks_end (by omega)] at hh
  cases hh
  exact ⟨[], T, [], [], rfl, (List.append_nil _).symm, rfl, .inl rfl, fun _ e c hc => lex_blank h e c (by simpa using hc)⟩
/-- One token, and what stands behind. -/
theorem cut_more {s s' : List UInt8} {T : List TK} {x : TK} {c c' : Nat} {l0 l : List Lx.Tok} {u : Lx.Tok} (h : CutOk s T c (l0 ++ [u]) l) (hu : tk u = x) (hd : s'.drop c' = s.drop c) : CutOk s' (x :: T) c' l0 l := by
  obtain ⟨T1, T2, W, l', e1, e2, e3, e4, e5⟩ := h
  refine ⟨x :: T1, T2, W, u :: l', by rw [e1]; rfl, by rw [e2]; simp, by rw [List.map_cons, e3, hu]; rfl, e4, fun h1 h2 => ?_⟩
  rw [hd]
  exact e5 h1 h2
theorem lex_cut {s : List UInt8} {T : List TK} (h : LexR s T) : ∀ (cut : Nat) (pre : List UInt8) (k : Nat) (l0 l : List Lx.Tok), cut ≤ s.length → cut < k → Lx.toks (pre ++ s.take cut) k pre.length l0 = .ok l → CutOk s T cut l0 l := by
  induction h with
  | nil =>
    intro cut pre k l0 l hc hk hh
    have : cut = 0 := by simpa using hc
    subst this
    exact cut_zero LexR.nil hh
  | @blank c s T hb hs ih =>
    intro cut pre k l0 l hc hk hh
    cases cut with
    | zero => exact cut_zero (LexR.blank hb hs) hh
    | succ cut =>
      obtain ⟨k, rfl⟩ : ∃ q, k = q + 1 := ⟨k - 1, by omega⟩
      rw [List.take_succ_cons] at hh
      rw [Lx.toks_step (by simp) (Lx.next_blank (at_pre _ _ _) hb), List.append_nil] at hh
      obtain ⟨T1, T2, W, l', e1, e2, e3, e4, e5⟩ := ih cut (pre ++ [c]) k l0 l (by simp at hc; omega) (by omega) (by simpa using hh)
      exact ⟨T1, T2, W, l', e1, e2, e3, e4, e5⟩
  | @opens s T hs ih =>
    intro cut pre k l0 l hc hk hh
    cases cut with
    | zero => exact cut_zero (LexR.opens hs) hh
    | succ cut =>
      obtain ⟨k, rfl⟩ : ∃ q, k = q + 1 := ⟨k - 1, by omega⟩
      rw [List.take_succ_cons] at hh
      rw [Lx.toks_step (by simp) (Lx.next_open (at_pre _ _ _))] at hh
      exact cut_more (ih cut (pre ++ [40]) k _ l (by simp at hc; omega) (by omega) (by simpa using hh)) rfl rfl
  | @closes s T hs ih =>
    intro cut pre k l0 l hc hk hh
    cases cut with
    | zero => exact cut_zero (LexR.closes hs) hh
    | succ cut =>
      obtain ⟨k, rfl⟩ : ∃ q, k = q + 1 := ⟨k - 1, by omega⟩
      rw [List.take_succ_cons] at hh
      rw [Lx.toks_step (by simp) (Lx.next_close (at_pre _ _ _))] at hh
      exact cut_more (ih cut (pre ++ [41]) k _ l (by simp at hc; omega) (by omega) (by simpa using hh)) rfl rfl
  | @word w s t T hne hw ht hp hs ih =>
    intro cut pre k l0 l hc hk hh
    rcases Nat.eq_zero_or_pos cut with rfl | h0
    · exact cut_zero (LexR.word hne hw ht hp hs) hh
    obtain ⟨k, rfl⟩ : ∃ q, k = q + 1 := ⟨k - 1, by omega⟩
    have hwl : 0 < w.length := List.length_pos_iff.2 hne
    rcases Nat.lt_or_ge w.length cut with h1 | h1
    · have ex : (w ++ s).take cut = w ++ s.take (cut - w.length) := by rw [List.take_append, List.take_of_length_le (by omega)]
      obtain ⟨u, hu, hu2, _⟩ := wtok_at pre.length ht
      have hn := word_next (pre := pre) (X := s.take (cut - w.length)) hne hw (fun c hc => hp c (by
        cases s with
        | nil => simp at hc
        | cons d r =>
          obtain ⟨m, hm⟩ : ∃ m, cut - w.length = m + 1 := ⟨cut - w.length - 1, by omega⟩
          rw [hm, List.take_succ_cons] at hc
          exact hc))
      rw [hu] at hn
      rw [ex] at hh
      rw [Lx.toks_step (by simp; omega) hn] at hh
      refine cut_more (ih (cut - w.length) (pre ++ w) k _ l (by rw [List.length_append] at hc; omega) (by omega) (by simpa using hh)) hu2 ?_
      rw [List.drop_append, List.drop_of_length_le (by omega), List.nil_append]
    · have ex : (w ++ s).take cut = w.take cut ++ [] := by rw [List.take_append_of_le_length h1, List.append_nil]
      have hlc : (w.take cut).length = cut := by rw [List.length_take]; omega
      have hn := word_next (pre := pre) (w := w.take cut) (X := []) (fun e => by rw [e] at hlc; simp at hlc; omega) (fun c hc => hw c (List.mem_of_mem_take hc)) (fun c hc => by cases hc)
      rw [ex] at hh
      have hlt : pre.length < (pre ++ (w.take cut ++ [])).length := by rw [List.length_append, List.length_append, hlc]; omega
      rcases hu : Lx.wordTok (w.take cut) pre.length with x | u
      · rw [hu] at hn
        rw [Lx.toks_err hlt hn] at hh
        cases hh
      · rw [hu] at hn
        rw [Lx.toks_step hlt hn, Lx.toks_end (by rw [List.length_append, List.length_append]; simp)] at hh
        cases hh
        refine ⟨[], tk t :: T, [tk u], [u], rfl, rfl, rfl, .inr ⟨_, rfl, ?_⟩, fun e => by cases e⟩
        have := wtok_kind hu
        show u.kind ≠ 2
        omega
  | @text r s T hs ih =>
    intro cut pre k l0 l hc hk hh
    rcases Nat.eq_zero_or_pos cut with rfl | h0
    · exact cut_zero (LexR.text hs) hh
    obtain ⟨k, rfl⟩ : ∃ q, k = q + 1 := ⟨k - 1, by omega⟩
    have hql := quote_length r
    rcases Nat.lt_or_ge cut (Lx.quote r).length with h1 | h1
    · have ex : (Lx.quote r ++ s).take cut = (Lx.quote r).take cut := by rw [List.take_append_of_le_length (by omega)]
      obtain ⟨q, hq⟩ := text_cut (pre := pre) h0 h1
      rw [ex, Lx.toks_err (by rw [List.length_append, List.length_take]; omega) hq] at hh
      cases hh
    · have ex : (Lx.quote r ++ s).take cut = Lx.quote r ++ s.take (cut - (Lx.quote r).length) := by rw [List.take_append, List.take_of_length_le (by omega)]
      rw [ex, Lx.toks_step (by rw [List.length_append, List.length_append]; omega) text_next] at hh
      refine cut_more (ih (cut - (Lx.quote r).length) (pre ++ Lx.quote r) k _ l (by rw [List.length_append] at hc; omega) (by omega) (by simpa using hh)) rfl ?_
      rw [List.drop_append, List.drop_of_length_le (by omega), List.nil_append]
theorem lex_open {s : List UInt8} {T : List TK} (h : LexR (40 :: s) T) : ∃ T', T = tO :: T' ∧ LexR s T' := by
  generalize hS : (40 :: s : List UInt8) = S at h
  cases h with
  | nil => cases hS
  | @blank c s' T hb hs => cases hS; exact absurd hb (by decide)
  | @opens s' T hs => cases hS; exact ⟨_, rfl, hs⟩
  | closes hs => cases hS
  | @word w s' t T hne hw ht hp hs =>
    cases w with
    | nil => exact absurd rfl hne
    | cons c r =>
      rw [List.cons_append] at hS
      cases hS
      exact absurd (hw 40 (by simp)).1 (by decide)
  | @text r s' T hs =>
    rw [quote_is, List.cons_append] at hS
    cases hS
theorem lex_quote {s : List UInt8} {T : List TK} (h : LexR (34 :: s) T) : ∃ r T', T = (5, r, 0) :: T' := by
  generalize hS : (34 :: s : List UInt8) = S at h
  cases h with
  | nil => cases hS
  | @blank c s' T hb hs => cases hS; exact absurd hb (by decide)
  | opens hs => cases hS
  | closes hs => cases hS
  | @word w s' t T hne hw ht hp hs =>
    cases w with
    | nil => exact absurd rfl hne
    | cons c r =>
      rw [List.cons_append] at hS
      cases hS
      exact absurd (hw 34 (by simp)).1 (by decide)
  | @text r s' T hs => exact ⟨r, T, rfl⟩
theorem toksN_open {x : Nd} {T : List TK} (h : toksN x = tO :: T) : ∃ T', T = T' ++ [tC] := by
  rw [toksN_is] at h
  split at h
  · cases h
  split at h
  · cases h
  split at h
  · cases h
  split at h
  · cases h
  split at h
  · cases h
  · simp only [List.cons_append, List.cons.injEq, true_and] at h
    exact ⟨headT x.kind x.text x.names ++ toksL x.kids, by rw [List.append_assoc]; exact h.symm⟩
theorem toksN_head5 {x : Nd} {T : List TK} (h : toksN x = tO :: T) : ¬ x.kind = 1 ∧ ¬ x.kind = 2 ∧ ¬ x.kind = 3 ∧ ¬ x.kind = 4 ∧ ¬ x.kind = 5 := by
  rw [toksN_is] at h
  refine ⟨fun e => ?_, fun e => ?_, fun e => ?_, fun e => ?_, fun e => ?_⟩
  all_goals (simp only [e] at h; cases h)
/-- A bracket, or a text, that is cut off is parsed as no node. -/
theorem cuts_not {x y : Nd} (hx : mayB x = true) (hl : Lits In64 (fun _ => True) x) {cut : Nat} (hc : cut < (printL x).length) (hh : (printL x).head? = some 40 ∨ (printL x).head? = some 34) : parseP ((printL x).take cut) ≠ .ok y := by
  intro hp
  obtain ⟨y1, y2, L, g1, g2⟩ := parse_good hp
  have hr : rightB x 1 = true := by
    unfold mayB at hx
    simp only [Bool.and_eq_true, decide_eq_true_eq] at hx
    exact hx.1.2
  have hlex := print_lex x 1 hr hl ends_nil LexR.nil
  rw [List.append_nil, List.append_nil] at hlex
  have hne : toksN y ≠ [] := by
    obtain ⟨t, r, e, _⟩ := toksN_head y
    rw [e]
    exact fun e => by cases e
  have hcl : ((printL x).take cut).length = cut := by rw [List.length_take]; omega
  have htoks := Lx.tokens_toks g1
  rw [hcl] at htoks
  rcases Nat.eq_zero_or_pos cut with rfl | h0
  · rw [List.take_zero, Lx.toks_end (by simp)] at htoks
    cases htoks
    exact hne g2.symm
  obtain ⟨c, rfl⟩ : ∃ d, cut = d + 1 := ⟨cut - 1, by omega⟩
  rcases hh with hh | hh
  · obtain ⟨s, hs⟩ : ∃ s, printL x = 40 :: s := by
      cases hpx : printL x with
      | nil => rw [hpx] at hh; cases hh
      | cons d r => rw [hpx] at hh; cases hh; exact ⟨r, rfl⟩
    rw [hs] at hlex htoks hc
    obtain ⟨T, hT, hsT⟩ := lex_open hlex
    obtain ⟨q1, q2, q3, q4, q5⟩ := toksN_head5 hT
    rw [List.take_succ_cons, Lx.toks_step (by simp) (Lx.next_open rfl)] at htoks
    rw [List.length_cons] at hc
    obtain ⟨T1, T2, W, l', e1, e2, e3, e4, e5⟩ := lex_cut hsT c [40] (c + 1) _ L (by omega) (by omega) htoks
    have hLk : L.map tk = tO :: (T1 ++ W) := by rw [e2, List.map_append, e3]; rfl
    rw [g2] at hLk
    rcases e4 with rfl | ⟨w, rfl, hw2⟩
    · rw [List.append_nil] at hLk
      have hT2 : T2 ≠ [] := fun e => by
        have hb := e5 rfl e
        have hlast : ∃ r, s = r ++ [41] := by
          have h1 : printL x = 40 :: headL x.kind (bl x.text) x.names ++ printsL x.kids ++ [41] := by rw [printL_is, if_neg q1, if_neg q2, if_neg q3, if_neg q4, if_neg q5]
          rw [hs, List.cons_append, List.cons_append] at h1
          exact ⟨_, (List.cons.inj h1).2⟩
        obtain ⟨r, hr'⟩ := hlast
        have : (41 : UInt8) ∈ s.drop c := by
          have hlt : s.length = r.length + 1 := by rw [hr', List.length_append]; rfl
          rw [hr', List.drop_append_of_le_length (by omega)]
          simp
        exact absurd (hb 41 this) (by decide)
      have hL' : ∃ L', Lx.toks (40 :: s) ((40 :: s).length + 1) 0 [] = .ok L' ∧ L'.map tk = tO :: T := by
        obtain ⟨l, h1, h2⟩ := lex_toks hlex [] ((40 :: s).length + 1) [] (by omega)
        exact ⟨l, by simpa using h1, by rw [h2, hT]⟩
      obtain ⟨L', k1, k2⟩ := hL'
      unfold mayB at hx y1
      simp only [Bool.and_eq_true, decide_eq_true_eq] at hx y1
      have r1 := (value_of (L := L') (fin := 0) x 1 60 hr rfl).1 hx.1.1 0 0 (by rw [hT, ← k2]; exact has_all L') (by omega)
      have hy : Has L' 0 (toksN y) := by
        have := has_all L'
        rw [k2, e1, ← List.cons_append, ← hLk] at this
        exact this.left
      have r2 := (value_of (L := L') (fin := 0) y 1 60 y1.1.2 rfl).1 y1.1.1 0 0 hy (by omega)
      rw [r1] at r2
      simp only [Except.ok.injEq, Prod.mk.injEq] at r2
      have hlen := r2.2.1
      rw [hT, hLk, e1] at hlen
      simp only [List.length_cons, List.length_append] at hlen
      have := List.length_pos_iff.2 hT2
      omega
    · obtain ⟨T', hT'⟩ := toksN_open hLk
      have := congrArg List.getLast? hT'
      simp at this
      rw [this] at hw2
      exact hw2 rfl
  · have hk3 : x.kind = 3 := by
      cases hlx : printL x with
      | nil => rw [hlx] at hh; cases hh
      | cons d s =>
        rw [hlx] at hh
        cases hh
        rw [hlx] at hlex
        obtain ⟨r, T', hT⟩ := lex_quote hlex
        rw [toksN_is] at hT
        split at hT
        · cases hT
        split at hT
        · cases hT
        split at hT
        · assumption
        split at hT
        · cases hT
        split at hT
        · cases hT
        · cases hT
    have hpx : printL x = Lx.quote (bl x.text) := by rw [printL_is, hk3]; rfl
    rw [hpx] at hc htoks
    obtain ⟨q, hq⟩ := text_cut (pre := []) h0 hc
    rw [List.nil_append, List.length_nil] at hq
    rw [Lx.toks_err (by rw [List.length_take]; omega) hq] at htoks
    cases htoks
end Go.Proofs.YtaklmocjaokkpaaGreatDoor.Tr
