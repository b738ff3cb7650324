/- The parser, plain: what it comes to over tokens; no program, no condition. -/
import Derived.Test.YtaklmocjaokkpaaGreatDoorTreePrintPlain
namespace Go.Proofs.YtaklmocjaokkpaaGreatDoor.Tr
set_option linter.unusedVariables false
set_option linter.unusedSimpArgs false

def ba (l : List UInt8) : ByteArray := ⟨l.toArray⟩
theorem ba_bl (s : ByteArray) : ba (bl s) = s := by unfold ba bl; simp
theorem bl_ba (l : List UInt8) : bl (ba l) = l := by simp [ba, bl]
def wFun : ByteArray := ⟨#[102, 117, 110]⟩
def wCall : ByteArray := ⟨#[99, 97, 108, 108]⟩
def wLet : ByteArray := ⟨#[108, 101, 116]⟩
def wIf : ByteArray := ⟨#[105, 102]⟩
def wDo : ByteArray := ⟨#[100, 111]⟩
def wPerform : ByteArray := ⟨#[112, 101, 114, 102, 111, 114, 109]⟩
def wHandle : ByteArray := ⟨#[104, 97, 110, 100, 108, 101]⟩
def wResume : ByteArray := ⟨#[114, 101, 115, 117, 109, 101]⟩
def wDrop : ByteArray := ⟨#[100, 114, 111, 112]⟩
def wWind : ByteArray := ⟨#[119, 105, 110, 100]⟩
def wReturn : ByteArray := ⟨#[114, 101, 116, 117, 114, 110]⟩
def wOn : ByteArray := ⟨#[111, 110]⟩
def wFinally : ByteArray := ⟨#[102, 105, 110, 97, 108, 108, 121]⟩
/-- The kind that a word begins, and how many parts it takes; -1: as many as stand there. -/
def kindsP (w : ByteArray) : Nat × Int :=
  if w = wFun then (6, 1) else if w = wCall then (7, -1) else if w = wLet then (8, 2) else if w = wIf then (9, 3) else if w = wDo then (10, -1) else if w = wPerform then (12, 1)
  else if w = wHandle then (13, 1) else if w = wResume then (14, 2) else if w = wDrop then (15, 2) else if w = wWind then (16, 3) else (11, takes w)
def clauseKind (s : ByteArray) : Nat := if s = wReturn then 17 else if s = wOn then 18 else if s = wFinally then 19 else 0
def clauseNames (k : Nat) : Nat := if k = 17 then 1 else if k = 18 then 2 else 0
def leafP (t : Lx.Tok) : Nd :=
  if t.kind = 4 then .mk 1 t.n ⟨#[]⟩ [] [] else if t.kind = 5 then .mk 3 0 (ba t.s) [] []
  else if ba t.s = sTrue then .mk 2 1 ⟨#[]⟩ [] [] else if ba t.s = sFalse then .mk 2 0 ⟨#[]⟩ [] [] else if ba t.s = sUnit then .mk 4 0 ⟨#[]⟩ [] [] else .mk 5 0 (ba t.s) [] []
/-- What was read, the place behind, and how many nodes there were by then; or a place and an error. -/
abbrev PRes (α : Type) := Except (Nat × Nat) (α × Nat × Nat)
section
variable (L : List Lx.Tok) (fin : Nat)
def nameP (no : List ByteArray) (i : Nat) : Except (Nat × Nat) ByteArray :=
  match L[i]? with
  | none => .error (fin, 11)
  | some t => if t.kind = 3 ∧ ba t.s ≠ sTrue ∧ ba t.s ≠ sFalse ∧ ba t.s ≠ sUnit ∧ memB (ba t.s) no = false then .ok (ba t.s) else .error (t.at_, 12)
def takeP (k i : Nat) : Except (Nat × Nat) Unit :=
  match L[i]? with
  | none => .error (fin, 11)
  | some t => if t.kind = k then .ok () else .error (t.at_, 12)
/-- Is there one more part? -/
def moreP (many : Int) (len i : Nat) : Except (Nat × Nat) Bool :=
  if (len : Int) < many then .ok true
  else if many < 0 then
    if len = 0 then .ok true else
    match L[i]? with
    | none => .error (fin, 11)
    | some t => .ok (decide (t.kind ≠ 2))
  else .ok false
def partsP (val : Nat → Nat → PRes Nd) (many : Int) : Nat → List Nd → Nat → Nat → PRes (List Nd)
  | 0, acc, i, n => .ok (acc, i, n)
  | k + 1, acc, i, n =>
    match moreP L fin many acc.length i with
    | .error e => .error e
    | .ok false => .ok (acc, i, n)
    | .ok true =>
      match val i n with
      | .error e => .error e
      | .ok (x, i', n') => partsP val many k (acc ++ [x]) i' n'
/-- Names up to a closing bracket. -/
def namesP : Nat → List ByteArray → Nat → Except (Nat × Nat) (List ByteArray × Nat)
  | 0, ns, i => .ok (ns, i)
  | k + 1, ns, i =>
    match L[i]? with
    | none => .error (fin, 11)
    | some t =>
      if t.kind = 2 then .ok (ns, i + 1) else
      match nameP L fin ns i with
      | .error e => .error e
      | .ok s => namesP k (ns ++ [s]) (i + 1)
/-- So many names. -/
def someP : Nat → List ByteArray → Nat → Except (Nat × Nat) (List ByteArray × Nat)
  | 0, ns, i => .ok (ns, i)
  | k + 1, ns, i =>
    match nameP L fin ns i with
    | .error e => .error e
    | .ok s => someP k (ns ++ [s]) (i + 1)
/-- A kind's text and names. -/
def headP (k : Nat) (w : ByteArray) (i : Nat) : Except (Nat × Nat) (ByteArray × List ByteArray × Nat) :=
  if k = 11 then .ok (w, [], i)
  else if k = 8 ∨ k = 12 then
    match nameP L fin [] i with
    | .error e => .error e
    | .ok s => .ok (s, [], i + 1)
  else if k = 6 then
    match nameP L fin [] i with
    | .error e => .error e
    | .ok s =>
      match takeP L fin 1 (i + 1) with
      | .error e => .error e
      | .ok _ =>
        match namesP L fin (L.length + 1) [] (i + 2) with
        | .error e => .error e
        | .ok (ns, j) => .ok (s, ns, j)
  else .ok (⟨#[]⟩, [], i)
/-- A node whose parts and clauses were read: its bracket. -/
def closeP (k : Nat) (tx : ByteArray) (ns : List ByteArray) (ks : List Nd) (i n : Nat) : PRes Nd :=
  match takeP L fin 2 i with
  | .error e => .error e
  | .ok _ => .ok (.mk k 0 tx ns ks, i + 1, n)
/-- A clause, behind its word and its operation. -/
def bodyP (val : Nat → Nat → PRes Nd) (k : Nat) (tx : ByteArray) (i n : Nat) : PRes Nd :=
  match someP L fin (clauseNames k) [] i with
  | .error e => .error e
  | .ok (ns, i1) =>
    match partsP L fin val 1 4002 [] i1 n with
    | .error e => .error e
    | .ok (ks, i2, n2) => closeP L fin k tx ns ks i2 n2
/-- A clause's operation. -/
def opP (k : Nat) (ops : List ByteArray) (i : Nat) : Except (Nat × Nat) (ByteArray × List ByteArray × Nat) :=
  if k = 18 then
    match nameP L fin ops i with
    | .error e => .error e
    | .ok s => .ok (s, ops ++ [s], i + 1)
  else .ok (⟨#[]⟩, ops, i)
def clausesP (dok : Bool) (val : Nat → Nat → PRes Nd) : Nat → List Nd → List ByteArray → Nat → Nat → Nat → PRes (List Nd)
  | 0, out, ops, last, i, n => .ok (out, i, n)
  | f + 1, out, ops, last, i, n =>
    match L[i]? with
    | none => .error (fin, 11)
    | some t =>
      if t.kind = 2 then .ok (out, i, n)
      else if t.kind ≠ 1 then .error (t.at_, 12)
      else if 4000 < n + 1 ∨ dok = false then .error (t.at_, 13)
      else
        match L[i + 1]? with
        | none => .error (fin, 11)
        | some u =>
          if u.kind ≠ 3 ∨ clauseKind (ba u.s) = 0 ∨ clauseKind (ba u.s) < last ∨ (clauseKind (ba u.s) = last ∧ clauseKind (ba u.s) ≠ 18) then .error (u.at_, 12)
          else
            match opP L fin (clauseKind (ba u.s)) ops (i + 2) with
            | .error e => .error e
            | .ok (tx, ops', i1) =>
              match bodyP L fin val (clauseKind (ba u.s)) tx i1 (n + 1) with
              | .error e => .error e
              | .ok (x, i2, n2) => clausesP dok val f (out ++ [x]) ops' (clauseKind (ba u.s)) i2 n2
/-- A handle's clauses; another kind has none. -/
def moreKids (cl : Nat → Nat → PRes (List Nd)) (k : Nat) (ks : List Nd) (i n : Nat) : PRes (List Nd) :=
  if k = 13 then
    match cl i n with
    | .error e => .error e
    | .ok (cs, i', n') => .ok (ks ++ cs, i', n')
  else .ok (ks, i, n)
def bracketP (val : Nat → Nat → PRes Nd) (cl : Nat → Nat → PRes (List Nd)) (i n : Nat) : PRes Nd :=
  match L[i]? with
  | none => .error (fin, 11)
  | some t =>
    if t.kind ≠ 3 ∨ ((kindsP (ba t.s)).1 = 11 ∧ (kindsP (ba t.s)).2 < 0) then .error (t.at_, 12)
    else
      match headP L fin (kindsP (ba t.s)).1 (ba t.s) (i + 1) with
      | .error e => .error e
      | .ok (tx, ns, i1) =>
        match partsP L fin val (kindsP (ba t.s)).2 4002 [] i1 n with
        | .error e => .error e
        | .ok (ks, i2, n2) =>
          match moreKids cl (kindsP (ba t.s)).1 ks i2 n2 with
          | .error e => .error e
          | .ok (ks', i3, n3) => closeP L fin (kindsP (ba t.s)).1 tx ns ks' i3 n3
def valueP (br : Nat → Nat → PRes Nd) (dok : Bool) (i n : Nat) : PRes Nd :=
  match L[i]? with
  | none => .error (fin, 11)
  | some t =>
    if t.kind = 2 then .error (t.at_, 12)
    else if 4000 < n + 1 ∨ dok = false then .error (t.at_, 13)
    else if t.kind = 1 then br (i + 1) (n + 1)
    else .ok (leafP t, i + 1, n + 1)
/-- A value, where nodes may still stand so deep in each other. -/
def valueD : Nat → Nat → Nat → PRes Nd
  | 0 => valueP L fin (fun _ _ => .error (0, 0)) false
  | 1 => valueP L fin (bracketP L fin (valueD 0) (clausesP L fin false (fun _ _ => .error (0, 0)) 4002 [] [] 16)) true
  | d + 2 => valueP L fin (bracketP L fin (valueD (d + 1)) (clausesP L fin true (valueD d) 4002 [] [] 16)) true
end
/-- A source's node, and 0, 0; or a place and an error. -/
def parseP (s : List UInt8) : Except (Nat × Nat) Nd :=
  match Lx.tokens s with
  | .error e => .error e
  | .ok L =>
    match valueD L s.length 60 0 0 with
    | .error e => .error e
    | .ok (x, i, _) =>
      match L[i]? with
      | none => .ok x
      | some t => .error (t.at_, 12)
end Go.Proofs.YtaklmocjaokkpaaGreatDoor.Tr
