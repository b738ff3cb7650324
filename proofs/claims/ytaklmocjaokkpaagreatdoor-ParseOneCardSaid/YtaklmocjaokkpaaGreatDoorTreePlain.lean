/- Which nodes may be: plain Lean, no program; no condition. -/
import Derived.Test.YtaklmocjaokkpaaGreatDoorTreeSizes
import Derived.Test.YtaklmocjaokkpaaGreatDoorLexD
namespace Go.Proofs.YtaklmocjaokkpaaGreatDoor.Tr
set_option linter.unusedVariables false
set_option linter.unusedSimpArgs false

def str (s : String) : ByteArray := s.toUTF8
def sTrue : ByteArray := ⟨#[116, 114, 117, 101]⟩
def sFalse : ByteArray := ⟨#[102, 97, 108, 115, 101]⟩
def sUnit : ByteArray := ⟨#[117, 110, 105, 116]⟩
def word (s : ByteArray) : Bool := Lx.wordB s.data.toList
/-- Is it a name? -/
def nameB (s : ByteArray) : Bool := word s && !decide (s = sTrue) && !decide (s = sFalse) && !decide (s = sUnit)
/-- Is a text among some? -/
def memB (s : ByteArray) (l : List ByteArray) : Bool := l.any fun x => decide (x = s)
/-- Names, all unlike, and unlike those ahead. -/
def unl (seen : List ByteArray) : List ByteArray → Bool
  | [] => true
  | s :: l => nameB s && !memB s seen && unl (seen ++ [s]) l
def unlike (l : List ByteArray) : Bool := unl [] l
theorem unl_snoc (l : List ByteArray) : ∀ (seen : List ByteArray) (s : ByteArray), unl seen (l ++ [s]) = (unl seen l && nameB s && !memB s (seen ++ l)) := by
  induction l with
  | nil => intro seen s; simp [unl]
  | cons x l ih =>
    intro seen s
    rw [List.cons_append, unl, unl, ih, List.append_assoc]
    simp [Bool.and_assoc]
theorem unlike_snoc (l : List ByteArray) (s : ByteArray) : unlike (l ++ [s]) = (unlike l && nameB s && !memB s l) := by
  unfold unlike
  rw [unl_snoc]
  rfl
/-- A row that goes wrong early is wrong. -/
theorem unlike_take (l : List ByteArray) (k : Nat) (h : unlike (l.take k) = false) : unlike l = false := by
  have : ∀ (b a : List ByteArray), unlike a = false → unlike (a ++ b) = false := by
    intro b
    induction b with
    | nil => intro a h; simpa using h
    | cons x b ih =>
      intro a h
      rw [show a ++ x :: b = (a ++ [x]) ++ b by simp]
      exact ih _ (by rw [unlike_snoc, h]; rfl)
  rw [← List.take_append_drop k l]
  exact this _ _ h
def b1 (c : UInt8) : ByteArray := ⟨#[c]⟩
/-- The words that take one part, and two. -/
def onesL : List (List UInt8) := [[110, 101, 103], [110, 111, 116], [108, 101, 110], [105, 56], [105, 49, 54], [105, 51, 50], [117, 56], [117, 49, 54], [117, 51, 50], [102, 115, 116], [115, 110, 100], [99, 101, 108, 108], [103, 101, 116], [111, 117, 116]]
def twosL : List (List UInt8) := [[43], [45], [42], [47], [37], [97, 110, 100], [111, 114], [120, 111, 114], [115, 104, 108], [115, 104, 114], [117, 115, 104, 114], [60], [61], [99, 97, 116], [97, 116], [112, 97, 105, 114], [115, 101, 116]]
/-- How many parts a word takes. -/
def takesL (l : List UInt8) : Int := if l = [105, 110] then 0 else if l ∈ onesL then 1 else if l ∈ twosL then 2 else -1
def takes (s : ByteArray) : Int := takesL s.data.toList
/-- What a kind has: how many names (none: any), how many parts at least and at most. -/
def shapeOf : Nat → Option (Option Nat × Nat × Nat)
  | 1 => some (some 0, 0, 0) | 2 => some (some 0, 0, 0) | 3 => some (some 0, 0, 0) | 4 => some (some 0, 0, 0) | 5 => some (some 0, 0, 0)
  | 6 => some (none, 1, 1) | 7 => some (some 0, 1, 4000) | 8 => some (some 0, 2, 2) | 9 => some (some 0, 3, 3) | 10 => some (some 0, 1, 4000)
  | 11 => some (some 0, 0, 2) | 12 => some (some 0, 1, 1) | 13 => some (some 0, 1, 4000) | 14 => some (some 0, 2, 2) | 15 => some (some 0, 2, 2)
  | 16 => some (some 0, 3, 3) | 17 => some (some 1, 1, 1) | 18 => some (some 2, 1, 1) | 19 => some (some 0, 1, 1)
  | _ => none
/-- Is a kind's text right, beside its number and how many parts there are? -/
def textB (kind : Nat) (n : Int) (t : ByteArray) (many : Nat) : Bool :=
  if kind = 2 then decide (t = ⟨#[]⟩) && (decide (n = 0) || decide (n = 1))
  else if kind = 3 then decide (t.size ≤ 65536)
  else if kind = 5 ∨ kind = 6 ∨ kind = 8 ∨ kind = 12 ∨ kind = 18 then nameB t
  else if kind = 11 then decide (takes t = (many : Int))
  else decide (t = ⟨#[]⟩)
/-- The kinds of a handle's clauses: return, on .., finally, in order; the last one that stood ahead is told. -/
def orderB (last : Nat) : List Nd → Bool
  | [] => true
  | x :: l => decide (last ≤ x.kind) && (!decide (x.kind = last) || decide (x.kind = 18)) && decide (17 ≤ x.kind) && orderB x.kind l
def opsOf (l : List Nd) : List ByteArray := (l.filter fun x => x.kind == 18).map Nd.text
def clausesB (l : List Nd) : Bool := orderB 16 l && unlike (opsOf l)
/-- All of a node but that its parts are right. -/
def headB (deep kind : Nat) (n : Int) (t : ByteArray) (ns : List ByteArray) (ks : List Nd) : Bool :=
  match shapeOf kind with
  | none => false
  | some (many, least, most) => decide (deep ≤ 60) && textB kind n t ks.length && decide (least ≤ ks.length) && decide (ks.length ≤ most) && (decide (kind = 1) || decide (kind = 2) || decide (n = 0)) &&
      (match many with | none => true | some m => decide (ns.length = m)) && unlike ns &&
      (if kind = 13 then clausesB (ks.drop 1) && (ks.take 1).all (fun x => decide (x.kind < 17)) else ks.all fun x => decide (x.kind < 17))
mutual
/-- Is a node right, so deep? -/
def rightB : Nd → Nat → Bool
  | .mk k n t ns ks, deep => headB deep k n t ns ks && kidsB ks (deep + 1)
def kidsB : List Nd → Nat → Bool
  | [], _ => true
  | x :: l, deep => rightB x deep && kidsB l deep
end
theorem rightB_is (x : Nd) (deep : Nat) : rightB x deep = (headB deep x.kind x.n x.text x.names x.kids && kidsB x.kids (deep + 1)) := by
  cases x; rw [rightB]; rfl
theorem kidsB_all (l : List Nd) (deep : Nat) : kidsB l deep = l.all fun x => rightB x deep := by
  induction l with
  | nil => rw [kidsB]; rfl
  | cons x l ih => rw [kidsB, ih]; rfl
/-- May a node be? -/
def mayB (x : Nd) : Bool := decide (x.kind < 17) && rightB x 1 && decide (sizeN x ≤ 4000)
end Go.Proofs.YtaklmocjaokkpaaGreatDoor.Tr
