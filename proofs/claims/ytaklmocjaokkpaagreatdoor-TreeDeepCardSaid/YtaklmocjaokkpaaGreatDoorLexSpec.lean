/- What the lexer comes to, over a list of bytes and places: plain functions. No condition. -/
import Derived.Test.YtaklmocjaokkpaaGreatDoorLexHex
import Derived.Lib.ParseIntBMem
namespace Go.Proofs.YtaklmocjaokkpaaGreatDoor.Lx
open Go.RowKit

structure Tok where
  kind : Nat
  s : List UInt8
  n : Int
  at_ : Nat
deriving DecidableEq

def blank (c : UInt8) : Bool := c == 32 || c == 9 || c == 10 || c == 13
def ends (c : UInt8) : Bool := blank c || c == 59 || c == 40 || c == 41 || c == 34

/-- A hexadecimal digit at a place: its value; or a place and an error. -/
def hexAt (s : List UInt8) (p : Nat) : Except (Nat × Nat) Nat :=
  match s[p]? with
  | none => .error (s.length, 11)
  | some c => match hexv c.toNat with
    | none => .error (p, 10)
    | some d => .ok d

/-- Behind a backslash: a byte, and the place behind. -/
def esc (s : List UInt8) (p : Nat) : Except (Nat × Nat) (UInt8 × Nat) :=
  match s[p]? with
  | none => .error (s.length, 11)
  | some c =>
    if c = 34 ∨ c = 92 then .ok (c, p + 1)
    else if c = 110 then .ok (10, p + 1)
    else if c = 120 then
      match hexAt s (p + 1) with
      | .error x => .error x
      | .ok x => match hexAt s (p + 2) with
        | .error x => .error x
        | .ok y => .ok (UInt8.ofNat (16 * x + y), p + 3)
    else .error (p, 10)

/-- Behind a text's quote: its bytes, and the place behind. -/
def text (s : List UInt8) : Nat → Nat → List UInt8 → Except (Nat × Nat) (List UInt8 × Nat)
  | 0, _, _ => .error (s.length, 11)
  | k + 1, p, out =>
    match s[p]? with
    | none => .error (s.length, 11)
    | some c =>
      if c = 34 then .ok (out, p + 1)
      else if c = 92 then
        match esc s (p + 1) with
        | .error x => .error x
        | .ok (b, q) => text s k q (out ++ [b])
      else text s k (p + 1) (out ++ [c])

/-- Where a word ends. -/
def wordEnd (s : List UInt8) : Nat → Nat → Except (Nat × Nat) Nat
  | 0, p => .ok p
  | k + 1, p =>
    match s[p]? with
    | none => .ok p
    | some c => if ends c then .ok p else if c.toNat < 33 ∨ 126 < c.toNat then .error (p, 10) else wordEnd s k (p + 1)

def isDigit (c : UInt8) : Bool := decide (48 ≤ c.toNat) && decide (c.toNat ≤ 57)
/-- Is a word a number's? -/
def isNum (w : List UInt8) : Bool :=
  let d := if w.head? = some 45 then w.tail else w
  !d.isEmpty && d.all isDigit

/-- The token of a word. -/
def wordTok (w : List UInt8) (p : Nat) : Except (Nat × Nat) Tok :=
  if isNum w then
    match Lib.parseIntB 64 w with
    | .ok v => .ok ⟨4, [], v, p⟩
    | _ => .error (p, 10)
  else .ok ⟨3, w, 0, p⟩

/-- Where a note ends. -/
def noteEnd (s : List UInt8) (p : Nat) : Nat :=
  let i := Lib.indexByte (s.drop p) 10
  if 0 ≤ i then p + i.toNat else s.length

/-- What stands at a place: a token, or none; the place behind. -/
def next (s : List UInt8) (p : Nat) : Except (Nat × Nat) (Option Tok × Nat) :=
  match s[p]? with
  | none => .ok (none, p)
  | some c =>
    if blank c then .ok (none, p + 1)
    else if c = 59 then .ok (none, noteEnd s p)
    else if c = 40 then .ok (some ⟨1, [], 0, p⟩, p + 1)
    else if c = 41 then .ok (some ⟨2, [], 0, p⟩, p + 1)
    else if c = 34 then
      match text s (s.length + 1) (p + 1) [] with
      | .error x => .error x
      | .ok (out, q) => .ok (some ⟨5, out, 0, p⟩, q)
    else
      match wordEnd s (s.length + 1) p with
      | .error x => .error x
      | .ok q => match wordTok ((s.drop p).take (q - p)) p with
        | .error x => .error x
        | .ok t => .ok (some t, q)

/-- All tokens from a place on. -/
def toks (s : List UInt8) : Nat → Nat → List Tok → Except (Nat × Nat) (List Tok)
  | 0, _, l => .ok l
  | k + 1, p, l =>
    if p < s.length then
      match next s p with
      | .error x => .error x
      | .ok (t, q) => toks s k q (l ++ t.toList)
    else .ok l

/-- A source's tokens. -/
def tokens (s : List UInt8) : Except (Nat × Nat) (List Tok) :=
  if 65536 < s.length then .error (65536, 13) else toks s (s.length + 1) 0 []
end Go.Proofs.YtaklmocjaokkpaaGreatDoor.Lx
