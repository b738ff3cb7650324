/- What a number's word comes to: its value, and whether an int64 holds it. No condition. -/
import Derived.Test.YtaklmocjaokkpaaGreatDoorLexSpec
import Derived.Lib.ParseIntBCases
namespace Go.Proofs.YtaklmocjaokkpaaGreatDoor.Lx
open Go.RowKit

/-- The value of digits, behind a value. -/
def val (a : Nat) (l : List UInt8) : Nat := l.foldl (fun a c => 10 * a + (c.toNat - 48)) a
theorem val_nil (a : Nat) : val a [] = a := by unfold val; rw [List.foldl_nil]
theorem val_cons (a : Nat) (c : UInt8) (l : List UInt8) : val a (c :: l) = val (10 * a + (c.toNat - 48)) l := by unfold val; rw [List.foldl_cons]
theorem val_snoc (a : Nat) (c : UInt8) (l : List UInt8) : val a (l ++ [c]) = 10 * val a l + (c.toNat - 48) := by
  rw [val, List.foldl_append, List.foldl_cons, List.foldl_nil, ← val]
theorem val_append (a : Nat) (l m : List UInt8) : val a (l ++ m) = val (val a l) m := by
  unfold val; rw [List.foldl_append]
theorem val_ge (l : List UInt8) : ∀ a, a ≤ val a l := by
  induction l with
  | nil => intro a; exact Nat.le_refl _
  | cons c l ih => intro a; rw [val_cons]; have := ih (10 * a + (c.toNat - 48)); omega

theorem pum (l : List UInt8) : ∀ acc, l.all isDigit = true → acc ≤ 18446744073709551615 →
    Lib.parseUintM 18446744073709551615 acc l = if val acc l ≤ 18446744073709551615 then .ok (val acc l) else .range := by
  induction l with
  | nil => intro acc _ h; rw [Lib.parseUintM, val_nil, if_pos h]
  | cons c l ih =>
    intro acc hd h
    rw [List.all_cons, Bool.and_eq_true] at hd
    have hc : 48 ≤ c.toNat ∧ c.toNat ≤ 57 := by
      have := hd.1; unfold isDigit at this; simpa using this
    rw [Lib.parseUintM, if_pos hc, val_cons]
    have hv := val_ge l (10 * acc + (c.toNat - 48))
    by_cases h1 : 1844674407370955162 ≤ acc
    · rw [if_pos h1, if_neg (by omega)]
    · rw [if_neg h1]
      by_cases h2 : 18446744073709551615 < acc * 10 + (c.toNat - 48)
      · rw [if_pos h2, if_neg (by omega)]
      · rw [if_neg h2, ih _ hd.2 (by omega), Nat.mul_comm acc 10]
theorem pub64 (l : List UInt8) (hne : l ≠ []) (hd : l.all isDigit = true) :
    Lib.parseUintB 64 l = if val 0 l ≤ 18446744073709551615 then .ok (val 0 l) else .range := by
  unfold Lib.parseUintB
  rw [if_neg hne]
  exact pum l 0 hd (by decide)

/-- The digits of a word, and whether they are a negative number's. -/
def negW (w : List UInt8) : Bool := decide (w.head? = some 45)
def digW (w : List UInt8) : List UInt8 := if w.head? = some 45 then w.tail else w
theorem isNum_is (w : List UInt8) : isNum w = (!(digW w).isEmpty && (digW w).all isDigit) := rfl
/-- How great a number may be. -/
def topW (w : List UInt8) : Nat := if negW w then 9223372036854775808 else 9223372036854775807
theorem signed_is (v : Nat) : Lib.signedC (2 ^ (64 - 1)) (if v ≤ 18446744073709551615 then .ok v else .range) = if v ≤ 9223372036854775808 then .ok (if true = true then -(v : Int) else (v : Int)) else .range := by
  have e : 2 ^ (64 - 1) = 9223372036854775808 := by decide
  rw [e, if_pos rfl]
  by_cases h1 : v ≤ 18446744073709551615
  · rw [if_pos h1]
    show (if 9223372036854775808 < v then .range else .ok (-(v : Int)) : Lib.NumEnd Int) = _
    by_cases h2 : 9223372036854775808 < v
    · rw [if_pos h2, if_neg (by omega)]
    · rw [if_neg h2, if_pos (by omega)]
  · rw [if_neg h1, if_neg (by omega)]; rfl
theorem signless_is (v : Nat) : Lib.signlessC (2 ^ (64 - 1)) (if v ≤ 18446744073709551615 then .ok v else .range) = if v ≤ 9223372036854775807 then .ok (if false = true then -(v : Int) else (v : Int)) else .range := by
  have e : 2 ^ (64 - 1) = 9223372036854775808 := by decide
  rw [e, if_neg (by decide : ¬ false = true)]
  by_cases h1 : v ≤ 18446744073709551615
  · rw [if_pos h1]
    show (if 9223372036854775808 ≤ v then .range else .ok (v : Int) : Lib.NumEnd Int) = _
    by_cases h2 : 9223372036854775808 ≤ v
    · rw [if_pos h2, if_neg (by omega)]
    · rw [if_neg h2, if_pos (by omega)]
  · rw [if_neg h1, if_neg (by omega)]; rfl
theorem parse_num (w : List UInt8) (h : isNum w = true) :
    Lib.parseIntB 64 w = if val 0 (digW w) ≤ topW w then .ok (if negW w then -(val 0 (digW w) : Int) else (val 0 (digW w) : Int)) else .range := by
  rw [isNum_is, Bool.and_eq_true] at h
  obtain ⟨h1, h2⟩ := h
  have hne : digW w ≠ [] := by intro e; rw [e] at h1; cases h1
  cases w with
  | nil => exact absurd rfl hne
  | cons c r =>
    by_cases hc : c = 45
    · subst hc
      have e1 : digW (45 :: r) = r := rfl
      have e2 : negW (45 :: r) = true := rfl
      have e3 : topW (45 :: r) = 9223372036854775808 := rfl
      rw [e1] at hne h2
      rw [e1, e2, e3, Lib.parseIntB_minus, pub64 r hne h2]
      generalize val 0 r = v
      exact signed_is v
    · have hh : (c :: r).head? ≠ some 45 := by simp [hc]
      have e1 : digW (c :: r) = c :: r := by unfold digW; rw [if_neg hh]
      have e2 : negW (c :: r) = false := by unfold negW; rw [decide_eq_false hh]
      have e3 : topW (c :: r) = 9223372036854775807 := by unfold topW; rw [e2]; rfl
      rw [e1] at hne h2
      have hd : 48 ≤ c.toNat ∧ c.toNat ≤ 57 := by
        rw [List.all_cons, Bool.and_eq_true] at h2
        have := h2.1; unfold isDigit at this; simpa using this
      rw [e1, e2, e3, Lib.parseIntB_plain 64 c r (by omega) (by omega), pub64 (c :: r) hne h2]
      generalize val 0 (c :: r) = v
      exact signless_is v
end Go.Proofs.YtaklmocjaokkpaaGreatDoor.Lx
