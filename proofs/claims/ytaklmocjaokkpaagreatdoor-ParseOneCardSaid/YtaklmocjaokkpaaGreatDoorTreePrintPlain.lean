/- A node's text: plain Lean, no program; no condition. -/
import Derived.Test.YtaklmocjaokkpaaGreatDoorTreePlain
import Derived.Test.YtaklmocjaokkpaaGreatDoorLexB
import Derived.Test.YtaklmocjaokkpaaGreatDoorLexD
import Derived.Lib.Join
import Derived.Lib.ItoaNum
import Derived.Lib.Small
import Derived.Lib.Hide
namespace Go.Proofs.YtaklmocjaokkpaaGreatDoor.Tr
set_option linter.unusedVariables false
set_option linter.unusedSimpArgs false

def bl (s : ByteArray) : List UInt8 := s.data.toList
/-- Names, with blanks between. -/
def joinL (ns : List ByteArray) : List UInt8 := Lib.join (ns.map (·.data.toList)) [32]
/-- The first name, if there is one. -/
def firstL (ns : List ByteArray) : List UInt8 := match ns with | [] => [] | x :: _ => bl x
/-- The word that a kind's text begins with, and the names behind it. -/
def headL (k : Nat) (t : List UInt8) (ns : List ByteArray) : List UInt8 :=
  if k = 6 then [102, 117, 110, 32] ++ t ++ [32, 40] ++ joinL ns ++ [41]
  else if k = 7 then [99, 97, 108, 108]
  else if k = 8 then [108, 101, 116, 32] ++ t
  else if k = 9 then [105, 102]
  else if k = 10 then [100, 111]
  else if k = 12 then [112, 101, 114, 102, 111, 114, 109, 32] ++ t
  else if k = 13 then [104, 97, 110, 100, 108, 101]
  else if k = 14 then [114, 101, 115, 117, 109, 101]
  else if k = 15 then [100, 114, 111, 112]
  else if k = 16 then [119, 105, 110, 100]
  else if k = 17 then [114, 101, 116, 117, 114, 110, 32] ++ firstL ns
  else if k = 18 then [111, 110, 32] ++ t ++ [32] ++ joinL ns
  else if k = 19 then [102, 105, 110, 97, 108, 108, 121]
  else t
mutual
/-- A node's text. -/
def printL : Nd → List UInt8
  | .mk k n t ns ks =>
    if k = 1 then Lib.itoa n
    else if k = 2 then Lib.formatBool (decide (n = 1))
    else if k = 3 then Lx.quote (bl t)
    else if k = 4 then [117, 110, 105, 116]
    else if k = 5 then bl t
    else 40 :: headL k (bl t) ns ++ printsL ks ++ [41]
def printsL : List Nd → List UInt8
  | [] => []
  | x :: l => (32 :: printL x) ++ printsL l
end
theorem printL_is (x : Nd) : printL x = if x.kind = 1 then Lib.itoa x.n else if x.kind = 2 then Lib.formatBool (decide (x.n = 1)) else if x.kind = 3 then Lx.quote (bl x.text) else if x.kind = 4 then [117, 110, 105, 116] else if x.kind = 5 then bl x.text else 40 :: headL x.kind (bl x.text) x.names ++ printsL x.kids ++ [41] := by
  cases x; rw [printL]; rfl
theorem printsL_app (a b : List Nd) : printsL (a ++ b) = printsL a ++ printsL b := by
  induction a with
  | nil => simp [printsL]
  | cons x a ih => rw [List.cons_append, printsL, printsL, ih, List.append_assoc]
theorem printsL_take (l : List Nd) (k : Nat) (x : Nd) (h : l[k]? = some x) : printsL (l.take (k + 1)) = printsL (l.take k) ++ (32 :: printL x) := by
  rw [List.take_add_one, h, Option.toList_some, printsL_app]
  simp [printsL]
theorem printsL_le (l : List Nd) (k : Nat) : (printsL (l.take k)).length ≤ (printsL l).length := by
  have : printsL l = printsL (l.take k) ++ printsL (l.drop k) := by rw [← printsL_app, List.take_append_drop]
  rw [this, List.length_append]
  omega
mutual
/-- What holds of each number, and each text in quotes, of a node. -/
def Lits (F : Int → Prop) (Q : ByteArray → Prop) : Nd → Prop
  | .mk k n t _ ks => (k = 1 → F n) ∧ (k = 3 → Q t) ∧ LitsL F Q ks
def LitsL (F : Int → Prop) (Q : ByteArray → Prop) : List Nd → Prop
  | [] => True
  | x :: l => Lits F Q x ∧ LitsL F Q l
end
theorem Lits.int {F : Int → Prop} {Q : ByteArray → Prop} {x : Nd} (h : Lits F Q x) (hk : x.kind = 1) : F x.n := by cases x; unfold Lits at h; exact h.1 hk
theorem Lits.str {F : Int → Prop} {Q : ByteArray → Prop} {x : Nd} (h : Lits F Q x) (hk : x.kind = 3) : Q x.text := by cases x; unfold Lits at h; exact h.2.1 hk
theorem LitsL.of {F : Int → Prop} {Q : ByteArray → Prop} : ∀ {l : List Nd} (h : LitsL F Q l) (y : Nd), y ∈ l → Lits F Q y
  | [], _, _, hy => by cases hy
  | x :: l, h, y, hy => by
    unfold LitsL at h
    rcases List.mem_cons.1 hy with rfl | hy
    · exact h.1
    · exact LitsL.of h.2 y hy
theorem Lits.kid {F : Int → Prop} {Q : ByteArray → Prop} {x : Nd} (h : Lits F Q x) (y : Nd) (hy : y ∈ x.kids) : Lits F Q y := by
  cases x; unfold Lits at h; exact h.2.2.of y hy
mutual
theorem Lits.all {F : Int → Prop} {Q : ByteArray → Prop} (hF : ∀ n, F n) (hQ : ∀ s, Q s) : ∀ x, Lits F Q x
  | .mk k n t ns ks => by unfold Lits; exact ⟨fun _ => hF n, fun _ => hQ t, LitsL.all hF hQ ks⟩
theorem LitsL.all {F : Int → Prop} {Q : ByteArray → Prop} (hF : ∀ n, F n) (hQ : ∀ s, Q s) : ∀ l, LitsL F Q l
  | [] => by unfold LitsL; trivial
  | x :: l => by unfold LitsL; exact ⟨Lits.all hF hQ x, LitsL.all hF hQ l⟩
end
theorem digs_dec : ∀ (k n : Nat), n < k → Lx.digs n = Lib.decDigits n := by
  intro k
  induction k with
  | zero => intro n h; omega
  | succ k ih =>
    intro n h
    unfold Lx.digs Lib.decDigits
    split
    · rfl
    · rw [ih (n / 10) (by omega)]
theorem numb_itoa (n : Int) : Lx.numb n = Lib.itoa n := by
  unfold Lx.numb Lib.itoa
  split
  · rw [digs_dec _ _ (Nat.lt_succ_self _)]
  · rw [digs_dec _ _ (Nat.lt_succ_self _)]
    congr 1
    omega
/-- A node that is right has a name just if it wants one. -/
theorem right_one {x : Nd} {deep : Nat} (h : rightB x deep = true) (hk : x.kind = 17) : x.names.length = 1 := by
  rw [rightB_is, hk, Bool.and_eq_true] at h
  have h1 := h.1
  unfold headB at h1
  simp only [shapeOf, Bool.and_eq_true] at h1
  exact of_decide_eq_true h1.1.1.2
theorem right_kid {x : Nd} {deep : Nat} (h : rightB x deep = true) (y : Nd) (hy : y ∈ x.kids) : rightB y (deep + 1) = true := by
  rw [rightB_is, Bool.and_eq_true, kidsB_all, List.all_eq_true] at h
  exact h.2 y hy
theorem firstL_one {ns : List ByteArray} {s : ByteArray} (h : ns[0]? = some s) : firstL ns = bl s := by
  cases ns with
  | nil => cases h
  | cons x l => cases h; rfl
end Go.Proofs.YtaklmocjaokkpaaGreatDoor.Tr
