/- A node's text as the document's answer puts it together, and that it is the program's text: plain Lean, no program. -/
import Derived.Test.YtaklmocjaokkpaaGreatDoorTreePrintPlain
import Derived.Test.YtaklmocjaokkpaaGreatDoorTreeRTakes
namespace Go.Proofs.YtaklmocjaokkpaaGreatDoor.Tr
set_option linter.unusedVariables false
set_option linter.unusedSimpArgs false

theorem join_snoc (ns : List ByteArray) (s : ByteArray) (h : ns ≠ []) : joinL (ns ++ [s]) = joinL ns ++ (32 :: bl s) := by
  cases ns with
  | nil => exact absurd rfl h
  | cons x l =>
    unfold joinL
    rw [List.cons_append, List.map_cons, List.map_cons, List.map_append, Lib.join_cons, Lib.join_cons]
    simp [Lib.joinTail, bl]
theorem join_app (p q : List ByteArray) (h : p ≠ []) : joinL (p ++ q) = joinL p ++ q.flatMap (fun s => 32 :: bl s) := by
  induction q generalizing p with
  | nil => simp
  | cons s q ih =>
    rw [show p ++ s :: q = (p ++ [s]) ++ q by simp, ih (p ++ [s]) (by simp), join_snoc p s h]
    simp
theorem join_sing (s : ByteArray) : joinL [s] = bl s := by unfold joinL; rw [List.map_cons, List.map_nil, Lib.join_one]; rfl
/-- The word that a kind's text begins with. -/
def hdW (k : Nat) : ByteArray :=
  if k = 6 then ⟨#[102, 117, 110]⟩ else if k = 7 then ⟨#[99, 97, 108, 108]⟩ else if k = 8 then ⟨#[108, 101, 116]⟩ else if k = 9 then ⟨#[105, 102]⟩ else if k = 10 then ⟨#[100, 111]⟩
  else if k = 12 then ⟨#[112, 101, 114, 102, 111, 114, 109]⟩ else if k = 13 then ⟨#[104, 97, 110, 100, 108, 101]⟩ else if k = 14 then ⟨#[114, 101, 115, 117, 109, 101]⟩ else if k = 15 then ⟨#[100, 114, 111, 112]⟩
  else if k = 16 then ⟨#[119, 105, 110, 100]⟩ else if k = 17 then ⟨#[114, 101, 116, 117, 114, 110]⟩ else if k = 18 then ⟨#[111, 110]⟩ else if k = 19 then ⟨#[102, 105, 110, 97, 108, 108, 121]⟩ else ⟨#[]⟩
def one (s : ByteArray) : List ByteArray := if s = ⟨#[]⟩ then [] else [s]
/-- What stands ahead of a node's parts. -/
def partsL (k : Nat) (t : ByteArray) (ns : List ByteArray) : List ByteArray :=
  one (hdW k) ++ one t ++ (if k = 6 then [⟨(40 :: joinL ns ++ [41]).toArray⟩] else ns)
mutual
def refL : Nd → List UInt8
  | .mk k n t ns ks =>
    if k = 1 then Lib.itoa n
    else if k = 2 then (if n = 1 then [116, 114, 117, 101] else [102, 97, 108, 115, 101])
    else if k = 3 then Lx.quote (bl t)
    else if k = 4 then [117, 110, 105, 116]
    else if k = 5 then bl t
    else 40 :: joinL (partsL k t ns ++ refsL ks) ++ [41]
def refsL : List Nd → List ByteArray
  | [] => []
  | x :: l => ⟨(refL x).toArray⟩ :: refsL l
end
theorem refL_is (x : Nd) : refL x = if x.kind = 1 then Lib.itoa x.n else if x.kind = 2 then (if x.n = 1 then [116, 114, 117, 101] else [102, 97, 108, 115, 101]) else if x.kind = 3 then Lx.quote (bl x.text) else if x.kind = 4 then [117, 110, 105, 116] else if x.kind = 5 then bl x.text else 40 :: joinL (partsL x.kind x.text x.names ++ refsL x.kids) ++ [41] := by
  cases x; rw [refL]; rfl
theorem refsL_len (l : List Nd) : (refsL l).length = l.length := by
  induction l with
  | nil => rfl
  | cons x l ih => rw [refsL, List.length_cons, List.length_cons, ih]
theorem refsL_take (l : List Nd) (k : Nat) (x : Nd) (h : l[k]? = some x) : refsL (l.take (k + 1)) = refsL (l.take k) ++ [⟨(refL x).toArray⟩] := by
  induction l generalizing k with
  | nil => cases h
  | cons y l ih =>
    cases k with
    | zero => simp at h; subst h; simp [refsL]
    | succ k => rw [List.take_succ_cons, List.take_succ_cons, refsL, refsL, ih k (by simpa using h)]; rfl
theorem bl_mk2 (l : List UInt8) : bl ⟨l.toArray⟩ = l := by simp [bl]
theorem one_ne {s : ByteArray} (h : ¬ s = ⟨#[]⟩) : one s = [s] := if_neg h
theorem one_nil : one ⟨#[]⟩ = [] := if_pos rfl
theorem name_ne {s : ByteArray} (h : nameB s = true) : ¬ s = ⟨#[]⟩ := by
  rintro rfl
  exact absurd h (by decide +kernel)
theorem takes_ne {s : ByteArray} (h : 0 ≤ takes s) : ¬ s = ⟨#[]⟩ := by
  rintro rfl
  have : takes ⟨#[]⟩ = -1 := by kernel_rfl
  omega
theorem bare_text {k : Nat} {n : Int} {t : ByteArray} {m : Nat} (h : textB k n t m = true) (h2 : ¬ k = 2) (h3 : ¬ k = 3) (h5 : ¬ (k = 5 ∨ k = 6 ∨ k = 8 ∨ k = 12 ∨ k = 18)) (h11 : ¬ k = 11) : t = ⟨#[]⟩ := by
  unfold textB at h
  rw [if_neg h2, if_neg h3, if_neg h5, if_neg h11] at h
  exact of_decide_eq_true h
theorem named_text {k : Nat} {n : Int} {t : ByteArray} {m : Nat} (h : textB k n t m = true) (h2 : ¬ k = 2) (h3 : ¬ k = 3) (h5 : k = 5 ∨ k = 6 ∨ k = 8 ∨ k = 12 ∨ k = 18) : ¬ t = ⟨#[]⟩ := by
  unfold textB at h
  rw [if_neg h2, if_neg h3, if_pos h5] at h
  exact name_ne h
/-- What a right node's kind, text and names are. -/
theorem right_shape {x : Nd} {d : Nat} (h : rightB x d = true) : ∃ many least most, shapeOf x.kind = some (many, least, most) ∧ textB x.kind x.n x.text x.kids.length = true ∧ (∀ m, many = some m → x.names.length = m) := by
  rw [rightB_is, Bool.and_eq_true] at h
  have h1 := h.1
  unfold headB at h1
  cases hs : shapeOf x.kind with
  | none => rw [hs] at h1; cases h1
  | some q =>
    obtain ⟨many, least, most⟩ := q
    rw [hs] at h1
    simp only [Bool.and_eq_true] at h1
    refine ⟨many, least, most, rfl, h1.1.1.1.1.1.1.2, fun m hm => ?_⟩
    subst hm
    exact of_decide_eq_true h1.1.1.2
theorem shape_kind {k : Nat} {q : Option Nat × Nat × Nat} (h : shapeOf k = some q) : 1 ≤ k ∧ k ≤ 19 := by
  unfold shapeOf at h
  split at h <;> first | (constructor <;> omega) | cases h
/-- Ahead of the parts stands what the program puts there. -/
theorem parts_head {x : Nd} {d : Nat} (h : rightB x d = true) (h5 : 5 < x.kind) : partsL x.kind x.text x.names ≠ [] ∧ joinL (partsL x.kind x.text x.names) = headL x.kind (bl x.text) x.names := by
  obtain ⟨many, least, most, hs, ht, hn⟩ := right_shape h
  obtain ⟨_, hk⟩ := shape_kind hs
  have bare : x.kind = 7 ∨ x.kind = 9 ∨ x.kind = 10 ∨ x.kind = 13 ∨ x.kind = 14 ∨ x.kind = 15 ∨ x.kind = 16 ∨ x.kind = 17 ∨ x.kind = 19 → x.text = ⟨#[]⟩ := fun e => bare_text ht (by omega) (by omega) (by omega) (by omega)
  have named : x.kind = 6 ∨ x.kind = 8 ∨ x.kind = 12 ∨ x.kind = 18 → ¬ x.text = ⟨#[]⟩ := fun e => named_text ht (by omega) (by omega) (by omega)
  have prim : x.kind = 11 → ¬ x.text = ⟨#[]⟩ := fun e => by
    rw [e] at ht
    have : takes x.text = (x.kids.length : Int) := of_decide_eq_true ht
    exact takes_ne (by omega)
  have nn : many = some 0 → x.names = [] := fun e => List.eq_nil_of_length_eq_zero (hn 0 e)
  by_cases e6 : x.kind = 6
  · rw [e6] at hs
    have e : partsL 6 x.text x.names = [hdW 6] ++ [x.text] ++ [⟨(40 :: joinL x.names ++ [41]).toArray⟩] := by
      unfold partsL
      rw [one_ne (named (by omega)), show one (hdW 6) = [hdW 6] by decide +kernel]
      rfl
    rw [e6, e, join_snoc _ _ (by simp), join_snoc _ _ (by simp), join_sing, bl_mk2]
    exact ⟨by simp, by simp [headL, hdW, bl]⟩
  by_cases e7 : x.kind = 7
  · rw [e7] at hs
    have hm : many = some 0 := by simp [shapeOf] at hs; exact hs.1.symm
    rw [e7, bare (by omega), nn hm]
    exact ⟨by decide +kernel, by kernel_rfl⟩
  by_cases e8 : x.kind = 8
  · rw [e8] at hs
    have hm : many = some 0 := by simp [shapeOf] at hs; exact hs.1.symm
    have e : partsL 8 x.text x.names = [hdW 8] ++ [x.text] := by
      unfold partsL
      rw [nn hm, one_ne (named (by omega)), show one (hdW 8) = [hdW 8] by decide +kernel]
      rfl
    rw [e8, e, join_snoc _ _ (by simp), join_sing]
    exact ⟨by simp, by simp [headL, hdW, bl]⟩
  by_cases e9 : x.kind = 9
  · rw [e9] at hs
    have hm : many = some 0 := by simp [shapeOf] at hs; exact hs.1.symm
    rw [e9, bare (by omega), nn hm]
    exact ⟨by decide +kernel, by kernel_rfl⟩
  by_cases e10 : x.kind = 10
  · rw [e10] at hs
    have hm : many = some 0 := by simp [shapeOf] at hs; exact hs.1.symm
    rw [e10, bare (by omega), nn hm]
    exact ⟨by decide +kernel, by kernel_rfl⟩
  by_cases e11 : x.kind = 11
  · rw [e11] at hs
    have hm : many = some 0 := by simp [shapeOf] at hs; exact hs.1.symm
    have e : partsL 11 x.text x.names = [x.text] := by
      unfold partsL
      rw [nn hm, one_ne (prim e11), show one (hdW 11) = [] by decide +kernel]
      rfl
    rw [e11, e, join_sing]
    exact ⟨by simp, by simp [headL]⟩
  by_cases e12 : x.kind = 12
  · rw [e12] at hs
    have hm : many = some 0 := by simp [shapeOf] at hs; exact hs.1.symm
    have e : partsL 12 x.text x.names = [hdW 12] ++ [x.text] := by
      unfold partsL
      rw [nn hm, one_ne (named (by omega)), show one (hdW 12) = [hdW 12] by decide +kernel]
      rfl
    rw [e12, e, join_snoc _ _ (by simp), join_sing]
    exact ⟨by simp, by simp [headL, hdW, bl]⟩
  by_cases e13 : x.kind = 13
  · rw [e13] at hs
    have hm : many = some 0 := by simp [shapeOf] at hs; exact hs.1.symm
    rw [e13, bare (by omega), nn hm]
    exact ⟨by decide +kernel, by kernel_rfl⟩
  by_cases e14 : x.kind = 14
  · rw [e14] at hs
    have hm : many = some 0 := by simp [shapeOf] at hs; exact hs.1.symm
    rw [e14, bare (by omega), nn hm]
    exact ⟨by decide +kernel, by kernel_rfl⟩
  by_cases e15 : x.kind = 15
  · rw [e15] at hs
    have hm : many = some 0 := by simp [shapeOf] at hs; exact hs.1.symm
    rw [e15, bare (by omega), nn hm]
    exact ⟨by decide +kernel, by kernel_rfl⟩
  by_cases e16 : x.kind = 16
  · rw [e16] at hs
    have hm : many = some 0 := by simp [shapeOf] at hs; exact hs.1.symm
    rw [e16, bare (by omega), nn hm]
    exact ⟨by decide +kernel, by kernel_rfl⟩
  by_cases e17 : x.kind = 17
  · rw [e17] at hs
    have hm : many = some 1 := by simp [shapeOf] at hs; exact hs.1.symm
    have hl := hn 1 hm
    match hx : x.names, hl with
    | [s], _ =>
      have e : partsL 17 ⟨#[]⟩ [s] = [hdW 17] ++ [s] := by
        unfold partsL
        rw [one_nil, show one (hdW 17) = [hdW 17] by decide +kernel]
        rfl
      rw [e17, bare (by omega), e, join_snoc _ _ (by simp), join_sing]
      exact ⟨by simp, by simp [headL, hdW, bl, firstL]⟩
  by_cases e18 : x.kind = 18
  · rw [e18] at hs
    have hm : many = some 2 := by simp [shapeOf] at hs; exact hs.1.symm
    have hl := hn 2 hm
    match hx : x.names, hl with
    | [s, r], _ =>
      have e : partsL 18 x.text [s, r] = [hdW 18] ++ [x.text] ++ [s] ++ [r] := by
        unfold partsL
        rw [one_ne (named (by omega)), show one (hdW 18) = [hdW 18] by decide +kernel]
        rfl
      have e2 : joinL [s, r] = bl s ++ (32 :: bl r) := by rw [show [s, r] = [s] ++ [r] from rfl, join_snoc _ _ (by simp), join_sing]
      rw [e18, e, join_snoc _ _ (by simp), join_snoc _ _ (by simp), join_snoc _ _ (by simp), join_sing]
      refine ⟨by simp, ?_⟩
      simp only [headL]
      simp [e2, hdW, bl]
  by_cases e19 : x.kind = 19
  · rw [e19] at hs
    have hm : many = some 0 := by simp [shapeOf] at hs; exact hs.1.symm
    rw [e19, bare (by omega), nn hm]
    exact ⟨by decide +kernel, by kernel_rfl⟩
  exfalso
  omega
theorem refs_prints {l : List Nd} {d : Nat} (h : ∀ y ∈ l, rightB y d = true → refL y = printL y) (hr : ∀ y ∈ l, rightB y d = true) : (refsL l).flatMap (fun s => 32 :: bl s) = printsL l := by
  induction l with
  | nil => rfl
  | cons y l ih =>
    rw [refsL, printsL, List.flatMap_cons, bl_mk2, h y List.mem_cons_self (hr y List.mem_cons_self), ih (fun z hz => h z (List.mem_cons_of_mem _ hz)) (fun z hz => hr z (List.mem_cons_of_mem _ hz))]
/-- One text. -/
theorem ref_print : ∀ (x : Nd) (d : Nat), rightB x d = true → refL x = printL x := by
  intro x
  induction x using Nd.ind with
  | h x ih =>
    intro d h
    rw [refL_is, printL_is]
    by_cases k1 : x.kind = 1
    · rw [if_pos k1, if_pos k1]
    rw [if_neg k1, if_neg k1]
    by_cases k2 : x.kind = 2
    · rw [if_pos k2, if_pos k2]
      unfold Lib.formatBool
      by_cases e : x.n = 1
      · rw [if_pos e, decide_eq_true e]; rfl
      · rw [if_neg e, decide_eq_false e]; rfl
    rw [if_neg k2, if_neg k2]
    by_cases k3 : x.kind = 3
    · rw [if_pos k3, if_pos k3]
    rw [if_neg k3, if_neg k3]
    by_cases k4 : x.kind = 4
    · rw [if_pos k4, if_pos k4]
    rw [if_neg k4, if_neg k4]
    by_cases k5 : x.kind = 5
    · rw [if_pos k5, if_pos k5]
    rw [if_neg k5, if_neg k5]
    obtain ⟨_, _, _, hs, _⟩ := right_shape h
    have hk := shape_kind hs
    obtain ⟨p1, p2⟩ := parts_head h (by omega)
    rw [join_app _ _ p1, p2, refs_prints (d := d + 1) (fun y hy hr => ih y hy (d + 1) hr) (fun y hy => right_kid h y hy)]
    simp
end Go.Proofs.YtaklmocjaokkpaaGreatDoor.Tr
