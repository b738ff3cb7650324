/- A text as the document shows it is one token: that text. No condition but its size. -/
import Derived.Test.YtaklmocjaokkpaaGreatDoorLexSpec
namespace Go.Proofs.YtaklmocjaokkpaaGreatDoor.Lx

/-- A hexadecimal digit's letter. -/
def hexd (k : Nat) : UInt8 := UInt8.ofNat (if k < 10 then 48 + k else 87 + k)
/-- A byte as it is shown. -/
def qb (c : UInt8) : List UInt8 := if c = 34 ∨ c = 92 then [92, c] else if 32 ≤ c.toNat ∧ c.toNat ≤ 126 then [c] else [92, 120, hexd (c.toNat / 16), hexd (c.toNat % 16)]
def quote (s : List UInt8) : List UInt8 := 34 :: (s.flatMap qb ++ [34])

theorem qb_len (c : UInt8) : (qb c).length ≤ 4 := by
  unfold qb; split
  · simp
  · split <;> simp
theorem quote_len (s : List UInt8) : (quote s).length ≤ 4 * s.length + 2 := by
  have : (s.flatMap qb).length ≤ 4 * s.length := by
    induction s with
    | nil => simp
    | cons c s ih => have := qb_len c; simp only [List.flatMap_cons, List.length_append, List.length_cons]; omega
  unfold quote; simp only [List.length_cons, List.length_append, List.length_nil]; omega
theorem take_step (l : List UInt8) (p : Nat) (c : UInt8) (h : l[p]? = some c) : (l.take (p + 1)).flatMap qb = (l.take p).flatMap qb ++ qb c := by
  rw [List.take_add_one, h]; simp


theorem hexv_hexd : ∀ k, k < 16 → hexv (hexd k).toNat = some k := by decide
theorem hexAt_of (l : List UInt8) (p k : Nat) (h : k < 16) (hp : l[p]? = some (hexd k)) : hexAt l p = .ok k := by
  unfold hexAt; rw [hp]; simp only [hexv_hexd k h]

theorem qb_cases (c : UInt8) : ((c = 34 ∨ c = 92) ∧ qb c = [92, c]) ∨ (¬ c = 34 ∧ ¬ c = 92 ∧ qb c = [c]) ∨ qb c = [92, 120, hexd (c.toNat / 16), hexd (c.toNat % 16)] := by
  unfold qb
  by_cases e : c = 34 ∨ c = 92
  · rw [if_pos e]; exact .inl ⟨e, rfl⟩
  · rw [if_neg e]
    by_cases e2 : 32 ≤ c.toNat ∧ c.toNat ≤ 126
    · rw [if_pos e2]; exact .inr (.inl ⟨fun x => e (.inl x), fun x => e (.inr x), rfl⟩)
    · rw [if_neg e2]; exact .inr (.inr rfl)
/-- From a place that a shown byte begins at, one step of the text's reading takes it. -/
theorem text_qb (l : List UInt8) (k p : Nat) (out : List UInt8) (c : UInt8) (h : ∀ i, i < (qb c).length → l[p + i]? = (qb c)[i]?) : text l (k + 1) p out = text l k (p + (qb c).length) (out ++ [c]) := by
  rcases qb_cases c with ⟨e, hq⟩ | ⟨n1, n2, hq⟩ | hq
  · rw [hq] at h ⊢
    have a0 := h 0 (by simp)
    have a1 := h 1 (by simp)
    simp only [List.getElem?_cons_zero, List.getElem?_cons_succ, Nat.add_zero] at a0 a1
    have he : esc l (p + 1) = .ok (c, p + 1 + 1) := by
      unfold esc; rw [a1]; simp only [e, if_true]
    show (match l[p]? with | none => _ | some c => _) = _
    rw [a0]
    simp only [show ¬ ((92 : UInt8) = 34) by decide, if_false, if_true, he]
    rfl
  · rw [hq] at h ⊢
    have a0 := h 0 (by simp)
    simp only [List.getElem?_cons_zero, Nat.add_zero] at a0
    show (match l[p]? with | none => _ | some c => _) = _
    rw [a0]
    simp only [n1, n2, if_false]
    rfl
  · rw [hq] at h ⊢
    have a0 := h 0 (by simp)
    have a1 := h 1 (by simp)
    have a2 := h 2 (by simp)
    have a3 := h 3 (by simp)
    simp only [List.getElem?_cons_zero, List.getElem?_cons_succ, Nat.add_zero] at a0 a1 a2 a3
    have hc := c.toNat_lt
    have x1 := hexAt_of l (p + 1 + 1) (c.toNat / 16) (by omega) a2
    have x2 := hexAt_of l (p + 1 + 2) (c.toNat % 16) (by omega) a3
    have hn : UInt8.ofNat (16 * (c.toNat / 16) + c.toNat % 16) = c := by
      rw [Nat.div_add_mod]; exact UInt8.ofNat_toNat
    have he : esc l (p + 1) = .ok (c, p + 1 + 3) := by
      unfold esc; rw [a1]
      simp only [show ¬ ((120 : UInt8) = 34 ∨ (120 : UInt8) = 92) by decide, show ¬ ((120 : UInt8) = 110) by decide, if_false, if_true, x1, x2, hn]
    show (match l[p]? with | none => _ | some c => _) = _
    rw [a0]
    simp only [show ¬ ((92 : UInt8) = 34) by decide, if_false, if_true, he]
    rfl

theorem text_quote (r : List UInt8) : ∀ (pre out : List UInt8) (k : Nat), r.length < k → text (pre ++ (r.flatMap qb ++ [34])) k pre.length out = .ok (out ++ r, pre.length + (r.flatMap qb).length + 1) := by
  induction r with
  | nil =>
    intro pre out k hk
    obtain ⟨k, rfl⟩ : ∃ m, k = m + 1 := ⟨k - 1, by simp at hk; omega⟩
    have a0 : (pre ++ (([] : List UInt8).flatMap qb ++ [34]))[pre.length]? = some 34 := by simp
    show (match (pre ++ (([] : List UInt8).flatMap qb ++ [34]))[pre.length]? with | none => _ | some c => _) = _
    rw [a0]; simp
  | cons c r ih =>
    intro pre out k hk
    obtain ⟨k, rfl⟩ : ∃ m, k = m + 1 := ⟨k - 1, by simp at hk; omega⟩
    rw [text_qb _ k _ out c (fun i hi => by
      rw [List.getElem?_append_right (by omega), show pre.length + i - pre.length = i by omega, List.flatMap_cons, List.append_assoc, List.getElem?_append_left hi])]
    have := ih (pre ++ qb c) (out ++ [c]) k (by simp at hk; omega)
    simp only [List.flatMap_cons, List.length_append, List.append_assoc] at this ⊢
    rw [this]
    simp [Nat.add_assoc]

theorem tokens_quote (s : List UInt8) (hs : s.length ≤ 1000) : tokens (quote s) = .ok [⟨5, s, 0, 0⟩] := by
  have hl := quote_len s
  have ht := text_quote s [34] [] ((quote s).length + 1) (by
    have : s.length ≤ (s.flatMap qb).length := by
      clear hs hl
      induction s with
      | nil => simp
      | cons c s ih =>
        have : 1 ≤ (qb c).length := by unfold qb; split <;> (try split) <;> simp
        simp only [List.flatMap_cons, List.length_append, List.length_cons]; omega
    unfold quote; simp only [List.length_cons, List.length_append, List.length_nil]; omega)
  have hq : ([34] ++ (s.flatMap qb ++ [34])) = quote s := rfl
  rw [hq] at ht
  have hn : next (quote s) 0 = .ok (some ⟨5, s, 0, 0⟩, (quote s).length) := by
    have h0 : (quote s)[0]? = some 34 := rfl
    unfold next
    rw [h0]
    simp only [show blank 34 = false by decide, Bool.false_eq_true, if_false, show ¬ ((34 : UInt8) = 59) by decide, show ¬ ((34 : UInt8) = 40) by decide, show ¬ ((34 : UInt8) = 41) by decide, if_true]
    rw [show (0 + 1 : Nat) = ([34] : List UInt8).length from rfl, ht]
    simp [quote]
    omega
  unfold tokens
  rw [if_neg (by omega)]
  have hp : 0 < (quote s).length := by simp [quote]
  show (if 0 < (quote s).length then _ else _) = _
  rw [if_pos hp, hn]
  obtain ⟨m, hm⟩ : ∃ m, (quote s).length = m + 1 := ⟨(quote s).length - 1, by omega⟩
  show toks (quote s) (quote s).length (quote s).length _ = _
  rw [hm]
  show (if m + 1 < (quote s).length then _ else _) = _
  rw [if_neg (by omega)]
  rfl
end Go.Proofs.YtaklmocjaokkpaaGreatDoor.Lx
