/- A number's letters, with noughts ahead, are one token: that number. No condition but that an int64 holds it. A text as the document shows it is one token: that text. No condition but its size. When the tokens of a text are one word, that text: just when the text is a word. No condition. Where tokens stand: one behind the other, inside the source; a bracket, a quote, a word stand in it at their places. No condition. Two sources with a newline between them have the tokens of both, the second's places moved on. Condition: neither has an error, together they are no longer than a source may be. -/
import Derived.Test.YtaklmocjaokkpaaDoorLexB
import Derived.Test.YtaklmocjaokkpaaDoorLexA
import Derived.Test.YtaklmocjaokkpaaDoorLexC
namespace Go.Proofs.YtaklmocjaokkpaaDoor.Lx
set_option linter.unusedVariables false
set_option linter.unusedSimpArgs false

theorem dig_ok (n : Nat) (h : n < 10) : (UInt8.ofNat (48 + n)).toNat = 48 + n := by simp; omega
theorem dig_is (n : Nat) (h : n < 10) : isDigit (UInt8.ofNat (48 + n)) = true := by
  unfold isDigit; rw [dig_ok n h]; simp; omega
theorem digs_facts : ∀ (k n : Nat), n < 10 ^ (k + 1) → (digs n).all isDigit = true ∧ val 0 (digs n) = n ∧ digs n ≠ [] := by
  intro k
  induction k with
  | zero =>
    intro n h
    have h : n < 10 := by omega
    unfold digs; rw [if_pos h]
    refine ⟨by rw [List.all_cons, List.all_nil, dig_is n h]; rfl, ?_, by simp⟩
    rw [val_cons, val_nil, dig_ok n h]; omega
  | succ k ih =>
    intro n h
    unfold digs
    split
    · rename_i h
      refine ⟨by rw [List.all_cons, List.all_nil, dig_is n h]; rfl, ?_, by simp⟩
      rw [val_cons, val_nil, dig_ok n h]; omega
    · obtain ⟨i1, i2, i3⟩ := ih (n / 10) (by rw [Nat.pow_succ] at h; omega)
      refine ⟨by rw [List.all_append, i1, List.all_cons, List.all_nil, dig_is (n % 10) (by omega)]; rfl, ?_, by simp⟩
      rw [val_snoc, i2, dig_ok _ (by omega)]; omega
theorem val_zeros (m : Nat) (l : List UInt8) : val 0 (List.replicate m 48 ++ l) = val 0 l := by
  induction m with
  | zero => rfl
  | succ m ih => rw [List.replicate_succ, List.cons_append, val_cons]; simpa using ih

/-- A number's word, with noughts ahead. -/
def zword (n : Int) (m : Nat) : List UInt8 := List.replicate m 48 ++ digs n.natAbs
def nword (n : Int) (m : Nat) : List UInt8 := (if n < 0 then [45] else []) ++ zword n m

theorem zword_facts (n : Int) (m : Nat) (h1 : -9223372036854775808 ≤ n) (h2 : n ≤ 9223372036854775807) :
    (zword n m).all isDigit = true ∧ val 0 (zword n m) = n.natAbs ∧ zword n m ≠ [] := by
  obtain ⟨i1, i2, i3⟩ := digs_facts 20 n.natAbs (by omega)
  refine ⟨?_, by unfold zword; rw [val_zeros, i2], by unfold zword; simp [i3]⟩
  unfold zword
  rw [List.all_append, i1, Bool.and_true]
  simp [isDigit]
theorem head_dig {l : List UInt8} (h : l.all isDigit = true) : ¬ l.head? = some 45 := by
  intro e
  cases l with
  | nil => cases e
  | cons c l =>
    simp at e h
    rw [e] at h
    exact absurd h.1 (by decide)
theorem wordTok_num (n : Int) (m p : Nat) (h1 : -9223372036854775808 ≤ n) (h2 : n ≤ 9223372036854775807) : wordTok (nword n m) p = .ok ⟨4, [], n, p⟩ := by
  obtain ⟨i1, i2, i3⟩ := zword_facts n m h1 h2
  have hd : digW (nword n m) = zword n m ∧ negW (nword n m) = decide (n < 0) := by
    unfold nword
    by_cases hn : n < 0
    · rw [if_pos hn]; exact ⟨rfl, by simp [negW, hn]⟩
    · rw [if_neg hn, List.nil_append]
      have := head_dig i1
      exact ⟨by unfold digW; rw [if_neg this], by simp [negW, this, hn]⟩
  have hnum : isNum (nword n m) = true := by
    rw [isNum_is, hd.1, i1]
    cases hz : zword n m with
    | nil => exact absurd hz i3
    | cons => rfl
  unfold wordTok
  rw [if_pos hnum, parse_num _ hnum, hd.1, hd.2, i2]
  have ht : n.natAbs ≤ topW (nword n m) := by
    unfold topW; rw [hd.2]
    by_cases hn : n < 0
    · simp [hn]; omega
    · simp [hn]; omega
  rw [if_pos ht]
  by_cases hn : n < 0
  · simp only [hn, decide_true, if_true]; congr 2; omega
  · simp only [hn, decide_false, Bool.false_eq_true, if_false]; congr 2; omega

/-- A byte of a word. -/
def inWord (c : UInt8) : Prop := ends c = false ∧ 33 ≤ c.toNat ∧ c.toNat ≤ 126
theorem wordEnd_all (w post : List UInt8) (hw : ∀ c ∈ w, inWord c) (hp : ∀ c, post.head? = some c → ends c = true) : ∀ (k p : Nat), p ≤ w.length → w.length < k + p → wordEnd (w ++ post) k p = .ok w.length := by
  intro k
  induction k with
  | zero => intro p h1 h2; omega
  | succ k ih =>
    intro p h1 h2
    by_cases hlt : p < w.length
    · have hc : (w ++ post)[p]? = some w[p] := by rw [List.getElem?_append_left hlt, List.getElem?_eq_getElem hlt]
      obtain ⟨e1, e2, e3⟩ := hw w[p] (List.getElem_mem hlt)
      rw [wordEnd, hc]
      simp only [e1, Bool.false_eq_true, if_false]
      rw [if_neg (by omega)]
      exact ih (p + 1) (by omega) (by omega)
    · have hpe : p = w.length := by omega
      subst hpe
      rw [wordEnd]
      rcases hc : (w ++ post)[w.length]? with _ | c
      · rfl
      · have : ends c = true := hp c (by
          rw [List.getElem?_append_right (Nat.le_refl _), Nat.sub_self] at hc
          rw [List.head?_eq_getElem?]; exact hc)
        simp only [this, if_true]
theorem next_of_word (w post : List UInt8) (hne : w ≠ []) (hw : ∀ c ∈ w, inWord c) (hp : ∀ c, post.head? = some c → ends c = true) :
    nextR (w ++ post) 0 = match wordTok w 0 with | .error x => .error x | .ok t => .ok ([t], w.length) := by
  cases w with
  | nil => exact absurd rfl hne
  | cons c r =>
    obtain ⟨e1, e2, e3⟩ := hw c (by simp)
    have hc : (c :: r ++ post)[0]? = some c := rfl
    have hb : blank c = false := by
      unfold ends at e1
      cases hb : blank c
      · rfl
      · rw [hb] at e1; simp at e1
    have n2 : c ≠ 59 := by rintro rfl; exact absurd e1 (by decide)
    have n3 : c ≠ 40 := by rintro rfl; exact absurd e1 (by decide)
    have n4 : c ≠ 41 := by rintro rfl; exact absurd e1 (by decide)
    have n5 : c ≠ 34 := by rintro rfl; exact absurd e1 (by decide)
    rw [next_word hc hb n2 n3 n4 n5]
    unfold wordR
    rw [wordEnd_all (c :: r) post hw hp _ 0 (Nat.zero_le _) (by simp; omega)]
    simp only [List.drop_zero, Nat.sub_zero, List.take_left]
    cases wordTok (c :: r) 0 <;> rfl
theorem tokens_of_word (w : List UInt8) (t : Tok) (hne : w ≠ []) (hl : w.length ≤ 65536) (hw : ∀ c ∈ w, inWord c) (ht : wordTok w 0 = .ok t) : tokens w = .ok [t] := by
  have hn := next_of_word w [] hne hw (by simp)
  rw [List.append_nil, ht] at hn
  have hp : 0 < w.length := List.length_pos_iff.2 hne
  unfold tokens
  rw [if_neg (by omega), toks_step hp hn, toks_end (by omega)]
  rfl
theorem tokens_word_close (w : List UInt8) (t : Tok) (hne : w ≠ []) (hl : w.length ≤ 60000) (hw : ∀ c ∈ w, inWord c) (ht : wordTok w 0 = .ok t) : tokens (w ++ [41]) = .ok [t, ⟨2, [], 0, w.length⟩] := by
  have hn := next_of_word w [41] hne hw (by intro c h; simp at h; subst h; decide)
  rw [ht] at hn
  have hp : 0 < w.length := List.length_pos_iff.2 hne
  have hc : (w ++ [41])[w.length]? = some 41 := by simp
  have hlen : (w ++ [41]).length = w.length + 1 := by simp
  obtain ⟨m, hm⟩ : ∃ m, w.length = m + 1 := ⟨w.length - 1, by omega⟩
  unfold tokens
  rw [if_neg (by omega), toks_step (by omega) hn, hlen]
  rw [toks_step (by omega) (next_close hc), toks_end (by omega)]
  rfl
theorem dig_inWord (c : UInt8) (h : isDigit c = true) : inWord c := by
  unfold isDigit at h
  simp at h
  refine ⟨?_, by omega, by omega⟩
  have e : ∀ k : UInt8, (k.toNat < 48 ∨ 57 < k.toNat) → (c == k) = false := by
    intro k hk
    rw [beq_eq_false_iff_ne]
    rintro rfl
    omega
  unfold ends blank
  rw [e 32 (by decide), e 9 (by decide), e 10 (by decide), e 13 (by decide), e 59 (by decide), e 40 (by decide), e 41 (by decide), e 34 (by decide)]
  rfl
theorem nword_inWord (n : Int) (m : Nat) (h1 : -9223372036854775808 ≤ n) (h2 : n ≤ 9223372036854775807) : ∀ c ∈ nword n m, inWord c := by
  obtain ⟨i1, _, _⟩ := zword_facts n m h1 h2
  intro c hc
  unfold nword at hc
  rcases List.mem_append.1 hc with hc | hc
  · split at hc
    · simp at hc; subst hc; exact ⟨by decide, by decide, by decide⟩
    · cases hc
  · exact dig_inWord c (List.all_eq_true.1 i1 c hc)
theorem nword_ne (n : Int) (m : Nat) (h1 : -9223372036854775808 ≤ n) (h2 : n ≤ 9223372036854775807) : nword n m ≠ [] := by
  obtain ⟨_, _, i3⟩ := zword_facts n m h1 h2
  unfold nword; simp [i3]
theorem nword_len (n : Int) (m : Nat) (h1 : -9223372036854775808 ≤ n) (h2 : n ≤ 9223372036854775807) : (nword n m).length ≤ 101 + m := by
  have := digs_len n.natAbs (by omega)
  unfold nword zword
  split <;> simp <;> omega
theorem numb_is (n : Int) : numb n = nword n 0 := by
  unfold numb nword zword; split <;> rfl
theorem tokens_numb (n : Int) (h1 : -9223372036854775808 ≤ n) (h2 : n ≤ 9223372036854775807) : tokens (numb n) = .ok [⟨4, [], n, 0⟩] := by
  rw [numb_is]
  have := nword_len n 0 h1 h2
  exact tokens_of_word _ _ (nword_ne n 0 h1 h2) (by omega) (nword_inWord n 0 h1 h2) (wordTok_num n 0 0 h1 h2)
theorem tokens_noughts (n : Int) (m : Nat) (hm : m ≤ 50) (h1 : -9223372036854775808 ≤ n) (h2 : n ≤ 9223372036854775807) : tokens (nword n m ++ [41]) = .ok [⟨4, [], n, 0⟩, ⟨2, [], 0, (nword n m).length⟩] := by
  have := nword_len n m h1 h2
  exact tokens_word_close _ _ (nword_ne n m h1 h2) (by omega) (nword_inWord n m h1 h2) (wordTok_num n m 0 h1 h2)
end Go.Proofs.YtaklmocjaokkpaaDoor.Lx
namespace Go.Proofs.YtaklmocjaokkpaaDoor.Lx

/-- A hexadecimal digit's letter. -/
def hexd (k : Nat) : UInt8 := UInt8.ofNat (if k < 10 then 48 + k else 87 + k)
/-- A byte as it is shown. -/
def qb (c : UInt8) : List UInt8 := if c = 34 ∨ c = 92 then [92, c] else if 32 ≤ c.toNat ∧ c.toNat ≤ 126 then [c] else [92, 120, hexd (c.toNat / 16), hexd (c.toNat % 16)]
def quote (s : List UInt8) : List UInt8 := 34 :: (s.flatMap qb ++ [34])

theorem qb_len (c : UInt8) : (qb c).length ≤ 4 := by
  unfold qb; split
  · simp
  · split <;> simp
theorem quote_len (s : List UInt8) : (quote s).length ≤ 4 * s.length + 2 := by
  have : (s.flatMap qb).length ≤ 4 * s.length := by
    induction s with
    | nil => simp
    | cons c s ih => have := qb_len c; simp only [List.flatMap_cons, List.length_append, List.length_cons]; omega
  unfold quote; simp only [List.length_cons, List.length_append, List.length_nil]; omega
theorem take_step (l : List UInt8) (p : Nat) (c : UInt8) (h : l[p]? = some c) : (l.take (p + 1)).flatMap qb = (l.take p).flatMap qb ++ qb c := by
  rw [List.take_add_one, h]; simp


theorem hexv_hexd : ∀ k, k < 16 → hexv (hexd k).toNat = some k := by decide
theorem hexAt_of (l : List UInt8) (p k : Nat) (h : k < 16) (hp : l[p]? = some (hexd k)) : hexAt l p = .ok k := by
  unfold hexAt; rw [hp]; simp only [hexv_hexd k h]

theorem qb_cases (c : UInt8) : ((c = 34 ∨ c = 92) ∧ qb c = [92, c]) ∨ (¬ c = 34 ∧ ¬ c = 92 ∧ qb c = [c]) ∨ qb c = [92, 120, hexd (c.toNat / 16), hexd (c.toNat % 16)] := by
  unfold qb
  by_cases e : c = 34 ∨ c = 92
  · rw [if_pos e]; exact .inl ⟨e, rfl⟩
  · rw [if_neg e]
    by_cases e2 : 32 ≤ c.toNat ∧ c.toNat ≤ 126
    · rw [if_pos e2]; exact .inr (.inl ⟨fun x => e (.inl x), fun x => e (.inr x), rfl⟩)
    · rw [if_neg e2]; exact .inr (.inr rfl)
/-- From a place that a shown byte begins at, one step of the text's reading takes it. -/
theorem text_qb (l : List UInt8) (k p : Nat) (out : List UInt8) (c : UInt8) (h : ∀ i, i < (qb c).length → l[p + i]? = (qb c)[i]?) : text l (k + 1) p out = text l k (p + (qb c).length) (out ++ [c]) := by
  rcases qb_cases c with ⟨e, hq⟩ | ⟨n1, n2, hq⟩ | hq
  · rw [hq] at h ⊢
    have a0 := h 0 (by simp)
    have a1 := h 1 (by simp)
    simp only [List.getElem?_cons_zero, List.getElem?_cons_succ, Nat.add_zero] at a0 a1
    have he : esc l (p + 1) = .ok (c, p + 1 + 1) := by
      unfold esc; rw [a1]; simp only [e, if_true]
    show (match l[p]? with | none => _ | some c => _) = _
    rw [a0]
    simp only [show ¬ ((92 : UInt8) = 34) by decide, if_false, if_true, he]
    rfl
  · rw [hq] at h ⊢
    have a0 := h 0 (by simp)
    simp only [List.getElem?_cons_zero, Nat.add_zero] at a0
    show (match l[p]? with | none => _ | some c => _) = _
    rw [a0]
    simp only [n1, n2, if_false]
    rfl
  · rw [hq] at h ⊢
    have a0 := h 0 (by simp)
    have a1 := h 1 (by simp)
    have a2 := h 2 (by simp)
    have a3 := h 3 (by simp)
    simp only [List.getElem?_cons_zero, List.getElem?_cons_succ, Nat.add_zero] at a0 a1 a2 a3
    have hc := c.toNat_lt
    have x1 := hexAt_of l (p + 1 + 1) (c.toNat / 16) (by omega) a2
    have x2 := hexAt_of l (p + 1 + 2) (c.toNat % 16) (by omega) a3
    have hn : UInt8.ofNat (16 * (c.toNat / 16) + c.toNat % 16) = c := by
      rw [Nat.div_add_mod]; exact UInt8.ofNat_toNat
    have he : esc l (p + 1) = .ok (c, p + 1 + 3) := by
      unfold esc; rw [a1]
      simp only [show ¬ ((120 : UInt8) = 34 ∨ (120 : UInt8) = 92) by decide, show ¬ ((120 : UInt8) = 110) by decide, if_false, if_true, x1, x2, hn]
    show (match l[p]? with | none => _ | some c => _) = _
    rw [a0]
    simp only [show ¬ ((92 : UInt8) = 34) by decide, if_false, if_true, he]
    rfl

theorem text_quote (r : List UInt8) : ∀ (pre out : List UInt8) (k : Nat), r.length < k → text (pre ++ (r.flatMap qb ++ [34])) k pre.length out = .ok (out ++ r, pre.length + (r.flatMap qb).length + 1) := by
  induction r with
  | nil =>
    intro pre out k hk
    obtain ⟨k, rfl⟩ : ∃ m, k = m + 1 := ⟨k - 1, by simp at hk; omega⟩
    have a0 : (pre ++ (([] : List UInt8).flatMap qb ++ [34]))[pre.length]? = some 34 := by simp
    show (match (pre ++ (([] : List UInt8).flatMap qb ++ [34]))[pre.length]? with | none => _ | some c => _) = _
    rw [a0]; simp
  | cons c r ih =>
    intro pre out k hk
    obtain ⟨k, rfl⟩ : ∃ m, k = m + 1 := ⟨k - 1, by simp at hk; omega⟩
    rw [text_qb _ k _ out c (fun i hi => by
      rw [List.getElem?_append_right (by omega), show pre.length + i - pre.length = i by omega, List.flatMap_cons, List.append_assoc, List.getElem?_append_left hi])]
    have := ih (pre ++ qb c) (out ++ [c]) k (by simp at hk; omega)
    simp only [List.flatMap_cons, List.length_append, List.append_assoc] at this ⊢
    rw [this]
    simp [Nat.add_assoc]

theorem tokens_quote (s : List UInt8) (hs : s.length ≤ 1000) : tokens (quote s) = .ok [⟨5, s, 0, 0⟩] := by
  have hl := quote_len s
  have ht := text_quote s [34] [] ((quote s).length + 1) (by
    have : s.length ≤ (s.flatMap qb).length := by
      clear hs hl
      induction s with
      | nil => simp
      | cons c s ih =>
        have : 1 ≤ (qb c).length := by unfold qb; split <;> (try split) <;> simp
        simp only [List.flatMap_cons, List.length_append, List.length_cons]; omega
    unfold quote; simp only [List.length_cons, List.length_append, List.length_nil]; omega)
  have hq : ([34] ++ (s.flatMap qb ++ [34])) = quote s := rfl
  rw [hq] at ht
  have hn : next (quote s) 0 = .ok (some ⟨5, s, 0, 0⟩, (quote s).length) := by
    have h0 : (quote s)[0]? = some 34 := rfl
    unfold next
    rw [h0]
    simp only [show blank 34 = false by decide, Bool.false_eq_true, if_false, show ¬ ((34 : UInt8) = 59) by decide, show ¬ ((34 : UInt8) = 40) by decide, show ¬ ((34 : UInt8) = 41) by decide, if_true]
    rw [show (0 + 1 : Nat) = ([34] : List UInt8).length from rfl, ht]
    simp [quote]
    omega
  unfold tokens
  rw [if_neg (by omega)]
  have hp : 0 < (quote s).length := by simp [quote]
  show (if 0 < (quote s).length then _ else _) = _
  rw [if_pos hp, hn]
  obtain ⟨m, hm⟩ : ∃ m, (quote s).length = m + 1 := ⟨(quote s).length - 1, by omega⟩
  show toks (quote s) (quote s).length (quote s).length _ = _
  rw [hm]
  show (if m + 1 < (quote s).length then _ else _) = _
  rw [if_neg (by omega)]
  rfl
end Go.Proofs.YtaklmocjaokkpaaDoor.Lx
namespace Go.Proofs.YtaklmocjaokkpaaDoor.Lx
set_option linter.unusedVariables false
set_option linter.unusedSimpArgs false

/-- Is a text a word? -/
def wordB (s : List UInt8) : Bool := !s.isEmpty && decide (s.length ≤ 65536) && s.all (fun c => !ends c && decide (33 ≤ c.toNat) && decide (c.toNat ≤ 126)) && !isNum s
/-- What the lexer's Word asks of the tokens. -/
def oneWord (s : List UInt8) (l : List Tok) : Bool := match l with | [t] => t.kind == 3 && t.s == s | _ => false

theorem wend_in {s : List UInt8} : ∀ {k p q : Nat}, wordEnd s k p = .ok q → ∀ i, p ≤ i → i < q → ∃ c, s[i]? = some c ∧ inWord c := by
  intro k
  induction k with
  | zero => intro p q h i h1 h2; cases h; omega
  | succ k ih =>
    intro p q h i h1 h2
    rw [wordEnd] at h
    rcases hc : s[p]? with _ | c
    · rw [hc] at h; cases h; omega
    · rw [hc] at h
      simp only [] at h
      split at h
      · cases h; omega
      · rename_i he
        split at h
        · cases h
        · rename_i hn
          by_cases e : i = p
          · subst e; exact ⟨c, hc, by simpa using he, by omega, by omega⟩
          · exact ih h i (by omega) h2

/-- A word's token stands over a part of the source that ends where its word ends, and is no number. -/
def WordAt (s : List UInt8) (t : Tok) : Prop := t.kind = 3 → ∃ p q, t.s = (s.drop p).take (q - p) ∧ p < q ∧ q ≤ s.length ∧ isNum t.s = false ∧ ∀ i, p ≤ i → i < q → ∃ c, s[i]? = some c ∧ inWord c
theorem next_wordAt {s : List UInt8} {p q : Nat} {l : List Tok} (hp : p < s.length) (h : nextR s p = .ok (l, q)) : ∀ t ∈ l, WordAt s t := by
  have hc := List.getElem?_eq_getElem hp
  generalize s[p] = c at hc
  by_cases h1 : blank c = true
  · rw [next_blank hc h1] at h; cases h; simp
  · by_cases h2 : c = 59
    · subst h2; rw [next_note hc] at h; cases h; simp
    · by_cases h3 : c = 40
      · subst h3; rw [next_open hc] at h; cases h; intro t ht; simp at ht; subst ht; intro hk; cases hk
      · by_cases h4 : c = 41
        · subst h4; rw [next_close hc] at h; cases h; intro t ht; simp at ht; subst ht; intro hk; cases hk
        · by_cases h5 : c = 34
          · subst h5; rw [next_text hc] at h
            unfold textR at h
            rcases ht : text s (s.length + 1) (p + 1) [] with x | ⟨o, r⟩
            · rw [ht] at h; cases h
            · rw [ht] at h; cases h; intro t ht; simp at ht; subst ht; intro hk; cases hk
          · have hb : blank c = false := by simpa using h1
            rw [next_word hc hb h2 h3 h4 h5] at h
            unfold wordR at h
            rcases ht : wordEnd s (s.length + 1) p with x | r
            · rw [ht] at h; cases h
            · rw [ht] at h
              simp only [] at h
              have hl := wend_lt hc (by unfold ends; simp [hb, h2, h3, h4, h5]) ht
              rcases hw : wordTok ((s.drop p).take (r - p)) p with x | t
              · rw [hw] at h; cases h
              · rw [hw] at h; cases h
                intro t' ht'
                simp only [List.mem_singleton] at ht'
                subst ht'
                intro hk
                unfold wordTok at hw
                split at hw
                · split at hw
                  · cases hw; cases hk
                  · cases hw
                · rename_i hnum
                  cases hw
                  exact ⟨p, q, rfl, hl.1, hl.2, by simpa using hnum, wend_in ht⟩
theorem toks_wordAt {s : List UInt8} : ∀ {k p : Nat} {l m : List Tok}, (∀ t ∈ l, WordAt s t) → toks s k p l = .ok m → ∀ t ∈ m, WordAt s t := by
  intro k
  induction k with
  | zero => intro p l m hr h; cases h; exact hr
  | succ k ih =>
    intro p l m hr h
    by_cases hlt : p < s.length
    · rcases hn : nextR s p with x | ⟨t, q⟩
      · rw [toks_err hlt hn] at h; cases h
      · rw [toks_step hlt hn] at h
        refine ih (fun u hu => ?_) h
        rcases List.mem_append.1 hu with hu | hu
        · exact hr u hu
        · exact next_wordAt hlt hn u hu
    · rw [toks_end hlt] at h; cases h; exact hr
theorem word_of_tokens {s : List UInt8} {l : List Tok} (h : tokens s = .ok l) : oneWord s l = wordB s := by
  have hlen : s.length ≤ 65536 := by
    unfold tokens at h; split at h
    · cases h
    · omega
  have hall : ∀ t ∈ l, WordAt s t := by
    unfold tokens at h; split at h
    · cases h
    · exact toks_wordAt (fun _ h => by cases h) h
  cases hb : wordB s with
  | true =>
    unfold wordB at hb
    simp only [Bool.and_eq_true, Bool.not_eq_true', decide_eq_true_eq, List.all_eq_true] at hb
    obtain ⟨⟨⟨b1, b2⟩, b3⟩, b4⟩ := hb
    have hne : s ≠ [] := by rintro rfl; cases b1
    have := tokens_of_word s ⟨3, s, 0, 0⟩ hne b2 (fun c hc => ⟨(b3 c hc).1.1, (b3 c hc).1.2, (b3 c hc).2⟩) (by unfold wordTok; rw [b4]; rfl)
    rw [this] at h; cases h
    simp [oneWord]
  | false =>
    cases ho : oneWord s l with
    | false => rfl
    | true =>
      unfold oneWord at ho
      split at ho
      · rename_i t
        simp only [Bool.and_eq_true, beq_iff_eq] at ho
        obtain ⟨p, q, e1, e2, e3, e4, e5⟩ := hall t (by simp) ho.1
        rw [ho.2] at e1 e4
        have el : s.length = q - p := by
          have := congrArg List.length e1
          rw [List.length_take, List.length_drop] at this; omega
        have p0 : p = 0 := by omega
        have q0 : q = s.length := by omega
        subst p0 q0
        have : wordB s = true := by
          unfold wordB
          simp only [Bool.and_eq_true, Bool.not_eq_true', decide_eq_true_eq, List.all_eq_true]
          refine ⟨⟨⟨?_, hlen⟩, fun c hc => ?_⟩, e4⟩
          · cases s with
            | nil => simp at e2
            | cons => rfl
          · obtain ⟨i, hi, he⟩ := List.mem_iff_getElem.1 hc
            obtain ⟨c', h1, h2, h3, h4⟩ := e5 i (Nat.zero_le _) hi
            rw [List.getElem?_eq_getElem hi, he] at h1
            cases h1
            exact ⟨⟨h2, h3⟩, h4⟩
        rw [this] at hb; cases hb
      · cases ho
theorem word_of_err {s : List UInt8} {x : Nat × Nat} (h : tokens s = .error x) : wordB s = false := by
  cases hb : wordB s with
  | false => rfl
  | true =>
    unfold wordB at hb
    simp only [Bool.and_eq_true, Bool.not_eq_true', decide_eq_true_eq, List.all_eq_true] at hb
    obtain ⟨⟨⟨b1, b2⟩, b3⟩, b4⟩ := hb
    have hne : s ≠ [] := by rintro rfl; cases b1
    have := tokens_of_word s ⟨3, s, 0, 0⟩ hne b2 (fun c hc => ⟨(b3 c hc).1.1, (b3 c hc).1.2, (b3 c hc).2⟩) (by unfold wordTok; rw [b4]; rfl)
    rw [this] at h; cases h
end Go.Proofs.YtaklmocjaokkpaaDoor.Lx
namespace Go.Proofs.YtaklmocjaokkpaaDoor.Lx
set_option linter.unusedVariables false
set_option linter.unusedSimpArgs false

def Good (s : List UInt8) (t : Tok) : Prop :=
  (t.kind = 1 ∧ s[t.at_]? = some 40) ∨ (t.kind = 2 ∧ s[t.at_]? = some 41) ∨ (t.kind = 5 ∧ s[t.at_]? = some 34) ∨ t.kind = 4 ∨ (t.kind = 3 ∧ t.at_ + t.s.length ≤ s.length ∧ (s.drop t.at_).take t.s.length = t.s)

theorem next_good {s : List UInt8} {p q : Nat} {l : List Tok} (hp : p < s.length) (h : nextR s p = .ok (l, q)) : ∀ t ∈ l, t.at_ = p ∧ Good s t := by
  have hc := List.getElem?_eq_getElem hp
  generalize s[p] = c at hc
  by_cases h1 : blank c = true
  · rw [next_blank hc h1] at h; cases h; simp
  · by_cases h2 : c = 59
    · subst h2; rw [next_note hc] at h; cases h; simp
    · by_cases h3 : c = 40
      · subst h3; rw [next_open hc] at h; cases h; intro t ht; simp at ht; subst ht; exact ⟨rfl, .inl ⟨rfl, hc⟩⟩
      · by_cases h4 : c = 41
        · subst h4; rw [next_close hc] at h; cases h; intro t ht; simp at ht; subst ht; exact ⟨rfl, .inr (.inl ⟨rfl, hc⟩)⟩
        · by_cases h5 : c = 34
          · subst h5; rw [next_text hc] at h
            unfold textR at h
            rcases ht : text s (s.length + 1) (p + 1) [] with x | ⟨o, r⟩
            · rw [ht] at h; cases h
            · rw [ht] at h; cases h; intro t ht; simp at ht; subst ht; exact ⟨rfl, .inr (.inr (.inl ⟨rfl, hc⟩))⟩
          · have hb : blank c = false := by simpa using h1
            rw [next_word hc hb h2 h3 h4 h5] at h
            unfold wordR at h
            rcases ht : wordEnd s (s.length + 1) p with x | r
            · rw [ht] at h; cases h
            · rw [ht] at h
              simp only [] at h
              have hl := wend_lt hc (by unfold ends; simp [hb, h2, h3, h4, h5]) ht
              rcases hw : wordTok ((s.drop p).take (r - p)) p with x | t
              · rw [hw] at h; cases h
              · rw [hw] at h; cases h
                intro t' ht'
                simp only [List.mem_singleton] at ht'
                subst ht'
                unfold wordTok at hw
                split at hw
                · split at hw
                  · cases hw; exact ⟨rfl, .inr (.inr (.inr (.inl rfl)))⟩
                  · cases hw
                · cases hw
                  have e : ((s.drop p).take (q - p)).length = q - p := by rw [List.length_take, List.length_drop]; omega
                  exact ⟨rfl, .inr (.inr (.inr (.inr ⟨rfl, by show p + _ ≤ _; rw [e]; omega, by show (s.drop p).take _ = _; rw [e]⟩)))⟩

/-- A list of tokens in order, all ahead of a place. -/
def Row (s : List UInt8) (p : Nat) (l : List Tok) : Prop := l.Pairwise (fun a b => a.at_ < b.at_) ∧ ∀ t ∈ l, t.at_ < p ∧ Good s t
theorem toks_good {s : List UInt8} : ∀ {k p : Nat} {l m : List Tok}, p ≤ s.length → Row s p l → toks s k p l = .ok m → Row s s.length m := by
  intro k
  induction k with
  | zero => intro p l m hp hr h; cases h; exact ⟨hr.1, fun t ht => ⟨by have := (hr.2 t ht).1; omega, (hr.2 t ht).2⟩⟩
  | succ k ih =>
    intro p l m hp hr h
    by_cases hlt : p < s.length
    · rcases hn : nextR s p with x | ⟨t, q⟩
      · rw [toks_err hlt hn] at h; cases h
      · rw [toks_step hlt hn] at h
        have hl := next_lt hlt hn
        have hg := next_good hlt hn
        refine ih hl.2.1 ⟨List.pairwise_append.2 ⟨hr.1, ?_, fun a ha b hb => ?_⟩, fun u hu => ?_⟩ h
        · match t, hl.2.2 with
          | [], _ => simp
          | [_], _ => simp
        · have := (hr.2 a ha).1; rw [(hg b hb).1]; exact this
        · rcases List.mem_append.1 hu with hu | hu
          · have := (hr.2 u hu); exact ⟨by omega, this.2⟩
          · have := hg u hu; exact ⟨by omega, this.2⟩
    · rw [toks_end hlt] at h; cases h
      exact ⟨hr.1, fun t ht => ⟨by have := (hr.2 t ht).1; omega, (hr.2 t ht).2⟩⟩
theorem tokens_good {s : List UInt8} {l : List Tok} (h : tokens s = .ok l) : Row s s.length l := by
  unfold tokens at h
  split at h
  · cases h
  · exact toks_good (Nat.zero_le _) ⟨List.Pairwise.nil, fun _ h => by cases h⟩ h
end Go.Proofs.YtaklmocjaokkpaaDoor.Lx
namespace Go.Proofs.YtaklmocjaokkpaaDoor.Lx
set_option linter.unusedVariables false
set_option linter.unusedSimpArgs false

/-- A token, so many places on. -/
def sh (D : Nat) (t : Tok) : Tok := { t with at_ := D + t.at_ }

section
variable {pre s post : List UInt8}

theorem get_in {i : Nat} {c : UInt8} (h : s[i]? = some c) : (pre ++ (s ++ post))[pre.length + i]? = some c := by
  have hi : i < s.length := by
    rcases Nat.lt_or_ge i s.length with h1 | h1
    · exact h1
    · rw [List.getElem?_eq_none h1] at h; cases h
  rw [List.getElem?_append_right (by omega), Nat.add_sub_cancel_left, List.getElem?_append_left hi]; exact h
theorem hexAt_in {p d : Nat} (h : hexAt s p = .ok d) : hexAt (pre ++ (s ++ post)) (pre.length + p) = .ok d := by
  unfold hexAt at h ⊢
  rcases hc : s[p]? with _ | c
  · rw [hc] at h; cases h
  · rw [hc] at h
    rw [get_in hc]
    simp only [] at h ⊢
    split at h
    · cases h
    · exact h
theorem esc_in {p q : Nat} {b : UInt8} (h : esc s p = .ok (b, q)) : esc (pre ++ (s ++ post)) (pre.length + p) = .ok (b, pre.length + q) := by
  unfold esc at h ⊢
  rcases hc : s[p]? with _ | c
  · rw [hc] at h; cases h
  · rw [hc] at h
    rw [get_in hc]
    simp only [] at h ⊢
    split at h
    · rename_i e; rw [if_pos e]; cases h; rfl
    · rename_i e; rw [if_neg e]
      split at h
      · rename_i e; rw [if_pos e]; cases h; rfl
      · rename_i e; rw [if_neg e]
        split at h
        · rename_i e; rw [if_pos e]
          rcases h1 : hexAt s (p + 1) with x | x
          · rw [h1] at h; cases h
          · rw [h1] at h
            have k1 := hexAt_in (pre := pre) (post := post) h1
            rw [← Nat.add_assoc] at k1
            rw [k1]
            simp only [] at h ⊢
            rcases h2 : hexAt s (p + 2) with y | y
            · rw [h2] at h; cases h
            · rw [h2] at h
              have k2 := hexAt_in (pre := pre) (post := post) h2
              rw [← Nat.add_assoc] at k2
              rw [k2]
              cases h; rfl
        · cases h
theorem text_in : ∀ {k p q : Nat} {out o : List UInt8}, text s k p out = .ok (o, q) → ∀ k', k ≤ k' → text (pre ++ (s ++ post)) k' (pre.length + p) out = .ok (o, pre.length + q) := by
  intro k
  induction k with
  | zero => intro p q out o h; cases h
  | succ k ih =>
    intro p q out o h k' hk
    obtain ⟨k', rfl⟩ : ∃ m, k' = m + 1 := ⟨k' - 1, by omega⟩
    rw [text] at h ⊢
    rcases hc : s[p]? with _ | c
    · rw [hc] at h; cases h
    · rw [hc] at h
      rw [get_in hc]
      simp only [] at h ⊢
      split at h
      · rename_i e; rw [if_pos e]; cases h; rfl
      · rename_i e; rw [if_neg e]
        split at h
        · rename_i e; rw [if_pos e]
          rcases he : esc s (p + 1) with x | ⟨b, r⟩
          · rw [he] at h; cases h
          · rw [he] at h
            have k1 := esc_in (pre := pre) (post := post) he
            rw [← Nat.add_assoc] at k1
            rw [k1]
            exact ih h k' (by omega)
        · rename_i e; rw [if_neg e]
          have := ih h k' (by omega)
          rw [← Nat.add_assoc] at this
          exact this
theorem end_in (hpost : post = [] ∨ ∃ b, post = 10 :: b) : (pre ++ (s ++ post))[pre.length + s.length]? = none ∨ (pre ++ (s ++ post))[pre.length + s.length]? = some 10 := by
  rw [List.getElem?_append_right (by omega), Nat.add_sub_cancel_left, List.getElem?_append_right (by omega), Nat.sub_self]
  rcases hpost with rfl | ⟨b, rfl⟩
  · exact .inl rfl
  · exact .inr rfl
theorem wend_in' (hpost : post = [] ∨ ∃ b, post = 10 :: b) : ∀ {k p q : Nat}, wordEnd s k p = .ok q → p ≤ s.length → s.length < k + p → ∀ k', k ≤ k' → wordEnd (pre ++ (s ++ post)) k' (pre.length + p) = .ok (pre.length + q) := by
  intro k
  induction k with
  | zero => intro p q h h1 h2; omega
  | succ k ih =>
    intro p q h h1 h2 k' hk
    obtain ⟨k', rfl⟩ : ∃ m, k' = m + 1 := ⟨k' - 1, by omega⟩
    rw [wordEnd] at h ⊢
    rcases hc : s[p]? with _ | c
    · rw [hc] at h
      have hp : p = s.length := by
        have := List.getElem?_eq_none_iff.1 hc; omega
      cases h
      subst hp
      rcases end_in (pre := pre) (s := s) hpost with e | e
      · rw [e]
      · rw [e]; rfl
    · rw [hc] at h
      rw [get_in hc]
      simp only [] at h ⊢
      split at h
      · rename_i e; rw [if_pos e]; cases h; rfl
      · rename_i e; rw [if_neg e]
        split at h
        · cases h
        · rename_i e; rw [if_neg e]
          have hlt : p < s.length := by
            rcases Nat.lt_or_ge p s.length with h1 | h1
            · exact h1
            · rw [List.getElem?_eq_none h1] at hc; cases hc
          have := ih h (by omega) (by omega) k' (by omega)
          rw [← Nat.add_assoc] at this
          exact this
theorem index_ge (l : List UInt8) (c : UInt8) : -1 ≤ Lib.indexByte l c := by
  induction l with
  | nil => simp [Lib.indexByte]
  | cons b l ih =>
    unfold Lib.indexByte
    split
    · omega
    · split <;> omega
theorem index_join (l b : List UInt8) : Lib.indexByte (l ++ 10 :: b) 10 = if 0 ≤ Lib.indexByte l 10 then Lib.indexByte l 10 else (l.length : Int) := by
  induction l with
  | nil => rfl
  | cons c l ih =>
    have hg := index_ge l 10
    rw [List.cons_append]
    unfold Lib.indexByte
    rw [ih]
    by_cases hc : (c == 10) = true
    · simp [hc]
    · simp only [hc, Bool.false_eq_true, if_false]
      by_cases h0 : 0 ≤ Lib.indexByte l 10
      · have e1 : (Lib.indexByte l 10 == -1) = false := by rw [beq_eq_false_iff_ne]; omega
        simp only [h0, if_true, e1, Bool.false_eq_true, if_false]
        rw [if_pos (by omega)]
      · have e1 : Lib.indexByte l 10 = -1 := by omega
        have e2 : ((l.length : Int) == -1) = false := by rw [beq_eq_false_iff_ne]; omega
        simp only [h0, if_false, e2, Bool.false_eq_true, e1]
        simp
theorem note_in (hpost : post = [] ∨ ∃ b, post = 10 :: b) {p : Nat} (hp : p < s.length) : noteEnd (pre ++ (s ++ post)) (pre.length + p) = pre.length + noteEnd s p := by
  have hd : (pre ++ (s ++ post)).drop (pre.length + p) = s.drop p ++ post := by
    rw [List.drop_append, List.drop_of_length_le (by omega), List.nil_append, Nat.add_sub_cancel_left, List.drop_append_of_le_length (by omega)]
  unfold noteEnd
  rw [hd]
  rcases hpost with rfl | ⟨b, rfl⟩
  · rw [List.append_nil]
    simp only [List.length_append, List.length_nil, Nat.add_zero]
    split
    · omega
    · rfl
  · rw [index_join]
    have hl : (s.drop p).length = s.length - p := List.length_drop
    simp only []
    by_cases h0 : 0 ≤ Lib.indexByte (s.drop p) 10
    · simp only [h0, if_true]; omega
    · simp only [h0, if_false]
      rw [if_pos (by omega)]; omega
theorem wordTok_sh (D p : Nat) (w : List UInt8) {t : Tok} (h : wordTok w p = .ok t) : wordTok w (D + p) = .ok (sh D t) := by
  unfold wordTok at h ⊢
  split at h
  · rename_i e; rw [if_pos e]
    split at h
    · rename_i hx; cases h; rfl
    · cases h
  · rename_i e; rw [if_neg e]; cases h; rfl
theorem next_in (hpost : post = [] ∨ ∃ b, post = 10 :: b) {p q : Nat} {l : List Tok} (hp : p < s.length) (h : nextR s p = .ok (l, q)) : nextR (pre ++ (s ++ post)) (pre.length + p) = .ok (l.map (sh pre.length), pre.length + q) := by
  have hc := List.getElem?_eq_getElem hp
  generalize s[p] = c at hc
  have hc' := get_in (pre := pre) (post := post) hc
  by_cases h1 : blank c = true
  · rw [next_blank hc h1] at h; cases h; rw [next_blank hc' h1]; rfl
  · by_cases h2 : c = 59
    · subst h2; rw [next_note hc] at h; cases h; rw [next_note hc', note_in hpost hp]; rfl
    · by_cases h3 : c = 40
      · subst h3; rw [next_open hc] at h; cases h; rw [next_open hc']; rfl
      · by_cases h4 : c = 41
        · subst h4; rw [next_close hc] at h; cases h; rw [next_close hc']; rfl
        · by_cases h5 : c = 34
          · subst h5; rw [next_text hc] at h; rw [next_text hc']
            unfold textR at h ⊢
            rcases ht : text s (s.length + 1) (p + 1) [] with x | ⟨o, r⟩
            · rw [ht] at h; cases h
            · rw [ht] at h; cases h
              have := text_in (pre := pre) (post := post) ht ((pre ++ (s ++ post)).length + 1) (by simp; omega)
              rw [← Nat.add_assoc] at this
              rw [this]; rfl
          · have hb : blank c = false := by simpa using h1
            rw [next_word hc hb h2 h3 h4 h5] at h
            rw [next_word hc' hb h2 h3 h4 h5]
            unfold wordR at h ⊢
            rcases ht : wordEnd s (s.length + 1) p with x | r
            · rw [ht] at h; cases h
            · rw [ht] at h
              simp only [] at h
              have hl := wend_lt hc (by unfold ends; simp [hb, h2, h3, h4, h5]) ht
              rw [wend_in' (pre := pre) hpost ht (by omega) (by omega) ((pre ++ (s ++ post)).length + 1) (by simp; omega)]
              simp only []
              have hd : ((pre ++ (s ++ post)).drop (pre.length + p)).take (pre.length + r - (pre.length + p)) = (s.drop p).take (r - p) := by
                rw [List.drop_append, List.drop_of_length_le (by omega), List.nil_append, Nat.add_sub_cancel_left, List.drop_append_of_le_length (by omega), show pre.length + r - (pre.length + p) = r - p by omega,
                  List.take_append_of_le_length (by rw [List.length_drop]; omega)]
              rw [hd]
              rcases hw : wordTok ((s.drop p).take (r - p)) p with x | t
              · rw [hw] at h; cases h
              · rw [hw] at h; cases h
                rw [wordTok_sh pre.length p _ hw]; rfl
theorem toks_in (hpost : post = [] ∨ ∃ b, post = 10 :: b) : ∀ {k p : Nat} {l m : List Tok}, toks s k p l = .ok m → p ≤ s.length → s.length < k + p → ∀ (K : Nat) (L : List Tok), (pre ++ (s ++ post)).length < K + (pre.length + p) →
    ∃ K', (pre ++ (s ++ post)).length < K' + (pre.length + s.length) ∧ toks (pre ++ (s ++ post)) K (pre.length + p) (L ++ l.map (sh pre.length)) = toks (pre ++ (s ++ post)) K' (pre.length + s.length) (L ++ m.map (sh pre.length)) := by
  intro k
  induction k with
  | zero => intro p l m h h1 h2; omega
  | succ k ih =>
    intro p l m h h1 h2 K L hK
    by_cases hlt : p < s.length
    · rcases hn : nextR s p with x | ⟨t, q⟩
      · rw [toks_err hlt hn] at h; cases h
      · rw [toks_step hlt hn] at h
        have hl := next_lt hlt hn
        have hJ : (pre ++ (s ++ post)).length = pre.length + (s.length + post.length) := by simp
        obtain ⟨K, rfl⟩ : ∃ m, K = m + 1 := ⟨K - 1, by omega⟩
        rw [toks_step (by omega) (next_in hpost hlt hn), List.append_assoc, ← List.map_append]
        exact ih h hl.2.1 (by omega) K L (by omega)
    · have hp : p = s.length := by omega
      rw [toks_end hlt] at h; cases h
      subst hp
      exact ⟨K, hK, rfl⟩
end
theorem tokens_toks {s : List UInt8} {l : List Tok} (h : tokens s = .ok l) : toks s (s.length + 1) 0 [] = .ok l := by
  unfold tokens at h
  split at h
  · cases h
  · exact h
theorem sh_zero (l : List Tok) : l.map (sh 0) = l := by
  have : sh 0 = id := by funext t; simp [sh]
  rw [this, List.map_id]
theorem tokens_join {a b : List UInt8} {l m : List Tok} (ha : tokens a = .ok l) (hb : tokens b = .ok m) (hl : a.length + 1 + b.length ≤ 65536) :
    tokens (a ++ 10 :: b) = .ok (l ++ m.map (sh (a.length + 1))) := by
  have hJ : (a ++ 10 :: b).length = a.length + 1 + b.length := by simp; omega
  have h1 := toks_in (pre := []) (s := a) (post := 10 :: b) (.inr ⟨b, rfl⟩) (tokens_toks ha) (Nat.zero_le _) (by omega) ((a ++ 10 :: b).length + 1) [] (by simp)
  simp only [List.nil_append, List.length_nil, Nat.zero_add, List.map_nil, sh_zero] at h1
  obtain ⟨K1, k1, e1⟩ := h1
  have hc : (a ++ 10 :: b)[a.length]? = some 10 := by simp
  obtain ⟨K2, rfl⟩ : ∃ m, K1 = m + 1 := ⟨K1 - 1, by omega⟩
  have e2 := toks_step (k := K2) (l := l) (show a.length < (a ++ 10 :: b).length by omega) (next_blank hc (by decide))
  have hJe : (a ++ [10]) ++ (b ++ []) = a ++ 10 :: b := by simp
  have h3 := toks_in (pre := a ++ [10]) (s := b) (post := []) (.inl rfl) (tokens_toks hb) (Nat.zero_le _) (by omega) K2 l (by rw [hJe]; simp; simp at k1; omega)
  rw [hJe] at h3
  simp only [List.length_append, List.length_singleton, Nat.add_zero, List.map_nil, List.append_nil] at h3
  obtain ⟨K3, k3, e3⟩ := h3
  unfold tokens
  rw [if_neg (by omega), e1, e2, List.append_nil, e3, toks_end (by omega)]
end Go.Proofs.YtaklmocjaokkpaaDoor.Lx
