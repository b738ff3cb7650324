/- Two sources with a newline between them have the tokens of both, the second's places moved on. Condition: neither has an error, together they are no longer than a source may be. -/
import Derived.Test.YtkidnmjaioejaabDoorLexWalk9
namespace Go.Proofs.YtkidnmjaioejaabDoor.Lx
set_option linter.unusedVariables false
set_option linter.unusedSimpArgs false

/-- A token, so many places on. -/
def sh (D : Nat) (t : Tok) : Tok := { t with at_ := D + t.at_ }

section
variable {pre s post : List UInt8}

theorem get_in {i : Nat} {c : UInt8} (h : s[i]? = some c) : (pre ++ (s ++ post))[pre.length + i]? = some c := by
  have hi : i < s.length := by
    rcases Nat.lt_or_ge i s.length with h1 | h1
    · exact h1
    · rw [List.getElem?_eq_none h1] at h; cases h
  rw [List.getElem?_append_right (by omega), Nat.add_sub_cancel_left, List.getElem?_append_left hi]; exact h
theorem hexAt_in {p d : Nat} (h : hexAt s p = .ok d) : hexAt (pre ++ (s ++ post)) (pre.length + p) = .ok d := by
  unfold hexAt at h ⊢
  rcases hc : s[p]? with _ | c
  · rw [hc] at h; cases h
  · rw [hc] at h
    rw [get_in hc]
    simp only [] at h ⊢
    split at h
    · cases h
    · exact h
theorem esc_in {p q : Nat} {b : UInt8} (h : esc s p = .ok (b, q)) : esc (pre ++ (s ++ post)) (pre.length + p) = .ok (b, pre.length + q) := by
  unfold esc at h ⊢
  rcases hc : s[p]? with _ | c
  · rw [hc] at h; cases h
  · rw [hc] at h
    rw [get_in hc]
    simp only [] at h ⊢
    split at h
    · rename_i e; rw [if_pos e]; cases h; rfl
    · rename_i e; rw [if_neg e]
      split at h
      · rename_i e; rw [if_pos e]; cases h; rfl
      · rename_i e; rw [if_neg e]
        split at h
        · rename_i e; rw [if_pos e]
          rcases h1 : hexAt s (p + 1) with x | x
          · rw [h1] at h; cases h
          · rw [h1] at h
            have k1 := hexAt_in (pre := pre) (post := post) h1
            rw [← Nat.add_assoc] at k1
            rw [k1]
            simp only [] at h ⊢
            rcases h2 : hexAt s (p + 2) with y | y
            · rw [h2] at h; cases h
            · rw [h2] at h
              have k2 := hexAt_in (pre := pre) (post := post) h2
              rw [← Nat.add_assoc] at k2
              rw [k2]
              cases h; rfl
        · cases h
theorem text_in : ∀ {k p q : Nat} {out o : List UInt8}, text s k p out = .ok (o, q) → ∀ k', k ≤ k' → text (pre ++ (s ++ post)) k' (pre.length + p) out = .ok (o, pre.length + q) := by
  intro k
  induction k with
  | zero => intro p q out o h; cases h
  | succ k ih =>
    intro p q out o h k' hk
    obtain ⟨k', rfl⟩ : ∃ m, k' = m + 1 := ⟨k' - 1, by omega⟩
    rw [text] at h ⊢
    rcases hc : s[p]? with _ | c
    · rw [hc] at h; cases h
    · rw [hc] at h
      rw [get_in hc]
      simp only [] at h ⊢
      split at h
      · rename_i e; rw [if_pos e]; cases h; rfl
      · rename_i e; rw [if_neg e]
        split at h
        · rename_i e; rw [if_pos e]
          rcases he : esc s (p + 1) with x | ⟨b, r⟩
          · rw [he] at h; cases h
          · rw [he] at h
            have k1 := esc_in (pre := pre) (post := post) he
            rw [← Nat.add_assoc] at k1
            rw [k1]
            exact ih h k' (by omega)
        · rename_i e; rw [if_neg e]
          have := ih h k' (by omega)
          rw [← Nat.add_assoc] at this
          exact this
theorem end_in (hpost : post = [] ∨ ∃ b, post = 10 :: b) : (pre ++ (s ++ post))[pre.length + s.length]? = none ∨ (pre ++ (s ++ post))[pre.length + s.length]? = some 10 := by
  rw [List.getElem?_append_right (by omega), Nat.add_sub_cancel_left, List.getElem?_append_right (by omega), Nat.sub_self]
  rcases hpost with rfl | ⟨b, rfl⟩
  · exact .inl rfl
  · exact .inr rfl
theorem wend_in' (hpost : post = [] ∨ ∃ b, post = 10 :: b) : ∀ {k p q : Nat}, wordEnd s k p = .ok q → p ≤ s.length → s.length < k + p → ∀ k', k ≤ k' → wordEnd (pre ++ (s ++ post)) k' (pre.length + p) = .ok (pre.length + q) := by
  intro k
  induction k with
  | zero => intro p q h h1 h2; omega
  | succ k ih =>
    intro p q h h1 h2 k' hk
    obtain ⟨k', rfl⟩ : ∃ m, k' = m + 1 := ⟨k' - 1, by omega⟩
    rw [wordEnd] at h ⊢
    rcases hc : s[p]? with _ | c
    · rw [hc] at h
      have hp : p = s.length := by
        have := List.getElem?_eq_none_iff.1 hc; omega
      cases h
      subst hp
      rcases end_in (pre := pre) (s := s) hpost with e | e
      · rw [e]
      · rw [e]; rfl
    · rw [hc] at h
      rw [get_in hc]
      simp only [] at h ⊢
      split at h
      · rename_i e; rw [if_pos e]; cases h; rfl
      · rename_i e; rw [if_neg e]
        split at h
        · cases h
        · rename_i e; rw [if_neg e]
          have hlt : p < s.length := by
            rcases Nat.lt_or_ge p s.length with h1 | h1
            · exact h1
            · rw [List.getElem?_eq_none h1] at hc; cases hc
          have := ih h (by omega) (by omega) k' (by omega)
          rw [← Nat.add_assoc] at this
          exact this
theorem index_ge (l : List UInt8) (c : UInt8) : -1 ≤ Lib.indexByte l c := by
  induction l with
  | nil => simp [Lib.indexByte]
  | cons b l ih =>
    unfold Lib.indexByte
    split
    · omega
    · split <;> omega
theorem index_join (l b : List UInt8) : Lib.indexByte (l ++ 10 :: b) 10 = if 0 ≤ Lib.indexByte l 10 then Lib.indexByte l 10 else (l.length : Int) := by
  induction l with
  | nil => rfl
  | cons c l ih =>
    have hg := index_ge l 10
    rw [List.cons_append]
    unfold Lib.indexByte
    rw [ih]
    by_cases hc : (c == 10) = true
    · simp [hc]
    · simp only [hc, Bool.false_eq_true, if_false]
      by_cases h0 : 0 ≤ Lib.indexByte l 10
      · have e1 : (Lib.indexByte l 10 == -1) = false := by rw [beq_eq_false_iff_ne]; omega
        simp only [h0, if_true, e1, Bool.false_eq_true, if_false]
        rw [if_pos (by omega)]
      · have e1 : Lib.indexByte l 10 = -1 := by omega
        have e2 : ((l.length : Int) == -1) = false := by rw [beq_eq_false_iff_ne]; omega
        simp only [h0, if_false, e2, Bool.false_eq_true, e1]
        simp
theorem note_in (hpost : post = [] ∨ ∃ b, post = 10 :: b) {p : Nat} (hp : p < s.length) : noteEnd (pre ++ (s ++ post)) (pre.length + p) = pre.length + noteEnd s p := by
  have hd : (pre ++ (s ++ post)).drop (pre.length + p) = s.drop p ++ post := by
    rw [List.drop_append, List.drop_of_length_le (by omega), List.nil_append, Nat.add_sub_cancel_left, List.drop_append_of_le_length (by omega)]
  unfold noteEnd
  rw [hd]
  rcases hpost with rfl | ⟨b, rfl⟩
  · rw [List.append_nil]
    simp only [List.length_append, List.length_nil, Nat.add_zero]
    split
    · omega
    · rfl
  · rw [index_join]
    have hl : (s.drop p).length = s.length - p := List.length_drop
    simp only []
    by_cases h0 : 0 ≤ Lib.indexByte (s.drop p) 10
    · simp only [h0, if_true]; omega
    · simp only [h0, if_false]
      rw [if_pos (by omega)]; omega
theorem wordTok_sh (D p : Nat) (w : List UInt8) {t : Tok} (h : wordTok w p = .ok t) : wordTok w (D + p) = .ok (sh D t) := by
  unfold wordTok at h ⊢
  split at h
  · rename_i e; rw [if_pos e]
    split at h
    · rename_i hx; cases h; rfl
    · cases h
  · rename_i e; rw [if_neg e]; cases h; rfl
theorem next_in (hpost : post = [] ∨ ∃ b, post = 10 :: b) {p q : Nat} {l : List Tok} (hp : p < s.length) (h : nextR s p = .ok (l, q)) : nextR (pre ++ (s ++ post)) (pre.length + p) = .ok (l.map (sh pre.length), pre.length + q) := by
  have hc := List.getElem?_eq_getElem hp
  generalize s[p] = c at hc
  have hc' := get_in (pre := pre) (post := post) hc
  by_cases h1 : blank c = true
  · rw [next_blank hc h1] at h; cases h; rw [next_blank hc' h1]; rfl
  · by_cases h2 : c = 59
    · subst h2; rw [next_note hc] at h; cases h; rw [next_note hc', note_in hpost hp]; rfl
    · by_cases h3 : c = 40
      · subst h3; rw [next_open hc] at h; cases h; rw [next_open hc']; rfl
      · by_cases h4 : c = 41
        · subst h4; rw [next_close hc] at h; cases h; rw [next_close hc']; rfl
        · by_cases h5 : c = 34
          · subst h5; rw [next_text hc] at h; rw [next_text hc']
            unfold textR at h ⊢
            rcases ht : text s (s.length + 1) (p + 1) [] with x | ⟨o, r⟩
            · rw [ht] at h; cases h
            · rw [ht] at h; cases h
              have := text_in (pre := pre) (post := post) ht ((pre ++ (s ++ post)).length + 1) (by simp; omega)
              rw [← Nat.add_assoc] at this
              rw [this]; rfl
          · have hb : blank c = false := by simpa using h1
            rw [next_word hc hb h2 h3 h4 h5] at h
            rw [next_word hc' hb h2 h3 h4 h5]
            unfold wordR at h ⊢
            rcases ht : wordEnd s (s.length + 1) p with x | r
            · rw [ht] at h; cases h
            · rw [ht] at h
              simp only [] at h
              have hl := wend_lt hc (by unfold ends; simp [hb, h2, h3, h4, h5]) ht
              rw [wend_in' (pre := pre) hpost ht (by omega) (by omega) ((pre ++ (s ++ post)).length + 1) (by simp; omega)]
              simp only []
              have hd : ((pre ++ (s ++ post)).drop (pre.length + p)).take (pre.length + r - (pre.length + p)) = (s.drop p).take (r - p) := by
                rw [List.drop_append, List.drop_of_length_le (by omega), List.nil_append, Nat.add_sub_cancel_left, List.drop_append_of_le_length (by omega), show pre.length + r - (pre.length + p) = r - p by omega,
                  List.take_append_of_le_length (by rw [List.length_drop]; omega)]
              rw [hd]
              rcases hw : wordTok ((s.drop p).take (r - p)) p with x | t
              · rw [hw] at h; cases h
              · rw [hw] at h; cases h
                rw [wordTok_sh pre.length p _ hw]; rfl
theorem toks_in (hpost : post = [] ∨ ∃ b, post = 10 :: b) : ∀ {k p : Nat} {l m : List Tok}, toks s k p l = .ok m → p ≤ s.length → s.length < k + p → ∀ (K : Nat) (L : List Tok), (pre ++ (s ++ post)).length < K + (pre.length + p) →
    ∃ K', (pre ++ (s ++ post)).length < K' + (pre.length + s.length) ∧ toks (pre ++ (s ++ post)) K (pre.length + p) (L ++ l.map (sh pre.length)) = toks (pre ++ (s ++ post)) K' (pre.length + s.length) (L ++ m.map (sh pre.length)) := by
  intro k
  induction k with
  | zero => intro p l m h h1 h2; omega
  | succ k ih =>
    intro p l m h h1 h2 K L hK
    by_cases hlt : p < s.length
    · rcases hn : nextR s p with x | ⟨t, q⟩
      · rw [toks_err hlt hn] at h; cases h
      · rw [toks_step hlt hn] at h
        have hl := next_lt hlt hn
        have hJ : (pre ++ (s ++ post)).length = pre.length + (s.length + post.length) := by simp
        obtain ⟨K, rfl⟩ : ∃ m, K = m + 1 := ⟨K - 1, by omega⟩
        rw [toks_step (by omega) (next_in hpost hlt hn), List.append_assoc, ← List.map_append]
        exact ih h hl.2.1 (by omega) K L (by omega)
    · have hp : p = s.length := by omega
      rw [toks_end hlt] at h; cases h
      subst hp
      exact ⟨K, hK, rfl⟩
end
theorem tokens_toks {s : List UInt8} {l : List Tok} (h : tokens s = .ok l) : toks s (s.length + 1) 0 [] = .ok l := by
  unfold tokens at h
  split at h
  · cases h
  · exact h
theorem sh_zero (l : List Tok) : l.map (sh 0) = l := by
  have : sh 0 = id := by funext t; simp [sh]
  rw [this, List.map_id]
theorem tokens_join {a b : List UInt8} {l m : List Tok} (ha : tokens a = .ok l) (hb : tokens b = .ok m) (hl : a.length + 1 + b.length ≤ 65536) :
    tokens (a ++ 10 :: b) = .ok (l ++ m.map (sh (a.length + 1))) := by
  have hJ : (a ++ 10 :: b).length = a.length + 1 + b.length := by simp; omega
  have h1 := toks_in (pre := []) (s := a) (post := 10 :: b) (.inr ⟨b, rfl⟩) (tokens_toks ha) (Nat.zero_le _) (by omega) ((a ++ 10 :: b).length + 1) [] (by simp)
  simp only [List.nil_append, List.length_nil, Nat.zero_add, List.map_nil, sh_zero] at h1
  obtain ⟨K1, k1, e1⟩ := h1
  have hc : (a ++ 10 :: b)[a.length]? = some 10 := by simp
  obtain ⟨K2, rfl⟩ : ∃ m, K1 = m + 1 := ⟨K1 - 1, by omega⟩
  have e2 := toks_step (k := K2) (l := l) (show a.length < (a ++ 10 :: b).length by omega) (next_blank hc (by decide))
  have hJe : (a ++ [10]) ++ (b ++ []) = a ++ 10 :: b := by simp
  have h3 := toks_in (pre := a ++ [10]) (s := b) (post := []) (.inl rfl) (tokens_toks hb) (Nat.zero_le _) (by omega) K2 l (by rw [hJe]; simp; simp at k1; omega)
  rw [hJe] at h3
  simp only [List.length_append, List.length_singleton, Nat.add_zero, List.map_nil, List.append_nil] at h3
  obtain ⟨K3, k3, e3⟩ := h3
  unfold tokens
  rw [if_neg (by omega), e1, e2, List.append_nil, e3, toks_end (by omega)]
end Go.Proofs.YtkidnmjaioejaabDoor.Lx
