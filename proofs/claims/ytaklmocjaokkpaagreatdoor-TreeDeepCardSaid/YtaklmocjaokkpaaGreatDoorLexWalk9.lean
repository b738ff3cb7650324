/- The lexer's Tokens, walked: for every source its tokens, or the place and the error. Condition: the two errors of strconv hold interface values. -/
import Derived.Test.YtaklmocjaokkpaaGreatDoorLexWalk8
namespace Go.Proofs.YtaklmocjaokkpaaGreatDoor.Lx
open Go.RowKit Go.Proofs.YtaklmocjaokkpaaGreatDoor.Mem

theorem text_lt {s : List UInt8} : ∀ {k p q : Nat} {out o : List UInt8}, text s k p out = .ok (o, q) → p < q ∧ q ≤ s.length := by
  intro k
  induction k with
  | zero => intro p q out o h; cases h
  | succ k ih =>
    intro p q out o h
    rw [text] at h
    rcases hc : s[p]? with _ | c
    · rw [hc] at h; cases h
    · have hp : p < s.length := by
        rcases Nat.lt_or_ge p s.length with h1 | h1
        · exact h1
        · rw [List.getElem?_eq_none h1] at hc; cases hc
      rw [hc] at h
      simp only [] at h
      split at h
      · cases h; omega
      · split at h
        · rcases he : esc s (p + 1) with x | ⟨b, r⟩
          · rw [he] at h; cases h
          · rw [he] at h
            have := esc_lt he
            have := ih h
            omega
        · have := ih h; omega
theorem wend_le {s : List UInt8} : ∀ {k p q : Nat}, p ≤ s.length → wordEnd s k p = .ok q → p ≤ q ∧ q ≤ s.length := by
  intro k
  induction k with
  | zero => intro p q hp h; cases h; omega
  | succ k ih =>
    intro p q hp h
    rw [wordEnd] at h
    rcases hc : s[p]? with _ | c
    · rw [hc] at h; cases h; omega
    · have hp : p < s.length := by
        rcases Nat.lt_or_ge p s.length with h1 | h1
        · exact h1
        · rw [List.getElem?_eq_none h1] at hc; cases hc
      rw [hc] at h
      simp only [] at h
      split at h
      · cases h; omega
      · split at h
        · cases h
        · have := ih (by omega) h; omega
theorem wend_lt {s : List UInt8} {k p q : Nat} {c : UInt8} (hc : s[p]? = some c) (h1 : ends c = false) (h : wordEnd s (k + 1) p = .ok q) : p < q ∧ q ≤ s.length := by
  have hp : p < s.length := by
    rcases Nat.lt_or_ge p s.length with h1 | h1
    · exact h1
    · rw [List.getElem?_eq_none h1] at hc; cases hc
  rw [wordEnd, hc] at h
  simp only [h1, Bool.false_eq_true, if_false] at h
  split at h
  · cases h
  · have := wend_le (by omega) h; omega
theorem note_lt {s : List UInt8} {p : Nat} (h : s[p]? = some 59) : p < noteEnd s p ∧ noteEnd s p ≤ s.length := by
  have hp : p < s.length := by
    rcases Nat.lt_or_ge p s.length with h1 | h1
    · exact h1
    · rw [List.getElem?_eq_none h1] at h; cases h
  have hd : s.drop p = 59 :: s.drop (p + 1) := by
    rw [List.drop_eq_getElem_cons hp]
    rw [List.getElem?_eq_getElem hp] at h
    rw [Option.some.inj h]
  have h1 := indexByte_lt (s.drop p) 10
  rw [List.length_drop] at h1
  have h2 : Lib.indexByte (s.drop p) 10 ≠ 0 := by
    rw [hd, Lib.indexByte]
    have := Lib.indexByte_ge (s.drop (p + 1)) 10
    rw [if_neg (by decide)]
    split
    · decide
    · rename_i h3; simp at h3; omega
  unfold noteEnd
  simp only []
  split <;> omega

theorem next_lt {s : List UInt8} {p q : Nat} {l : List Tok} (hp : p < s.length) (h : nextR s p = .ok (l, q)) : p < q ∧ q ≤ s.length ∧ l.length ≤ 1 := by
  have hc := List.getElem?_eq_getElem hp
  generalize s[p] = c at hc
  by_cases h1 : blank c = true
  · rw [next_blank hc h1] at h; cases h; simp; omega
  · by_cases h2 : c = 59
    · subst h2; rw [next_note hc] at h; cases h; have := note_lt hc; simp; omega
    · by_cases h3 : c = 40
      · subst h3; rw [next_open hc] at h; cases h; simp; omega
      · by_cases h4 : c = 41
        · subst h4; rw [next_close hc] at h; cases h; simp; omega
        · by_cases h5 : c = 34
          · subst h5; rw [next_text hc] at h
            unfold textR at h
            rcases ht : text s (s.length + 1) (p + 1) [] with x | ⟨o, r⟩
            · rw [ht] at h; cases h
            · rw [ht] at h; cases h; have := text_lt ht; simp; omega
          · have hb : blank c = false := by simpa using h1
            rw [next_word hc hb h2 h3 h4 h5] at h
            unfold wordR at h
            rcases ht : wordEnd s (s.length + 1) p with x | r
            · rw [ht] at h; cases h
            · rw [ht] at h
              simp only [] at h
              have := wend_lt hc (by unfold ends; simp [hb, h2, h3, h4, h5]) ht
              rcases hw : wordTok ((s.drop p).take (r - p)) p with x | t
              · rw [hw] at h; cases h
              · rw [hw] at h; cases h; simp; omega

theorem toks_step {s : List UInt8} {k p q : Nat} {l t : List Tok} (hp : p < s.length) (h : nextR s p = .ok (t, q)) : toks s (k + 1) p l = toks s k q (l ++ t) := by
  rw [toks, if_pos hp]
  unfold nextR at h
  rcases hn : next s p with x | ⟨u, r⟩
  · rw [hn] at h; cases h
  · rw [hn] at h; cases h; rfl
theorem toks_err {s : List UInt8} {k p : Nat} {l : List Tok} {x : Nat × Nat} (hp : p < s.length) (h : nextR s p = .error x) : toks s (k + 1) p l = .error x := by
  rw [toks, if_pos hp]
  unfold nextR at h
  rcases hn : next s p with x | ⟨u, r⟩
  · rw [hn] at h; cases h; rfl
  · rw [hn] at h; cases h
theorem toks_end {s : List UInt8} {k p : Nat} {l : List Tok} (hp : ¬ p < s.length) : toks s k p l = .ok l := by
  cases k with
  | zero => rfl
  | succ k => rw [toks, if_neg hp]
end Go.Proofs.YtaklmocjaokkpaaGreatDoor.Lx
