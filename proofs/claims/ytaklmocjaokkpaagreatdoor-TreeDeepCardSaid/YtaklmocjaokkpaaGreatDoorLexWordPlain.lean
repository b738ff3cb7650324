/- When the tokens of a text are one word, that text: just when the text is a word. No condition. -/
import Derived.Test.YtaklmocjaokkpaaGreatDoorLexNumPlain
namespace Go.Proofs.YtaklmocjaokkpaaGreatDoor.Lx
set_option linter.unusedVariables false
set_option linter.unusedSimpArgs false

/-- Is a text a word? -/
def wordB (s : List UInt8) : Bool := !s.isEmpty && decide (s.length ≤ 65536) && s.all (fun c => !ends c && decide (33 ≤ c.toNat) && decide (c.toNat ≤ 126)) && !isNum s
/-- What the lexer's Word asks of the tokens. -/
def oneWord (s : List UInt8) (l : List Tok) : Bool := match l with | [t] => t.kind == 3 && t.s == s | _ => false

theorem wend_in {s : List UInt8} : ∀ {k p q : Nat}, wordEnd s k p = .ok q → ∀ i, p ≤ i → i < q → ∃ c, s[i]? = some c ∧ inWord c := by
  intro k
  induction k with
  | zero => intro p q h i h1 h2; cases h; omega
  | succ k ih =>
    intro p q h i h1 h2
    rw [wordEnd] at h
    rcases hc : s[p]? with _ | c
    · rw [hc] at h; cases h; omega
    · rw [hc] at h
      simp only [] at h
      split at h
      · cases h; omega
      · rename_i he
        split at h
        · cases h
        · rename_i hn
          by_cases e : i = p
          · subst e; exact ⟨c, hc, by simpa using he, by omega, by omega⟩
          · exact ih h i (by omega) h2

/-- A word's token stands over a part of the source that ends where its word ends, and is no number. -/
def WordAt (s : List UInt8) (t : Tok) : Prop := t.kind = 3 → ∃ p q, t.s = (s.drop p).take (q - p) ∧ p < q ∧ q ≤ s.length ∧ isNum t.s = false ∧ ∀ i, p ≤ i → i < q → ∃ c, s[i]? = some c ∧ inWord c
theorem next_wordAt {s : List UInt8} {p q : Nat} {l : List Tok} (hp : p < s.length) (h : nextR s p = .ok (l, q)) : ∀ t ∈ l, WordAt s t := by
  have hc := List.getElem?_eq_getElem hp
  generalize s[p] = c at hc
  by_cases h1 : blank c = true
  · rw [next_blank hc h1] at h; cases h; simp
  · by_cases h2 : c = 59
    · subst h2; rw [next_note hc] at h; cases h; simp
    · by_cases h3 : c = 40
      · subst h3; rw [next_open hc] at h; cases h; intro t ht; simp at ht; subst ht; intro hk; cases hk
      · by_cases h4 : c = 41
        · subst h4; rw [next_close hc] at h; cases h; intro t ht; simp at ht; subst ht; intro hk; cases hk
        · by_cases h5 : c = 34
          · subst h5; rw [next_text hc] at h
            unfold textR at h
            rcases ht : text s (s.length + 1) (p + 1) [] with x | ⟨o, r⟩
            · rw [ht] at h; cases h
            · rw [ht] at h; cases h; intro t ht; simp at ht; subst ht; intro hk; cases hk
          · have hb : blank c = false := by simpa using h1
            rw [next_word hc hb h2 h3 h4 h5] at h
            unfold wordR at h
            rcases ht : wordEnd s (s.length + 1) p with x | r
            · rw [ht] at h; cases h
            · rw [ht] at h
              simp only [] at h
              have hl := wend_lt hc (by unfold ends; simp [hb, h2, h3, h4, h5]) ht
              rcases hw : wordTok ((s.drop p).take (r - p)) p with x | t
              · rw [hw] at h; cases h
              · rw [hw] at h; cases h
                intro t' ht'
                simp only [List.mem_singleton] at ht'
                subst ht'
                intro hk
                unfold wordTok at hw
                split at hw
                · split at hw
                  · cases hw; cases hk
                  · cases hw
                · rename_i hnum
                  cases hw
                  exact ⟨p, q, rfl, hl.1, hl.2, by simpa using hnum, wend_in ht⟩
theorem toks_wordAt {s : List UInt8} : ∀ {k p : Nat} {l m : List Tok}, (∀ t ∈ l, WordAt s t) → toks s k p l = .ok m → ∀ t ∈ m, WordAt s t := by
  intro k
  induction k with
  | zero => intro p l m hr h; cases h; exact hr
  | succ k ih =>
    intro p l m hr h
    by_cases hlt : p < s.length
    · rcases hn : nextR s p with x | ⟨t, q⟩
      · rw [toks_err hlt hn] at h; cases h
      · rw [toks_step hlt hn] at h
        refine ih (fun u hu => ?_) h
        rcases List.mem_append.1 hu with hu | hu
        · exact hr u hu
        · exact next_wordAt hlt hn u hu
    · rw [toks_end hlt] at h; cases h; exact hr
theorem word_of_tokens {s : List UInt8} {l : List Tok} (h : tokens s = .ok l) : oneWord s l = wordB s := by
  have hlen : s.length ≤ 65536 := by
    unfold tokens at h; split at h
    · cases h
    · omega
  have hall : ∀ t ∈ l, WordAt s t := by
    unfold tokens at h; split at h
    · cases h
    · exact toks_wordAt (fun _ h => by cases h) h
  cases hb : wordB s with
  | true =>
    unfold wordB at hb
    simp only [Bool.and_eq_true, Bool.not_eq_true', decide_eq_true_eq, List.all_eq_true] at hb
    obtain ⟨⟨⟨b1, b2⟩, b3⟩, b4⟩ := hb
    have hne : s ≠ [] := by rintro rfl; cases b1
    have := tokens_of_word s ⟨3, s, 0, 0⟩ hne b2 (fun c hc => ⟨(b3 c hc).1.1, (b3 c hc).1.2, (b3 c hc).2⟩) (by unfold wordTok; rw [b4]; rfl)
    rw [this] at h; cases h
    simp [oneWord]
  | false =>
    cases ho : oneWord s l with
    | false => rfl
    | true =>
      unfold oneWord at ho
      split at ho
      · rename_i t
        simp only [Bool.and_eq_true, beq_iff_eq] at ho
        obtain ⟨p, q, e1, e2, e3, e4, e5⟩ := hall t (by simp) ho.1
        rw [ho.2] at e1 e4
        have el : s.length = q - p := by
          have := congrArg List.length e1
          rw [List.length_take, List.length_drop] at this; omega
        have p0 : p = 0 := by omega
        have q0 : q = s.length := by omega
        subst p0 q0
        have : wordB s = true := by
          unfold wordB
          simp only [Bool.and_eq_true, Bool.not_eq_true', decide_eq_true_eq, List.all_eq_true]
          refine ⟨⟨⟨?_, hlen⟩, fun c hc => ?_⟩, e4⟩
          · cases s with
            | nil => simp at e2
            | cons => rfl
          · obtain ⟨i, hi, he⟩ := List.mem_iff_getElem.1 hc
            obtain ⟨c', h1, h2, h3, h4⟩ := e5 i (Nat.zero_le _) hi
            rw [List.getElem?_eq_getElem hi, he] at h1
            cases h1
            exact ⟨⟨h2, h3⟩, h4⟩
        rw [this] at hb; cases hb
      · cases ho
theorem word_of_err {s : List UInt8} {x : Nat × Nat} (h : tokens s = .error x) : wordB s = false := by
  cases hb : wordB s with
  | false => rfl
  | true =>
    unfold wordB at hb
    simp only [Bool.and_eq_true, Bool.not_eq_true', decide_eq_true_eq, List.all_eq_true] at hb
    obtain ⟨⟨⟨b1, b2⟩, b3⟩, b4⟩ := hb
    have hne : s ≠ [] := by rintro rfl; cases b1
    have := tokens_of_word s ⟨3, s, 0, 0⟩ hne b2 (fun c hc => ⟨(b3 c hc).1.1, (b3 c hc).1.2, (b3 c hc).2⟩) (by unfold wordTok; rw [b4]; rfl)
    rw [this] at h; cases h
end Go.Proofs.YtaklmocjaokkpaaGreatDoor.Lx
