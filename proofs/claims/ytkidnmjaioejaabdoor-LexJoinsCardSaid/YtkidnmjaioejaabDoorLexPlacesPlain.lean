/- Where tokens stand: one behind the other, inside the source; a bracket, a quote, a word stand in it at their places. No condition. -/
import Derived.Test.YtkidnmjaioejaabDoorLexWalk9
namespace Go.Proofs.YtkidnmjaioejaabDoor.Lx
set_option linter.unusedVariables false
set_option linter.unusedSimpArgs false

def Good (s : List UInt8) (t : Tok) : Prop :=
  (t.kind = 1 ∧ s[t.at_]? = some 40) ∨ (t.kind = 2 ∧ s[t.at_]? = some 41) ∨ (t.kind = 5 ∧ s[t.at_]? = some 34) ∨ t.kind = 4 ∨ (t.kind = 3 ∧ t.at_ + t.s.length ≤ s.length ∧ (s.drop t.at_).take t.s.length = t.s)

theorem next_good {s : List UInt8} {p q : Nat} {l : List Tok} (hp : p < s.length) (h : nextR s p = .ok (l, q)) : ∀ t ∈ l, t.at_ = p ∧ Good s t := by
  have hc := List.getElem?_eq_getElem hp
  generalize s[p] = c at hc
  by_cases h1 : blank c = true
  · rw [next_blank hc h1] at h; cases h; simp
  · by_cases h2 : c = 59
    · subst h2; rw [next_note hc] at h; cases h; simp
    · by_cases h3 : c = 40
      · subst h3; rw [next_open hc] at h; cases h; intro t ht; simp at ht; subst ht; exact ⟨rfl, .inl ⟨rfl, hc⟩⟩
      · by_cases h4 : c = 41
        · subst h4; rw [next_close hc] at h; cases h; intro t ht; simp at ht; subst ht; exact ⟨rfl, .inr (.inl ⟨rfl, hc⟩)⟩
        · by_cases h5 : c = 34
          · subst h5; rw [next_text hc] at h
            unfold textR at h
            rcases ht : text s (s.length + 1) (p + 1) [] with x | ⟨o, r⟩
            · rw [ht] at h; cases h
            · rw [ht] at h; cases h; intro t ht; simp at ht; subst ht; exact ⟨rfl, .inr (.inr (.inl ⟨rfl, hc⟩))⟩
          · have hb : blank c = false := by simpa using h1
            rw [next_word hc hb h2 h3 h4 h5] at h
            unfold wordR at h
            rcases ht : wordEnd s (s.length + 1) p with x | r
            · rw [ht] at h; cases h
            · rw [ht] at h
              simp only [] at h
              have hl := wend_lt hc (by unfold ends; simp [hb, h2, h3, h4, h5]) ht
              rcases hw : wordTok ((s.drop p).take (r - p)) p with x | t
              · rw [hw] at h; cases h
              · rw [hw] at h; cases h
                intro t' ht'
                simp only [List.mem_singleton] at ht'
                subst ht'
                unfold wordTok at hw
                split at hw
                · split at hw
                  · cases hw; exact ⟨rfl, .inr (.inr (.inr (.inl rfl)))⟩
                  · cases hw
                · cases hw
                  have e : ((s.drop p).take (q - p)).length = q - p := by rw [List.length_take, List.length_drop]; omega
                  exact ⟨rfl, .inr (.inr (.inr (.inr ⟨rfl, by show p + _ ≤ _; rw [e]; omega, by show (s.drop p).take _ = _; rw [e]⟩)))⟩

/-- A list of tokens in order, all ahead of a place. -/
def Row (s : List UInt8) (p : Nat) (l : List Tok) : Prop := l.Pairwise (fun a b => a.at_ < b.at_) ∧ ∀ t ∈ l, t.at_ < p ∧ Good s t
theorem toks_good {s : List UInt8} : ∀ {k p : Nat} {l m : List Tok}, p ≤ s.length → Row s p l → toks s k p l = .ok m → Row s s.length m := by
  intro k
  induction k with
  | zero => intro p l m hp hr h; cases h; exact ⟨hr.1, fun t ht => ⟨by have := (hr.2 t ht).1; omega, (hr.2 t ht).2⟩⟩
  | succ k ih =>
    intro p l m hp hr h
    by_cases hlt : p < s.length
    · rcases hn : nextR s p with x | ⟨t, q⟩
      · rw [toks_err hlt hn] at h; cases h
      · rw [toks_step hlt hn] at h
        have hl := next_lt hlt hn
        have hg := next_good hlt hn
        refine ih hl.2.1 ⟨List.pairwise_append.2 ⟨hr.1, ?_, fun a ha b hb => ?_⟩, fun u hu => ?_⟩ h
        · match t, hl.2.2 with
          | [], _ => simp
          | [_], _ => simp
        · have := (hr.2 a ha).1; rw [(hg b hb).1]; exact this
        · rcases List.mem_append.1 hu with hu | hu
          · have := (hr.2 u hu); exact ⟨by omega, this.2⟩
          · have := hg u hu; exact ⟨by omega, this.2⟩
    · rw [toks_end hlt] at h; cases h
      exact ⟨hr.1, fun t ht => ⟨by have := (hr.2 t ht).1; omega, (hr.2 t ht).2⟩⟩
theorem tokens_good {s : List UInt8} {l : List Tok} (h : tokens s = .ok l) : Row s s.length l := by
  unfold tokens at h
  split at h
  · cases h
  · exact toks_good (Nat.zero_le _) ⟨List.Pairwise.nil, fun _ h => by cases h⟩ h
end Go.Proofs.YtkidnmjaioejaabDoor.Lx
