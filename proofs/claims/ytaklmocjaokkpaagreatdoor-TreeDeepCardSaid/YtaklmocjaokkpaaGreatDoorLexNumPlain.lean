/- A number's letters, with noughts ahead, are one token: that number. No condition but that an int64 holds it. -/
import Derived.Test.YtaklmocjaokkpaaGreatDoorLexNumber
import Derived.Test.YtaklmocjaokkpaaGreatDoorLexNum
import Derived.Test.YtaklmocjaokkpaaGreatDoorLexWalk9
namespace Go.Proofs.YtaklmocjaokkpaaGreatDoor.Lx
set_option linter.unusedVariables false
set_option linter.unusedSimpArgs false

theorem dig_ok (n : Nat) (h : n < 10) : (UInt8.ofNat (48 + n)).toNat = 48 + n := by simp; omega
theorem dig_is (n : Nat) (h : n < 10) : isDigit (UInt8.ofNat (48 + n)) = true := by
  unfold isDigit; rw [dig_ok n h]; simp; omega
theorem digs_facts : ∀ (k n : Nat), n < 10 ^ (k + 1) → (digs n).all isDigit = true ∧ val 0 (digs n) = n ∧ digs n ≠ [] := by
  intro k
  induction k with
  | zero =>
    intro n h
    have h : n < 10 := by omega
    unfold digs; rw [if_pos h]
    refine ⟨by rw [List.all_cons, List.all_nil, dig_is n h]; rfl, ?_, by simp⟩
    rw [val_cons, val_nil, dig_ok n h]; omega
  | succ k ih =>
    intro n h
    unfold digs
    split
    · rename_i h
      refine ⟨by rw [List.all_cons, List.all_nil, dig_is n h]; rfl, ?_, by simp⟩
      rw [val_cons, val_nil, dig_ok n h]; omega
    · obtain ⟨i1, i2, i3⟩ := ih (n / 10) (by rw [Nat.pow_succ] at h; omega)
      refine ⟨by rw [List.all_append, i1, List.all_cons, List.all_nil, dig_is (n % 10) (by omega)]; rfl, ?_, by simp⟩
      rw [val_snoc, i2, dig_ok _ (by omega)]; omega
theorem val_zeros (m : Nat) (l : List UInt8) : val 0 (List.replicate m 48 ++ l) = val 0 l := by
  induction m with
  | zero => rfl
  | succ m ih => rw [List.replicate_succ, List.cons_append, val_cons]; simpa using ih

/-- A number's word, with noughts ahead. -/
def zword (n : Int) (m : Nat) : List UInt8 := List.replicate m 48 ++ digs n.natAbs
def nword (n : Int) (m : Nat) : List UInt8 := (if n < 0 then [45] else []) ++ zword n m

theorem zword_facts (n : Int) (m : Nat) (h1 : -9223372036854775808 ≤ n) (h2 : n ≤ 9223372036854775807) :
    (zword n m).all isDigit = true ∧ val 0 (zword n m) = n.natAbs ∧ zword n m ≠ [] := by
  obtain ⟨i1, i2, i3⟩ := digs_facts 20 n.natAbs (by omega)
  refine ⟨?_, by unfold zword; rw [val_zeros, i2], by unfold zword; simp [i3]⟩
  unfold zword
  rw [List.all_append, i1, Bool.and_true]
  simp [isDigit]
theorem head_dig {l : List UInt8} (h : l.all isDigit = true) : ¬ l.head? = some 45 := by
  intro e
  cases l with
  | nil => cases e
  | cons c l =>
    simp at e h
    rw [e] at h
    exact absurd h.1 (by decide)
theorem wordTok_num (n : Int) (m p : Nat) (h1 : -9223372036854775808 ≤ n) (h2 : n ≤ 9223372036854775807) : wordTok (nword n m) p = .ok ⟨4, [], n, p⟩ := by
  obtain ⟨i1, i2, i3⟩ := zword_facts n m h1 h2
  have hd : digW (nword n m) = zword n m ∧ negW (nword n m) = decide (n < 0) := by
    unfold nword
    by_cases hn : n < 0
    · rw [if_pos hn]; exact ⟨rfl, by simp [negW, hn]⟩
    · rw [if_neg hn, List.nil_append]
      have := head_dig i1
      exact ⟨by unfold digW; rw [if_neg this], by simp [negW, this, hn]⟩
  have hnum : isNum (nword n m) = true := by
    rw [isNum_is, hd.1, i1]
    cases hz : zword n m with
    | nil => exact absurd hz i3
    | cons => rfl
  unfold wordTok
  rw [if_pos hnum, parse_num _ hnum, hd.1, hd.2, i2]
  have ht : n.natAbs ≤ topW (nword n m) := by
    unfold topW; rw [hd.2]
    by_cases hn : n < 0
    · simp [hn]; omega
    · simp [hn]; omega
  rw [if_pos ht]
  by_cases hn : n < 0
  · simp only [hn, decide_true, if_true]; congr 2; omega
  · simp only [hn, decide_false, Bool.false_eq_true, if_false]; congr 2; omega

/-- A byte of a word. -/
def inWord (c : UInt8) : Prop := ends c = false ∧ 33 ≤ c.toNat ∧ c.toNat ≤ 126
theorem wordEnd_all (w post : List UInt8) (hw : ∀ c ∈ w, inWord c) (hp : ∀ c, post.head? = some c → ends c = true) : ∀ (k p : Nat), p ≤ w.length → w.length < k + p → wordEnd (w ++ post) k p = .ok w.length := by
  intro k
  induction k with
  | zero => intro p h1 h2; omega
  | succ k ih =>
    intro p h1 h2
    by_cases hlt : p < w.length
    · have hc : (w ++ post)[p]? = some w[p] := by rw [List.getElem?_append_left hlt, List.getElem?_eq_getElem hlt]
      obtain ⟨e1, e2, e3⟩ := hw w[p] (List.getElem_mem hlt)
      rw [wordEnd, hc]
      simp only [e1, Bool.false_eq_true, if_false]
      rw [if_neg (by omega)]
      exact ih (p + 1) (by omega) (by omega)
    · have hpe : p = w.length := by omega
      subst hpe
      rw [wordEnd]
      rcases hc : (w ++ post)[w.length]? with _ | c
      · rfl
      · have : ends c = true := hp c (by
          rw [List.getElem?_append_right (Nat.le_refl _), Nat.sub_self] at hc
          rw [List.head?_eq_getElem?]; exact hc)
        simp only [this, if_true]
theorem next_of_word (w post : List UInt8) (hne : w ≠ []) (hw : ∀ c ∈ w, inWord c) (hp : ∀ c, post.head? = some c → ends c = true) :
    nextR (w ++ post) 0 = match wordTok w 0 with | .error x => .error x | .ok t => .ok ([t], w.length) := by
  cases w with
  | nil => exact absurd rfl hne
  | cons c r =>
    obtain ⟨e1, e2, e3⟩ := hw c (by simp)
    have hc : (c :: r ++ post)[0]? = some c := rfl
    have hb : blank c = false := by
      unfold ends at e1
      cases hb : blank c
      · rfl
      · rw [hb] at e1; simp at e1
    have n2 : c ≠ 59 := by rintro rfl; exact absurd e1 (by decide)
    have n3 : c ≠ 40 := by rintro rfl; exact absurd e1 (by decide)
    have n4 : c ≠ 41 := by rintro rfl; exact absurd e1 (by decide)
    have n5 : c ≠ 34 := by rintro rfl; exact absurd e1 (by decide)
    rw [next_word hc hb n2 n3 n4 n5]
    unfold wordR
    rw [wordEnd_all (c :: r) post hw hp _ 0 (Nat.zero_le _) (by simp; omega)]
    simp only [List.drop_zero, Nat.sub_zero, List.take_left]
    cases wordTok (c :: r) 0 <;> rfl
theorem tokens_of_word (w : List UInt8) (t : Tok) (hne : w ≠ []) (hl : w.length ≤ 65536) (hw : ∀ c ∈ w, inWord c) (ht : wordTok w 0 = .ok t) : tokens w = .ok [t] := by
  have hn := next_of_word w [] hne hw (by simp)
  rw [List.append_nil, ht] at hn
  have hp : 0 < w.length := List.length_pos_iff.2 hne
  unfold tokens
  rw [if_neg (by omega), toks_step hp hn, toks_end (by omega)]
  rfl
theorem tokens_word_close (w : List UInt8) (t : Tok) (hne : w ≠ []) (hl : w.length ≤ 60000) (hw : ∀ c ∈ w, inWord c) (ht : wordTok w 0 = .ok t) : tokens (w ++ [41]) = .ok [t, ⟨2, [], 0, w.length⟩] := by
  have hn := next_of_word w [41] hne hw (by intro c h; simp at h; subst h; decide)
  rw [ht] at hn
  have hp : 0 < w.length := List.length_pos_iff.2 hne
  have hc : (w ++ [41])[w.length]? = some 41 := by simp
  have hlen : (w ++ [41]).length = w.length + 1 := by simp
  obtain ⟨m, hm⟩ : ∃ m, w.length = m + 1 := ⟨w.length - 1, by omega⟩
  unfold tokens
  rw [if_neg (by omega), toks_step (by omega) hn, hlen]
  rw [toks_step (by omega) (next_close hc), toks_end (by omega)]
  rfl
theorem dig_inWord (c : UInt8) (h : isDigit c = true) : inWord c := by
  unfold isDigit at h
  simp at h
  refine ⟨?_, by omega, by omega⟩
  have e : ∀ k : UInt8, (k.toNat < 48 ∨ 57 < k.toNat) → (c == k) = false := by
    intro k hk
    rw [beq_eq_false_iff_ne]
    rintro rfl
    omega
  unfold ends blank
  rw [e 32 (by decide), e 9 (by decide), e 10 (by decide), e 13 (by decide), e 59 (by decide), e 40 (by decide), e 41 (by decide), e 34 (by decide)]
  rfl
theorem nword_inWord (n : Int) (m : Nat) (h1 : -9223372036854775808 ≤ n) (h2 : n ≤ 9223372036854775807) : ∀ c ∈ nword n m, inWord c := by
  obtain ⟨i1, _, _⟩ := zword_facts n m h1 h2
  intro c hc
  unfold nword at hc
  rcases List.mem_append.1 hc with hc | hc
  · split at hc
    · simp at hc; subst hc; exact ⟨by decide, by decide, by decide⟩
    · cases hc
  · exact dig_inWord c (List.all_eq_true.1 i1 c hc)
theorem nword_ne (n : Int) (m : Nat) (h1 : -9223372036854775808 ≤ n) (h2 : n ≤ 9223372036854775807) : nword n m ≠ [] := by
  obtain ⟨_, _, i3⟩ := zword_facts n m h1 h2
  unfold nword; simp [i3]
theorem nword_len (n : Int) (m : Nat) (h1 : -9223372036854775808 ≤ n) (h2 : n ≤ 9223372036854775807) : (nword n m).length ≤ 101 + m := by
  have := digs_len n.natAbs (by omega)
  unfold nword zword
  split <;> simp <;> omega
theorem numb_is (n : Int) : numb n = nword n 0 := by
  unfold numb nword zword; split <;> rfl
theorem tokens_numb (n : Int) (h1 : -9223372036854775808 ≤ n) (h2 : n ≤ 9223372036854775807) : tokens (numb n) = .ok [⟨4, [], n, 0⟩] := by
  rw [numb_is]
  have := nword_len n 0 h1 h2
  exact tokens_of_word _ _ (nword_ne n 0 h1 h2) (by omega) (nword_inWord n 0 h1 h2) (wordTok_num n 0 0 h1 h2)
theorem tokens_noughts (n : Int) (m : Nat) (hm : m ≤ 50) (h1 : -9223372036854775808 ≤ n) (h2 : n ≤ 9223372036854775807) : tokens (nword n m ++ [41]) = .ok [⟨4, [], n, 0⟩, ⟨2, [], 0, (nword n m).length⟩] := by
  have := nword_len n m h1 h2
  exact tokens_word_close _ _ (nword_ne n m h1 h2) (by omega) (nword_inWord n m h1 h2) (wordTok_num n m 0 h1 h2)
end Go.Proofs.YtaklmocjaokkpaaGreatDoor.Lx
