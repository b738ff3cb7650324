/- The lexer's Word and the reference's Word, walked. Condition: the two errors of strconv hold interface values (the lexer's). -/
import Derived.Test.YtaklmocjaokkpaaGreatDoorLexTok
import Derived.Test.YtaklmocjaokkpaaGreatDoorLexWordPlain
namespace Go.Proofs.YtaklmocjaokkpaaGreatDoor.Lx
set_option linter.unusedVariables false
set_option linter.unusedSimpArgs false
open Go.RowKit Go.Proofs.YtaklmocjaokkpaaGreatDoor.Mem

theorem wtoks_no {s : List UInt8} : ∀ {k p : Nat} {l : List Tok} {x n : Nat}, toks s k p l = .error (x, n) → ((n : Int) == 0) = false := by
  intro k
  induction k with
  | zero => intro p l x n h; cases h
  | succ k ih =>
    intro p l x n h
    by_cases hlt : p < s.length
    · rcases hn : nextR s p with ⟨a, b⟩ | ⟨t, q⟩
      · rw [toks_err hlt hn] at h; cases h; exact next_err hn
      · rw [toks_step hlt hn] at h; exact ih h
    · rw [toks_end hlt] at h; cases h
theorem wtokens_no {s : List UInt8} {x n : Nat} (h : tokens s = .error (x, n)) : ((n : Int) == 0) = false := by
  unfold tokens at h
  split at h
  · cases h; rfl
  · exact wtoks_no h

set_option maxRecDepth 100000 in
set_option maxHeartbeats 1000000 in
theorem lword_calls (s : ByteArray) (w : World) (hg : Glob w) :
    Calls Tryz.prog 108 #[.string s] w fun e w' => e = .returned (.bool (wordB s.data.toList)) ∧ Below w.heap.size w w' := by
  rcases ht : tokens s.data.toList with ⟨p, n⟩ | l
  · have H1 := Lib.hid (tokens_err s w hg p n ht)
    have hn : ((n : Int) == 0) = false := wtokens_no ht
    rw [word_of_err ht]
    clear ht hg
    go_enter Tryz.func108, Tryz.ntmps108
    go_wp2_with fail
    refine H1.out.mono ?_
    rintro e w1 ⟨rfl, hb1⟩
    have HB1 := Lib.hid hb1
    clear hb1
    go_wp2_with fail
    go_ret
    exact ⟨rfl, HB1.out⟩
  · have H1 := Lib.hid (tokens_ok s w hg l ht)
    rw [← word_of_tokens ht]
    clear ht hg
    match l, H1 with
    | [], H1 =>
      go_enter Tryz.func108, Tryz.ntmps108
      go_wp2_with fail
      refine H1.out.mono ?_
      rintro e w1 ⟨⟨v, rfl, ho⟩, hb1⟩
      obtain ⟨a, c, rfl⟩ := zero_form ho
      have HB1 := Lib.hid hb1
      clear hb1 ho
      go_wp2_with fail
      go_ret
      exact ⟨rfl, HB1.out⟩
    | [t], H1 =>
      obtain ⟨kd, ss, nn, p⟩ := t
      go_enter Tryz.func108, Tryz.ntmps108
      go_wp2_with fail
      refine H1.out.mono ?_
      rintro e w1 ⟨⟨v, rfl, ho⟩, hb1⟩
      obtain ⟨g, cap, rfl, _, _⟩ := ho.form (by simp)
      have c0 : w1.cell? ⟨g, 0, none⟩ = some (.int .u8 kd) := row_cell ho rfl 0 0 (by simp) (by decide)
      have c1 : w1.cell? ⟨g, 1, none⟩ = some (.string ⟨ss.toArray⟩) := row_cell ho rfl 0 1 (by simp) (by decide)
      have HB1 := Lib.hid hb1
      clear hb1 ho H1
      by_cases hk : kd = 3
      · subst hk
        by_cases hs : ss = s.data.toList
        · have hs2 : (⟨ss.toArray⟩ : ByteArray) = s := by rw [hs]
          rw [hs2] at c1
          go_wp2_with fail
          go_ret
          exact ⟨by simp [oneWord, hs], HB1.out⟩
        · have hs3 : ¬ ss = s.toList := by rw [ByteArray.toList_eq]; exact hs
          have hs4 : ¬ (⟨ss.toArray⟩ : ByteArray).toList = s.toList := by rw [ByteArray.toList_eq, ByteArray.toList_eq]; simpa using hs
          go_wp2_with fail
          all_goals (go_ret; exact ⟨by simp [oneWord, ByteArray.toList_eq], HB1.out⟩)
      · have hk2 : ((kd : Int) == 3) = false := by rw [beq_eq_false_iff_ne]; omega
        go_wp2_with fail
        go_ret
        exact ⟨by simp [oneWord, hk], HB1.out⟩
    | a :: b :: r, H1 =>
      have hl2 : ((((a :: b :: r).length : Nat) : Int) == 1) = false := by rw [beq_eq_false_iff_ne]; simp; omega
      have ho1 : oneWord s.data.toList (a :: b :: r) = false := rfl
      rw [ho1]
      have hpos : 0 < (a :: b :: r).length := by simp
      generalize a :: b :: r = l at *
      go_enter Tryz.func108, Tryz.ntmps108
      go_wp2_with fail
      refine H1.out.mono ?_
      rintro e w1 ⟨⟨v, rfl, ho⟩, hb1⟩
      obtain ⟨g, cap, rfl, _, _⟩ := ho.form hpos
      have HB1 := Lib.hid hb1
      clear hb1 ho H1
      go_wp2_with fail
      go_ret
      exact ⟨rfl, HB1.out⟩
end Go.Proofs.YtaklmocjaokkpaaGreatDoor.Lx
