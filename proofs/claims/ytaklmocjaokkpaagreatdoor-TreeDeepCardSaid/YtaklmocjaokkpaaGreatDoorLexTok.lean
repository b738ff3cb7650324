/- The program's Tokens, as the plain tokens have it: its list, or its error. Condition: the two errors of strconv hold interface values. -/
import Derived.Test.YtaklmocjaokkpaaGreatDoorLexWalk10
namespace Go.Proofs.YtaklmocjaokkpaaGreatDoor.Lx
open Go.RowKit Go.Proofs.YtaklmocjaokkpaaGreatDoor.Mem

theorem tokens_ok (s : ByteArray) (w : World) (hg : Glob w) (l : List Tok) (h : tokens s.data.toList = .ok l) :
    Calls Tryz.prog 47 #[.string s] w fun e w' => (∃ v, e = .returned (.tuple #[v, .int .i64 0, .int .i64 0]) ∧ w'.ownsRow w.heap.size 104 4 v l.length (l.flatMap tokCells)) ∧ Below w.heap.size w w' := by
  have := tokens_calls s w hg
  rw [h] at this
  exact this.mono fun e w' ⟨⟨v, h1, h2, h3⟩, h4⟩ => ⟨⟨v, h1, h2⟩, h4⟩
theorem tokens_err (s : ByteArray) (w : World) (hg : Glob w) (p n : Nat) (h : tokens s.data.toList = .error (p, n)) :
    Calls Tryz.prog 47 #[.string s] w fun e w' => e = .returned (.tuple #[.slice none 0 0, .int .i64 p, .int .i64 n]) ∧ Below w.heap.size w w' := by
  have := tokens_calls s w hg
  rw [h] at this
  exact this
theorem tokens_len (s : ByteArray) (l : List Tok) (h : tokens s.data.toList = .ok l) : s.size ≤ 65536 := by
  unfold tokens at h
  rw [len_is] at h
  split at h
  · cases h
  · omega
theorem Glob.below {B : Nat} {w w' : World} (h : Glob w) (hb : Below B w w') (h1 : 4 < B) (h2 : 5 < B) : Glob w' :=
  ⟨h.1.imp fun _ ⟨p, hp⟩ => ⟨p, (hb.cell (p := ⟨4, 0, none⟩) h1).trans hp⟩, h.2.imp fun _ ⟨p, hp⟩ => ⟨p, (hb.cell (p := ⟨5, 0, none⟩) h2).trans hp⟩⟩
theorem Glob.lt {w : World} (h : Glob w) : 4 < w.heap.size ∧ 5 < w.heap.size := by
  obtain ⟨⟨_, _, h1⟩, ⟨_, _, h2⟩⟩ := h
  exact ⟨World.block_lt_of_cell? w _ h1, World.block_lt_of_cell? w _ h2⟩
theorem Glob.later {w w' : World} (h : Glob w) (hb : Below w.heap.size w w') : Glob w' := h.below hb h.lt.1 h.lt.2

theorem flat_get (l : List Tok) (k i : Nat) (hk : k < l.length) (hi : i < 4) : (l.flatMap tokCells)[k * 4 + i]? = (tokCells l[k])[i]? := by
  induction l generalizing k with
  | nil => simp at hk
  | cons t l ih =>
    rw [List.flatMap_cons]
    cases k with
    | zero =>
      rw [List.getElem?_append_left (by show 0 * 4 + i < 4; omega), Nat.zero_mul, Nat.zero_add]
      rfl
    | succ k =>
      rw [List.getElem?_append_right (by show 4 ≤ (k + 1) * 4 + i; omega)]
      show (l.flatMap tokCells)[(k + 1) * 4 + i - 4]? = _
      rw [show (k + 1) * 4 + i - 4 = k * 4 + i by omega, ih k (by simpa using hk)]
      rfl

theorem row_cell {w : World} {base g n cap : Nat} {e : TypeId} {l : List Tok} (h : w.ownsRow base e 4 (.slice (some ⟨g, 0, none⟩) n cap) n (l.flatMap tokCells)) (hn : n = l.length) (k i : Nat) (hk : k < l.length) (hi : i < 4) :
    w.cell? ⟨g, k * 4 + i, none⟩ = (tokCells l[k])[i]? := by
  rw [h.cellAt (k * 4 + i) (by omega), flat_get l k i hk hi]

theorem zero_form {w : World} {base : Nat} {e : TypeId} {size : Nat} {v : Value} {xs : List Value} (h : w.ownsRow base e size v 0 xs) : ∃ a c, v = .slice a 0 c := by
  rcases h.2 with ⟨rfl, _⟩ | ⟨g, cap, cur, rfl, _⟩
  · exact ⟨_, _, rfl⟩
  · exact ⟨_, _, rfl⟩

theorem esc_err {s : List UInt8} {p x n : Nat} (h : esc s p = .error (x, n)) : n = 10 ∨ n = 11 := by
  have hx : ∀ {q x n : Nat}, hexAt s q = .error (x, n) → n = 10 ∨ n = 11 := by
    intro q x n h
    unfold hexAt at h
    rcases hc : s[q]? with _ | c
    · rw [hc] at h; cases h; exact .inr rfl
    · rw [hc] at h
      simp only [] at h
      rcases hd : hexv c.toNat with _ | d
      · rw [hd] at h; cases h; exact .inl rfl
      · rw [hd] at h; cases h
  unfold esc at h
  rcases hc : s[p]? with _ | c
  · rw [hc] at h; cases h; exact .inr rfl
  · rw [hc] at h
    simp only [] at h
    split at h
    · cases h
    · split at h
      · cases h
      · split at h
        · rcases h1 : hexAt s (p + 1) with ⟨x1, n1⟩ | x1
          · rw [h1] at h; cases h; exact hx h1
          · rw [h1] at h
            simp only [] at h
            rcases h2 : hexAt s (p + 2) with ⟨x2, n2⟩ | x2
            · rw [h2] at h; cases h; exact hx h2
            · rw [h2] at h; cases h
        · cases h; exact .inl rfl
theorem text_err {s : List UInt8} : ∀ {k p x n : Nat} {out : List UInt8}, text s k p out = .error (x, n) → n = 10 ∨ n = 11 := by
  intro k
  induction k with
  | zero => intro p x n out h; cases h; exact .inr rfl
  | succ k ih =>
    intro p x n out h
    rw [text] at h
    rcases hc : s[p]? with _ | c
    · rw [hc] at h; cases h; exact .inr rfl
    · rw [hc] at h
      simp only [] at h
      split at h
      · cases h
      · split at h
        · rcases he : esc s (p + 1) with ⟨x1, n1⟩ | ⟨b, q⟩
          · rw [he] at h; cases h; exact esc_err he
          · rw [he] at h; exact ih h
        · exact ih h
theorem wend_err {s : List UInt8} : ∀ {k p x n : Nat}, wordEnd s k p = .error (x, n) → n = 10 := by
  intro k
  induction k with
  | zero => intro p x n h; cases h
  | succ k ih =>
    intro p x n h
    rw [wordEnd] at h
    rcases hc : s[p]? with _ | c
    · rw [hc] at h; cases h
    · rw [hc] at h
      simp only [] at h
      split at h
      · cases h
      · split at h
        · cases h; rfl
        · exact ih h
theorem wtok_err {w : List UInt8} {p x n : Nat} (h : wordTok w p = .error (x, n)) : n = 10 := by
  unfold wordTok at h
  split at h
  · split at h
    · cases h
    · cases h; rfl
  · cases h
theorem next_err {s : List UInt8} {p x n : Nat} (h : nextR s p = .error (x, n)) : ((n : Int) == 0) = false := by
  have : n = 10 ∨ n = 11 := by
    unfold nextR next at h
    rcases hc : s[p]? with _ | c
    · rw [hc] at h; cases h
    · rw [hc] at h
      simp only [] at h
      split at h
      · first
          | (cases h; done)
          | (rename_i h1; repeat' (first | (cases h1; done) | (cases h; done) | split at h1))
      · rename_i h1
        cases h
        split at h1 <;> try cases h1
        split at h1 <;> try cases h1
        split at h1 <;> try cases h1
        split at h1 <;> try cases h1
        split at h1
        · rcases ht : text s (s.length + 1) (p + 1) [] with ⟨x1, n1⟩ | ⟨o, q⟩
          · rw [ht] at h1; cases h1; exact text_err ht
          · rw [ht] at h1; cases h1
        · rcases ht : wordEnd s (s.length + 1) p with ⟨x1, n1⟩ | q
          · rw [ht] at h1; cases h1; exact .inl (wend_err ht)
          · rw [ht] at h1
            simp only [] at h1
            rcases hw : wordTok ((s.drop p).take (q - p)) p with ⟨x1, n1⟩ | t
            · rw [hw] at h1; cases h1; exact .inl (wtok_err hw)
            · rw [hw] at h1; cases h1
  rw [beq_eq_false_iff_ne]; omega
end Go.Proofs.YtaklmocjaokkpaaGreatDoor.Lx
