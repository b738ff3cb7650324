/- The reference's Tokens, walked: for every source its tokens, or the place and the error. No condition. -/
import Derived.Test.YtkidnmjaioejaabDoorLexRef4
import Derived.Lib.IndexLaws
set_option linter.unusedSimpArgs false
namespace Go.Proofs.YtkidnmjaioejaabDoor.Lx
set_option linter.unusedVariables false
set_option linter.unusedSimpArgs false
open Go.RowKit Go.Proofs.YtkidnmjaioejaabDoor.Mem

/-- How the reference's Tokens ends. -/
def RSrcEnds (s : ByteArray) (w : World) (r : Except (Nat × Nat) (List Tok)) (e : Ending) (w' : World) : Prop :=
  match r with
  | .ok l => (∃ v, e = .returned (.tuple #[v, .int .i64 0, .int .i64 0]) ∧ w'.ownsRow w.heap.size 33 4 v l.length (l.flatMap tokCells) ∧ l.length ≤ s.size) ∧ Below w.heap.size w w'
  | .error (p, n) => (∃ v, e = .returned (.tuple #[v, .int .i64 p, .int .i64 n]) ∧ w'.ownsRow w.heap.size 33 4 v 0 []) ∧ Below w.heap.size w w'

theorem note_is {s : List UInt8} {p j : Nat} (hpj : p ≤ j) (hj : j ≤ s.length) (h1 : ∀ m, p ≤ m → m < j → s[m]? ≠ some 10) (h2 : j = s.length ∨ s[j]? = some 10) : noteEnd s p = j := by
  unfold noteEnd
  simp only []
  have hg := Lib.indexByte_ge (s.drop p) 10
  by_cases h : Lib.indexByte (s.drop p) 10 = -1
  · rw [h, if_neg (by decide)]
    rcases h2 with h2 | h2
    · exact h2.symm
    · have := Lib.indexByte_none h (j - p)
      rw [List.getElem?_drop, show p + (j - p) = j by omega] at this
      exact absurd h2 this
  · obtain ⟨o, ho⟩ : ∃ o : Nat, Lib.indexByte (s.drop p) 10 = o := ⟨(Lib.indexByte (s.drop p) 10).toNat, by omega⟩
    obtain ⟨k1, k2⟩ := Lib.indexByte_some ho
    rw [ho, if_pos (by omega), Int.toNat_natCast]
    rw [List.getElem?_drop] at k1
    rcases Nat.lt_trichotomy (p + o) j with h3 | h3 | h3
    · exact absurd k1 (h1 _ (by omega) h3)
    · exact h3
    · exfalso
      have hl : p + o < s.length := by
        rcases Nat.lt_or_ge (p + o) s.length with h4 | h4
        · exact h4
        · rw [List.getElem?_eq_none h4] at k1; cases k1
      rcases h2 with h2 | h2
      · omega
      · have := k2 (j - p) (by omega)
        rw [List.getElem?_drop, show p + (j - p) = j by omega] at this
        exact this h2

theorem chgR (W : World) (B : Nat) (x0 x1 x2 x3 x4 x5 : Value) :
    Chg (· = B) W ((((((W.setCell ⟨B, 0, none⟩ x0).setCell ⟨B, 1, none⟩ x1).setCell ⟨B, 2, none⟩ x2).setCell ⟨B, 3, none⟩ x3).setCell ⟨B, 4, none⟩ x4).setCell ⟨B, 5, none⟩ x5) :=
  ((((((Chg.refl (· = B) W).set (p := ⟨B, 0, none⟩) (fun _ => rfl) _).set (p := ⟨B, 1, none⟩) (fun _ => rfl) _).set (p := ⟨B, 2, none⟩) (fun _ => rfl) _).set (p := ⟨B, 3, none⟩) (fun _ => rfl) _).set (p := ⟨B, 4, none⟩) (fun _ => rfl) _).set (p := ⟨B, 5, none⟩) (fun _ => rfl) _
theorem esc_err {s : List UInt8} {p x n : Nat} (h : esc s p = .error (x, n)) : n = 10 ∨ n = 11 := by
  have hx : ∀ {q x n : Nat}, hexAt s q = .error (x, n) → n = 10 ∨ n = 11 := by
    intro q x n h
    unfold hexAt at h
    rcases hc : s[q]? with _ | c
    · rw [hc] at h; cases h; exact .inr rfl
    · rw [hc] at h
      simp only [] at h
      rcases hd : hexv c.toNat with _ | d
      · rw [hd] at h; cases h; exact .inl rfl
      · rw [hd] at h; cases h
  unfold esc at h
  rcases hc : s[p]? with _ | c
  · rw [hc] at h; cases h; exact .inr rfl
  · rw [hc] at h
    simp only [] at h
    split at h
    · cases h
    · split at h
      · cases h
      · split at h
        · rcases h1 : hexAt s (p + 1) with ⟨x1, n1⟩ | x1
          · rw [h1] at h; cases h; exact hx h1
          · rw [h1] at h
            simp only [] at h
            rcases h2 : hexAt s (p + 2) with ⟨x2, n2⟩ | x2
            · rw [h2] at h; cases h; exact hx h2
            · rw [h2] at h; cases h
        · cases h; exact .inl rfl
theorem text_err {s : List UInt8} : ∀ {k p x n : Nat} {out : List UInt8}, text s k p out = .error (x, n) → n = 10 ∨ n = 11 := by
  intro k
  induction k with
  | zero => intro p x n out h; cases h; exact .inr rfl
  | succ k ih =>
    intro p x n out h
    rw [text] at h
    rcases hc : s[p]? with _ | c
    · rw [hc] at h; cases h; exact .inr rfl
    · rw [hc] at h
      simp only [] at h
      split at h
      · cases h
      · split at h
        · rcases he : esc s (p + 1) with ⟨x1, n1⟩ | ⟨b, q⟩
          · rw [he] at h; cases h; exact esc_err he
          · rw [he] at h; exact ih h
        · exact ih h
theorem wend_err {s : List UInt8} : ∀ {k p x n : Nat}, wordEnd s k p = .error (x, n) → n = 10 := by
  intro k
  induction k with
  | zero => intro p x n h; cases h
  | succ k ih =>
    intro p x n h
    rw [wordEnd] at h
    rcases hc : s[p]? with _ | c
    · rw [hc] at h; cases h
    · rw [hc] at h
      simp only [] at h
      split at h
      · cases h
      · split at h
        · cases h; rfl
        · exact ih h
theorem wtok_err {w : List UInt8} {p x n : Nat} (h : wordTok w p = .error (x, n)) : n = 10 := by
  unfold wordTok at h
  split at h
  · split at h
    · cases h
    · cases h; rfl
  · cases h
theorem next_err {s : List UInt8} {p x n : Nat} (h : nextR s p = .error (x, n)) : ((n : Int) == 0) = false := by
  have : n = 10 ∨ n = 11 := by
    unfold nextR next at h
    rcases hc : s[p]? with _ | c
    · rw [hc] at h; cases h
    · rw [hc] at h
      simp only [] at h
      split at h
      · first
          | (cases h; done)
          | (rename_i h1; repeat' (first | (cases h1; done) | (cases h; done) | split at h1))
      · rename_i h1
        cases h
        split at h1 <;> try cases h1
        split at h1 <;> try cases h1
        split at h1 <;> try cases h1
        split at h1 <;> try cases h1
        split at h1
        · rcases ht : text s (s.length + 1) (p + 1) [] with ⟨x1, n1⟩ | ⟨o, q⟩
          · rw [ht] at h1; cases h1; exact text_err ht
          · rw [ht] at h1; cases h1
        · rcases ht : wordEnd s (s.length + 1) p with ⟨x1, n1⟩ | q
          · rw [ht] at h1; cases h1; exact .inl (wend_err ht)
          · rw [ht] at h1
            simp only [] at h1
            rcases hw : wordTok ((s.drop p).take (q - p)) p with ⟨x1, n1⟩ | t
            · rw [hw] at h1; cases h1; exact .inl (wtok_err hw)
            · rw [hw] at h1; cases h1
  rw [beq_eq_false_iff_ne]; omega
theorem new_at (w : World) (o : Obj) (B : Nat) (h : w.heap.size = B) : (w.alloc o).heap[B]? = some o := by
  subst h
  exact blk_new w o
theorem nextT {s : List UInt8} {p : Nat} (h : s[p]? = some 34) : nextR s p = match refT s p with | .ok (t, q) => .ok ([t], q) | .error x => .error x := by
  rw [next_text h]; unfold textR refT
  cases text s (s.length + 1) (p + 1) [] with
  | error x => rfl
  | ok y => rfl
theorem nextW {s : List UInt8} {p : Nat} {c : UInt8} (h : s[p]? = some c) (h1 : blank c = false) (h2 : c ≠ 59) (h3 : c ≠ 40) (h4 : c ≠ 41) (h5 : c ≠ 34) : nextR s p = match refW s p with | .ok (t, q) => .ok ([t], q) | .error x => .error x := by
  rw [next_word h h1 h2 h3 h4 h5]; unfold wordR refW
  cases wordEnd s (s.length + 1) p with
  | error x => rfl
  | ok q =>
    simp only []
    cases wordTok ((s.drop p).take (q - p)) p with
    | error x => rfl
    | ok t => rfl

set_option maxRecDepth 100000 in
set_option maxHeartbeats 8000000 in
theorem rtokens_calls (s : ByteArray) (w : World) :
    Calls Tryd.prog 11 #[.string s] w (RSrcEnds s w (tokens s.data.toList)) := by
  obtain ⟨iT, hj0, hy0, hy1, hy2⟩ := info_parts infoT
  by_cases hlong : 65536 < s.size
  · have HR : Hid (tokens s.data.toList = .error (65536, 13)) := by
      unfold tokens; rw [len_is, if_pos hlong]; rfl
    go_enter Tryd.func11, Tryd.ntmps11
    go_wp2_with fail
    go_ret3
    rw [HR.out]
    refine ⟨⟨_, rfl, ?_⟩, (Below.refl _ _).alloc (Nat.le_refl _) _⟩
    have := World.ownsRow_made (base := w.heap.size) (e := 33) (size := 4) w #[] 0 (Nat.le_refl _) (by decide) rfl
    exact this
  · have HR : Hid (tokens s.data.toList = toks s.data.toList (s.size + 1) 0 []) := by
      unfold tokens; rw [len_is, if_neg hlong]; rfl
    obtain ⟨R, hR⟩ : ∃ R, R = toks s.data.toList (s.size + 1) 0 [] := ⟨_, rfl⟩
    rw [← hR] at HR
    have HE := Lib.hid hR
    clear hR
    have hs : s.size ≤ 65536 := by omega
    go_enter Tryd.func11, Tryd.ntmps11
    go_wp2_with fail
    have b2 : (w.alloc (.cells #[] 33)).ownsRow w.heap.size 33 4 (.slice (some ⟨w.heap.size, 0, none⟩) 0 0) 0 [] := World.ownsRow_made w #[] 0 (Nat.le_refl _) (by decide) rfl
    have b0 : Below w.heap.size w (w.alloc (.cells #[] 33)) := (Below.refl _ _).alloc (Nat.le_refl _) _
    have z0 : w.heap.size ≤ (w.alloc (.cells #[] 33)).heap.size := b0.size
    generalize (w.alloc (.cells #[] 33)) = W0 at *
    obtain ⟨B, hB⟩ : ∃ B, B = w.heap.size := ⟨_, rfl⟩
    rw [← hB] at b0 b2 z0 ⊢
    have B0 := Lib.hid b0
    have B2 := Lib.hid b2
    have HW := Lib.hid hB
    clear b0 b2 hB
    go_loopg [5, 6] (s.size + 1) (fun k vo va wr => ∃ p l x, x = vo ∧ va = .int .i64 ((p : Nat) : Int) ∧ Hid (R = toks s.data.toList k p l) ∧ p ≤ s.size ∧ s.size < k + p ∧ l.length ≤ p ∧ Hid (wr.ownsRow B 33 4 x l.length (l.flatMap tokCells)) ∧ Hid (Below B w wr) ∧ B ≤ wr.heap.size)
    case atStart => exact ⟨0, [], _, rfl, rfl, HE, by omega, by omega, by simp, B2, B0, z0⟩
    case round =>
      obtain ⟨p, l, vo, rfl, rfl, hE, hp, hk, hl, hO, hC, hz⟩ := hrel
      by_cases hlt : p < s.size
      · have hat := at_get s p hlt
        obtain ⟨k, rfl⟩ : ∃ m, gk = m + 1 := ⟨gk - 1, by omega⟩
        obtain ⟨c, hc⟩ : ∃ c, s[p] = c := ⟨_, rfl⟩
        rw [hc] at hat
        have hpl : p < s.data.toList.length := by rw [len_is]; exact hlt
        have i0 : (0 : Int) ≤ (p : Int) := by omega
        have i1 : (p : Int) < (s.size : Int) := by omega
        cases hb : blank c with
        | true =>
          have HC : Hid (∀ w, Calls Tryd.prog 19 #[.int .u8 c.toNat] w fun e w' => e = .returned (.bool true) ∧ w' = w) := fun w => by
            have := rblank_calls c w; rw [hb] at this; exact this
          have HX : Hid (R = toks s.data.toList k (p + 1) l) := by
            rw [hE.out, toks_step hpl (next_blank hat hb), List.append_nil]; rfl
          clear hat hb
          go_wp2_with (go_at_call 19; refine (HC.out _).mono ?_; rintro e wr ⟨rfl, rfl⟩)
          go_roundg k
          case measure => omega
          case rel => exact ⟨p + 1, l, vo, rfl, by go_num, HX, by omega, by omega, by omega, hO, hC, hz⟩
        | false =>
          have HC : Hid (∀ w, Calls Tryd.prog 19 #[.int .u8 c.toNat] w fun e w' => e = .returned (.bool false) ∧ w' = w) := fun w => by
            have := rblank_calls c w; rw [hb] at this; exact this
          by_cases q59 : c = 59
          · have hN : nextR s.data.toList p = .ok ([], noteEnd s.data.toList p) := next_note (q59 ▸ hat)
            have hN2 := note_lt (q59 ▸ hat)
            rw [len_is] at hN2
            have HX : Hid (R = toks s.data.toList k (noteEnd s.data.toList p) l) := by
              rw [hE.out, toks_step hpl hN, List.append_nil]; rfl
            have n1 : 59 ≤ c.toNat ∧ c.toNat ≤ 59 := by subst q59; decide
            have HAT := Lib.hid (show s.data.toList[p]? ≠ some 10 by rw [hat, q59]; decide)
            clear hat hb q59 hN
            go_wp2_with (go_at_call 19; refine (HC.out _).mono ?_; rintro e wr ⟨rfl, rfl⟩)
            obtain ⟨wo, rfl⟩ : ∃ wo : World, wo = wr := ⟨_, rfl⟩
            go_loopg [6] (s.size + 1 - p) (fun g va wq => ∃ j, wo = wq ∧ va = .int .i64 ((j : Nat) : Int) ∧ p ≤ j ∧ j ≤ s.size ∧ s.size < g + j ∧ Hid (∀ m, p ≤ m → m < j → s.data.toList[m]? ≠ some 10))
            case atStart => exact ⟨p, rfl, rfl, by omega, by omega, by omega, fun m h1 h2 => by omega⟩
            case round =>
              obtain ⟨j, rfl, rfl, hpj, hj, hgj, hno⟩ := hrel
              by_cases hjl : j < s.size
              · obtain ⟨g, rfl⟩ : ∃ m, gk = m + 1 := ⟨gk - 1, by omega⟩
                have hatj := at_get s j hjl
                obtain ⟨d, hd⟩ : ∃ c, s[j] = c := ⟨_, rfl⟩
                rw [hd] at hatj
                by_cases q10 : d = 10
                · have HJ : Hid (noteEnd s.data.toList p = j) := note_is hpj (by rw [len_is]; omega) hno.out (.inr (by rw [hatj, q10]))
                  have n2 : 10 ≤ d.toNat ∧ d.toNat ≤ 10 := by subst q10; decide
                  clear hatj q10
                  go_wp2_with fail
                  go_roundg k
                  case measure => omega
                  case rel => exact ⟨j, l, vo, rfl, rfl, by have := HX; rw [HJ.out] at this; exact this, by omega, by have := HJ.out; omega, by omega, hO, hC, hz⟩
                · have n2 : d.toNat ≠ 10 := fun h => q10 (UInt8.toNat_inj.1 h)
                  have HN : Hid (∀ m, p ≤ m → m < j + 1 → s.data.toList[m]? ≠ some 10) := fun m h1 h2 => by
                    rcases Nat.lt_or_ge m j with h3 | h3
                    · exact hno.out m h1 h3
                    · obtain rfl : m = j := by omega
                      rw [hatj]; intro h; exact q10 (Option.some.inj h)
                  clear hatj q10
                  go_wp2_with fail
                  go_roundg g
                  case measure => omega
                  case rel => exact ⟨j + 1, rfl, by go_num, by omega, by omega, by omega, HN⟩
              · have HJ : Hid (noteEnd s.data.toList p = j) := note_is hpj (by rw [len_is]; omega) hno.out (.inl (by rw [len_is]; omega))
                have n2 : ¬ (j : Int) < (s.size : Int) := by omega
                go_wp2_with fail
                go_roundg k
                case measure => omega
                case rel => exact ⟨j, l, vo, rfl, rfl, by have := HX; rw [HJ.out] at this; exact this, by omega, by have := HJ.out; omega, by omega, hO, hC, hz⟩
          · by_cases q40 : c = 40
            · have HX : Hid (R = toks s.data.toList k (p + 1) (l ++ [⟨1, [], 0, p⟩])) := by
                rw [hE.out, toks_step hpl (next_open (q40 ▸ hat))]; rfl
              have n1 : 40 ≤ c.toNat ∧ c.toNat ≤ 40 := by subst q40; decide
              clear hat hb q59 q40
              go_wp2_with (first | (go_at_call 19; refine (HC.out _).mono ?_; rintro e wr ⟨rfl, rfl⟩) | (at_builtin; refine wpList_append_own _ rfl _ _ 23 rfl B 33 iT _ 4 40 Tryd.underlying23 hj0 hy0 hy1 hy2 rfl (by decide) _ _ _ rfl (World.ownsRow.alloc (World.ownsRow.alloc hO.out _) _) ⟨wr.heap.size + 1, 0, none⟩ 1 1 (tokCells (⟨1, [], 0, p⟩ : Tok)) rfl rfl ?b401 ?b402 ?b403 ?b404 ?b405 ?_))
              case b401 => exact World.news_of_block (new_at _ _ _ (by simp))
              case b402 => intro u hu; simp [tokCells] at hu; rcases hu with rfl | rfl | rfl | rfl <;> rfl
              case b403 => unfold maxLen; omega
              case b404 => omega
              case b405 => simp; omega
              intro v' w1 hown' hgrow _
              have G2 : Hid (Below B w w1) := ((hC.out.alloc (by omega) _).alloc (by simp; omega) _).grown hgrow (by simp; omega) (fun k hk => (World.ownsRow.lt hO.out k hk).1)
              have G3 : B ≤ w1.heap.size := Nat.le_trans (by simp; omega) hgrow.size
              have G1 : Hid (w1.ownsRow B 33 4 v' (l ++ [(⟨1, [], 0, p⟩ : Tok)]).length ((l ++ [(⟨1, [], 0, p⟩ : Tok)]).flatMap tokCells)) := by
                rw [List.length_append, List.flatMap_append]
                have := hown'
                simp only [List.length_cons, List.length_nil, List.flatMap_cons, List.flatMap_nil, List.append_nil] at this ⊢
                exact this
              have hbr := blk_grown hgrow (blk_alloc (blk_new wr _) _) (fun e => by have := (World.ownsRow.lt hO.out _ e.symm).2; omega)
              have q4 := cell_of hbr 4
              simp only [List.getElem?_toArray, List.getElem?_cons_zero, List.getElem?_cons_succ] at q4
              clear hown' hgrow hbr
              go_wp2_with fail
              go_roundg k
              case measure => omega
              case rel => exact ⟨p + 1, l ++ [(⟨1, [], 0, p⟩ : Tok)], v', rfl, by go_num, HX, by omega, by omega, by simp; omega, G1, G2, G3⟩
            by_cases q41 : c = 41
            · have HX : Hid (R = toks s.data.toList k (p + 1) (l ++ [⟨2, [], 0, p⟩])) := by
                rw [hE.out, toks_step hpl (next_close (q41 ▸ hat))]; rfl
              have n1 : 41 ≤ c.toNat ∧ c.toNat ≤ 41 := by subst q41; decide
              clear hat hb q59 q41
              go_wp2_with (first | (go_at_call 19; refine (HC.out _).mono ?_; rintro e wr ⟨rfl, rfl⟩) | (at_builtin; refine wpList_append_own _ rfl _ _ 23 rfl B 33 iT _ 4 40 Tryd.underlying23 hj0 hy0 hy1 hy2 rfl (by decide) _ _ _ rfl (World.ownsRow.alloc (World.ownsRow.alloc hO.out _) _) ⟨wr.heap.size + 1, 0, none⟩ 1 1 (tokCells (⟨2, [], 0, p⟩ : Tok)) rfl rfl ?b411 ?b412 ?b413 ?b414 ?b415 ?_))
              case b411 => exact World.news_of_block (new_at _ _ _ (by simp))
              case b412 => intro u hu; simp [tokCells] at hu; rcases hu with rfl | rfl | rfl | rfl <;> rfl
              case b413 => unfold maxLen; omega
              case b414 => omega
              case b415 => simp; omega
              intro v' w1 hown' hgrow _
              have G2 : Hid (Below B w w1) := ((hC.out.alloc (by omega) _).alloc (by simp; omega) _).grown hgrow (by simp; omega) (fun k hk => (World.ownsRow.lt hO.out k hk).1)
              have G3 : B ≤ w1.heap.size := Nat.le_trans (by simp; omega) hgrow.size
              have G1 : Hid (w1.ownsRow B 33 4 v' (l ++ [(⟨2, [], 0, p⟩ : Tok)]).length ((l ++ [(⟨2, [], 0, p⟩ : Tok)]).flatMap tokCells)) := by
                rw [List.length_append, List.flatMap_append]
                have := hown'
                simp only [List.length_cons, List.length_nil, List.flatMap_cons, List.flatMap_nil, List.append_nil] at this ⊢
                exact this
              have hbr := blk_grown hgrow (blk_alloc (blk_new wr _) _) (fun e => by have := (World.ownsRow.lt hO.out _ e.symm).2; omega)
              have q4 := cell_of hbr 4
              simp only [List.getElem?_toArray, List.getElem?_cons_zero, List.getElem?_cons_succ] at q4
              clear hown' hgrow hbr
              go_wp2_with fail
              go_roundg k
              case measure => omega
              case rel => exact ⟨p + 1, l ++ [(⟨2, [], 0, p⟩ : Tok)], v', rfl, by go_num, HX, by omega, by omega, by simp; omega, G1, G2, G3⟩
            by_cases q34 : c = 34
            · have n1 : 34 ≤ c.toNat ∧ c.toNat ≤ 34 := by subst q34; decide
              have hN := nextT (q34 ▸ hat)
              rcases hr : refT s.data.toList p with ⟨x, n⟩ | ⟨t, q⟩
              · rw [hr] at hN
                have HX : Hid (R = .error (x, n)) := by rw [hE.out, toks_err hpl hN]; rfl
                have hn0 : ((n : Int) == 0) = false := next_err hN
                have hn1 : ((n : Int) != 0) = true := by rw [bne, hn0]; rfl
                have HT : Hid (∀ w, Calls Tryd.prog 20 #[.string s, .int .i64 p] w fun e w' => e = .returned (.agg #[.int .u8 0, .string ⟨#[]⟩, .int .i64 0, .int .i64 0, .int .i64 x, .int .i64 n]) ∧ Below w.heap.size w w') := fun w => by
                  have := rtext_calls s p w hs hlt; rw [hr] at this; exact this
                clear hat hb q59 q40 q41 q34 hN hr
                go_wp2_with (go_at_call 19; refine (HC.out _).mono ?_; rintro e wr ⟨rfl, rfl⟩)
                refine (HT.out _).mono ?_
                rintro e w1 ⟨rfl, hb1⟩
                have hz1 : w1.heap[wr.heap.size]? = some (.cells zeroR 45 (0, 0)) := blk_below hb1 (blk_new wr _) (by simp)
                have c0 := cell_of hz1 0
                have c1 := cell_of hz1 1
                have c2 := cell_of hz1 2
                have c3 := cell_of hz1 3
                have c4 := cell_of hz1 4
                have c5 := cell_of hz1 5
                have f0 := free_of hz1 0
                have f1 := free_of hz1 1
                have f2 := free_of hz1 2
                have f3 := free_of hz1 3
                have f4 := free_of hz1 4
                have f5 := free_of hz1 5
                simp only [zeroR, List.getElem?_toArray, List.getElem?_cons_zero, List.getElem?_cons_succ] at c0 c1 c2 c3 c4 c5
                have K1 : Hid (Below B w w1) := (hC.out.alloc (by omega) _).trans (hb1.mono (by simp; omega))
                have HB1 := Lib.hid hb1
                have HZ := Lib.hid hz1
                have z1 : wr.heap.size + 1 ≤ w1.heap.size := by have := hb1.size; simpa using this
                clear hb1 hz1
                go_wp2_with fail
                have hz2 := endR HZ.out (.int .u8 0) (.string ⟨#[]⟩) (.int .i64 0) (.int .i64 0) (.int .i64 x) (.int .i64 n)
                have hb2 := belowR (B := wr.heap.size) ((Below.refl wr.heap.size w1)) (.int .u8 0) (.string ⟨#[]⟩) (.int .i64 0) (.int .i64 0) (.int .i64 x) (.int .i64 n)
                clear c0 c1 c2 c3 c4 c5 f0 f1 f2 f3 f4 f5
                generalize ((((((w1.setCell ⟨wr.heap.size, 0, none⟩ (.int .u8 0)).setCell ⟨wr.heap.size, 1, none⟩ (.string ⟨#[]⟩)).setCell ⟨wr.heap.size, 2, none⟩ (.int .i64 0)).setCell ⟨wr.heap.size, 3, none⟩ (.int .i64 0)).setCell ⟨wr.heap.size, 4, none⟩ (.int .i64 x)).setCell ⟨wr.heap.size, 5, none⟩ (.int .i64 n)) = W2 at *
                have c4 := cell_of hz2 4
                have c5 := cell_of hz2 5
                simp only [List.getElem?_toArray, List.getElem?_cons_zero, List.getElem?_cons_succ] at c4 c5
                have l4 := lt_of_block hz2
                have HB2 := Lib.hid hb2
                clear hz2 hb2
                go_region
                all_goals go_wp2_with fail
                go_ret3
                rw [HR.out, HX.out]
                have hle : B ≤ W2.heap.size := by have := HB2.out.size; omega
                refine ⟨⟨_, rfl, ?_⟩, ?_⟩
                · rw [← HW.out]; exact World.ownsRow_made (base := B) (e := 33) (size := 4) W2 #[] 0 hle (by decide) rfl
                · rw [← HW.out]; exact ((K1.out.trans (HB2.out.mono hz)).alloc hle (.cells #[] 33)).drew
              · rw [hr] at hN
                have hq := next_lt hpl hN
                rw [len_is] at hq
                have HX : Hid (R = toks s.data.toList k q (l ++ [t])) := by rw [hE.out, toks_step hpl hN]; rfl
                have HT : Hid (∀ w, Calls Tryd.prog 20 #[.string s, .int .i64 p] w fun e w' => e = .returned (.agg #[.int .u8 t.kind, .string ⟨t.s.toArray⟩, .int .i64 t.n, .int .i64 t.at_, .int .i64 q, .int .i64 0]) ∧ Below w.heap.size w w') := fun w => by
                  have := rtext_calls s p w hs hlt; rw [hr] at this; exact this
                clear hat hb q59 q40 q41 q34 hN hr
                go_wp2_with (go_at_call 19; refine (HC.out _).mono ?_; rintro e wr ⟨rfl, rfl⟩)
                refine (HT.out _).mono ?_
                rintro e w1 ⟨rfl, hb1⟩
                have hz1 : w1.heap[wr.heap.size]? = some (.cells zeroR 45 (0, 0)) := blk_below hb1 (blk_new wr _) (by simp)
                have c0 := cell_of hz1 0
                have c1 := cell_of hz1 1
                have c2 := cell_of hz1 2
                have c3 := cell_of hz1 3
                have c4 := cell_of hz1 4
                have c5 := cell_of hz1 5
                have f0 := free_of hz1 0
                have f1 := free_of hz1 1
                have f2 := free_of hz1 2
                have f3 := free_of hz1 3
                have f4 := free_of hz1 4
                have f5 := free_of hz1 5
                simp only [zeroR, List.getElem?_toArray, List.getElem?_cons_zero, List.getElem?_cons_succ] at c0 c1 c2 c3 c4 c5
                have K1 : Hid (Below B w w1) := (hC.out.alloc (by omega) _).trans (hb1.mono (by simp; omega))
                have HB1 := Lib.hid hb1
                have HZ := Lib.hid hz1
                have z1 : wr.heap.size + 1 ≤ w1.heap.size := by have := hb1.size; simpa using this
                clear hb1 hz1
                have O1 : Hid (w1.ownsRow B 33 4 vo l.length (l.flatMap tokCells)) := Chg.owns (F := fun _ => False) ((Chg.refl _ _).callee HB1.out) (World.ownsRow.alloc hO.out _) (fun _ _ h => h)
                have NB : Hid (∀ k, vo.ownBlock = some k → ¬ k = wr.heap.size) := fun k hk e => by have := (World.ownsRow.lt hO.out k hk).2; omega
                go_wp2_with (at_builtin; refine wpList_append_own _ rfl _ _ 23 rfl B 33 iT _ 4 40 Tryd.underlying23 hj0 hy0 hy1 hy2 rfl (by decide) _ _ _ rfl (World.ownsRow.alloc (Chg.owns (chgR _ _ _ _ _ _ _ _) O1.out NB.out) _) ⟨w1.heap.size, 0, none⟩ 1 1 (tokCells t) rfl rfl ?t11 ?t12 ?t13 ?t14 ?t15 ?_)
                case t11 => exact World.news_of_block (new_at _ _ _ (by simp [World.setCell]))
                case t12 => intro u hu; simp [tokCells] at hu; rcases hu with rfl | rfl | rfl | rfl <;> rfl
                case t13 => unfold maxLen; omega
                case t14 => omega
                case t15 => simp [World.setCell]; omega
                intro v' w2 hown' hgrow _
                have G2 : Hid (Below B w w2) := ((belowR (B := wr.heap.size) (Below.refl wr.heap.size w1) _ _ _ _ _ _).mono hz |> K1.out.trans).alloc (by simp [World.setCell]; omega) _ |>.grown hgrow (by simp [World.setCell]; omega) (fun k hk => (World.ownsRow.lt O1.out k hk).1)
                have G3 : B ≤ w2.heap.size := Nat.le_trans (by simp [World.setCell]; omega) hgrow.size
                have G1 : Hid (w2.ownsRow B 33 4 v' (l ++ [t]).length ((l ++ [t]).flatMap tokCells)) := by
                  rw [List.length_append, List.flatMap_append]
                  have := hown'
                  simp only [List.length_cons, List.length_nil, List.flatMap_cons, List.flatMap_nil, List.append_nil] at this ⊢
                  exact this
                have hbr := blk_grown hgrow (blk_alloc (endR HZ.out _ _ _ _ _ _) _) (fun e => NB.out _ e.symm rfl)
                have q4 := cell_of hbr 4
                simp only [List.getElem?_toArray, List.getElem?_cons_zero, List.getElem?_cons_succ] at q4
                clear hown' hgrow hbr c0 c1 c2 c3 c4 c5 f0 f1 f2 f3 f4 f5
                go_wp2_with fail
                go_roundg k
                case measure => omega
                case rel => exact ⟨q, l ++ [t], v', rfl, by go_num, HX, by omega, by omega, by simp; omega, G1, G2, G3⟩
            have m59 : c.toNat ≠ 59 := fun h => q59 (UInt8.toNat_inj.1 h)
            have m40 : c.toNat ≠ 40 := fun h => q40 (UInt8.toNat_inj.1 h)
            have m41 : c.toNat ≠ 41 := fun h => q41 (UInt8.toNat_inj.1 h)
            have m34 : c.toNat ≠ 34 := fun h => q34 (UInt8.toNat_inj.1 h)
            have hN := nextW hat hb q59 q40 q41 q34
            rcases hr : refW s.data.toList p with ⟨x, n⟩ | ⟨t, q⟩
            · rw [hr] at hN
              have HX : Hid (R = .error (x, n)) := by rw [hE.out, toks_err hpl hN]; rfl
              have hn0 : ((n : Int) == 0) = false := next_err hN
              have hn1 : ((n : Int) != 0) = true := by rw [bne, hn0]; rfl
              have HT : Hid (∀ w, Calls Tryd.prog 21 #[.string s, .int .i64 p] w fun e w' => e = .returned (.agg #[.int .u8 0, .string ⟨#[]⟩, .int .i64 0, .int .i64 0, .int .i64 x, .int .i64 n]) ∧ Below w.heap.size w w') := fun w => by
                have := rword_calls s p w hs hlt; rw [hr] at this; exact this
              clear hat hb q59 q40 q41 q34 hN hr
              go_wp2_with (go_at_call 19; refine (HC.out _).mono ?_; rintro e wr ⟨rfl, rfl⟩)
              refine (HT.out _).mono ?_
              rintro e w1 ⟨rfl, hb1⟩
              have hz1 : w1.heap[wr.heap.size]? = some (.cells zeroR 45 (0, 0)) := blk_below hb1 (blk_new wr _) (by simp)
              have c0 := cell_of hz1 0
              have c1 := cell_of hz1 1
              have c2 := cell_of hz1 2
              have c3 := cell_of hz1 3
              have c4 := cell_of hz1 4
              have c5 := cell_of hz1 5
              have f0 := free_of hz1 0
              have f1 := free_of hz1 1
              have f2 := free_of hz1 2
              have f3 := free_of hz1 3
              have f4 := free_of hz1 4
              have f5 := free_of hz1 5
              simp only [zeroR, List.getElem?_toArray, List.getElem?_cons_zero, List.getElem?_cons_succ] at c0 c1 c2 c3 c4 c5
              have K1 : Hid (Below B w w1) := (hC.out.alloc (by omega) _).trans (hb1.mono (by simp; omega))
              have HB1 := Lib.hid hb1
              have HZ := Lib.hid hz1
              have z1 : wr.heap.size + 1 ≤ w1.heap.size := by have := hb1.size; simpa using this
              clear hb1 hz1
              go_wp2_with fail
              have hz2 := endR HZ.out (.int .u8 0) (.string ⟨#[]⟩) (.int .i64 0) (.int .i64 0) (.int .i64 x) (.int .i64 n)
              have hb2 := belowR (B := wr.heap.size) ((Below.refl wr.heap.size w1)) (.int .u8 0) (.string ⟨#[]⟩) (.int .i64 0) (.int .i64 0) (.int .i64 x) (.int .i64 n)
              clear c0 c1 c2 c3 c4 c5 f0 f1 f2 f3 f4 f5
              generalize ((((((w1.setCell ⟨wr.heap.size, 0, none⟩ (.int .u8 0)).setCell ⟨wr.heap.size, 1, none⟩ (.string ⟨#[]⟩)).setCell ⟨wr.heap.size, 2, none⟩ (.int .i64 0)).setCell ⟨wr.heap.size, 3, none⟩ (.int .i64 0)).setCell ⟨wr.heap.size, 4, none⟩ (.int .i64 x)).setCell ⟨wr.heap.size, 5, none⟩ (.int .i64 n)) = W2 at *
              have c4 := cell_of hz2 4
              have c5 := cell_of hz2 5
              simp only [List.getElem?_toArray, List.getElem?_cons_zero, List.getElem?_cons_succ] at c4 c5
              have l4 := lt_of_block hz2
              have HB2 := Lib.hid hb2
              clear hz2 hb2
              go_region
              all_goals go_wp2_with fail
              go_ret3
              rw [HR.out, HX.out]
              have hle : B ≤ W2.heap.size := by have := HB2.out.size; omega
              refine ⟨⟨_, rfl, ?_⟩, ?_⟩
              · rw [← HW.out]; exact World.ownsRow_made (base := B) (e := 33) (size := 4) W2 #[] 0 hle (by decide) rfl
              · rw [← HW.out]; exact ((K1.out.trans (HB2.out.mono hz)).alloc hle (.cells #[] 33)).drew
            · rw [hr] at hN
              have hq := next_lt hpl hN
              rw [len_is] at hq
              have HX : Hid (R = toks s.data.toList k q (l ++ [t])) := by rw [hE.out, toks_step hpl hN]; rfl
              have HT : Hid (∀ w, Calls Tryd.prog 21 #[.string s, .int .i64 p] w fun e w' => e = .returned (.agg #[.int .u8 t.kind, .string ⟨t.s.toArray⟩, .int .i64 t.n, .int .i64 t.at_, .int .i64 q, .int .i64 0]) ∧ Below w.heap.size w w') := fun w => by
                have := rword_calls s p w hs hlt; rw [hr] at this; exact this
              clear hat hb q59 q40 q41 q34 hN hr
              go_wp2_with (go_at_call 19; refine (HC.out _).mono ?_; rintro e wr ⟨rfl, rfl⟩)
              refine (HT.out _).mono ?_
              rintro e w1 ⟨rfl, hb1⟩
              have hz1 : w1.heap[wr.heap.size]? = some (.cells zeroR 45 (0, 0)) := blk_below hb1 (blk_new wr _) (by simp)
              have c0 := cell_of hz1 0
              have c1 := cell_of hz1 1
              have c2 := cell_of hz1 2
              have c3 := cell_of hz1 3
              have c4 := cell_of hz1 4
              have c5 := cell_of hz1 5
              have f0 := free_of hz1 0
              have f1 := free_of hz1 1
              have f2 := free_of hz1 2
              have f3 := free_of hz1 3
              have f4 := free_of hz1 4
              have f5 := free_of hz1 5
              simp only [zeroR, List.getElem?_toArray, List.getElem?_cons_zero, List.getElem?_cons_succ] at c0 c1 c2 c3 c4 c5
              have K1 : Hid (Below B w w1) := (hC.out.alloc (by omega) _).trans (hb1.mono (by simp; omega))
              have HB1 := Lib.hid hb1
              have HZ := Lib.hid hz1
              have z1 : wr.heap.size + 1 ≤ w1.heap.size := by have := hb1.size; simpa using this
              clear hb1 hz1
              have O1 : Hid (w1.ownsRow B 33 4 vo l.length (l.flatMap tokCells)) := Chg.owns (F := fun _ => False) ((Chg.refl _ _).callee HB1.out) (World.ownsRow.alloc hO.out _) (fun _ _ h => h)
              have NB : Hid (∀ k, vo.ownBlock = some k → ¬ k = wr.heap.size) := fun k hk e => by have := (World.ownsRow.lt hO.out k hk).2; omega
              go_wp2_with (at_builtin; refine wpList_append_own _ rfl _ _ 23 rfl B 33 iT _ 4 40 Tryd.underlying23 hj0 hy0 hy1 hy2 rfl (by decide) _ _ _ rfl (World.ownsRow.alloc (Chg.owns (chgR _ _ _ _ _ _ _ _) O1.out NB.out) _) ⟨w1.heap.size, 0, none⟩ 1 1 (tokCells t) rfl rfl ?t21 ?t22 ?t23 ?t24 ?t25 ?_)
              case t21 => exact World.news_of_block (new_at _ _ _ (by simp [World.setCell]))
              case t22 => intro u hu; simp [tokCells] at hu; rcases hu with rfl | rfl | rfl | rfl <;> rfl
              case t23 => unfold maxLen; omega
              case t24 => omega
              case t25 => simp [World.setCell]; omega
              intro v' w2 hown' hgrow _
              have G2 : Hid (Below B w w2) := ((belowR (B := wr.heap.size) (Below.refl wr.heap.size w1) _ _ _ _ _ _).mono hz |> K1.out.trans).alloc (by simp [World.setCell]; omega) _ |>.grown hgrow (by simp [World.setCell]; omega) (fun k hk => (World.ownsRow.lt O1.out k hk).1)
              have G3 : B ≤ w2.heap.size := Nat.le_trans (by simp [World.setCell]; omega) hgrow.size
              have G1 : Hid (w2.ownsRow B 33 4 v' (l ++ [t]).length ((l ++ [t]).flatMap tokCells)) := by
                rw [List.length_append, List.flatMap_append]
                have := hown'
                simp only [List.length_cons, List.length_nil, List.flatMap_cons, List.flatMap_nil, List.append_nil] at this ⊢
                exact this
              have hbr := blk_grown hgrow (blk_alloc (endR HZ.out _ _ _ _ _ _) _) (fun e => NB.out _ e.symm rfl)
              have q4 := cell_of hbr 4
              simp only [List.getElem?_toArray, List.getElem?_cons_zero, List.getElem?_cons_succ] at q4
              clear hown' hgrow hbr c0 c1 c2 c3 c4 c5 f0 f1 f2 f3 f4 f5
              go_wp2_with fail
              go_roundg k
              case measure => omega
              case rel => exact ⟨q, l ++ [t], v', rfl, by go_num, HX, by omega, by omega, by simp; omega, G1, G2, G3⟩
      · have HX : Hid (R = .ok l) := by rw [hE.out]; exact toks_end (by rw [len_is]; exact hlt)
        have h2 : ¬ p < s.size := hlt
        go_wp2_with fail
        go_ret3
        rw [HR.out, HX.out]
        refine ⟨⟨_, rfl, ?_, by omega⟩, ?_⟩
        · rw [← HW.out]; exact hO.out
        · rw [← HW.out]; exact hC.out
end Go.Proofs.YtkidnmjaioejaabDoor.Lx
