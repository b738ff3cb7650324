/- The tokens of a node's text are the node's own tokens; two right nodes with one text are the same; plain Lean, no program. Condition: the node is right where it stands, and its numbers are int64's. -/
import Derived.Test.YtaklmocjaokkpaaGreatDoorParseToks
namespace Go.Proofs.YtaklmocjaokkpaaGreatDoor.Tr
set_option linter.unusedVariables false
set_option linter.unusedSimpArgs false

/-- Bytes that stand in for tokens, wherever they stand. -/
inductive LexR : List UInt8 → List TK → Prop
  | nil : LexR [] []
  | blank {c : UInt8} {s : List UInt8} {T : List TK} : Lx.blank c = true → LexR s T → LexR (c :: s) T
  | opens {s : List UInt8} {T : List TK} : LexR s T → LexR (40 :: s) (tO :: T)
  | closes {s : List UInt8} {T : List TK} : LexR s T → LexR (41 :: s) (tC :: T)
  | word {w s : List UInt8} {t : Lx.Tok} {T : List TK} : w ≠ [] → (∀ c ∈ w, Lx.inWord c) → Lx.wordTok w 0 = .ok t → (∀ c, s.head? = some c → Lx.ends c = true) → LexR s T → LexR (w ++ s) (tk t :: T)
  | text {r s : List UInt8} {T : List TK} : LexR s T → LexR (Lx.quote r ++ s) ((5, r, 0) :: T)
theorem at_pre (pre : List UInt8) (c : UInt8) (s : List UInt8) : (pre ++ c :: s)[pre.length]? = some c := by simp
theorem wend_at (pre w post : List UInt8) (hw : ∀ c ∈ w, Lx.inWord c) (hp : ∀ c, post.head? = some c → Lx.ends c = true) : ∀ (k p : Nat), p ≤ w.length → w.length < k + p → Lx.wordEnd (pre ++ (w ++ post)) k (pre.length + p) = .ok (pre.length + w.length) := by
  intro k
  induction k with
  | zero => intro p h1 h2; omega
  | succ k ih =>
    intro p h1 h2
    have hg : (pre ++ (w ++ post))[pre.length + p]? = (w ++ post)[p]? := by rw [List.getElem?_append_right (by omega)]; congr 1; omega
    by_cases hlt : p < w.length
    · have hc : (pre ++ (w ++ post))[pre.length + p]? = some w[p] := by rw [hg, List.getElem?_append_left hlt, List.getElem?_eq_getElem hlt]
      obtain ⟨e1, e2, e3⟩ := hw w[p] (List.getElem_mem hlt)
      rw [Lx.wordEnd, hc]
      simp only [e1, Bool.false_eq_true, if_false]
      rw [if_neg (by omega)]
      exact ih (p + 1) (by omega) (by omega)
    · have hpe : p = w.length := by omega
      subst hpe
      rw [Lx.wordEnd, hg]
      rcases hc : (w ++ post)[w.length]? with _ | c
      · rfl
      · have : Lx.ends c = true := hp c (by
          rw [List.getElem?_append_right (Nat.le_refl _), Nat.sub_self] at hc
          rw [List.head?_eq_getElem?]; exact hc)
        simp only [this, if_true]
theorem text_at (post : List UInt8) (r : List UInt8) : ∀ (pre out : List UInt8) (k : Nat), r.length < k → Lx.text (pre ++ (r.flatMap Lx.qb ++ 34 :: post)) k pre.length out = .ok (out ++ r, pre.length + (r.flatMap Lx.qb).length + 1) := by
  induction r with
  | nil =>
    intro pre out k hk
    obtain ⟨k, rfl⟩ : ∃ m, k = m + 1 := ⟨k - 1, by simp at hk; omega⟩
    have a0 : (pre ++ (([] : List UInt8).flatMap Lx.qb ++ 34 :: post))[pre.length]? = some 34 := by simp
    show (match (pre ++ (([] : List UInt8).flatMap Lx.qb ++ 34 :: post))[pre.length]? with | none => _ | some c => _) = _
    rw [a0]; simp
  | cons c r ih =>
    intro pre out k hk
    obtain ⟨k, rfl⟩ : ∃ m, k = m + 1 := ⟨k - 1, by simp at hk; omega⟩
    rw [Lx.text_qb _ k _ out c (fun i hi => by
      rw [List.getElem?_append_right (by omega), show pre.length + i - pre.length = i by omega, List.flatMap_cons, List.append_assoc, List.getElem?_append_left hi])]
    have := ih (pre ++ Lx.qb c) (out ++ [c]) k (by simp at hk; omega)
    simp only [List.flatMap_cons, List.length_append, List.append_assoc] at this ⊢
    rw [this]
    simp [Nat.add_assoc]
theorem wtok_at {w : List UInt8} {t : Lx.Tok} (p : Nat) (h : Lx.wordTok w 0 = .ok t) : ∃ u, Lx.wordTok w p = .ok u ∧ tk u = tk t ∧ u.at_ = p := by
  unfold Lx.wordTok at h ⊢
  split at h
  · rename_i e
    rw [if_pos e]
    split at h
    · rename_i v hv
      cases h
      exact ⟨_, rfl, rfl, rfl⟩
    · cases h
  · rename_i e
    rw [if_neg e]
    cases h
    exact ⟨_, rfl, rfl, rfl⟩
theorem next_step {s : List UInt8} {p q : Nat} {k : Nat} {l : List Lx.Tok} {o : Option Lx.Tok} (hp : p < s.length) (h : Lx.next s p = .ok (o, q)) : Lx.toks s (k + 1) p l = Lx.toks s k q (l ++ o.toList) := by
  rw [Lx.toks, if_pos hp, h]
theorem qb_pos (r : List UInt8) : r.length ≤ (r.flatMap Lx.qb).length := by
  induction r with
  | nil => simp
  | cons c s ih =>
    have : 1 ≤ (Lx.qb c).length := by unfold Lx.qb; split <;> (try split) <;> simp
    simp only [List.flatMap_cons, List.length_append, List.length_cons]; omega
theorem in_not {c : UInt8} (h : Lx.inWord c) : Lx.blank c = false ∧ c ≠ 59 ∧ c ≠ 40 ∧ c ≠ 41 ∧ c ≠ 34 := by
  have e1 := h.1
  refine ⟨?_, ?_, ?_, ?_, ?_⟩
  · unfold Lx.ends at e1
    cases hb : Lx.blank c
    · rfl
    · rw [hb] at e1; simp at e1
  all_goals (rintro rfl; exact absurd e1 (by decide))
/-- They are lexed as those tokens. -/
theorem lex_toks {s : List UInt8} {T : List TK} (h : LexR s T) : ∀ (pre : List UInt8) (k : Nat) (l0 : List Lx.Tok), s.length < k →
    ∃ l, Lx.toks (pre ++ s) k pre.length l0 = .ok (l0 ++ l) ∧ l.map tk = T := by
  induction h with
  | nil =>
    intro pre k l0 hk
    obtain ⟨k, rfl⟩ : ∃ q, k = q + 1 := ⟨k - 1, by simp at hk; omega⟩
    refine ⟨[], ?_, rfl⟩
    rw [Lx.toks, if_neg (by simp), List.append_nil]
  | @blank c s T hb _ ih =>
    intro pre k l0 hk
    obtain ⟨k, rfl⟩ : ∃ q, k = q + 1 := ⟨k - 1, by simp at hk; omega⟩
    obtain ⟨l, h1, h2⟩ := ih (pre ++ [c]) k l0 (by simp at hk; omega)
    refine ⟨l, ?_, h2⟩
    have hn : Lx.next (pre ++ c :: s) pre.length = .ok (none, pre.length + 1) := by unfold Lx.next; rw [at_pre]; simp only [hb, if_true]
    rw [next_step (by simp) hn]
    simpa using h1
  | @opens s T _ ih =>
    intro pre k l0 hk
    obtain ⟨k, rfl⟩ : ∃ q, k = q + 1 := ⟨k - 1, by simp at hk; omega⟩
    obtain ⟨l, h1, h2⟩ := ih (pre ++ [40]) k (l0 ++ [⟨1, [], 0, pre.length⟩]) (by simp at hk; omega)
    refine ⟨⟨1, [], 0, pre.length⟩ :: l, ?_, by rw [List.map_cons, h2]; rfl⟩
    have hn : Lx.next (pre ++ 40 :: s) pre.length = .ok (some ⟨1, [], 0, pre.length⟩, pre.length + 1) := by unfold Lx.next; rw [at_pre]; rfl
    rw [next_step (by simp) hn]
    simpa using h1
  | @closes s T _ ih =>
    intro pre k l0 hk
    obtain ⟨k, rfl⟩ : ∃ q, k = q + 1 := ⟨k - 1, by simp at hk; omega⟩
    obtain ⟨l, h1, h2⟩ := ih (pre ++ [41]) k (l0 ++ [⟨2, [], 0, pre.length⟩]) (by simp at hk; omega)
    refine ⟨⟨2, [], 0, pre.length⟩ :: l, ?_, by rw [List.map_cons, h2]; rfl⟩
    have hn : Lx.next (pre ++ 41 :: s) pre.length = .ok (some ⟨2, [], 0, pre.length⟩, pre.length + 1) := by unfold Lx.next; rw [at_pre]; rfl
    rw [next_step (by simp) hn]
    simpa using h1
  | @word w s t T hne hw ht hp _ ih =>
    intro pre k l0 hk
    obtain ⟨k, rfl⟩ : ∃ q, k = q + 1 := ⟨k - 1, by rw [List.length_append] at hk; omega⟩
    obtain ⟨u, hu, hu2, _⟩ := wtok_at pre.length ht
    have hwl : 0 < w.length := List.length_pos_iff.2 hne
    obtain ⟨l, h1, h2⟩ := ih (pre ++ w) k (l0 ++ [u]) (by rw [List.length_append] at hk; omega)
    refine ⟨u :: l, ?_, by rw [List.map_cons, h2, hu2]⟩
    have hn : Lx.next (pre ++ (w ++ s)) pre.length = .ok (some u, pre.length + w.length) := by
      cases w with
      | nil => exact absurd rfl hne
      | cons c r =>
        obtain ⟨n1, n2, n3, n4, n5⟩ := in_not (hw c (by simp))
        have hwe := wend_at pre (c :: r) s hw hp ((pre ++ (c :: r ++ s)).length + 1) 0 (Nat.zero_le _) (by simp; omega)
        simp only [Nat.add_zero] at hwe
        have hc : (pre ++ (c :: r ++ s))[pre.length]? = some c := by simp
        unfold Lx.next
        rw [hc]
        simp only [n1, Bool.false_eq_true, if_false]
        rw [if_neg n2, if_neg n3, if_neg n4, if_neg n5, hwe]
        simp only []
        have hd : ((pre ++ (c :: r ++ s)).drop pre.length).take (pre.length + (c :: r).length - pre.length) = c :: r := by
          rw [List.drop_left, Nat.add_sub_cancel_left, List.take_left]
        rw [hd, hu]
    rw [next_step (by rw [List.length_append, List.length_append]; omega) hn]
    simpa using h1
  | @text r s T _ ih =>
    intro pre k l0 hk
    obtain ⟨k, rfl⟩ : ∃ q, k = q + 1 := ⟨k - 1, by rw [List.length_append] at hk; omega⟩
    have hql : (Lx.quote r).length = (r.flatMap Lx.qb).length + 2 := by unfold Lx.quote; simp
    obtain ⟨l, h1, h2⟩ := ih (pre ++ Lx.quote r) k (l0 ++ [⟨5, r, 0, pre.length⟩]) (by rw [List.length_append] at hk; omega)
    refine ⟨⟨5, r, 0, pre.length⟩ :: l, ?_, by rw [List.map_cons, h2]; rfl⟩
    have hqe : Lx.quote r ++ s = 34 :: (r.flatMap Lx.qb ++ 34 :: s) := by unfold Lx.quote; simp
    have hn : Lx.next (pre ++ (Lx.quote r ++ s)) pre.length = .ok (some ⟨5, r, 0, pre.length⟩, pre.length + (Lx.quote r).length) := by
      have hc : (pre ++ (Lx.quote r ++ s))[pre.length]? = some 34 := by rw [hqe]; simp
      have htx := text_at s r (pre ++ [34]) [] ((pre ++ (Lx.quote r ++ s)).length + 1) (by
        have := qb_pos r
        simp only [List.length_append]
        omega)
      have he : pre ++ [34] ++ (r.flatMap Lx.qb ++ 34 :: s) = pre ++ (Lx.quote r ++ s) := by rw [hqe]; simp
      rw [he] at htx
      unfold Lx.next
      rw [hc]
      simp only [show Lx.blank 34 = false by decide, Bool.false_eq_true, if_false, show ¬ ((34 : UInt8) = 59) by decide, show ¬ ((34 : UInt8) = 40) by decide, show ¬ ((34 : UInt8) = 41) by decide, if_true]
      have e34 : (pre ++ [(34 : UInt8)]).length = pre.length + 1 := by simp
      rw [e34] at htx
      rw [htx]
      simp only [List.nil_append]
      congr 2
      rw [hql]
      omega
    rw [next_step (by rw [List.length_append, List.length_append, hql]; omega) hn]
    simpa using h1
/-- What stands behind a word ends it. -/
def EndsB (s : List UInt8) : Prop := ∀ c, s.head? = some c → Lx.ends c = true
theorem ends_nil : EndsB [] := fun c h => by cases h
theorem ends_cons {c : UInt8} {s : List UInt8} (h : Lx.ends c = true) : EndsB (c :: s) := fun d hd => by
  have : c = d := by simpa using hd
  rw [← this]; exact h
theorem lex_word {w s : List UInt8} {T : List TK} (hw : Lx.wordB w = true) (he : EndsB s) (h : LexR s T) : LexR (w ++ s) ((3, w, 0) :: T) := by
  unfold Lx.wordB at hw
  simp only [Bool.and_eq_true, Bool.not_eq_true', decide_eq_true_eq, List.all_eq_true] at hw
  obtain ⟨⟨⟨b1, b2⟩, b3⟩, b4⟩ := hw
  exact LexR.word (t := ⟨3, w, 0, 0⟩) (by rintro rfl; cases b1) (fun c hc => ⟨(b3 c hc).1.1, (b3 c hc).1.2, (b3 c hc).2⟩) (by unfold Lx.wordTok; rw [b4]; rfl) he h
theorem lex_tw {t : ByteArray} {s : List UInt8} {T : List TK} (hw : Lx.wordB (bl t) = true) (he : EndsB s) (h : LexR s T) : LexR (bl t ++ s) (tw t :: T) := lex_word hw he h
theorem nameB_word {t : ByteArray} (h : nameB t = true) : Lx.wordB (bl t) = true := by
  unfold nameB word at h
  simp only [Bool.and_eq_true] at h
  exact h.1.1.1
theorem lex_sp {s : List UInt8} {T : List TK} (h : LexR s T) : LexR (32 :: s) T := LexR.blank (by decide) h
theorem unl_all : ∀ (l seen : List ByteArray), unl seen l = true → ∀ s ∈ l, nameB s = true
  | [], _, _, s, hs => by cases hs
  | x :: l, seen, h, s, hs => by
    obtain ⟨u1, _, u3⟩ := unl_head h
    rcases List.mem_cons.1 hs with rfl | hs
    · exact u1
    · exact unl_all l _ u3 s hs
/-- Names with blanks between. -/
theorem lex_names : ∀ (ns : List ByteArray) {s : List UInt8} {T : List TK}, (∀ x ∈ ns, nameB x = true) → EndsB s → LexR s T → LexR (joinL ns ++ s) (ns.map tw ++ T) := by
  intro ns
  induction ns with
  | nil => intro s T _ _ h; exact h
  | cons x ns ih =>
    intro s T hn he h
    cases ns with
    | nil =>
      have e : joinL [x] = bl x := by simp [joinL, Lib.join, bl]
      rw [e]
      exact lex_tw (nameB_word (hn x List.mem_cons_self)) he h
    | cons y ns =>
      have e : joinL (x :: y :: ns) = bl x ++ 32 :: joinL (y :: ns) := by simp [joinL, Lib.join, bl]
      rw [e, List.append_assoc]
      exact lex_tw (nameB_word (hn x List.mem_cons_self)) (ends_cons (by decide)) (lex_sp (ih (fun z hz => hn z (List.mem_cons_of_mem _ hz)) he h))
theorem ones_words : ∀ l ∈ onesL, Lx.wordB l = true := by decide +kernel
theorem twos_words : ∀ l ∈ twosL, Lx.wordB l = true := by decide +kernel
theorem takes_word {t : ByteArray} (h : 0 ≤ takes t) : Lx.wordB (bl t) = true := by
  unfold takes takesL at h
  split at h
  · rename_i e
    show Lx.wordB t.data.toList = true
    rw [e]
    decide +kernel
  · split at h
    · rename_i e
      exact ones_words _ e
    · split at h
      · rename_i e
        exact twos_words _ e
      · omega
theorem words_of : ∀ k ∈ [6, 7, 8, 9, 10, 12, 13, 14, 15, 16, 17, 18, 19], Lx.wordB (bl (wordOf k)) = true := by decide +kernel
theorem int_lex {n : Int} (h : -9223372036854775808 ≤ n ∧ n ≤ 9223372036854775807) {s : List UInt8} {T : List TK} (he : EndsB s) (hs : LexR s T) : LexR (Lib.itoa n ++ s) ((4, [], n) :: T) := by
  rw [← numb_itoa, Lx.numb_is]
  exact LexR.word (t := ⟨4, [], n, 0⟩) (Lx.nword_ne n 0 h.1 h.2) (Lx.nword_inWord n 0 h.1 h.2) (Lx.wordTok_num n 0 0 h.1 h.2) he hs
/-- A node's head. -/
theorem head_lex {deep k : Nat} {n : Int} {t : ByteArray} {ns : List ByteArray} {ks : List Nd} (h : headB deep k n t ns ks = true) (h5 : 5 < k) {s : List UInt8} {T : List TK} (he : EndsB s) (hs : LexR s T) : LexR (headL k (bl t) ns ++ s) (headT k t ns ++ T) := by
  obtain ⟨many, least, most, hsh, _, htx, h1, h2, h3, hnm, hun, _⟩ := head_parts h
  have hrg := shape_range hsh
  have hall := unl_all ns [] hun
  have hk : k = 6 ∨ k = 7 ∨ k = 8 ∨ k = 9 ∨ k = 10 ∨ k = 11 ∨ k = 12 ∨ k = 13 ∨ k = 14 ∨ k = 15 ∨ k = 16 ∨ k = 17 ∨ k = 18 ∨ k = 19 := by omega
  have hwd : ∀ k ∈ [6, 7, 8, 9, 10, 12, 13, 14, 15, 16, 17, 18, 19], ∀ {s : List UInt8} {T : List TK}, EndsB s → LexR s T → LexR (bl (wordOf k) ++ s) (tw (wordOf k) :: T) := fun k hk s T he hs => lex_tw (words_of k hk) he hs
  rcases hk with rfl | rfl | rfl | rfl | rfl | rfl | rfl | rfl | rfl | rfl | rfl | rfl | rfl | rfl
  · have hnt : nameB t = true := by simpa [textB] using htx
    have := hwd 6 (by simp) (ends_cons (by decide)) (lex_sp (lex_tw (s := 32 :: 40 :: (joinL ns ++ 41 :: s)) (nameB_word hnt) (ends_cons (by decide)) (lex_sp (LexR.opens (lex_names ns hall (ends_cons (by decide)) (LexR.closes hs))))))
    simpa [headL, headT, wordOf, wFun, bl] using this
  · exact hwd 7 (by simp) he hs
  · have hnt : nameB t = true := by simpa [textB] using htx
    have := hwd 8 (by simp) (ends_cons (by decide)) (lex_sp (lex_tw (nameB_word hnt) he hs))
    simpa [headL, headT, wordOf, wLet, bl] using this
  · exact hwd 9 (by simp) he hs
  · exact hwd 10 (by simp) he hs
  · have : takes t = (ks.length : Int) := by simpa [textB] using htx
    exact lex_tw (takes_word (by omega)) he hs
  · have hnt : nameB t = true := by simpa [textB] using htx
    have := hwd 12 (by simp) (ends_cons (by decide)) (lex_sp (lex_tw (nameB_word hnt) he hs))
    simpa [headL, headT, wordOf, wPerform, bl] using this
  · exact hwd 13 (by simp) he hs
  · exact hwd 14 (by simp) he hs
  · exact hwd 15 (by simp) he hs
  · exact hwd 16 (by simp) he hs
  · simp only [shapeOf, Option.some.injEq, Prod.mk.injEq] at hsh
    have hl := hnm _ hsh.1.symm
    obtain ⟨x, rfl⟩ : ∃ x, ns = [x] := by
      match ns, hl with
      | [x], _ => exact ⟨x, rfl⟩
    have := hwd 17 (by simp) (ends_cons (by decide)) (lex_sp (lex_tw (nameB_word (hall x (by simp))) he hs))
    simpa [headL, headT, wordOf, wReturn, bl, firstL] using this
  · have hnt : nameB t = true := by simpa [textB] using htx
    have := hwd 18 (by simp) (ends_cons (by decide)) (lex_sp (lex_tw (nameB_word hnt) (ends_cons (by decide)) (lex_sp (lex_names ns hall he hs))))
    simpa [headL, headT, wordOf, wOn, bl] using this
  · exact hwd 19 (by simp) he hs
theorem bool_word : ∀ b : Bool, Lib.formatBool b = bl (if b then sTrue else sFalse) := by decide +kernel
abbrev In64 (n : Int) : Prop := -9223372036854775808 ≤ n ∧ n ≤ 9223372036854775807
/-- A node's text. -/
theorem print_lex : ∀ (x : Nd) (deep : Nat), rightB x deep = true → Lits In64 (fun _ => True) x → ∀ {s : List UInt8} {T : List TK}, EndsB s → LexR s T → LexR (printL x ++ s) (toksN x ++ T) := by
  intro x
  induction x using Nd.ind with
  | h x ih =>
    intro deep hr hl s T he hs
    have hkids := fun y hy => right_kid hr y hy
    have hlk := fun y hy => hl.kid y hy
    have hint := hl.int
    rw [rightB_is, Bool.and_eq_true] at hr
    have hb := hr.1
    obtain ⟨many, least, most, hsh, _, htx, h1, h2, h3, hnm, hun, _⟩ := head_parts hb
    rw [printL_is, toksN_is]
    by_cases k1 : x.kind = 1
    · rw [if_pos k1, if_pos k1]
      exact int_lex (hint k1) he hs
    rw [if_neg k1, if_neg k1]
    by_cases k2 : x.kind = 2
    · rw [if_pos k2, if_pos k2, bool_word]
      have : (if decide (x.n = 1) = true then sTrue else sFalse) = if x.n = 1 then sTrue else sFalse := by simp
      rw [this]
      refine lex_tw ?_ he hs
      split <;> decide +kernel
    rw [if_neg k2, if_neg k2]
    by_cases k3 : x.kind = 3
    · rw [if_pos k3, if_pos k3]
      exact LexR.text hs
    rw [if_neg k3, if_neg k3]
    by_cases k4 : x.kind = 4
    · rw [if_pos k4, if_pos k4]
      exact lex_tw (t := sUnit) (by decide +kernel) he hs
    rw [if_neg k4, if_neg k4]
    by_cases k5 : x.kind = 5
    · rw [if_pos k5, if_pos k5]
      have hnt : nameB x.text = true := by rw [k5] at htx; simpa [textB] using htx
      exact lex_tw (nameB_word hnt) he hs
    rw [if_neg k5, if_neg k5]
    have hkl : ∀ (l : List Nd), (∀ y ∈ l, y ∈ x.kids) → ∀ {s : List UInt8} {T : List TK}, EndsB s → LexR s T → LexR (printsL l ++ s) (toksL l ++ T) ∧ EndsB (printsL l ++ s) := by
      intro l
      induction l with
      | nil => intro _ s T he hs; rw [printsL, toksL]; exact ⟨hs, he⟩
      | cons y l ihl =>
        intro hm s T he hs
        obtain ⟨q1, q2⟩ := ihl (fun z hz => hm z (List.mem_cons_of_mem _ hz)) he hs
        have hy := hm y List.mem_cons_self
        rw [printsL, toksL]
        refine ⟨?_, ends_cons (by decide)⟩
        have := lex_sp (ih y hy (deep + 1) (hkids y hy) (hlk y hy) q2 q1)
        simpa using this
    have hrg := shape_range hsh
    obtain ⟨q1, q2⟩ := hkl x.kids (fun _ h => h) (ends_cons (by decide : Lx.ends 41 = true)) (LexR.closes hs)
    have := LexR.opens (head_lex hb (by omega) q2 q1)
    simpa using this
/-- The tokens of a node's text. -/
theorem toks_print {x : Nd} {deep : Nat} (hr : rightB x deep = true) (hl : Lits In64 (fun _ => True) x) : ∃ l, Lx.toks (printL x) ((printL x).length + 1) 0 [] = .ok l ∧ l.map tk = toksN x := by
  have h := print_lex x deep hr hl ends_nil LexR.nil
  rw [List.append_nil, List.append_nil] at h
  obtain ⟨l, h1, h2⟩ := lex_toks h [] ((printL x).length + 1) [] (by omega)
  exact ⟨l, by simpa using h1, h2⟩
theorem has_all (L : List Lx.Tok) : Has L 0 (L.map tk) := fun j x hx => by
  rw [List.getElem?_map] at hx
  obtain ⟨t, h1, h2⟩ := Option.map_eq_some_iff.1 hx
  exact ⟨t, by rw [Nat.zero_add]; exact h1, h2⟩
/-- Two nodes that may be, with one text, are one. -/
theorem print_inj {x y : Nd} (hx : mayB x = true) (hy : mayB y = true) (lx : Lits In64 (fun _ => True) x) (ly : Lits In64 (fun _ => True) y) (h : printL x = printL y) : x = y := by
  unfold mayB at hx hy
  simp only [Bool.and_eq_true, decide_eq_true_eq] at hx hy
  obtain ⟨l, h1, h2⟩ := toks_print hx.1.2 lx
  obtain ⟨m, g1, g2⟩ := toks_print hy.1.2 ly
  rw [← h, h1] at g1
  cases g1
  have e1 := (value_of (L := l) (fin := 0) x 1 60 hx.1.2 rfl).1 hx.1.1 0 0 (by rw [← h2]; exact has_all l) (by omega)
  have e2 := (value_of (L := l) (fin := 0) y 1 60 hy.1.2 rfl).1 hy.1.1 0 0 (by rw [← g2]; exact has_all l) (by omega)
  rw [e1] at e2
  simp only [Except.ok.injEq, Prod.mk.injEq] at e2
  exact e2.1
end Go.Proofs.YtaklmocjaokkpaaGreatDoor.Tr
