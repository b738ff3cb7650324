/- What is parsed is no heavier than its source lets it be: it may be printed; plain Lean, no program. No condition. -/
import Derived.Test.YtaklmocjaokkpaaGreatDoorTreeOneLaw
import Derived.Test.YtaklmocjaokkpaaGreatDoorParseA
namespace Go.Proofs.YtaklmocjaokkpaaGreatDoor.Tr
set_option linter.unusedVariables false
set_option linter.unusedSimpArgs false

/-- How long tokens are, all together. -/
def tsum : List TK → Nat
  | [] => 0
  | t :: l => t.2.1.length + 1 + tsum l
theorem tsum_app (a b : List TK) : tsum (a ++ b) = tsum a + tsum b := by
  induction a with
  | nil => simp [tsum]
  | cons t a ih => rw [List.cons_append, tsum, tsum, ih]; omega
theorem tsum_names (ns : List ByteArray) : tsum (ns.map tw) = wns ns := by
  induction ns with
  | nil => rfl
  | cons s l ih =>
    rw [List.map_cons, tsum, wns, ih]
    show (bl s).length + 1 + _ = _
    rw [bl_len]
theorem tsum_tw (t : ByteArray) (l : List TK) : tsum (tw t :: l) = t.size + 1 + tsum l := by
  rw [tsum]
  show (bl t).length + 1 + _ = _
  rw [bl_len]
theorem head_sum {k m : Nat} {n : Int} {t : ByteArray} {ns : List ByteArray} {many : Option Nat} {least most : Nat} (hs : shapeOf k = some (many, least, most)) (hm : ∀ q, many = some q → ns.length = q) (ht : textB k n t m = true) (h5 : 5 < k) : t.size + wns ns ≤ tsum (headT k t ns) := by
  have hb : ∀ {t : ByteArray}, t = ⟨#[]⟩ → t.size = 0 := fun e => by rw [e]; rfl
  have hn : many = some 0 → wns ns = 0 := fun e => by rw [List.eq_nil_of_length_eq_zero (hm 0 e)]; rfl
  by_cases k11 : k = 11
  · subst k11
    have : many = some 0 := by simp only [shapeOf, Option.some.injEq, Prod.mk.injEq] at hs; exact hs.1.symm
    have := hn this
    unfold headT
    rw [if_pos rfl, tsum_tw, tsum]
    omega
  unfold headT
  rw [if_neg k11, tsum_tw]
  by_cases k6 : k = 6
  · rw [if_pos k6, tsum_tw, tsum, tsum_app, tsum_names]
    omega
  rw [if_neg k6]
  by_cases k8 : k = 8 ∨ k = 12
  · have : many = some 0 := by
      rcases k8 with rfl | rfl
      · simp only [shapeOf, Option.some.injEq, Prod.mk.injEq] at hs; exact hs.1.symm
      · simp only [shapeOf, Option.some.injEq, Prod.mk.injEq] at hs; exact hs.1.symm
    have := hn this
    rw [if_pos k8, tsum_tw, tsum]
    omega
  rw [if_neg k8]
  by_cases k18 : k = 18
  · rw [if_pos k18, tsum_tw, tsum_names]
    omega
  rw [if_neg k18]
  have ht0 : t = ⟨#[]⟩ := by
    unfold textB at ht
    rw [if_neg (by omega), if_neg (by omega), if_neg (by omega), if_neg k11] at ht
    exact of_decide_eq_true ht
  have := hb ht0
  by_cases k17 : k = 17
  · rw [if_pos k17, tsum_names]
    omega
  rw [if_neg k17]
  have h19 := shape_range hs
  have : many = some 0 := by
    have hk : k = 7 ∨ k = 9 ∨ k = 10 ∨ k = 13 ∨ k = 14 ∨ k = 15 ∨ k = 16 ∨ k = 19 := by omega
    rcases hk with rfl | rfl | rfl | rfl | rfl | rfl | rfl | rfl <;> (simp only [shapeOf, Option.some.injEq, Prod.mk.injEq] at hs; exact hs.1.symm)
  have := hn this
  omega
theorem wts_toks : ∀ l : List Nd, (∀ y ∈ l, wt y ≤ tsum (toksN y)) → wts l ≤ tsum (toksL l) := by
  intro l
  induction l with
  | nil => intro _; exact Nat.zero_le _
  | cons x l ih =>
    intro h
    rw [wts, toksL, tsum_app]
    have h1 := h x List.mem_cons_self
    have h2 := ih (fun y hy => h y (List.mem_cons_of_mem _ hy))
    omega
theorem wt_toks : ∀ (x : Nd) (deep : Nat), rightB x deep = true → wt x ≤ tsum (toksN x) := by
  intro x
  induction x using Nd.ind with
  | h x ih =>
    intro deep hr
    have hkids := fun y hy => right_kid hr y hy
    rw [rightB_is, Bool.and_eq_true] at hr
    obtain ⟨many, least, most, hsh, _, htx, h1, h2, h3, hnm, hun, _⟩ := head_parts hr.1
    have hrg := shape_range hsh
    have hk := wts_toks x.kids (fun y hy => ih y hy _ (hkids y hy))
    rw [wt_is, toksN_is]
    by_cases k5 : 5 < x.kind
    · have hh := head_sum hsh hnm htx k5
      rw [if_neg (by omega), if_neg (by omega), if_neg (by omega), if_neg (by omega), if_neg (by omega), tsum, tsum_app, tsum_app]
      omega
    · have hkk : x.kind = 1 ∨ x.kind = 2 ∨ x.kind = 3 ∨ x.kind = 4 ∨ x.kind = 5 := by omega
      have hs0 : many = some 0 ∧ most = 0 := by
        rcases hkk with k | k | k | k | k <;> (rw [k] at hsh; simp only [shapeOf, Option.some.injEq, Prod.mk.injEq] at hsh; exact ⟨hsh.1.symm, hsh.2.2.symm⟩)
      have hn0 : x.names = [] := List.eq_nil_of_length_eq_zero (hnm 0 hs0.1)
      have hk0 : x.kids = [] := List.eq_nil_of_length_eq_zero (by omega)
      rw [hn0, hk0]
      have e1 : wns [] = 0 := rfl
      have e2 : wts [] = 0 := rfl
      rw [e1, e2]
      have hb : x.kind = 1 ∨ x.kind = 2 ∨ x.kind = 4 → x.text.size = 0 := fun hk => by
        unfold textB at htx
        rcases hk with k | k | k
        · rw [k] at htx; simp at htx; rw [htx]; rfl
        · rw [k] at htx; simp at htx; rw [htx.1]; rfl
        · rw [k] at htx; simp at htx; rw [htx]; rfl
      rcases hkk with k | k | k | k | k
      · have := hb (.inl k)
        rw [if_pos k, tsum]; omega
      · have := hb (.inr (.inl k))
        rw [if_neg (by omega), if_pos k, tsum_tw]; omega
      · rw [if_neg (by omega), if_neg (by omega), if_pos k, tsum]
        show _ ≤ (bl x.text).length + 1 + _
        rw [bl_len]; omega
      · have := hb (.inr (.inr k))
        rw [if_neg (by omega), if_neg (by omega), if_neg (by omega), if_pos k, tsum_tw]; omega
      · rw [if_neg (by omega), if_neg (by omega), if_neg (by omega), if_neg (by omega), if_pos k, tsum_tw]; omega
theorem next_sum {s : List UInt8} {p q : Nat} {l : List Lx.Tok} (hp : p < s.length) (h : Lx.nextR s p = .ok (l, q)) : tsum (l.map tk) ≤ 2 * (q - p) := by
  have hlt := Lx.next_lt hp h
  have hc := List.getElem?_eq_getElem hp
  generalize s[p] = c at hc
  by_cases h1 : Lx.blank c = true
  · rw [Lx.next_blank hc h1] at h; cases h; simp [tsum]
  · by_cases h2 : c = 59
    · subst h2; rw [Lx.next_note hc] at h; cases h; simp [tsum]
    · by_cases h3 : c = 40
      · subst h3; rw [Lx.next_open hc] at h; cases h; simp [tsum, tk]
      · by_cases h4 : c = 41
        · subst h4; rw [Lx.next_close hc] at h; cases h; simp [tsum, tk]
        · by_cases h5 : c = 34
          · subst h5; rw [Lx.next_text hc] at h
            unfold Lx.textR at h
            rcases ht : Lx.text s (s.length + 1) (p + 1) [] with x | ⟨o, r⟩
            · rw [ht] at h; cases h
            · rw [ht] at h; cases h
              have hl := text_len _ _ _ ht
              rw [List.length_nil] at hl
              simp only [List.map_cons, List.map_nil, tsum, tk]
              omega
          · have hb : Lx.blank c = false := by simpa using h1
            rw [Lx.next_word hc hb h2 h3 h4 h5] at h
            unfold Lx.wordR at h
            rcases ht : Lx.wordEnd s (s.length + 1) p with x | r
            · rw [ht] at h; cases h
            · rw [ht] at h
              simp only [] at h
              rcases hw : Lx.wordTok ((s.drop p).take (r - p)) p with x | t
              · rw [hw] at h; cases h
              · rw [hw] at h; cases h
                unfold Lx.wordTok at hw
                split at hw
                · split at hw
                  · cases hw
                    simp only [List.map_cons, List.map_nil, tsum, tk, List.length_nil]
                    omega
                  · cases hw
                · cases hw
                  have e : ((s.drop p).take (q - p)).length ≤ q - p := by rw [List.length_take]; omega
                  simp only [List.map_cons, List.map_nil, tsum, tk]
                  omega
theorem toks_sum {s : List UInt8} : ∀ {k p : Nat} {l m : List Lx.Tok}, Lx.toks s k p l = .ok m → p ≤ s.length → tsum (m.map tk) ≤ tsum (l.map tk) + 2 * (s.length - p) := by
  intro k
  induction k with
  | zero => intro p l m h hp; cases h; omega
  | succ k ih =>
    intro p l m h hp
    by_cases hlt : p < s.length
    · rcases hn : Lx.nextR s p with x | ⟨t, q⟩
      · rw [Lx.toks_err hlt hn] at h; cases h
      · rw [Lx.toks_step hlt hn] at h
        have hl := Lx.next_lt hlt hn
        have h1 := ih h hl.2.1
        have h2 := next_sum hlt hn
        rw [List.map_append, tsum_app] at h1
        omega
    · rw [Lx.toks_end hlt] at h; cases h; omega
theorem lits_right : ∀ (x : Nd) (deep : Nat), rightB x deep = true → Lits In64 (fun _ => True) x → Lits inR okQ x := by
  intro x
  induction x using Nd.ind with
  | h x ih =>
    intro deep hr hl
    have hkids := fun y hy => right_kid hr y hy
    have hlk := fun y hy => hl.kid y hy
    rw [rightB_is, Bool.and_eq_true] at hr
    obtain ⟨many, least, most, hsh, _, htx, _⟩ := head_parts hr.1
    cases x with
    | mk k n t ns ks =>
      unfold Lits at hl ⊢
      refine ⟨hl.1, fun (hk : k = 3) => ?_, LitsL.mk fun y hy => ih y hy _ (hkids y hy) (hlk y hy)⟩
      have h2 : textB k n t ks.length = true := htx
      rw [hk] at h2
      unfold textB at h2
      rw [if_neg (by decide), if_pos rfl] at h2
      have := of_decide_eq_true h2
      unfold okQ
      omega
/-- What is parsed may be printed. -/
theorem parse_small {s : List UInt8} {x : Nd} (h : parseP s = .ok x) : mayB x = true ∧ Small x ∧ Lits inR okQ x ∧ (printL x).length ≤ 70368744177664 := by
  obtain ⟨h1, h2, L, h3, h4⟩ := parse_good h
  have hr : rightB x 1 = true := may_right h1
  have hw := wt_toks x 1 hr
  have hs := toks_sum (Lx.tokens_toks h3) (Nat.zero_le _)
  have hle := tokens_le h3
  rw [h4] at hs
  have e0 : tsum (([] : List Lx.Tok).map tk) = 0 := rfl
  rw [e0] at hs
  have hl := lits_right x 1 hr h2
  have hp := print_len x hl
  exact ⟨h1, (fine_wt x (by omega)).2, hl, by omega⟩
end Go.Proofs.YtaklmocjaokkpaaGreatDoor.Tr
