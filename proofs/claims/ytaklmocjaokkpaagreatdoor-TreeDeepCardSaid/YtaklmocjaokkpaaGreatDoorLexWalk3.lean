/- The lexer's method escaped, walked. Conditions: the lexer's block is known; the two errors of strconv hold interface values. -/
import Derived.Test.YtaklmocjaokkpaaGreatDoorLexWalk2
namespace Go.Proofs.YtaklmocjaokkpaaGreatDoor.Lx
open Go.RowKit Go.Proofs.YtaklmocjaokkpaaGreatDoor.Mem

theorem digit_ok (s : ByteArray) (i b : Nat) (v : Value) (w : World) (hs : s.size ≤ 65536) (hi : i ≤ s.size) (hL : Lexer b s i v w) (hg : Glob w) (d : Nat) (h : hexAt s.data.toList i = .ok d) :
    Calls Tryz.prog 126 #[.pointer (some ⟨b, 0, none⟩)] w fun e w' => e = .returned (.int .u8 d) ∧ Lexer b s (i + 1) v w' ∧ Chg (· = b) w w' := by
  have := digit_calls s i b v w hs hi hL hg
  unfold hexR at this
  rw [h] at this
  exact this
theorem digit_err (s : ByteArray) (i b : Nat) (v : Value) (w : World) (hs : s.size ≤ 65536) (hi : i ≤ s.size) (hL : Lexer b s i v w) (hg : Glob w) (p n : Nat) (h : hexAt s.data.toList i = .error (p, n)) :
    Calls Tryz.prog 126 #[.pointer (some ⟨b, 0, none⟩)] w fun e w' => e = .panicked (fault p n) ∧ Chg (· = b) w w' := by
  have := digit_calls s i b v w hs hi hL hg
  unfold hexR at this
  rw [h] at this
  exact this
theorem hexAt_lt {s : List UInt8} {p d : Nat} (h : hexAt s p = .ok d) : p < s.length ∧ d < 16 := by
  unfold hexAt at h
  rcases hc : s[p]? with _ | c
  · rw [hc] at h; cases h
  · rw [hc] at h
    rcases hd : hexv c.toNat with _ | x
    · simp only [hd] at h; cases h
    · simp only [hd] at h
      cases h
      refine ⟨?_, hexv_lt hd⟩
      rcases Nat.lt_or_ge p s.length with h1 | h1
      · exact h1
      · rw [List.getElem?_eq_none h1] at hc; cases hc

theorem esc_q {s : List UInt8} {p : Nat} {c : UInt8} (h : s[p]? = some c) (hc : c = 34 ∨ c = 92) : escR s p = .ok ((c.toNat : Int), p + 1) := by
  unfold escR esc; rw [h]; simp only [if_pos hc]
theorem esc_n {s : List UInt8} {p : Nat} {c : UInt8} (h : s[p]? = some c) (hc : c = 110) : escR s p = .ok (10, p + 1) := by
  subst hc
  unfold escR esc; rw [h]; rfl
theorem esc_bad {s : List UInt8} {p : Nat} {c : UInt8} (h : s[p]? = some c) (h1 : ¬ (c = 34 ∨ c = 92)) (h2 : ¬ c = 110) (h3 : ¬ c = 120) : escR s p = .error (p, 10) := by
  unfold escR esc; rw [h]; simp only [if_neg h1, if_neg h2, if_neg h3]
theorem esc_x1 {s : List UInt8} {p : Nat} (h : s[p]? = some 120) {x : Nat × Nat} (hx : hexAt s (p + 1) = .error x) : escR s p = .error x := by
  unfold escR esc; rw [h]; simp only [hx]; rfl
theorem esc_x2 {s : List UInt8} {p : Nat} (h : s[p]? = some 120) {y : Nat} {x : Nat × Nat} (hy : hexAt s (p + 1) = .ok y) (hx : hexAt s (p + 2) = .error x) : escR s p = .error x := by
  unfold escR esc; rw [h]; simp only [hx, hy]; rfl
theorem esc_x {s : List UInt8} {p : Nat} (h : s[p]? = some 120) {x y : Nat} (hx : hexAt s (p + 1) = .ok x) (hy : hexAt s (p + 2) = .ok y) : escR s p = .ok (((UInt8.ofNat (16 * x + y)).toNat : Int), p + 3) := by
  unfold escR esc; rw [h]; simp only [hx, hy]; rfl

theorem hexmix (x y : Nat) (hx : x < 16) (hy : y < 16) : bits .or .u8 ((x : Int) * 16) (y : Int) = ((UInt8.ofNat (16 * x + y)).toNat : Int) := by
  have : ∀ x y : Fin 16, bits .or .u8 (((x.val : Nat) : Int) * 16) ((y.val : Nat) : Int) = ((UInt8.ofNat (16 * x.val + y.val)).toNat : Int) := by decide +kernel
  exact this ⟨x, hx⟩ ⟨y, hy⟩

set_option maxRecDepth 100000 in
set_option maxHeartbeats 2000000 in
theorem escaped_calls (s : ByteArray) (i b : Nat) (v : Value) (w : World) (hs : s.size ≤ 65536) (hi : i ≤ s.size) (hL : Lexer b s i v w) (hg : Glob w) (hb1 : 4 ≠ b) (hb2 : 5 ≠ b) :
    Calls Tryz.prog 113 #[.pointer (some ⟨b, 0, none⟩)] w (StepEnds b s v w (escR s.data.toList i)) := by
  have c0 := hL.c0
  have c1 := hL.c1
  have f1 := hL.f 1
  have HL := Lib.hid hL
  have HG := Lib.hid hg
  clear hL hg
  have HB := Lib.hid (And.intro hb1 hb2)
  clear hb1 hb2
  by_cases hlt : i < s.size
  · have hat := at_get s i hlt
    have HT := Lib.hid hat
    clear hat
    obtain ⟨c, hc⟩ : ∃ c, s[i] = c := ⟨_, rfl⟩
    have i0 : (0 : Int) ≤ (i : Int) := by omega
    have i1 : (i : Int) < (s.size : Int) := by omega
    have i2 : ¬ s.size ≤ i := by omega
    rw [hc] at HT
    by_cases k1 : c = 34
    · have HR := Lib.hid (esc_q HT.out (.inl k1))
      have n1 : 34 ≤ c.toNat ∧ c.toNat ≤ 34 := by subst k1; decide
      clear k1
      go_enter Tryz.func113, Tryz.ntmps113
      go_wp2_with fail
      go_quiet (fail)
      go_wp2_with fail
      go_quiet (fail)
      go_wp2_with fail
      go_ret
      rw [HR.out]
      exact ⟨rfl, Lexer.set1 (w := w.drewN _) HL.out (by omega), ((Chg.refl (· = b) _).drewN _).set (fun _ => rfl) _⟩
    by_cases k2 : c = 92
    · have HR := Lib.hid (esc_q HT.out (.inr k2))
      have n1 : 92 ≤ c.toNat ∧ c.toNat ≤ 92 := by subst k2; decide
      clear k1 k2
      go_enter Tryz.func113, Tryz.ntmps113
      go_wp2_with fail
      go_quiet (fail)
      go_wp2_with fail
      go_quiet (fail)
      go_wp2_with fail
      go_ret
      rw [HR.out]
      exact ⟨rfl, Lexer.set1 (w := w.drewN _) HL.out (by omega), ((Chg.refl (· = b) _).drewN _).set (fun _ => rfl) _⟩
    by_cases k3 : c = 110
    · have HR := Lib.hid (esc_n HT.out k3)
      have n1 : 110 ≤ c.toNat ∧ c.toNat ≤ 110 := by subst k3; decide
      clear k1 k2 k3
      go_enter Tryz.func113, Tryz.ntmps113
      go_wp2_with fail
      go_quiet (fail)
      go_wp2_with fail
      go_quiet (fail)
      go_wp2_with fail
      go_ret
      rw [HR.out]
      exact ⟨rfl, Lexer.set1 (w := w.drewN _) HL.out (by omega), ((Chg.refl (· = b) _).drewN _).set (fun _ => rfl) _⟩
    by_cases k4 : c = 120
    · rw [k4] at HT
      have n1 : 120 ≤ c.toNat ∧ c.toNat ≤ 120 := by subst k4; decide
      clear k1 k2 k3 k4
      rcases hx : hexAt s.data.toList (i + 1) with ⟨p, n⟩ | x
      · have HR := Lib.hid (esc_x1 HT.out hx)
        have HX := Lib.hid hx
        clear hx
        go_enter Tryz.func113, Tryz.ntmps113
        go_wp2_with fail
        go_quiet (fail)
        go_wp2_with fail
        go_quiet (fail)
        go_wp2_with fail
        refine (digit_err s (i + 1) b v _ hs (by omega) (by exact Lexer.set1 (w := w.drewN _) HL.out (by omega)) (by exact HG.out.chg (((Chg.refl (· = b) _).drewN _).set (fun _ => rfl) _) HB.out.1 HB.out.2) p n HX.out).mono ?_
        rintro e w1 ⟨rfl, h1⟩
        go_wp2_with fail
        rw [HR.out]
        exact ⟨rfl, rfl, (((Chg.refl (· = b) _).drewN _).set (fun _ => rfl) _).trans h1⟩
      · have xb := hexAt_lt hx
        rw [len_is] at xb
        rcases hy : hexAt s.data.toList (i + 2) with ⟨p, n⟩ | y
        · have HR := Lib.hid (esc_x2 HT.out hx hy)
          have HX := Lib.hid hx
          have HY := Lib.hid hy
          clear hx hy
          go_enter Tryz.func113, Tryz.ntmps113
          go_wp2_with fail
          go_quiet (fail)
          go_wp2_with fail
          go_quiet (fail)
          go_wp2_with fail
          refine (digit_ok s (i + 1) b v _ hs (by omega) (by exact Lexer.set1 (w := w.drewN _) HL.out (by omega)) (by exact HG.out.chg (((Chg.refl (· = b) _).drewN _).set (fun _ => rfl) _) HB.out.1 HB.out.2) x HX.out).mono ?_
          rintro e w1 ⟨rfl, l1, h1⟩
          have L1 := Lib.hid l1
          have K1 : Hid (Chg (· = b) w w1) := (((Chg.refl (· = b) _).drewN _).set (fun _ => rfl) _).trans h1
          clear h1 l1
          go_wp2_with fail
          refine (digit_err s (i + 1 + 1) b v _ hs (by omega) (by exact L1.out) (by exact HG.out.chg K1.out HB.out.1 HB.out.2) p n HY.out).mono ?_
          rintro e w2 ⟨rfl, h2⟩
          go_wp2_with fail
          rw [HR.out]
          exact ⟨rfl, rfl, K1.out.trans h2⟩
        · have yb := hexAt_lt hy
          have HR := Lib.hid (esc_x HT.out hx hy)
          have HX := Lib.hid hx
          have HY := Lib.hid hy
          clear hx hy
          go_enter Tryz.func113, Tryz.ntmps113
          go_wp2_with fail
          go_quiet (fail)
          go_wp2_with fail
          go_quiet (fail)
          go_wp2_with fail
          refine (digit_ok s (i + 1) b v _ hs (by omega) (by exact Lexer.set1 (w := w.drewN _) HL.out (by omega)) (by exact HG.out.chg (((Chg.refl (· = b) _).drewN _).set (fun _ => rfl) _) HB.out.1 HB.out.2) x HX.out).mono ?_
          rintro e w1 ⟨rfl, l1, h1⟩
          have L1 := Lib.hid l1
          have K1 : Hid (Chg (· = b) w w1) := (((Chg.refl (· = b) _).drewN _).set (fun _ => rfl) _).trans h1
          clear h1 l1
          go_wp2_with fail
          refine (digit_ok s (i + 1 + 1) b v _ hs (by omega) (by exact L1.out) (by exact HG.out.chg K1.out HB.out.1 HB.out.2) y HY.out).mono ?_
          rintro e w2 ⟨rfl, l2, h2⟩
          go_wp2_with fail
          go_ret
          rw [HR.out]
          refine ⟨?_, l2, K1.out.trans h2⟩
          rw [← hexmix x y xb.2 yb.2]
          rfl
    · have HR := Lib.hid (esc_bad HT.out (by simp [k1, k2]) k3 k4)
      have n1 : c.toNat ≠ 34 := fun h => k1 (UInt8.toNat_inj.1 h)
      have n2 : c.toNat ≠ 92 := fun h => k2 (UInt8.toNat_inj.1 h)
      have n3 : c.toNat ≠ 110 := fun h => k3 (UInt8.toNat_inj.1 h)
      have n4 : c.toNat ≠ 120 := fun h => k4 (UInt8.toNat_inj.1 h)
      clear k1 k2 k3 k4
      go_enter Tryz.func113, Tryz.ntmps113
      go_wp2_with fail
      go_quiet (fail)
      go_wp2_with fail
      go_quiet (fail)
      go_wp2_with fail
      rw [HR.out]
      exact ⟨rfl, rfl, (Chg.refl _ _).drewN _⟩
  · have HH : Hid (escR s.data.toList i = .error (s.size, 11)) := by
      unfold escR esc
      rw [at_none s i (by omega), len_is]
      rfl
    go_enter Tryz.func113, Tryz.ntmps113
    go_wp2_with fail
    go_quiet (fail)
    go_wp2_with fail
    rw [HH.out]
    exact ⟨rfl, rfl, (Chg.refl _ _).drewN _⟩
end Go.Proofs.YtaklmocjaokkpaaGreatDoor.Lx
