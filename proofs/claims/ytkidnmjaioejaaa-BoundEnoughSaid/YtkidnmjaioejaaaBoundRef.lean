/- The reference's sums and products, cut at 2^63 - 2, and what it says is enough: walked; and that it is what the program says is enough. No condition. -/
import Derived.Test.YtkidnmjaioejaaaBoundMath
namespace Go.Proofs.Ytkidnmjaioejaaa.Bm
open Go.RowKit Go.Proofs.Ytkidnmjaioejaaa.PBoundGrows Go.Proofs.YtkidnmjaioejaaaW.PrintWords Go.Proofs.YtkidnmjaioejaaaW.PrintLast

/-- A sum, at most that. -/
def plusR (a b : Int) : Int := if a > 9223372036854775806 - b then 9223372036854775806 else a + b

theorem plus_calls (a b : Int) (w : World) (ha0 : 0 ≤ a) (ha : a ≤ 9223372036854775806) (hb0 : 0 ≤ b) (hb : b ≤ 9223372036854775806) :
    Calls Try.prog 46 #[.int .i64 a, .int .i64 b] w fun e w' => e = .returned (.int .i64 (plusR a b)) ∧ w' = w := by
  by_cases h : 9223372036854775806 - b < a
  · have e : plusR a b = 9223372036854775806 := by unfold plusR; rw [if_pos h]
    rw [e]
    go_enter Try.func46, Try.ntmps46
    go_wp2
    go_ret
    exact ⟨rfl, rfl⟩
  · have e : plusR a b = a + b := by unfold plusR; rw [if_neg h]
    rw [e]
    go_enter Try.func46, Try.ntmps46
    go_wp2
    go_ret
    exact ⟨rfl, rfl⟩

theorem div_test {a b : Int} (hb : 1 ≤ b) : 9223372036854775806 / b < a ↔ a * b > 9223372036854775806 := by
  rw [Int.ediv_lt_iff_lt_mul (by omega)]

theorem times_calls (a b : Int) (w : World) (ha0 : 0 ≤ a) (ha : a ≤ 9223372036854775806) (hb0 : 0 ≤ b) (hb : b ≤ 9223372036854775806) :
    Calls Try.prog 45 #[.int .i64 a, .int .i64 b] w fun e w' => e = .returned (.int .i64 (T a b)) ∧ w' = w := by
  by_cases h0 : a = 0
  · subst h0
    have e : T 0 b = 0 := by unfold T; rw [Int.zero_mul]; rfl
    rw [e]
    go_enter Try.func45, Try.ntmps45
    go_wp2
    go_ret
    exact ⟨rfl, rfl⟩
  · by_cases h1 : b = 0
    · subst h1
      have e : T a 0 = 0 := by unfold T; rw [Int.mul_zero]; rfl
      have k0 : (a == 0) = false := by simpa using h0
      rw [e]
      go_enter Try.func45, Try.ntmps45
      go_wp2
      go_ret
      exact ⟨rfl, rfl⟩
    · have k0 : (a == 0) = false := by simpa using h0
      have k1 : (b == 0) = false := by simpa using h1
      have d := div_test (a := a) (b := b) (by omega)
      by_cases h2 : 9223372036854775806 / b < a
      · have e : T a b = 9223372036854775806 := by unfold T; rw [if_pos (d.1 h2)]
        rw [e]
        clear d e
        go_enter Try.func45, Try.ntmps45
        go_wp2
        go_ret
        exact ⟨rfl, rfl⟩
      · have h3 : ¬ a * b > 9223372036854775806 := fun h => h2 (d.2 h)
        have e : T a b = a * b := by unfold T; rw [if_neg h3]
        rw [e]
        have h4 : 0 ≤ a * b := Int.mul_nonneg ha0 hb0
        have h5 : wrap64 (a * b) = a * b := wrap64_id (by omega) (by omega)
        clear d e
        go_enter Try.func45, Try.ntmps45
        go_wp2
        go_ret
        exact ⟨by first | rfl | rw [h5], rfl⟩

/-- Nought or more, at most 2^63 - 2. -/
def cap (x : Int) : Int := if 9223372036854775806 < up x then 9223372036854775806 else up x
theorem cap_bd (x : Int) : 0 ≤ cap x ∧ cap x ≤ 9223372036854775806 := by
  have := up_nonneg x
  unfold cap; split <;> omega
theorem plus_bd {a b : Int} (ha0 : 0 ≤ a) (hb0 : 0 ≤ b) (hb : b ≤ 9223372036854775806) : 0 ≤ plusR a b ∧ plusR a b ≤ 9223372036854775806 := by
  unfold plusR; split <;> omega

set_option maxHeartbeats 800000 in
theorem refEnough_calls (s k : Int) (w : World) :
    Calls Try.prog 14 #[.int .i64 s, .int .i64 k] w fun e w' =>
      e = .returned (.agg #[.int .i64 (T (plusR (cap s) 1) (plusR (T 4 (cap k)) 16)), .int .i64 (plusR (T 4 (cap s)) 16), .int .i64 (T (plusR (cap s) 1) (plusR (cap k) 4))]) ∧ Below w.heap.size w w' := by
  have q1 : (if 0 < s then s else 0) = up s := by unfold up; split <;> split <;> omega
  have q2 : (if 0 < k then k else 0) = up k := by unfold up; split <;> split <;> omega
  have q3 : (if 9223372036854775806 < up s then 9223372036854775806 else up s) = cap s := rfl
  have q4 : (if 9223372036854775806 < up k then 9223372036854775806 else up k) = cap k := rfl
  obtain ⟨s0, s1⟩ := cap_bd s
  obtain ⟨k0, k1⟩ := cap_bd k
  obtain ⟨a0, a1⟩ := plus_bd (a := cap s) (b := 1) s0 (by omega) (by omega)
  have b0 := T_nonneg (a := 4) (b := cap k) (by omega) k0
  have b1 := T_le 4 (cap k)
  obtain ⟨c0, c1⟩ := plus_bd (a := T 4 (cap k)) (b := 16) b0 (by omega) (by omega)
  have d0 := T_nonneg (a := 4) (b := cap s) (by omega) s0
  have d1 := T_le 4 (cap s)
  obtain ⟨e0, e1⟩ := plus_bd (a := cap k) (b := 4) k0 (by omega) (by omega)
  go_enter Try.func14, Try.ntmps14
  go_wp2_with (first | (go_at_call 46; refine (plus_calls _ _ _ (by omega) (by omega) (by omega) (by omega)).mono ?_; rintro e w' ⟨rfl, rfl⟩) | (go_at_call 45; refine (times_calls _ _ _ (by omega) (by omega) (by omega) (by omega)).mono ?_; rintro e w' ⟨rfl, rfl⟩))
  exact bodyPost_ret (results_cell_row rfl _ _ w.heap.size 23 #[.int .i64 (T (plusR (cap s) 1) (plusR (T 4 (cap k)) 16)), .int .i64 (plusR (T 4 (cap s)) 16), .int .i64 (T (plusR (cap s) 1) (plusR (cap k) 4))] (0, 0) _ rfl (MapKept.heap_alloc w _).1 Try.underlying23 rfl (by kernel_rfl)) rfl ⟨rfl, (Below.refl _ _).alloc (Nat.le_refl _) _⟩

theorem T_cut {a b : Int} (hb : 1 ≤ b) (ha1 : 1 ≤ a) : T (if a > 9223372036854775806 then 9223372036854775806 else a) (if b > 9223372036854775806 then 9223372036854775806 else b) = T a b := by
  have p1 : ∀ x y : Int, 1 ≤ x → 1 ≤ y → x ≤ x * y ∧ y ≤ x * y := fun x y hx hy => by
    have h1 : x * 1 ≤ x * y := Int.mul_le_mul (Int.le_refl x) hy (by omega) (by omega)
    have h2 : 1 * y ≤ x * y := Int.mul_le_mul hx (Int.le_refl y) (by omega) (by omega)
    omega
  have q := p1 a b ha1 hb
  unfold T
  by_cases h1 : a > 9223372036854775806
  · rw [if_pos h1]
    by_cases h2 : b > 9223372036854775806
    · rw [if_pos h2, if_pos (by decide), if_pos (by omega)]
    · have := p1 9223372036854775806 b (by omega) hb
      rw [if_neg h2, if_pos (show a * b > 9223372036854775806 by omega)]
      split <;> omega
  · rw [if_neg h1]
    by_cases h2 : b > 9223372036854775806
    · have := p1 a 9223372036854775806 ha1 (by omega)
      rw [if_pos h2, if_pos (show a * b > 9223372036854775806 by omega)]
      split <;> omega
    · rw [if_neg h2]

/-- The reference's answer is the program's. -/
theorem plus_cut (x c : Int) (hx : x ≤ 9223372036854775807) (hx0 : 0 ≤ x) (hc : 1 ≤ c) (hc2 : c ≤ 16) :
    plusR (if 9223372036854775806 < x then 9223372036854775806 else x) c = if x + c > 9223372036854775806 then 9223372036854775806 else x + c := by
  unfold plusR; split <;> split <;> split <;> omega
theorem T4_cut (x : Int) (hx : x ≤ 9223372036854775807) (hx0 : 0 ≤ x) : T 4 (if 9223372036854775806 < x then 9223372036854775806 else x) = T 4 x := by
  unfold T; split
  · rw [if_pos (by decide), if_pos (by omega)]
  · rfl
theorem T4_plus (x : Int) (hx : 0 ≤ T 4 x) (hx2 : T 4 x ≤ 9223372036854775806) : plusR (T 4 x) 16 = if T 4 x + 16 > 9223372036854775806 then 9223372036854775806 else T 4 x + 16 := by
  unfold plusR; split <;> split <;> omega

theorem same (s k : Int) (hs : s ≤ 9223372036854775807) (hk : k ≤ 9223372036854775807) :
    T (plusR (cap s) 1) (plusR (T 4 (cap k)) 16) = fuel s k ∧ plusR (T 4 (cap s)) 16 = stack s ∧ T (plusR (cap s) 1) (plusR (cap k) 4) = heap s k := by
  have s0 := up_nonneg s
  have k0 := up_nonneg k
  have s1 : up s ≤ 9223372036854775807 := by unfold up; split <;> omega
  have k1 : up k ≤ 9223372036854775807 := by unfold up; split <;> omega
  have t0 := T_nonneg (a := 4) (b := up k) (by omega) k0
  have u0 := T_nonneg (a := 4) (b := up s) (by omega) s0
  have t1 := T_le 4 (up k)
  have u1 := T_le 4 (up s)
  unfold fuel stack heap cap
  rw [plus_cut _ 1 s1 s0 (by omega) (by omega), plus_cut _ 4 k1 k0 (by omega) (by omega), T4_cut _ k1 k0, T4_cut _ s1 s0, T4_plus _ t0 t1, T4_plus _ u0 u1]
  refine ⟨T_cut (by omega) (by omega), by split <;> split <;> omega, T_cut (by omega) (by omega)⟩

theorem refEnough_is (s k : Int) (w : World) (hs : s ≤ 9223372036854775807) (hk : k ≤ 9223372036854775807) :
    Calls Try.prog 14 #[.int .i64 s, .int .i64 k] w fun e w' =>
      e = .returned (.agg #[.int .i64 (fuel s k), .int .i64 (stack s), .int .i64 (heap s k)]) ∧ Below w.heap.size w w' := by
  obtain ⟨h1, h2, h3⟩ := same s k hs hk
  have := refEnough_calls s k w
  rw [h1, h2, h3] at this
  exact this

attribute [local go_sem high] eqA23
set_option maxHeartbeats 800000 in
theorem law_calls (s k : Int) (w : World) (hs : -9223372036854775808 ≤ s ∧ s ≤ 9223372036854775807) (hk : -9223372036854775808 ≤ k ∧ k ≤ 9223372036854775807) :
    Calls Try.prog 3 #[.int .i64 s, .int .i64 k] w fun e w' => e = .returned (.bool true) ∧ Below w.heap.size w w' := by
  have H : Aside0 (bound_Enough.f s k = some (fuel s k, stack s, heap s k)) := ⟨enough_is s k hs.1 hs.2 hk.1 hk.2⟩
  go_enter Try.func3, Try.ntmps3
  go_wp2_with fail
  refine (bound_Enough.calls s k _ _ _ _ H.out).mono ?_
  rintro e w1 ⟨rfl, h1⟩
  go_wp2_with fail
  refine (refEnough_is s k _ hs.2 hk.2).mono ?_
  rintro e w2 ⟨rfl, h2⟩
  go_wp2_with fail
  refine (sacristanlaw24_awake.calls true _ awake_is).mono ?_
  rintro e w3 ⟨rfl, h3⟩
  go_wp2_with fail
  go_ret
  exact ⟨rfl, h1.trans ((h2.mono h1.size).trans (h3.mono (Nat.le_trans h1.size h2.size)))⟩
end Go.Proofs.Ytkidnmjaioejaaa.Bm
