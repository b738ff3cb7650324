/- What is enough, as plain arithmetic: a product that is cut at 2^63 - 2, its laws, and what the printed function 'bound_Enough.f' comes to. No condition. -/
import Derived.Test.YtkidnmjaioejaaaPBoundGrowsx2
import Derived.Laws.MathBits
namespace Go.Proofs.Ytkidnmjaioejaaa.Bm
open Go.RowKit Go.Proofs.Ytkidnmjaioejaaa.PBoundGrows Go.Proofs.YtkidnmjaioejaaaW.PrintWords Go.Proofs.YtkidnmjaioejaaaW.PrintLast

/-- A product, at most that. -/
def T (a b : Int) : Int := if a * b > 9223372036854775806 then 9223372036854775806 else a * b

theorem u64_of {x : Int} (h0 : 0 ≤ x) (h1 : x < 18446744073709551616) : IntKind.u64.wrap x = x := by
  have : IntKind.u64.wrap x = x % 18446744073709551616 := by
    simp [IntKind.wrap, IntKind.bits, IntKind.signed]
  rw [this]; omega
theorem u64_mod (x : Int) : IntKind.u64.wrap x = x % 18446744073709551616 := by
  simp [IntKind.wrap, IntKind.bits, IntKind.signed]

theorem mul64 (a b : Int) (ha0 : 0 ≤ a) (ha : a < 18446744073709551616) (hb0 : 0 ≤ b) (hb : b < 18446744073709551616) :
    bits_Mul64.f a b = some (a * b / 18446744073709551616, a * b % 18446744073709551616) := by
  unfold bits_Mul64.f
  rw [and_low32 a ha0 ha, and_low32 b hb0 hb]
  have e : ((a / 4294967296 * (b % 4294967296)) % 18446744073709551616 + ((a % 4294967296 * (b % 4294967296)) % 18446744073709551616) / 4294967296) % 18446744073709551616 =
      IntKind.u64.wrap (IntKind.u64.wrap (a / 4294967296 * (b % 4294967296)) + IntKind.u64.wrap (a % 4294967296 * (b % 4294967296)) / 4294967296) := by
    simp only [u64_mod]
  have h := mul64_arith a b ha0 ha hb0 hb
  rw [and_low32 (IntKind.u64.wrap (IntKind.u64.wrap (a / 4294967296 * (b % 4294967296)) + IntKind.u64.wrap (a % 4294967296 * (b % 4294967296)) / 4294967296)) (by rw [u64_mod]; omega) (by rw [u64_mod]; omega)]
  simp only [u64_mod] at *
  rw [h]

theorem times_is (a b : Int) (ha0 : 0 ≤ a) (ha : a < 18446744073709551616) (hb0 : 0 ≤ b) (hb : b < 18446744073709551616) :
    bound_times.f a b = some (T a b) := by
  unfold bound_times.f
  rw [mul64 a b ha0 ha hb0 hb]
  have hp : 0 ≤ a * b := Int.mul_nonneg ha0 hb0
  simp only [Option.bind_some, T]
  generalize a * b = p at *
  by_cases h1 : p / 18446744073709551616 > 0
  · rw [if_pos h1, if_pos (by omega)]
  · rw [if_neg h1]
    have : p % 18446744073709551616 = p := by omega
    rw [this]
    by_cases h2 : p > 9223372036854775806
    · rw [if_pos h2, if_pos h2]
    · rw [if_neg h2, if_neg h2]

theorem T_nonneg {a b : Int} (ha : 0 ≤ a) (hb : 0 ≤ b) : 0 ≤ T a b := by
  have := Int.mul_nonneg ha hb
  unfold T; split <;> omega
theorem T_le (a b : Int) : T a b ≤ 9223372036854775806 := by unfold T; split <;> omega
theorem T_pos {a b : Int} (ha : 1 ≤ a) (hb : 1 ≤ b) : 1 ≤ T a b := by
  have : 1 * 1 ≤ a * b := Int.mul_le_mul ha hb (by omega) (by omega)
  unfold T; split <;> omega
theorem T_mono {a b c d : Int} (h1 : a ≤ c) (h2 : b ≤ d) (hb : 0 ≤ b) (hc : 0 ≤ c) : T a b ≤ T c d := by
  have : a * b ≤ c * d := Int.mul_le_mul h1 h2 hb hc
  unfold T; split <;> split <;> omega

/-- Nought, or more. -/
def up (x : Int) : Int := if x < 0 then 0 else x
theorem mx_up (x : Int) : mx x 0 = up x := by unfold mx up; split <;> rfl
theorem up_nonneg (x : Int) : 0 ≤ up x := by unfold up; split <;> omega

/-- What is enough: fuel, stack, heap. -/
def fuel (s k : Int) : Int := T (up s + 1) (T 4 (up k) + 16)
def stack (s : Int) : Int := (if 9223372036854775790 < T 4 (up s) then 9223372036854775790 else T 4 (up s)) + 16
def heap (s k : Int) : Int := T (up s + 1) (up k + 4)

theorem wrap64_id {x : Int} (h0 : -9223372036854775808 ≤ x) (h1 : x ≤ 9223372036854775807) : wrap64 x = x := by unfold wrap64; omega

theorem enough_is (s k : Int) (hs0 : -9223372036854775808 ≤ s) (hs : s ≤ 9223372036854775807) (hk0 : -9223372036854775808 ≤ k) (hk : k ≤ 9223372036854775807) :
    bound_Enough.f s k = some (fuel s k, stack s, heap s k) := by
  have us : 0 ≤ up s ∧ up s ≤ 9223372036854775807 := by unfold up; split <;> omega
  have uk : 0 ≤ up k ∧ up k ≤ 9223372036854775807 := by unfold up; split <;> omega
  have t4k := T_nonneg (a := 4) (b := up k) (by omega) uk.1
  have t4k' := T_le 4 (up k)
  have t4s := T_nonneg (a := 4) (b := up s) (by omega) us.1
  have t4s' := T_le 4 (up s)
  unfold bound_Enough.f
  rw [mx_up, mx_up, u64_of us.1 (by omega), u64_of uk.1 (by omega), u64_of (x := up s + 1) (by omega) (by omega), u64_of (x := up k + 4) (by omega) (by omega),
    times_is 4 (up k) (by omega) (by omega) uk.1 (by omega)]
  simp only [Option.bind_some]
  rw [u64_of (x := T 4 (up k) + 16) (by omega) (by omega), times_is _ _ (by omega) (by omega) (by omega) (by omega)]
  simp only [Option.bind_some]
  rw [times_is 4 (up s) (by omega) (by omega) us.1 (by omega)]
  simp only [Option.bind_some]
  rw [times_is _ _ (by omega) (by omega) (by omega) (by omega)]
  simp only [Option.bind_some]
  have f1 := T_nonneg (a := up s + 1) (b := T 4 (up k) + 16) (by omega) (by omega)
  have f2 := T_le (up s + 1) (T 4 (up k) + 16)
  have g1 := T_nonneg (a := up s + 1) (b := up k + 4) (by omega) (by omega)
  have g2 := T_le (up s + 1) (up k + 4)
  have hm : mn (T 4 (up s)) 9223372036854775790 = if 9223372036854775790 < T 4 (up s) then 9223372036854775790 else T 4 (up s) := by
    unfold mn; rfl
  have hst : 0 ≤ stack s ∧ stack s ≤ 9223372036854775806 := by unfold stack; split <;> omega
  have e2 : mn (T 4 (up s)) 9223372036854775790 + 16 = stack s := by rw [hm]; rfl
  rw [e2, wrap64_id (x := T (up s + 1) (T 4 (up k) + 16)) (by omega) (by omega), wrap64_id (x := T (up s + 1) (up k + 4)) (by omega) (by omega),
    u64_of hst.1 (by omega), wrap64_id (by omega) (by omega)]
  rfl

theorem awake_is : sacristanlaw24_awake.f = some true := by
  unfold sacristanlaw24_awake.f
  rw [enough_is 0 1 (by omega) (by omega) (by omega) (by omega)]
  simp only [Option.bind_some]
  decide +kernel
theorem wf_i64 {x : Int} (h : (Lit.int .i64 x).wf = true) : -9223372036854775808 ≤ x ∧ x ≤ 9223372036854775807 := by
  simp [Lit.wf, IntKind.min, IntKind.max, IntKind.signed, IntKind.bits] at h; omega
theorem wf_u32 {x : Int} (h : (Lit.int .u32 x).wf = true) : 0 ≤ x ∧ x ≤ 4294967295 := by
  simp [Lit.wf, IntKind.min, IntKind.max, IntKind.signed, IntKind.bits] at h; omega
theorem up_mono {a b : Int} (h : a ≤ b) : up a ≤ up b := by unfold up; split <;> split <;> omega
end Go.Proofs.Ytkidnmjaioejaaa.Bm
