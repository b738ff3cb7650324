/- Of more steps, or more nodes, at least as much is enough, and some of each is. No condition. -/
import Derived.Test.YtkidnmjaioejaaaBoundMath
namespace Go.Proofs.Ytkidnmjaioejaaa.Pure
open Go.RowKit Go.Proofs.Ytkidnmjaioejaaa.PBoundGrows Go.Proofs.YtkidnmjaioejaaaW.PrintWords Go.Proofs.YtkidnmjaioejaaaW.PrintLast Go.Proofs.Ytkidnmjaioejaaa.Bm

theorem BoundGrows : sacristanlaw24_BoundGrows.Pure := by
  intro s k m n hs hk hm hn
  have hs := wf_i64 hs
  have hk := wf_i64 hk
  have hm := wf_u32 hm
  have hn := wf_u32 hn
  refine ⟨1, ?_⟩
  unfold sacristanlaw24_BoundGrows.f
  by_cases h1 : s > 1000000000000
  · rw [if_pos h1]; simp only [sacristanlaw24_BoundGrows.j0, awake_is]; rfl
  · rw [if_neg h1]
    by_cases h2 : k > 1000000000000
    · rw [decide_eq_true h2]; simp only [sacristanlaw24_BoundGrows.j0, awake_is]; rfl
    · rw [decide_eq_false h2]
      simp only [sacristanlaw24_BoundGrows.j0]
      rw [if_neg (by decide), wrap64_id (x := m) (by omega) (by omega), wrap64_id (x := n) (by omega) (by omega), wrap64_id (x := s + m) (by omega) (by omega),
        wrap64_id (x := k + n) (by omega) (by omega), enough_is s k (by omega) (by omega) (by omega) (by omega)]
      simp only [Option.bind_some]
      rw [enough_is (s + m) (k + n) (by omega) (by omega) (by omega) (by omega)]
      simp only [Option.bind_some]
      have us := up_mono (show s ≤ s + m by omega)
      have uk := up_mono (show k ≤ k + n by omega)
      have s0 := up_nonneg s
      have k0 := up_nonneg k
      have hT4 := T_mono (a := 4) (b := up k) (c := 4) (d := up (k + n)) (by omega) uk k0 (by omega)
      have hT4s := T_mono (a := 4) (b := up s) (c := 4) (d := up (s + m)) (by omega) us s0 (by omega)
      have p4 := T_nonneg (a := 4) (b := up k) (by omega) k0
      have p4s := T_nonneg (a := 4) (b := up s) (by omega) s0
      rw [if_pos (show fuel s k ≤ fuel (s + m) (k + n) from T_mono (by omega) (by omega) (by omega) (by omega)),
        if_pos (by unfold stack; split <;> split <;> omega : stack s ≤ stack (s + m)),
        if_pos (show heap s k ≤ heap (s + m) (k + n) from T_mono (by omega) (by omega) (by omega) (by omega)),
        if_pos (by have := T_pos (a := up s + 1) (b := T 4 (up k) + 16) (by omega) (by omega); unfold fuel; omega : fuel s k > 0),
        if_pos (by unfold stack; split <;> omega : stack s > 0),
        if_pos (by have := T_pos (a := up s + 1) (b := up k + 4) (by omega) (by omega); unfold heap; omega : heap s k > 0), awake_is]
      rfl
end Go.Proofs.Ytkidnmjaioejaaa.Pure
