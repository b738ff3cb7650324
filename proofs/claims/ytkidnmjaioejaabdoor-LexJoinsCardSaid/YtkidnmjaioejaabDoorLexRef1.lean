/- The reference's small functions of the lexer, walked: blank, ends, hex. No condition. -/
import Derived.Test.YtkidnmjaioejaabDoorLexWalk10
namespace Go.Proofs.YtkidnmjaioejaabDoor.Lx
open Go.RowKit Go.Proofs.YtkidnmjaioejaabDoor.Mem

theorem u8_beq (c : UInt8) (n : Nat) (h : n < 256) : ((c.toNat : Int) == (n : Int)) = (c == UInt8.ofNat n) := by
  rw [Bool.eq_iff_iff]
  simp only [beq_iff_eq]
  constructor
  · intro e
    apply UInt8.toNat_inj.1
    rw [UInt8.toNat_ofNat']
    omega
  · intro e
    rw [e, UInt8.toNat_ofNat']
    omega

theorem rblank_calls (c : UInt8) (w : World) : Calls Tryd.prog 19 #[.int .u8 c.toNat] w fun e w' => e = .returned (.bool (blank c)) ∧ w' = w := by
  have h1 := u8_beq c 32 (by decide)
  have h2 := u8_beq c 9 (by decide)
  have h3 := u8_beq c 10 (by decide)
  have h4 := u8_beq c 13 (by decide)
  have HB : Hid (blank c = ((c == 32) || (c == 9) || (c == 10) || (c == 13))) := rfl
  generalize c.toNat = n at *
  rw [HB.out]
  replace h1 : ((n : Int) == 32) = (c == 32) := h1
  replace h2 : ((n : Int) == 9) = (c == 9) := h2
  replace h3 : ((n : Int) == 10) = (c == 10) := h3
  replace h4 : ((n : Int) == 13) = (c == 13) := h4
  cases k1 : c == 32
  all_goals cases k2 : c == 9
  all_goals cases k3 : c == 10
  all_goals cases k4 : c == 13
  all_goals
    rw [k1] at h1
    rw [k2] at h2
    rw [k3] at h3
    rw [k4] at h4
    clear k1 k2 k3 k4 HB
    go_enter Tryd.func19, Tryd.ntmps19
    go_wp2
    go_ret
    exact ⟨rfl, rfl⟩
theorem rends_calls (c : UInt8) (w : World) : Calls Tryd.prog 23 #[.int .u8 c.toNat] w fun e w' => e = .returned (.bool (ends c)) ∧ w' = w := by
  have HC := Lib.hid (rblank_calls c)
  have h1 := u8_beq c 59 (by decide)
  have h2 := u8_beq c 40 (by decide)
  have h3 := u8_beq c 41 (by decide)
  have h4 := u8_beq c 34 (by decide)
  have HB : Hid (ends c = ((blank c) || (c == 59) || (c == 40) || (c == 41) || (c == 34))) := rfl
  generalize c.toNat = n at *
  rw [HB.out]
  clear HB
  generalize blank c = bl at *
  replace h1 : ((n : Int) == 59) = (c == 59) := h1
  replace h2 : ((n : Int) == 40) = (c == 40) := h2
  replace h3 : ((n : Int) == 41) = (c == 41) := h3
  replace h4 : ((n : Int) == 34) = (c == 34) := h4
  cases bl
  all_goals cases k1 : c == 59
  all_goals cases k2 : c == 40
  all_goals cases k3 : c == 41
  all_goals cases k4 : c == 34
  all_goals
    rw [k1] at h1
    rw [k2] at h2
    rw [k3] at h3
    rw [k4] at h4
    clear k1 k2 k3 k4
    go_enter Tryd.func23, Tryd.ntmps23
    go_wp2_with (go_at_call 19; refine (HC.out _).mono ?_; rintro e w' ⟨rfl, rfl⟩)
    go_ret
    exact ⟨rfl, rfl⟩

theorem rhex_calls (n : Nat) (h : n < 256) (w : World) : Calls Tryd.prog 28 #[.int .u8 n] w fun e w' => e = .returned (.tuple #[.int .u8 ((hexv n).getD 0 : Nat), .bool (hexv n).isSome]) ∧ w' = w := by
  have hc : (48 ≤ n ∧ n ≤ 57 ∧ hexv n = some (n - 48)) ∨ (97 ≤ n ∧ n ≤ 102 ∧ hexv n = some (n - 87)) ∨ (65 ≤ n ∧ n ≤ 70 ∧ hexv n = some (n - 55)) ∨ (n < 48 ∧ hexv n = none) ∨ (57 < n ∧ n < 65 ∧ hexv n = none) ∨ (70 < n ∧ n < 97 ∧ hexv n = none) ∨ (102 < n ∧ hexv n = none) := by
    unfold hexv
    by_cases a1 : 48 ≤ n ∧ n ≤ 57
    · rw [if_pos a1]; exact .inl ⟨a1.1, a1.2, rfl⟩
    · by_cases a2 : 97 ≤ n ∧ n ≤ 102
      · rw [if_neg a1, if_pos a2]; exact .inr (.inl ⟨a2.1, a2.2, rfl⟩)
      · by_cases a3 : 65 ≤ n ∧ n ≤ 70
        · rw [if_neg a1, if_neg a2, if_pos a3]; exact .inr (.inr (.inl ⟨a3.1, a3.2, rfl⟩))
        · rw [if_neg a1, if_neg a2, if_neg a3]
          have : n < 48 ∨ (57 < n ∧ n < 65) ∨ (70 < n ∧ n < 97) ∨ 102 < n := by omega
          rcases this with h | h | h | h
          · exact .inr (.inr (.inr (.inl ⟨h, rfl⟩)))
          · exact .inr (.inr (.inr (.inr (.inl ⟨h.1, h.2, rfl⟩))))
          · exact .inr (.inr (.inr (.inr (.inr (.inl ⟨h.1, h.2, rfl⟩)))))
          · exact .inr (.inr (.inr (.inr (.inr (.inr ⟨h, rfl⟩)))))
  rcases hc with ⟨g1, g2, hv⟩ | ⟨g1, g2, hv⟩ | ⟨g1, g2, hv⟩ | ⟨g1, hv⟩ | ⟨g1, g2, hv⟩ | ⟨g1, g2, hv⟩ | ⟨g1, hv⟩
  all_goals
    rw [hv]
    clear hv
    go_enter Tryd.func28, Tryd.ntmps28
    go_wp2
    go_ret2
    exact ⟨by first | rfl | (simp; omega), rfl⟩
end Go.Proofs.YtkidnmjaioejaabDoor.Lx
