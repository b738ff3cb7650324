/- The reference's small functions of the lexer, walked: blank, ends, hex. No condition. -/
import Derived.Test.YtaklmocjaokkpaaGreatDoorLexWalk10
namespace Go.Proofs.YtaklmocjaokkpaaGreatDoor.Lx
open Go.RowKit Go.Proofs.YtaklmocjaokkpaaGreatDoor.Mem

theorem u8_beq (c : UInt8) (n : Nat) (h : n < 256) : ((c.toNat : Int) == (n : Int)) = (c == UInt8.ofNat n) := by
  rw [Bool.eq_iff_iff]
  simp only [beq_iff_eq]
  constructor
  · intro e
    apply UInt8.toNat_inj.1
    rw [UInt8.toNat_ofNat']
    omega
  · intro e
    rw [e, UInt8.toNat_ofNat']
    omega

theorem rblank_calls (c : UInt8) (w : World) : Calls Tryz.prog 117 #[.int .u8 c.toNat] w fun e w' => e = .returned (.bool (blank c)) ∧ w' = w := by
  have h1 := u8_beq c 32 (by decide)
  have h2 := u8_beq c 9 (by decide)
  have h3 := u8_beq c 10 (by decide)
  have h4 := u8_beq c 13 (by decide)
  have HB : Hid (blank c = ((c == 32) || (c == 9) || (c == 10) || (c == 13))) := rfl
  generalize c.toNat = n at *
  rw [HB.out]
  replace h1 : ((n : Int) == 32) = (c == 32) := h1
  replace h2 : ((n : Int) == 9) = (c == 9) := h2
  replace h3 : ((n : Int) == 10) = (c == 10) := h3
  replace h4 : ((n : Int) == 13) = (c == 13) := h4
  cases k1 : c == 32
  all_goals cases k2 : c == 9
  all_goals cases k3 : c == 10
  all_goals cases k4 : c == 13
  all_goals
    rw [k1] at h1
    rw [k2] at h2
    rw [k3] at h3
    rw [k4] at h4
    clear k1 k2 k3 k4 HB
    go_enter Tryz.func117, Tryz.ntmps117
    go_wp2
    go_ret
    exact ⟨rfl, rfl⟩
theorem rends_calls (c : UInt8) (w : World) : Calls Tryz.prog 100 #[.int .u8 c.toNat] w fun e w' => e = .returned (.bool (ends c)) ∧ w' = w := by
  have HC := Lib.hid (rblank_calls c)
  have h1 := u8_beq c 59 (by decide)
  have h2 := u8_beq c 40 (by decide)
  have h3 := u8_beq c 41 (by decide)
  have h4 := u8_beq c 34 (by decide)
  have HB : Hid (ends c = ((blank c) || (c == 59) || (c == 40) || (c == 41) || (c == 34))) := rfl
  generalize c.toNat = n at *
  rw [HB.out]
  clear HB
  generalize blank c = bl at *
  replace h1 : ((n : Int) == 59) = (c == 59) := h1
  replace h2 : ((n : Int) == 40) = (c == 40) := h2
  replace h3 : ((n : Int) == 41) = (c == 41) := h3
  replace h4 : ((n : Int) == 34) = (c == 34) := h4
  cases bl
  all_goals cases k1 : c == 59
  all_goals cases k2 : c == 40
  all_goals cases k3 : c == 41
  all_goals cases k4 : c == 34
  all_goals
    rw [k1] at h1
    rw [k2] at h2
    rw [k3] at h3
    rw [k4] at h4
    clear k1 k2 k3 k4
    go_enter Tryz.func100, Tryz.ntmps100
    go_wp2_with (go_at_call 117; refine (HC.out _).mono ?_; rintro e w' ⟨rfl, rfl⟩)
    go_ret
    exact ⟨rfl, rfl⟩
end Go.Proofs.YtaklmocjaokkpaaGreatDoor.Lx
