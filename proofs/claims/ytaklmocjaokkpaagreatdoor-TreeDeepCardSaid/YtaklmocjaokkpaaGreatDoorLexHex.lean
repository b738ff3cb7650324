/- strconv.ParseUint at one byte, base 16, 8 bits: a hexadecimal digit's value, or an error that is not nil. The one condition: the variable strconv.ErrSyntax holds an interface value. -/
import Derived.Test.YtaklmocjaokkpaaGreatDoorShelf
import Derived.Test.YtaklmocjaokkpaaGreatDoorMem
import Derived.Deep.QuietTactic
import Derived.BigQuiet
import Derived.WalkLawsBesides
import Derived.Lib.ConvBytes
import Derived.Lib.Hide
namespace Go.Proofs.YtaklmocjaokkpaaGreatDoor.Lx
open Go.RowKit Go.Proofs.YtaklmocjaokkpaaGreatDoor.Mem

/-- A hexadecimal digit's value. -/
def hexv (c : Nat) : Option Nat := if 48 ≤ c ∧ c ≤ 57 then some (c - 48) else if 97 ≤ c ∧ c ≤ 102 then some (c - 87) else if 65 ≤ c ∧ c ≤ 70 then some (c - 55) else none

theorem low_is (c : Nat) (h : c < 256) : bits .or .u8 (c : Int) 32 = ((c ||| 32 : Nat) : Int) := by
  have : ∀ c : Fin 256, bits .or .u8 ((c.val : Nat) : Int) 32 = ((c.val ||| 32 : Nat) : Int) := by decide +kernel
  exact this ⟨c, h⟩
theorem low_upper (c : Nat) (h : 65 ≤ c) (h2 : c ≤ 90) : c ||| 32 = c + 32 := by
  have : ∀ c : Fin 128, 65 ≤ c.val → c.val ≤ 90 → c.val ||| 32 = c.val + 32 := by decide +kernel
  exact this ⟨c, by omega⟩ h h2
theorem low_lower (c : Nat) (h : 97 ≤ c) (h2 : c ≤ 122) : c ||| 32 = c := by
  have : ∀ c : Fin 128, 97 ≤ c.val → c.val ≤ 122 → c.val ||| 32 = c.val := by decide +kernel
  exact this ⟨c, by omega⟩ h h2
theorem low_none (c : Nat) (h : c < 256) (h1 : ¬ (65 ≤ c ∧ c ≤ 90)) (h2 : ¬ (97 ≤ c ∧ c ≤ 122)) : c ||| 32 < 97 ∨ 122 < c ||| 32 := by
  have : ∀ c : Fin 256, ¬ (65 ≤ c.val ∧ c.val ≤ 90) → ¬ (97 ≤ c.val ∧ c.val ≤ 122) → (c.val ||| 32 < 97 ∨ 122 < c.val ||| 32) := by decide +kernel
  exact this ⟨c, h⟩ h1 h2

def HexEnds (c : Nat) (w : World) (e : Ending) (w' : World) : Prop :=
  (∀ d, hexv c = some d → e = .returned (.tuple #[.int .u64 d, .nilIface])) ∧ (hexv c = none → ∃ x, e = .returned (.tuple #[.int .u64 x, .iface 160 (.int .i64 2)])) ∧ Below w.heap.size w w'

theorem low_calls (n m : Nat) (h : n < 256) (hm : n ||| 32 = m) (w : World) :
    Calls Tryz.prog 153 #[.int .u8 n] w fun e w' => e = .returned (.int .u8 (m : Int)) ∧ w' = w := by
  have := Tryz.internal_strconv_lower (n : Int) w
  rw [low_is n h, hm] at this
  exact this

theorem bytes_below (w : World) (t : TypeId) (s : ByteArray) : Below w.heap.size w (Lib.bytesWorld w t s) := Lib.bytesWorld_below _ _ _

theorem mk_ok {n d : Nat} {w w' : World} {x : Int} (hd : hexv n = some d) (hx : x = d) (hb : Below w.heap.size w w') : HexEnds n w (.returned (.tuple #[.int .u64 x, .nilIface])) w' := by
  subst hx
  exact ⟨(fun d' h => by rw [hd] at h; cases h; rfl), (fun h => by rw [hd] at h; cases h), hb⟩
theorem mk_bad {n : Nat} {w w' : World} {x : Int} (hd : hexv n = none) (hb : Below w.heap.size w w') : HexEnds n w (.returned (.tuple #[.int .u64 x, .iface 160 (.int .i64 2)])) w' :=
  ⟨(fun d' h => by rw [hd] at h; cases h), fun _ => ⟨_, rfl⟩, hb⟩

theorem classes (n : Nat) (h : n < 256) : (48 ≤ n ∧ n ≤ 57 ∧ n ≠ 95 ∧ hexv n = some (n - 48)) ∨ (97 ≤ n ∧ n ≤ 102 ∧ n ≠ 95 ∧ n ||| 32 = n ∧ hexv n = some (n - 87)) ∨ (65 ≤ n ∧ n ≤ 70 ∧ n ≠ 95 ∧ n ||| 32 = n + 32 ∧ hexv n = some (n - 55)) ∨
    (¬ (48 ≤ n ∧ n ≤ 57) ∧ 103 ≤ n ||| 32 ∧ n ||| 32 ≤ 122 ∧ n ≠ 95 ∧ hexv n = none) ∨ (¬ (48 ≤ n ∧ n ≤ 57) ∧ (n ||| 32 < 97 ∨ 122 < n ||| 32) ∧ n ≠ 95 ∧ n ||| 32 < 256 ∧ hexv n = none) ∨ (n = 95 ∧ hexv n = none) := by
  have : ∀ n : Fin 256, (48 ≤ n.val ∧ n.val ≤ 57 ∧ n.val ≠ 95 ∧ hexv n.val = some (n.val - 48)) ∨ (97 ≤ n.val ∧ n.val ≤ 102 ∧ n.val ≠ 95 ∧ n.val ||| 32 = n.val ∧ hexv n.val = some (n.val - 87)) ∨ (65 ≤ n.val ∧ n.val ≤ 70 ∧ n.val ≠ 95 ∧ n.val ||| 32 = n.val + 32 ∧ hexv n.val = some (n.val - 55)) ∨
    (¬ (48 ≤ n.val ∧ n.val ≤ 57) ∧ 103 ≤ n.val ||| 32 ∧ n.val ||| 32 ≤ 122 ∧ n.val ≠ 95 ∧ hexv n.val = none) ∨ (¬ (48 ≤ n.val ∧ n.val ≤ 57) ∧ (n.val ||| 32 < 97 ∨ 122 < n.val ||| 32) ∧ n.val ≠ 95 ∧ n.val ||| 32 < 256 ∧ hexv n.val = none) ∨ (n.val = 95 ∧ hexv n.val = none) := by decide +kernel
  exact this ⟨n, h⟩

set_option maxHeartbeats 4000000 in
set_option maxRecDepth 100000 in
theorem pu16 (c : UInt8) (w : World) :
    Calls Tryz.prog 143 #[.string ⟨#[c]⟩, .int .i64 16, .int .i64 8] w (HexEnds c.toNat w) := by
  have hcv := Lib.run_convert_string_bytes (P := Tryz.prog) w 9 50 5 ⟨#[c]⟩ (u := .string) Tryz.underlying9 Tryz.underlying50 Tryz.underlying5
  have hB : (Lib.bytesWorld w 5 ⟨#[c]⟩).cell? ⟨w.heap.size, 0, none⟩ = some (.int .u8 c.toNat) := Lib.bytesWorld_cell w 5 ⟨#[c]⟩ 0 (Nat.zero_lt_one)
  have hbel : Below w.heap.size w (Lib.bytesWorld w 5 ⟨#[c]⟩) := bytes_below _ _ _
  obtain ⟨W1, hW1⟩ : ∃ W1, W1 = Lib.bytesWorld w 5 ⟨#[c]⟩ := ⟨_, rfl⟩
  rw [← hW1] at hcv hB hbel
  clear hW1
  have hc256 : c.toNat < 256 := c.toNat_lt
  generalize c.toNat = n at *
  have hs1 : (⟨#[c]⟩ : ByteArray).size = 1 := rfl
  rw [hs1] at hcv
  have HB := Lib.hid hbel
  clear hbel hs1
  have kk := classes n hc256
  obtain ⟨m, hm⟩ : ∃ m, n ||| 32 = m := ⟨_, rfl⟩
  have HC := Lib.hid (low_calls n m hc256 hm)
  rw [hm] at kk
  clear hm
  rcases kk with ⟨g1, g2, g3, hd⟩ | ⟨g1, g2, g3, rfl, hd⟩ | ⟨g1, g2, g3, rfl, hd⟩ | ⟨g1, g2, g3, g4, hd⟩ | ⟨g1, g2, g5, g3, hd⟩ | ⟨g1, hd⟩
  · have HD := Lib.hid hd
    clear hd
    go_enter Tryz.func143, Tryz.ntmps143
    go_wp2_with fail
    refine wp_loop_rounds 2 ?_
    rw [rounds_succ]
    go_wp2_with fail
    rw [rounds_succ]
    go_wp2_with fail
    go_ret2
    exact mk_ok HD.out (by omega) HB.out
  · have HD := Lib.hid hd
    clear hd
    go_enter Tryz.func143, Tryz.ntmps143
    go_wp2_with fail
    refine wp_loop_rounds 2 ?_
    rw [rounds_succ]
    go_wp2_with (go_at_call 153; refine (HC.out _).mono ?_; rintro e w' ⟨rfl, rfl⟩)
    rw [rounds_succ]
    go_wp2_with fail
    go_ret2
    exact mk_ok HD.out (by omega) HB.out
  · have HD := Lib.hid hd
    clear hd
    go_enter Tryz.func143, Tryz.ntmps143
    go_wp2_with fail
    refine wp_loop_rounds 2 ?_
    rw [rounds_succ]
    go_wp2_with (go_at_call 153; refine (HC.out _).mono ?_; rintro e w' ⟨rfl, rfl⟩)
    rw [rounds_succ]
    go_wp2_with fail
    go_ret2
    exact mk_ok HD.out (by omega) HB.out
  · have HD := Lib.hid hd
    clear hd
    go_enter Tryz.func143, Tryz.ntmps143
    go_wp2_with fail
    refine wp_loop_rounds 2 ?_
    rw [rounds_succ]
    go_wp2_with (go_at_call 153; refine (HC.out _).mono ?_; rintro e w' ⟨rfl, rfl⟩)
    all_goals go_ret2
    all_goals exact mk_bad HD.out HB.out
  · have HD := Lib.hid hd
    clear hd
    rcases g2 with g2 | g2
    all_goals
      go_enter Tryz.func143, Tryz.ntmps143
      go_wp2_with fail
      refine wp_loop_rounds 2 ?_
      rw [rounds_succ]
      go_wp2_with (go_at_call 153; refine (HC.out _).mono ?_; rintro e w' ⟨rfl, rfl⟩)
      all_goals go_ret2
      all_goals exact mk_bad HD.out HB.out
  · subst g1
    clear HC
    have HD := Lib.hid hd
    clear hd hc256
    have HC := Lib.hid (low_calls 95 127 (by decide) (by decide))
    go_enter Tryz.func143, Tryz.ntmps143
    go_wp2_with fail
    refine wp_loop_rounds 2 ?_
    rw [rounds_succ]
    go_wp2_with (go_at_call 153; refine (HC.out _).mono ?_; rintro e w' ⟨rfl, rfl⟩)
    all_goals go_ret2
    all_goals exact mk_bad HD.out HB.out
end Go.Proofs.YtaklmocjaokkpaaGreatDoor.Lx
