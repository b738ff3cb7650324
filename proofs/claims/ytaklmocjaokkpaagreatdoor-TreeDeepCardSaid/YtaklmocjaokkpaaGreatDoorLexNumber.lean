/- The reference's Number: its letters, and its walk. No condition. -/
import Derived.Test.YtaklmocjaokkpaaGreatDoorLexWalk4
import Derived.Deep.RegionWith
namespace Go.Proofs.YtaklmocjaokkpaaGreatDoor.Lx
set_option linter.unusedVariables false
set_option linter.unusedSimpArgs false
open Go.RowKit Go.Proofs.YtaklmocjaokkpaaGreatDoor.Mem

/-- A number's digits, from 0 on. -/
def digs (n : Nat) : List UInt8 := if n < 10 then [UInt8.ofNat (48 + n)] else digs (n / 10) ++ [UInt8.ofNat (48 + n % 10)]
termination_by n
/-- Any number's letters. -/
def numb (n : Int) : List UInt8 := if n < 0 then 45 :: digs n.natAbs else digs n.natAbs

theorem digs_len_pow : ∀ (k n : Nat), n < 10 ^ (k + 1) → (digs n).length ≤ k + 1 := by
  intro k
  induction k with
  | zero => intro n h; unfold digs; rw [if_pos (by omega)]; simp
  | succ k ih =>
    intro n h
    unfold digs
    split
    · simp
    · have := ih (n / 10) (by rw [Nat.pow_succ] at h; omega)
      simp; omega
theorem digs_len (n : Nat) (h : n < 18446744073709551616) : (digs n).length ≤ 100 := by
  have := digs_len_pow 20 n (by omega); omega
theorem str_app (l m : List UInt8) : (⟨l.toArray⟩ : ByteArray) ++ ⟨m.toArray⟩ = ⟨(l ++ m).toArray⟩ := by
  apply ByteArray.ext; simp
theorem conv_one (W : World) (x : Nat) (hx : x < 256) : (convert 50 9 (.slice (some ⟨W.heap.size, 0, none⟩) 1 1)).run Tryz.prog (W.alloc (.cells #[.int .u8 (x : Int)] 5)) = .ok (.string ⟨#[UInt8.ofNat x]⟩) (W.alloc (.cells #[.int .u8 (x : Int)] 5)) := by
  have h1 : (UInt8.ofNat x).toNat = x := by simp; omega
  have h2 : OutRow 0 (.slice (some ⟨W.heap.size, 0, none⟩) 1 1) [UInt8.ofNat x] (W.alloc (.cells #[.int .u8 (x : Int)] 5)) := by
    have := World.ownsRow_lit (base := 0) (e := 5) (size := 1) W #[.int .u8 (x : Int)] 1 (Nat.zero_le _) (by decide) rfl
    unfold OutRow
    simp only [List.length_singleton, List.map_cons, List.map_nil, h1]
    exact this
  exact h2.conv

theorem conv_later {W1 w1 : World} {b : Nat} (x : Nat) (hx : x < 256) (hblk : W1.heap[b]? = some (.cells #[.int .u8 (x : Int)] 5 (0, 0))) (hb : Below W1.heap.size W1 w1) :
    (convert 50 9 (.slice (some ⟨b, 0, none⟩) 1 1)).run Tryz.prog w1 = .ok (.string ⟨#[UInt8.ofNat x]⟩) w1 := by
  have h1 : (UInt8.ofNat x).toNat = x := by simp; omega
  have hl : b < W1.heap.size := by
    rcases Nat.lt_or_ge b W1.heap.size with h | h
    · exact h
    · rw [Array.getElem?_eq_none h] at hblk; cases hblk
  have h2 : OutRow 0 (.slice (some ⟨b, 0, none⟩) 1 1) [UInt8.ofNat x] w1 := by
    unfold OutRow
    simp only [List.length_singleton, List.map_cons, List.map_nil, h1]
    exact ⟨by simp, .inr ⟨b, 1, _, rfl, Nat.zero_le _, (hb.block b hl).trans hblk, Nat.le_refl _, by decide, rfl, rfl⟩⟩
  exact h2.conv

set_option maxRecDepth 100000 in
set_option maxHeartbeats 2000000 in
theorem rdigits_small (n : Nat) (w : World) (h : n < 10) :
    Calls Tryz.prog 69 #[.int .u64 (n : Int)] w fun e w' => e = .returned (.string ⟨(digs n).toArray⟩) ∧ Below w.heap.size w w' := by
  have h3 : (n : Int) < 10 := by omega
  have h4 : IntKind.u8.wrap (n : Int) = (n : Int) := by simp [IntKind.wrap, IntKind.signed, IntKind.bits]; omega
  have h5 : IntKind.u8.wrap (48 + (n : Int)) = 48 + (n : Int) := by simp [IntKind.wrap, IntKind.signed, IntKind.bits]; omega
  have hcv := fun W => conv_one W (48 + n) (by omega)
  rw [show ((48 + n : Nat) : Int) = 48 + (n : Int) by push_cast; rfl] at hcv
  have HD : digs n = [UInt8.ofNat (48 + n)] := by unfold digs; rw [if_pos h]
  obtain ⟨c, hc⟩ : ∃ c, UInt8.ofNat (48 + n) = c := ⟨_, rfl⟩
  rw [HD]
  simp only [hc] at hcv ⊢
  clear hc HD
  go_enter Tryz.func69, Tryz.ntmps69
  go_wp2_with fail
  go_ret
  exact ⟨rfl, (Below.refl _ _).alloc (Nat.le_refl _) _⟩

set_option maxRecDepth 100000 in
set_option maxHeartbeats 2000000 in
theorem rdigits_calls : ∀ (k n : Nat) (w : World), n < 10 ^ (k + 1) → n < 18446744073709551616 →
    Calls Tryz.prog 69 #[.int .u64 (n : Int)] w fun e w' => e = .returned (.string ⟨(digs n).toArray⟩) ∧ Below w.heap.size w w' := by
  intro k
  induction k with
  | zero => intro n w h h2; exact rdigits_small n w (by omega)
  | succ k ih =>
    intro n w h h2
    by_cases h3 : n < 10
    · exact rdigits_small n w h3
    · have h3' : ¬ (n : Int) < 10 := by omega
      have HD : digs n = digs (n / 10) ++ [UInt8.ofNat (48 + n % 10)] := by
        conv => lhs; unfold digs
        rw [if_neg h3]
      obtain ⟨x, hx⟩ : ∃ x, x = n / 10 := ⟨_, rfl⟩
      obtain ⟨y, hy⟩ : ∃ y, y = n % 10 := ⟨_, rfl⟩
      rw [← hx, ← hy] at HD
      have q1 : IntKind.u64.wrap ((n : Int) / 10) = (x : Int) := by simp [IntKind.wrap, IntKind.signed, IntKind.bits]; omega
      have q2 : (n : Int).tmod 10 = (y : Int) := by rw [Int.tmod_eq_emod_of_nonneg (by omega)]; omega
      have q3 : IntKind.u8.wrap (y : Int) = (y : Int) := by simp [IntKind.wrap, IntKind.signed, IntKind.bits]; omega
      have q4 : IntKind.u8.wrap (48 + (y : Int)) = 48 + (y : Int) := by simp [IntKind.wrap, IntKind.signed, IntKind.bits]; omega
      have hcv := fun W => conv_one W (48 + y) (by omega)
      rw [show ((48 + y : Nat) : Int) = 48 + (y : Int) by push_cast; rfl] at hcv
      have hcl := fun (W1 w1 : World) (b : Nat) => @conv_later W1 w1 b (48 + y) (by omega)
      rw [show ((48 + y : Nat) : Int) = 48 + (y : Int) by push_cast; rfl] at hcl
      obtain ⟨c, hc⟩ : ∃ c, UInt8.ofNat (48 + y) = c := ⟨_, rfl⟩
      simp only [hc] at hcv hcl HD
      have HDD := Lib.hid HD
      clear HD
      have HCL := Lib.hid hcl
      have hcd : ∀ W : World, (convert 50 9 (.slice (some ⟨W.heap.size, 0, none⟩) 1 1)).run Tryz.prog (W.alloc (.cells #[.int .u8 (48 + (y : Int))] 5)).drew = .ok (.string ⟨#[c]⟩) (W.alloc (.cells #[.int .u8 (48 + (y : Int))] 5)).drew := fun W => hcv W.drew
      clear hc hcl
      have IH := fun w => Lib.hid (ih x w (by rw [Nat.pow_succ] at h; omega) (by omega))
      have hxl : (digs x).length ≤ 100 := digs_len x (by omega)
      clear ih hx hy
      go_enter Tryz.func69, Tryz.ntmps69
      go_wp2_with fail
      go_region_with (go_at_call 69; refine (IH _).out.mono ?_; rintro e w1 ⟨rfl, hb1⟩; try (have hcw := HCL.out _ _ _ (new_ad _ _ _ rfl) hb1); try (have hcw := HCL.out _ _ _ (blk_new _ _) hb1))
      all_goals try go_wp2_with fail
      all_goals
        go_ret
        rw [HDD.out]
        refine ⟨congrArg (fun b => Ending.returned (Value.string b)) (str_app (digs x) [c]), ?_⟩
        clear HDD HCL hcd hcv IH
        have z : w.heap.size ≤ w.heap.size := Nat.le_refl _
        first
          | exact (((Below.refl _ w).alloc z _).drew).trans (hb1.mono (by simp))
          | exact ((Below.refl _ w).drew.alloc z _).trans (hb1.mono (by simp))
          | exact ((Below.refl _ w).drew.trans hb1).alloc hb1.size _
          | exact (((Below.refl _ w).drew.trans hb1).alloc hb1.size _).drew
end Go.Proofs.YtaklmocjaokkpaaGreatDoor.Lx
