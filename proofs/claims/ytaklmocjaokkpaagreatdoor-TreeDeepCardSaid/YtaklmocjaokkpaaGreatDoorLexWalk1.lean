/- The lexer's small functions, walked: strconv.ParseUint at a digit, ends, digit, escaped. Conditions: the lexer's block is known; the two errors of strconv hold interface values. -/
import Derived.Test.YtaklmocjaokkpaaGreatDoorLexSpec
namespace Go.Proofs.YtaklmocjaokkpaaGreatDoor.Lx
open Go.RowKit Go.Proofs.YtaklmocjaokkpaaGreatDoor.Mem

/-- What strconv's two errors hold. -/
def Glob (w : World) : Prop := (∃ te pe, w.cell? ⟨4, 0, none⟩ = some (.iface te pe)) ∧ (∃ te pe, w.cell? ⟨5, 0, none⟩ = some (.iface te pe))
theorem Glob.chg {F : Nat → Prop} {w w' : World} (h : Glob w) (hc : Chg F w w') (h1 : ¬ F 4) (h2 : ¬ F 5) : Glob w' :=
  ⟨h.1.imp fun _ ⟨p, hp⟩ => ⟨p, hc.cell hp h1⟩, h.2.imp fun _ ⟨p, hp⟩ => ⟨p, hc.cell hp h2⟩⟩

def PubEnds (c : Nat) (w : World) (e : Ending) (w' : World) : Prop :=
  (∀ d, hexv c = some d → e = .returned (.tuple #[.int .u64 d, .nilIface])) ∧ (hexv c = none → ∃ x N, e = .returned (.tuple #[.int .u64 x, .iface 161 (.pointer (some ⟨N, 0, none⟩))])) ∧ Below w.heap.size w w'

set_option maxHeartbeats 1000000 in
theorem pu_pub (c : UInt8) (w : World) (hg : Glob w) :
    Calls Tryz.prog 134 #[.string ⟨#[c]⟩, .int .i64 16, .int .i64 8] w (PubEnds c.toNat w) := by
  have H := pu16 c w
  obtain ⟨te, pe, hv⟩ := hg.1
  rcases hd : hexv c.toNat with _ | d
  · obtain ⟨H2⟩ : Nonempty (Hid (Calls Tryz.prog 143 #[.string ⟨#[c]⟩, .int .i64 16, .int .i64 8] w fun e w' => ∃ x, e = .returned (.tuple #[.int .u64 x, .iface 160 (.int .i64 2)]) ∧ Below w.heap.size w w')) :=
      ⟨Lib.hid (H.mono fun e w' h => by obtain ⟨x, hx⟩ := h.2.1 hd; exact ⟨x, hx, h.2.2⟩)⟩
    clear H
    have HD := Lib.hid hd
    clear hd
    go_enter Tryz.func134, Tryz.ntmps134
    go_wp2_with fail
    refine H2.out.mono ?_
    rintro e w1 ⟨x, rfl, hb⟩
    have hv1 : w1.cell? ⟨4, 0, none⟩ = some (.iface te pe) := by rw [hb.cell (World.block_lt_of_cell? w _ hv)]; exact hv
    have HB := Lib.hid hb
    clear hb hv
    go_wp2_with fail
    refine (Tryz.strconv_toError_syntax _ _ _ _ _ _ (by show (1 : Nat) ≤ _; omega) hv1 (.inr ⟨te, pe, rfl⟩)).mono ?_
    rintro e w2 ⟨N, rfl, hN, hN2, hb2⟩
    have HB2 := Lib.hid hb2
    clear hN hN2 hb2 hv1
    go_wp2_with fail
    go_ret2
    refine ⟨fun d h => (by rw [HD.out] at h; cases h), fun _ => ⟨_, N, rfl⟩, HB.out.trans (HB2.out.mono HB.out.size)⟩
  · obtain ⟨H2⟩ : Nonempty (Hid (Calls Tryz.prog 143 #[.string ⟨#[c]⟩, .int .i64 16, .int .i64 8] w fun e w' => e = .returned (.tuple #[.int .u64 d, .nilIface]) ∧ Below w.heap.size w w')) :=
      ⟨Lib.hid (H.mono fun e w' h => ⟨h.1 d hd, h.2.2⟩)⟩
    clear H hv
    have HD := Lib.hid hd
    clear hd
    go_enter Tryz.func134, Tryz.ntmps134
    go_wp2_with fail
    refine H2.out.mono ?_
    rintro e w1 ⟨rfl, hb⟩
    have HB := Lib.hid hb
    clear hb
    go_wp2_with fail
    go_ret2
    exact ⟨fun d' h => (by rw [HD.out] at h; cases h; rfl), fun h => (by rw [HD.out] at h; cases h), HB.out⟩

theorem ends_spec (c : UInt8) : decide (0 ≤ Lib.indexByte [32, 9, 10, 13, 59, 40, 41, 34] c) = ends c := by
  have : ∀ n : Fin 256, decide (0 ≤ Lib.indexByte [32, 9, 10, 13, 59, 40, 41, 34] (UInt8.ofNat n.val)) = ends (UInt8.ofNat n.val) := by decide +kernel
  have h := this ⟨c.toNat, c.toNat_lt⟩
  simpa using h

theorem ends_calls (c : UInt8) (w : World) : Calls Tryz.prog 114 #[.int .u8 c.toNat] w fun e w' => e = .returned (.bool (ends c)) ∧ w' = w := by
  have HC := Tryz.strings_IndexByte ⟨#[32, 9, 10, 13, 59, 40, 41, 34]⟩ c.toNat w
  have hx := ends_spec c
  have e1 : ((c.toNat : Int).toNat.toUInt8) = c := by simp
  rw [e1] at HC
  have HC : Calls Tryz.prog 92 #[.string ⟨#[32, 9, 10, 13, 59, 40, 41, 34]⟩, .int .u8 c.toNat] w fun e w' => e = .returned (.int .i64 (Lib.indexByte [32, 9, 10, 13, 59, 40, 41, 34] c)) ∧ w' = w := HC
  generalize Lib.indexByte [32, 9, 10, 13, 59, 40, 41, 34] c = i at *
  have HC := Lib.hid HC
  rw [← hx]
  clear hx e1
  go_enter Tryz.func114, Tryz.ntmps114
  go_wp2_with fail
  refine HC.out.mono ?_
  rintro e w1 ⟨rfl, rfl⟩
  go_wp2_with fail
  go_ret
  exact ⟨rfl, rfl⟩
end Go.Proofs.YtaklmocjaokkpaaGreatDoor.Lx
