/- The lexer's methods digit and escaped, walked. Conditions: the lexer's block is known; the two errors of strconv hold interface values. -/
import Derived.Test.YtaklmocjaokkpaaGreatDoorLexWalk1
import Derived.Deep.RegionHeld3
import Derived.Deep.DrawnRows
import Derived.IntWalk
namespace Go.Proofs.YtaklmocjaokkpaaGreatDoor.Lx
open Go.RowKit Go.Proofs.YtaklmocjaokkpaaGreatDoor.Mem

/-- The fault that is thrown. -/
def fault (p e : Nat) : List PanicEntry := [{ v := .iface 99 (.agg #[.int .i64 p, .int .i64 e]), recovered := false }]

/-- The lexer in block b. -/
def Lexer (b : Nat) (s : ByteArray) (i : Nat) (v : Value) (w : World) : Prop := w.heap[b]? = some (.cells #[.string s, .int .i64 i, v] 102 (0, 0))

theorem Lexer.c0 {b : Nat} {s : ByteArray} {i : Nat} {v : Value} {w : World} (h : Lexer b s i v w) : w.cell? ⟨b, 0, none⟩ = some (.string s) := cell_of h 0
theorem Lexer.c1 {b : Nat} {s : ByteArray} {i : Nat} {v : Value} {w : World} (h : Lexer b s i v w) : w.cell? ⟨b, 1, none⟩ = some (.int .i64 i) := cell_of h 1
theorem Lexer.c2 {b : Nat} {s : ByteArray} {i : Nat} {v : Value} {w : World} (h : Lexer b s i v w) : w.cell? ⟨b, 2, none⟩ = some v := cell_of h 2
theorem Lexer.f {b : Nat} {s : ByteArray} {i : Nat} {v : Value} {w : World} (h : Lexer b s i v w) (k : Nat) : w.frozen? ⟨b, k, none⟩ = false := free_of h k
theorem Lexer.set1 {b : Nat} {s : ByteArray} {i : Nat} {v : Value} {w : World} (h : Lexer b s i v w) {x : Int} {j : Nat} (hx : x = j) : Lexer b s j v (w.setCell ⟨b, 1, none⟩ (.int .i64 x)) := by
  subst hx
  exact (blk_set h 1 _).trans rfl
theorem Lexer.set2 {b : Nat} {s : ByteArray} {i : Nat} {v u : Value} {w : World} (h : Lexer b s i v w) : Lexer b s i u (w.setCell ⟨b, 2, none⟩ u) := (blk_set h 2 _).trans rfl
theorem Lexer.chg {F : Nat → Prop} {b : Nat} {s : ByteArray} {i : Nat} {v : Value} {w w' : World} (h : Lexer b s i v w) (hc : Chg F w w') (hf : ¬ F b) : Lexer b s i v w' := hc.blk h hf

/-- How digit, escaped end. -/
def StepEnds (b : Nat) (s : ByteArray) (v : Value) (w : World) (r : Except (Nat × Nat) (Int × Nat)) (e : Ending) (w' : World) : Prop :=
  match r with
  | .ok (c, j) => e = .returned (.int .u8 c) ∧ Lexer b s j v w' ∧ Chg (· = b) w w'
  | .error (p, n) => e = .panicked (fault p n) ∧ Chg (· = b) w w'

def hexR (s : List UInt8) (p : Nat) : Except (Nat × Nat) (Int × Nat) := match hexAt s p with | .ok d => .ok ((d : Int), p + 1) | .error x => .error x
def escR (s : List UInt8) (p : Nat) : Except (Nat × Nat) (Int × Nat) := match esc s p with | .ok (c, j) => .ok ((c.toNat : Int), j) | .error x => .error x

theorem slice_one (s : ByteArray) (i : Nat) (h : i < s.size) : s.extract i (i + 1) = ⟨#[s[i]]⟩ := by
  apply ByteArray.ext
  rw [ByteArray.data_extract]
  have h' : i < s.data.size := h
  apply Array.ext
  · rw [Array.size_extract]; show min (i + 1) s.data.size - i = 1; omega
  · intro j h1 h2
    have h2' : j < 1 := h2
    obtain rfl : j = 0 := by omega
    rw [Array.getElem_extract]
    rfl

theorem slice_run {P : Program} (t : TypeId) (ht : P.underlying t = some .string) (s : ByteArray) (i j : Nat) (h1 : i ≤ j) (h2 : j ≤ s.size) (w : World) (x y : Int) (hx : x = i) (hy : y = j) :
    (Instr.slice t (.string s) (some (.int .i64 x)) (some (.int .i64 y)) none).run P w = .ok (.string (s.extract i j)) w := by
  subst hx hy
  have e1 : ((i : Int)).toNat = i := by omega
  have e2 : ((j : Int)).toNat = j := by omega
  simp [Instr.slice, run_underlying ht, Instr.sliceBounds, run_sliceBound, *]
theorem len_is (s : ByteArray) : s.data.toList.length = s.size := Array.length_toList
theorem at_get (s : ByteArray) (i : Nat) (h : i < s.size) : s.data.toList[i]? = some s[i] := by
  rw [List.getElem?_eq_getElem (by rw [len_is]; exact h)]
  rfl
theorem at_none (s : ByteArray) (i : Nat) (h : s.size ≤ i) : s.data.toList[i]? = none := List.getElem?_eq_none (by rw [len_is]; exact h)

theorem hexv_lt {c d : Nat} (h : hexv c = some d) : d < 16 := by
  unfold hexv at h
  split at h
  · cases h; omega
  · split at h
    · cases h; omega
    · split at h
      · cases h; omega
      · cases h

set_option maxRecDepth 100000 in
set_option maxHeartbeats 1000000 in
theorem digit_calls (s : ByteArray) (i b : Nat) (v : Value) (w : World) (hs : s.size ≤ 65536) (hi : i ≤ s.size) (hL : Lexer b s i v w) (hg : Glob w) :
    Calls Tryz.prog 126 #[.pointer (some ⟨b, 0, none⟩)] w (StepEnds b s v w (hexR s.data.toList i)) := by
  have c0 := hL.c0
  have c1 := hL.c1
  have f1 := hL.f 1
  by_cases hlt : i < s.size
  · have hP := fun (w : World) (hg : Glob w) => pu_pub s[i] w hg
    have hsl := slice_one s i hlt
    have hat := at_get s i hlt
    have HH : Hid (hexR s.data.toList i = match hexv s[i].toNat with | some d => .ok ((d : Int), i + 1) | none => .error (i, 10)) := by
      unfold hexR hexAt
      rw [hat]
      show _ = _
      simp only []
      cases hexv s[i].toNat <;> rfl
    clear hat
    generalize s[i] = c at *
    have HS := Lib.hid hsl
    have HL := Lib.hid hL
    have HG := Lib.hid hg
    clear hsl hL hg
    have hsr : ∀ w, (Instr.slice 9 (.string s) (some (.int .i64 i)) (some (.int .i64 ((i : Int) + 1))) none).run Tryz.prog w = .ok (.string ⟨#[c]⟩) w := fun w => by
      rw [slice_run 9 Tryz.underlying9 s i (i + 1) (by omega) (by omega) w _ _ rfl (by omega), HS.out]
    have i0 : (0 : Int) ≤ (i : Int) := by omega
    have i1 : (i : Int) < (s.size : Int) := by omega
    have i2 : IntKind.i64.wrap ((i : Int) + 1) = (i : Int) + 1 := IntWalk.i64_in _ (by omega)
    have i3 : (0 : Int) ≤ (i : Int) + 1 := by omega
    have i4 : ((i : Int) + 1).toNat = i + 1 := by omega
    have i5 : (i : Int) + 1 ≤ (s.size : Int) := by omega
    rcases hd : hexv c.toNat with _ | d
    · have HP : Hid (∀ (w : World), Glob w → Calls Tryz.prog 134 #[.string ⟨#[c]⟩, .int .i64 16, .int .i64 8] w fun e w' => ∃ x N, e = .returned (.tuple #[.int .u64 x, .iface 161 (.pointer (some ⟨N, 0, none⟩))]) ∧ Below w.heap.size w w') :=
        fun w hg => (hP w hg).mono fun e w' h => by obtain ⟨x, N, he⟩ := h.2.1 hd; exact ⟨x, N, he, h.2.2⟩
      have HH2 : Hid (hexR s.data.toList i = .error (i, 10)) := by rw [HH.out, hd]; rfl
      clear hP hd HH
      go_enter Tryz.func126, Tryz.ntmps126
      go_wp2_with fail
      go_quiet (fail)
      go_wp2_with fail
      go_region_held3 (fun w' => w'.cell? ⟨b, 0, none⟩ = some (.string s) ∧ w'.cell? ⟨b, 1, none⟩ = some (.int .i64 i)) (first | exact ⟨by assumption, by assumption⟩ | go_keep) (first | (go_at_call 134; refine (HP.out _ (by exact HG.out)).mono ?_; rintro e w1 ⟨x, N, rfl, h1⟩; have q0 : w1.cell? ⟨b, 0, none⟩ = some (.string s) := (h1.cell (World.block_lt_of_cell? w _ c0)).trans c0; have q1 : w1.cell? ⟨b, 1, none⟩ = some (.int .i64 i) := (h1.cell (World.block_lt_of_cell? w _ c1)).trans c1))
      go_wp2_with fail
      rw [HH2.out]
      exact ⟨rfl, rfl, ((Chg.refl _ _).drewN _).callee h1⟩
    · have HP : Hid (∀ (w : World), Glob w → Calls Tryz.prog 134 #[.string ⟨#[c]⟩, .int .i64 16, .int .i64 8] w fun e w' => e = .returned (.tuple #[.int .u64 d, .nilIface]) ∧ Below w.heap.size w w') :=
        fun w hg => (hP w hg).mono fun e w' h => ⟨h.1 d hd, h.2.2⟩
      have HH2 : Hid (hexR s.data.toList i = .ok ((d : Int), i + 1)) := by rw [HH.out, hd]; rfl
      have hd16 : d < 16 := hexv_lt hd
      clear hP hd HH
      go_enter Tryz.func126, Tryz.ntmps126
      go_wp2_with fail
      go_quiet (fail)
      go_wp2_with fail
      go_region_held3 (fun w' => w'.cell? ⟨b, 0, none⟩ = some (.string s) ∧ w'.cell? ⟨b, 1, none⟩ = some (.int .i64 i)) (first | exact ⟨by assumption, by assumption⟩ | go_keep) (first | (go_at_call 134; refine (HP.out _ (by exact HG.out)).mono ?_; rintro e w1 ⟨rfl, h1⟩; have q0 : w1.cell? ⟨b, 0, none⟩ = some (.string s) := (h1.cell (World.block_lt_of_cell? w _ c0)).trans c0; have q1 : w1.cell? ⟨b, 1, none⟩ = some (.int .i64 i) := (h1.cell (World.block_lt_of_cell? w _ c1)).trans c1; have q2 : w1.frozen? ⟨b, 1, none⟩ = false := (h1.frozen (World.block_lt_of_cell? w _ c1)).trans f1))
      go_wp2_with fail
      go_ret
      rw [HH2.out]
      have k1 : Chg (· = b) w w1 := ((Chg.refl _ _).drewN _).callee h1
      have k2 : Lexer b s i v w1 := HL.out.chg (F := fun _ => False) (((Chg.refl _ w).drewN _).callee h1) (fun h => h)
      exact ⟨rfl, k2.set1 (by omega), k1.set (fun _ => rfl) _⟩
  · have HH : Hid (hexR s.data.toList i = .error (s.size, 11)) := by
      unfold hexR hexAt
      rw [at_none s i (by omega), len_is]
      rfl
    clear hL hg
    go_enter Tryz.func126, Tryz.ntmps126
    go_wp2_with fail
    go_quiet (fail)
    go_wp2_with fail
    rw [HH.out]
    exact ⟨rfl, rfl, (Chg.refl _ _).drewN _⟩
end Go.Proofs.YtaklmocjaokkpaaGreatDoor.Lx
