/- strconv.ParseUint at one byte, base 16, 8 bits: a hexadecimal digit's value, or an error that is not nil. The one condition: the variable strconv.ErrSyntax holds an interface value. What the lexer comes to, over a list of bytes and places: plain functions. No condition. The lexer's small functions, walked: strconv.ParseUint at a digit, ends, digit, escaped. Conditions: the lexer's block is known; the two errors of strconv hold interface values. What a number's word comes to: its value, and whether an int64 holds it. No condition. The lexer's methods digit and escaped, walked. Conditions: the lexer's block is known; the two errors of strconv hold interface values. The lexer's method escaped, walked. Conditions: the lexer's block is known; the two errors of strconv hold interface values. -/
import Derived.Test.YtaklmocjaokkpaaDoorShelf
import Derived.Test.YtaklmocjaokkpaaDoorBase
import Derived.Deep.QuietTactic
import Derived.BigQuiet
import Derived.WalkLawsBesides
import Derived.Lib.ConvBytes
import Derived.Lib.Hide
import Derived.Lib.ParseIntBMem
import Derived.Lib.ParseIntBCases
import Derived.Deep.RegionHeld3
import Derived.Deep.DrawnRows
import Derived.IntWalk
namespace Go.Proofs.YtaklmocjaokkpaaDoor.Lx
open Go.RowKit Go.Proofs.YtaklmocjaokkpaaDoor.Mem

/-- A hexadecimal digit's value. -/
def hexv (c : Nat) : Option Nat := if 48 ≤ c ∧ c ≤ 57 then some (c - 48) else if 97 ≤ c ∧ c ≤ 102 then some (c - 87) else if 65 ≤ c ∧ c ≤ 70 then some (c - 55) else none

theorem low_is (c : Nat) (h : c < 256) : bits .or .u8 (c : Int) 32 = ((c ||| 32 : Nat) : Int) := by
  have : ∀ c : Fin 256, bits .or .u8 ((c.val : Nat) : Int) 32 = ((c.val ||| 32 : Nat) : Int) := by decide +kernel
  exact this ⟨c, h⟩
theorem low_upper (c : Nat) (h : 65 ≤ c) (h2 : c ≤ 90) : c ||| 32 = c + 32 := by
  have : ∀ c : Fin 128, 65 ≤ c.val → c.val ≤ 90 → c.val ||| 32 = c.val + 32 := by decide +kernel
  exact this ⟨c, by omega⟩ h h2
theorem low_lower (c : Nat) (h : 97 ≤ c) (h2 : c ≤ 122) : c ||| 32 = c := by
  have : ∀ c : Fin 128, 97 ≤ c.val → c.val ≤ 122 → c.val ||| 32 = c.val := by decide +kernel
  exact this ⟨c, by omega⟩ h h2
theorem low_none (c : Nat) (h : c < 256) (h1 : ¬ (65 ≤ c ∧ c ≤ 90)) (h2 : ¬ (97 ≤ c ∧ c ≤ 122)) : c ||| 32 < 97 ∨ 122 < c ||| 32 := by
  have : ∀ c : Fin 256, ¬ (65 ≤ c.val ∧ c.val ≤ 90) → ¬ (97 ≤ c.val ∧ c.val ≤ 122) → (c.val ||| 32 < 97 ∨ 122 < c.val ||| 32) := by decide +kernel
  exact this ⟨c, h⟩ h1 h2

def HexEnds (c : Nat) (w : World) (e : Ending) (w' : World) : Prop :=
  (∀ d, hexv c = some d → e = .returned (.tuple #[.int .u64 d, .nilIface])) ∧ (hexv c = none → ∃ x, e = .returned (.tuple #[.int .u64 x, .iface 85 (.int .i64 2)])) ∧ Below w.heap.size w w'

theorem low_calls (n m : Nat) (h : n < 256) (hm : n ||| 32 = m) (w : World) :
    Calls Tryd.prog 60 #[.int .u8 n] w fun e w' => e = .returned (.int .u8 (m : Int)) ∧ w' = w := by
  have := Tryd.internal_strconv_lower (n : Int) w
  rw [low_is n h, hm] at this
  exact this

theorem bytes_below (w : World) (t : TypeId) (s : ByteArray) : Below w.heap.size w (Lib.bytesWorld w t s) := Lib.bytesWorld_below _ _ _

theorem mk_ok {n d : Nat} {w w' : World} {x : Int} (hd : hexv n = some d) (hx : x = d) (hb : Below w.heap.size w w') : HexEnds n w (.returned (.tuple #[.int .u64 x, .nilIface])) w' := by
  subst hx
  exact ⟨(fun d' h => by rw [hd] at h; cases h; rfl), (fun h => by rw [hd] at h; cases h), hb⟩
theorem mk_bad {n : Nat} {w w' : World} {x : Int} (hd : hexv n = none) (hb : Below w.heap.size w w') : HexEnds n w (.returned (.tuple #[.int .u64 x, .iface 85 (.int .i64 2)])) w' :=
  ⟨(fun d' h => by rw [hd] at h; cases h), fun _ => ⟨_, rfl⟩, hb⟩

theorem classes (n : Nat) (h : n < 256) : (48 ≤ n ∧ n ≤ 57 ∧ n ≠ 95 ∧ hexv n = some (n - 48)) ∨ (97 ≤ n ∧ n ≤ 102 ∧ n ≠ 95 ∧ n ||| 32 = n ∧ hexv n = some (n - 87)) ∨ (65 ≤ n ∧ n ≤ 70 ∧ n ≠ 95 ∧ n ||| 32 = n + 32 ∧ hexv n = some (n - 55)) ∨
    (¬ (48 ≤ n ∧ n ≤ 57) ∧ 103 ≤ n ||| 32 ∧ n ||| 32 ≤ 122 ∧ n ≠ 95 ∧ hexv n = none) ∨ (¬ (48 ≤ n ∧ n ≤ 57) ∧ (n ||| 32 < 97 ∨ 122 < n ||| 32) ∧ n ≠ 95 ∧ n ||| 32 < 256 ∧ hexv n = none) ∨ (n = 95 ∧ hexv n = none) := by
  have : ∀ n : Fin 256, (48 ≤ n.val ∧ n.val ≤ 57 ∧ n.val ≠ 95 ∧ hexv n.val = some (n.val - 48)) ∨ (97 ≤ n.val ∧ n.val ≤ 102 ∧ n.val ≠ 95 ∧ n.val ||| 32 = n.val ∧ hexv n.val = some (n.val - 87)) ∨ (65 ≤ n.val ∧ n.val ≤ 70 ∧ n.val ≠ 95 ∧ n.val ||| 32 = n.val + 32 ∧ hexv n.val = some (n.val - 55)) ∨
    (¬ (48 ≤ n.val ∧ n.val ≤ 57) ∧ 103 ≤ n.val ||| 32 ∧ n.val ||| 32 ≤ 122 ∧ n.val ≠ 95 ∧ hexv n.val = none) ∨ (¬ (48 ≤ n.val ∧ n.val ≤ 57) ∧ (n.val ||| 32 < 97 ∨ 122 < n.val ||| 32) ∧ n.val ≠ 95 ∧ n.val ||| 32 < 256 ∧ hexv n.val = none) ∨ (n.val = 95 ∧ hexv n.val = none) := by decide +kernel
  exact this ⟨n, h⟩

set_option maxHeartbeats 4000000 in
set_option maxRecDepth 100000 in
theorem pu16 (c : UInt8) (w : World) :
    Calls Tryd.prog 49 #[.string ⟨#[c]⟩, .int .i64 16, .int .i64 8] w (HexEnds c.toNat w) := by
  have hcv := Lib.run_convert_string_bytes (P := Tryd.prog) w 9 58 5 ⟨#[c]⟩ (u := .string) Tryd.underlying9 Tryd.underlying58 Tryd.underlying5
  have hB : (Lib.bytesWorld w 5 ⟨#[c]⟩).cell? ⟨w.heap.size, 0, none⟩ = some (.int .u8 c.toNat) := Lib.bytesWorld_cell w 5 ⟨#[c]⟩ 0 (Nat.zero_lt_one)
  have hbel : Below w.heap.size w (Lib.bytesWorld w 5 ⟨#[c]⟩) := bytes_below _ _ _
  obtain ⟨W1, hW1⟩ : ∃ W1, W1 = Lib.bytesWorld w 5 ⟨#[c]⟩ := ⟨_, rfl⟩
  rw [← hW1] at hcv hB hbel
  clear hW1
  have hc256 : c.toNat < 256 := c.toNat_lt
  generalize c.toNat = n at *
  have hs1 : (⟨#[c]⟩ : ByteArray).size = 1 := rfl
  rw [hs1] at hcv
  have HB := Lib.hid hbel
  clear hbel hs1
  have kk := classes n hc256
  obtain ⟨m, hm⟩ : ∃ m, n ||| 32 = m := ⟨_, rfl⟩
  have HC := Lib.hid (low_calls n m hc256 hm)
  rw [hm] at kk
  clear hm
  rcases kk with ⟨g1, g2, g3, hd⟩ | ⟨g1, g2, g3, rfl, hd⟩ | ⟨g1, g2, g3, rfl, hd⟩ | ⟨g1, g2, g3, g4, hd⟩ | ⟨g1, g2, g5, g3, hd⟩ | ⟨g1, hd⟩
  · have HD := Lib.hid hd
    clear hd
    go_enter Tryd.func49, Tryd.ntmps49
    go_wp2_with fail
    refine wp_loop_rounds 2 ?_
    rw [rounds_succ]
    go_wp2_with fail
    rw [rounds_succ]
    go_wp2_with fail
    go_ret2
    exact mk_ok HD.out (by omega) HB.out
  · have HD := Lib.hid hd
    clear hd
    go_enter Tryd.func49, Tryd.ntmps49
    go_wp2_with fail
    refine wp_loop_rounds 2 ?_
    rw [rounds_succ]
    go_wp2_with (go_at_call 60; refine (HC.out _).mono ?_; rintro e w' ⟨rfl, rfl⟩)
    rw [rounds_succ]
    go_wp2_with fail
    go_ret2
    exact mk_ok HD.out (by omega) HB.out
  · have HD := Lib.hid hd
    clear hd
    go_enter Tryd.func49, Tryd.ntmps49
    go_wp2_with fail
    refine wp_loop_rounds 2 ?_
    rw [rounds_succ]
    go_wp2_with (go_at_call 60; refine (HC.out _).mono ?_; rintro e w' ⟨rfl, rfl⟩)
    rw [rounds_succ]
    go_wp2_with fail
    go_ret2
    exact mk_ok HD.out (by omega) HB.out
  · have HD := Lib.hid hd
    clear hd
    go_enter Tryd.func49, Tryd.ntmps49
    go_wp2_with fail
    refine wp_loop_rounds 2 ?_
    rw [rounds_succ]
    go_wp2_with (go_at_call 60; refine (HC.out _).mono ?_; rintro e w' ⟨rfl, rfl⟩)
    all_goals go_ret2
    all_goals exact mk_bad HD.out HB.out
  · have HD := Lib.hid hd
    clear hd
    rcases g2 with g2 | g2
    all_goals
      go_enter Tryd.func49, Tryd.ntmps49
      go_wp2_with fail
      refine wp_loop_rounds 2 ?_
      rw [rounds_succ]
      go_wp2_with (go_at_call 60; refine (HC.out _).mono ?_; rintro e w' ⟨rfl, rfl⟩)
      all_goals go_ret2
      all_goals exact mk_bad HD.out HB.out
  · subst g1
    clear HC
    have HD := Lib.hid hd
    clear hd hc256
    have HC := Lib.hid (low_calls 95 127 (by decide) (by decide))
    go_enter Tryd.func49, Tryd.ntmps49
    go_wp2_with fail
    refine wp_loop_rounds 2 ?_
    rw [rounds_succ]
    go_wp2_with (go_at_call 60; refine (HC.out _).mono ?_; rintro e w' ⟨rfl, rfl⟩)
    all_goals go_ret2
    all_goals exact mk_bad HD.out HB.out
end Go.Proofs.YtaklmocjaokkpaaDoor.Lx
namespace Go.Proofs.YtaklmocjaokkpaaDoor.Lx
open Go.RowKit

structure Tok where
  kind : Nat
  s : List UInt8
  n : Int
  at_ : Nat
deriving DecidableEq

def blank (c : UInt8) : Bool := c == 32 || c == 9 || c == 10 || c == 13
def ends (c : UInt8) : Bool := blank c || c == 59 || c == 40 || c == 41 || c == 34

/-- A hexadecimal digit at a place: its value; or a place and an error. -/
def hexAt (s : List UInt8) (p : Nat) : Except (Nat × Nat) Nat :=
  match s[p]? with
  | none => .error (s.length, 11)
  | some c => match hexv c.toNat with
    | none => .error (p, 10)
    | some d => .ok d

/-- Behind a backslash: a byte, and the place behind. -/
def esc (s : List UInt8) (p : Nat) : Except (Nat × Nat) (UInt8 × Nat) :=
  match s[p]? with
  | none => .error (s.length, 11)
  | some c =>
    if c = 34 ∨ c = 92 then .ok (c, p + 1)
    else if c = 110 then .ok (10, p + 1)
    else if c = 120 then
      match hexAt s (p + 1) with
      | .error x => .error x
      | .ok x => match hexAt s (p + 2) with
        | .error x => .error x
        | .ok y => .ok (UInt8.ofNat (16 * x + y), p + 3)
    else .error (p, 10)

/-- Behind a text's quote: its bytes, and the place behind. -/
def text (s : List UInt8) : Nat → Nat → List UInt8 → Except (Nat × Nat) (List UInt8 × Nat)
  | 0, _, _ => .error (s.length, 11)
  | k + 1, p, out =>
    match s[p]? with
    | none => .error (s.length, 11)
    | some c =>
      if c = 34 then .ok (out, p + 1)
      else if c = 92 then
        match esc s (p + 1) with
        | .error x => .error x
        | .ok (b, q) => text s k q (out ++ [b])
      else text s k (p + 1) (out ++ [c])

/-- Where a word ends. -/
def wordEnd (s : List UInt8) : Nat → Nat → Except (Nat × Nat) Nat
  | 0, p => .ok p
  | k + 1, p =>
    match s[p]? with
    | none => .ok p
    | some c => if ends c then .ok p else if c.toNat < 33 ∨ 126 < c.toNat then .error (p, 10) else wordEnd s k (p + 1)

def isDigit (c : UInt8) : Bool := decide (48 ≤ c.toNat) && decide (c.toNat ≤ 57)
/-- Is a word a number's? -/
def isNum (w : List UInt8) : Bool :=
  let d := if w.head? = some 45 then w.tail else w
  !d.isEmpty && d.all isDigit

/-- The token of a word. -/
def wordTok (w : List UInt8) (p : Nat) : Except (Nat × Nat) Tok :=
  if isNum w then
    match Lib.parseIntB 64 w with
    | .ok v => .ok ⟨4, [], v, p⟩
    | _ => .error (p, 10)
  else .ok ⟨3, w, 0, p⟩

/-- Where a note ends. -/
def noteEnd (s : List UInt8) (p : Nat) : Nat :=
  let i := Lib.indexByte (s.drop p) 10
  if 0 ≤ i then p + i.toNat else s.length

/-- What stands at a place: a token, or none; the place behind. -/
def next (s : List UInt8) (p : Nat) : Except (Nat × Nat) (Option Tok × Nat) :=
  match s[p]? with
  | none => .ok (none, p)
  | some c =>
    if blank c then .ok (none, p + 1)
    else if c = 59 then .ok (none, noteEnd s p)
    else if c = 40 then .ok (some ⟨1, [], 0, p⟩, p + 1)
    else if c = 41 then .ok (some ⟨2, [], 0, p⟩, p + 1)
    else if c = 34 then
      match text s (s.length + 1) (p + 1) [] with
      | .error x => .error x
      | .ok (out, q) => .ok (some ⟨5, out, 0, p⟩, q)
    else
      match wordEnd s (s.length + 1) p with
      | .error x => .error x
      | .ok q => match wordTok ((s.drop p).take (q - p)) p with
        | .error x => .error x
        | .ok t => .ok (some t, q)

/-- All tokens from a place on. -/
def toks (s : List UInt8) : Nat → Nat → List Tok → Except (Nat × Nat) (List Tok)
  | 0, _, l => .ok l
  | k + 1, p, l =>
    if p < s.length then
      match next s p with
      | .error x => .error x
      | .ok (t, q) => toks s k q (l ++ t.toList)
    else .ok l

/-- A source's tokens. -/
def tokens (s : List UInt8) : Except (Nat × Nat) (List Tok) :=
  if 65536 < s.length then .error (65536, 13) else toks s (s.length + 1) 0 []
end Go.Proofs.YtaklmocjaokkpaaDoor.Lx
namespace Go.Proofs.YtaklmocjaokkpaaDoor.Lx
open Go.RowKit Go.Proofs.YtaklmocjaokkpaaDoor.Mem

/-- What strconv's two errors hold. -/
def Glob (w : World) : Prop := (∃ te pe, w.cell? ⟨1, 0, none⟩ = some (.iface te pe)) ∧ (∃ te pe, w.cell? ⟨2, 0, none⟩ = some (.iface te pe))
theorem Glob.chg {F : Nat → Prop} {w w' : World} (h : Glob w) (hc : Chg F w w') (h1 : ¬ F 1) (h2 : ¬ F 2) : Glob w' :=
  ⟨h.1.imp fun _ ⟨p, hp⟩ => ⟨p, hc.cell hp h1⟩, h.2.imp fun _ ⟨p, hp⟩ => ⟨p, hc.cell hp h2⟩⟩

def PubEnds (c : Nat) (w : World) (e : Ending) (w' : World) : Prop :=
  (∀ d, hexv c = some d → e = .returned (.tuple #[.int .u64 d, .nilIface])) ∧ (hexv c = none → ∃ x N, e = .returned (.tuple #[.int .u64 x, .iface 86 (.pointer (some ⟨N, 0, none⟩))])) ∧ Below w.heap.size w w'

set_option maxHeartbeats 1000000 in
theorem pu_pub (c : UInt8) (w : World) (hg : Glob w) :
    Calls Tryd.prog 40 #[.string ⟨#[c]⟩, .int .i64 16, .int .i64 8] w (PubEnds c.toNat w) := by
  have H := pu16 c w
  obtain ⟨te, pe, hv⟩ := hg.1
  rcases hd : hexv c.toNat with _ | d
  · obtain ⟨H2⟩ : Nonempty (Hid (Calls Tryd.prog 49 #[.string ⟨#[c]⟩, .int .i64 16, .int .i64 8] w fun e w' => ∃ x, e = .returned (.tuple #[.int .u64 x, .iface 85 (.int .i64 2)]) ∧ Below w.heap.size w w')) :=
      ⟨Lib.hid (H.mono fun e w' h => by obtain ⟨x, hx⟩ := h.2.1 hd; exact ⟨x, hx, h.2.2⟩)⟩
    clear H
    have HD := Lib.hid hd
    clear hd
    go_enter Tryd.func40, Tryd.ntmps40
    go_wp2_with fail
    refine H2.out.mono ?_
    rintro e w1 ⟨x, rfl, hb⟩
    have hv1 : w1.cell? ⟨1, 0, none⟩ = some (.iface te pe) := by rw [hb.cell (World.block_lt_of_cell? w _ hv)]; exact hv
    have HB := Lib.hid hb
    clear hb hv
    go_wp2_with fail
    refine (Tryd.strconv_toError_syntax _ _ _ _ _ _ (by show (1 : Nat) ≤ _; omega) hv1 (.inr ⟨te, pe, rfl⟩)).mono ?_
    rintro e w2 ⟨N, rfl, hN, hN2, hb2⟩
    have HB2 := Lib.hid hb2
    clear hN hN2 hb2 hv1
    go_wp2_with fail
    go_ret2
    refine ⟨fun d h => (by rw [HD.out] at h; cases h), fun _ => ⟨_, N, rfl⟩, HB.out.trans (HB2.out.mono HB.out.size)⟩
  · obtain ⟨H2⟩ : Nonempty (Hid (Calls Tryd.prog 49 #[.string ⟨#[c]⟩, .int .i64 16, .int .i64 8] w fun e w' => e = .returned (.tuple #[.int .u64 d, .nilIface]) ∧ Below w.heap.size w w')) :=
      ⟨Lib.hid (H.mono fun e w' h => ⟨h.1 d hd, h.2.2⟩)⟩
    clear H hv
    have HD := Lib.hid hd
    clear hd
    go_enter Tryd.func40, Tryd.ntmps40
    go_wp2_with fail
    refine H2.out.mono ?_
    rintro e w1 ⟨rfl, hb⟩
    have HB := Lib.hid hb
    clear hb
    go_wp2_with fail
    go_ret2
    exact ⟨fun d' h => (by rw [HD.out] at h; cases h; rfl), fun h => (by rw [HD.out] at h; cases h), HB.out⟩

theorem ends_spec (c : UInt8) : decide (0 ≤ Lib.indexByte [32, 9, 10, 13, 59, 40, 41, 34] c) = ends c := by
  have : ∀ n : Fin 256, decide (0 ≤ Lib.indexByte [32, 9, 10, 13, 59, 40, 41, 34] (UInt8.ofNat n.val)) = ends (UInt8.ofNat n.val) := by decide +kernel
  have h := this ⟨c.toNat, c.toNat_lt⟩
  simpa using h

theorem ends_calls (c : UInt8) (w : World) : Calls Tryd.prog 26 #[.int .u8 c.toNat] w fun e w' => e = .returned (.bool (ends c)) ∧ w' = w := by
  have HC := Tryd.strings_IndexByte ⟨#[32, 9, 10, 13, 59, 40, 41, 34]⟩ c.toNat w
  have hx := ends_spec c
  have e1 : ((c.toNat : Int).toNat.toUInt8) = c := by simp
  rw [e1] at HC
  have HC : Calls Tryd.prog 16 #[.string ⟨#[32, 9, 10, 13, 59, 40, 41, 34]⟩, .int .u8 c.toNat] w fun e w' => e = .returned (.int .i64 (Lib.indexByte [32, 9, 10, 13, 59, 40, 41, 34] c)) ∧ w' = w := HC
  generalize Lib.indexByte [32, 9, 10, 13, 59, 40, 41, 34] c = i at *
  have HC := Lib.hid HC
  rw [← hx]
  clear hx e1
  go_enter Tryd.func26, Tryd.ntmps26
  go_wp2_with fail
  refine HC.out.mono ?_
  rintro e w1 ⟨rfl, rfl⟩
  go_wp2_with fail
  go_ret
  exact ⟨rfl, rfl⟩
end Go.Proofs.YtaklmocjaokkpaaDoor.Lx
namespace Go.Proofs.YtaklmocjaokkpaaDoor.Lx
open Go.RowKit

/-- The value of digits, behind a value. -/
def val (a : Nat) (l : List UInt8) : Nat := l.foldl (fun a c => 10 * a + (c.toNat - 48)) a
theorem val_nil (a : Nat) : val a [] = a := by unfold val; rw [List.foldl_nil]
theorem val_cons (a : Nat) (c : UInt8) (l : List UInt8) : val a (c :: l) = val (10 * a + (c.toNat - 48)) l := by unfold val; rw [List.foldl_cons]
theorem val_snoc (a : Nat) (c : UInt8) (l : List UInt8) : val a (l ++ [c]) = 10 * val a l + (c.toNat - 48) := by
  rw [val, List.foldl_append, List.foldl_cons, List.foldl_nil, ← val]
theorem val_append (a : Nat) (l m : List UInt8) : val a (l ++ m) = val (val a l) m := by
  unfold val; rw [List.foldl_append]
theorem val_ge (l : List UInt8) : ∀ a, a ≤ val a l := by
  induction l with
  | nil => intro a; exact Nat.le_refl _
  | cons c l ih => intro a; rw [val_cons]; have := ih (10 * a + (c.toNat - 48)); omega

theorem pum (l : List UInt8) : ∀ acc, l.all isDigit = true → acc ≤ 18446744073709551615 →
    Lib.parseUintM 18446744073709551615 acc l = if val acc l ≤ 18446744073709551615 then .ok (val acc l) else .range := by
  induction l with
  | nil => intro acc _ h; rw [Lib.parseUintM, val_nil, if_pos h]
  | cons c l ih =>
    intro acc hd h
    rw [List.all_cons, Bool.and_eq_true] at hd
    have hc : 48 ≤ c.toNat ∧ c.toNat ≤ 57 := by
      have := hd.1; unfold isDigit at this; simpa using this
    rw [Lib.parseUintM, if_pos hc, val_cons]
    have hv := val_ge l (10 * acc + (c.toNat - 48))
    by_cases h1 : 1844674407370955162 ≤ acc
    · rw [if_pos h1, if_neg (by omega)]
    · rw [if_neg h1]
      by_cases h2 : 18446744073709551615 < acc * 10 + (c.toNat - 48)
      · rw [if_pos h2, if_neg (by omega)]
      · rw [if_neg h2, ih _ hd.2 (by omega), Nat.mul_comm acc 10]
theorem pub64 (l : List UInt8) (hne : l ≠ []) (hd : l.all isDigit = true) :
    Lib.parseUintB 64 l = if val 0 l ≤ 18446744073709551615 then .ok (val 0 l) else .range := by
  unfold Lib.parseUintB
  rw [if_neg hne]
  exact pum l 0 hd (by decide)

/-- The digits of a word, and whether they are a negative number's. -/
def negW (w : List UInt8) : Bool := decide (w.head? = some 45)
def digW (w : List UInt8) : List UInt8 := if w.head? = some 45 then w.tail else w
theorem isNum_is (w : List UInt8) : isNum w = (!(digW w).isEmpty && (digW w).all isDigit) := rfl
/-- How great a number may be. -/
def topW (w : List UInt8) : Nat := if negW w then 9223372036854775808 else 9223372036854775807
theorem signed_is (v : Nat) : Lib.signedC (2 ^ (64 - 1)) (if v ≤ 18446744073709551615 then .ok v else .range) = if v ≤ 9223372036854775808 then .ok (if true = true then -(v : Int) else (v : Int)) else .range := by
  have e : 2 ^ (64 - 1) = 9223372036854775808 := by decide
  rw [e, if_pos rfl]
  by_cases h1 : v ≤ 18446744073709551615
  · rw [if_pos h1]
    show (if 9223372036854775808 < v then .range else .ok (-(v : Int)) : Lib.NumEnd Int) = _
    by_cases h2 : 9223372036854775808 < v
    · rw [if_pos h2, if_neg (by omega)]
    · rw [if_neg h2, if_pos (by omega)]
  · rw [if_neg h1, if_neg (by omega)]; rfl
theorem signless_is (v : Nat) : Lib.signlessC (2 ^ (64 - 1)) (if v ≤ 18446744073709551615 then .ok v else .range) = if v ≤ 9223372036854775807 then .ok (if false = true then -(v : Int) else (v : Int)) else .range := by
  have e : 2 ^ (64 - 1) = 9223372036854775808 := by decide
  rw [e, if_neg (by decide : ¬ false = true)]
  by_cases h1 : v ≤ 18446744073709551615
  · rw [if_pos h1]
    show (if 9223372036854775808 ≤ v then .range else .ok (v : Int) : Lib.NumEnd Int) = _
    by_cases h2 : 9223372036854775808 ≤ v
    · rw [if_pos h2, if_neg (by omega)]
    · rw [if_neg h2, if_pos (by omega)]
  · rw [if_neg h1, if_neg (by omega)]; rfl
theorem parse_num (w : List UInt8) (h : isNum w = true) :
    Lib.parseIntB 64 w = if val 0 (digW w) ≤ topW w then .ok (if negW w then -(val 0 (digW w) : Int) else (val 0 (digW w) : Int)) else .range := by
  rw [isNum_is, Bool.and_eq_true] at h
  obtain ⟨h1, h2⟩ := h
  have hne : digW w ≠ [] := by intro e; rw [e] at h1; cases h1
  cases w with
  | nil => exact absurd rfl hne
  | cons c r =>
    by_cases hc : c = 45
    · subst hc
      have e1 : digW (45 :: r) = r := rfl
      have e2 : negW (45 :: r) = true := rfl
      have e3 : topW (45 :: r) = 9223372036854775808 := rfl
      rw [e1] at hne h2
      rw [e1, e2, e3, Lib.parseIntB_minus, pub64 r hne h2]
      generalize val 0 r = v
      exact signed_is v
    · have hh : (c :: r).head? ≠ some 45 := by simp [hc]
      have e1 : digW (c :: r) = c :: r := by unfold digW; rw [if_neg hh]
      have e2 : negW (c :: r) = false := by unfold negW; rw [decide_eq_false hh]
      have e3 : topW (c :: r) = 9223372036854775807 := by unfold topW; rw [e2]; rfl
      rw [e1] at hne h2
      have hd : 48 ≤ c.toNat ∧ c.toNat ≤ 57 := by
        rw [List.all_cons, Bool.and_eq_true] at h2
        have := h2.1; unfold isDigit at this; simpa using this
      rw [e1, e2, e3, Lib.parseIntB_plain 64 c r (by omega) (by omega), pub64 (c :: r) hne h2]
      generalize val 0 (c :: r) = v
      exact signless_is v
end Go.Proofs.YtaklmocjaokkpaaDoor.Lx
namespace Go.Proofs.YtaklmocjaokkpaaDoor.Lx
open Go.RowKit Go.Proofs.YtaklmocjaokkpaaDoor.Mem

/-- The fault that is thrown. -/
def fault (p e : Nat) : List PanicEntry := [{ v := .iface 43 (.agg #[.int .i64 p, .int .i64 e]), recovered := false }]

/-- The lexer in block b. -/
def Lexer (b : Nat) (s : ByteArray) (i : Nat) (v : Value) (w : World) : Prop := w.heap[b]? = some (.cells #[.string s, .int .i64 i, v] 46 (0, 0))

theorem Lexer.c0 {b : Nat} {s : ByteArray} {i : Nat} {v : Value} {w : World} (h : Lexer b s i v w) : w.cell? ⟨b, 0, none⟩ = some (.string s) := cell_of h 0
theorem Lexer.c1 {b : Nat} {s : ByteArray} {i : Nat} {v : Value} {w : World} (h : Lexer b s i v w) : w.cell? ⟨b, 1, none⟩ = some (.int .i64 i) := cell_of h 1
theorem Lexer.c2 {b : Nat} {s : ByteArray} {i : Nat} {v : Value} {w : World} (h : Lexer b s i v w) : w.cell? ⟨b, 2, none⟩ = some v := cell_of h 2
theorem Lexer.f {b : Nat} {s : ByteArray} {i : Nat} {v : Value} {w : World} (h : Lexer b s i v w) (k : Nat) : w.frozen? ⟨b, k, none⟩ = false := free_of h k
theorem Lexer.set1 {b : Nat} {s : ByteArray} {i : Nat} {v : Value} {w : World} (h : Lexer b s i v w) {x : Int} {j : Nat} (hx : x = j) : Lexer b s j v (w.setCell ⟨b, 1, none⟩ (.int .i64 x)) := by
  subst hx
  exact (blk_set h 1 _).trans rfl
theorem Lexer.set2 {b : Nat} {s : ByteArray} {i : Nat} {v u : Value} {w : World} (h : Lexer b s i v w) : Lexer b s i u (w.setCell ⟨b, 2, none⟩ u) := (blk_set h 2 _).trans rfl
theorem Lexer.chg {F : Nat → Prop} {b : Nat} {s : ByteArray} {i : Nat} {v : Value} {w w' : World} (h : Lexer b s i v w) (hc : Chg F w w') (hf : ¬ F b) : Lexer b s i v w' := hc.blk h hf

/-- How digit, escaped end. -/
def StepEnds (b : Nat) (s : ByteArray) (v : Value) (w : World) (r : Except (Nat × Nat) (Int × Nat)) (e : Ending) (w' : World) : Prop :=
  match r with
  | .ok (c, j) => e = .returned (.int .u8 c) ∧ Lexer b s j v w' ∧ Chg (· = b) w w'
  | .error (p, n) => e = .panicked (fault p n) ∧ Chg (· = b) w w'

def hexR (s : List UInt8) (p : Nat) : Except (Nat × Nat) (Int × Nat) := match hexAt s p with | .ok d => .ok ((d : Int), p + 1) | .error x => .error x
def escR (s : List UInt8) (p : Nat) : Except (Nat × Nat) (Int × Nat) := match esc s p with | .ok (c, j) => .ok ((c.toNat : Int), j) | .error x => .error x

theorem slice_one (s : ByteArray) (i : Nat) (h : i < s.size) : s.extract i (i + 1) = ⟨#[s[i]]⟩ := by
  apply ByteArray.ext
  rw [ByteArray.data_extract]
  have h' : i < s.data.size := h
  apply Array.ext
  · rw [Array.size_extract]; show min (i + 1) s.data.size - i = 1; omega
  · intro j h1 h2
    have h2' : j < 1 := h2
    obtain rfl : j = 0 := by omega
    rw [Array.getElem_extract]
    rfl

theorem slice_run {P : Program} (t : TypeId) (ht : P.underlying t = some .string) (s : ByteArray) (i j : Nat) (h1 : i ≤ j) (h2 : j ≤ s.size) (w : World) (x y : Int) (hx : x = i) (hy : y = j) :
    (Instr.slice t (.string s) (some (.int .i64 x)) (some (.int .i64 y)) none).run P w = .ok (.string (s.extract i j)) w := by
  subst hx hy
  have e1 : ((i : Int)).toNat = i := by omega
  have e2 : ((j : Int)).toNat = j := by omega
  simp [Instr.slice, run_underlying ht, Instr.sliceBounds, run_sliceBound, *]
theorem len_is (s : ByteArray) : s.data.toList.length = s.size := Array.length_toList
theorem at_get (s : ByteArray) (i : Nat) (h : i < s.size) : s.data.toList[i]? = some s[i] := by
  rw [List.getElem?_eq_getElem (by rw [len_is]; exact h)]
  rfl
theorem at_none (s : ByteArray) (i : Nat) (h : s.size ≤ i) : s.data.toList[i]? = none := List.getElem?_eq_none (by rw [len_is]; exact h)

theorem hexv_lt {c d : Nat} (h : hexv c = some d) : d < 16 := by
  unfold hexv at h
  split at h
  · cases h; omega
  · split at h
    · cases h; omega
    · split at h
      · cases h; omega
      · cases h

set_option maxRecDepth 100000 in
set_option maxHeartbeats 1000000 in
theorem digit_calls (s : ByteArray) (i b : Nat) (v : Value) (w : World) (hs : s.size ≤ 65536) (hi : i ≤ s.size) (hL : Lexer b s i v w) (hg : Glob w) :
    Calls Tryd.prog 32 #[.pointer (some ⟨b, 0, none⟩)] w (StepEnds b s v w (hexR s.data.toList i)) := by
  have c0 := hL.c0
  have c1 := hL.c1
  have f1 := hL.f 1
  by_cases hlt : i < s.size
  · have hP := fun (w : World) (hg : Glob w) => pu_pub s[i] w hg
    have hsl := slice_one s i hlt
    have hat := at_get s i hlt
    have HH : Hid (hexR s.data.toList i = match hexv s[i].toNat with | some d => .ok ((d : Int), i + 1) | none => .error (i, 10)) := by
      unfold hexR hexAt
      rw [hat]
      show _ = _
      simp only []
      cases hexv s[i].toNat <;> rfl
    clear hat
    generalize s[i] = c at *
    have HS := Lib.hid hsl
    have HL := Lib.hid hL
    have HG := Lib.hid hg
    clear hsl hL hg
    have hsr : ∀ w, (Instr.slice 9 (.string s) (some (.int .i64 i)) (some (.int .i64 ((i : Int) + 1))) none).run Tryd.prog w = .ok (.string ⟨#[c]⟩) w := fun w => by
      rw [slice_run 9 Tryd.underlying9 s i (i + 1) (by omega) (by omega) w _ _ rfl (by omega), HS.out]
    have i0 : (0 : Int) ≤ (i : Int) := by omega
    have i1 : (i : Int) < (s.size : Int) := by omega
    have i2 : IntKind.i64.wrap ((i : Int) + 1) = (i : Int) + 1 := IntWalk.i64_in _ (by omega)
    have i3 : (0 : Int) ≤ (i : Int) + 1 := by omega
    have i4 : ((i : Int) + 1).toNat = i + 1 := by omega
    have i5 : (i : Int) + 1 ≤ (s.size : Int) := by omega
    rcases hd : hexv c.toNat with _ | d
    · have HP : Hid (∀ (w : World), Glob w → Calls Tryd.prog 40 #[.string ⟨#[c]⟩, .int .i64 16, .int .i64 8] w fun e w' => ∃ x N, e = .returned (.tuple #[.int .u64 x, .iface 86 (.pointer (some ⟨N, 0, none⟩))]) ∧ Below w.heap.size w w') :=
        fun w hg => (hP w hg).mono fun e w' h => by obtain ⟨x, N, he⟩ := h.2.1 hd; exact ⟨x, N, he, h.2.2⟩
      have HH2 : Hid (hexR s.data.toList i = .error (i, 10)) := by rw [HH.out, hd]; rfl
      clear hP hd HH
      go_enter Tryd.func32, Tryd.ntmps32
      go_wp2_with fail
      go_quiet (fail)
      go_wp2_with fail
      go_region_held3 (fun w' => w'.cell? ⟨b, 0, none⟩ = some (.string s) ∧ w'.cell? ⟨b, 1, none⟩ = some (.int .i64 i)) (first | exact ⟨by assumption, by assumption⟩ | go_keep) (first | (go_at_call 40; refine (HP.out _ (by exact HG.out)).mono ?_; rintro e w1 ⟨x, N, rfl, h1⟩; have q0 : w1.cell? ⟨b, 0, none⟩ = some (.string s) := (h1.cell (World.block_lt_of_cell? w _ c0)).trans c0; have q1 : w1.cell? ⟨b, 1, none⟩ = some (.int .i64 i) := (h1.cell (World.block_lt_of_cell? w _ c1)).trans c1))
      go_wp2_with fail
      rw [HH2.out]
      exact ⟨rfl, rfl, ((Chg.refl _ _).drewN _).callee h1⟩
    · have HP : Hid (∀ (w : World), Glob w → Calls Tryd.prog 40 #[.string ⟨#[c]⟩, .int .i64 16, .int .i64 8] w fun e w' => e = .returned (.tuple #[.int .u64 d, .nilIface]) ∧ Below w.heap.size w w') :=
        fun w hg => (hP w hg).mono fun e w' h => ⟨h.1 d hd, h.2.2⟩
      have HH2 : Hid (hexR s.data.toList i = .ok ((d : Int), i + 1)) := by rw [HH.out, hd]; rfl
      have hd16 : d < 16 := hexv_lt hd
      clear hP hd HH
      go_enter Tryd.func32, Tryd.ntmps32
      go_wp2_with fail
      go_quiet (fail)
      go_wp2_with fail
      go_region_held3 (fun w' => w'.cell? ⟨b, 0, none⟩ = some (.string s) ∧ w'.cell? ⟨b, 1, none⟩ = some (.int .i64 i)) (first | exact ⟨by assumption, by assumption⟩ | go_keep) (first | (go_at_call 40; refine (HP.out _ (by exact HG.out)).mono ?_; rintro e w1 ⟨rfl, h1⟩; have q0 : w1.cell? ⟨b, 0, none⟩ = some (.string s) := (h1.cell (World.block_lt_of_cell? w _ c0)).trans c0; have q1 : w1.cell? ⟨b, 1, none⟩ = some (.int .i64 i) := (h1.cell (World.block_lt_of_cell? w _ c1)).trans c1; have q2 : w1.frozen? ⟨b, 1, none⟩ = false := (h1.frozen (World.block_lt_of_cell? w _ c1)).trans f1))
      go_wp2_with fail
      go_ret
      rw [HH2.out]
      have k1 : Chg (· = b) w w1 := ((Chg.refl _ _).drewN _).callee h1
      have k2 : Lexer b s i v w1 := HL.out.chg (F := fun _ => False) (((Chg.refl _ w).drewN _).callee h1) (fun h => h)
      exact ⟨rfl, k2.set1 (by omega), k1.set (fun _ => rfl) _⟩
  · have HH : Hid (hexR s.data.toList i = .error (s.size, 11)) := by
      unfold hexR hexAt
      rw [at_none s i (by omega), len_is]
      rfl
    clear hL hg
    go_enter Tryd.func32, Tryd.ntmps32
    go_wp2_with fail
    go_quiet (fail)
    go_wp2_with fail
    rw [HH.out]
    exact ⟨rfl, rfl, (Chg.refl _ _).drewN _⟩
end Go.Proofs.YtaklmocjaokkpaaDoor.Lx
namespace Go.Proofs.YtaklmocjaokkpaaDoor.Lx
open Go.RowKit Go.Proofs.YtaklmocjaokkpaaDoor.Mem

theorem digit_ok (s : ByteArray) (i b : Nat) (v : Value) (w : World) (hs : s.size ≤ 65536) (hi : i ≤ s.size) (hL : Lexer b s i v w) (hg : Glob w) (d : Nat) (h : hexAt s.data.toList i = .ok d) :
    Calls Tryd.prog 32 #[.pointer (some ⟨b, 0, none⟩)] w fun e w' => e = .returned (.int .u8 d) ∧ Lexer b s (i + 1) v w' ∧ Chg (· = b) w w' := by
  have := digit_calls s i b v w hs hi hL hg
  unfold hexR at this
  rw [h] at this
  exact this
theorem digit_err (s : ByteArray) (i b : Nat) (v : Value) (w : World) (hs : s.size ≤ 65536) (hi : i ≤ s.size) (hL : Lexer b s i v w) (hg : Glob w) (p n : Nat) (h : hexAt s.data.toList i = .error (p, n)) :
    Calls Tryd.prog 32 #[.pointer (some ⟨b, 0, none⟩)] w fun e w' => e = .panicked (fault p n) ∧ Chg (· = b) w w' := by
  have := digit_calls s i b v w hs hi hL hg
  unfold hexR at this
  rw [h] at this
  exact this
theorem hexAt_lt {s : List UInt8} {p d : Nat} (h : hexAt s p = .ok d) : p < s.length ∧ d < 16 := by
  unfold hexAt at h
  rcases hc : s[p]? with _ | c
  · rw [hc] at h; cases h
  · rw [hc] at h
    rcases hd : hexv c.toNat with _ | x
    · simp only [hd] at h; cases h
    · simp only [hd] at h
      cases h
      refine ⟨?_, hexv_lt hd⟩
      rcases Nat.lt_or_ge p s.length with h1 | h1
      · exact h1
      · rw [List.getElem?_eq_none h1] at hc; cases hc

theorem esc_q {s : List UInt8} {p : Nat} {c : UInt8} (h : s[p]? = some c) (hc : c = 34 ∨ c = 92) : escR s p = .ok ((c.toNat : Int), p + 1) := by
  unfold escR esc; rw [h]; simp only [if_pos hc]
theorem esc_n {s : List UInt8} {p : Nat} {c : UInt8} (h : s[p]? = some c) (hc : c = 110) : escR s p = .ok (10, p + 1) := by
  subst hc
  unfold escR esc; rw [h]; rfl
theorem esc_bad {s : List UInt8} {p : Nat} {c : UInt8} (h : s[p]? = some c) (h1 : ¬ (c = 34 ∨ c = 92)) (h2 : ¬ c = 110) (h3 : ¬ c = 120) : escR s p = .error (p, 10) := by
  unfold escR esc; rw [h]; simp only [if_neg h1, if_neg h2, if_neg h3]
theorem esc_x1 {s : List UInt8} {p : Nat} (h : s[p]? = some 120) {x : Nat × Nat} (hx : hexAt s (p + 1) = .error x) : escR s p = .error x := by
  unfold escR esc; rw [h]; simp only [hx]; rfl
theorem esc_x2 {s : List UInt8} {p : Nat} (h : s[p]? = some 120) {y : Nat} {x : Nat × Nat} (hy : hexAt s (p + 1) = .ok y) (hx : hexAt s (p + 2) = .error x) : escR s p = .error x := by
  unfold escR esc; rw [h]; simp only [hx, hy]; rfl
theorem esc_x {s : List UInt8} {p : Nat} (h : s[p]? = some 120) {x y : Nat} (hx : hexAt s (p + 1) = .ok x) (hy : hexAt s (p + 2) = .ok y) : escR s p = .ok (((UInt8.ofNat (16 * x + y)).toNat : Int), p + 3) := by
  unfold escR esc; rw [h]; simp only [hx, hy]; rfl

theorem hexmix (x y : Nat) (hx : x < 16) (hy : y < 16) : bits .or .u8 ((x : Int) * 16) (y : Int) = ((UInt8.ofNat (16 * x + y)).toNat : Int) := by
  have : ∀ x y : Fin 16, bits .or .u8 (((x.val : Nat) : Int) * 16) ((y.val : Nat) : Int) = ((UInt8.ofNat (16 * x.val + y.val)).toNat : Int) := by decide +kernel
  exact this ⟨x, hx⟩ ⟨y, hy⟩

set_option maxRecDepth 100000 in
set_option maxHeartbeats 2000000 in
theorem escaped_calls (s : ByteArray) (i b : Nat) (v : Value) (w : World) (hs : s.size ≤ 65536) (hi : i ≤ s.size) (hL : Lexer b s i v w) (hg : Glob w) (hb1 : 1 ≠ b) (hb2 : 2 ≠ b) :
    Calls Tryd.prog 25 #[.pointer (some ⟨b, 0, none⟩)] w (StepEnds b s v w (escR s.data.toList i)) := by
  have c0 := hL.c0
  have c1 := hL.c1
  have f1 := hL.f 1
  have HL := Lib.hid hL
  have HG := Lib.hid hg
  clear hL hg
  have HB := Lib.hid (And.intro hb1 hb2)
  clear hb1 hb2
  by_cases hlt : i < s.size
  · have hat := at_get s i hlt
    have HT := Lib.hid hat
    clear hat
    obtain ⟨c, hc⟩ : ∃ c, s[i] = c := ⟨_, rfl⟩
    have i0 : (0 : Int) ≤ (i : Int) := by omega
    have i1 : (i : Int) < (s.size : Int) := by omega
    have i2 : ¬ s.size ≤ i := by omega
    rw [hc] at HT
    by_cases k1 : c = 34
    · have HR := Lib.hid (esc_q HT.out (.inl k1))
      have n1 : 34 ≤ c.toNat ∧ c.toNat ≤ 34 := by subst k1; decide
      clear k1
      go_enter Tryd.func25, Tryd.ntmps25
      go_wp2_with fail
      go_quiet (fail)
      go_wp2_with fail
      go_quiet (fail)
      go_wp2_with fail
      go_ret
      rw [HR.out]
      exact ⟨rfl, Lexer.set1 (w := w.drewN _) HL.out (by omega), ((Chg.refl (· = b) _).drewN _).set (fun _ => rfl) _⟩
    by_cases k2 : c = 92
    · have HR := Lib.hid (esc_q HT.out (.inr k2))
      have n1 : 92 ≤ c.toNat ∧ c.toNat ≤ 92 := by subst k2; decide
      clear k1 k2
      go_enter Tryd.func25, Tryd.ntmps25
      go_wp2_with fail
      go_quiet (fail)
      go_wp2_with fail
      go_quiet (fail)
      go_wp2_with fail
      go_ret
      rw [HR.out]
      exact ⟨rfl, Lexer.set1 (w := w.drewN _) HL.out (by omega), ((Chg.refl (· = b) _).drewN _).set (fun _ => rfl) _⟩
    by_cases k3 : c = 110
    · have HR := Lib.hid (esc_n HT.out k3)
      have n1 : 110 ≤ c.toNat ∧ c.toNat ≤ 110 := by subst k3; decide
      clear k1 k2 k3
      go_enter Tryd.func25, Tryd.ntmps25
      go_wp2_with fail
      go_quiet (fail)
      go_wp2_with fail
      go_quiet (fail)
      go_wp2_with fail
      go_ret
      rw [HR.out]
      exact ⟨rfl, Lexer.set1 (w := w.drewN _) HL.out (by omega), ((Chg.refl (· = b) _).drewN _).set (fun _ => rfl) _⟩
    by_cases k4 : c = 120
    · rw [k4] at HT
      have n1 : 120 ≤ c.toNat ∧ c.toNat ≤ 120 := by subst k4; decide
      clear k1 k2 k3 k4
      rcases hx : hexAt s.data.toList (i + 1) with ⟨p, n⟩ | x
      · have HR := Lib.hid (esc_x1 HT.out hx)
        have HX := Lib.hid hx
        clear hx
        go_enter Tryd.func25, Tryd.ntmps25
        go_wp2_with fail
        go_quiet (fail)
        go_wp2_with fail
        go_quiet (fail)
        go_wp2_with fail
        refine (digit_err s (i + 1) b v _ hs (by omega) (by exact Lexer.set1 (w := w.drewN _) HL.out (by omega)) (by exact HG.out.chg (((Chg.refl (· = b) _).drewN _).set (fun _ => rfl) _) HB.out.1 HB.out.2) p n HX.out).mono ?_
        rintro e w1 ⟨rfl, h1⟩
        go_wp2_with fail
        rw [HR.out]
        exact ⟨rfl, rfl, (((Chg.refl (· = b) _).drewN _).set (fun _ => rfl) _).trans h1⟩
      · have xb := hexAt_lt hx
        rw [len_is] at xb
        rcases hy : hexAt s.data.toList (i + 2) with ⟨p, n⟩ | y
        · have HR := Lib.hid (esc_x2 HT.out hx hy)
          have HX := Lib.hid hx
          have HY := Lib.hid hy
          clear hx hy
          go_enter Tryd.func25, Tryd.ntmps25
          go_wp2_with fail
          go_quiet (fail)
          go_wp2_with fail
          go_quiet (fail)
          go_wp2_with fail
          refine (digit_ok s (i + 1) b v _ hs (by omega) (by exact Lexer.set1 (w := w.drewN _) HL.out (by omega)) (by exact HG.out.chg (((Chg.refl (· = b) _).drewN _).set (fun _ => rfl) _) HB.out.1 HB.out.2) x HX.out).mono ?_
          rintro e w1 ⟨rfl, l1, h1⟩
          have L1 := Lib.hid l1
          have K1 : Hid (Chg (· = b) w w1) := (((Chg.refl (· = b) _).drewN _).set (fun _ => rfl) _).trans h1
          clear h1 l1
          go_wp2_with fail
          refine (digit_err s (i + 1 + 1) b v _ hs (by omega) (by exact L1.out) (by exact HG.out.chg K1.out HB.out.1 HB.out.2) p n HY.out).mono ?_
          rintro e w2 ⟨rfl, h2⟩
          go_wp2_with fail
          rw [HR.out]
          exact ⟨rfl, rfl, K1.out.trans h2⟩
        · have yb := hexAt_lt hy
          have HR := Lib.hid (esc_x HT.out hx hy)
          have HX := Lib.hid hx
          have HY := Lib.hid hy
          clear hx hy
          go_enter Tryd.func25, Tryd.ntmps25
          go_wp2_with fail
          go_quiet (fail)
          go_wp2_with fail
          go_quiet (fail)
          go_wp2_with fail
          refine (digit_ok s (i + 1) b v _ hs (by omega) (by exact Lexer.set1 (w := w.drewN _) HL.out (by omega)) (by exact HG.out.chg (((Chg.refl (· = b) _).drewN _).set (fun _ => rfl) _) HB.out.1 HB.out.2) x HX.out).mono ?_
          rintro e w1 ⟨rfl, l1, h1⟩
          have L1 := Lib.hid l1
          have K1 : Hid (Chg (· = b) w w1) := (((Chg.refl (· = b) _).drewN _).set (fun _ => rfl) _).trans h1
          clear h1 l1
          go_wp2_with fail
          refine (digit_ok s (i + 1 + 1) b v _ hs (by omega) (by exact L1.out) (by exact HG.out.chg K1.out HB.out.1 HB.out.2) y HY.out).mono ?_
          rintro e w2 ⟨rfl, l2, h2⟩
          go_wp2_with fail
          go_ret
          rw [HR.out]
          refine ⟨?_, l2, K1.out.trans h2⟩
          rw [← hexmix x y xb.2 yb.2]
          rfl
    · have HR := Lib.hid (esc_bad HT.out (by simp [k1, k2]) k3 k4)
      have n1 : c.toNat ≠ 34 := fun h => k1 (UInt8.toNat_inj.1 h)
      have n2 : c.toNat ≠ 92 := fun h => k2 (UInt8.toNat_inj.1 h)
      have n3 : c.toNat ≠ 110 := fun h => k3 (UInt8.toNat_inj.1 h)
      have n4 : c.toNat ≠ 120 := fun h => k4 (UInt8.toNat_inj.1 h)
      clear k1 k2 k3 k4
      go_enter Tryd.func25, Tryd.ntmps25
      go_wp2_with fail
      go_quiet (fail)
      go_wp2_with fail
      go_quiet (fail)
      go_wp2_with fail
      rw [HR.out]
      exact ⟨rfl, rfl, (Chg.refl _ _).drewN _⟩
  · have HH : Hid (escR s.data.toList i = .error (s.size, 11)) := by
      unfold escR esc
      rw [at_none s i (by omega), len_is]
      rfl
    go_enter Tryd.func25, Tryd.ntmps25
    go_wp2_with fail
    go_quiet (fail)
    go_wp2_with fail
    rw [HH.out]
    exact ⟨rfl, rfl, (Chg.refl _ _).drewN _⟩
end Go.Proofs.YtaklmocjaokkpaaDoor.Lx
