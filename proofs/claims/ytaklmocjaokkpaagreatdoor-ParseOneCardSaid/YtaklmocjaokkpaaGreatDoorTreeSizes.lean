/- Nodes: what a node is, and how it lies in memory; no condition. · How many nodes there are: the document's count and the program's. Condition: there are at most 2^40. · The program's few: are there at most so many nodes; walked. Condition: the counter lies in a block of the call's own, and is at most 4000. · The program's few: are there at most so many nodes; walked. Condition: the counter lies in a block of the call's own, and is at most 4000. -/
import Derived.Test.YtaklmocjaokkpaaGreatDoorBase
import Derived.Test.YtaklmocjaokkpaaGreatDoorProg
import Derived.WalkKit
import Derived.Lib.Hide
import Derived.Deep.QuietTactic
import Derived.BigQuiet
import Derived.WalkLawsBesides
import Derived.Deep.RegionHeld3
import Derived.IntWalk
import Derived.Deep.LoopGhost
import Derived.Laws.IdiomStrings
import Derived.Deep.RegionLaw
import Derived.BigRegion
import Derived.Deep.RegionWith
import Derived.Deep.DrawnRows
import Derived.Lib.BufferRead
import Derived.Deep.AppendLies
import Derived.Shelf.Abstract
namespace Go.Proofs.YtaklmocjaokkpaaGreatDoor.Tr
set_option linter.unusedVariables false
set_option linter.unusedSimpArgs false
open Go.RowKit Go.Proofs.YtaklmocjaokkpaaGreatDoor.Mem

inductive Nd where
  | mk (kind : Nat) (n : Int) (text : ByteArray) (names : List ByteArray) (kids : List Nd)
namespace Nd
def kind : Nd → Nat | mk k _ _ _ _ => k
def n : Nd → Int | mk _ n _ _ _ => n
def text : Nd → ByteArray | mk _ _ t _ _ => t
def names : Nd → List ByteArray | mk _ _ _ l _ => l
def kids : Nd → List Nd | mk _ _ _ _ l => l
theorem ind {P : Nd → Prop} (h : ∀ x : Nd, (∀ y ∈ x.kids, P y) → P x) : ∀ x, P x
  | mk k n t ns ks => h (mk k n t ns ks) (fun y hy => ind h y)
termination_by x => SizeOf.sizeOf x
decreasing_by
  have h1 : SizeOf.sizeOf y < SizeOf.sizeOf ks := List.sizeOf_lt_of_mem hy
  simp
  omega
end Nd
/-- A row of texts. -/
def StrsIn (w : World) (v : Value) (l : List ByteArray) : Prop :=
  ∃ ad cap, v = .slice ad l.length cap ∧ l.length ≤ cap ∧ cap ≤ maxLen ∧ ∀ i s, l[i]? = some s → ∃ b off, ad = some ⟨b, off, none⟩ ∧ b < w.heap.size ∧ w.cell? ⟨b, off + i, none⟩ = some (.string s)
mutual
/-- A node's names and parts, where its two slices are nv and kv. -/
def NdIn (w : World) (nv kv : Value) : Nd → Prop
  | .mk k n t ns ks => k < 256 ∧ (-9223372036854775808 ≤ n ∧ n ≤ 9223372036854775807) ∧ StrsIn w nv ns ∧ ∃ ad cap, kv = .slice ad ks.length cap ∧ ks.length ≤ cap ∧ cap ≤ maxLen ∧ KidsIn w ad 0 ks
/-- Nodes in a row, from number i on. -/
def KidsIn (w : World) (ad : Option Addr) : Nat → List Nd → Prop
  | _, [] => True
  | i, x :: l => (∃ b off nv kv, ad = some ⟨b, off, none⟩ ∧ b < w.heap.size ∧ w.cell? ⟨b, off + i * 5, none⟩ = some (.int .u8 x.kind) ∧ w.cell? ⟨b, off + i * 5 + 1, none⟩ = some (.int .i64 x.n) ∧ w.cell? ⟨b, off + i * 5 + 2, none⟩ = some (.string x.text) ∧
      w.cell? ⟨b, off + i * 5 + 3, none⟩ = some nv ∧ w.cell? ⟨b, off + i * 5 + 4, none⟩ = some kv ∧ NdIn w nv kv x) ∧ KidsIn w ad (i + 1) l
end
theorem NdIn.kids {w : World} {nv kv : Value} {x : Nd} (h : NdIn w nv kv x) : ∃ ad cap, kv = .slice ad x.kids.length cap ∧ x.kids.length ≤ cap ∧ cap ≤ maxLen ∧ KidsIn w ad 0 x.kids := by
  cases x; unfold NdIn at h; exact h.2.2.2
theorem NdIn.names {w : World} {nv kv : Value} {x : Nd} (h : NdIn w nv kv x) : StrsIn w nv x.names := by
  cases x; unfold NdIn at h; exact h.2.2.1
theorem NdIn.kind {w : World} {nv kv : Value} {x : Nd} (h : NdIn w nv kv x) : x.kind < 256 := by
  cases x; unfold NdIn at h; exact h.1
theorem NdIn.n {w : World} {nv kv : Value} {x : Nd} (h : NdIn w nv kv x) : -9223372036854775808 ≤ x.n ∧ x.n ≤ 9223372036854775807 := by
  cases x; unfold NdIn at h; exact h.2.1
theorem NdIn.of {w : World} {nv kv : Value} {x : Nd} (h1 : x.kind < 256) (h2 : -9223372036854775808 ≤ x.n ∧ x.n ≤ 9223372036854775807) (h3 : StrsIn w nv x.names) (h4 : ∃ ad cap, kv = .slice ad x.kids.length cap ∧ x.kids.length ≤ cap ∧ cap ≤ maxLen ∧ KidsIn w ad 0 x.kids) : NdIn w nv kv x := by
  cases x; unfold NdIn; exact ⟨h1, h2, h3, h4⟩
theorem KidsIn.at_ {w : World} {ad : Option Addr} : ∀ {l : List Nd} {i : Nat} (h : KidsIn w ad i l) (j : Nat) (x : Nd), l[j]? = some x → ∃ b off nv kv, ad = some ⟨b, off, none⟩ ∧ b < w.heap.size ∧ w.cell? ⟨b, off + (i + j) * 5, none⟩ = some (.int .u8 x.kind) ∧ w.cell? ⟨b, off + (i + j) * 5 + 1, none⟩ = some (.int .i64 x.n) ∧
    w.cell? ⟨b, off + (i + j) * 5 + 2, none⟩ = some (.string x.text) ∧ w.cell? ⟨b, off + (i + j) * 5 + 3, none⟩ = some nv ∧ w.cell? ⟨b, off + (i + j) * 5 + 4, none⟩ = some kv ∧ NdIn w nv kv x
  | [], _, _, _, _, hx => by simp at hx
  | y :: l, i, h, 0, x, hx => by
    unfold KidsIn at h
    have e : y = x := by simpa using hx
    subst e
    exact h.1
  | y :: l, i, h, j + 1, x, hx => by
    unfold KidsIn at h
    have := KidsIn.at_ h.2 j x (by simpa using hx)
    rw [show i + 1 + j = i + (j + 1) by omega] at this
    exact this
theorem KidsIn.of {w : World} {ad : Option Addr} : ∀ (l : List Nd) (i : Nat), (∀ j x, l[j]? = some x → ∃ b off nv kv, ad = some ⟨b, off, none⟩ ∧ b < w.heap.size ∧ w.cell? ⟨b, off + (i + j) * 5, none⟩ = some (.int .u8 x.kind) ∧ w.cell? ⟨b, off + (i + j) * 5 + 1, none⟩ = some (.int .i64 x.n) ∧
    w.cell? ⟨b, off + (i + j) * 5 + 2, none⟩ = some (.string x.text) ∧ w.cell? ⟨b, off + (i + j) * 5 + 3, none⟩ = some nv ∧ w.cell? ⟨b, off + (i + j) * 5 + 4, none⟩ = some kv ∧ NdIn w nv kv x) → KidsIn w ad i l
  | [], _, _ => by unfold KidsIn; trivial
  | y :: l, i, h => by
    unfold KidsIn
    refine ⟨h 0 y rfl, KidsIn.of l (i + 1) fun j x hx => ?_⟩
    have := h (j + 1) x (by simpa using hx)
    rw [show i + (j + 1) = i + 1 + j by omega] at this
    exact this
theorem StrsIn.kept {w w' : World} {v : Value} {l : List ByteArray} (h : StrsIn w v l) (hc : Chg (fun _ => False) w w') : StrsIn w' v l := by
  obtain ⟨ad, cap, h1, h2, h3, h4⟩ := h
  refine ⟨ad, cap, h1, h2, h3, fun i s hi => ?_⟩
  obtain ⟨b, off, e1, e2, e3⟩ := h4 i s hi
  exact ⟨b, off, e1, Nat.lt_of_lt_of_le e2 hc.size, hc.cell e3 (fun e => e)⟩
theorem NdIn.kept {w w' : World} (hc : Chg (fun _ => False) w w') : ∀ (x : Nd) (nv kv : Value), NdIn w nv kv x → NdIn w' nv kv x := by
  intro x
  induction x using Nd.ind with
  | h x ih =>
    intro nv kv h
    obtain ⟨ad, cap, e1, e2, e3, e4⟩ := h.kids
    refine NdIn.of h.kind h.n (h.names.kept hc) ⟨ad, cap, e1, e2, e3, KidsIn.of _ _ fun j y hy => ?_⟩
    obtain ⟨b, off, nv', kv', f1, f2, f3, f4, f5, f6, f7, f8⟩ := e4.at_ j y hy
    exact ⟨b, off, nv', kv', f1, Nat.lt_of_lt_of_le f2 hc.size, hc.cell f3 (fun e => e), hc.cell f4 (fun e => e), hc.cell f5 (fun e => e), hc.cell f6 (fun e => e), hc.cell f7 (fun e => e), ih y (List.mem_of_getElem? hy) nv' kv' f8⟩
theorem KidsIn.kept {w w' : World} {ad : Option Addr} {i : Nat} {l : List Nd} (h : KidsIn w ad i l) (hc : Chg (fun _ => False) w w') : KidsIn w' ad i l :=
  KidsIn.of _ _ fun j y hy => by
    obtain ⟨b, off, nv', kv', f1, f2, f3, f4, f5, f6, f7, f8⟩ := h.at_ j y hy
    exact ⟨b, off, nv', kv', f1, Nat.lt_of_lt_of_le f2 hc.size, hc.cell f3 (fun e => e), hc.cell f4 (fun e => e), hc.cell f5 (fun e => e), hc.cell f6 (fun e => e), hc.cell f7 (fun e => e), f8.kept hc⟩
/-- A node as a value. -/
def ndV (x : Nd) (nv kv : Value) : Value := .agg #[.int .u8 x.kind, .int .i64 x.n, .string x.text, nv, kv]
/-- A node as a function's own variable. -/
def ndBox (x : Nd) (nv kv : Value) : Obj := .cells #[.int .u8 x.kind, .int .i64 x.n, .string x.text, nv, kv] 25
mutual
/-- How many nodes. -/
def sizeN : Nd → Nat
  | .mk _ _ _ _ ks => 1 + sizesN ks
def sizesN : List Nd → Nat
  | [] => 0
  | x :: l => sizeN x + sizesN l
end
theorem sizeN_is (x : Nd) : sizeN x = 1 + sizesN x.kids := by
  cases x; rw [sizeN]; rfl
theorem sizesN_take (l : List Nd) (k : Nat) (x : Nd) (h : l[k]? = some x) : sizesN (l.take (k + 1)) = sizesN (l.take k) + sizeN x := by
  induction l generalizing k with
  | nil => simp at h
  | cons y l ih =>
    cases k with
    | zero =>
      have e : y = x := by simpa using h
      subst e
      simp [sizesN]
    | succ k =>
      have := ih k (by simpa using h)
      rw [List.take_succ_cons, List.take_succ_cons, sizesN, sizesN, this]
      omega
theorem sizeN_pos (x : Nd) : 1 ≤ sizeN x := by rw [sizeN_is]; omega
end Go.Proofs.YtaklmocjaokkpaaGreatDoor.Tr
namespace Go.Proofs.YtaklmocjaokkpaaGreatDoor.Tr
set_option linter.unusedVariables false
set_option linter.unusedSimpArgs false
open Go.RowKit Go.Proofs.YtaklmocjaokkpaaGreatDoor.Mem

theorem sizes_le (l : List Nd) (j : Nat) : sizesN (l.take j) ≤ sizesN l := by
  induction l generalizing j with
  | nil => simp
  | cons x l ih =>
    cases j with
    | zero => simp [sizesN]
    | succ j => rw [List.take_succ_cons, sizesN, sizesN]; have := ih j; omega
theorem size_mem {l : List Nd} {x : Nd} (h : x ∈ l) : sizeN x ≤ sizesN l := by
  induction l with
  | nil => simp at h
  | cons y l ih =>
    rw [sizesN]
    rcases List.mem_cons.1 h with rfl | h
    · omega
    · have := ih h; omega
theorem len_sizes (l : List Nd) : l.length ≤ sizesN l := by
  induction l with
  | nil => simp
  | cons x l ih => rw [sizesN, List.length_cons]; have := sizeN_pos x; omega
/-- The cells of part j. -/
theorem kid_cells {w : World} {ad : Option Addr} {l : List Nd} (h : KidsIn w ad 0 l) (j : Nat) (hj : j < l.length) : ∃ b off nv kv x, ad = some ⟨b, off, none⟩ ∧ l[j]? = some x ∧ x ∈ l ∧ w.cell? ⟨b, off + j * 5, none⟩ = some (.int .u8 x.kind) ∧ w.cell? ⟨b, off + j * 5 + 1, none⟩ = some (.int .i64 x.n) ∧
    w.cell? ⟨b, off + j * 5 + 2, none⟩ = some (.string x.text) ∧ w.cell? ⟨b, off + j * 5 + 3, none⟩ = some nv ∧ w.cell? ⟨b, off + j * 5 + 4, none⟩ = some kv ∧ NdIn w nv kv x := by
  obtain ⟨x, hx⟩ : ∃ x, l[j]? = some x := ⟨_, List.getElem?_eq_getElem hj⟩
  obtain ⟨b, off, nv, kv, e1, e2, e3, e4, e5, e6, e7, e8⟩ := h.at_ j x hx
  rw [Nat.zero_add] at e3 e4 e5 e6 e7
  exact ⟨b, off, nv, kv, x, e1, hx, List.mem_of_getElem? hx, e3, e4, e5, e6, e7, e8⟩
/-- What a node's slices look like. -/
theorem NdIn.forms {w : World} {nv kv : Value} {x : Nd} (h : NdIn w nv kv x) : ∃ an cn ak ck, nv = .slice an x.names.length cn ∧ kv = .slice ak x.kids.length ck ∧ x.names.length ≤ cn ∧ cn ≤ maxLen ∧ x.kids.length ≤ ck ∧ ck ≤ maxLen ∧ KidsIn w ak 0 x.kids := by
  obtain ⟨an, cn, h1, h2, h3, _⟩ := h.names
  obtain ⟨ak, ck, g1, g2, g3, g4⟩ := h.kids
  exact ⟨an, cn, ak, ck, h1, g1, h2, h3, g2, g3, g4⟩
set_option maxRecDepth 100000 in
set_option maxHeartbeats 2000000 in
theorem rsize_calls : ∀ (x : Nd) (nv kv : Value) (w : World), NdIn w nv kv x → sizeN x ≤ 1099511627776 →
    Calls Tryz.prog 21 #[ndV x nv kv] w fun e w' => e = .returned (.int .i64 (sizeN x : Int)) ∧ Chg (fun _ => False) w w' := by
  intro x
  induction x using Nd.ind with
  | h x ih =>
    intro nv kv w h hs
    obtain ⟨an, cn, ak, ck, rfl, rfl, _, _, _, _, hk⟩ := h.forms
    rw [sizeN_is] at hs ⊢
    obtain ⟨m, hm⟩ : ∃ m, x.kids.length = m := ⟨_, rfl⟩
    have HM := Lib.hid hm
    have hmm := len_sizes x.kids
    rw [hm] at hmm ⊢
    have HK := Lib.hid hk
    have HIH := Lib.hid ih
    obtain ⟨all, hall⟩ : ∃ all, sizesN x.kids = all := ⟨_, rfl⟩
    rw [hall] at hs hmm ⊢
    have HALL := Lib.hid hall
    obtain ⟨w0, hw0⟩ : ∃ w0, w.alloc (ndBox x (.slice an x.names.length cn) (.slice ak m ck)) = w0 := ⟨_, rfl⟩
    have hC0 : Chg (fun _ => False) w w0 := by rw [← hw0]; exact (Chg.refl _ w).alloc _
    have hb0 : w0.heap[w.heap.size]? = some (ndBox x (.slice an x.names.length cn) (.slice ak m ck)) := by rw [← hw0]; exact blk_new w _
    have HB0 := Lib.hid hb0
    have HC0 := Lib.hid hC0
    clear h ih hk hm hall hb0 hC0
    unfold ndBox at HB0 hw0
    unfold ndV
    go_enter Tryz.func21, Tryz.ntmps21
    have a4 : w0.cell? ⟨w.heap.size, 4, none⟩ = some (.slice ak m ck) := cell_of HB0.out 4
    go_wp2_with fail

    go_loopg [3, 8] (m + 1) (fun g va vi wr => ∃ (j : Nat), vi = .int .i64 j ∧ va = .int .i64 ((1 + sizesN (x.kids.take j) : Nat) : Int) ∧ j ≤ m ∧ m < g + j ∧ Hid (Chg (fun _ => False) w0 wr))
    case atStart => exact ⟨0, rfl, by simp [sizesN], by omega, by omega, Lib.hid (Chg.refl _ _)⟩
    case round =>
      obtain ⟨j, rfl, rfl, hj, hg, hC⟩ := hrel
      have a4r := hC.out.cell a4 (fun h => h)
      by_cases hlt : j < m
      · obtain ⟨gk', rfl⟩ : ∃ q, gk = q + 1 := ⟨gk - 1, by omega⟩
        obtain ⟨b, off, nv', kv', y, rfl, hy, hym, c0, c1, c2, c3, c4, hin⟩ := kid_cells (HK.out.kept (HC0.out.trans hC.out)) j (by rw [HM.out]; exact hlt)
        have hst := sizesN_take x.kids j y hy
        have hle := sizes_le x.kids (j + 1)
        rw [HALL.out, hst] at hle
        have HS := Lib.hid (HIH.out y hym nv' kv' wr hin (by omega))
        have HST := Lib.hid hst
        have i0 : (0 : Int) ≤ (j : Int) := by omega
        have i1 : (j : Int) < (m : Int) := by omega
        obtain ⟨pre, hpre⟩ : ∃ pre, sizesN (x.kids.take j) = pre := ⟨_, rfl⟩
        obtain ⟨sy, hsy⟩ : ∃ sy, sizeN y = sy := ⟨_, rfl⟩
        rw [hpre] at hle HST ⊢
        rw [hsy] at hle HST HS
        unfold ndV at HS
        obtain ⟨an', cn', ak', ck', rfl, rfl, _⟩ := hin.forms
        have hc1 : ((1 + pre : Nat) : Int) = 1 + (pre : Int) := by push_cast; rfl
        rw [hc1]
        clear hy hym hin hst hpre hsy hc1
        go_wp2_with fail
        refine HS.out.mono ?_
        rintro e w1 ⟨rfl, hC1⟩
        have HC1 := Lib.hid (hC.out.trans hC1)
        clear hC1 HS c0 c1 c2 c3 c4
        go_wp2_with fail
        go_roundg gk'
        case measure => omega
        case rel => exact ⟨j + 1, by go_num, by rw [HST.out]; push_cast; congr 1; omega, by omega, by omega, HC1.out⟩
      · obtain rfl : j = m := by omega
        have hall : x.kids.take j = x.kids := List.take_of_length_le (by rw [HM.out]; exact Nat.le_refl _)
        rw [hall, HALL.out]
        have hkk : ¬ (j : Int) < (j : Int) := by omega
        clear hall
        go_wp2_with fail
        go_ret
        exact ⟨rfl, HC0.out.trans hC.out⟩
end Go.Proofs.YtaklmocjaokkpaaGreatDoor.Tr
namespace Go.Proofs.YtaklmocjaokkpaaGreatDoor.Tr
set_option linter.unusedVariables false
set_option linter.unusedSimpArgs false
open Go.RowKit Go.Shelf Go.Proofs.YtaklmocjaokkpaaGreatDoor.Mem

/-- The counter. -/
def Cnt (w : World) (M : Nat) (m : Int) : Prop := w.heap[M]? = some (.cells #[.int .i64 m] 3 (0, 0))
/-- What is left of m behind s. -/
def left (m s : Nat) : Int := if s ≤ m then (m : Int) - (s : Int) else -1
/-- few, as it is called. -/
def FewOk (w0 : World) (x : Nd) (nv kv : Value) : Prop :=
  ∀ (w : World) (M m : Nat), Chg (fun j => w0.heap.size ≤ j) w0 w → w0.heap.size ≤ M → m ≤ 4000 → Cnt w M m → Calls Tryz.prog 36 #[ndV x nv kv, .pointer (some ⟨M, 0, none⟩)] w fun e w' => e = .returned (.bool (decide (sizeN x ≤ m))) ∧ Cnt w' M (left m (sizeN x)) ∧ Chg (fun j => j = M) w w'
theorem chg_of {w0 w : World} (h : Chg (fun j => w0.heap.size ≤ j) w0 w) : Chg (fun _ => False) w0 w := ⟨h.os, h.tape, h.output, h.size, fun k hk _ => h.block k hk (by omega)⟩
theorem enter68 (args : Array Value) (w : World) : (callFunc 68 args).run Tryz.prog w = .ok (.enter 68 args) w := enters_of Tryz.func68 (by kernel_rfl) rfl args w
set_option maxHeartbeats 2000000 in
theorem ask_few {w0 : World} {x : Nd} {nv kv : Value} (h : FewOk w0 x nv kv) (hf : ∃ an cn ak ck, nv = .slice an x.names.length cn ∧ kv = .slice ak x.kids.length ck) (w : World) (M m bx : Nat) (hC : Chg (fun j => w0.heap.size ≤ j) w0 w) (hM : w0.heap.size ≤ M) (hm : m ≤ 4000) (hc : Cnt w M m) (hb : w.cell? ⟨bx, 0, none⟩ = some (.pointer (some ⟨M, 0, none⟩))) :
    Calls Tryz.prog 68 #[ndV x nv kv, .pointer (some ⟨bx, 0, none⟩)] w fun e w' => e = .returned (.bool (!decide (sizeN x ≤ m))) ∧ Cnt w' M (left m (sizeN x)) ∧ Chg (fun j => j = M) w w' := by
  obtain ⟨an, cn, ak, ck, rfl, rfl⟩ := hf
  obtain ⟨w1, hw1⟩ : ∃ w1, w.alloc (ndBox x (.slice an x.names.length cn) (.slice ak x.kids.length ck)) = w1 := ⟨_, rfl⟩
  have hC1 : Chg (fun _ => False) w w1 := by rw [← hw1]; exact (Chg.refl _ w).alloc _
  have hb1 : w1.heap[w.heap.size]? = some (ndBox x (.slice an x.names.length cn) (.slice ak x.kids.length ck)) := by rw [← hw1]; exact blk_new w _
  have hz := hC.size
  have HF : Hid (∀ k, Calls Tryz.prog 36 #[ndV x (.slice an x.names.length cn) (.slice ak x.kids.length ck), .pointer (some ⟨M, 0, none⟩)] (w1.drewN k) fun e w' => e = .returned (.bool (decide (sizeN x ≤ m))) ∧ Cnt w' M (left m (sizeN x)) ∧ Chg (fun j => j = M) (w1.drewN k) w') := fun k => by
    refine h (w1.drewN k) M m ?_ hM hm ?_
    · exact (hC.trans (hC1.mono (fun _ _ e => e.elim))).drewN k
    · exact (hC1.drewN k).blk hc (fun e => e)
  have hbx := hC1.cell hb (fun e => e)
  have HB1 := Lib.hid hb1
  have HC1 := Lib.hid hC1
  obtain ⟨res, hres⟩ : ∃ res, decide (sizeN x ≤ m) = res := ⟨_, rfl⟩
  rw [hres] at HF ⊢
  clear h hb1 hC1 hC hc hb hM hres
  unfold ndBox at HB1 hw1
  unfold ndV at HF ⊢
  go_enter Tryz.func68, Tryz.ntmps68
  have a0 : w1.cell? ⟨w.heap.size, 0, none⟩ = _ := cell_of HB1.out 0
  have a1 : w1.cell? ⟨w.heap.size, 1, none⟩ = _ := cell_of HB1.out 1
  have a2 : w1.cell? ⟨w.heap.size, 2, none⟩ = _ := cell_of HB1.out 2
  have a3 : w1.cell? ⟨w.heap.size, 3, none⟩ = _ := cell_of HB1.out 3
  have a4 : w1.cell? ⟨w.heap.size, 4, none⟩ = _ := cell_of HB1.out 4
  simp only [List.getElem?_toArray, List.getElem?_cons_zero, List.getElem?_cons_succ] at a0 a1 a2 a3 a4
  go_wp2_with fail
  refine (HF.out 0).mono ?_
  rintro e w2 ⟨rfl, hc2, hC2⟩
  have HC2 := Lib.hid hc2
  have HCC := Lib.hid ((HC1.out.mono (fun _ _ e => e.elim)).andThen hC2 (fun _ _ e => e))
  clear hc2 hC2 HF a0 a1 a2 a3 a4 hbx hw1
  go_wp2_with fail
  go_ret
  exact ⟨rfl, HC2.out, HCC.out⟩
def fewV (bx : Nat) : Value := .func (.func 68) #[] #[.pointer (some ⟨bx, 0, none⟩)]
set_option maxRecDepth 100000 in
set_option maxHeartbeats 4000000 in
theorem few_index {w0 : World} {l : List Nd} {ak : Option Addr} {ck : Nat} (hk : KidsIn w0 ak 0 l) (hlen : l.length ≤ ck) (hmax : ck ≤ maxLen) (ih : ∀ y ∈ l, ∀ nv kv, NdIn w0 nv kv y → FewOk w0 y nv kv) (w : World) (M m bx : Nat) (hC : Chg (fun j => w0.heap.size ≤ j) w0 w) (hM : w0.heap.size ≤ M) (hm : m ≤ 4000) (hc : Cnt w M m) (hb : w.cell? ⟨bx, 0, none⟩ = some (.pointer (some ⟨M, 0, none⟩))) (hbM : bx ≠ M) :
    Calls Tryz.prog 90 #[.slice ak l.length ck, fewV bx] w fun e w' => (∃ r : Int, e = .returned (.int .i64 r) ∧ decide (0 ≤ r) = !decide (sizesN l ≤ m)) ∧ Cnt w' M (left m (sizesN l)) ∧ Chg (fun j => j = M) w w' := by
  obtain ⟨k0, hk0⟩ : ∃ k0, l.length = k0 := ⟨_, rfl⟩
  have HN := Lib.hid hk0
  have HK := Lib.hid hk
  have HIH := Lib.hid ih
  have HC := Lib.hid hC
  have HCN := Lib.hid hc
  have HE1 := enter68
  have HBX := Lib.hid hb
  have hmx : ck ≤ 9223372036854775807 := by unfold maxLen at hmax; omega
  rw [hk0] at hlen ⊢
  clear hk ih hC hc hk0 hb hmax
  unfold fewV
  go_enter Tryz.func90, Tryz.ntmps90
  go_wp2_with fail
  go_loopg [8] (k0 + 1) (fun g vi wr => ∃ (k : Nat), vi = .int .i64 k ∧ k ≤ k0 ∧ k0 < g + k ∧ Hid (sizesN (l.take k) ≤ m ∧ Cnt wr M ((m - sizesN (l.take k) : Nat) : Int)) ∧ Hid (Chg (fun j => j = M) w wr))
  case atStart => exact ⟨0, rfl, by omega, by omega, Lib.hid ⟨by simp [sizesN], by simpa [sizesN] using HCN.out⟩, Lib.hid (Chg.refl _ _)⟩
  case round =>
    obtain ⟨k, rfl, hk, hg, hcnt, hCr⟩ := hrel
    have hC2 := HC.out.andThen hCr.out (fun j hj e => by omega)
    by_cases hlt : k < k0
    · obtain ⟨gk', rfl⟩ : ∃ q, gk = q + 1 := ⟨gk - 1, by omega⟩
      obtain ⟨b, off, nv', kv', y, rfl, hy, hym, c0, c1, c2, c3, c4, hin⟩ := kid_cells (HK.out.kept (chg_of hC2)) k (by rw [HN.out]; exact hlt)
      obtain ⟨b2, off2, nv2, kv2, y2, e1, hy2, hym2, _, _, _, g3, g4, hin2⟩ := kid_cells HK.out k (by rw [HN.out]; exact hlt)
      cases e1
      have ey : y2 = y := by rw [hy] at hy2; exact (Option.some.inj hy2).symm
      subst ey
      have k3 := (chg_of hC2).cell g3 (fun e => e)
      have k4 := (chg_of hC2).cell g4 (fun e => e)
      rw [c3] at k3
      rw [c4] at k4
      obtain rfl : nv' = nv2 := Option.some.inj k3
      obtain rfl : kv' = kv2 := Option.some.inj k4
      have hst := sizesN_take l k y2 hy
      obtain ⟨hle, hcn⟩ := hcnt.out
      obtain ⟨an', cn', ak', ck', rfl, rfl, _⟩ := hin2.forms
      have hbr : wr.cell? ⟨bx, 0, none⟩ = some (.pointer (some ⟨M, 0, none⟩)) := hCr.out.cell HBX.out hbM
      have HA := Lib.hid (ask_few (HIH.out y2 hym2 _ _ hin2) ⟨an', cn', ak', ck', rfl, rfl⟩ wr M (m - sizesN (l.take k)) bx hC2 hM (by omega) hcn hbr)
      have HST := Lib.hid hst
      have HLE := Lib.hid hle
      have HYM := Lib.hid (show sizesN (l.take (k + 1)) ≤ sizesN l from sizes_le l (k + 1))
      obtain ⟨ok, hok⟩ : ∃ ok, decide (sizeN y2 ≤ m - sizesN (l.take k)) = ok := ⟨_, rfl⟩
      rw [hok] at HA
      have HOK := Lib.hid hok
      unfold ndV at HA
      have i0 : (0 : Int) ≤ (k : Int) := by omega
      have i1 : (k : Int) < (k0 : Int) := by omega
      clear hy hy2 hym hym2 hin hin2 hst hok k3 k4 g3 g4 hcn hle hbr hcnt
      cases ok with
      | true =>
        have hsz := of_decide_eq_true HOK.out
        have HSZ : Hid (sizesN (l.take (k + 1)) ≤ m ∧ left (m - sizesN (l.take k)) (sizeN y2) = ((m - sizesN (l.take (k + 1)) : Nat) : Int)) := by
          have h1 := HST.out
          have h2 := HLE.out
          refine Lib.hid ⟨by omega, ?_⟩
          unfold left
          rw [if_pos hsz]
          omega
        clear hsz
        go_wp2_with fail
        refine HA.out.mono ?_
        rintro e w1 ⟨rfl, hc1, hC1⟩
        rw [HSZ.out.2] at hc1
        have HR1 := Lib.hid (show _ ∧ Cnt w1 M _ from ⟨HSZ.out.1, hc1⟩)
        have HC1 := Lib.hid (hCr.out.trans hC1)
        clear hc1 hC1 HA c0 c1 c2 c3 c4
        go_wp2_with fail
        go_roundg gk'
        case measure => omega
        case rel => exact ⟨k + 1, by go_num, by omega, by omega, HR1.out, HC1.out⟩
      | false =>
        have hsz := of_decide_eq_false HOK.out
        have HSZ : Hid (decide (sizesN l ≤ m) = false ∧ left (m - sizesN (l.take k)) (sizeN y2) = -1 ∧ left m (sizesN l) = -1) := by
          have h1 := HST.out
          have h2 := HLE.out
          have h3 := HYM.out
          have h4 : ¬ sizesN l ≤ m := by omega
          refine Lib.hid ⟨decide_eq_false h4, ?_, ?_⟩
          · unfold left; rw [if_neg hsz]
          · unfold left; rw [if_neg h4]
        clear hsz
        go_wp2_with fail
        refine HA.out.mono ?_
        rintro e w1 ⟨rfl, hc1, hC1⟩
        rw [HSZ.out.2.1, ← HSZ.out.2.2] at hc1
        have HC1 := Lib.hid (hCr.out.trans hC1)
        have HC2 := Lib.hid hc1
        clear hc1 hC1 HA c0 c1 c2 c3 c4
        go_wp2_with fail
        go_ret
        exact ⟨⟨(k : Int), rfl, by rw [HSZ.out.1]; exact decide_eq_true (by omega)⟩, HC2.out, HC1.out⟩
    · obtain rfl : k = k0 := by omega
      have hkk : ¬ (k : Int) < (k : Int) := by omega
      have hall : l.take k = l := List.take_of_length_le (by rw [HN.out]; exact Nat.le_refl _)
      have HX := hcnt.out
      rw [hall] at HX
      have HX2 : Hid (decide (sizesN l ≤ m) = true ∧ Cnt wr M (left m (sizesN l))) := by
        refine Lib.hid ⟨decide_eq_true HX.1, ?_⟩
        unfold left
        rw [if_pos HX.1]
        have := HX.2
        rw [Int.ofNat_sub HX.1] at this
        exact this
      clear hall HX hcnt
      go_wp2_with fail
      go_ret
      exact ⟨⟨-1, rfl, by rw [HX2.out.1]; rfl⟩, HX2.out.2, hCr.out⟩
set_option maxHeartbeats 1000000 in
theorem few_contains {w0 : World} {l : List Nd} {ak : Option Addr} {ck : Nat} (hk : KidsIn w0 ak 0 l) (hlen : l.length ≤ ck) (hmax : ck ≤ maxLen) (ih : ∀ y ∈ l, ∀ nv kv, NdIn w0 nv kv y → FewOk w0 y nv kv) (w : World) (M m bx : Nat) (hC : Chg (fun j => w0.heap.size ≤ j) w0 w) (hM : w0.heap.size ≤ M) (hm : m ≤ 4000) (hc : Cnt w M m) (hb : w.cell? ⟨bx, 0, none⟩ = some (.pointer (some ⟨M, 0, none⟩))) (hbM : bx ≠ M) :
    Calls Tryz.prog 67 #[.slice ak l.length ck, fewV bx] w fun e w' => e = .returned (.bool (!decide (sizesN l ≤ m))) ∧ Cnt w' M (left m (sizesN l)) ∧ Chg (fun j => j = M) w w' := by
  have HI := Lib.hid (few_index hk hlen hmax ih w M m bx hC hM hm hc hb hbM)
  obtain ⟨res, hres⟩ : ∃ res, (!decide (sizesN l ≤ m)) = res := ⟨_, rfl⟩
  rw [hres] at HI ⊢
  clear hk ih hC hc hb hres
  unfold fewV at *
  go_enter Tryz.func67, Tryz.ntmps67
  go_wp2_with fail
  refine HI.out.mono ?_
  rintro e w1 ⟨⟨r, rfl, hr⟩, hc1, hC1⟩
  have HC1 := Lib.hid hC1
  have HC2 := Lib.hid hc1
  subst hr
  clear hc1 hC1 HI
  go_wp2_with fail
  go_ret
  exact ⟨rfl, HC2.out, HC1.out⟩
end Go.Proofs.YtaklmocjaokkpaaGreatDoor.Tr
namespace Go.Proofs.YtaklmocjaokkpaaGreatDoor.Tr
set_option linter.unusedVariables false
set_option linter.unusedSimpArgs false
open Go.RowKit Go.Shelf Go.Proofs.YtaklmocjaokkpaaGreatDoor.Mem

theorem cnt_set {w : World} {M : Nat} {m : Int} (h : Cnt w M m) (m' : Int) : Cnt (w.setCell ⟨M, 0, none⟩ (.int .i64 m')) M m' := by
  unfold Cnt at *
  have := blk_set h 0 (.int .i64 m')
  simpa using this
set_option maxRecDepth 100000 in
set_option maxHeartbeats 4000000 in
theorem few_calls {w0 : World} : ∀ (x : Nd) (nv kv : Value), NdIn w0 nv kv x → FewOk w0 x nv kv := by
  intro x
  induction x using Nd.ind with
  | h x ih =>
    intro nv kv h w M m hC hM hm hc
    obtain ⟨an, cn, ak, ck, rfl, rfl, _, _, hkl, hkm, hk⟩ := h.forms
    obtain ⟨w2, hw2⟩ : ∃ w2, (w.alloc (ndBox x (.slice an x.names.length cn) (.slice ak x.kids.length ck))).alloc (.cells #[.pointer (some ⟨M, 0, none⟩)] 56) = w2 := ⟨_, rfl⟩
    have hC2 : Chg (fun _ => False) w w2 := by rw [← hw2]; exact ((Chg.refl _ w).alloc _).alloc _
    have hsz : w2.heap.size = w.heap.size + 2 := by rw [← hw2]; simp
    have hb1 : w2.heap[w.heap.size]? = some (ndBox x (.slice an x.names.length cn) (.slice ak x.kids.length ck)) := by rw [← hw2]; exact blk_alloc (blk_new w _) _
    have hb2 : w2.heap[w.heap.size + 1]? = some (.cells #[.pointer (some ⟨M, 0, none⟩)] 56 (0, 0)) := by
      rw [← hw2]
      have := blk_new (w.alloc (ndBox x (.slice an x.names.length cn) (.slice ak x.kids.length ck))) (.cells #[.pointer (some ⟨M, 0, none⟩)] 56)
      simpa using this
    have hcm := hC2.blk hc (fun e => e)
    have hMl : M < w.heap.size := lt_of_block hc
    have m0 : w2.cell? ⟨M, 0, none⟩ = some (.int .i64 m) := cell_of hcm 0
    have mf : w2.frozen? ⟨M, 0, none⟩ = false := free_of hcm 0
    have p0 : w2.cell? ⟨w.heap.size + 1, 0, none⟩ = some (.pointer (some ⟨M, 0, none⟩)) := cell_of hb2 0
    have k4 : w2.cell? ⟨w.heap.size, 4, none⟩ = some (.slice ak x.kids.length ck) := cell_of hb1 4
    have hne1 : w.heap.size ≠ M := by omega
    have hne2 : w.heap.size + 1 ≠ M := by omega
    have hS : Chg (fun j => j = M) w2 (w2.setCell ⟨M, 0, none⟩ (.int .i64 ((m : Int) - 1))) := Chg.set (p := ⟨M, 0, none⟩) (F := fun j => j = M) (Chg.refl _ w2) (fun _ => rfl) _
    have HS := Lib.hid ((hC2.mono (fun _ _ e => e.elim)).andThen hS (fun _ _ e => e))
    have HCN := Lib.hid (cnt_set hcm ((m : Int) - 1))
    rw [sizeN_is]
    have hcm0 : (0 : Int) ≤ (m : Int) := by omega
    have hcm1 : (m : Int) ≤ 4000 := by omega
    cases m with
    | zero =>
      have hd : decide (1 + sizesN x.kids ≤ 0) = false := decide_eq_false (by omega)
      have hl : left 0 (1 + sizesN x.kids) = -1 := by unfold left; rw [if_neg (by omega)]
      rw [hd, hl]
      clear ih h hk hC hb1 hb2 hcm hC2 hS hc hsz hd hl
      unfold ndBox at hw2
      unfold ndV
      go_enter Tryz.func36, Tryz.ntmps36
      go_wp2_with fail
      go_ret
      exact ⟨rfl, HCN.out, HS.out⟩
    | succ m =>
      have hmm : ((m + 1 : Nat) : Int) - 1 = (m : Int) := by push_cast; omega
      rw [hmm] at HCN HS
      have HF := Lib.hid (few_contains hk hkl hkm (fun y hy nv kv hin => ih y hy nv kv hin) (w2.setCell ⟨M, 0, none⟩ (.int .i64 (m : Int))) M m (w.heap.size + 1)
        ((hC.trans (hC2.mono (fun _ _ e => e.elim))).set (p := ⟨M, 0, none⟩) (fun _ => hM) _) hM (by omega) HCN.out
        (by have := (hS.cell p0 hne2); rw [hmm] at this; exact this) hne2)
      obtain ⟨ok, hok⟩ : ∃ ok, decide (sizesN x.kids ≤ m) = ok := ⟨_, rfl⟩
      have hd : decide (1 + sizesN x.kids ≤ m + 1) = ok := by
        rw [← hok]
        by_cases hq : sizesN x.kids ≤ m
        · rw [decide_eq_true hq, decide_eq_true (by omega)]
        · rw [decide_eq_false hq, decide_eq_false (by omega)]
      have hl : left (m + 1) (1 + sizesN x.kids) = left m (sizesN x.kids) := by
        unfold left
        by_cases hq : sizesN x.kids ≤ m
        · rw [if_pos (by omega), if_pos hq]; push_cast; omega
        · rw [if_neg (by omega), if_neg hq]
      rw [hd, hl]
      rw [hok] at HF
      unfold fewV at HF
      have k4s : (w2.setCell ⟨M, 0, none⟩ (.int .i64 (m : Int))).cell? ⟨w.heap.size, 4, none⟩ = some (.slice ak x.kids.length ck) := by
        have := hS.cell k4 hne1
        rw [hmm] at this
        exact this
      have hm0 : (0 : Int) ≤ (m : Int) := by omega
      clear ih h hk hC hb1 hb2 hcm hC2 hS hc hsz hd hl hok
      unfold ndBox at hw2
      unfold ndV
      go_enter Tryz.func36, Tryz.ntmps36
      go_wp2_with fail
      refine HF.out.mono ?_
      rintro e w4 ⟨rfl, hc4, hC4⟩
      have HC4 := Lib.hid hc4
      have HCC := Lib.hid (HS.out.trans hC4)
      clear hc4 hC4 HF
      go_wp2_with fail
      go_ret
      exact ⟨by simp, HC4.out, HCC.out⟩
end Go.Proofs.YtaklmocjaokkpaaGreatDoor.Tr
