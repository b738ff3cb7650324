/- How many nodes there are: the document's count and the program's. Condition: there are at most 2^40. -/
import Derived.Test.YtaklmocjaokkpaaGreatDoorTreeNode
import Derived.WalkKit
import Derived.Lib.Hide
import Derived.Deep.QuietTactic
import Derived.BigQuiet
import Derived.WalkLawsBesides
import Derived.Deep.RegionHeld3
import Derived.IntWalk
import Derived.Deep.LoopGhost
import Derived.Laws.IdiomStrings
import Derived.Deep.RegionLaw
import Derived.BigRegion
import Derived.Deep.RegionWith
import Derived.Deep.DrawnRows
import Derived.Lib.BufferRead
import Derived.Deep.AppendLies
import Derived.Shelf.Abstract
namespace Go.Proofs.YtaklmocjaokkpaaGreatDoor.Tr
set_option linter.unusedVariables false
set_option linter.unusedSimpArgs false
open Go.RowKit Go.Proofs.YtaklmocjaokkpaaGreatDoor.Mem

theorem sizes_le (l : List Nd) (j : Nat) : sizesN (l.take j) ≤ sizesN l := by
  induction l generalizing j with
  | nil => simp
  | cons x l ih =>
    cases j with
    | zero => simp [sizesN]
    | succ j => rw [List.take_succ_cons, sizesN, sizesN]; have := ih j; omega
theorem size_mem {l : List Nd} {x : Nd} (h : x ∈ l) : sizeN x ≤ sizesN l := by
  induction l with
  | nil => simp at h
  | cons y l ih =>
    rw [sizesN]
    rcases List.mem_cons.1 h with rfl | h
    · omega
    · have := ih h; omega
theorem len_sizes (l : List Nd) : l.length ≤ sizesN l := by
  induction l with
  | nil => simp
  | cons x l ih => rw [sizesN, List.length_cons]; have := sizeN_pos x; omega
/-- The cells of part j. -/
theorem kid_cells {w : World} {ad : Option Addr} {l : List Nd} (h : KidsIn w ad 0 l) (j : Nat) (hj : j < l.length) : ∃ b off nv kv x, ad = some ⟨b, off, none⟩ ∧ l[j]? = some x ∧ x ∈ l ∧ w.cell? ⟨b, off + j * 5, none⟩ = some (.int .u8 x.kind) ∧ w.cell? ⟨b, off + j * 5 + 1, none⟩ = some (.int .i64 x.n) ∧
    w.cell? ⟨b, off + j * 5 + 2, none⟩ = some (.string x.text) ∧ w.cell? ⟨b, off + j * 5 + 3, none⟩ = some nv ∧ w.cell? ⟨b, off + j * 5 + 4, none⟩ = some kv ∧ NdIn w nv kv x := by
  obtain ⟨x, hx⟩ : ∃ x, l[j]? = some x := ⟨_, List.getElem?_eq_getElem hj⟩
  obtain ⟨b, off, nv, kv, e1, e2, e3, e4, e5, e6, e7, e8⟩ := h.at_ j x hx
  rw [Nat.zero_add] at e3 e4 e5 e6 e7
  exact ⟨b, off, nv, kv, x, e1, hx, List.mem_of_getElem? hx, e3, e4, e5, e6, e7, e8⟩
/-- What a node's slices look like. -/
theorem NdIn.forms {w : World} {nv kv : Value} {x : Nd} (h : NdIn w nv kv x) : ∃ an cn ak ck, nv = .slice an x.names.length cn ∧ kv = .slice ak x.kids.length ck ∧ x.names.length ≤ cn ∧ cn ≤ maxLen ∧ x.kids.length ≤ ck ∧ ck ≤ maxLen ∧ KidsIn w ak 0 x.kids := by
  obtain ⟨an, cn, h1, h2, h3, _⟩ := h.names
  obtain ⟨ak, ck, g1, g2, g3, g4⟩ := h.kids
  exact ⟨an, cn, ak, ck, h1, g1, h2, h3, g2, g3, g4⟩
set_option maxRecDepth 100000 in
set_option maxHeartbeats 2000000 in
theorem rsize_calls : ∀ (x : Nd) (nv kv : Value) (w : World), NdIn w nv kv x → sizeN x ≤ 1099511627776 →
    Calls Tryz.prog 21 #[ndV x nv kv] w fun e w' => e = .returned (.int .i64 (sizeN x : Int)) ∧ Chg (fun _ => False) w w' := by
  intro x
  induction x using Nd.ind with
  | h x ih =>
    intro nv kv w h hs
    obtain ⟨an, cn, ak, ck, rfl, rfl, _, _, _, _, hk⟩ := h.forms
    rw [sizeN_is] at hs ⊢
    obtain ⟨m, hm⟩ : ∃ m, x.kids.length = m := ⟨_, rfl⟩
    have HM := Lib.hid hm
    have hmm := len_sizes x.kids
    rw [hm] at hmm ⊢
    have HK := Lib.hid hk
    have HIH := Lib.hid ih
    obtain ⟨all, hall⟩ : ∃ all, sizesN x.kids = all := ⟨_, rfl⟩
    rw [hall] at hs hmm ⊢
    have HALL := Lib.hid hall
    obtain ⟨w0, hw0⟩ : ∃ w0, w.alloc (ndBox x (.slice an x.names.length cn) (.slice ak m ck)) = w0 := ⟨_, rfl⟩
    have hC0 : Chg (fun _ => False) w w0 := by rw [← hw0]; exact (Chg.refl _ w).alloc _
    have hb0 : w0.heap[w.heap.size]? = some (ndBox x (.slice an x.names.length cn) (.slice ak m ck)) := by rw [← hw0]; exact blk_new w _
    have HB0 := Lib.hid hb0
    have HC0 := Lib.hid hC0
    clear h ih hk hm hall hb0 hC0
    unfold ndBox at HB0 hw0
    unfold ndV
    go_enter Tryz.func21, Tryz.ntmps21
    have a4 : w0.cell? ⟨w.heap.size, 4, none⟩ = some (.slice ak m ck) := cell_of HB0.out 4
    go_wp2_with fail

    go_loopg [3, 8] (m + 1) (fun g va vi wr => ∃ (j : Nat), vi = .int .i64 j ∧ va = .int .i64 ((1 + sizesN (x.kids.take j) : Nat) : Int) ∧ j ≤ m ∧ m < g + j ∧ Hid (Chg (fun _ => False) w0 wr))
    case atStart => exact ⟨0, rfl, by simp [sizesN], by omega, by omega, Lib.hid (Chg.refl _ _)⟩
    case round =>
      obtain ⟨j, rfl, rfl, hj, hg, hC⟩ := hrel
      have a4r := hC.out.cell a4 (fun h => h)
      by_cases hlt : j < m
      · obtain ⟨gk', rfl⟩ : ∃ q, gk = q + 1 := ⟨gk - 1, by omega⟩
        obtain ⟨b, off, nv', kv', y, rfl, hy, hym, c0, c1, c2, c3, c4, hin⟩ := kid_cells (HK.out.kept (HC0.out.trans hC.out)) j (by rw [HM.out]; exact hlt)
        have hst := sizesN_take x.kids j y hy
        have hle := sizes_le x.kids (j + 1)
        rw [HALL.out, hst] at hle
        have HS := Lib.hid (HIH.out y hym nv' kv' wr hin (by omega))
        have HST := Lib.hid hst
        have i0 : (0 : Int) ≤ (j : Int) := by omega
        have i1 : (j : Int) < (m : Int) := by omega
        obtain ⟨pre, hpre⟩ : ∃ pre, sizesN (x.kids.take j) = pre := ⟨_, rfl⟩
        obtain ⟨sy, hsy⟩ : ∃ sy, sizeN y = sy := ⟨_, rfl⟩
        rw [hpre] at hle HST ⊢
        rw [hsy] at hle HST HS
        unfold ndV at HS
        obtain ⟨an', cn', ak', ck', rfl, rfl, _⟩ := hin.forms
        have hc1 : ((1 + pre : Nat) : Int) = 1 + (pre : Int) := by push_cast; rfl
        rw [hc1]
        clear hy hym hin hst hpre hsy hc1
        go_wp2_with fail
        refine HS.out.mono ?_
        rintro e w1 ⟨rfl, hC1⟩
        have HC1 := Lib.hid (hC.out.trans hC1)
        clear hC1 HS c0 c1 c2 c3 c4
        go_wp2_with fail
        go_roundg gk'
        case measure => omega
        case rel => exact ⟨j + 1, by go_num, by rw [HST.out]; push_cast; congr 1; omega, by omega, by omega, HC1.out⟩
      · obtain rfl : j = m := by omega
        have hall : x.kids.take j = x.kids := List.take_of_length_le (by rw [HM.out]; exact Nat.le_refl _)
        rw [hall, HALL.out]
        have hkk : ¬ (j : Int) < (j : Int) := by omega
        clear hall
        go_wp2_with fail
        go_ret
        exact ⟨rfl, HC0.out.trans hC.out⟩
end Go.Proofs.YtaklmocjaokkpaaGreatDoor.Tr
