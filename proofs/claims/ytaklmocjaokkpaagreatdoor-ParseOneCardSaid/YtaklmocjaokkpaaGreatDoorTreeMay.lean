/- May a node be, and how many nodes it has: the program's, walked. Condition: texts and rows of parts of at most 2^20; what XTreeText's functions want; at most 2^40 nodes for the count. -/
import Derived.Test.YtaklmocjaokkpaaGreatDoorTreeRight
import Derived.Test.YtaklmocjaokkpaaGreatDoorTreeSizes
namespace Go.Proofs.YtaklmocjaokkpaaGreatDoor.Tr
set_option linter.unusedVariables false
set_option linter.unusedSimpArgs false
open Go.RowKit Go.Shelf Go.Proofs.YtaklmocjaokkpaaGreatDoor.Mem

set_option maxRecDepth 100000 in
set_option maxHeartbeats 1000000 in
theorem may_calls (x : Nd) (nv kv : Value) (w : World) (h : NdIn w nv kv x) (hg : Gm w) (hsm : Small x) :
    Calls Tryz.prog 22 #[ndV x nv kv] w fun e w' => e = .returned (.bool (mayB x)) ∧ Chg (fun _ => False) w w' := by
  obtain ⟨w1, hw1⟩ : ∃ w1, w.alloc (ndBox x nv kv) = w1 := ⟨_, rfl⟩
  obtain ⟨w2, hw2⟩ : ∃ w2, w1.alloc (.cells #[.int .i64 4000] 3) = w2 := ⟨_, rfl⟩
  have hC1 : Chg (fun _ => False) w w1 := by rw [← hw1]; exact (Chg.refl _ w).alloc _
  have hC2 : Chg (fun _ => False) w w2 := by rw [← hw2]; exact hC1.alloc _
  have hb : w2.heap[w.heap.size]? = some (ndBox x nv kv) := by rw [← hw2, ← hw1]; exact blk_alloc (blk_new w _) _
  have hm : w2.heap[w1.heap.size]? = some (.cells #[.int .i64 4000] 3) := by rw [← hw2]; exact blk_new w1 _
  have hsz : w1.heap.size = w.heap.size + 1 := by rw [← hw1]; simp
  have HB := Lib.hid hb
  have HM := Lib.hid hm
  have HC := Lib.hid hC2
  have HR := Lib.hid (tright_calls x nv kv 1 w2 (h.kept hC2) (hg.later hC2) hsm (by omega))
  obtain ⟨r, hr⟩ : ∃ r, rightB x 1 = r := ⟨_, rfl⟩
  have HF := Lib.hid (fun W M (m : Nat) (h1 : Chg (fun _ => False) w W) h2 h3 h4 => few_calls (w0 := w) x nv kv h W M m (h1.mono (fun _ _ e => e.elim)) h2 h3 h4)
  obtain ⟨res, hres⟩ : ∃ res, mayB x = res := ⟨_, rfl⟩
  have hres2 : (decide (x.kind < 17) && r && decide (sizeN x ≤ 4000)) = res := by rw [← hres, ← hr]; rfl
  rw [hr] at HR
  rw [hres]
  have hkb := h.kind
  obtain ⟨an, cn, ak, ck, rfl, rfl, _⟩ := h.forms
  obtain ⟨ks, hks⟩ : ∃ ks, x.kind = ks := ⟨_, rfl⟩
  unfold ndBox at HB hw1
  unfold ndV at HR HF ⊢
  have a0 := cell_of HB.out 0
  have a1 := cell_of HB.out 1
  have a2 := cell_of HB.out 2
  have a3 := cell_of HB.out 3
  have a4 := cell_of HB.out 4
  rw [hks] at HB HR HF hres2 hkb hw1 a0 ⊢
  have HRES := Lib.hid hres2
  clear h hg hsm hC1 hC2 hb hm hr hres hres2 hks
  go_enter Tryz.func22, Tryz.ntmps22
  by_cases hk : ks < 17
  · have hk1 : (ks : Int) < 17 := by omega
    go_wp2_with fail
    refine HR.out.mono ?_
    rintro e w3 ⟨rfl, hC3⟩
    have HC3 := Lib.hid (HC.out.trans hC3)
    have HB3 := Lib.hid (hC3.blk HB.out (fun e => e))
    have HM3 := Lib.hid (hC3.blk HM.out (fun e => e))
    clear hC3 HR a0 a1 a2 a3 a4
    have a0 := cell_of HB3.out 0
    have a1 := cell_of HB3.out 1
    have a2 := cell_of HB3.out 2
    have a3 := cell_of HB3.out 3
    have a4 := cell_of HB3.out 4
    cases r with
    | false =>
      obtain rfl : false = res := by rw [← HRES.out, decide_eq_true hk]; rfl
      go_wp2_with fail
      go_ret
      exact ⟨rfl, HC3.out⟩
    | true =>
      have HF3 := Lib.hid (HF.out w3 w1.heap.size 4000 HC3.out (by omega) (Nat.le_refl _) HM3.out)
      obtain ⟨d, hd⟩ : ∃ d, decide (sizeN x ≤ 4000) = d := ⟨_, rfl⟩
      obtain rfl : d = res := by rw [← HRES.out, decide_eq_true hk, hd]; rfl
      rw [hd, hsz] at HF3
      have HSZ := Lib.hid hsz
      clear hd HF HRES
      go_wp2_with fail
      refine HF3.out.mono ?_
      rintro e w4 ⟨rfl, hcn, hC4⟩
      have HC4 : Hid (Chg (fun _ => False) w w4) := Lib.hid (HC3.out.andThen hC4 (fun j hj e => by have := HSZ.out; omega))
      clear hcn hC4 HF3
      go_wp2_with fail
      go_ret
      exact ⟨rfl, HC4.out⟩
  · have hk1 : ¬ (ks : Int) < 17 := by omega
    obtain rfl : false = res := by rw [← HRES.out, decide_eq_false hk]; rfl
    go_wp2_with fail
    go_ret
    exact ⟨rfl, HC.out⟩
set_option maxRecDepth 100000 in
set_option maxHeartbeats 2000000 in
theorem tsize_calls : ∀ (x : Nd) (nv kv : Value) (w : World), NdIn w nv kv x → sizeN x ≤ 1099511627776 →
    Calls Tryz.prog 20 #[ndV x nv kv] w fun e w' => e = .returned (.int .i64 (sizeN x : Int)) ∧ Chg (fun _ => False) w w' := by
  intro x
  induction x using Nd.ind with
  | h x ih =>
    intro nv kv w h hs
    obtain ⟨an, cn, ak, ck, rfl, rfl, _, _, _, _, hk⟩ := h.forms
    rw [sizeN_is] at hs ⊢
    obtain ⟨m, hm⟩ : ∃ m, x.kids.length = m := ⟨_, rfl⟩
    have HM := Lib.hid hm
    have hmm := len_sizes x.kids
    rw [hm] at hmm ⊢
    have HK := Lib.hid hk
    have HIH := Lib.hid ih
    obtain ⟨all, hall⟩ : ∃ all, sizesN x.kids = all := ⟨_, rfl⟩
    rw [hall] at hs hmm ⊢
    have HALL := Lib.hid hall
    obtain ⟨w0, hw0⟩ : ∃ w0, w.alloc (ndBox x (.slice an x.names.length cn) (.slice ak m ck)) = w0 := ⟨_, rfl⟩
    have hC0 : Chg (fun _ => False) w w0 := by rw [← hw0]; exact (Chg.refl _ w).alloc _
    have hb0 : w0.heap[w.heap.size]? = some (ndBox x (.slice an x.names.length cn) (.slice ak m ck)) := by rw [← hw0]; exact blk_new w _
    have HB0 := Lib.hid hb0
    have HC0 := Lib.hid hC0
    clear h ih hk hm hall hb0 hC0
    unfold ndBox at HB0 hw0
    unfold ndV
    go_enter Tryz.func20, Tryz.ntmps20
    have a4 : w0.cell? ⟨w.heap.size, 4, none⟩ = some (.slice ak m ck) := cell_of HB0.out 4
    go_wp2_with fail
    go_loopg [3, 9] (m + 1) (fun g va vi wr => ∃ (j : Nat), vi = .int .i64 j ∧ va = .int .i64 ((1 + sizesN (x.kids.take j) : Nat) : Int) ∧ j ≤ m ∧ m < g + j ∧ Hid (Chg (fun _ => False) w0 wr))
    case atStart => exact ⟨0, rfl, by simp [sizesN], by omega, by omega, Lib.hid (Chg.refl _ _)⟩
    case round =>
      obtain ⟨j, rfl, rfl, hj, hg, hC⟩ := hrel
      by_cases hlt : j < m
      · obtain ⟨gk', rfl⟩ : ∃ q, gk = q + 1 := ⟨gk - 1, by omega⟩
        obtain ⟨b, off, nv', kv', y, rfl, hy, hym, c0, c1, c2, c3, c4, hin⟩ := kid_cells (HK.out.kept (HC0.out.trans hC.out)) j (by rw [HM.out]; exact hlt)
        have hst := sizesN_take x.kids j y hy
        have hle := sizes_le x.kids (j + 1)
        rw [HALL.out, hst] at hle
        have HS := Lib.hid (fun W (hW : Chg (fun _ => False) wr W) => HIH.out y hym nv' kv' W (NdIn.kept hW y _ _ hin) (by omega))
        have HST := Lib.hid hst
        have i0 : (0 : Int) ≤ (j : Int) := by omega
        have i1 : (j : Int) < (m : Int) := by omega
        obtain ⟨pre, hpre⟩ : ∃ pre, sizesN (x.kids.take j) = pre := ⟨_, rfl⟩
        obtain ⟨sy, hsy⟩ : ∃ sy, sizeN y = sy := ⟨_, rfl⟩
        rw [hpre] at hle HST ⊢
        rw [hsy] at hle HST HS
        unfold ndV at HS
        obtain ⟨an', cn', ak', ck', rfl, rfl, _⟩ := hin.forms
        have hc1 : ((1 + pre : Nat) : Int) = 1 + (pre : Int) := by push_cast; rfl
        rw [hc1]
        clear hy hym hin hst hpre hsy hc1
        go_wp2_with fail
        refine (HS.out _ ((Chg.refl _ wr).alloc _)).mono ?_
        rintro e w1 ⟨rfl, hC1⟩
        have HC1 := Lib.hid ((hC.out.alloc _).trans hC1)
        clear hC1 HS c0 c1 c2 c3 c4
        go_wp2_with fail
        go_roundg gk'
        case measure => omega
        case rel => exact ⟨j + 1, by go_num, by rw [HST.out]; push_cast; congr 1; omega, by omega, by omega, HC1.out⟩
      · obtain rfl : j = m := by omega
        have hall : x.kids.take j = x.kids := List.take_of_length_le (by rw [HM.out]; exact Nat.le_refl _)
        rw [hall, HALL.out]
        have hkk : ¬ (j : Int) < (j : Int) := by omega
        clear hall
        go_wp2_with fail
        go_ret
        exact ⟨rfl, HC0.out.trans hC.out⟩
end Go.Proofs.YtaklmocjaokkpaaGreatDoor.Tr
