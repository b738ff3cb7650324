/- Is a node more than is gone through: the document's Great, walked. Condition: at most 2^40 nodes; rows of at most 2^62. -/
import Derived.Test.YtaklmocjaokkpaaGreatDoorTreeSizes
namespace Go.Proofs.YtaklmocjaokkpaaGreatDoor.Tr
set_option linter.unusedVariables false
set_option linter.unusedSimpArgs false
open Go.RowKit Go.Shelf Go.Proofs.YtaklmocjaokkpaaGreatDoor.Mem

def bigB (at_ nk nn nt : Nat) : Bool := decide (80 < at_) || decide (200 < nk) || decide (200 < nn) || decide (70000 < nt)
def longB (ns : List ByteArray) : Bool := ns.any fun s => decide (1000 < s.size)
mutual
def greatB : Nd → Nat → Bool
  | .mk k n t ns ks, at_ => bigB at_ ks.length ns.length t.size || longB ns || greatsB ks (at_ + 1) || (decide (at_ = 0) && decide (5000 < 1 + sizesN ks))
def greatsB : List Nd → Nat → Bool
  | [], _ => false
  | x :: l, at_ => greatB x at_ || greatsB l at_
end
theorem greatB_is (x : Nd) (at_ : Nat) : greatB x at_ = (bigB at_ x.kids.length x.names.length x.text.size || longB x.names || greatsB x.kids (at_ + 1) || (decide (at_ = 0) && decide (5000 < sizeN x))) := by
  cases x; rw [greatB, sizeN]; rfl
theorem greatsB_any (l : List Nd) (at_ : Nat) : greatsB l at_ = l.any fun x => greatB x at_ := by
  induction l with
  | nil => rw [greatsB]; rfl
  | cons x l ih => rw [greatsB, ih]; rfl
theorem any_take {α : Type} (l : List α) (p : α → Bool) (k : Nat) (y : α) (h : l[k]? = some y) : (l.take (k + 1)).any p = ((l.take k).any p || p y) := by
  rw [List.take_add_one, h]; simp
theorem any_mem {α : Type} (l : List α) (p : α → Bool) (k : Nat) (y : α) (h : l[k]? = some y) (hp : p y = true) : l.any p = true := List.any_eq_true.2 ⟨y, List.mem_of_getElem? h, hp⟩
set_option maxRecDepth 100000 in
set_option maxHeartbeats 3000000 in
theorem great_calls : ∀ (x : Nd) (nv kv : Value) (at_ : Nat) (w : World), NdIn w nv kv x → sizeN x ≤ 1099511627776 → at_ ≤ 81 →
    Calls Tryz.prog 14 #[ndV x nv kv, .int .i64 at_] w fun e w' => e = .returned (.bool (greatB x at_)) ∧ Chg (fun _ => False) w w' := by
  intro x
  induction x using Nd.ind with
  | h x ih =>
    intro nv kv at_ w h hs hat
    obtain ⟨w1, hw1⟩ : ∃ w1, w.alloc (ndBox x nv kv) = w1 := ⟨_, rfl⟩
    have hC1 : Chg (fun _ => False) w w1 := by rw [← hw1]; exact (Chg.refl _ w).alloc _
    have hb : w1.heap[w.heap.size]? = some (ndBox x nv kv) := by rw [← hw1]; exact blk_new w _
    have HB := Lib.hid hb
    have HC1 := Lib.hid hC1
    have HIH := Lib.hid ih
    have HSZ := Lib.hid (fun W (hW : Chg (fun _ => False) w W) => rsize_calls x nv kv W (h.kept hW) hs)
    have HSS : Hid (∀ y ∈ x.kids, sizeN y ≤ 1099511627776) := Lib.hid fun y hy => by have := size_mem hy; rw [sizeN_is] at hs; omega
    have hs2 := hs
    obtain ⟨an, cn, ak, ck, rfl, rfl, hnc, hnm, hkc, hkm, hk⟩ := h.forms
    have hck2 : ck ≤ 9223372036854775807 := by unfold maxLen at hkm; omega
    have hcn2 : cn ≤ 9223372036854775807 := by unfold maxLen at hnm; omega
    have HK := Lib.hid (hk.kept hC1)
    have HN : Hid (∀ i s, x.names[i]? = some s → ∃ b off, an = some ⟨b, off, none⟩ ∧ w1.cell? ⟨b, off + i, none⟩ = some (.string s)) := Lib.hid (by
      obtain ⟨ad, cap, e, e1, e2, e3⟩ := h.names.kept hC1
      simp only [Value.slice.injEq] at e
      obtain ⟨rfl, _, rfl⟩ := e
      intro i s hi
      obtain ⟨b, off, f1, _, f3⟩ := e3 i s hi
      exact ⟨b, off, f1, f3⟩)
    obtain ⟨res, hres⟩ : ∃ res, greatB x at_ = res := ⟨_, rfl⟩
    rw [hres]
    rw [greatB_is] at hres
    obtain ⟨n, hn⟩ : ∃ n, x.kids.length = n := ⟨_, rfl⟩
    obtain ⟨ln, hln⟩ : ∃ ln, x.names.length = ln := ⟨_, rfl⟩
    obtain ⟨tx, htx⟩ : ∃ tx, x.text = tx := ⟨_, rfl⟩
    obtain ⟨sz, hsz⟩ : ∃ sz, sizeN x = sz := ⟨_, rfl⟩
    unfold ndBox at HB hw1
    unfold ndV at HSZ ⊢
    rw [hsz] at HSZ hres hs2
    rw [hn, hln, htx] at HB hw1 HSZ hres
    rw [hn, hln, htx]
    rw [hn] at hkc
    rw [hln] at hnc
    have HRES := Lib.hid hres
    have HNN := Lib.hid hn
    have HLN := Lib.hid hln
    have a0 := cell_of HB.out 0
    have a1 := cell_of HB.out 1
    have a2 := cell_of HB.out 2
    have a3 := cell_of HB.out 3
    have a4 := cell_of HB.out 4
    clear h hs ih hC1 hb hk hkm hnm hn hln htx hsz hres
    go_enter Tryz.func14, Tryz.ntmps14
    by_cases q1 : 80 < at_
    · have q2 : (80 : Int) < (at_ : Int) := by omega
      obtain rfl : true = res := by rw [← HRES.out]; unfold bigB; rw [decide_eq_true q1]; simp
      go_wp2_with fail
      go_ret
      exact ⟨rfl, HC1.out⟩
    have q2 : ¬ (80 : Int) < (at_ : Int) := by omega
    by_cases r1 : 200 < n
    · have r2 : (200 : Int) < (n : Int) := by omega
      obtain rfl : true = res := by rw [← HRES.out]; unfold bigB; rw [decide_eq_true r1]; simp
      go_wp2_with fail
      go_ret
      exact ⟨rfl, HC1.out⟩
    have r2 : ¬ (200 : Int) < (n : Int) := by omega
    by_cases s1 : 200 < ln
    · have s2 : (200 : Int) < (ln : Int) := by omega
      obtain rfl : true = res := by rw [← HRES.out]; unfold bigB; rw [decide_eq_true s1]; simp
      go_wp2_with fail
      go_ret
      exact ⟨rfl, HC1.out⟩
    have s2 : ¬ (200 : Int) < (ln : Int) := by omega
    by_cases t1 : 70000 < tx.size
    · have t2 : (70000 : Int) < (tx.size : Int) := by omega
      obtain rfl : true = res := by rw [← HRES.out]; unfold bigB; rw [decide_eq_true t1]; simp
      go_wp2_with fail
      go_ret
      exact ⟨rfl, HC1.out⟩
    have t2 : ¬ (70000 : Int) < (tx.size : Int) := by omega
    have HBIG : Hid (bigB at_ n ln tx.size = false) := Lib.hid (by unfold bigB; rw [decide_eq_false q1, decide_eq_false r1, decide_eq_false s1, decide_eq_false t1]; rfl)
    have hat0 : at_ ≤ 80 := by omega
    clear q1 r1 s1 t1
    go_wp2_with fail
    go_loopg [30] (ln + 1) (fun g vi wr => ∃ (j : Nat), vi = .int .i64 j ∧ j ≤ ln ∧ ln < g + j ∧ Hid (longB (x.names.take j) = false) ∧ wr = w1)
    case atStart => exact ⟨0, rfl, by omega, by omega, Lib.hid rfl, rfl⟩
    case round =>
      obtain ⟨j, rfl, hj, hg, hlo, hqw⟩ := hrel
      obtain rfl : w1 = wr := hqw.symm
      by_cases hlt : j < ln
      · obtain ⟨gk', rfl⟩ : ∃ q, gk = q + 1 := ⟨gk - 1, by omega⟩
        obtain ⟨s, hs⟩ : ∃ s, x.names[j]? = some s := ⟨_, List.getElem?_eq_getElem (by rw [HLN.out]; exact hlt)⟩
        obtain ⟨b, off, rfl, c0⟩ := HN.out j s hs
        have HSJ := Lib.hid hs
        have i0 : (0 : Int) ≤ (j : Int) := by omega
        have i1 : (j : Int) < (ln : Int) := by omega
        clear hs
        by_cases l1 : 1000 < s.size
        · have l2 : (1000 : Int) < (s.size : Int) := by omega
          obtain rfl : true = res := by
            rw [← HRES.out, HBIG.out]
            unfold longB
            rw [any_mem x.names _ j s HSJ.out (decide_eq_true l1)]
            simp
          go_wp2_with fail
          go_ret
          exact ⟨rfl, HC1.out⟩
        · have l2 : ¬ (1000 : Int) < (s.size : Int) := by omega
          have HLO : Hid (longB (x.names.take (j + 1)) = false) := Lib.hid (by
            have := hlo.out
            unfold longB at this ⊢
            rw [any_take _ _ _ _ HSJ.out, this, decide_eq_false l1]
            rfl)
          go_wp2_with fail
          go_roundg gk'
          case measure => omega
          case rel => exact ⟨j + 1, by go_num, by omega, by omega, HLO, rfl⟩
      · obtain rfl : j = ln := by omega
        have hkk : ¬ (j : Int) < (j : Int) := by omega
        have HLO : Hid (longB x.names = false) := Lib.hid (by
          have := hlo.out
          rw [List.take_of_length_le (by rw [HLN.out]; exact Nat.le_refl _)] at this
          exact this)
        clear hlo
        go_wp2_with fail
        go_loopg [44] (n + 1) (fun g vi wr => ∃ (k : Nat), vi = .int .i64 k ∧ k ≤ n ∧ n < g + k ∧ Hid (greatsB (x.kids.take k) (at_ + 1) = false) ∧ Hid (Chg (fun _ => False) w1 wr))
        case atStart => exact ⟨0, rfl, by omega, by omega, Lib.hid rfl, Lib.hid (Chg.refl _ _)⟩
        case round =>
          obtain ⟨k, rfl, hk, hg2, hgr, hC⟩ := hrel
          have a0r := hC.out.cell a0 (fun e => e)
          have a1r := hC.out.cell a1 (fun e => e)
          have a2r := hC.out.cell a2 (fun e => e)
          have a3r := hC.out.cell a3 (fun e => e)
          have a4r := hC.out.cell a4 (fun e => e)
          by_cases hltk : k < n
          · obtain ⟨gk', rfl⟩ : ∃ q, gk = q + 1 := ⟨gk - 1, by omega⟩
            obtain ⟨b, off, nv', kv', y, rfl, hy, hym, c0, c1, c2, c3, c4, hin⟩ := kid_cells (HK.out.kept hC.out) k (by rw [HNN.out]; exact hltk)
            have HY := Lib.hid hy
            have hdd : ((at_ + 1 : Nat) : Int) = (at_ : Int) + 1 := by push_cast; rfl
            have HS := Lib.hid (HIH.out y hym nv' kv' (at_ + 1) wr hin (HSS.out y hym) (by omega))
            rw [hdd] at HS
            unfold ndV at HS
            obtain ⟨an', cn', ak', ck', rfl, rfl, _⟩ := hin.forms
            have i0 : (0 : Int) ≤ (k : Int) := by omega
            have i1 : (k : Int) < (n : Int) := by omega
            obtain ⟨yr, hyr⟩ : ∃ yr, greatB y (at_ + 1) = yr := ⟨_, rfl⟩
            rw [hyr] at HS
            have HYR := Lib.hid hyr
            clear hy hym hin hdd hyr
            go_wp2_with fail
            refine HS.out.mono ?_
            rintro e w4 ⟨rfl, hC4⟩
            have HC4 : Hid (Chg (fun _ => False) w1 w4) := Lib.hid (hC.out.trans hC4)
            clear hC4 HS
            cases yr with
            | true =>
              obtain rfl : true = res := by
                rw [← HRES.out, HBIG.out, HLO.out, greatsB_any, any_mem x.kids _ k y HY.out HYR.out]
                rfl
              go_wp2_with fail
              go_ret
              exact ⟨rfl, HC1.out.trans HC4.out⟩
            | false =>
              have HGR : Hid (greatsB (x.kids.take (k + 1)) (at_ + 1) = false) := Lib.hid (by
                have := hgr.out
                rw [greatsB_any] at this ⊢
                rw [any_take _ _ _ _ HY.out, this, HYR.out]
                rfl)
              go_wp2_with fail
              go_roundg gk'
              case measure => omega
              case rel => exact ⟨k + 1, by go_num, by omega, by omega, HGR, HC4⟩
          · obtain rfl : k = n := by omega
            have hkk2 : ¬ (k : Int) < (k : Int) := by omega
            have HGR : Hid (greatsB x.kids (at_ + 1) = false) := Lib.hid (by
              have := hgr.out
              rw [List.take_of_length_le (by rw [HNN.out]; exact Nat.le_refl _)] at this
              exact this)
            have hr : (decide (at_ = 0) && decide (5000 < sz)) = res := by rw [← HRES.out, HBIG.out, HLO.out, HGR.out]; rfl
            have HR := Lib.hid hr
            clear hr hgr
            by_cases z1 : at_ = 0
            · subst z1
              obtain ⟨d, hd⟩ : ∃ d, decide ((5000 : Int) < (sz : Int)) = d := ⟨_, rfl⟩
              obtain rfl : d = res := by rw [← HR.out, ← hd, decide_eq_true rfl, Bool.true_and]; congr 1; apply propext; omega
              have HSW := Lib.hid (HSZ.out wr (HC1.out.trans hC.out))
              clear HSZ
              go_wp2_with fail
              refine HSW.out.mono ?_
              rintro e w5 ⟨rfl, hC5⟩
              have HC5 := Lib.hid ((HC1.out.trans hC.out).trans hC5)
              clear hC5 HSW
              go_wp2_with fail
              go_ret
              exact ⟨rfl, HC5.out⟩
            · have z2 : ¬ (at_ : Int) = 0 := by omega
              have z3 : ((at_ : Int) == 0) = false := beq_eq_false_iff_ne.2 z2
              obtain rfl : false = res := by rw [← HR.out, decide_eq_false z1]; rfl
              go_wp2_with fail
              go_ret
              exact ⟨rfl, HC1.out.trans hC.out⟩
end Go.Proofs.YtaklmocjaokkpaaGreatDoor.Tr
