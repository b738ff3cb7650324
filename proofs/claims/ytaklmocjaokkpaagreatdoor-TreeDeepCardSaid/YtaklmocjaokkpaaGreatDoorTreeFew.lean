/- The program's few: are there at most so many nodes; walked. Condition: the counter lies in a block of the call's own, and is at most 4000. -/
import Derived.Test.YtaklmocjaokkpaaGreatDoorTreeSize
namespace Go.Proofs.YtaklmocjaokkpaaGreatDoor.Tr
set_option linter.unusedVariables false
set_option linter.unusedSimpArgs false
open Go.RowKit Go.Shelf Go.Proofs.YtaklmocjaokkpaaGreatDoor.Mem

/-- The counter. -/
def Cnt (w : World) (M : Nat) (m : Int) : Prop := w.heap[M]? = some (.cells #[.int .i64 m] 3 (0, 0))
/-- What is left of m behind s. -/
def left (m s : Nat) : Int := if s ≤ m then (m : Int) - (s : Int) else -1
/-- few, as it is called. -/
def FewOk (w0 : World) (x : Nd) (nv kv : Value) : Prop :=
  ∀ (w : World) (M m : Nat), Chg (fun j => w0.heap.size ≤ j) w0 w → w0.heap.size ≤ M → m ≤ 4000 → Cnt w M m → Calls Tryz.prog 36 #[ndV x nv kv, .pointer (some ⟨M, 0, none⟩)] w fun e w' => e = .returned (.bool (decide (sizeN x ≤ m))) ∧ Cnt w' M (left m (sizeN x)) ∧ Chg (fun j => j = M) w w'
theorem chg_of {w0 w : World} (h : Chg (fun j => w0.heap.size ≤ j) w0 w) : Chg (fun _ => False) w0 w := ⟨h.os, h.tape, h.output, h.size, fun k hk _ => h.block k hk (by omega)⟩
theorem enter68 (args : Array Value) (w : World) : (callFunc 68 args).run Tryz.prog w = .ok (.enter 68 args) w := enters_of Tryz.func68 (by kernel_rfl) rfl args w
set_option maxHeartbeats 2000000 in
theorem ask_few {w0 : World} {x : Nd} {nv kv : Value} (h : FewOk w0 x nv kv) (hf : ∃ an cn ak ck, nv = .slice an x.names.length cn ∧ kv = .slice ak x.kids.length ck) (w : World) (M m bx : Nat) (hC : Chg (fun j => w0.heap.size ≤ j) w0 w) (hM : w0.heap.size ≤ M) (hm : m ≤ 4000) (hc : Cnt w M m) (hb : w.cell? ⟨bx, 0, none⟩ = some (.pointer (some ⟨M, 0, none⟩))) :
    Calls Tryz.prog 68 #[ndV x nv kv, .pointer (some ⟨bx, 0, none⟩)] w fun e w' => e = .returned (.bool (!decide (sizeN x ≤ m))) ∧ Cnt w' M (left m (sizeN x)) ∧ Chg (fun j => j = M) w w' := by
  obtain ⟨an, cn, ak, ck, rfl, rfl⟩ := hf
  obtain ⟨w1, hw1⟩ : ∃ w1, w.alloc (ndBox x (.slice an x.names.length cn) (.slice ak x.kids.length ck)) = w1 := ⟨_, rfl⟩
  have hC1 : Chg (fun _ => False) w w1 := by rw [← hw1]; exact (Chg.refl _ w).alloc _
  have hb1 : w1.heap[w.heap.size]? = some (ndBox x (.slice an x.names.length cn) (.slice ak x.kids.length ck)) := by rw [← hw1]; exact blk_new w _
  have hz := hC.size
  have HF : Hid (∀ k, Calls Tryz.prog 36 #[ndV x (.slice an x.names.length cn) (.slice ak x.kids.length ck), .pointer (some ⟨M, 0, none⟩)] (w1.drewN k) fun e w' => e = .returned (.bool (decide (sizeN x ≤ m))) ∧ Cnt w' M (left m (sizeN x)) ∧ Chg (fun j => j = M) (w1.drewN k) w') := fun k => by
    refine h (w1.drewN k) M m ?_ hM hm ?_
    · exact (hC.trans (hC1.mono (fun _ _ e => e.elim))).drewN k
    · exact (hC1.drewN k).blk hc (fun e => e)
  have hbx := hC1.cell hb (fun e => e)
  have HB1 := Lib.hid hb1
  have HC1 := Lib.hid hC1
  obtain ⟨res, hres⟩ : ∃ res, decide (sizeN x ≤ m) = res := ⟨_, rfl⟩
  rw [hres] at HF ⊢
  clear h hb1 hC1 hC hc hb hM hres
  unfold ndBox at HB1 hw1
  unfold ndV at HF ⊢
  go_enter Tryz.func68, Tryz.ntmps68
  have a0 : w1.cell? ⟨w.heap.size, 0, none⟩ = _ := cell_of HB1.out 0
  have a1 : w1.cell? ⟨w.heap.size, 1, none⟩ = _ := cell_of HB1.out 1
  have a2 : w1.cell? ⟨w.heap.size, 2, none⟩ = _ := cell_of HB1.out 2
  have a3 : w1.cell? ⟨w.heap.size, 3, none⟩ = _ := cell_of HB1.out 3
  have a4 : w1.cell? ⟨w.heap.size, 4, none⟩ = _ := cell_of HB1.out 4
  simp only [List.getElem?_toArray, List.getElem?_cons_zero, List.getElem?_cons_succ] at a0 a1 a2 a3 a4
  go_wp2_with fail
  refine (HF.out 0).mono ?_
  rintro e w2 ⟨rfl, hc2, hC2⟩
  have HC2 := Lib.hid hc2
  have HCC := Lib.hid ((HC1.out.mono (fun _ _ e => e.elim)).andThen hC2 (fun _ _ e => e))
  clear hc2 hC2 HF a0 a1 a2 a3 a4 hbx hw1
  go_wp2_with fail
  go_ret
  exact ⟨rfl, HC2.out, HCC.out⟩
def fewV (bx : Nat) : Value := .func (.func 68) #[] #[.pointer (some ⟨bx, 0, none⟩)]
set_option maxRecDepth 100000 in
set_option maxHeartbeats 4000000 in
theorem few_index {w0 : World} {l : List Nd} {ak : Option Addr} {ck : Nat} (hk : KidsIn w0 ak 0 l) (hlen : l.length ≤ ck) (hmax : ck ≤ maxLen) (ih : ∀ y ∈ l, ∀ nv kv, NdIn w0 nv kv y → FewOk w0 y nv kv) (w : World) (M m bx : Nat) (hC : Chg (fun j => w0.heap.size ≤ j) w0 w) (hM : w0.heap.size ≤ M) (hm : m ≤ 4000) (hc : Cnt w M m) (hb : w.cell? ⟨bx, 0, none⟩ = some (.pointer (some ⟨M, 0, none⟩))) (hbM : bx ≠ M) :
    Calls Tryz.prog 90 #[.slice ak l.length ck, fewV bx] w fun e w' => (∃ r : Int, e = .returned (.int .i64 r) ∧ decide (0 ≤ r) = !decide (sizesN l ≤ m)) ∧ Cnt w' M (left m (sizesN l)) ∧ Chg (fun j => j = M) w w' := by
  obtain ⟨k0, hk0⟩ : ∃ k0, l.length = k0 := ⟨_, rfl⟩
  have HN := Lib.hid hk0
  have HK := Lib.hid hk
  have HIH := Lib.hid ih
  have HC := Lib.hid hC
  have HCN := Lib.hid hc
  have HE1 := enter68
  have HBX := Lib.hid hb
  have hmx : ck ≤ 9223372036854775807 := by unfold maxLen at hmax; omega
  rw [hk0] at hlen ⊢
  clear hk ih hC hc hk0 hb hmax
  unfold fewV
  go_enter Tryz.func90, Tryz.ntmps90
  go_wp2_with fail
  go_loopg [8] (k0 + 1) (fun g vi wr => ∃ (k : Nat), vi = .int .i64 k ∧ k ≤ k0 ∧ k0 < g + k ∧ Hid (sizesN (l.take k) ≤ m ∧ Cnt wr M ((m - sizesN (l.take k) : Nat) : Int)) ∧ Hid (Chg (fun j => j = M) w wr))
  case atStart => exact ⟨0, rfl, by omega, by omega, Lib.hid ⟨by simp [sizesN], by simpa [sizesN] using HCN.out⟩, Lib.hid (Chg.refl _ _)⟩
  case round =>
    obtain ⟨k, rfl, hk, hg, hcnt, hCr⟩ := hrel
    have hC2 := HC.out.andThen hCr.out (fun j hj e => by omega)
    by_cases hlt : k < k0
    · obtain ⟨gk', rfl⟩ : ∃ q, gk = q + 1 := ⟨gk - 1, by omega⟩
      obtain ⟨b, off, nv', kv', y, rfl, hy, hym, c0, c1, c2, c3, c4, hin⟩ := kid_cells (HK.out.kept (chg_of hC2)) k (by rw [HN.out]; exact hlt)
      obtain ⟨b2, off2, nv2, kv2, y2, e1, hy2, hym2, _, _, _, g3, g4, hin2⟩ := kid_cells HK.out k (by rw [HN.out]; exact hlt)
      cases e1
      have ey : y2 = y := by rw [hy] at hy2; exact (Option.some.inj hy2).symm
      subst ey
      have k3 := (chg_of hC2).cell g3 (fun e => e)
      have k4 := (chg_of hC2).cell g4 (fun e => e)
      rw [c3] at k3
      rw [c4] at k4
      obtain rfl : nv' = nv2 := Option.some.inj k3
      obtain rfl : kv' = kv2 := Option.some.inj k4
      have hst := sizesN_take l k y2 hy
      obtain ⟨hle, hcn⟩ := hcnt.out
      obtain ⟨an', cn', ak', ck', rfl, rfl, _⟩ := hin2.forms
      have hbr : wr.cell? ⟨bx, 0, none⟩ = some (.pointer (some ⟨M, 0, none⟩)) := hCr.out.cell HBX.out hbM
      have HA := Lib.hid (ask_few (HIH.out y2 hym2 _ _ hin2) ⟨an', cn', ak', ck', rfl, rfl⟩ wr M (m - sizesN (l.take k)) bx hC2 hM (by omega) hcn hbr)
      have HST := Lib.hid hst
      have HLE := Lib.hid hle
      have HYM := Lib.hid (show sizesN (l.take (k + 1)) ≤ sizesN l from sizes_le l (k + 1))
      obtain ⟨ok, hok⟩ : ∃ ok, decide (sizeN y2 ≤ m - sizesN (l.take k)) = ok := ⟨_, rfl⟩
      rw [hok] at HA
      have HOK := Lib.hid hok
      unfold ndV at HA
      have i0 : (0 : Int) ≤ (k : Int) := by omega
      have i1 : (k : Int) < (k0 : Int) := by omega
      clear hy hy2 hym hym2 hin hin2 hst hok k3 k4 g3 g4 hcn hle hbr hcnt
      cases ok with
      | true =>
        have hsz := of_decide_eq_true HOK.out
        have HSZ : Hid (sizesN (l.take (k + 1)) ≤ m ∧ left (m - sizesN (l.take k)) (sizeN y2) = ((m - sizesN (l.take (k + 1)) : Nat) : Int)) := by
          have h1 := HST.out
          have h2 := HLE.out
          refine Lib.hid ⟨by omega, ?_⟩
          unfold left
          rw [if_pos hsz]
          omega
        clear hsz
        go_wp2_with fail
        refine HA.out.mono ?_
        rintro e w1 ⟨rfl, hc1, hC1⟩
        rw [HSZ.out.2] at hc1
        have HR1 := Lib.hid (show _ ∧ Cnt w1 M _ from ⟨HSZ.out.1, hc1⟩)
        have HC1 := Lib.hid (hCr.out.trans hC1)
        clear hc1 hC1 HA c0 c1 c2 c3 c4
        go_wp2_with fail
        go_roundg gk'
        case measure => omega
        case rel => exact ⟨k + 1, by go_num, by omega, by omega, HR1.out, HC1.out⟩
      | false =>
        have hsz := of_decide_eq_false HOK.out
        have HSZ : Hid (decide (sizesN l ≤ m) = false ∧ left (m - sizesN (l.take k)) (sizeN y2) = -1 ∧ left m (sizesN l) = -1) := by
          have h1 := HST.out
          have h2 := HLE.out
          have h3 := HYM.out
          have h4 : ¬ sizesN l ≤ m := by omega
          refine Lib.hid ⟨decide_eq_false h4, ?_, ?_⟩
          · unfold left; rw [if_neg hsz]
          · unfold left; rw [if_neg h4]
        clear hsz
        go_wp2_with fail
        refine HA.out.mono ?_
        rintro e w1 ⟨rfl, hc1, hC1⟩
        rw [HSZ.out.2.1, ← HSZ.out.2.2] at hc1
        have HC1 := Lib.hid (hCr.out.trans hC1)
        have HC2 := Lib.hid hc1
        clear hc1 hC1 HA c0 c1 c2 c3 c4
        go_wp2_with fail
        go_ret
        exact ⟨⟨(k : Int), rfl, by rw [HSZ.out.1]; exact decide_eq_true (by omega)⟩, HC2.out, HC1.out⟩
    · obtain rfl : k = k0 := by omega
      have hkk : ¬ (k : Int) < (k : Int) := by omega
      have hall : l.take k = l := List.take_of_length_le (by rw [HN.out]; exact Nat.le_refl _)
      have HX := hcnt.out
      rw [hall] at HX
      have HX2 : Hid (decide (sizesN l ≤ m) = true ∧ Cnt wr M (left m (sizesN l))) := by
        refine Lib.hid ⟨decide_eq_true HX.1, ?_⟩
        unfold left
        rw [if_pos HX.1]
        have := HX.2
        rw [Int.ofNat_sub HX.1] at this
        exact this
      clear hall HX hcnt
      go_wp2_with fail
      go_ret
      exact ⟨⟨-1, rfl, by rw [HX2.out.1]; rfl⟩, HX2.out.2, hCr.out⟩
set_option maxHeartbeats 1000000 in
theorem few_contains {w0 : World} {l : List Nd} {ak : Option Addr} {ck : Nat} (hk : KidsIn w0 ak 0 l) (hlen : l.length ≤ ck) (hmax : ck ≤ maxLen) (ih : ∀ y ∈ l, ∀ nv kv, NdIn w0 nv kv y → FewOk w0 y nv kv) (w : World) (M m bx : Nat) (hC : Chg (fun j => w0.heap.size ≤ j) w0 w) (hM : w0.heap.size ≤ M) (hm : m ≤ 4000) (hc : Cnt w M m) (hb : w.cell? ⟨bx, 0, none⟩ = some (.pointer (some ⟨M, 0, none⟩))) (hbM : bx ≠ M) :
    Calls Tryz.prog 67 #[.slice ak l.length ck, fewV bx] w fun e w' => e = .returned (.bool (!decide (sizesN l ≤ m))) ∧ Cnt w' M (left m (sizesN l)) ∧ Chg (fun j => j = M) w w' := by
  have HI := Lib.hid (few_index hk hlen hmax ih w M m bx hC hM hm hc hb hbM)
  obtain ⟨res, hres⟩ : ∃ res, (!decide (sizesN l ≤ m)) = res := ⟨_, rfl⟩
  rw [hres] at HI ⊢
  clear hk ih hC hc hb hres
  unfold fewV at *
  go_enter Tryz.func67, Tryz.ntmps67
  go_wp2_with fail
  refine HI.out.mono ?_
  rintro e w1 ⟨⟨r, rfl, hr⟩, hc1, hC1⟩
  have HC1 := Lib.hid hC1
  have HC2 := Lib.hid hc1
  subst hr
  clear hc1 hC1 HI
  go_wp2_with fail
  go_ret
  exact ⟨rfl, HC2.out, HC1.out⟩
end Go.Proofs.YtaklmocjaokkpaaGreatDoor.Tr
