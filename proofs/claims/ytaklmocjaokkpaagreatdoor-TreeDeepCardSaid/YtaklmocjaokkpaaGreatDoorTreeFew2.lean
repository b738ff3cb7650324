/- The program's few: are there at most so many nodes; walked. Condition: the counter lies in a block of the call's own, and is at most 4000. -/
import Derived.Test.YtaklmocjaokkpaaGreatDoorTreeFew
namespace Go.Proofs.YtaklmocjaokkpaaGreatDoor.Tr
set_option linter.unusedVariables false
set_option linter.unusedSimpArgs false
open Go.RowKit Go.Shelf Go.Proofs.YtaklmocjaokkpaaGreatDoor.Mem

theorem cnt_set {w : World} {M : Nat} {m : Int} (h : Cnt w M m) (m' : Int) : Cnt (w.setCell ⟨M, 0, none⟩ (.int .i64 m')) M m' := by
  unfold Cnt at *
  have := blk_set h 0 (.int .i64 m')
  simpa using this
set_option maxRecDepth 100000 in
set_option maxHeartbeats 4000000 in
theorem few_calls {w0 : World} : ∀ (x : Nd) (nv kv : Value), NdIn w0 nv kv x → FewOk w0 x nv kv := by
  intro x
  induction x using Nd.ind with
  | h x ih =>
    intro nv kv h w M m hC hM hm hc
    obtain ⟨an, cn, ak, ck, rfl, rfl, _, _, hkl, hkm, hk⟩ := h.forms
    obtain ⟨w2, hw2⟩ : ∃ w2, (w.alloc (ndBox x (.slice an x.names.length cn) (.slice ak x.kids.length ck))).alloc (.cells #[.pointer (some ⟨M, 0, none⟩)] 56) = w2 := ⟨_, rfl⟩
    have hC2 : Chg (fun _ => False) w w2 := by rw [← hw2]; exact ((Chg.refl _ w).alloc _).alloc _
    have hsz : w2.heap.size = w.heap.size + 2 := by rw [← hw2]; simp
    have hb1 : w2.heap[w.heap.size]? = some (ndBox x (.slice an x.names.length cn) (.slice ak x.kids.length ck)) := by rw [← hw2]; exact blk_alloc (blk_new w _) _
    have hb2 : w2.heap[w.heap.size + 1]? = some (.cells #[.pointer (some ⟨M, 0, none⟩)] 56 (0, 0)) := by
      rw [← hw2]
      have := blk_new (w.alloc (ndBox x (.slice an x.names.length cn) (.slice ak x.kids.length ck))) (.cells #[.pointer (some ⟨M, 0, none⟩)] 56)
      simpa using this
    have hcm := hC2.blk hc (fun e => e)
    have hMl : M < w.heap.size := lt_of_block hc
    have m0 : w2.cell? ⟨M, 0, none⟩ = some (.int .i64 m) := cell_of hcm 0
    have mf : w2.frozen? ⟨M, 0, none⟩ = false := free_of hcm 0
    have p0 : w2.cell? ⟨w.heap.size + 1, 0, none⟩ = some (.pointer (some ⟨M, 0, none⟩)) := cell_of hb2 0
    have k4 : w2.cell? ⟨w.heap.size, 4, none⟩ = some (.slice ak x.kids.length ck) := cell_of hb1 4
    have hne1 : w.heap.size ≠ M := by omega
    have hne2 : w.heap.size + 1 ≠ M := by omega
    have hS : Chg (fun j => j = M) w2 (w2.setCell ⟨M, 0, none⟩ (.int .i64 ((m : Int) - 1))) := Chg.set (p := ⟨M, 0, none⟩) (F := fun j => j = M) (Chg.refl _ w2) (fun _ => rfl) _
    have HS := Lib.hid ((hC2.mono (fun _ _ e => e.elim)).andThen hS (fun _ _ e => e))
    have HCN := Lib.hid (cnt_set hcm ((m : Int) - 1))
    rw [sizeN_is]
    have hcm0 : (0 : Int) ≤ (m : Int) := by omega
    have hcm1 : (m : Int) ≤ 4000 := by omega
    cases m with
    | zero =>
      have hd : decide (1 + sizesN x.kids ≤ 0) = false := decide_eq_false (by omega)
      have hl : left 0 (1 + sizesN x.kids) = -1 := by unfold left; rw [if_neg (by omega)]
      rw [hd, hl]
      clear ih h hk hC hb1 hb2 hcm hC2 hS hc hsz hd hl
      unfold ndBox at hw2
      unfold ndV
      go_enter Tryz.func36, Tryz.ntmps36
      go_wp2_with fail
      go_ret
      exact ⟨rfl, HCN.out, HS.out⟩
    | succ m =>
      have hmm : ((m + 1 : Nat) : Int) - 1 = (m : Int) := by push_cast; omega
      rw [hmm] at HCN HS
      have HF := Lib.hid (few_contains hk hkl hkm (fun y hy nv kv hin => ih y hy nv kv hin) (w2.setCell ⟨M, 0, none⟩ (.int .i64 (m : Int))) M m (w.heap.size + 1)
        ((hC.trans (hC2.mono (fun _ _ e => e.elim))).set (p := ⟨M, 0, none⟩) (fun _ => hM) _) hM (by omega) HCN.out
        (by have := (hS.cell p0 hne2); rw [hmm] at this; exact this) hne2)
      obtain ⟨ok, hok⟩ : ∃ ok, decide (sizesN x.kids ≤ m) = ok := ⟨_, rfl⟩
      have hd : decide (1 + sizesN x.kids ≤ m + 1) = ok := by
        rw [← hok]
        by_cases hq : sizesN x.kids ≤ m
        · rw [decide_eq_true hq, decide_eq_true (by omega)]
        · rw [decide_eq_false hq, decide_eq_false (by omega)]
      have hl : left (m + 1) (1 + sizesN x.kids) = left m (sizesN x.kids) := by
        unfold left
        by_cases hq : sizesN x.kids ≤ m
        · rw [if_pos (by omega), if_pos hq]; push_cast; omega
        · rw [if_neg (by omega), if_neg hq]
      rw [hd, hl]
      rw [hok] at HF
      unfold fewV at HF
      have k4s : (w2.setCell ⟨M, 0, none⟩ (.int .i64 (m : Int))).cell? ⟨w.heap.size, 4, none⟩ = some (.slice ak x.kids.length ck) := by
        have := hS.cell k4 hne1
        rw [hmm] at this
        exact this
      have hm0 : (0 : Int) ≤ (m : Int) := by omega
      clear ih h hk hC hb1 hb2 hcm hC2 hS hc hsz hd hl hok
      unfold ndBox at hw2
      unfold ndV
      go_enter Tryz.func36, Tryz.ntmps36
      go_wp2_with fail
      refine HF.out.mono ?_
      rintro e w4 ⟨rfl, hc4, hC4⟩
      have HC4 := Lib.hid hc4
      have HCC := Lib.hid (HS.out.trans hC4)
      clear hc4 hC4 HF
      go_wp2_with fail
      go_ret
      exact ⟨by simp, HC4.out, HCC.out⟩
end Go.Proofs.YtaklmocjaokkpaaGreatDoor.Tr
