/- May a node be: the document's answer, walked. Condition: texts and names of at most 2^20 bytes, at most so many of them; at most 2^40 nodes. -/
import Derived.Test.YtaklmocjaokkpaaGreatDoorTreeRRight
namespace Go.Proofs.YtaklmocjaokkpaaGreatDoor.Tr
set_option linter.unusedVariables false
set_option linter.unusedSimpArgs false
open Go.RowKit Go.Shelf Go.Proofs.YtaklmocjaokkpaaGreatDoor.Mem

set_option maxRecDepth 100000 in
set_option maxHeartbeats 1000000 in
theorem rmay_calls (x : Nd) (nv kv : Value) (w : World) (h : NdIn w nv kv x) (hf : Fine x) (hs : sizeN x ≤ 1099511627776) :
    Calls Tryz.prog 15 #[ndV x nv kv] w fun e w' => e = .returned (.bool (mayB x)) ∧ Chg (fun _ => False) w w' := by
  obtain ⟨w1, hw1⟩ : ∃ w1, w.alloc (ndBox x nv kv) = w1 := ⟨_, rfl⟩
  have hC1 : Chg (fun _ => False) w w1 := by rw [← hw1]; exact (Chg.refl _ w).alloc _
  have hb : w1.heap[w.heap.size]? = some (ndBox x nv kv) := by rw [← hw1]; exact blk_new w _
  have HB := Lib.hid hb
  have HC1 := Lib.hid hC1
  have HR := Lib.hid (rright_calls x nv kv 1 w1 (h.kept hC1) hf (by omega))
  have HSZ := Lib.hid (fun W (hW : Chg (fun _ => False) w W) => rsize_calls x nv kv W (h.kept hW) hs)
  obtain ⟨res, hres⟩ : ∃ res, mayB x = res := ⟨_, rfl⟩
  rw [hres]
  rw [may_good] at hres
  obtain ⟨g, hg⟩ : ∃ g, good x 1 = g := ⟨_, rfl⟩
  obtain ⟨sz, hsz⟩ : ∃ sz, sizeN x = sz := ⟨_, rfl⟩
  rw [hg] at HR
  rw [hsz] at HSZ
  rw [hg, hsz] at hres
  obtain ⟨an, cn, ak, ck, rfl, rfl, _⟩ := h.forms
  have HRES := Lib.hid hres
  unfold ndBox at HB hw1
  unfold ndV at HR HSZ ⊢
  have a0 := cell_of HB.out 0
  have a1 := cell_of HB.out 1
  have a2 := cell_of HB.out 2
  have a3 := cell_of HB.out 3
  have a4 := cell_of HB.out 4
  clear h hf hs hC1 hb hg hsz hres
  go_enter Tryz.func15, Tryz.ntmps15
  go_wp2_with fail
  refine HR.out.mono ?_
  rintro e w2 ⟨rfl, hC2⟩
  have HC2 := Lib.hid (HC1.out.trans hC2)
  have hb2 := hC2.blk HB.out (fun e => e)
  clear hC2 HR a0 a1 a2 a3 a4 hw1
  have a0 := cell_of hb2 0
  have a1 := cell_of hb2 1
  have a2 := cell_of hb2 2
  have a3 := cell_of hb2 3
  have a4 := cell_of hb2 4
  clear hb2
  cases g with
  | false =>
    obtain rfl : false = res := HRES.out
    go_wp2_with fail
    go_ret
    exact ⟨rfl, HC2.out⟩
  | true =>
    have HSW := Lib.hid (HSZ.out w2 HC2.out)
    obtain ⟨d, hd⟩ : ∃ d, decide ((sz : Int) ≤ 4000) = d := ⟨_, rfl⟩
    obtain rfl : d = res := by rw [← HRES.out, ← hd, Bool.true_and]; congr 1; apply propext; omega
    clear HSZ
    go_wp2_with fail
    refine HSW.out.mono ?_
    rintro e w3 ⟨rfl, hC3⟩
    have HC3 := Lib.hid (HC2.out.trans hC3)
    clear hC3 HSW
    go_wp2_with fail
    go_ret
    exact ⟨rfl, HC3.out⟩
end Go.Proofs.YtaklmocjaokkpaaGreatDoor.Tr
