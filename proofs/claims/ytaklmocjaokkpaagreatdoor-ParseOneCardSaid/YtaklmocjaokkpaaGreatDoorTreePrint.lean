/- A node's text, or the error: the program's Print, walked. Condition: as XTreeMay's and XTreePText's. -/
import Derived.Test.YtaklmocjaokkpaaGreatDoorTreeMay
import Derived.Test.YtaklmocjaokkpaaGreatDoorTreePText
namespace Go.Proofs.YtaklmocjaokkpaaGreatDoor.Tr
set_option linter.unusedVariables false
set_option linter.unusedSimpArgs false
open Go.RowKit Go.Shelf Go.Proofs.YtaklmocjaokkpaaGreatDoor.Mem

/-- What Print tells: the text, and the error's number. -/
def printR (x : Nd) : ByteArray × Int := if mayB x = true then (⟨(printL x).toArray⟩, 0) else (⟨#[]⟩, 12)
theorem FmtOk.later {F : Int → Prop} {w w' : World} (h : FmtOk F w) (hc : Chg (fun _ => False) w w') : FmtOk F w' := fun n W hn hW => h n W hn (hc.trans hW)
theorem QuoOk.later {Q : ByteArray → Prop} {w w' : World} (h : QuoOk Q w) (hc : Chg (fun _ => False) w w') : QuoOk Q w' := fun n W hn hW => h n W hn (hc.trans hW)
theorem may_right {x : Nd} (h : mayB x = true) : rightB x 1 = true := by
  unfold mayB at h
  rw [Bool.and_eq_true, Bool.and_eq_true] at h
  exact h.1.2
set_option maxRecDepth 100000 in
set_option maxHeartbeats 1000000 in
theorem print_calls {F : Int → Prop} {Q : ByteArray → Prop} (x : Nd) (nv kv : Value) (w : World) (h : NdIn w nv kv x) (hg : Gm w) (hsm : Small x) (hF : FmtOk F w) (hQ : QuoOk Q w) (hl : Lits F Q x) (hlen : mayB x = true → (printL x).length ≤ 70368744177664) :
    Calls Tryz.prog 19 #[ndV x nv kv] w fun e w' => e = .returned (.tuple #[.string (printR x).1, .int .i64 (printR x).2]) ∧ Chg (fun _ => False) w w' := by
  obtain ⟨w1, hw1⟩ : ∃ w1, w.alloc (ndBox x nv kv) = w1 := ⟨_, rfl⟩
  have hC1 : Chg (fun _ => False) w w1 := by rw [← hw1]; exact (Chg.refl _ w).alloc _
  have hbx : w1.heap[w.heap.size]? = some (ndBox x nv kv) := by rw [← hw1]; exact blk_new w _
  have HC1 := Lib.hid hC1
  have HBX := Lib.hid hbx
  have HMAY := Lib.hid (may_calls x nv kv w1 (h.kept hC1) (hg.later hC1) hsm)
  have HPT : Hid (∀ (b : Nat) (w2 W : World), Chg (fun _ => False) w w2 → w2.heap.size ≤ b → mayB x = true → Chg (fun _ => False) w2 W → Bld b [] W → Calls Tryz.prog 33 #[.pointer (some ⟨b, 0, none⟩), ndV x nv kv] W fun e w' => e = .returned (.tuple #[]) ∧ Bld b (printL x) w' ∧ Kp b W w') := Lib.hid fun b w2 W h2 hb hm hW hB => by
    have := ptext_calls (hF.later h2) (hQ.later h2) x nv kv 1 b [] W (h.kept h2) (may_right hm) hl hb hW hB (by rw [List.length_nil, Nat.zero_add]; exact hlen hm)
    rw [List.nil_append] at this
    exact this
  obtain ⟨an, cn, ak, ck, rfl, rfl, _⟩ := h.forms
  obtain ⟨kd, hkd⟩ : ∃ kd, x.kind = kd := ⟨_, rfl⟩
  obtain ⟨pt, hpt⟩ : ∃ pt, printL x = pt := ⟨_, rfl⟩
  obtain ⟨s, hs⟩ : ∃ s : ByteArray, ⟨pt.toArray⟩ = s := ⟨_, rfl⟩
  unfold printR
  rw [hpt] at HPT ⊢
  rw [hs]
  unfold ndBox at HBX hw1
  unfold ndV at HMAY HPT ⊢
  rw [hkd] at HBX hw1 HMAY HPT ⊢
  obtain ⟨mb, hmb⟩ : ∃ mb, mayB x = mb := ⟨_, rfl⟩
  rw [hmb] at HMAY HPT ⊢
  have HS := Lib.hid hs
  have a0 := cell_of HBX.out 0
  have a1 := cell_of HBX.out 1
  have a2 := cell_of HBX.out 2
  have a3 := cell_of HBX.out 3
  have a4 := cell_of HBX.out 4
  clear h hg hsm hF hQ hl hlen hC1 hbx hkd hpt hs hmb
  go_enter Tryz.func19, Tryz.ntmps19
  go_wp2_with fail
  refine HMAY.out.mono ?_
  rintro e w2 ⟨rfl, hC2⟩
  have HC2 := Lib.hid (HC1.out.trans hC2)
  have hbx2 := hC2.blk HBX.out (fun e => e)
  clear hC2 HMAY a0 a1 a2 a3 a4 hw1
  cases mb with
  | false =>
    go_wp2_with fail
    go_ret2
    exact ⟨rfl, HC2.out⟩
  | true =>
    obtain ⟨w3, hw3⟩ : ∃ w3, w2.alloc (.cells #[.pointer none, .slice none 0 0] 52) = w3 := ⟨_, rfl⟩
    have hC3 : Chg (fun _ => False) w2 w3 := by rw [← hw3]; exact (Chg.refl _ w2).alloc _
    have HB3 : Hid (Bld w2.heap.size [] w3) := Lib.hid (by rw [← hw3]; exact bld_new w2)
    have hbx3 := hC3.blk hbx2 (fun e => e)
    have HC3 := Lib.hid hC3
    have a0 := cell_of hbx3 0
    have a1 := cell_of hbx3 1
    have a2 := cell_of hbx3 2
    have a3 := cell_of hbx3 3
    have a4 := cell_of hbx3 4
    clear hC3 hbx2 hbx3
    go_wp2_with fail
    refine (HPT.out w2.heap.size w2 w3 HC2.out (Nat.le_refl _) (by first | rfl | trivial) HC3.out HB3.out).mono ?_
    rintro e w4 ⟨rfl, hb4, hk4⟩
    have HB4 := Lib.hid hb4
    have HK4 := Lib.hid hk4
    clear hb4 hk4 HPT a0 a1 a2 a3 a4 hw3 HB3
    go_wp2_with fail
    have HST := Lib.hid (bstr_calls w2.heap.size pt w4 HB4.out)
    rw [HS.out] at HST
    refine HST.out.mono ?_
    rintro e w5 ⟨rfl, hb5, hk5⟩
    have HC5 : Hid (Chg (fun _ => False) w w5) := Lib.hid ((HK4.out.trans hk5).chg (HC2.out.trans HC3.out) (by have := HC2.out.size; omega))
    clear hb5 hk5 HST HB4 HK4
    go_wp2_with fail
    go_ret2
    exact ⟨rfl, HC5.out⟩
end Go.Proofs.YtaklmocjaokkpaaGreatDoor.Tr
