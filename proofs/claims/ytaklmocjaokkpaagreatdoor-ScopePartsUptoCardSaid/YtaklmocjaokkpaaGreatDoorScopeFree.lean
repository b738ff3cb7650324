/- The free names of a node, and the first of them: the program's, walked. Condition: as for the program's May, and rows of at most 2^20 names. -/
import Derived.Test.YtaklmocjaokkpaaGreatDoorScopeNode
import Derived.Test.YtaklmocjaokkpaaGreatDoorTreeMay
import Derived.Test.YtaklmocjaokkpaaGreatDoorTreeAwake
namespace Go.Proofs.YtaklmocjaokkpaaGreatDoor.Tr
set_option linter.unusedVariables false
set_option linter.unusedSimpArgs false
open Go.RowKit Go.Shelf Go.Proofs.YtaklmocjaokkpaaGreatDoor.Mem

/-- What Free tells. -/
def freeP (x : Nd) : List ByteArray := if mayB x = true then freeB x else []
set_option maxRecDepth 100000 in
set_option maxHeartbeats 2000000 in
theorem free_calls (x : Nd) (nv kv : Value) (w : World) (h : NdIn w nv kv x) (hg : Gm w) (hsm : Small x) (hfi : Fine x) :
    Calls Tryz.prog 17 #[ndV x nv kv] w fun e w' => ∃ v, e = .returned v ∧ StrsIn w' v (freeP x) ∧ Chg (fun _ => False) w w' := by
  obtain ⟨w1, hw1⟩ : ∃ w1, w.alloc (ndBox x nv kv) = w1 := ⟨_, rfl⟩
  have hC1 : Chg (fun _ => False) w w1 := by rw [← hw1]; exact (Chg.refl _ w).alloc _
  have HBX := Lib.hid (show w1.heap[w.heap.size]? = some (ndBox x nv kv) by rw [← hw1]; exact blk_new w _)
  have HC1 := Lib.hid hC1
  have HMAY := Lib.hid (may_calls x nv kv w1 (h.kept hC1) (hg.later hC1) hsm)
  have HIN := Lib.hid h
  have HFI := Lib.hid hfi
  obtain ⟨mb, hmb⟩ : ∃ mb, mayB x = mb := ⟨_, rfl⟩
  have HMB := Lib.hid hmb
  have HFP : Hid (freeP x = if mb = true then freeB x else []) := Lib.hid (by unfold freeP; rw [hmb])
  rw [hmb] at HMAY
  obtain ⟨an, cn, ak, ck, rfl, rfl, _⟩ := h.forms
  unfold ndBox at HBX hw1
  unfold ndV at HMAY ⊢
  have a0 := cell_of HBX.out 0
  have a1 := cell_of HBX.out 1
  have a2 := cell_of HBX.out 2
  have a3 := cell_of HBX.out 3
  have a4 := cell_of HBX.out 4
  clear h hg hsm hfi hC1 hmb
  go_enter Tryz.func17, Tryz.ntmps17
  go_wp2_with fail
  refine HMAY.out.mono ?_
  rintro e w2 ⟨rfl, hC2⟩
  have HC2 := Lib.hid (HC1.out.trans hC2)
  have hb2 := hC2.blk HBX.out (fun e => e)
  have HB2 := Lib.hid hb2
  clear hC2 HMAY a0 a1 a2 a3 a4 hw1
  cases mb with
  | false =>
    clear hb2
    go_wp2_with fail
    go_ret
    exact ⟨_, rfl, by rw [HFP.out]; exact nil_strs _, HC2.out⟩
  | true =>
    have hMk := run_makeMap (P := Tryz.prog) w2 45
    obtain ⟨w3, hw3⟩ : ∃ w3, w2.alloc (.map #[] 0) = w3 := ⟨_, rfl⟩
    obtain ⟨w4, hw4⟩ : ∃ w4, w3.alloc (.cells #[.map (some w2.heap.size), .slice none 0 0] 47) = w4 := ⟨_, rfl⟩
    rw [hw3] at hMk
    have hC3 : Chg (fun _ => False) w2 w3 := by rw [← hw3]; exact (Chg.refl _ w2).alloc _
    have hC4 : Chg (fun _ => False) w3 w4 := by rw [← hw4]; exact (Chg.refl _ w3).alloc _
    have hs3 : w3.heap.size = w2.heap.size + 1 := by rw [← hw3]; simp
    have hmap : MapC w4 w2.heap.size (fun _ => 0) := (show MapC w3 w2.heap.size (fun _ => 0) by rw [← hw3]; exact mapC_new w2).chg hC4 (fun e => e)
    have hS4 : FSt w3.heap.size w2.heap.size (fun _ => 0) (.slice none 0 0) [] w4 := ⟨by rw [← hw4]; exact blk_new w3 _, hmap, RowAt.nil w4 _ 1, by omega, fun e => (by cases e), fun e => (by cases e)⟩
    have hC24 := hC3.trans hC4
    have hO : Over w2 w3.heap.size w2.heap.size (.slice none 0 0) := ⟨by omega, Nat.le_refl _, fun k hk => by cases hk⟩
    have hmay := HMB.out
    unfold mayB at hmay
    simp only [Bool.and_eq_true, decide_eq_true_eq] at hmay
    have HND := Lib.hid (node_calls (w0 := w2) (f := w3.heap.size) (M := w2.heap.size) x _ _ 1 (HIN.out.kept HC2.out) hmay.1.2 HFI.out (.slice none 0 0) [] (fun _ => 0) w4 hC24 hO hS4 (fun s => ⟨Int.le_refl _, by decide⟩) (by simp only [List.length_nil]; omega))
    have HC24 := Lib.hid hC24
    have HO := Lib.hid hO
    have hb4 := hC24.blk hb2 (fun e => e)
    have a0 := cell_of hb4 0
    have a1 := cell_of hb4 1
    have a2 := cell_of hb4 2
    have a3 := cell_of hb4 3
    have a4 := cell_of hb4 4
    unfold ndV at HND
    clear hb2 hb4 hC3 hC4 hs3 hmap hS4 hC24 hO hmay
    go_wp2_with fail
    refine HND.out.mono ?_
    rintro e w5 ⟨rfl, v', hS5, hP5⟩
    have c1 := cell_of hS5.blk 1
    have HS5 := Lib.hid hS5
    have HP5 := Lib.hid hP5
    clear HND hS5 hP5 a0 a1 a2 a3 a4
    go_wp2_with fail
    go_ret
    refine ⟨_, rfl, ?_, HC2.out.trans (HO.out.kept HC24.out HP5.out).2⟩
    have hfp := HFP.out
    rw [if_pos (by first | rfl | trivial)] at hfp
    rw [hfp]
    exact row_strs HS5.out.row
/-- What Check tells. -/
def checkP (x : Nd) : ByteArray × Int := if mayB x = true then (match freeB x with | [] => (⟨#[]⟩, 0) | s :: _ => (s, 14)) else (⟨#[]⟩, 12)
set_option maxRecDepth 100000 in
set_option maxHeartbeats 2000000 in
theorem check_calls (x : Nd) (nv kv : Value) (w : World) (h : NdIn w nv kv x) (hg : Gm w) (hsm : Small x) (hfi : Fine x) :
    Calls Tryz.prog 31 #[ndV x nv kv] w fun e w' => e = .returned (.tuple #[.string (checkP x).1, .int .i64 (checkP x).2]) ∧ Chg (fun _ => False) w w' := by
  obtain ⟨w1, hw1⟩ : ∃ w1, w.alloc (ndBox x nv kv) = w1 := ⟨_, rfl⟩
  have hC1 : Chg (fun _ => False) w w1 := by rw [← hw1]; exact (Chg.refl _ w).alloc _
  have HBX := Lib.hid (show w1.heap[w.heap.size]? = some (ndBox x nv kv) by rw [← hw1]; exact blk_new w _)
  have HC1 := Lib.hid hC1
  have HMAY := Lib.hid (may_calls x nv kv w1 (h.kept hC1) (hg.later hC1) hsm)
  have HFR := Lib.hid (fun W (hW : Chg (fun _ => False) w W) => free_calls x nv kv W (h.kept hW) (hg.later hW) hsm hfi)
  obtain ⟨mb, hmb⟩ : ∃ mb, mayB x = mb := ⟨_, rfl⟩
  obtain ⟨res, hres⟩ : ∃ res, checkP x = res := ⟨_, rfl⟩
  obtain ⟨s, n⟩ := res
  rw [hres]
  unfold checkP at hres
  unfold freeP at HFR
  rw [hmb] at HMAY HFR hres
  obtain ⟨l, hl⟩ : ∃ l, freeB x = l := ⟨_, rfl⟩
  rw [hl] at hres HFR
  have HRES := Lib.hid hres
  obtain ⟨an, cn, ak, ck, rfl, rfl, _⟩ := h.forms
  unfold ndBox at HBX hw1
  unfold ndV at HMAY HFR ⊢
  have a0 := cell_of HBX.out 0
  have a1 := cell_of HBX.out 1
  have a2 := cell_of HBX.out 2
  have a3 := cell_of HBX.out 3
  have a4 := cell_of HBX.out 4
  clear h hg hsm hfi hC1 hmb hres hl
  go_enter Tryz.func31, Tryz.ntmps31
  go_wp2_with fail
  refine HMAY.out.mono ?_
  rintro e w2 ⟨rfl, hC2⟩
  have HC2 := Lib.hid (HC1.out.trans hC2)
  have hb2 := hC2.blk HBX.out (fun e => e)
  clear hC2 HMAY a0 a1 a2 a3 a4 hw1
  have a0 := cell_of hb2 0
  have a1 := cell_of hb2 1
  have a2 := cell_of hb2 2
  have a3 := cell_of hb2 3
  have a4 := cell_of hb2 4
  clear hb2
  cases mb with
  | false =>
    have hr := HRES.out
    rw [if_neg (by decide)] at hr
    simp only [Prod.mk.injEq] at hr
    obtain ⟨rfl, rfl⟩ := hr
    go_wp2_with fail
    go_ret2
    exact ⟨rfl, HC2.out⟩
  | true =>
    have hr := HRES.out
    rw [if_pos rfl] at hr
    have HF2 := Lib.hid (HFR.out w2 HC2.out)
    rw [if_pos rfl] at HF2
    clear HFR HRES
    go_wp2_with fail
    refine HF2.out.mono ?_
    rintro e w3 ⟨v, rfl, hst, hC3⟩
    have HC3 := Lib.hid (HC2.out.trans hC3)
    obtain ⟨ad, cap, rfl, hle, hcm, hel⟩ := hst
    clear hC3 HF2 a0 a1 a2 a3 a4
    cases l with
    | nil =>
      simp only [Prod.mk.injEq] at hr
      obtain ⟨rfl, rfl⟩ := hr
      rw [List.length_nil] at hle ⊢
      have k0 : ¬ (0 : Int) < ((0 : Nat) : Int) := by decide
      go_wp2_with fail
      go_ret2
      exact ⟨rfl, HC3.out⟩
    | cons t l =>
      simp only [Prod.mk.injEq] at hr
      obtain ⟨rfl, rfl⟩ := hr
      obtain ⟨b, off, rfl, _, c0⟩ := hel 0 t rfl
      obtain ⟨m, hm⟩ : ∃ m, (t :: l).length = m := ⟨_, rfl⟩
      have hm0 : (0 : Int) < (m : Int) := by rw [← hm, List.length_cons]; omega
      rw [hm] at hle ⊢
      rw [Nat.add_zero] at c0
      clear hel hm
      have hcm2 : cap ≤ 9223372036854775807 := by unfold maxLen at hcm; omega
      go_wp2_with fail
      go_ret2
      exact ⟨rfl, HC3.out⟩
def exL : Nd := .mk 8 0 ⟨#[120]⟩ [] [exX, exX]
theorem exL_may : mayB exL = true := by kernel_rfl
theorem exL_check : checkP exL = (⟨#[120]⟩, 14) := by kernel_rfl
theorem exL_small : Small exL := by
  unfold exL exX
  simp [Small, Smalls]
  decide
theorem exL_fine : Fine exL := by
  unfold exL exX
  simp [Fine, Fines]
  decide
set_option maxRecDepth 100000 in
set_option maxHeartbeats 1000000 in
theorem sawake_calls (w : World) (hg : Gm w) : Calls Tryz.prog 16 #[] w fun e w' => e = .returned (.bool true) ∧ Chg (fun _ => False) w w' := by
  obtain ⟨w1, hw1⟩ : ∃ w1, w.alloc (.cells #[.int .u8 5, .int .i64 0, .string ⟨#[120]⟩, .slice none 0 0, .slice none 0 0] 25) = w1 := ⟨_, rfl⟩
  have hC1 : Chg (fun _ => False) w w1 := by rw [← hw1]; exact (Chg.refl _ w).alloc _
  have hb1 : w1.heap[w.heap.size]? = some (.cells #[.int .u8 5, .int .i64 0, .string ⟨#[120]⟩, .slice none 0 0, .slice none 0 0] 25) := by rw [← hw1]; exact blk_new w _
  obtain ⟨w2, hw2⟩ : ∃ w2, w1.alloc (.cells #[.int .u8 5, .int .i64 0, .string ⟨#[120]⟩, .slice none 0 0, .slice none 0 0, .int .u8 5, .int .i64 0, .string ⟨#[120]⟩, .slice none 0 0, .slice none 0 0] 25) = w2 := ⟨_, rfl⟩
  have hC2 : Chg (fun _ => False) w1 w2 := by rw [← hw2]; exact (Chg.refl _ w1).alloc _
  have hb2 : w2.heap[w1.heap.size]? = some (.cells #[.int .u8 5, .int .i64 0, .string ⟨#[120]⟩, .slice none 0 0, .slice none 0 0, .int .u8 5, .int .i64 0, .string ⟨#[120]⟩, .slice none 0 0, .slice none 0 0] 25) := by rw [← hw2]; exact blk_new w1 _
  have HC2 := Lib.hid (hC1.trans hC2)
  have hin : NdIn w2 (.slice none 0 0) (.slice (some ⟨w1.heap.size, 0, none⟩) 2 2) exL :=
    node_in w2 8 0 _ _ w1.heap.size 2 rfl (by decide) (by decide) (by decide) (kids_two hb2 rfl rfl rfl (leaf_in w2 5 0 _ (by decide) (by decide)) rfl rfl rfl (leaf_in w2 5 0 _ (by decide) (by decide)))
  have HCK := Lib.hid (check_calls exL _ _ w2 hin (hg.later HC2.out) exL_small exL_fine)
  rw [exL_check] at HCK
  have HCK2 : Hid (Calls Tryz.prog 31 #[.agg #[.int .u8 8, .int .i64 0, .string ⟨#[120]⟩, .slice none 0 0, .slice (some ⟨w1.heap.size, 0, none⟩) 2 2]] w2 fun e w' => e = .returned (.tuple #[.string ⟨#[120]⟩, .int .i64 14]) ∧ Chg (fun _ => False) w2 w') := HCK
  have a0 := cell_of hb1 0
  have a1 := cell_of hb1 1
  have a2 := cell_of hb1 2
  have a3 := cell_of hb1 3
  have a4 := cell_of hb1 4
  have e1 : w1.heap.size = w.heap.size + 1 := by rw [← hw1]; simp
  rw [e1] at HCK2
  clear hC1 hC2 hb1 hb2 hin hg HCK a0 a1 a2 a3 a4 e1
  subst hw2 hw1
  go_enter Tryz.func16, Tryz.ntmps16
  go_wp2_with fail
  refine HCK2.out.mono ?_
  rintro e w5 ⟨rfl, hC5⟩
  have HC5 := Lib.hid hC5
  clear hC5 HCK2
  go_wp2_with fail
  go_ret
  exact ⟨rfl, HC2.out.trans HC5.out⟩
end Go.Proofs.YtaklmocjaokkpaaGreatDoor.Tr
