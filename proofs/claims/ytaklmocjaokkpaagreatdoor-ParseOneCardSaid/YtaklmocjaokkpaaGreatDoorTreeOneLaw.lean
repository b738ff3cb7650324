/- Two nodes that may be have one text just if they are the same; whether any two are the same is the document's: the statement, walked. Condition: nodes of weight at most 2^20; what XTreeText's functions want of the library's variables; what is printed of numbers and of texts in quotes. -/
import Derived.Test.YtaklmocjaokkpaaGreatDoorTreePrintsLaw
import Derived.Test.YtaklmocjaokkpaaGreatDoorTreeSame
import Derived.Test.YtaklmocjaokkpaaGreatDoorParseA
namespace Go.Proofs.YtaklmocjaokkpaaGreatDoor.Tr
set_option linter.unusedVariables false
set_option linter.unusedSimpArgs false
open Go.RowKit Go.Shelf Go.Proofs.YtaklmocjaokkpaaGreatDoor.Mem

theorem one_text {x y : Nd} (hx : mayB x = true) (hy : mayB y = true) (lx : Lits inR okQ x) (ly : Lits inR okQ y) : ((⟨(printL x).toArray⟩ : ByteArray).toList == (⟨(printL y).toArray⟩ : ByteArray).toList) = sameN x y := by
  have e : ∀ l : List UInt8, (⟨l.toArray⟩ : ByteArray).toList = l := fun l => by rw [ByteArray.toList_eq]
  rw [e, e]
  by_cases h : x = y
  · rw [sameN_true h, h]
    exact beq_self_eq_true _
  · rw [sameN_false h]
    exact beq_eq_false_iff_ne.2 fun e => h (print_inj hx hy (lx.weak (fun _ h => h) (fun _ _ => trivial)) (ly.weak (fun _ h => h) (fun _ _ => trivial)) e)
set_option maxRecDepth 100000 in
set_option maxHeartbeats 4000000 in
theorem treeOne_calls (x : Nd) (nv kv : Value) (y : Nd) (nva kva : Value) (w : World) (h : NdIn w nv kv x) (h' : NdIn w nva kva y) (hwt : wt x ≤ 1048576) (hwa : wt y ≤ 1048576) (hg : Gm w) (hF : FmtOk inR w) (hQ : QuoOk okQ w) :
    Calls Tryz.prog 10 #[ndV x nv kv, ndV y nva kva] w fun e w' => e = .returned (.bool true) ∧ Chg (fun _ => False) w w' := by
  obtain ⟨hfx, hsx⟩ := fine_wt x hwt
  obtain ⟨hfy, hsy⟩ := fine_wt y hwa
  have hzx := size_wt x
  have hzy := size_wt y
  have HA := Lib.hid (fun W (hW : Chg (fun _ => False) w W) => awake_calls W (hg.later hW))
  have HGX := Lib.hid (fun W (hW : Chg (fun _ => False) w W) => great_calls x nv kv 0 W (h.kept hW) (by omega) (by omega))
  have HGY := Lib.hid (fun W (hW : Chg (fun _ => False) w W) => great_calls y nva kva 0 W (h'.kept hW) (by omega) (by omega))
  have HRS := Lib.hid (fun W (hW : Chg (fun _ => False) w W) => rsame_calls x y nv kv nva kva W (h.kept hW) (h'.kept hW))
  have HTS := Lib.hid (fun W (hW : Chg (fun _ => False) w W) => tsame_calls x y nv kv nva kva W (h.kept hW) (h'.kept hW))
  have HTX := Lib.hid (fun W (hW : Chg (fun _ => False) w W) => tsame_calls x x nv kv nv kv W (h.kept hW) (h.kept hW))
  simp only [sameN_true rfl] at HTX
  have HPX : greatB x 0 = false → Hid (∀ W, Chg (fun _ => False) w W → Calls Tryz.prog 19 #[ndV x nv kv] W fun e w' => e = .returned (.tuple #[.string (printR x).1, .int .i64 (printR x).2]) ∧ Chg (fun _ => False) W w') := fun hgr => Lib.hid fun W hW => by
    have hl := great_lits x nv kv 0 h hgr
    exact print_calls x nv kv W (h.kept hW) (hg.later hW) hsx (hF.later hW) (hQ.later hW) hl (fun _ => by have := print_len x hl; omega)
  have HPY : greatB y 0 = false → Hid (∀ W, Chg (fun _ => False) w W → Calls Tryz.prog 19 #[ndV y nva kva] W fun e w' => e = .returned (.tuple #[.string (printR y).1, .int .i64 (printR y).2]) ∧ Chg (fun _ => False) W w') := fun hgr => Lib.hid fun W hW => by
    have hl := great_lits y nva kva 0 h' hgr
    exact print_calls y nva kva W (h'.kept hW) (hg.later hW) hsy (hF.later hW) (hQ.later hW) hl (fun _ => by have := print_len y hl; omega)
  have HONE : greatB x 0 = false → greatB y 0 = false → mayB x = true → mayB y = true → ((⟨(printL x).toArray⟩ : ByteArray).toList == (⟨(printL y).toArray⟩ : ByteArray).toList) = sameN x y := fun g1 g2 m1 m2 => one_text m1 m2 (great_lits x nv kv 0 h g1) (great_lits y nva kva 0 h' g2)
  obtain ⟨gx, hgx⟩ : ∃ gx, greatB x 0 = gx := ⟨_, rfl⟩
  obtain ⟨gy, hgy⟩ : ∃ gy, greatB y 0 = gy := ⟨_, rfl⟩
  obtain ⟨mx, hmx⟩ : ∃ mx, mayB x = mx := ⟨_, rfl⟩
  obtain ⟨my, hmy⟩ : ∃ my, mayB y = my := ⟨_, rfl⟩
  obtain ⟨sm, hsm⟩ : ∃ sm, sameN x y = sm := ⟨_, rfl⟩
  obtain ⟨px, hpx⟩ : ∃ px : ByteArray, (⟨(printL x).toArray⟩ : ByteArray) = px := ⟨_, rfl⟩
  obtain ⟨py, hpy⟩ : ∃ py : ByteArray, (⟨(printL y).toArray⟩ : ByteArray) = py := ⟨_, rfl⟩
  have hprx : printR x = if mx = true then (px, 0) else (⟨#[]⟩, 12) := by unfold printR; rw [hmx, hpx]
  have hpry : printR y = if my = true then (py, 0) else (⟨#[]⟩, 12) := by unfold printR; rw [hmy, hpy]
  simp only [hgx] at HGX
  simp only [hgy] at HGY
  simp only [hsm] at HRS HTS
  rw [hgx, hprx] at HPX
  rw [hgy, hpry] at HPY
  rw [hgx, hgy, hmx, hmy, hpx, hpy, hsm] at HONE
  obtain ⟨w1, hw1⟩ : ∃ w1, w.alloc (ndBox x nv kv) = w1 := ⟨_, rfl⟩
  obtain ⟨w2, hw2⟩ : ∃ w2, w1.alloc (ndBox y nva kva) = w2 := ⟨_, rfl⟩
  have hC1 : Chg (fun _ => False) w w1 := by rw [← hw1]; exact (Chg.refl _ w).alloc _
  have hC2 : Chg (fun _ => False) w1 w2 := by rw [← hw2]; exact (Chg.refl _ w1).alloc _
  have hbx := hC2.blk (show w1.heap[w.heap.size]? = some (ndBox x nv kv) by rw [← hw1]; exact blk_new w _) (fun e => e)
  have hby : w2.heap[w1.heap.size]? = some (ndBox y nva kva) := by rw [← hw2]; exact blk_new w1 _
  have HC2 := Lib.hid (hC1.trans hC2)
  obtain ⟨an, cn, ak, ck, rfl, rfl, _⟩ := h.forms
  obtain ⟨an', cn', ak', ck', rfl, rfl, _⟩ := h'.forms
  unfold ndBox at hbx hby hw1 hw2
  unfold ndV at HGX HGY HRS HTS HTX HPX HPY ⊢
  have HB : Hid (∀ W, Chg (fun _ => False) w2 W → W.heap[w.heap.size]? = some (.cells #[.int .u8 x.kind, .int .i64 x.n, .string x.text, .slice an x.names.length cn, .slice ak x.kids.length ck] 25) ∧ W.heap[w1.heap.size]? = some (.cells #[.int .u8 y.kind, .int .i64 y.n, .string y.text, .slice an' y.names.length cn', .slice ak' y.kids.length ck'] 25)) := Lib.hid fun W hW => ⟨hW.blk hbx (fun e => e), hW.blk hby (fun e => e)⟩
  have a0 := cell_of hbx 0
  have a1 := cell_of hbx 1
  have a2 := cell_of hbx 2
  have a3 := cell_of hbx 3
  have a4 := cell_of hbx 4
  have b0 := cell_of hby 0
  have b1 := cell_of hby 1
  have b2 := cell_of hby 2
  have b3 := cell_of hby 3
  have b4 := cell_of hby 4
  clear h h' hwt hwa hg hF hQ hfx hsx hfy hsy hzx hzy hgx hgy hmx hmy hsm hpx hpy hprx hpry hC1 hC2 hbx hby
  go_enter Tryz.func10, Tryz.ntmps10
  go_wp2_with fail
  refine (HGX.out _ HC2.out).mono ?_
  rintro e w3 ⟨rfl, hC3⟩
  have HD3 := Lib.hid hC3
  have HC3 := Lib.hid (HC2.out.trans hC3)
  have hq := HB.out _ HD3.out
  clear a0 a1 a2 a3 a4 b0 b1 b2 b3 b4 hC3 HGX hw1 hw2
  have a0 := cell_of hq.1 0
  have b0 := cell_of hq.2 0
  have a1 := cell_of hq.1 1
  have b1 := cell_of hq.2 1
  have a2 := cell_of hq.1 2
  have b2 := cell_of hq.2 2
  have a3 := cell_of hq.1 3
  have b3 := cell_of hq.2 3
  have a4 := cell_of hq.1 4
  have b4 := cell_of hq.2 4
  clear hq
  cases gx with
  | true =>
    go_wp2_with fail
    refine (HA.out _ HC3.out).mono ?_
    rintro e w4 ⟨rfl, hCw4⟩
    have HCw4 := Lib.hid (HC3.out.trans hCw4)
    clear hCw4 HA
    go_wp2_with fail
    go_ret
    exact ⟨rfl, HCw4.out⟩
  | false =>
  go_wp2_with fail
  refine (HGY.out _ HC3.out).mono ?_
  rintro e w4 ⟨rfl, hC4⟩
  have HD4 := Lib.hid (HD3.out.trans hC4)
  have HC4 := Lib.hid (HC3.out.trans hC4)
  have hq := HB.out _ HD4.out
  clear a0 a1 a2 a3 a4 b0 b1 b2 b3 b4 hC4 HGY
  have a0 := cell_of hq.1 0
  have b0 := cell_of hq.2 0
  have a1 := cell_of hq.1 1
  have b1 := cell_of hq.2 1
  have a2 := cell_of hq.1 2
  have b2 := cell_of hq.2 2
  have a3 := cell_of hq.1 3
  have b3 := cell_of hq.2 3
  have a4 := cell_of hq.1 4
  have b4 := cell_of hq.2 4
  clear hq
  cases gy with
  | true =>
    go_wp2_with fail
    refine (HA.out _ HC4.out).mono ?_
    rintro e w5 ⟨rfl, hCw5⟩
    have HCw5 := Lib.hid (HC4.out.trans hCw5)
    clear hCw5 HA
    go_wp2_with fail
    go_ret
    exact ⟨rfl, HCw5.out⟩
  | false =>
  have HPX2 := HPX (by first | rfl | trivial)
  have HPY2 := HPY (by first | rfl | trivial)
  have HONE2 := Lib.hid (HONE (by first | rfl | trivial) (by first | rfl | trivial))
  clear HPX HPY HONE
  go_wp2_with fail
  refine (HRS.out _ HC4.out).mono ?_
  rintro e w5 ⟨rfl, hC5⟩
  have HD5 := Lib.hid (HD4.out.trans hC5)
  have HC5 := Lib.hid (HC4.out.trans hC5)
  have hq := HB.out _ HD5.out
  clear a0 a1 a2 a3 a4 b0 b1 b2 b3 b4 hC5 HRS
  have a0 := cell_of hq.1 0
  have b0 := cell_of hq.2 0
  have a1 := cell_of hq.1 1
  have b1 := cell_of hq.2 1
  have a2 := cell_of hq.1 2
  have b2 := cell_of hq.2 2
  have a3 := cell_of hq.1 3
  have b3 := cell_of hq.2 3
  have a4 := cell_of hq.1 4
  have b4 := cell_of hq.2 4
  clear hq
  go_wp2_with fail
  refine (HTS.out _ HC5.out).mono ?_
  rintro e w6 ⟨rfl, hC6⟩
  have HD6 := Lib.hid (HD5.out.trans hC6)
  have HC6 := Lib.hid (HC5.out.trans hC6)
  have hq := HB.out _ HD6.out
  clear a0 a1 a2 a3 a4 b0 b1 b2 b3 b4 hC6 HTS
  have a0 := cell_of hq.1 0
  have b0 := cell_of hq.2 0
  have a1 := cell_of hq.1 1
  have b1 := cell_of hq.2 1
  have a2 := cell_of hq.1 2
  have b2 := cell_of hq.2 2
  have a3 := cell_of hq.1 3
  have b3 := cell_of hq.2 3
  have a4 := cell_of hq.1 4
  have b4 := cell_of hq.2 4
  clear hq
  have hss : (sm == sm) = true := beq_self_eq_true _
  have hsn : (sm != sm) = false := bne_self_eq_false _
  go_wp2_with fail
  refine (HTX.out _ HC6.out).mono ?_
  rintro e w7 ⟨rfl, hC7⟩
  have HD7 := Lib.hid (HD6.out.trans hC7)
  have HC7 := Lib.hid (HC6.out.trans hC7)
  have hq := HB.out _ HD7.out
  clear a0 a1 a2 a3 a4 b0 b1 b2 b3 b4 hC7 HTX
  have a0 := cell_of hq.1 0
  have b0 := cell_of hq.2 0
  have a1 := cell_of hq.1 1
  have b1 := cell_of hq.2 1
  have a2 := cell_of hq.1 2
  have b2 := cell_of hq.2 2
  have a3 := cell_of hq.1 3
  have b3 := cell_of hq.2 3
  have a4 := cell_of hq.1 4
  have b4 := cell_of hq.2 4
  clear hq
  go_wp2_with fail
  refine (HPX2.out _ HC7.out).mono ?_
  rintro e w8 ⟨rfl, hC8⟩
  have HD8 := Lib.hid (HD7.out.trans hC8)
  have HC8 := Lib.hid (HC7.out.trans hC8)
  have hq := HB.out _ HD8.out
  clear a0 a1 a2 a3 a4 b0 b1 b2 b3 b4 hC8 HPX2
  have a0 := cell_of hq.1 0
  have b0 := cell_of hq.2 0
  have a1 := cell_of hq.1 1
  have b1 := cell_of hq.2 1
  have a2 := cell_of hq.1 2
  have b2 := cell_of hq.2 2
  have a3 := cell_of hq.1 3
  have b3 := cell_of hq.2 3
  have a4 := cell_of hq.1 4
  have b4 := cell_of hq.2 4
  clear hq
  cases mx with
  | false =>
    cases my with
    | false =>
      simp only [Bool.false_eq_true, if_false, if_true] at HPY2 ⊢
      go_wp2_with fail
      refine (HPY2.out _ HC8.out).mono ?_
      rintro e w9 ⟨rfl, hC9⟩
      have HC9 := Lib.hid (HC8.out.trans hC9)
      clear hC9 HPY2 a0 a1 a2 a3 a4 b0 b1 b2 b3 b4
      go_wp2_with fail
      refine (HA.out _ HC9.out).mono ?_
      rintro e wa ⟨rfl, hCwa⟩
      have HCwa := Lib.hid (HC9.out.trans hCwa)
      clear hCwa HA
      go_wp2_with fail
      go_ret
      exact ⟨rfl, HCwa.out⟩
    | true =>
      simp only [Bool.false_eq_true, if_false, if_true] at HPY2 ⊢
      go_wp2_with fail
      refine (HPY2.out _ HC8.out).mono ?_
      rintro e w9 ⟨rfl, hC9⟩
      have HC9 := Lib.hid (HC8.out.trans hC9)
      clear hC9 HPY2 a0 a1 a2 a3 a4 b0 b1 b2 b3 b4
      go_wp2_with fail
      refine (HA.out _ HC9.out).mono ?_
      rintro e wa ⟨rfl, hCwa⟩
      have HCwa := Lib.hid (HC9.out.trans hCwa)
      clear hCwa HA
      go_wp2_with fail
      go_ret
      exact ⟨rfl, HCwa.out⟩
  | true =>
    cases my with
    | false =>
      simp only [Bool.false_eq_true, if_false, if_true] at HPY2 ⊢
      go_wp2_with fail
      refine (HPY2.out _ HC8.out).mono ?_
      rintro e w9 ⟨rfl, hC9⟩
      have HC9 := Lib.hid (HC8.out.trans hC9)
      clear hC9 HPY2 a0 a1 a2 a3 a4 b0 b1 b2 b3 b4
      go_wp2_with fail
      refine (HA.out _ HC9.out).mono ?_
      rintro e wa ⟨rfl, hCwa⟩
      have HCwa := Lib.hid (HC9.out.trans hCwa)
      clear hCwa HA
      go_wp2_with fail
      go_ret
      exact ⟨rfl, HCwa.out⟩
    | true =>
      simp only [Bool.false_eq_true, if_false, if_true] at HPY2 ⊢
      have hone := HONE2.out (by first | rfl | trivial) (by first | rfl | trivial)
      go_wp2_with fail
      refine (HPY2.out _ HC8.out).mono ?_
      rintro e w9 ⟨rfl, hC9⟩
      have HC9 := Lib.hid (HC8.out.trans hC9)
      clear hC9 HPY2 a0 a1 a2 a3 a4 b0 b1 b2 b3 b4
      go_wp2_with fail
      refine (HA.out _ HC9.out).mono ?_
      rintro e wa ⟨rfl, hCwa⟩
      have HCwa := Lib.hid (HC9.out.trans hCwa)
      clear hCwa HA
      go_wp2_with fail
      go_ret
      exact ⟨rfl, HCwa.out⟩
end Go.Proofs.YtaklmocjaokkpaaGreatDoor.Tr
