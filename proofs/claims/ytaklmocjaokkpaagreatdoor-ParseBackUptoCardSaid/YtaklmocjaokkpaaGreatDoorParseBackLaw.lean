/- A node's text is parsed as the node: the statement, walked. Condition: a node of weight at most 2^20; what XTreeText's functions want of the library's variables; what is printed of numbers and of texts in quotes. -/
import Derived.Test.YtaklmocjaokkpaaGreatDoorTreePrintsLaw
import Derived.Test.YtaklmocjaokkpaaGreatDoorTreeSame
import Derived.Test.YtaklmocjaokkpaaGreatDoorParseA
import Derived.Test.YtaklmocjaokkpaaGreatDoorParseC
namespace Go.Proofs.YtaklmocjaokkpaaGreatDoor.Tr
set_option linter.unusedVariables false
set_option linter.unusedSimpArgs false
open Go.RowKit Go.Shelf Go.Proofs.YtaklmocjaokkpaaGreatDoor.Mem

theorem back_text {x : Nd} (hx : mayB x = true) (hl : Lits inR okQ x) {px : ByteArray} (hp : (⟨(printL x).toArray⟩ : ByteArray) = px) (hs : px.size ≤ 65536) : parseP (bl px) = .ok x := by
  subst hp
  rw [mk_size] at hs
  rw [bl_mk]
  exact parse_print hx (hl.weak (fun _ h => h) (fun _ _ => trivial)) hs
set_option maxRecDepth 100000 in
set_option maxHeartbeats 4000000 in
theorem parseBack_calls (x : Nd) (nv kv : Value) (w : World) (h : NdIn w nv kv x) (hwt : wt x ≤ 1048576) (hg : Gm w) (hF : FmtOk inR w) (hQ : QuoOk okQ w) :
    Calls Tryz.prog 11 #[ndV x nv kv] w fun e w' => e = .returned (.bool true) ∧ Chg (fun _ => False) w w' := by
  obtain ⟨hfx, hsx⟩ := fine_wt x hwt
  have hzx := size_wt x
  have HA := Lib.hid (fun W (hW : Chg (fun _ => False) w W) => pawake_calls W (hg.later hW))
  have HGX := Lib.hid (fun W (hW : Chg (fun _ => False) w W) => great_calls x nv kv 0 W (h.kept hW) (by omega) (by omega))
  have HMX := Lib.hid (fun W (hW : Chg (fun _ => False) w W) => rmay_calls x nv kv W (h.kept hW) hfx (by omega))
  have HRS := Lib.hid (fun nv' kv' W (hin : NdIn W nv' kv' x) (hW : Chg (fun _ => False) w W) => rsame_calls x x nv' kv' nv kv W hin (h.kept hW))
  simp only [sameN_true rfl] at HRS
  have HPX : greatB x 0 = false → Hid (∀ W, Chg (fun _ => False) w W → Calls Tryz.prog 19 #[ndV x nv kv] W fun e w' => e = .returned (.tuple #[.string (printR x).1, .int .i64 (printR x).2]) ∧ Chg (fun _ => False) W w') := fun hgr => Lib.hid fun W hW => by
    have hl := great_lits x nv kv 0 h hgr
    exact print_calls x nv kv W (h.kept hW) (hg.later hW) hsx (hF.later hW) (hQ.later hW) hl (fun _ => by have := print_len x hl; omega)
  obtain ⟨px, hpx⟩ : ∃ px : ByteArray, (⟨(printL x).toArray⟩ : ByteArray) = px := ⟨_, rfl⟩
  have HPP : greatB x 0 = false → mayB x = true → px.size ≤ 65536 → Hid (∀ W, Chg (fun _ => False) w W → Calls Tryz.prog 29 #[.string px] W (ParseEnds W (.ok x))) := fun g1 g2 g3 => Lib.hid fun W hW => by
    have := parse_calls px W (hg.later hW)
    rw [back_text g2 (great_lits x nv kv 0 h g1) hpx g3] at this
    exact this
  obtain ⟨gx, hgx⟩ : ∃ gx, greatB x 0 = gx := ⟨_, rfl⟩
  obtain ⟨mx, hmx⟩ : ∃ mx, mayB x = mx := ⟨_, rfl⟩
  have hprx : printR x = if mx = true then (px, 0) else (⟨#[]⟩, 12) := by unfold printR; rw [hmx, hpx]
  simp only [hgx] at HGX
  simp only [hmx] at HMX
  rw [hgx, hprx] at HPX
  rw [hgx, hmx] at HPP
  obtain ⟨w1, hw1⟩ : ∃ w1, w.alloc (ndBox x nv kv) = w1 := ⟨_, rfl⟩
  have hC1 : Chg (fun _ => False) w w1 := by rw [← hw1]; exact (Chg.refl _ w).alloc _
  have hbx : w1.heap[w.heap.size]? = some (ndBox x nv kv) := by rw [← hw1]; exact blk_new w _
  have HC1 := Lib.hid hC1
  have HD1 := Lib.hid (Chg.refl (fun _ => False) w1)
  obtain ⟨an, can, ak, cak, rfl, rfl, _⟩ := h.forms
  unfold ndBox at hbx hw1
  unfold ndV at HGX HMX HRS HPX ⊢
  have HB : Hid (∀ W, Chg (fun _ => False) w1 W → W.heap[w.heap.size]? = some (.cells #[.int .u8 x.kind, .int .i64 x.n, .string x.text, .slice an x.names.length can, .slice ak x.kids.length cak] 25)) := Lib.hid fun W hW => hW.blk hbx (fun e => e)
  have HH := Lib.hid h
  have a0 := cell_of hbx 0
  have a1 := cell_of hbx 1
  have a2 := cell_of hbx 2
  have a3 := cell_of hbx 3
  have a4 := cell_of hbx 4
  clear h hwt hg hF hQ hfx hsx hzx hgx hmx hpx hprx hC1 hbx
  go_enter Tryz.func11, Tryz.ntmps11
  go_wp2_with fail
  refine (HGX.out _ HC1.out).mono ?_
  rintro e w2 ⟨rfl, hC2⟩
  have HD2 := Lib.hid (HD1.out.trans hC2)
  have HC2 := Lib.hid (HC1.out.trans hC2)
  have hq := HB.out _ HD2.out
  clear a0 a1 a2 a3 a4 hC2 hw1
  have a0 := cell_of hq 0
  have a1 := cell_of hq 1
  have a2 := cell_of hq 2
  have a3 := cell_of hq 3
  have a4 := cell_of hq 4
  clear hq
  cases gx with
  | true =>
    go_wp2_with fail
    refine (HA.out _ HC2.out).mono ?_
    rintro e wz ⟨rfl, hCz⟩
    have HCZ := Lib.hid ((HC2.out).trans hCz)
    clear hCz HA
    go_wp2_with fail
    go_ret
    exact ⟨rfl, HCZ.out⟩
  | false =>
  have HPX2 := HPX (by first | rfl | trivial)
  have HPP2 := HPP (by first | rfl | trivial)
  clear HPX HPP
  go_wp2_with fail
  refine (HMX.out _ HC2.out).mono ?_
  rintro e w3 ⟨rfl, hC3⟩
  have HD3 := Lib.hid (HD2.out.trans hC3)
  have HC3 := Lib.hid (HC2.out.trans hC3)
  have hq := HB.out _ HD3.out
  clear a0 a1 a2 a3 a4 hC3 HGX
  have a0 := cell_of hq 0
  have a1 := cell_of hq 1
  have a2 := cell_of hq 2
  have a3 := cell_of hq 3
  have a4 := cell_of hq 4
  clear hq
  cases mx with
  | false =>
    go_wp2_with fail
    refine (HA.out _ HC3.out).mono ?_
    rintro e wz ⟨rfl, hCz⟩
    have HCZ := Lib.hid ((HC3.out).trans hCz)
    clear hCz HA
    go_wp2_with fail
    go_ret
    exact ⟨rfl, HCZ.out⟩
  | true =>
  have HPP3 := HPP2 (by first | rfl | trivial)
  clear HPP2
  simp only [if_true] at HPX2
  go_wp2_with fail
  refine (HPX2.out _ HC3.out).mono ?_
  rintro e w4 ⟨rfl, hC4⟩
  have HD4 := Lib.hid (HD3.out.trans hC4)
  have HC4 := Lib.hid (HC3.out.trans hC4)
  have hq := HB.out _ HD4.out
  clear a0 a1 a2 a3 a4 hC4 HMX
  have a0 := cell_of hq 0
  have a1 := cell_of hq 1
  have a2 := cell_of hq 2
  have a3 := cell_of hq 3
  have a4 := cell_of hq 4
  clear hq
  by_cases hbig : 65536 < px.size
  · have hbi : (65536 : Int) < (px.size : Int) := by omega
    go_wp2_with fail
    refine (HA.out _ HC4.out).mono ?_
    rintro e wz ⟨rfl, hCz⟩
    have HCZ := Lib.hid ((HC4.out).trans hCz)
    clear hCz HA
    go_wp2_with fail
    go_ret
    exact ⟨rfl, HCZ.out⟩
  have hbi : ¬ (65536 : Int) < (px.size : Int) := by omega
  have HPP4 := HPP3 (by omega)
  clear HPP3
  go_wp2_with fail
  refine (HPP4.out _ HC4.out).mono ?_
  rintro e w5 ⟨nv', kv', rfl, hin5, hC5⟩
  obtain ⟨bn, cbn, bk, cbk, rfl, rfl, _⟩ := hin5.forms
  unfold ndV
  obtain ⟨w6, hw6⟩ : ∃ w6, w5.alloc (.cells #[.int .u8 x.kind, .int .i64 x.n, .string x.text, .slice bn x.names.length cbn, .slice bk x.kids.length cbk] 25) = w6 := ⟨_, rfl⟩
  have hC6 : Chg (fun _ => False) w4 w6 := by rw [← hw6]; exact hC5.alloc _
  have hb6 : w6.heap[w5.heap.size]? = some (.cells #[.int .u8 x.kind, .int .i64 x.n, .string x.text, .slice bn x.names.length cbn, .slice bk x.kids.length cbk] 25) := by rw [← hw6]; exact blk_new w5 _
  have HIN := Lib.hid ((NdIn.keep (keep_off _ _) _ _ _ hin5).kept ((Chg.refl (fun _ => False) w5).alloc (.cells #[.int .u8 x.kind, .int .i64 x.n, .string x.text, .slice bn x.names.length cbn, .slice bk x.kids.length cbk] 25)))
  rw [hw6] at HIN
  have HD6 := Lib.hid (HD4.out.trans hC6)
  have HC6 := Lib.hid (HC4.out.trans hC6)
  have hq := HB.out _ HD6.out
  clear a0 a1 a2 a3 a4 hC5 hC6 hin5
  have a0 := cell_of hq 0
  have a1 := cell_of hq 1
  have a2 := cell_of hq 2
  have a3 := cell_of hq 3
  have a4 := cell_of hq 4
  have b0 := cell_of hb6 0
  have b1 := cell_of hb6 1
  have b2 := cell_of hb6 2
  have b3 := cell_of hb6 3
  have b4 := cell_of hb6 4
  clear hq hb6
  go_wp2_with fail
  refine (HRS.out _ _ _ HIN.out HC6.out).mono ?_
  rintro e w7 ⟨rfl, hC7⟩
  have HC7 := Lib.hid (HC6.out.trans hC7)
  clear hC7 HRS HIN a0 a1 a2 a3 a4 b0 b1 b2 b3 b4
  go_wp2_with fail
  refine (HA.out _ HC7.out).mono ?_
  rintro e wz ⟨rfl, hCz⟩
  have HCZ := Lib.hid ((HC7.out).trans hCz)
  clear hCz HA
  go_wp2_with fail
  go_ret
  exact ⟨rfl, HCZ.out⟩
end Go.Proofs.YtaklmocjaokkpaaGreatDoor.Tr
