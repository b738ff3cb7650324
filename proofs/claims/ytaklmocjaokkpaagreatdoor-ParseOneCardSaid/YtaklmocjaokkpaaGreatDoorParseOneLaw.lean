/- Two texts are parsed as the same node just if that prints as one text: the statement, walked. Condition: what XTreeText's functions want of the library's variables; what is printed of numbers and of texts in quotes. -/
import Derived.Test.YtaklmocjaokkpaaGreatDoorParseWeigh
import Derived.Test.YtaklmocjaokkpaaGreatDoorTreeSame
import Derived.Test.YtaklmocjaokkpaaGreatDoorParseC
namespace Go.Proofs.YtaklmocjaokkpaaGreatDoor.Tr
set_option linter.unusedVariables false
set_option linter.unusedSimpArgs false
open Go.RowKit Go.Shelf Go.Proofs.YtaklmocjaokkpaaGreatDoor.Mem

theorem parse_err_no {s : List UInt8} {p q : Nat} (h : parseP s = .error (p, q)) : ((q : Int) != 0) = true := bne_iff_ne.2 (by have := (parse_errs h).2; omega)
set_option maxRecDepth 100000 in
set_option maxHeartbeats 8000000 in
theorem parseOne_calls (s t : ByteArray) (w : World) (hg : Gm w) (hF : FmtOk inR w) (hQ : QuoOk okQ w) :
    Calls Tryz.prog 13 #[.string s, .string t] w fun e w' => e = .returned (.bool true) ∧ Chg (fun _ => False) w w' := by
  have HA := Lib.hid (fun W (hW : Chg (fun _ => False) w W) => pawake_calls W (hg.later hW))
  have HPP := Lib.hid (fun t W (hW : Chg (fun _ => False) w W) => parse_calls t W (hg.later hW))
  have HPR : Hid (∀ (x : Nd), (∃ l, parseP l = .ok x) → ∀ nv kv W, NdIn W nv kv x → Chg (fun _ => False) w W → Calls Tryz.prog 19 #[ndV x nv kv] W fun e w' => e = .returned (.tuple #[.string ⟨(printL x).toArray⟩, .int .i64 0]) ∧ Chg (fun _ => False) W w') := Lib.hid (fun x hx nv kv W hin hW => by
    obtain ⟨l, hl⟩ := hx
    obtain ⟨h1, h2, h3, h4⟩ := parse_small hl
    have := print_calls x nv kv W hin (hg.later hW) h2 (hF.later hW) (hQ.later hW) h3 (fun _ => h4)
    rw [show printR x = (⟨(printL x).toArray⟩, 0) by unfold printR; rw [if_pos h1]] at this
    exact this)
  have HRS := Lib.hid (fun (x y : Nd) nv kv nv' kv' W (hin : NdIn W nv kv x) (hin' : NdIn W nv' kv' y) => rsame_calls x y nv kv nv' kv' W hin hin')
  have HC0 := Lib.hid (Chg.refl (fun _ => False) w)
  clear hg hF hQ
  go_enter Tryz.func13, Tryz.ntmps13
  by_cases hs : (20000 : Int) < (s.size : Int)
  · go_wp2_with fail
    refine (HA.out _ HC0.out).mono ?_
    rintro e wz ⟨rfl, hCz⟩
    have HCZ := Lib.hid ((HC0.out).trans hCz)
    clear hCz HA
    go_wp2_with fail
    go_ret
    exact ⟨rfl, HCZ.out⟩
  by_cases ht : (20000 : Int) < (t.size : Int)
  · go_wp2_with fail
    refine (HA.out _ HC0.out).mono ?_
    rintro e wz ⟨rfl, hCz⟩
    have HCZ := Lib.hid ((HC0.out).trans hCz)
    clear hCz HA
    go_wp2_with fail
    go_ret
    exact ⟨rfl, HCZ.out⟩
  go_wp2_with fail
  clear hs ht
  refine (HPP.out s _ HC0.out).mono ?_
  cases hr1 : parseP (bl s) with
  | error pq =>
    obtain ⟨p, q⟩ := pq
    have hq0 := parse_err_no hr1
    rintro e w2 ⟨rfl, hC2⟩
    have HC3 := Lib.hid (hC2.alloc (.cells #[.int .u8 0, .int .i64 0, .string ⟨#[]⟩, .slice none 0 0, .slice none 0 0] 25))
    clear hC2 hr1
    go_wp2_with fail
    refine (HPP.out t _ HC3.out).mono ?_
    cases hr2 : parseP (bl t) with
    | error pq2 =>
      obtain ⟨p2, q2⟩ := pq2
      rintro e w4 ⟨rfl, hC4⟩
      have HC5 := Lib.hid ((HC3.out.trans hC4).alloc (.cells #[.int .u8 0, .int .i64 0, .string ⟨#[]⟩, .slice none 0 0, .slice none 0 0] 25))
      clear hC4 hr2 HPP
      go_wp2_with fail
      refine (HA.out _ HC5.out).mono ?_
      rintro e wz ⟨rfl, hCz⟩
      have HCZ := Lib.hid ((HC5.out).trans hCz)
      clear hCz HA
      go_wp2_with fail
      go_ret
      exact ⟨rfl, HCZ.out⟩
    | ok y =>
      rintro e w4 ⟨nv, kv, rfl, hin, hC4⟩
      obtain ⟨bn, cbn, bk, cbk, rfl, rfl, _⟩ := hin.forms
      unfold ndV
      have HC5 := Lib.hid ((HC3.out.trans hC4).alloc (.cells #[.int .u8 y.kind, .int .i64 y.n, .string y.text, .slice bn y.names.length cbn, .slice bk y.kids.length cbk] 25))
      clear hC4 hr2 HPP hin
      go_wp2_with fail
      refine (HA.out _ HC5.out).mono ?_
      rintro e wz ⟨rfl, hCz⟩
      have HCZ := Lib.hid ((HC5.out).trans hCz)
      clear hCz HA
      go_wp2_with fail
      go_ret
      exact ⟨rfl, HCZ.out⟩
  | ok x =>
    rintro e w2 ⟨nv, kv, rfl, hin, hC2⟩
    have HX := Lib.hid (show ∃ l, parseP l = .ok x from ⟨_, hr1⟩)
    obtain ⟨an, can, ak, cak, rfl, rfl, _⟩ := hin.forms
    unfold ndV
    obtain ⟨w3, hw3⟩ : ∃ w3, w2.alloc (.cells #[.int .u8 x.kind, .int .i64 x.n, .string x.text, .slice an x.names.length can, .slice ak x.kids.length cak] 25) = w3 := ⟨_, rfl⟩
    have hC23 : Chg (fun _ => False) w2 w3 := by rw [← hw3]; exact (Chg.refl _ w2).alloc _
    have HBX := Lib.hid (show w3.heap[w2.heap.size]? = some (.cells #[.int .u8 x.kind, .int .i64 x.n, .string x.text, .slice an x.names.length can, .slice ak x.kids.length cak] 25) by rw [← hw3]; exact blk_new w2 _)
    have HIX := Lib.hid ((NdIn.keep (keep_off _ _) _ _ _ hin).kept hC23)
    have HC3 := Lib.hid (hC2.trans hC23)
    clear hC2 hC23 hr1 hin
    go_wp2_with fail
    refine (HPP.out t _ HC3.out).mono ?_
    cases hr2 : parseP (bl t) with
    | error pq2 =>
      obtain ⟨p2, q2⟩ := pq2
      have hq0 := parse_err_no hr2
      rintro e w4 ⟨rfl, hC4⟩
      have HC5 := Lib.hid ((HC3.out.trans hC4).alloc (.cells #[.int .u8 0, .int .i64 0, .string ⟨#[]⟩, .slice none 0 0, .slice none 0 0] 25))
      clear hC4 hr2 HPP hw3
      go_wp2_with fail
      refine (HA.out _ HC5.out).mono ?_
      rintro e wz ⟨rfl, hCz⟩
      have HCZ := Lib.hid ((HC5.out).trans hCz)
      clear hCz HA
      go_wp2_with fail
      go_ret
      exact ⟨rfl, HCZ.out⟩
    | ok y =>
      rintro e w4 ⟨nv', kv', rfl, hin, hC4⟩
      have HY := Lib.hid (show ∃ l, parseP l = .ok y from ⟨_, hr2⟩)
      obtain ⟨bn, cbn, bk, cbk, rfl, rfl, _⟩ := hin.forms
      unfold ndV
      obtain ⟨w5, hw5⟩ : ∃ w5, w4.alloc (.cells #[.int .u8 y.kind, .int .i64 y.n, .string y.text, .slice bn y.names.length cbn, .slice bk y.kids.length cbk] 25) = w5 := ⟨_, rfl⟩
      have hC45 : Chg (fun _ => False) w4 w5 := by rw [← hw5]; exact (Chg.refl _ w4).alloc _
      have HBY := Lib.hid (show w5.heap[w4.heap.size]? = some (.cells #[.int .u8 y.kind, .int .i64 y.n, .string y.text, .slice bn y.names.length cbn, .slice bk y.kids.length cbk] 25) by rw [← hw5]; exact blk_new w4 _)
      have HIY := Lib.hid ((NdIn.keep (keep_off _ _) _ _ _ hin).kept hC45)
      have HD5 := Lib.hid (hC4.trans hC45)
      have HC5 := Lib.hid (HC3.out.trans HD5.out)
      have hone : ((⟨(printL x).toArray⟩ : ByteArray).toList == (⟨(printL y).toArray⟩ : ByteArray).toList) = sameN x y := by
        obtain ⟨lx, hlx⟩ := HX.out
        obtain ⟨ly, hly⟩ := HY.out
        obtain ⟨x1, x2, x3, x4⟩ := parse_small hlx
        obtain ⟨y1, y2, y3, y4⟩ := parse_small hly
        exact one_text x1 y1 x3 y3
      obtain ⟨sm, hsm⟩ : ∃ sm, sameN x y = sm := ⟨_, rfl⟩
      have HB : Hid (∀ W, Chg (fun _ => False) w5 W → W.heap[w2.heap.size]? = some (.cells #[.int .u8 x.kind, .int .i64 x.n, .string x.text, .slice an x.names.length can, .slice ak x.kids.length cak] 25) ∧ W.heap[w4.heap.size]? = some (.cells #[.int .u8 y.kind, .int .i64 y.n, .string y.text, .slice bn y.names.length cbn, .slice bk y.kids.length cbk] 25)) := Lib.hid fun W hW => ⟨(HD5.out.trans hW).blk HBX.out (fun e => e), hW.blk HBY.out (fun e => e)⟩
      have HX5 := Lib.hid (HIX.out.kept HD5.out)
      have hPX := fun W (hW : Chg (fun _ => False) w5 W) => HPR.out x HX.out _ _ W (HX5.out.kept hW) (HC5.out.trans hW)
      have hPY := fun W (hW : Chg (fun _ => False) w5 W) => HPR.out y HY.out _ _ W (HIY.out.kept hW) (HC5.out.trans hW)
      have hSM := fun W (hW : Chg (fun _ => False) w5 W) => HRS.out x y _ _ _ _ W (HX5.out.kept hW) (HIY.out.kept hW)
      simp only [hsm] at hSM
      rw [hsm] at hone
      unfold ndV at hPX hPY hSM
      obtain ⟨px, hpx⟩ : ∃ px : ByteArray, (⟨(printL x).toArray⟩ : ByteArray) = px := ⟨_, rfl⟩
      obtain ⟨py, hpy⟩ : ∃ py : ByteArray, (⟨(printL y).toArray⟩ : ByteArray) = py := ⟨_, rfl⟩
      simp only [hpx] at hPX hone
      simp only [hpy] at hPY hone
      have HPX := Lib.hid hPX
      have HPY := Lib.hid hPY
      have HSM := Lib.hid hSM
      have HE5 := Lib.hid (Chg.refl (fun _ => False) w5)
      have hq := HB.out _ HE5.out
      have a0 := cell_of hq.1 0
      have a1 := cell_of hq.1 1
      have a2 := cell_of hq.1 2
      have a3 := cell_of hq.1 3
      have a4 := cell_of hq.1 4
      have b0 := cell_of hq.2 0
      have b1 := cell_of hq.2 1
      have b2 := cell_of hq.2 2
      have b3 := cell_of hq.2 3
      have b4 := cell_of hq.2 4
      have hss : (sm == sm) = true := beq_self_eq_true _
      clear hq hC4 hC45 hr2 hin hw3 HPP HPR HRS HIX HIY HX5 HBX HBY HX HY hpx hpy hsm hPX hPY hSM
      go_wp2_with fail
      refine (HPX.out _ HE5.out).mono ?_
      rintro e w6 ⟨rfl, hC6⟩
      have HE6 := Lib.hid (HE5.out.trans hC6)
      have hq := HB.out _ HE6.out
      clear a0 a1 a2 a3 a4 b0 b1 b2 b3 b4 hC6 hw5
      have a0 := cell_of hq.1 0
      have a1 := cell_of hq.1 1
      have a2 := cell_of hq.1 2
      have a3 := cell_of hq.1 3
      have a4 := cell_of hq.1 4
      have b0 := cell_of hq.2 0
      have b1 := cell_of hq.2 1
      have b2 := cell_of hq.2 2
      have b3 := cell_of hq.2 3
      have b4 := cell_of hq.2 4
      clear hq
      go_wp2_with fail
      refine (HPY.out _ HE6.out).mono ?_
      rintro e w7 ⟨rfl, hC7⟩
      have HE7 := Lib.hid (HE6.out.trans hC7)
      have hq := HB.out _ HE7.out
      clear a0 a1 a2 a3 a4 b0 b1 b2 b3 b4 hC7 HPX
      have a0 := cell_of hq.1 0
      have a1 := cell_of hq.1 1
      have a2 := cell_of hq.1 2
      have a3 := cell_of hq.1 3
      have a4 := cell_of hq.1 4
      have b0 := cell_of hq.2 0
      have b1 := cell_of hq.2 1
      have b2 := cell_of hq.2 2
      have b3 := cell_of hq.2 3
      have b4 := cell_of hq.2 4
      clear hq
      go_wp2_with fail
      refine (HSM.out _ HE7.out).mono ?_
      rintro e w8 ⟨rfl, hC8⟩
      have HE8 := Lib.hid (HE7.out.trans hC8)
      have hq := HB.out _ HE8.out
      clear a0 a1 a2 a3 a4 b0 b1 b2 b3 b4 hC8 HPY
      have a0 := cell_of hq.1 0
      have a1 := cell_of hq.1 1
      have a2 := cell_of hq.1 2
      have a3 := cell_of hq.1 3
      have a4 := cell_of hq.1 4
      have b0 := cell_of hq.2 0
      have b1 := cell_of hq.2 1
      have b2 := cell_of hq.2 2
      have b3 := cell_of hq.2 3
      have b4 := cell_of hq.2 4
      clear hq
      go_wp2_with fail
      have HC8 := Lib.hid (HC5.out.trans HE8.out)
      refine (HA.out _ HC8.out).mono ?_
      rintro e wz ⟨rfl, hCz⟩
      have HCZ := Lib.hid ((HC8.out).trans hCz)
      clear hCz HA
      go_wp2_with fail
      go_ret
      exact ⟨rfl, HCZ.out⟩
end Go.Proofs.YtaklmocjaokkpaaGreatDoor.Tr
