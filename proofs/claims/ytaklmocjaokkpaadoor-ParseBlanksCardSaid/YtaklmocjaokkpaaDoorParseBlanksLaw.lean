/- What is parsed is parsed the same with notes and blanks ahead and behind: the statement, walked. Condition: what Gm wants of the library's variables. -/
import Derived.Test.YtaklmocjaokkpaaDoorTreeSame
import Derived.Test.YtaklmocjaokkpaaDoorParseC
namespace Go.Proofs.YtaklmocjaokkpaaDoor.Tr
set_option linter.unusedVariables false
set_option linter.unusedSimpArgs false
open Go.RowKit Go.Shelf Go.Proofs.YtaklmocjaokkpaaDoor.Mem

theorem parse_err_no {s : List UInt8} {p q : Nat} (h : parseP s = .error (p, q)) : ((q : Int) != 0) = true := bne_iff_ne.2 (by have := (parse_errs h).2; omega)
theorem noted_bl (s note : ByteArray) : bl (⟨#[32, 59]⟩ ++ note ++ ⟨#[10]⟩ ++ s ++ ⟨#[10, 9, 59]⟩ ++ note) = noted (bl s) (bl note) := by simp [bl, noted]
set_option maxRecDepth 100000 in
set_option maxHeartbeats 8000000 in
theorem parseBlanks_calls (s note : ByteArray) (w : World) (hg : Gm w) :
    Calls Tryd.prog 3 #[.string s, .string note] w fun e w' => e = .returned (.bool true) ∧ Chg (fun _ => False) w w' := by
  have HA := Lib.hid (fun W (hW : Chg (fun _ => False) w W) => pawake_calls W (hg.later hW))
  have HPP := Lib.hid (fun t W (hW : Chg (fun _ => False) w W) => parse_calls t W (hg.later hW))
  have HRS := Lib.hid (fun (x y : Nd) nv kv nv' kv' W (hin : NdIn W nv kv x) (hin' : NdIn W nv' kv' y) => rsame_calls x y nv kv nv' kv' W hin hin')
  have HC0 := Lib.hid (Chg.refl (fun _ => False) w)
  clear hg
  go_enter Tryd.func3, Tryd.ntmps3
  by_cases hs : (20000 : Int) < (s.size : Int)
  · go_wp2_with fail
    refine (HA.out _ (HC0.out)).mono ?_
    rintro e wz ⟨rfl, hCz⟩
    have HCZ := Lib.hid ((HC0.out).trans hCz)
    clear hCz HA
    go_wp2_with fail
    go_ret
    exact ⟨rfl, HCZ.out⟩
  by_cases ht : (300 : Int) < (note.size : Int)
  · go_wp2_with fail
    refine (HA.out _ (HC0.out)).mono ?_
    rintro e wz ⟨rfl, hCz⟩
    have HCZ := Lib.hid ((HC0.out).trans hCz)
    clear hCz HA
    go_wp2_with fail
    go_ret
    exact ⟨rfl, HCZ.out⟩
  have HLS : Hid (s.size ≤ 20000 ∧ note.size ≤ 300) := Lib.hid (by omega)
  have hnl : note.size ≤ 300 := by omega
  have hsl : s.size ≤ 20000 := by omega
  go_wp2_with fail
  go_loopg [5] (note.size + 1) (fun g kv wr => ∃ k : Nat, kv = .int .i64 (k : Int) ∧ k ≤ note.size ∧ note.size < g + k ∧ Hid (∀ j, j < k → note.data.toList[j]? ≠ some 10) ∧ Hid (Chg (fun _ => False) w wr))
  case atStart => exact ⟨0, rfl, Nat.zero_le _, by omega, Lib.hid (fun j hj => by omega), HC0⟩
  case round =>
    obtain ⟨k, rfl, hk, hgk, HN, HC⟩ := hrel
    have hk0 : (0 : Int) ≤ (k : Int) := by omega
    by_cases hlt : (k : Int) < (note.size : Int)
    · have hkl : k < note.size := by omega
      have hc0 := Lx.at_get note k hkl
      obtain ⟨c, hc⟩ : ∃ c, note[k] = c := ⟨_, rfl⟩
      rw [hc] at hc0
      by_cases h10 : c = 10
      · subst h10
        have u1 : (10 : UInt8).toNat = 10 := rfl
        clear hc0
        go_wp2_with fail
        refine (HA.out _ (HC.out)).mono ?_
        rintro e wz ⟨rfl, hCz⟩
        have HCZ := Lib.hid ((HC.out).trans hCz)
        clear hCz HA
        go_wp2_with fail
        go_ret
        exact ⟨rfl, HCZ.out⟩
      have n10 : ¬ c.toNat = 10 := fun e => h10 (UInt8.toNat_inj.1 e)
      have n10i : ((c.toNat : Int) == 10) = false := beq_eq_false_iff_ne.2 (by omega)
      have HN2 : Hid (∀ j, j < k + 1 → note.data.toList[j]? ≠ some 10) := Lib.hid (fun j hj => by
        rcases Nat.lt_or_ge j k with h1 | h1
        · exact HN.out j h1
        · obtain rfl : j = k := by omega
          rw [hc0]
          exact fun e => h10 (Option.some.inj e))
      clear h10 n10 hc0
      obtain ⟨gk', rfl⟩ : ∃ q, gk = q + 1 := ⟨gk - 1, by omega⟩
      go_wp2_with fail
      go_roundg gk'
      case measure => omega
      case rel => exact ⟨k + 1, by push_cast; rfl, by omega, by omega, HN2, HC⟩
    · have HNN : Hid (∀ c ∈ bl note, c ≠ 10) := Lib.hid (fun c hc e => by
        obtain ⟨j, hj⟩ := List.mem_iff_getElem?.1 hc
        have hj2 := (List.getElem?_eq_some_iff.1 hj).1
        have hj3 : j < note.size := by
          have : (bl note).length = note.size := bl_len' note
          omega
        subst e
        exact HN.out j (by omega) hj)
      have HLL : Hid ((bl s).length + 2 * (bl note).length + 6 ≤ 65536) := Lib.hid (by rw [bl_len', bl_len']; have := HLS.out; omega)
      clear hs ht hk hgk HN
      go_wp2_with fail
      refine (HPP.out s _ HC.out).mono ?_
      cases hr1 : parseP (bl s) with
      | error pq =>
        obtain ⟨p, q⟩ := pq
        have hq0 := parse_err_no hr1
        rintro e w2 ⟨rfl, hC2⟩
        have HC3 := Lib.hid ((HC.out.trans hC2).alloc (.cells #[.int .u8 0, .int .i64 0, .string ⟨#[]⟩, .slice none 0 0, .slice none 0 0] 26))
        clear hC2 hr1
        go_wp2_with fail
        refine (HPP.out _ _ HC3.out).mono ?_
        rw [noted_bl]
        cases hr2 : parseP (noted (bl s) (bl note)) with
        | error pq2 =>
          obtain ⟨p2, q2⟩ := pq2
          rintro e w4 ⟨rfl, hC4⟩
          have HC5 := Lib.hid ((HC3.out.trans hC4).alloc (.cells #[.int .u8 0, .int .i64 0, .string ⟨#[]⟩, .slice none 0 0, .slice none 0 0] 26))
          clear hC4 hr2 HPP
          go_wp2_with fail
          refine (HA.out _ (HC5.out)).mono ?_
          rintro e wz ⟨rfl, hCz⟩
          have HCZ := Lib.hid ((HC5.out).trans hCz)
          clear hCz HA
          go_wp2_with fail
          go_ret
          exact ⟨rfl, HCZ.out⟩
        | ok y =>
          rintro e w4 ⟨nv, kv, rfl, hin, hC4⟩
          obtain ⟨bn, cbn, bk, cbk, rfl, rfl, _⟩ := hin.forms
          unfold ndV
          have HC5 := Lib.hid ((HC3.out.trans hC4).alloc (.cells #[.int .u8 y.kind, .int .i64 y.n, .string y.text, .slice bn y.names.length cbn, .slice bk y.kids.length cbk] 26))
          clear hC4 hr2 HPP hin
          go_wp2_with fail
          refine (HA.out _ (HC5.out)).mono ?_
          rintro e wz ⟨rfl, hCz⟩
          have HCZ := Lib.hid ((HC5.out).trans hCz)
          clear hCz HA
          go_wp2_with fail
          go_ret
          exact ⟨rfl, HCZ.out⟩
      | ok x =>
        have hr2 : parseP (noted (bl s) (bl note)) = .ok x := parse_noted hr1 HNN.out HLL.out
        have HR2 := Lib.hid hr2
        rintro e w2 ⟨nv, kv, rfl, hin, hC2⟩
        obtain ⟨an, can, ak, cak, rfl, rfl, _⟩ := hin.forms
        unfold ndV
        obtain ⟨w3, hw3⟩ : ∃ w3, w2.alloc (.cells #[.int .u8 x.kind, .int .i64 x.n, .string x.text, .slice an x.names.length can, .slice ak x.kids.length cak] 26) = w3 := ⟨_, rfl⟩
        have hC23 : Chg (fun _ => False) w2 w3 := by rw [← hw3]; exact (Chg.refl _ w2).alloc _
        have HBX := Lib.hid (show w3.heap[w2.heap.size]? = some (.cells #[.int .u8 x.kind, .int .i64 x.n, .string x.text, .slice an x.names.length can, .slice ak x.kids.length cak] 26) by rw [← hw3]; exact blk_new w2 _)
        have HIX := Lib.hid ((NdIn.keep (keep_off _ _) _ _ _ hin).kept hC23)
        have HC3 := Lib.hid ((HC.out.trans hC2).trans hC23)
        clear hC2 hC23 hr1 hr2 hin
        go_wp2_with fail
        refine (HPP.out _ _ HC3.out).mono ?_
        rw [noted_bl, HR2.out]
        rintro e w4 ⟨nv', kv', rfl, hin, hC4⟩
        obtain ⟨bn, cbn, bk, cbk, rfl, rfl, _⟩ := hin.forms
        unfold ndV
        obtain ⟨w5, hw5⟩ : ∃ w5, w4.alloc (.cells #[.int .u8 x.kind, .int .i64 x.n, .string x.text, .slice bn x.names.length cbn, .slice bk x.kids.length cbk] 26) = w5 := ⟨_, rfl⟩
        have hC45 : Chg (fun _ => False) w4 w5 := by rw [← hw5]; exact (Chg.refl _ w4).alloc _
        have HIY := Lib.hid ((NdIn.keep (keep_off _ _) _ _ _ hin).kept hC45)
        have hC35 := hC4.trans hC45
        have HC5 := Lib.hid (HC3.out.trans hC35)
        have HX5 := Lib.hid (HIX.out.kept hC35)
        have hq1 := hC35.blk HBX.out (fun e => e)
        have hq2 : w5.heap[w4.heap.size]? = some (.cells #[.int .u8 x.kind, .int .i64 x.n, .string x.text, .slice bn x.names.length cbn, .slice bk x.kids.length cbk] 26) := by rw [← hw5]; exact blk_new w4 _
        have a0 := cell_of hq1 0
        have b0 := cell_of hq2 0
        have a1 := cell_of hq1 1
        have b1 := cell_of hq2 1
        have a2 := cell_of hq1 2
        have b2 := cell_of hq2 2
        have a3 := cell_of hq1 3
        have b3 := cell_of hq2 3
        have a4 := cell_of hq1 4
        have b4 := cell_of hq2 4
        have HSM := Lib.hid (HRS.out x x _ _ _ _ w5 HX5.out HIY.out)
        simp only [sameN_true rfl] at HSM
        unfold ndV at HSM
        clear hq1 hq2 hC4 hC45 hC35 hin hw3 HPP HRS HIX HIY HX5 HBX HR2
        go_wp2_with fail
        refine HSM.out.mono ?_
        rintro e w6 ⟨rfl, hC6⟩
        have HC6 := Lib.hid (HC5.out.trans hC6)
        clear hC6 HSM hw5 a0 b0 a1 b1 a2 b2 a3 b3 a4 b4
        go_wp2_with fail
        refine (HA.out _ (HC6.out)).mono ?_
        rintro e wz ⟨rfl, hCz⟩
        have HCZ := Lib.hid ((HC6.out).trans hCz)
        clear hCz HA
        go_wp2_with fail
        go_ret
        exact ⟨rfl, HCZ.out⟩
end Go.Proofs.YtaklmocjaokkpaaDoor.Tr
