/- A node's text, written into a strings.Builder: the program's text, walked. Condition: the node is right; what is printed of its numbers and of its texts in quotes is given as known; at most 2^46 bytes in all. -/
import Derived.Test.YtaklmocjaokkpaaGreatDoorTreeBld
import Derived.Test.YtaklmocjaokkpaaGreatDoorTreeHead2
namespace Go.Proofs.YtaklmocjaokkpaaGreatDoor.Tr
set_option linter.unusedVariables false
set_option linter.unusedSimpArgs false
open Go.RowKit Go.Shelf Go.Proofs.YtaklmocjaokkpaaGreatDoor.Mem

/-- What is printed of those numbers for which F holds. -/
def FmtOk (F : Int → Prop) (w0 : World) : Prop := ∀ n W, F n → Chg (fun _ => False) w0 W → Calls Tryz.prog 59 #[.int .i64 n, .int .i64 10] W fun e w' => e = .returned (.string ⟨(Lib.itoa n).toArray⟩) ∧ Chg (fun _ => False) W w'
/-- What is printed of those texts for which Q holds. -/
def QuoOk (Q : ByteArray → Prop) (w0 : World) : Prop := ∀ s W, Q s → Chg (fun _ => False) w0 W → Calls Tryz.prog 61 #[.string s] W fun e w' => e = .returned (.string ⟨(Lx.quote (bl s)).toArray⟩) ∧ Chg (fun _ => False) W w'
theorem bl_mk (l : List UInt8) : bl ⟨l.toArray⟩ = l := by simp [bl]
theorem mk_size (l : List UInt8) : (⟨l.toArray⟩ : ByteArray).size = l.length := by rw [← bl_len, bl_mk]
theorem paren_bl (s : ByteArray) : bl (⟨#[40]⟩ ++ s) = 40 :: bl s := by simp [bl]
set_option maxRecDepth 100000 in
set_option maxHeartbeats 8000000 in
theorem ptext_calls {F : Int → Prop} {Q : ByteArray → Prop} {w00 : World} (hF : FmtOk F w00) (hQ : QuoOk Q w00) : ∀ (x : Nd) (nv kv : Value) (deep b : Nat) (l : List UInt8) (w : World), NdIn w00 nv kv x → rightB x deep = true → Lits F Q x → w00.heap.size ≤ b → Chg (fun _ => False) w00 w → Bld b l w → l.length + (printL x).length ≤ 70368744177664 →
    Calls Tryz.prog 33 #[.pointer (some ⟨b, 0, none⟩), ndV x nv kv] w fun e w' => e = .returned (.tuple #[]) ∧ Bld b (l ++ printL x) w' ∧ Kp b w w' := by
  intro x
  induction x using Nd.ind with
  | h x ih =>
    intro nv kv deep b l w h hrt hlt hb0 hcw hbl hlen
    obtain ⟨w1, hw1⟩ : ∃ w1, w.alloc (ndBox x nv kv) = w1 := ⟨_, rfl⟩
    have hC1 : Chg (fun _ => False) w w1 := by rw [← hw1]; exact (Chg.refl _ w).alloc _
    have hbx : w1.heap[w.heap.size]? = some (ndBox x nv kv) := by rw [← hw1]; exact blk_new w _
    have hbw : b < w.heap.size := hbl.lt
    have HB1 := Lib.hid (hbl.later hC1)
    have HK1 := Lib.hid (Kp.of (b := b) hC1 (by omega))
    have HC1 := Lib.hid (hcw.trans hC1)
    have HCW := Lib.hid hcw
    have HBX := Lib.hid hbx
    have HIN := Lib.hid h
    have HRT := Lib.hid hrt
    have HLT := Lib.hid hlt
    have HIH := Lib.hid ih
    have HB0 := Lib.hid hb0
    obtain ⟨p, hp⟩ : ∃ p, printL x = p := ⟨_, rfl⟩
    rw [hp] at hlen ⊢
    rw [printL_is] at hp
    have hkb := h.kind
    have hnb := h.n
    obtain ⟨an, cn, ak, ck, rfl, rfl, _⟩ := h.forms
    obtain ⟨kd, hkd⟩ : ∃ kd, x.kind = kd := ⟨_, rfl⟩
    have HKD := Lib.hid hkd
    obtain ⟨nn, hnn⟩ : ∃ nn, x.n = nn := ⟨_, rfl⟩
    have HNN := Lib.hid hnn
    obtain ⟨tx, htx⟩ : ∃ tx, x.text = tx := ⟨_, rfl⟩
    have HTX := Lib.hid htx
    unfold ndBox at HBX hw1
    rw [hkd, hnn, htx] at HBX hw1
    rw [hkd, hnn, htx] at hp
    rw [hkd] at hkb
    rw [hnn] at hnb
    have HP := Lib.hid hp
    have a0 := cell_of HBX.out 0
    have a1 := cell_of HBX.out 1
    have a2 := cell_of HBX.out 2
    have a3 := cell_of HBX.out 3
    have a4 := cell_of HBX.out 4
    have HHD : Hid ((headL kd (bl tx) x.names).length ≤ 70368744177664 → Calls Tryz.prog 62 #[.agg #[.int .u8 kd, .int .i64 nn, .string tx, .slice an x.names.length cn, .slice ak x.kids.length ck]] w1 fun e w' => e = .returned (.string ⟨(headL kd (bl tx) x.names).toArray⟩) ∧ Chg (fun _ => False) w1 w') := Lib.hid fun hl => by
      have := head_calls x (.slice an x.names.length cn) (.slice ak x.kids.length ck) w1 (h.kept HC1.out) (fun e => right_one hrt e) (by rw [hkd, htx]; exact hl)
      unfold ndV at this
      rw [hkd, hnn, htx] at this
      exact this
    unfold ndV
    rw [hkd, hnn, htx]
    obtain ⟨z, hz⟩ : ∃ z : Int, (kd : Int) = z := ⟨_, rfl⟩
    rw [hz] at HBX hw1 HHD a0 ⊢
    clear h hrt hlt ih hcw hbl hC1 hbx hp hkd hnn htx
    go_enter Tryz.func33, Tryz.ntmps33
    by_cases k1 : kd = 1
    · subst k1
      obtain rfl : z = 1 := by rw [← hz]; rfl
      clear hz
      have hpp : Lib.itoa nn = p := HP.out
      have HFM := Lib.hid (hF nn w1 (by rw [← HNN.out]; exact HLT.out.int HKD.out) HC1.out)
      rw [hpp] at HFM
      obtain ⟨s, hs⟩ : ∃ s : ByteArray, ⟨p.toArray⟩ = s := ⟨_, rfl⟩
      rw [hs] at HFM
      have HS := Lib.hid hs
      clear hpp hs HIH HHD
      go_wp2_with fail
      refine HFM.out.mono ?_
      rintro e w2 ⟨rfl, hC2⟩
      have HB2 := Lib.hid (HB1.out.later hC2)
      have HK2 := Lib.hid (HK1.out.trans (Kp.of hC2 (Nat.le_of_lt HB1.out.lt)))
      clear hC2 HFM a0 a1 a2 a3 a4
      go_wp2_with fail
      refine (wstr_calls b l s w2 HB2.out (by rw [← HS.out, mk_size]; omega)).mono ?_
      rintro e w3 ⟨rfl, hb3, hk3⟩
      have HB3 := Lib.hid hb3
      have HK3 := Lib.hid (HK2.out.trans hk3)
      clear hb3 hk3
      go_wp2_with fail
      (try simp only [Exit.inBlock, Exit.then])
      refine bodyPost_ret (results_none rfl _ _ _) rfl ?_
      refine ⟨rfl, ?_, HK3.out⟩
      have := HB3.out
      rw [← HS.out, bl_mk] at this
      exact this
    by_cases k2 : kd = 2
    · subst k2
      obtain rfl : z = 2 := by rw [← hz]; rfl
      clear hz
      have hpp : Lib.formatBool (decide (nn = 1)) = p := HP.out
      obtain ⟨d, hd⟩ : ∃ d, (nn == 1) = d := ⟨_, rfl⟩
      have hd2 : decide (nn = 1) = d := by rw [← hd]; by_cases e : nn = 1 <;> simp [e]
      rw [hd2] at hpp
      have HFB := Lib.hid (fun W => Tryz.strconv_FormatBool d W)
      rw [hpp] at HFB
      obtain ⟨s, hs⟩ : ∃ s : ByteArray, ⟨p.toArray⟩ = s := ⟨_, rfl⟩
      rw [hs] at HFB
      have HS := Lib.hid hs
      clear hpp hs hd2 HIH HHD
      go_wp2_with fail
      refine (HFB.out _).mono ?_
      rintro e w2 ⟨rfl, hw2⟩
      have hb2 := HB1.out
      have hk2 := HK1.out
      rw [← hw2] at hb2 hk2
      have HB2 := Lib.hid hb2
      have HK2 := Lib.hid hk2
      clear HFB a0 a1 a2 a3 a4 hb2 hk2 hw2
      go_wp2_with fail
      refine (wstr_calls b l s w2 HB2.out (by rw [← HS.out, mk_size]; omega)).mono ?_
      rintro e w3 ⟨rfl, hb3, hk3⟩
      have HB3 := Lib.hid hb3
      have HK3 := Lib.hid (HK2.out.trans hk3)
      clear hb3 hk3
      go_wp2_with fail
      (try simp only [Exit.inBlock, Exit.then])
      refine bodyPost_ret (results_none rfl _ _ _) rfl ?_
      refine ⟨rfl, ?_, HK3.out⟩
      have := HB3.out
      rw [← HS.out, bl_mk] at this
      exact this
    by_cases k3 : kd = 3
    · subst k3
      obtain rfl : z = 3 := by rw [← hz]; rfl
      clear hz
      have hpp : Lx.quote (bl tx) = p := HP.out
      have HQU := Lib.hid (hQ tx w1 (by rw [← HTX.out]; exact HLT.out.str HKD.out) HC1.out)
      rw [hpp] at HQU
      obtain ⟨s, hs⟩ : ∃ s : ByteArray, ⟨p.toArray⟩ = s := ⟨_, rfl⟩
      rw [hs] at HQU
      have HS := Lib.hid hs
      clear hpp hs HIH HHD
      go_wp2_with fail
      refine HQU.out.mono ?_
      rintro e w2 ⟨rfl, hC2⟩
      have HB2 := Lib.hid (HB1.out.later hC2)
      have HK2 := Lib.hid (HK1.out.trans (Kp.of hC2 (Nat.le_of_lt HB1.out.lt)))
      clear hC2 HQU a0 a1 a2 a3 a4
      go_wp2_with fail
      refine (wstr_calls b l s w2 HB2.out (by rw [← HS.out, mk_size]; omega)).mono ?_
      rintro e w3 ⟨rfl, hb3, hk3⟩
      have HB3 := Lib.hid hb3
      have HK3 := Lib.hid (HK2.out.trans hk3)
      clear hb3 hk3
      go_wp2_with fail
      (try simp only [Exit.inBlock, Exit.then])
      refine bodyPost_ret (results_none rfl _ _ _) rfl ?_
      refine ⟨rfl, ?_, HK3.out⟩
      have := HB3.out
      rw [← HS.out, bl_mk] at this
      exact this
    by_cases k4 : kd = 4
    · subst k4
      obtain rfl : z = 4 := by rw [← hz]; rfl
      clear hz
      have hpp : ([117, 110, 105, 116] : List UInt8) = p := HP.out
      have HPP := Lib.hid hpp
      clear hpp HIH HHD
      go_wp2_with fail
      refine (wstr_calls b l ⟨#[117, 110, 105, 116]⟩ w1 HB1.out (by show l.length + 4 ≤ _; omega)).mono ?_
      rintro e w3 ⟨rfl, hb3, hk3⟩
      have HB3 := Lib.hid hb3
      have HK3 := Lib.hid (HK1.out.trans hk3)
      clear hb3 hk3
      go_wp2_with fail
      (try simp only [Exit.inBlock, Exit.then])
      refine bodyPost_ret (results_none rfl _ _ _) rfl ?_
      refine ⟨rfl, ?_, HK3.out⟩
      rw [← HPP.out]
      exact HB3.out
    by_cases k5 : kd = 5
    · subst k5
      obtain rfl : z = 5 := by rw [← hz]; rfl
      clear hz
      have hpp : bl tx = p := HP.out
      have HPP := Lib.hid hpp
      clear hpp HIH HHD
      go_wp2_with fail
      refine (wstr_calls b l tx w1 HB1.out (by rw [← bl_len, HPP.out]; omega)).mono ?_
      rintro e w3 ⟨rfl, hb3, hk3⟩
      have HB3 := Lib.hid hb3
      have HK3 := Lib.hid (HK1.out.trans hk3)
      clear hb3 hk3
      go_wp2_with fail
      (try simp only [Exit.inBlock, Exit.then])
      refine bodyPost_ret (results_none rfl _ _ _) rfl ?_
      refine ⟨rfl, ?_, HK3.out⟩
      rw [← HPP.out]
      exact HB3.out
    have hpp := HP.out
    rw [if_neg k1, if_neg k2, if_neg k3, if_neg k4, if_neg k5] at hpp
    have i1 : ¬ z = 1 := by omega
    have i2 : ¬ z = 2 := by omega
    have i3 : ¬ z = 3 := by omega
    have i4 : ¬ z = 4 := by omega
    have i5 : ¬ z = 5 := by omega
    obtain ⟨hl, hhl⟩ : ∃ hl, headL kd (bl tx) x.names = hl := ⟨_, rfl⟩
    obtain ⟨hs, hhs⟩ : ∃ hs : ByteArray, ⟨hl.toArray⟩ = hs := ⟨_, rfl⟩
    rw [hhl] at hpp HHD
    rw [hhs] at HHD
    have hpl : p.length = hl.length + (printsL x.kids).length + 2 := by rw [← hpp]; simp; omega
    have hsz : hs.size = hl.length := by rw [← hhs, mk_size]
    have hsz2 : hs.size ≤ 70368744177664 := by omega
    have HHS : Hid (bl hs = hl) := Lib.hid (by rw [← hhs, bl_mk])
    have HPP := Lib.hid hpp
    have HSZ := Lib.hid hsz
    have HHW := Lib.hid (HHD.out (by omega))
    obtain ⟨m, hm⟩ : ∃ m, x.kids.length = m := ⟨_, rfl⟩
    obtain ⟨ln, hln⟩ : ∃ ln, x.names.length = ln := ⟨_, rfl⟩
    rw [hm, hln] at HHW HBX a3 a4 hw1
    rw [hm, hln] at HIN
    have HM := Lib.hid hm
    have hkids : ∃ ad cap, (Value.slice ak m ck) = .slice ad x.kids.length cap ∧ x.kids.length ≤ cap ∧ cap ≤ maxLen ∧ KidsIn w00 ad 0 x.kids := HIN.out.kids
    obtain ⟨hkl, hkm, hkk⟩ : x.kids.length ≤ ck ∧ ck ≤ maxLen ∧ KidsIn w00 ak 0 x.kids := by
      obtain ⟨ad, cap, e, e1, e2, e3⟩ := hkids
      simp only [Value.slice.injEq] at e
      obtain ⟨rfl, _, rfl⟩ := e
      exact ⟨e1, e2, e3⟩
    rw [hm] at hkl
    have hck2 : ck ≤ 9223372036854775807 := by unfold maxLen at hkm; omega
    have HKK := Lib.hid hkk
    rw [hm, hln]
    clear hz hkids hkm hkk hhl hhs hpp hm hln HHD hsz HP k1 k2 k3 k4 k5
    go_wp2_with fail
    refine HHW.out.mono ?_
    rintro e w2 ⟨rfl, hC2⟩
    have HB2 := Lib.hid (HB1.out.later hC2)
    have HK2 := Lib.hid (HK1.out.trans (Kp.of hC2 (Nat.le_of_lt HB1.out.lt)))
    have HBX2 := Lib.hid (hC2.blk HBX.out (fun e => e))
    clear hC2 HHW a0 a1 a2 a3 a4 HBX
    go_wp2_with fail
    have HWS := Lib.hid (wstr_calls b l ((⟨#[40]⟩ : ByteArray) ++ hs) w2 HB2.out (by rw [← bl_len, paren_bl, List.length_cons, bl_len, HSZ.out]; omega))
    rw [paren_bl, HHS.out] at HWS
    refine HWS.out.mono ?_
    rintro e w3 ⟨rfl, hb3, hk3⟩
    have HB3 := Lib.hid hb3
    have HK3 := Lib.hid (HK2.out.trans hk3)
    have a4 := cell_of (hk3.box HBX2.out (by omega) (by decide)) 4
    clear hb3 hk3 HBX2 HB2 HK2
    go_wp2_with fail
    go_loopg [48] (m + 1) (fun g vi wr => ∃ (j : Nat), vi = .int .i64 j ∧ j ≤ m ∧ m < g + j ∧ Hid (Bld b (l ++ 40 :: hl ++ printsL (x.kids.take j)) wr) ∧ Hid (Kp b w wr))
    case atStart => exact ⟨0, rfl, by omega, by omega, Lib.hid (by simpa [printsL] using HB3.out), HK3⟩
    case round =>
      obtain ⟨j, rfl, hj, hg, hB, hK⟩ := hrel
      by_cases hlt : j < m
      · obtain ⟨gk', rfl⟩ : ∃ q, gk = q + 1 := ⟨gk - 1, by omega⟩
        have HCR := Lib.hid (hK.out.chg HCW.out HB0.out)
        obtain ⟨bk, off, nv', kv', y, rfl, hy, hym, c0, c1, c2, c3, c4, hin⟩ := kid_cells (HKK.out.kept HCR.out) j (by rw [HM.out]; exact hlt)
        obtain ⟨bk', off', nv'', kv'', y', hadr, hy', _, d0, d1, d2, d3, d4, hin0⟩ := kid_cells HKK.out j (by rw [HM.out]; exact hlt)
        have hyy : y' = y := by rw [hy] at hy'; exact (Option.some.inj hy').symm
        subst hyy
        have HIN0 : Hid (NdIn w00 nv' kv' y') := Lib.hid (by
          cases hadr
          have e3 := (HCR.out.cell d3 (fun e => e)).symm.trans c3
          have e4 := (HCR.out.cell d4 (fun e => e)).symm.trans c4
          cases e3
          cases e4
          exact hin0)
        have hst := printsL_take x.kids j y' hy
        have hle := printsL_le x.kids (j + 1)
        rw [hst, List.length_append, List.length_cons] at hle
        have hpre : (l ++ 40 :: hl ++ printsL (x.kids.take j)).length + (printL y').length + 2 ≤ 70368744177664 := by
          simp only [List.length_append, List.length_cons]
          omega
        have HS := Lib.hid (fun W (hB : Bld b (l ++ 40 :: hl ++ printsL (x.kids.take j) ++ [32]) W) (hW : Chg (fun _ => False) w00 W) => HIH.out y' hym nv' kv' (deep + 1) b _ W HIN0.out (right_kid HRT.out y' hym) (HLT.out.kid y' hym) HB0.out hW hB (by simp only [List.length_append, List.length_cons, List.length_nil] at hpre ⊢; omega))
        unfold ndV at HS
        obtain ⟨an', cn', ak', ck', rfl, rfl, _⟩ := hin.forms
        have HST := Lib.hid hst
        have i0 : (0 : Int) ≤ (j : Int) := by omega
        have i1 : (j : Int) < (m : Int) := by omega
        have hykb := hin.kind
        obtain ⟨yk, hyk⟩ : ∃ yk, y'.kind = yk := ⟨_, rfl⟩
        rw [hyk] at c0 hykb HS
        obtain ⟨w4, hw4⟩ : ∃ w4, wr.alloc (.cells #[.int .u8 yk, .int .i64 y'.n, .string y'.text, .slice an' y'.names.length cn', .slice ak' y'.kids.length ck'] 25) = w4 := ⟨_, rfl⟩
        have hC4 : Chg (fun _ => False) wr w4 := by rw [← hw4]; exact (Chg.refl _ wr).alloc _
        have HBX4 : Hid (w4.heap[wr.heap.size]? = some (.cells #[.int .u8 yk, .int .i64 y'.n, .string y'.text, .slice an' y'.names.length cn', .slice ak' y'.kids.length ck'] 25)) := Lib.hid (by rw [← hw4]; exact blk_new wr _)
        have hbr : b < wr.heap.size := hB.out.lt
        have HB4 := Lib.hid (hB.out.later hC4)
        have HK4 := Lib.hid (hK.out.trans (Kp.of hC4 (Nat.le_of_lt hbr)))
        clear hy hy' hym hin hin0 hst hyk hadr d0 d1 d2 d3 d4 hC4 hK hB HIN0
        go_wp2_with fail
        refine (wbyte_calls b _ 32 w4 HB4.out (by omega)).mono ?_
        rintro e w5 ⟨rfl, hb5, hk5⟩
        have HB5 := Lib.hid hb5
        have HK5 := Lib.hid (HK4.out.trans hk5)
        have hbx5 := hk5.box HBX4.out (by omega) (by decide)
        have q0 := cell_of hbx5 0
        have q1 := cell_of hbx5 1
        have q2 := cell_of hbx5 2
        have q3 := cell_of hbx5 3
        have q4 := cell_of hbx5 4
        clear hb5 hk5 HBX4 HB4 HK4 hbx5 c0 c1 c2 c3 c4 hw4
        go_wp2_with fail
        refine (HS.out w5 HB5.out (HK5.out.chg HCW.out HB0.out)).mono ?_
        rintro e w6 ⟨rfl, hb6, hk6⟩
        have HB6 := Lib.hid hb6
        have HK6 := Lib.hid (HK5.out.trans hk6)
        clear hb6 hk6 HB5 HK5 HS q0 q1 q2 q3 q4
        go_wp2_with fail
        go_roundg gk'
        case measure => omega
        case rel => exact ⟨j + 1, by go_num, by omega, by omega, Lib.hid (by rw [HST.out]; simpa using HB6.out), HK6⟩
      · obtain rfl : j = m := by omega
        have hall : x.kids.take j = x.kids := List.take_of_length_le (by rw [HM.out]; exact Nat.le_refl _)
        rw [hall] at hB
        have hkk : ¬ (j : Int) < (j : Int) := by omega
        clear hall
        go_wp2_with fail
        refine (wbyte_calls b _ 41 wr hB.out (by simp only [List.length_append, List.length_cons]; omega)).mono ?_
        rintro e w5 ⟨rfl, hb5, hk5⟩
        have HB5 := Lib.hid hb5
        have HK5 := Lib.hid (hK.out.trans hk5)
        clear hb5 hk5
        go_wp2_with fail
        go_end0
        refine ⟨rfl, ?_, HK5.out⟩
        rw [← HPP.out]
        simpa using HB5.out
end Go.Proofs.YtaklmocjaokkpaaGreatDoor.Tr
