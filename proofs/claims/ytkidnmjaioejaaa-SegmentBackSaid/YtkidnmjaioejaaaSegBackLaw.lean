/- SegmentBack, walked: true, whatever the acts. Condition: the acts' cells are known, and their numbers fit. -/
import Derived.Test.YtkidnmjaioejaaaPlayTake
namespace Go.Proofs.Ytkidnmjaioejaaa.Sg
set_option linter.unusedVariables false
set_option linter.unusedSimpArgs false
open Go.RowKit Go.Proofs.Ytkidnmjaioejaaa.Mem

set_option maxRecDepth 100000 in
set_option maxHeartbeats 8000000 in
theorem back_calls (n : Int) (hn : n ≤ 9223372036854775807) (v : Value) (acts : List Act) (w : World) (hA : ActsAt w v acts) : Calls Try.prog 9 #[v, .int .i64 n] w fun e w' => e = .returned (.bool true) ∧ Below w.heap.size w w' := by
  obtain ⟨ad, cap, rfl, hok, hcells⟩ := hA
  obtain ⟨na, hna⟩ : ∃ na, acts.length = na := ⟨_, rfl⟩
  have HNA := Lib.hid hna
  rw [hna] at hcells ⊢
  by_cases hbig : 100 < na
  · have hb2 : (100 : Int) < (na : Int) := by omega
    clear hcells hok hna
    go_enter Try.func9, Try.ntmps9
    go_wp2_with fail
    refine (awake_calls _).mono ?_
    rintro e w7 ⟨rfl, hb7⟩
    have HB7 := Lib.hid hb7
    clear hb7
    go_wp2_with fail
    go_ret
    exact ⟨rfl, HB7.out.toBelow (by simp) (fun _ _ e => e.elim)⟩
  have hb2 : ¬ (100 : Int) < (na : Int) := by omega
  have HOK := Lib.hid hok
  have HCE := Lib.hid hcells
  clear hcells hok hna
  have HN := Lib.hid (new_abs w)
  go_enter Try.func9, Try.ntmps9
  go_wp2_with fail
  refine HN.out.mono ?_
  rintro e w1 ⟨rfl, hs1, hC1⟩
  have HL1 := Lib.hid (play_new hs1 hC1)
  have HC1 := Lib.hid hC1
  obtain ⟨P, hP⟩ : ∃ P, w1.heap.size = P := ⟨_, rfl⟩
  rw [hP] at HL1
  clear hs1 hC1
  go_wp2_with fail
  go_loopg [6] (na + 1) (fun g vi wr => ∃ (i : Nat), vi = .int .i64 i ∧ i ≤ na ∧ na < g + i ∧ Hid (Live w wr P w.heap.size i))
  case atStart => exact ⟨0, rfl, by omega, by omega, HL1.out⟩
  case round =>
    obtain ⟨i, rfl, hi, hg, hL⟩ := hrel
    by_cases hlt : i < na
    · obtain ⟨gk', rfl⟩ : ∃ m, gk = m + 1 := ⟨gk - 1, by omega⟩
      obtain ⟨b, off, rfl, hbl, hce⟩ := HCE.out i hlt
      have hcr : ∀ q, q < 2 → wr.cell? ⟨b, off + i * 2 + q, none⟩ = (acells (acts.getD i a0))[q]? := fun q hq => (by obtain ⟨_, _, _, _, _, _, _, _, _, _, hBl⟩ := hL.out; exact (hBl.cell (p := ⟨b, off + i * 2 + q, none⟩) hbl).trans (hce q hq))
      have z0 : wr.cell? ⟨b, off + i * 2, none⟩ = _ := hcr 0 (by omega)
      have z1 := hcr 1 (by omega)
      have hmem : acts.getD i a0 ∈ acts := (by have : i < acts.length := (by rw [HNA.out]; exact hlt); simp [this])
      have hokn := HOK.out _ hmem
      generalize acts.getD i a0 = y at *
      obtain ⟨yk, yn⟩ := y
      simp only [acells, List.getElem?_cons_zero, List.getElem?_cons_succ] at z0 z1
      have HD := Lib.hid (hL.out.does (by omega) yk yn hokn)
      simp only [actV] at HD
      have i0 : (0 : Int) ≤ (i : Int) := by omega
      have i1 : (i : Int) < (na : Int) := by omega
      clear hcr hce hmem hokn
      go_wp2_with fail
      refine HD.out.mono ?_
      rintro e w2 ⟨rfl, hL2⟩
      have HL2 := Lib.hid hL2
      clear hL2 z0 z1
      go_wp2_with fail
      go_roundg gk'
      case measure => omega
      case rel => exact ⟨i + 1, by go_num, by omega, by omega, HL2.out⟩
    · have i1 : ¬ (i : Int) < (na : Int) := by omega
      obtain ⟨c0, c1, HB⟩ := hL.out.back n hn (by omega)
      rcases HB with ⟨lv, hc1, HCUT, HMK, HLK, HTK⟩ | ⟨lv, at_, hc1, HCUT⟩
      · clear hL
        go_wp2_with fail
        refine HCUT.out.mono ?_
        rintro e w2 ⟨rfl, hq⟩
        obtain rfl : wr = w2 := hq.symm
        go_wp2_with fail
        refine HMK.out.mono ?_
        rintro e w2 ⟨rfl, hq⟩
        obtain rfl : wr = w2 := hq.symm
        go_wp2_with fail
        refine join_nilp.mono ?_
        rintro e w2 ⟨rfl, hq⟩
        obtain rfl : wr = w2 := hq.symm
        go_wp2_with fail
        refine HLK.out.mono ?_
        rintro e w2 ⟨rfl, md, hq⟩
        subst hq
        obtain ⟨mt, hmt, hTT⟩ := HTK.out
        have HTK2 : Hid (∃ m : Nat, m < 100001 ∧ Hid (Takes w (wr.drewN md) P w.heap.size m)) := ⟨mt, hmt, Lib.hid (hTT.kept ((Chg.refl _ _).drewN md))⟩
        clear HTK hTT hmt HCUT HMK HLK hc1 c0 c1
        have HTK := HTK2
        clear HTK2
        go_wp2_with fail
        go_loopg [] 100001 (fun g wr => ∃ m : Nat, m < g ∧ Hid (Takes w wr P w.heap.size m))
        case atStart => exact HTK.out
        case round =>
          obtain ⟨m, hm, hTk⟩ := hrel
          rcases hTk.out.parts with ⟨rfl, adl, capl, c1⟩ | ⟨k, b, gl, offl, capl, rfl, hk, c1, d0, HT⟩
          · go_wp2_with fail
            have HB5 := Lib.hid hTk.out.below
            clear c1 hTk
            refine (awake_calls _).mono ?_
            rintro e w7 ⟨rfl, hb7⟩
            have HB7 : Hid (Below w.heap.size w w7) := HB5.out.trans (hb7.toBelow HB5.out.size (fun _ _ e => e.elim))
            clear hb7
            go_wp2_with fail
            go_ret
            exact ⟨rfl, HB7.out⟩
          · obtain ⟨gk', rfl⟩ : ∃ m, gk = m + 1 := ⟨gk - 1, by omega⟩
            have k0 : (0 : Int) ≤ (k : Int) := by omega
            have k1 : (k : Int) < ((k + 1 : Nat) : Int) := by omega
            have k2 : (k : Int) < (k : Int) + 1 := by omega
            have kw : IntKind.i64.wrap (k : Int) = (k : Int) := IntWalk.i64_in (k : Int) (by omega)
            have kn : ((k : Int)).toNat = k := by omega
            go_wp2_with fail
            refine wp_region_T (S := fun W => W.cell? ⟨P, 1, none⟩ = some (.slice (some ⟨gl, offl, none⟩) (k + 1) capl) ∧ W.cell? ⟨gl, offl + k * 2, none⟩ = some (.bool b)) 14 2 rfl (by kernel_rfl) ?_ (fun hHeld => ?_)
            · exact ⟨by assumption, by assumption⟩
            refine wpAnyT_take (i := 0) (v := ?tv1) rfl (by kernel_rfl) (by decide) (by kernel_rfl) (by kernel_rfl) (fun _ _ _ h => h) (Or.inl ⟨by rfl, ?ty1⟩) (by assumption) ?tr1
            case ty1 => intro w hSw; (try dsimp only at hSw); go_simp; (try with_reducible rfl)
            try simp only [Act.put, List.setIfInBounds_toArray, List.set_cons_zero, List.set_cons_succ, List.getElem_toArray, List.getElem_cons_zero, List.getElem_cons_succ, Nat.zero_add]
            refine wpAnyT_take (i := 1) (v := ?tv2) rfl (by kernel_rfl) (by decide) (by kernel_rfl) (by kernel_rfl) (fun _ _ _ h => h) (Or.inl ⟨by rfl, ?ty2⟩) (by assumption) ?tr2
            case ty2 => intro w hSw; (try dsimp only at hSw); go_simp; (try with_reducible rfl)
            try simp only [Act.put, List.setIfInBounds_toArray, List.set_cons_zero, List.set_cons_succ, List.getElem_toArray, List.getElem_cons_zero, List.getElem_cons_succ, Nat.zero_add]
            refine wpAnyT_take (i := 2) (v := ?tv3) rfl (by kernel_rfl) (by decide) (by kernel_rfl) (by kernel_rfl) (fun _ _ _ h => h) (Or.inl ⟨by rfl, ?ty3⟩) (by assumption) ?tr3
            case ty3 => intro w hSw; (try dsimp only at hSw); go_simp; (try with_reducible rfl)
            try simp only [Act.put, List.setIfInBounds_toArray, List.set_cons_zero, List.set_cons_succ, List.getElem_toArray, List.getElem_cons_zero, List.getElem_cons_succ, Nat.zero_add]
            refine wpAnyT_take (i := 3) (v := ?tv4) rfl (by kernel_rfl) (by decide) (by kernel_rfl) (by kernel_rfl) (fun _ _ _ h => h) (Or.inl ⟨by rfl, ?ty4⟩) (by assumption) ?tr4
            case ty4 => intro w hSw; (try dsimp only at hSw); go_simp; (try with_reducible rfl)
            try simp only [Act.put, List.setIfInBounds_toArray, List.set_cons_zero, List.set_cons_succ, List.getElem_toArray, List.getElem_cons_zero, List.getElem_cons_succ, Nat.zero_add]
            refine wpAnyT_take (i := 4) (v := ?tv5) rfl (by kernel_rfl) (by decide) (by kernel_rfl) (by kernel_rfl) (fun _ _ _ h => h) (Or.inl ⟨by rfl, ?ty5⟩) (by assumption) ?tr5
            case ty5 => intro w hSw; (try dsimp only at hSw); go_simp; (try with_reducible rfl)
            try simp only [Act.put, List.setIfInBounds_toArray, List.set_cons_zero, List.set_cons_succ, List.getElem_toArray, List.getElem_cons_zero, List.getElem_cons_succ, Nat.zero_add]
            refine wpAnyT_take (i := 5) (v := ?tv6) rfl (by kernel_rfl) (by decide) (by kernel_rfl) (by kernel_rfl) (fun _ _ _ h => h) (Or.inl ⟨by rfl, ?ty6⟩) (by assumption) ?tr6
            case ty6 => intro w hSw; (try dsimp only at hSw); go_simp; (try with_reducible rfl)
            try simp only [Act.put, List.setIfInBounds_toArray, List.set_cons_zero, List.set_cons_succ, List.getElem_toArray, List.getElem_cons_zero, List.getElem_cons_succ, Nat.zero_add]
            refine wpAnyT_take (i := 6) (v := ?tv7) rfl (by kernel_rfl) (by decide) (by kernel_rfl) (by kernel_rfl) (fun _ _ _ h => h) (Or.inl ⟨by rfl, ?ty7⟩) (by assumption) ?tr7
            case ty7 => intro w hSw; (try dsimp only at hSw); go_simp; (try with_reducible rfl)
            try simp only [Act.put, List.setIfInBounds_toArray, List.set_cons_zero, List.set_cons_succ, List.getElem_toArray, List.getElem_cons_zero, List.getElem_cons_succ, Nat.zero_add]
            refine wpAnyT_take (i := 7) (v := ?tv8) rfl (by kernel_rfl) (by decide) (by kernel_rfl) (by kernel_rfl) (fun _ _ _ h => h) (Or.inl ⟨by rfl, ?ty8⟩) (by assumption) ?tr8
            case ty8 => intro w hSw; (try dsimp only at hSw); go_simp; (try with_reducible rfl)
            try simp only [Act.put, List.setIfInBounds_toArray, List.set_cons_zero, List.set_cons_succ, List.getElem_toArray, List.getElem_cons_zero, List.getElem_cons_succ, Nat.zero_add]
            refine wpAnyT_take (i := 8) (v := ?tv9) rfl (by kernel_rfl) (by decide) (by kernel_rfl) (by kernel_rfl) (fun _ _ _ h => h) (Or.inl ⟨by rfl, ?ty9⟩) (by assumption) ?tr9
            case ty9 => intro w hSw; (try dsimp only at hSw); go_simp; (try with_reducible rfl)
            try simp only [Act.put, List.setIfInBounds_toArray, List.set_cons_zero, List.set_cons_succ, List.getElem_toArray, List.getElem_cons_zero, List.getElem_cons_succ, Nat.zero_add]
            refine wpAnyT_take (i := 9) (v := ?tv10) rfl (by kernel_rfl) (by decide) (by kernel_rfl) (by kernel_rfl) (fun _ _ _ h => h) (Or.inl ⟨by rfl, ?ty10⟩) (by assumption) ?tr10
            case ty10 => intro w hSw; (try dsimp only at hSw); go_simp; (try with_reducible rfl)
            try simp only [Act.put, List.setIfInBounds_toArray, List.set_cons_zero, List.set_cons_succ, List.getElem_toArray, List.getElem_cons_zero, List.getElem_cons_succ, Nat.zero_add]
            refine wpAnyT_take (i := 10) (v := ?tv11) rfl (by kernel_rfl) (by decide) (by kernel_rfl) (by kernel_rfl) (fun _ _ _ h => h) (Or.inl ⟨by rfl, ?ty11⟩) (by assumption) ?tr11
            case ty11 => intro w hSw; (try dsimp only at hSw); go_simp; (try with_reducible rfl)
            try simp only [Act.put, List.setIfInBounds_toArray, List.set_cons_zero, List.set_cons_succ, List.getElem_toArray, List.getElem_cons_zero, List.getElem_cons_succ, Nat.zero_add]
            refine wpAnyT_take (i := 11) (v := ?tv12) rfl (by kernel_rfl) (by decide) (by kernel_rfl) (by kernel_rfl) (fun _ _ _ h => h) (Or.inl ⟨by rfl, ?ty12⟩) (by assumption) ?tr12
            case ty12 => intro w hSw; (try dsimp only at hSw); go_simp; (try with_reducible rfl)
            try simp only [Act.put, List.setIfInBounds_toArray, List.set_cons_zero, List.set_cons_succ, List.getElem_toArray, List.getElem_cons_zero, List.getElem_cons_succ, Nat.zero_add]
            refine wpAnyT_take (i := 12) (v := ?tv13) rfl (by kernel_rfl) (by decide) (by kernel_rfl) (by kernel_rfl) (fun _ _ _ h => h) (Or.inl ⟨by rfl, ?ty13⟩) (by assumption) ?tr13
            case ty13 => intro w hSw; (try dsimp only at hSw); go_simp; (try with_reducible rfl)
            try simp only [Act.put, List.setIfInBounds_toArray, List.set_cons_zero, List.set_cons_succ, List.getElem_toArray, List.getElem_cons_zero, List.getElem_cons_succ, Nat.zero_add]
            refine wpAnyT_take (i := 13) (v := ?tv14) rfl (by kernel_rfl) (by decide) (by kernel_rfl) (by kernel_rfl) (fun _ _ _ h => h) (Or.inl ⟨by rfl, ?ty14⟩) (by assumption) ?tr14
            case ty14 => intro w hSw; (try dsimp only at hSw); go_simp; (try with_reducible rfl)
            try simp only [Act.put, List.setIfInBounds_toArray, List.set_cons_zero, List.set_cons_succ, List.getElem_toArray, List.getElem_cons_zero, List.getElem_cons_succ, Nat.zero_add]
            refine wpAnyT_done (by kernel_rfl) ?_
            simp only [List.drop_succ_cons, List.drop_zero]
            go_wp2_with fail
            refine (HT.out _ ((Chg.refl _ _).drew)).mono ?_
            rintro e w3 ⟨rfl, hT3⟩
            have HT3 := Lib.hid hT3
            clear hT3 c1 d0
            go_wp2_with fail
            go_roundg gk'
            case measure => omega
            case rel => exact ⟨k, by omega, HT3.out⟩
      · clear hL
        go_wp2_with fail
        refine HCUT.out.mono ?_
        rintro e w2 ⟨p, rfl, hc2, hP2, HMK, HJN⟩
        go_wp2_with fail
        refine HMK.out.mono ?_
        rintro e w3 ⟨rfl, hq⟩
        obtain rfl : w2 = w3 := hq.symm
        go_wp2_with fail
        refine HJN.out.mono ?_
        rintro e w3 ⟨rfl, hx3⟩
        obtain ⟨HLK, HTK⟩ := hx3
        go_wp2_with fail
        refine HLK.out.mono ?_
        rintro e w4 ⟨rfl, md, hq⟩
        subst hq
        obtain ⟨mt, hmt, hTT⟩ := HTK.out
        have HTK2 : Hid (∃ m : Nat, m < 100001 ∧ Hid (Takes w (w3.drewN md) P w.heap.size m)) := ⟨mt, hmt, Lib.hid (hTT.kept ((Chg.refl _ _).drewN md))⟩
        clear HTK hTT hmt hc2 hP2 HMK HJN HLK HCUT hc1 c0 c1
        have HTK := HTK2
        clear HTK2
        go_wp2_with fail
        go_loopg [] 100001 (fun g wr => ∃ m : Nat, m < g ∧ Hid (Takes w wr P w.heap.size m))
        case atStart => exact HTK.out
        case round =>
          obtain ⟨m, hm, hTk⟩ := hrel
          rcases hTk.out.parts with ⟨rfl, adl, capl, c1⟩ | ⟨k, b, gl, offl, capl, rfl, hk, c1, d0, HT⟩
          · go_wp2_with fail
            have HB5 := Lib.hid hTk.out.below
            clear c1 hTk
            refine (awake_calls _).mono ?_
            rintro e w7 ⟨rfl, hb7⟩
            have HB7 : Hid (Below w.heap.size w w7) := HB5.out.trans (hb7.toBelow HB5.out.size (fun _ _ e => e.elim))
            clear hb7
            go_wp2_with fail
            go_ret
            exact ⟨rfl, HB7.out⟩
          · obtain ⟨gk', rfl⟩ : ∃ m, gk = m + 1 := ⟨gk - 1, by omega⟩
            have k0 : (0 : Int) ≤ (k : Int) := by omega
            have k1 : (k : Int) < ((k + 1 : Nat) : Int) := by omega
            have k2 : (k : Int) < (k : Int) + 1 := by omega
            have kw : IntKind.i64.wrap (k : Int) = (k : Int) := IntWalk.i64_in (k : Int) (by omega)
            have kn : ((k : Int)).toNat = k := by omega
            go_wp2_with fail
            refine wp_region_T (S := fun W => W.cell? ⟨P, 1, none⟩ = some (.slice (some ⟨gl, offl, none⟩) (k + 1) capl) ∧ W.cell? ⟨gl, offl + k * 2, none⟩ = some (.bool b)) 14 2 rfl (by kernel_rfl) ?_ (fun hHeld => ?_)
            · exact ⟨by assumption, by assumption⟩
            refine wpAnyT_take (i := 0) (v := ?tv15) rfl (by kernel_rfl) (by decide) (by kernel_rfl) (by kernel_rfl) (fun _ _ _ h => h) (Or.inl ⟨by rfl, ?ty15⟩) (by assumption) ?tr15
            case ty15 => intro w hSw; (try dsimp only at hSw); go_simp; (try with_reducible rfl)
            try simp only [Act.put, List.setIfInBounds_toArray, List.set_cons_zero, List.set_cons_succ, List.getElem_toArray, List.getElem_cons_zero, List.getElem_cons_succ, Nat.zero_add]
            refine wpAnyT_take (i := 1) (v := ?tv16) rfl (by kernel_rfl) (by decide) (by kernel_rfl) (by kernel_rfl) (fun _ _ _ h => h) (Or.inl ⟨by rfl, ?ty16⟩) (by assumption) ?tr16
            case ty16 => intro w hSw; (try dsimp only at hSw); go_simp; (try with_reducible rfl)
            try simp only [Act.put, List.setIfInBounds_toArray, List.set_cons_zero, List.set_cons_succ, List.getElem_toArray, List.getElem_cons_zero, List.getElem_cons_succ, Nat.zero_add]
            refine wpAnyT_take (i := 2) (v := ?tv17) rfl (by kernel_rfl) (by decide) (by kernel_rfl) (by kernel_rfl) (fun _ _ _ h => h) (Or.inl ⟨by rfl, ?ty17⟩) (by assumption) ?tr17
            case ty17 => intro w hSw; (try dsimp only at hSw); go_simp; (try with_reducible rfl)
            try simp only [Act.put, List.setIfInBounds_toArray, List.set_cons_zero, List.set_cons_succ, List.getElem_toArray, List.getElem_cons_zero, List.getElem_cons_succ, Nat.zero_add]
            refine wpAnyT_take (i := 3) (v := ?tv18) rfl (by kernel_rfl) (by decide) (by kernel_rfl) (by kernel_rfl) (fun _ _ _ h => h) (Or.inl ⟨by rfl, ?ty18⟩) (by assumption) ?tr18
            case ty18 => intro w hSw; (try dsimp only at hSw); go_simp; (try with_reducible rfl)
            try simp only [Act.put, List.setIfInBounds_toArray, List.set_cons_zero, List.set_cons_succ, List.getElem_toArray, List.getElem_cons_zero, List.getElem_cons_succ, Nat.zero_add]
            refine wpAnyT_take (i := 4) (v := ?tv19) rfl (by kernel_rfl) (by decide) (by kernel_rfl) (by kernel_rfl) (fun _ _ _ h => h) (Or.inl ⟨by rfl, ?ty19⟩) (by assumption) ?tr19
            case ty19 => intro w hSw; (try dsimp only at hSw); go_simp; (try with_reducible rfl)
            try simp only [Act.put, List.setIfInBounds_toArray, List.set_cons_zero, List.set_cons_succ, List.getElem_toArray, List.getElem_cons_zero, List.getElem_cons_succ, Nat.zero_add]
            refine wpAnyT_take (i := 5) (v := ?tv20) rfl (by kernel_rfl) (by decide) (by kernel_rfl) (by kernel_rfl) (fun _ _ _ h => h) (Or.inl ⟨by rfl, ?ty20⟩) (by assumption) ?tr20
            case ty20 => intro w hSw; (try dsimp only at hSw); go_simp; (try with_reducible rfl)
            try simp only [Act.put, List.setIfInBounds_toArray, List.set_cons_zero, List.set_cons_succ, List.getElem_toArray, List.getElem_cons_zero, List.getElem_cons_succ, Nat.zero_add]
            refine wpAnyT_take (i := 6) (v := ?tv21) rfl (by kernel_rfl) (by decide) (by kernel_rfl) (by kernel_rfl) (fun _ _ _ h => h) (Or.inl ⟨by rfl, ?ty21⟩) (by assumption) ?tr21
            case ty21 => intro w hSw; (try dsimp only at hSw); go_simp; (try with_reducible rfl)
            try simp only [Act.put, List.setIfInBounds_toArray, List.set_cons_zero, List.set_cons_succ, List.getElem_toArray, List.getElem_cons_zero, List.getElem_cons_succ, Nat.zero_add]
            refine wpAnyT_take (i := 7) (v := ?tv22) rfl (by kernel_rfl) (by decide) (by kernel_rfl) (by kernel_rfl) (fun _ _ _ h => h) (Or.inl ⟨by rfl, ?ty22⟩) (by assumption) ?tr22
            case ty22 => intro w hSw; (try dsimp only at hSw); go_simp; (try with_reducible rfl)
            try simp only [Act.put, List.setIfInBounds_toArray, List.set_cons_zero, List.set_cons_succ, List.getElem_toArray, List.getElem_cons_zero, List.getElem_cons_succ, Nat.zero_add]
            refine wpAnyT_take (i := 8) (v := ?tv23) rfl (by kernel_rfl) (by decide) (by kernel_rfl) (by kernel_rfl) (fun _ _ _ h => h) (Or.inl ⟨by rfl, ?ty23⟩) (by assumption) ?tr23
            case ty23 => intro w hSw; (try dsimp only at hSw); go_simp; (try with_reducible rfl)
            try simp only [Act.put, List.setIfInBounds_toArray, List.set_cons_zero, List.set_cons_succ, List.getElem_toArray, List.getElem_cons_zero, List.getElem_cons_succ, Nat.zero_add]
            refine wpAnyT_take (i := 9) (v := ?tv24) rfl (by kernel_rfl) (by decide) (by kernel_rfl) (by kernel_rfl) (fun _ _ _ h => h) (Or.inl ⟨by rfl, ?ty24⟩) (by assumption) ?tr24
            case ty24 => intro w hSw; (try dsimp only at hSw); go_simp; (try with_reducible rfl)
            try simp only [Act.put, List.setIfInBounds_toArray, List.set_cons_zero, List.set_cons_succ, List.getElem_toArray, List.getElem_cons_zero, List.getElem_cons_succ, Nat.zero_add]
            refine wpAnyT_take (i := 10) (v := ?tv25) rfl (by kernel_rfl) (by decide) (by kernel_rfl) (by kernel_rfl) (fun _ _ _ h => h) (Or.inl ⟨by rfl, ?ty25⟩) (by assumption) ?tr25
            case ty25 => intro w hSw; (try dsimp only at hSw); go_simp; (try with_reducible rfl)
            try simp only [Act.put, List.setIfInBounds_toArray, List.set_cons_zero, List.set_cons_succ, List.getElem_toArray, List.getElem_cons_zero, List.getElem_cons_succ, Nat.zero_add]
            refine wpAnyT_take (i := 11) (v := ?tv26) rfl (by kernel_rfl) (by decide) (by kernel_rfl) (by kernel_rfl) (fun _ _ _ h => h) (Or.inl ⟨by rfl, ?ty26⟩) (by assumption) ?tr26
            case ty26 => intro w hSw; (try dsimp only at hSw); go_simp; (try with_reducible rfl)
            try simp only [Act.put, List.setIfInBounds_toArray, List.set_cons_zero, List.set_cons_succ, List.getElem_toArray, List.getElem_cons_zero, List.getElem_cons_succ, Nat.zero_add]
            refine wpAnyT_take (i := 12) (v := ?tv27) rfl (by kernel_rfl) (by decide) (by kernel_rfl) (by kernel_rfl) (fun _ _ _ h => h) (Or.inl ⟨by rfl, ?ty27⟩) (by assumption) ?tr27
            case ty27 => intro w hSw; (try dsimp only at hSw); go_simp; (try with_reducible rfl)
            try simp only [Act.put, List.setIfInBounds_toArray, List.set_cons_zero, List.set_cons_succ, List.getElem_toArray, List.getElem_cons_zero, List.getElem_cons_succ, Nat.zero_add]
            refine wpAnyT_take (i := 13) (v := ?tv28) rfl (by kernel_rfl) (by decide) (by kernel_rfl) (by kernel_rfl) (fun _ _ _ h => h) (Or.inl ⟨by rfl, ?ty28⟩) (by assumption) ?tr28
            case ty28 => intro w hSw; (try dsimp only at hSw); go_simp; (try with_reducible rfl)
            try simp only [Act.put, List.setIfInBounds_toArray, List.set_cons_zero, List.set_cons_succ, List.getElem_toArray, List.getElem_cons_zero, List.getElem_cons_succ, Nat.zero_add]
            refine wpAnyT_done (by kernel_rfl) ?_
            simp only [List.drop_succ_cons, List.drop_zero]
            go_wp2_with fail
            refine (HT.out _ ((Chg.refl _ _).drew)).mono ?_
            rintro e w3 ⟨rfl, hT3⟩
            have HT3 := Lib.hid hT3
            clear hT3 c1 d0
            go_wp2_with fail
            go_roundg gk'
            case measure => omega
            case rel => exact ⟨k, by omega, HT3.out⟩
end Go.Proofs.Ytkidnmjaioejaaa.Sg
