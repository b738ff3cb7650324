/- SegmentPlays, walked: true, whatever the acts. Condition: the acts' cells are known, and their numbers fit. -/
import Derived.Test.YtkidnmjaioejaaaPlayTake
namespace Go.Proofs.Ytkidnmjaioejaaa.Sg
set_option linter.unusedVariables false
set_option linter.unusedSimpArgs false
open Go.RowKit Go.Proofs.Ytkidnmjaioejaaa.Mem

set_option maxRecDepth 100000 in
set_option maxHeartbeats 8000000 in
theorem plays_calls (v : Value) (acts : List Act) (w : World) (hA : ActsAt w v acts) : Calls Try.prog 8 #[v] w fun e w' => e = .returned (.bool true) ∧ Below w.heap.size w w' := by
  obtain ⟨ad, cap, rfl, hok, hcells⟩ := hA
  obtain ⟨na, hna⟩ : ∃ na, acts.length = na := ⟨_, rfl⟩
  have HNA := Lib.hid hna
  rw [hna] at hcells ⊢
  by_cases hbig : 100 < na
  · have hb2 : (100 : Int) < (na : Int) := by omega
    clear hcells hok hna
    go_enter Try.func8, Try.ntmps8
    go_wp2_with fail
    refine (awake_calls _).mono ?_
    rintro e w7 ⟨rfl, hb7⟩
    have HB7 := Lib.hid hb7
    clear hb7
    go_wp2_with fail
    go_ret
    exact ⟨rfl, HB7.out.toBelow (by simp) (fun _ _ e => e.elim)⟩
  have hb2 : ¬ (100 : Int) < (na : Int) := by omega
  have HOK := Lib.hid hok
  have HCE := Lib.hid hcells
  clear hcells hok hna
  have HN := Lib.hid (new_abs w)
  go_enter Try.func8, Try.ntmps8
  go_wp2_with fail
  refine HN.out.mono ?_
  rintro e w1 ⟨rfl, hs1, hC1⟩
  have HL1 := Lib.hid (play_new hs1 hC1)
  have HC1 := Lib.hid hC1
  obtain ⟨P, hP⟩ : ∃ P, w1.heap.size = P := ⟨_, rfl⟩
  rw [hP] at HL1
  clear hs1 hC1
  go_wp2_with fail
  go_loopg [4] (na + 1) (fun g vi wr => ∃ (i : Nat), vi = .int .i64 i ∧ i ≤ na ∧ na < g + i ∧ Hid (Live w wr P w.heap.size i))
  case atStart => exact ⟨0, rfl, by omega, by omega, HL1.out⟩
  case round =>
    obtain ⟨i, rfl, hi, hg, hL⟩ := hrel
    by_cases hlt : i < na
    · obtain ⟨gk', rfl⟩ : ∃ m, gk = m + 1 := ⟨gk - 1, by omega⟩
      obtain ⟨b, off, rfl, hbl, hce⟩ := HCE.out i hlt
      have hcr : ∀ q, q < 2 → wr.cell? ⟨b, off + i * 2 + q, none⟩ = (acells (acts.getD i a0))[q]? := fun q hq => (by obtain ⟨_, _, _, _, _, _, _, _, _, _, hBl⟩ := hL.out; exact (hBl.cell (p := ⟨b, off + i * 2 + q, none⟩) hbl).trans (hce q hq))
      have z0 : wr.cell? ⟨b, off + i * 2, none⟩ = _ := hcr 0 (by omega)
      have z1 := hcr 1 (by omega)
      have hmem : acts.getD i a0 ∈ acts := (by have : i < acts.length := (by rw [HNA.out]; exact hlt); simp [this])
      have hokn := HOK.out _ hmem
      generalize acts.getD i a0 = y at *
      obtain ⟨yk, yn⟩ := y
      simp only [acells, List.getElem?_cons_zero, List.getElem?_cons_succ] at z0 z1
      have HD := Lib.hid (hL.out.does (by omega) yk yn hokn)
      simp only [actV] at HD
      have i0 : (0 : Int) ≤ (i : Int) := by omega
      have i1 : (i : Int) < (na : Int) := by omega
      clear hcr hmem
      go_wp2_with fail
      refine HD.out.mono ?_
      rintro e w2 ⟨rfl, hL2⟩
      have HL2 := Lib.hid hL2
      have y1 : w2.cell? ⟨b, off + i * 2 + 1, none⟩ = some (.int .i64 yn) := ((hL2.below.cell (p := ⟨b, off + i * 2 + 1, none⟩) hbl).trans (hL.out.below.cell (p := ⟨b, off + i * 2 + 1, none⟩) hbl).symm).trans z1
      have HK := Lib.hid (hL2.looks (by omega) yn hokn)
      clear hL2 z0 z1 HD hokn hce
      go_wp2_with fail
      refine HK.out.mono ?_
      rintro e w3 ⟨rfl, md, hq⟩
      have HL3 := Lib.hid (HL2.out.kept (w' := w3) (by rw [hq]; exact (Chg.refl _ _).drewN md))
      obtain ⟨np, adp, capp, adc, capc, hnp, p2, p3, hpi⟩ := HL3.out.pieces (by omega)
      have HPI := Lib.hid hpi
      have HP2 := Lib.hid p2
      have HP3 := Lib.hid p3
      clear hq y1 HK HL2 hL hpi p2 p3
      go_wp2_with fail
      go_loopg [5] (np + 1) (fun g vq wq => ∃ (q : Nat), vq = .int .i64 q ∧ q ≤ np ∧ np < g + q ∧ Hid (Chg (fun _ => False) w3 wq))
      case atStart => exact ⟨0, rfl, by omega, by omega, Lib.hid (Chg.refl _ _)⟩
      case round =>
        obtain ⟨q, rfl, hq, hgq, hCq⟩ := hrel
        have t0 := hCq.out.cell HP2.out (fun h => h)
        have t1 := hCq.out.cell HP3.out (fun h => h)
        by_cases hlq : q < np
        · obtain ⟨gq', rfl⟩ : ∃ m, gk = m + 1 := ⟨gk - 1, by omega⟩
          obtain ⟨gp, offp, gc, offc, pp, vc, rfl, rfl, hpw⟩ := HPI.out q hlq
          obtain ⟨t2, t3, _, _⟩ := hpw _ hCq.out
          have HSM := (hpw _ (hCq.out.drew)).2.2.2
          have q0 : (0 : Int) ≤ (q : Int) := by omega
          have q1 : (q : Int) < (np : Int) := by omega
          clear hpw
          go_wp2_with fail
          refine wp_region_T (S := fun W => W.cell? ⟨P, 2, none⟩ = some (.slice (some ⟨gp, offp, none⟩) np capp) ∧ W.cell? ⟨P, 3, none⟩ = some (.slice (some ⟨gc, offc, none⟩) np capc) ∧ W.cell? ⟨gp, offp + q, none⟩ = some (.pointer (some ⟨pp, 0, none⟩)) ∧ W.cell? ⟨gc, offc + q, none⟩ = some vc) 14 2 rfl (by kernel_rfl) ?_ (fun hHeld => ?_)
          · exact ⟨by assumption, by assumption, by assumption, by assumption⟩
          refine wpAnyT_take (i := 0) (v := ?tv29) rfl (by kernel_rfl) (by decide) (by kernel_rfl) (by kernel_rfl) (fun _ _ _ h => h) (Or.inl ⟨by rfl, ?ty29⟩) (by assumption) ?tr29
          case ty29 => intro w hSw; (try dsimp only at hSw); go_simp; (try with_reducible rfl)
          try simp only [Act.put, List.setIfInBounds_toArray, List.set_cons_zero, List.set_cons_succ, List.getElem_toArray, List.getElem_cons_zero, List.getElem_cons_succ, Nat.zero_add]
          refine wpAnyT_take (i := 1) (v := ?tv30) rfl (by kernel_rfl) (by decide) (by kernel_rfl) (by kernel_rfl) (fun _ _ _ h => h) (Or.inl ⟨by rfl, ?ty30⟩) (by assumption) ?tr30
          case ty30 => intro w hSw; (try dsimp only at hSw); go_simp; (try with_reducible rfl)
          try simp only [Act.put, List.setIfInBounds_toArray, List.set_cons_zero, List.set_cons_succ, List.getElem_toArray, List.getElem_cons_zero, List.getElem_cons_succ, Nat.zero_add]
          refine wpAnyT_take (i := 2) (v := ?tv31) rfl (by kernel_rfl) (by decide) (by kernel_rfl) (by kernel_rfl) (fun _ _ _ h => h) (Or.inl ⟨by rfl, ?ty31⟩) (by assumption) ?tr31
          case ty31 => intro w hSw; (try dsimp only at hSw); go_simp; (try with_reducible rfl)
          try simp only [Act.put, List.setIfInBounds_toArray, List.set_cons_zero, List.set_cons_succ, List.getElem_toArray, List.getElem_cons_zero, List.getElem_cons_succ, Nat.zero_add]
          refine wpAnyT_take (i := 3) (v := ?tv32) rfl (by kernel_rfl) (by decide) (by kernel_rfl) (by kernel_rfl) (fun _ _ _ h => h) (Or.inl ⟨by rfl, ?ty32⟩) (by assumption) ?tr32
          case ty32 => intro w hSw; (try dsimp only at hSw); go_simp; (try with_reducible rfl)
          try simp only [Act.put, List.setIfInBounds_toArray, List.set_cons_zero, List.set_cons_succ, List.getElem_toArray, List.getElem_cons_zero, List.getElem_cons_succ, Nat.zero_add]
          refine wpAnyT_take (i := 4) (v := ?tv33) rfl (by kernel_rfl) (by decide) (by kernel_rfl) (by kernel_rfl) (fun _ _ _ h => h) (Or.inl ⟨by rfl, ?ty33⟩) (by assumption) ?tr33
          case ty33 => intro w hSw; (try dsimp only at hSw); go_simp; (try with_reducible rfl)
          try simp only [Act.put, List.setIfInBounds_toArray, List.set_cons_zero, List.set_cons_succ, List.getElem_toArray, List.getElem_cons_zero, List.getElem_cons_succ, Nat.zero_add]
          refine wpAnyT_take (i := 5) (v := ?tv34) rfl (by kernel_rfl) (by decide) (by kernel_rfl) (by kernel_rfl) (fun _ _ _ h => h) (Or.inl ⟨by rfl, ?ty34⟩) (by assumption) ?tr34
          case ty34 => intro w hSw; (try dsimp only at hSw); go_simp; (try with_reducible rfl)
          try simp only [Act.put, List.setIfInBounds_toArray, List.set_cons_zero, List.set_cons_succ, List.getElem_toArray, List.getElem_cons_zero, List.getElem_cons_succ, Nat.zero_add]
          refine wpAnyT_take (i := 6) (v := ?tv35) rfl (by kernel_rfl) (by decide) (by kernel_rfl) (by kernel_rfl) (fun _ _ _ h => h) (Or.inl ⟨by rfl, ?ty35⟩) (by assumption) ?tr35
          case ty35 => intro w hSw; (try dsimp only at hSw); go_simp; (try with_reducible rfl)
          try simp only [Act.put, List.setIfInBounds_toArray, List.set_cons_zero, List.set_cons_succ, List.getElem_toArray, List.getElem_cons_zero, List.getElem_cons_succ, Nat.zero_add]
          refine wpAnyT_take (i := 7) (v := ?tv36) rfl (by kernel_rfl) (by decide) (by kernel_rfl) (by kernel_rfl) (fun _ _ _ h => h) (Or.inl ⟨by rfl, ?ty36⟩) (by assumption) ?tr36
          case ty36 => intro w hSw; (try dsimp only at hSw); go_simp; (try with_reducible rfl)
          try simp only [Act.put, List.setIfInBounds_toArray, List.set_cons_zero, List.set_cons_succ, List.getElem_toArray, List.getElem_cons_zero, List.getElem_cons_succ, Nat.zero_add]
          refine wpAnyT_take (i := 8) (v := ?tv37) rfl (by kernel_rfl) (by decide) (by kernel_rfl) (by kernel_rfl) (fun _ _ _ h => h) (Or.inl ⟨by rfl, ?ty37⟩) (by assumption) ?tr37
          case ty37 => intro w hSw; (try dsimp only at hSw); go_simp; (try with_reducible rfl)
          try simp only [Act.put, List.setIfInBounds_toArray, List.set_cons_zero, List.set_cons_succ, List.getElem_toArray, List.getElem_cons_zero, List.getElem_cons_succ, Nat.zero_add]
          refine wpAnyT_take (i := 9) (v := ?tv38) rfl (by kernel_rfl) (by decide) (by kernel_rfl) (by kernel_rfl) (fun _ _ _ h => h) (Or.inl ⟨by rfl, ?ty38⟩) (by assumption) ?tr38
          case ty38 => intro w hSw; (try dsimp only at hSw); go_simp; (try with_reducible rfl)
          try simp only [Act.put, List.setIfInBounds_toArray, List.set_cons_zero, List.set_cons_succ, List.getElem_toArray, List.getElem_cons_zero, List.getElem_cons_succ, Nat.zero_add]
          refine wpAnyT_take (i := 10) (v := ?tv39) rfl (by kernel_rfl) (by decide) (by kernel_rfl) (by kernel_rfl) (fun _ _ _ h => h) (Or.inl ⟨by rfl, ?ty39⟩) (by assumption) ?tr39
          case ty39 => intro w hSw; (try dsimp only at hSw); go_simp; (try with_reducible rfl)
          try simp only [Act.put, List.setIfInBounds_toArray, List.set_cons_zero, List.set_cons_succ, List.getElem_toArray, List.getElem_cons_zero, List.getElem_cons_succ, Nat.zero_add]
          refine wpAnyT_take (i := 11) (v := ?tv40) rfl (by kernel_rfl) (by decide) (by kernel_rfl) (by kernel_rfl) (fun _ _ _ h => h) (Or.inl ⟨by rfl, ?ty40⟩) (by assumption) ?tr40
          case ty40 => intro w hSw; (try dsimp only at hSw); go_simp; (try with_reducible rfl)
          try simp only [Act.put, List.setIfInBounds_toArray, List.set_cons_zero, List.set_cons_succ, List.getElem_toArray, List.getElem_cons_zero, List.getElem_cons_succ, Nat.zero_add]
          refine wpAnyT_take (i := 12) (v := ?tv41) rfl (by kernel_rfl) (by decide) (by kernel_rfl) (by kernel_rfl) (fun _ _ _ h => h) (Or.inl ⟨by rfl, ?ty41⟩) (by assumption) ?tr41
          case ty41 => intro w hSw; (try dsimp only at hSw); go_simp; (try with_reducible rfl)
          try simp only [Act.put, List.setIfInBounds_toArray, List.set_cons_zero, List.set_cons_succ, List.getElem_toArray, List.getElem_cons_zero, List.getElem_cons_succ, Nat.zero_add]
          refine wpAnyT_take (i := 13) (v := ?tv42) rfl (by kernel_rfl) (by decide) (by kernel_rfl) (by kernel_rfl) (fun _ _ _ h => h) (Or.inl ⟨by rfl, ?ty42⟩) (by assumption) ?tr42
          case ty42 => intro w hSw; (try dsimp only at hSw); go_simp; (try with_reducible rfl)
          try simp only [Act.put, List.setIfInBounds_toArray, List.set_cons_zero, List.set_cons_succ, List.getElem_toArray, List.getElem_cons_zero, List.getElem_cons_succ, Nat.zero_add]
          refine wpAnyT_done (by kernel_rfl) ?_
          simp only [List.drop_succ_cons, List.drop_zero]
          go_wp2_with fail
          refine HSM.out.mono ?_
          rintro e w5 ⟨rfl, hc5⟩
          have HC5 := Lib.hid (hCq.out.trans ((Chg.refl _ _).drew.trans hc5))
          clear hc5 t0 t1 t2 t3 HSM
          go_wp2_with fail
          go_roundg gq'
          case measure => omega
          case rel => exact ⟨q + 1, by go_num, by omega, by omega, HC5.out⟩
        · have q1 : ¬ (q : Int) < (np : Int) := by omega
          have HL5 := Lib.hid (HL3.out.kept hCq.out)
          clear t1
          go_wp2_with fail
          go_roundg gk'
          case measure => omega
          case rel => exact ⟨i + 1, by go_num, by omega, by omega, HL5.out⟩
    · have i1 : ¬ (i : Int) < (na : Int) := by omega
      obtain ⟨mt, hmt, hTT⟩ := hL.out.takes (by omega)
      have HTK : Hid (∃ m : Nat, m < 100001 ∧ Hid (Takes w wr P w.heap.size m)) := ⟨mt, hmt, Lib.hid hTT⟩
      clear hTT hmt hL
      go_wp2_with fail
      go_loopg [] 100001 (fun g wr => ∃ m : Nat, m < g ∧ Hid (Takes w wr P w.heap.size m))
      case atStart => exact HTK.out
      case round =>
        obtain ⟨m, hm, hTk⟩ := hrel
        rcases hTk.out.parts with ⟨rfl, adl, capl, c1⟩ | ⟨k, b, gl, offl, capl, rfl, hk, c1, d0, HT⟩
        · have HLK := Lib.hid (hTk.out.looks 0 (by omega))
          go_wp2_with fail
          refine HLK.out.mono ?_
          rintro e w4 ⟨rfl, md, hq⟩
          have HB5 : Hid (Below w.heap.size w w4) := (by rw [hq]; exact (hTk.out.kept ((Chg.refl _ _).drewN md)).below)
          clear c1 hTk HLK hq
          go_wp2_with fail
          refine (awake_calls _).mono ?_
          rintro e w7 ⟨rfl, hb7⟩
          have HB7 : Hid (Below w.heap.size w w7) := HB5.out.trans (hb7.toBelow HB5.out.size (fun _ _ e => e.elim))
          clear hb7
          go_wp2_with fail
          go_ret
          exact ⟨rfl, HB7.out⟩
        · obtain ⟨gk', rfl⟩ : ∃ m, gk = m + 1 := ⟨gk - 1, by omega⟩
          have k0 : (0 : Int) ≤ (k : Int) := by omega
          have k1 : (k : Int) < ((k + 1 : Nat) : Int) := by omega
          have k2 : (k : Int) < (k : Int) + 1 := by omega
          have kw : IntKind.i64.wrap (k : Int) = (k : Int) := IntWalk.i64_in (k : Int) (by omega)
          have kn : ((k : Int)).toNat = k := by omega
          go_wp2_with fail
          refine wp_region_T (S := fun W => W.cell? ⟨P, 1, none⟩ = some (.slice (some ⟨gl, offl, none⟩) (k + 1) capl) ∧ W.cell? ⟨gl, offl + k * 2, none⟩ = some (.bool b)) 14 2 rfl (by kernel_rfl) ?_ (fun hHeld => ?_)
          · exact ⟨by assumption, by assumption⟩
          refine wpAnyT_take (i := 0) (v := ?tv43) rfl (by kernel_rfl) (by decide) (by kernel_rfl) (by kernel_rfl) (fun _ _ _ h => h) (Or.inl ⟨by rfl, ?ty43⟩) (by assumption) ?tr43
          case ty43 => intro w hSw; (try dsimp only at hSw); go_simp; (try with_reducible rfl)
          try simp only [Act.put, List.setIfInBounds_toArray, List.set_cons_zero, List.set_cons_succ, List.getElem_toArray, List.getElem_cons_zero, List.getElem_cons_succ, Nat.zero_add]
          refine wpAnyT_take (i := 1) (v := ?tv44) rfl (by kernel_rfl) (by decide) (by kernel_rfl) (by kernel_rfl) (fun _ _ _ h => h) (Or.inl ⟨by rfl, ?ty44⟩) (by assumption) ?tr44
          case ty44 => intro w hSw; (try dsimp only at hSw); go_simp; (try with_reducible rfl)
          try simp only [Act.put, List.setIfInBounds_toArray, List.set_cons_zero, List.set_cons_succ, List.getElem_toArray, List.getElem_cons_zero, List.getElem_cons_succ, Nat.zero_add]
          refine wpAnyT_take (i := 2) (v := ?tv45) rfl (by kernel_rfl) (by decide) (by kernel_rfl) (by kernel_rfl) (fun _ _ _ h => h) (Or.inl ⟨by rfl, ?ty45⟩) (by assumption) ?tr45
          case ty45 => intro w hSw; (try dsimp only at hSw); go_simp; (try with_reducible rfl)
          try simp only [Act.put, List.setIfInBounds_toArray, List.set_cons_zero, List.set_cons_succ, List.getElem_toArray, List.getElem_cons_zero, List.getElem_cons_succ, Nat.zero_add]
          refine wpAnyT_take (i := 3) (v := ?tv46) rfl (by kernel_rfl) (by decide) (by kernel_rfl) (by kernel_rfl) (fun _ _ _ h => h) (Or.inl ⟨by rfl, ?ty46⟩) (by assumption) ?tr46
          case ty46 => intro w hSw; (try dsimp only at hSw); go_simp; (try with_reducible rfl)
          try simp only [Act.put, List.setIfInBounds_toArray, List.set_cons_zero, List.set_cons_succ, List.getElem_toArray, List.getElem_cons_zero, List.getElem_cons_succ, Nat.zero_add]
          refine wpAnyT_take (i := 4) (v := ?tv47) rfl (by kernel_rfl) (by decide) (by kernel_rfl) (by kernel_rfl) (fun _ _ _ h => h) (Or.inl ⟨by rfl, ?ty47⟩) (by assumption) ?tr47
          case ty47 => intro w hSw; (try dsimp only at hSw); go_simp; (try with_reducible rfl)
          try simp only [Act.put, List.setIfInBounds_toArray, List.set_cons_zero, List.set_cons_succ, List.getElem_toArray, List.getElem_cons_zero, List.getElem_cons_succ, Nat.zero_add]
          refine wpAnyT_take (i := 5) (v := ?tv48) rfl (by kernel_rfl) (by decide) (by kernel_rfl) (by kernel_rfl) (fun _ _ _ h => h) (Or.inl ⟨by rfl, ?ty48⟩) (by assumption) ?tr48
          case ty48 => intro w hSw; (try dsimp only at hSw); go_simp; (try with_reducible rfl)
          try simp only [Act.put, List.setIfInBounds_toArray, List.set_cons_zero, List.set_cons_succ, List.getElem_toArray, List.getElem_cons_zero, List.getElem_cons_succ, Nat.zero_add]
          refine wpAnyT_take (i := 6) (v := ?tv49) rfl (by kernel_rfl) (by decide) (by kernel_rfl) (by kernel_rfl) (fun _ _ _ h => h) (Or.inl ⟨by rfl, ?ty49⟩) (by assumption) ?tr49
          case ty49 => intro w hSw; (try dsimp only at hSw); go_simp; (try with_reducible rfl)
          try simp only [Act.put, List.setIfInBounds_toArray, List.set_cons_zero, List.set_cons_succ, List.getElem_toArray, List.getElem_cons_zero, List.getElem_cons_succ, Nat.zero_add]
          refine wpAnyT_take (i := 7) (v := ?tv50) rfl (by kernel_rfl) (by decide) (by kernel_rfl) (by kernel_rfl) (fun _ _ _ h => h) (Or.inl ⟨by rfl, ?ty50⟩) (by assumption) ?tr50
          case ty50 => intro w hSw; (try dsimp only at hSw); go_simp; (try with_reducible rfl)
          try simp only [Act.put, List.setIfInBounds_toArray, List.set_cons_zero, List.set_cons_succ, List.getElem_toArray, List.getElem_cons_zero, List.getElem_cons_succ, Nat.zero_add]
          refine wpAnyT_take (i := 8) (v := ?tv51) rfl (by kernel_rfl) (by decide) (by kernel_rfl) (by kernel_rfl) (fun _ _ _ h => h) (Or.inl ⟨by rfl, ?ty51⟩) (by assumption) ?tr51
          case ty51 => intro w hSw; (try dsimp only at hSw); go_simp; (try with_reducible rfl)
          try simp only [Act.put, List.setIfInBounds_toArray, List.set_cons_zero, List.set_cons_succ, List.getElem_toArray, List.getElem_cons_zero, List.getElem_cons_succ, Nat.zero_add]
          refine wpAnyT_take (i := 9) (v := ?tv52) rfl (by kernel_rfl) (by decide) (by kernel_rfl) (by kernel_rfl) (fun _ _ _ h => h) (Or.inl ⟨by rfl, ?ty52⟩) (by assumption) ?tr52
          case ty52 => intro w hSw; (try dsimp only at hSw); go_simp; (try with_reducible rfl)
          try simp only [Act.put, List.setIfInBounds_toArray, List.set_cons_zero, List.set_cons_succ, List.getElem_toArray, List.getElem_cons_zero, List.getElem_cons_succ, Nat.zero_add]
          refine wpAnyT_take (i := 10) (v := ?tv53) rfl (by kernel_rfl) (by decide) (by kernel_rfl) (by kernel_rfl) (fun _ _ _ h => h) (Or.inl ⟨by rfl, ?ty53⟩) (by assumption) ?tr53
          case ty53 => intro w hSw; (try dsimp only at hSw); go_simp; (try with_reducible rfl)
          try simp only [Act.put, List.setIfInBounds_toArray, List.set_cons_zero, List.set_cons_succ, List.getElem_toArray, List.getElem_cons_zero, List.getElem_cons_succ, Nat.zero_add]
          refine wpAnyT_take (i := 11) (v := ?tv54) rfl (by kernel_rfl) (by decide) (by kernel_rfl) (by kernel_rfl) (fun _ _ _ h => h) (Or.inl ⟨by rfl, ?ty54⟩) (by assumption) ?tr54
          case ty54 => intro w hSw; (try dsimp only at hSw); go_simp; (try with_reducible rfl)
          try simp only [Act.put, List.setIfInBounds_toArray, List.set_cons_zero, List.set_cons_succ, List.getElem_toArray, List.getElem_cons_zero, List.getElem_cons_succ, Nat.zero_add]
          refine wpAnyT_take (i := 12) (v := ?tv55) rfl (by kernel_rfl) (by decide) (by kernel_rfl) (by kernel_rfl) (fun _ _ _ h => h) (Or.inl ⟨by rfl, ?ty55⟩) (by assumption) ?tr55
          case ty55 => intro w hSw; (try dsimp only at hSw); go_simp; (try with_reducible rfl)
          try simp only [Act.put, List.setIfInBounds_toArray, List.set_cons_zero, List.set_cons_succ, List.getElem_toArray, List.getElem_cons_zero, List.getElem_cons_succ, Nat.zero_add]
          refine wpAnyT_take (i := 13) (v := ?tv56) rfl (by kernel_rfl) (by decide) (by kernel_rfl) (by kernel_rfl) (fun _ _ _ h => h) (Or.inl ⟨by rfl, ?ty56⟩) (by assumption) ?tr56
          case ty56 => intro w hSw; (try dsimp only at hSw); go_simp; (try with_reducible rfl)
          try simp only [Act.put, List.setIfInBounds_toArray, List.set_cons_zero, List.set_cons_succ, List.getElem_toArray, List.getElem_cons_zero, List.getElem_cons_succ, Nat.zero_add]
          refine wpAnyT_done (by kernel_rfl) ?_
          simp only [List.drop_succ_cons, List.drop_zero]
          go_wp2_with fail
          refine (HT.out _ ((Chg.refl _ _).drew)).mono ?_
          rintro e w3 ⟨rfl, hT3⟩
          have HT3 := Lib.hid hT3
          clear hT3 c1 d0
          go_wp2_with fail
          go_roundg gk'
          case measure => omega
          case rel => exact ⟨k, by omega, HT3.out⟩
end Go.Proofs.Ytkidnmjaioejaaa.Sg
