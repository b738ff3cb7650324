/- SegmentOwn, walked: true, whatever the acts. Condition: the acts' cells are known, and their numbers fit. -/
import Derived.Test.YtkidnmjaioejaaaPlayTake
namespace Go.Proofs.Ytkidnmjaioejaaa.Sg
set_option linter.unusedVariables false
set_option linter.unusedSimpArgs false
open Go.RowKit Go.Proofs.Ytkidnmjaioejaaa.Mem

set_option maxRecDepth 100000 in
set_option maxHeartbeats 8000000 in
theorem own_calls (n : Int) (v : Value) (acts : List Act) (w : World) (hA : ActsAt w v acts) : Calls Try.prog 11 #[v, .int .i64 n] w fun e w' => e = .returned (.bool true) ∧ Below w.heap.size w w' := by
  obtain ⟨ad, cap, rfl, hok, hcells⟩ := hA
  obtain ⟨na, hna⟩ : ∃ na, acts.length = na := ⟨_, rfl⟩
  have HNA := Lib.hid hna
  rw [hna] at hcells ⊢
  by_cases hbig : 100 < na
  · have hb2 : (100 : Int) < (na : Int) := by omega
    clear hcells hok hna
    go_enter Try.func11, Try.ntmps11
    go_wp2_with fail
    refine (awake_calls _).mono ?_
    rintro e w7 ⟨rfl, hb7⟩
    have HB7 := Lib.hid hb7
    clear hb7
    go_wp2_with fail
    go_ret
    exact ⟨rfl, HB7.out.toBelow (by simp) (fun _ _ e => e.elim)⟩
  have hb2 : ¬ (100 : Int) < (na : Int) := by omega
  have HOK := Lib.hid hok
  have HCE := Lib.hid hcells
  clear hcells hok hna
  have HN := Lib.hid (new_abs w)
  go_enter Try.func11, Try.ntmps11
  go_wp2_with fail
  refine HN.out.mono ?_
  rintro e w1 ⟨rfl, hs1, hC1⟩
  have HL1 := Lib.hid (play_new hs1 hC1)
  have HC1 := Lib.hid hC1
  obtain ⟨P, hP⟩ : ∃ P, w1.heap.size = P := ⟨_, rfl⟩
  rw [hP] at HL1
  clear hs1 hC1
  go_wp2_with fail
  go_loopg [6] (na + 1) (fun g vi wr => ∃ (i : Nat), vi = .int .i64 i ∧ i ≤ na ∧ na < g + i ∧ Hid (Live w wr P w.heap.size i))
  case atStart => exact ⟨0, rfl, by omega, by omega, HL1.out⟩
  case round =>
    obtain ⟨i, rfl, hi, hg, hL⟩ := hrel
    by_cases hlt : i < na
    · obtain ⟨gk', rfl⟩ : ∃ m, gk = m + 1 := ⟨gk - 1, by omega⟩
      obtain ⟨b, off, rfl, hbl, hce⟩ := HCE.out i hlt
      have hcr : ∀ q, q < 2 → wr.cell? ⟨b, off + i * 2 + q, none⟩ = (acells (acts.getD i a0))[q]? := fun q hq => (by obtain ⟨_, _, _, _, _, _, _, _, _, _, hBl⟩ := hL.out; exact (hBl.cell (p := ⟨b, off + i * 2 + q, none⟩) hbl).trans (hce q hq))
      have z0 : wr.cell? ⟨b, off + i * 2, none⟩ = _ := hcr 0 (by omega)
      have z1 := hcr 1 (by omega)
      have hmem : acts.getD i a0 ∈ acts := (by have : i < acts.length := (by rw [HNA.out]; exact hlt); simp [this])
      have hokn := HOK.out _ hmem
      generalize acts.getD i a0 = y at *
      obtain ⟨yk, yn⟩ := y
      simp only [acells, List.getElem?_cons_zero, List.getElem?_cons_succ] at z0 z1
      have HD := Lib.hid (hL.out.does (by omega) yk yn hokn)
      simp only [actV] at HD
      have i0 : (0 : Int) ≤ (i : Int) := by omega
      have i1 : (i : Int) < (na : Int) := by omega
      clear hcr hce hmem hokn
      go_wp2_with fail
      refine HD.out.mono ?_
      rintro e w2 ⟨rfl, hL2⟩
      have HL2 := Lib.hid hL2
      clear hL2 z0 z1
      go_wp2_with fail
      go_roundg gk'
      case measure => omega
      case rel => exact ⟨i + 1, by go_num, by omega, by omega, HL2.out⟩
    · have i1 : ¬ (i : Int) < (na : Int) := by omega
      obtain ⟨np, adp, capp, adc, capc, hnp, p2, p3, hpi⟩ := hL.out.pieces (by omega)
      have HPI := Lib.hid hpi
      have HP2 := Lib.hid p2
      have HP3 := Lib.hid p3
      clear hpi p2 p3
      go_wp2_with fail
      go_loopg [7] (np + 1) (fun g vq wq => ∃ (q : Nat), vq = .int .i64 q ∧ q ≤ np ∧ np < g + q ∧ Hid (Chg (fun _ => False) wr wq))
      case atStart => exact ⟨0, rfl, by omega, by omega, Lib.hid (Chg.refl _ _)⟩
      case round =>
        obtain ⟨q, rfl, hq, hgq, hCq⟩ := hrel
        have t0 := hCq.out.cell HP2.out (fun h => h)
        have t1 := hCq.out.cell HP3.out (fun h => h)
        by_cases hlq : q < np
        · obtain ⟨gq', rfl⟩ : ∃ m, gk = m + 1 := ⟨gk - 1, by omega⟩
          obtain ⟨gp, offp, gc, offc, pp, vc, rfl, rfl, hpw⟩ := HPI.out q hlq
          obtain ⟨t2, t3, HIT, _⟩ := hpw _ hCq.out
          have HPW := Lib.hid hpw
          have q0 : (0 : Int) ≤ (q : Int) := by omega
          have q1 : (q : Int) < (np : Int) := by omega
          clear hpw
          go_wp2_with fail
          refine HIT.out.mono ?_
          rintro e w2 ⟨ni, adi, capi, rfl, hni, hc2, hin⟩
          have HC2 := Lib.hid hc2
          have HIN := Lib.hid hin
          clear hc2 hin t0 t1 t2 t3 HIT
          by_cases hn0 : ni = 0
          · subst hn0
            go_wp2_with fail
            go_loopg [9] 1 (fun g vk wk => vk = .int .i64 0 ∧ Hid (Chg (fun _ => False) wr wk))
            case atStart => exact ⟨rfl, HC2.out⟩
            case round =>
              obtain ⟨rfl, hCx⟩ := hrel
              have hCx := hCx.out
              go_wp2_with fail
              have hCq5 := Lib.hid (hCq.out.trans hCx)
              have t0 := hCq5.out.cell HP2.out (fun h => h)
              have t1 := hCq5.out.cell HP3.out (fun h => h)
              obtain ⟨t2, t3, _, _⟩ := HPW.out _ hCq5.out
              have HSM := (HPW.out _ (hCq5.out.drew)).2.2.2
              go_wp2_with fail
              refine wp_region_T (S := fun W => W.cell? ⟨P, 2, none⟩ = some (.slice (some ⟨gp, offp, none⟩) np capp) ∧ W.cell? ⟨P, 3, none⟩ = some (.slice (some ⟨gc, offc, none⟩) np capc) ∧ W.cell? ⟨gp, offp + q, none⟩ = some (.pointer (some ⟨pp, 0, none⟩)) ∧ W.cell? ⟨gc, offc + q, none⟩ = some vc) 14 2 rfl (by kernel_rfl) ?_ (fun hHeld => ?_)
              · exact ⟨by assumption, by assumption, by assumption, by assumption⟩
              refine wpAnyT_take (i := 0) (v := ?tv57) rfl (by kernel_rfl) (by decide) (by kernel_rfl) (by kernel_rfl) (fun _ _ _ h => h) (Or.inl ⟨by rfl, ?ty57⟩) (by assumption) ?tr57
              case ty57 => intro w hSw; (try dsimp only at hSw); go_simp; (try with_reducible rfl)
              try simp only [Act.put, List.setIfInBounds_toArray, List.set_cons_zero, List.set_cons_succ, List.getElem_toArray, List.getElem_cons_zero, List.getElem_cons_succ, Nat.zero_add]
              refine wpAnyT_take (i := 1) (v := ?tv58) rfl (by kernel_rfl) (by decide) (by kernel_rfl) (by kernel_rfl) (fun _ _ _ h => h) (Or.inl ⟨by rfl, ?ty58⟩) (by assumption) ?tr58
              case ty58 => intro w hSw; (try dsimp only at hSw); go_simp; (try with_reducible rfl)
              try simp only [Act.put, List.setIfInBounds_toArray, List.set_cons_zero, List.set_cons_succ, List.getElem_toArray, List.getElem_cons_zero, List.getElem_cons_succ, Nat.zero_add]
              refine wpAnyT_take (i := 2) (v := ?tv59) rfl (by kernel_rfl) (by decide) (by kernel_rfl) (by kernel_rfl) (fun _ _ _ h => h) (Or.inl ⟨by rfl, ?ty59⟩) (by assumption) ?tr59
              case ty59 => intro w hSw; (try dsimp only at hSw); go_simp; (try with_reducible rfl)
              try simp only [Act.put, List.setIfInBounds_toArray, List.set_cons_zero, List.set_cons_succ, List.getElem_toArray, List.getElem_cons_zero, List.getElem_cons_succ, Nat.zero_add]
              refine wpAnyT_take (i := 3) (v := ?tv60) rfl (by kernel_rfl) (by decide) (by kernel_rfl) (by kernel_rfl) (fun _ _ _ h => h) (Or.inl ⟨by rfl, ?ty60⟩) (by assumption) ?tr60
              case ty60 => intro w hSw; (try dsimp only at hSw); go_simp; (try with_reducible rfl)
              try simp only [Act.put, List.setIfInBounds_toArray, List.set_cons_zero, List.set_cons_succ, List.getElem_toArray, List.getElem_cons_zero, List.getElem_cons_succ, Nat.zero_add]
              refine wpAnyT_take (i := 4) (v := ?tv61) rfl (by kernel_rfl) (by decide) (by kernel_rfl) (by kernel_rfl) (fun _ _ _ h => h) (Or.inl ⟨by rfl, ?ty61⟩) (by assumption) ?tr61
              case ty61 => intro w hSw; (try dsimp only at hSw); go_simp; (try with_reducible rfl)
              try simp only [Act.put, List.setIfInBounds_toArray, List.set_cons_zero, List.set_cons_succ, List.getElem_toArray, List.getElem_cons_zero, List.getElem_cons_succ, Nat.zero_add]
              refine wpAnyT_take (i := 5) (v := ?tv62) rfl (by kernel_rfl) (by decide) (by kernel_rfl) (by kernel_rfl) (fun _ _ _ h => h) (Or.inl ⟨by rfl, ?ty62⟩) (by assumption) ?tr62
              case ty62 => intro w hSw; (try dsimp only at hSw); go_simp; (try with_reducible rfl)
              try simp only [Act.put, List.setIfInBounds_toArray, List.set_cons_zero, List.set_cons_succ, List.getElem_toArray, List.getElem_cons_zero, List.getElem_cons_succ, Nat.zero_add]
              refine wpAnyT_take (i := 6) (v := ?tv63) rfl (by kernel_rfl) (by decide) (by kernel_rfl) (by kernel_rfl) (fun _ _ _ h => h) (Or.inl ⟨by rfl, ?ty63⟩) (by assumption) ?tr63
              case ty63 => intro w hSw; (try dsimp only at hSw); go_simp; (try with_reducible rfl)
              try simp only [Act.put, List.setIfInBounds_toArray, List.set_cons_zero, List.set_cons_succ, List.getElem_toArray, List.getElem_cons_zero, List.getElem_cons_succ, Nat.zero_add]
              refine wpAnyT_take (i := 7) (v := ?tv64) rfl (by kernel_rfl) (by decide) (by kernel_rfl) (by kernel_rfl) (fun _ _ _ h => h) (Or.inl ⟨by rfl, ?ty64⟩) (by assumption) ?tr64
              case ty64 => intro w hSw; (try dsimp only at hSw); go_simp; (try with_reducible rfl)
              try simp only [Act.put, List.setIfInBounds_toArray, List.set_cons_zero, List.set_cons_succ, List.getElem_toArray, List.getElem_cons_zero, List.getElem_cons_succ, Nat.zero_add]
              refine wpAnyT_take (i := 8) (v := ?tv65) rfl (by kernel_rfl) (by decide) (by kernel_rfl) (by kernel_rfl) (fun _ _ _ h => h) (Or.inl ⟨by rfl, ?ty65⟩) (by assumption) ?tr65
              case ty65 => intro w hSw; (try dsimp only at hSw); go_simp; (try with_reducible rfl)
              try simp only [Act.put, List.setIfInBounds_toArray, List.set_cons_zero, List.set_cons_succ, List.getElem_toArray, List.getElem_cons_zero, List.getElem_cons_succ, Nat.zero_add]
              refine wpAnyT_take (i := 9) (v := ?tv66) rfl (by kernel_rfl) (by decide) (by kernel_rfl) (by kernel_rfl) (fun _ _ _ h => h) (Or.inl ⟨by rfl, ?ty66⟩) (by assumption) ?tr66
              case ty66 => intro w hSw; (try dsimp only at hSw); go_simp; (try with_reducible rfl)
              try simp only [Act.put, List.setIfInBounds_toArray, List.set_cons_zero, List.set_cons_succ, List.getElem_toArray, List.getElem_cons_zero, List.getElem_cons_succ, Nat.zero_add]
              refine wpAnyT_take (i := 10) (v := ?tv67) rfl (by kernel_rfl) (by decide) (by kernel_rfl) (by kernel_rfl) (fun _ _ _ h => h) (Or.inl ⟨by rfl, ?ty67⟩) (by assumption) ?tr67
              case ty67 => intro w hSw; (try dsimp only at hSw); go_simp; (try with_reducible rfl)
              try simp only [Act.put, List.setIfInBounds_toArray, List.set_cons_zero, List.set_cons_succ, List.getElem_toArray, List.getElem_cons_zero, List.getElem_cons_succ, Nat.zero_add]
              refine wpAnyT_take (i := 11) (v := ?tv68) rfl (by kernel_rfl) (by decide) (by kernel_rfl) (by kernel_rfl) (fun _ _ _ h => h) (Or.inl ⟨by rfl, ?ty68⟩) (by assumption) ?tr68
              case ty68 => intro w hSw; (try dsimp only at hSw); go_simp; (try with_reducible rfl)
              try simp only [Act.put, List.setIfInBounds_toArray, List.set_cons_zero, List.set_cons_succ, List.getElem_toArray, List.getElem_cons_zero, List.getElem_cons_succ, Nat.zero_add]
              refine wpAnyT_take (i := 12) (v := ?tv69) rfl (by kernel_rfl) (by decide) (by kernel_rfl) (by kernel_rfl) (fun _ _ _ h => h) (Or.inl ⟨by rfl, ?ty69⟩) (by assumption) ?tr69
              case ty69 => intro w hSw; (try dsimp only at hSw); go_simp; (try with_reducible rfl)
              try simp only [Act.put, List.setIfInBounds_toArray, List.set_cons_zero, List.set_cons_succ, List.getElem_toArray, List.getElem_cons_zero, List.getElem_cons_succ, Nat.zero_add]
              refine wpAnyT_take (i := 13) (v := ?tv70) rfl (by kernel_rfl) (by decide) (by kernel_rfl) (by kernel_rfl) (fun _ _ _ h => h) (Or.inl ⟨by rfl, ?ty70⟩) (by assumption) ?tr70
              case ty70 => intro w hSw; (try dsimp only at hSw); go_simp; (try with_reducible rfl)
              try simp only [Act.put, List.setIfInBounds_toArray, List.set_cons_zero, List.set_cons_succ, List.getElem_toArray, List.getElem_cons_zero, List.getElem_cons_succ, Nat.zero_add]
              refine wpAnyT_done (by kernel_rfl) ?_
              simp only [List.drop_succ_cons, List.drop_zero]
              go_wp2_with fail
              refine HSM.out.mono ?_
              rintro e w5 ⟨rfl, hc5⟩
              have HC5 := Lib.hid (hCq5.out.trans ((Chg.refl _ _).drew.trans hc5))
              clear hc5 t0 t1 t2 t3 HSM
              go_wp2_with fail
              go_roundg gq'
              case measure => omega
              case rel => exact ⟨q + 1, by go_num, by omega, by omega, HC5.out⟩
          · obtain ⟨gi, offi, cur, rfl, hgi, hcur, hsz, hb⟩ := HIN.out (by omega)
            have HCUR := Lib.hid hcur
            have HBB := Lib.hid hb
            have hgl : gi < w2.heap.size := lt_of_block hcur
            have HNO : Hid (¬ gi < wr.heap.size) := Nat.not_lt.2 hgi
            clear hcur hb
            go_wp2_with fail
            go_loopg [9] (ni + 1) (fun g vk wk => ∃ (k : Nat) (cur : Array Value), vk = .int .i64 k ∧ k ≤ ni ∧ ni < g + k ∧ offi + ni * 3 ≤ cur.size ∧ Hid (wk.heap[gi]? = some (.cells cur 83 (0, 0))) ∧ Hid (∀ j, k ≤ j → j < ni → ∃ b, cur[offi + j * 3]? = some (.bool b)) ∧ Hid (Chg (fun _ => False) wr wk))
            case atStart => exact ⟨0, cur, rfl, by omega, by omega, hsz, HCUR.out, fun j _ hj => HBB.out j hj, HC2.out⟩
            case round =>
              obtain ⟨k, cur, rfl, hk, hgk, hsz, hcur, hb, hCx⟩ := hrel
              by_cases hlk : k < ni
              · obtain ⟨gw, rfl⟩ : ∃ m, gk = m + 1 := ⟨gk - 1, by omega⟩
                obtain ⟨bb, hbb⟩ := hb.out k (Nat.le_refl _) hlk
                have k0 : (0 : Int) ≤ (k : Int) := by omega
                have k1 : (k : Int) < (ni : Int) := by omega
                have x0 := (cell_of hcur.out (offi + k * 3)).trans hbb
                obtain ⟨y1, hy1⟩ : ∃ y1, cur[offi + k * 3 + 1]? = some y1 := ⟨_, Array.getElem?_eq_getElem (by omega)⟩
                obtain ⟨y2, hy2⟩ : ∃ y2, cur[offi + k * 3 + 2]? = some y2 := ⟨_, Array.getElem?_eq_getElem (by omega)⟩
                have x1 := (cell_of hcur.out (offi + k * 3 + 1)).trans hy1
                have x2 := (cell_of hcur.out (offi + k * 3 + 2)).trans hy2
                have f0 := free_of hcur.out (offi + k * 3)
                have f1 := free_of hcur.out (offi + k * 3 + 1)
                have f2 := free_of hcur.out (offi + k * 3 + 2)
                clear hbb hy1 hy2
                go_wp2_with fail
                go_roundg gw
                case measure => omega
                case rel =>
                  refine ⟨k + 1, ((cur.setIfInBounds (offi + k * 3) (.bool !bb)).setIfInBounds (offi + k * 3 + 1) (.int .i64 n)).setIfInBounds (offi + k * 3 + 2) (.int .i64 n), by go_num, by omega, by omega, by simpa using hsz, Lib.hid (blk_set (blk_set (blk_set hcur.out (offi + k * 3) (.bool !bb)) (offi + k * 3 + 1) (.int .i64 n)) (offi + k * 3 + 2) (.int .i64 n)), fun j hj hjn => ?_, ?_⟩
                  · obtain ⟨b', hb'⟩ := hb.out j (by omega) hjn
                    refine ⟨b', ?_⟩
                    rw [Array.getElem?_setIfInBounds_ne (by omega), Array.getElem?_setIfInBounds_ne (by omega), Array.getElem?_setIfInBounds_ne (by omega)]
                    exact hb'
                  · have hno := HNO.out
                    exact Lib.hid (((hCx.out.set (p := ⟨gi, offi + k * 3, none⟩) (fun h => absurd h hno) _).set (p := ⟨gi, offi + k * 3 + 1, none⟩) (fun h => absurd h hno) _).set (p := ⟨gi, offi + k * 3 + 2, none⟩) (fun h => absurd h hno) _)
              · obtain rfl : k = ni := by omega
                have k1 : ¬ (k : Int) < (k : Int) := by omega
                have hCx := hCx.out
                clear hcur hb
                go_wp2_with fail
                have hCq5 := Lib.hid (hCq.out.trans hCx)
                have t0 := hCq5.out.cell HP2.out (fun h => h)
                have t1 := hCq5.out.cell HP3.out (fun h => h)
                obtain ⟨t2, t3, _, _⟩ := HPW.out _ hCq5.out
                have HSM := (HPW.out _ (hCq5.out.drew)).2.2.2
                go_wp2_with fail
                refine wp_region_T (S := fun W => W.cell? ⟨P, 2, none⟩ = some (.slice (some ⟨gp, offp, none⟩) np capp) ∧ W.cell? ⟨P, 3, none⟩ = some (.slice (some ⟨gc, offc, none⟩) np capc) ∧ W.cell? ⟨gp, offp + q, none⟩ = some (.pointer (some ⟨pp, 0, none⟩)) ∧ W.cell? ⟨gc, offc + q, none⟩ = some vc) 14 2 rfl (by kernel_rfl) ?_ (fun hHeld => ?_)
                · exact ⟨by assumption, by assumption, by assumption, by assumption⟩
                refine wpAnyT_take (i := 0) (v := ?tv71) rfl (by kernel_rfl) (by decide) (by kernel_rfl) (by kernel_rfl) (fun _ _ _ h => h) (Or.inl ⟨by rfl, ?ty71⟩) (by assumption) ?tr71
                case ty71 => intro w hSw; (try dsimp only at hSw); go_simp; (try with_reducible rfl)
                try simp only [Act.put, List.setIfInBounds_toArray, List.set_cons_zero, List.set_cons_succ, List.getElem_toArray, List.getElem_cons_zero, List.getElem_cons_succ, Nat.zero_add]
                refine wpAnyT_take (i := 1) (v := ?tv72) rfl (by kernel_rfl) (by decide) (by kernel_rfl) (by kernel_rfl) (fun _ _ _ h => h) (Or.inl ⟨by rfl, ?ty72⟩) (by assumption) ?tr72
                case ty72 => intro w hSw; (try dsimp only at hSw); go_simp; (try with_reducible rfl)
                try simp only [Act.put, List.setIfInBounds_toArray, List.set_cons_zero, List.set_cons_succ, List.getElem_toArray, List.getElem_cons_zero, List.getElem_cons_succ, Nat.zero_add]
                refine wpAnyT_take (i := 2) (v := ?tv73) rfl (by kernel_rfl) (by decide) (by kernel_rfl) (by kernel_rfl) (fun _ _ _ h => h) (Or.inl ⟨by rfl, ?ty73⟩) (by assumption) ?tr73
                case ty73 => intro w hSw; (try dsimp only at hSw); go_simp; (try with_reducible rfl)
                try simp only [Act.put, List.setIfInBounds_toArray, List.set_cons_zero, List.set_cons_succ, List.getElem_toArray, List.getElem_cons_zero, List.getElem_cons_succ, Nat.zero_add]
                refine wpAnyT_take (i := 3) (v := ?tv74) rfl (by kernel_rfl) (by decide) (by kernel_rfl) (by kernel_rfl) (fun _ _ _ h => h) (Or.inl ⟨by rfl, ?ty74⟩) (by assumption) ?tr74
                case ty74 => intro w hSw; (try dsimp only at hSw); go_simp; (try with_reducible rfl)
                try simp only [Act.put, List.setIfInBounds_toArray, List.set_cons_zero, List.set_cons_succ, List.getElem_toArray, List.getElem_cons_zero, List.getElem_cons_succ, Nat.zero_add]
                refine wpAnyT_take (i := 4) (v := ?tv75) rfl (by kernel_rfl) (by decide) (by kernel_rfl) (by kernel_rfl) (fun _ _ _ h => h) (Or.inl ⟨by rfl, ?ty75⟩) (by assumption) ?tr75
                case ty75 => intro w hSw; (try dsimp only at hSw); go_simp; (try with_reducible rfl)
                try simp only [Act.put, List.setIfInBounds_toArray, List.set_cons_zero, List.set_cons_succ, List.getElem_toArray, List.getElem_cons_zero, List.getElem_cons_succ, Nat.zero_add]
                refine wpAnyT_take (i := 5) (v := ?tv76) rfl (by kernel_rfl) (by decide) (by kernel_rfl) (by kernel_rfl) (fun _ _ _ h => h) (Or.inl ⟨by rfl, ?ty76⟩) (by assumption) ?tr76
                case ty76 => intro w hSw; (try dsimp only at hSw); go_simp; (try with_reducible rfl)
                try simp only [Act.put, List.setIfInBounds_toArray, List.set_cons_zero, List.set_cons_succ, List.getElem_toArray, List.getElem_cons_zero, List.getElem_cons_succ, Nat.zero_add]
                refine wpAnyT_take (i := 6) (v := ?tv77) rfl (by kernel_rfl) (by decide) (by kernel_rfl) (by kernel_rfl) (fun _ _ _ h => h) (Or.inl ⟨by rfl, ?ty77⟩) (by assumption) ?tr77
                case ty77 => intro w hSw; (try dsimp only at hSw); go_simp; (try with_reducible rfl)
                try simp only [Act.put, List.setIfInBounds_toArray, List.set_cons_zero, List.set_cons_succ, List.getElem_toArray, List.getElem_cons_zero, List.getElem_cons_succ, Nat.zero_add]
                refine wpAnyT_take (i := 7) (v := ?tv78) rfl (by kernel_rfl) (by decide) (by kernel_rfl) (by kernel_rfl) (fun _ _ _ h => h) (Or.inl ⟨by rfl, ?ty78⟩) (by assumption) ?tr78
                case ty78 => intro w hSw; (try dsimp only at hSw); go_simp; (try with_reducible rfl)
                try simp only [Act.put, List.setIfInBounds_toArray, List.set_cons_zero, List.set_cons_succ, List.getElem_toArray, List.getElem_cons_zero, List.getElem_cons_succ, Nat.zero_add]
                refine wpAnyT_take (i := 8) (v := ?tv79) rfl (by kernel_rfl) (by decide) (by kernel_rfl) (by kernel_rfl) (fun _ _ _ h => h) (Or.inl ⟨by rfl, ?ty79⟩) (by assumption) ?tr79
                case ty79 => intro w hSw; (try dsimp only at hSw); go_simp; (try with_reducible rfl)
                try simp only [Act.put, List.setIfInBounds_toArray, List.set_cons_zero, List.set_cons_succ, List.getElem_toArray, List.getElem_cons_zero, List.getElem_cons_succ, Nat.zero_add]
                refine wpAnyT_take (i := 9) (v := ?tv80) rfl (by kernel_rfl) (by decide) (by kernel_rfl) (by kernel_rfl) (fun _ _ _ h => h) (Or.inl ⟨by rfl, ?ty80⟩) (by assumption) ?tr80
                case ty80 => intro w hSw; (try dsimp only at hSw); go_simp; (try with_reducible rfl)
                try simp only [Act.put, List.setIfInBounds_toArray, List.set_cons_zero, List.set_cons_succ, List.getElem_toArray, List.getElem_cons_zero, List.getElem_cons_succ, Nat.zero_add]
                refine wpAnyT_take (i := 10) (v := ?tv81) rfl (by kernel_rfl) (by decide) (by kernel_rfl) (by kernel_rfl) (fun _ _ _ h => h) (Or.inl ⟨by rfl, ?ty81⟩) (by assumption) ?tr81
                case ty81 => intro w hSw; (try dsimp only at hSw); go_simp; (try with_reducible rfl)
                try simp only [Act.put, List.setIfInBounds_toArray, List.set_cons_zero, List.set_cons_succ, List.getElem_toArray, List.getElem_cons_zero, List.getElem_cons_succ, Nat.zero_add]
                refine wpAnyT_take (i := 11) (v := ?tv82) rfl (by kernel_rfl) (by decide) (by kernel_rfl) (by kernel_rfl) (fun _ _ _ h => h) (Or.inl ⟨by rfl, ?ty82⟩) (by assumption) ?tr82
                case ty82 => intro w hSw; (try dsimp only at hSw); go_simp; (try with_reducible rfl)
                try simp only [Act.put, List.setIfInBounds_toArray, List.set_cons_zero, List.set_cons_succ, List.getElem_toArray, List.getElem_cons_zero, List.getElem_cons_succ, Nat.zero_add]
                refine wpAnyT_take (i := 12) (v := ?tv83) rfl (by kernel_rfl) (by decide) (by kernel_rfl) (by kernel_rfl) (fun _ _ _ h => h) (Or.inl ⟨by rfl, ?ty83⟩) (by assumption) ?tr83
                case ty83 => intro w hSw; (try dsimp only at hSw); go_simp; (try with_reducible rfl)
                try simp only [Act.put, List.setIfInBounds_toArray, List.set_cons_zero, List.set_cons_succ, List.getElem_toArray, List.getElem_cons_zero, List.getElem_cons_succ, Nat.zero_add]
                refine wpAnyT_take (i := 13) (v := ?tv84) rfl (by kernel_rfl) (by decide) (by kernel_rfl) (by kernel_rfl) (fun _ _ _ h => h) (Or.inl ⟨by rfl, ?ty84⟩) (by assumption) ?tr84
                case ty84 => intro w hSw; (try dsimp only at hSw); go_simp; (try with_reducible rfl)
                try simp only [Act.put, List.setIfInBounds_toArray, List.set_cons_zero, List.set_cons_succ, List.getElem_toArray, List.getElem_cons_zero, List.getElem_cons_succ, Nat.zero_add]
                refine wpAnyT_done (by kernel_rfl) ?_
                simp only [List.drop_succ_cons, List.drop_zero]
                go_wp2_with fail
                refine HSM.out.mono ?_
                rintro e w5 ⟨rfl, hc5⟩
                have HC5 := Lib.hid (hCq5.out.trans ((Chg.refl _ _).drew.trans hc5))
                clear hc5 t0 t1 t2 t3 HSM
                go_wp2_with fail
                go_roundg gq'
                case measure => omega
                case rel => exact ⟨q + 1, by go_num, by omega, by omega, HC5.out⟩
        · have q1 : ¬ (q : Int) < (np : Int) := by omega
          have HL5 := Lib.hid (hL.out.kept hCq.out)
          have HLK := Lib.hid (HL5.out.looks (by omega) 0 (by omega))
          clear t1
          go_wp2_with fail
          refine HLK.out.mono ?_
          rintro e w4 ⟨rfl, md, hq⟩
          have HB5 : Hid (Below w.heap.size w w4) := (by rw [hq]; exact (HL5.out.kept ((Chg.refl _ _).drewN md)).below)
          clear HLK hq
          go_wp2_with fail
          refine (awake_calls _).mono ?_
          rintro e w7 ⟨rfl, hb7⟩
          have HB7 : Hid (Below w.heap.size w w7) := HB5.out.trans (hb7.toBelow HB5.out.size (fun _ _ e => e.elim))
          clear hb7
          go_wp2_with fail
          go_ret
          exact ⟨rfl, HB7.out⟩
end Go.Proofs.Ytkidnmjaioejaaa.Sg
