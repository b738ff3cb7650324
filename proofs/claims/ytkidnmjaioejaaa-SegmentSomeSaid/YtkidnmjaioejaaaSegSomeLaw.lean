/- SegmentSome, walked: true, whatever the acts. Condition: the acts' cells are known, and their numbers fit. -/
import Derived.Test.YtkidnmjaioejaaaSegSome
namespace Go.Proofs.Ytkidnmjaioejaaa.Sg
set_option linter.unusedVariables false
set_option linter.unusedSimpArgs false
open Go.RowKit Go.Proofs.Ytkidnmjaioejaaa.Mem

theorem Live.somes {w wr : World} {P s k bx : Nat} (h : Live w wr P s k) (hk : k ≤ 200) (i n : Int) (hi : i ≤ 9223372036854775807) (hb : wr.cell? ⟨bx, 0, none⟩ = some (.int .i64 n)) :
    ∃ l ad nl cap, wr.cell? ⟨P, 0, none⟩ = some (.pointer (some ⟨s, 0, none⟩)) ∧ wr.cell? ⟨P, 1, none⟩ = some (.slice ad nl cap) ∧ nl ≤ 200 ∧ Hid (l.length = nl) ∧ Hid (RowAt wr 70 2 (.slice ad nl cap) nl (l.flatMap rcells)) ∧
      Hid (Calls Try.prog 31 #[.slice ad nl cap, .int .i64 i] wr fun e w' => e = .returned (.int .i64 (placeOf l i)) ∧ w' = wr) ∧
      Hid (∀ W, Chg (fun _ => False) wr W → Calls Try.prog 42 #[.pointer (some ⟨s, 0, none⟩), .int .i64 i, askV bx] W fun e w' => e = .returned (.bool (someOf l i n)) ∧ Chg (fun _ => False) W w') ∧
      Hid (∀ a, markAt l i = some a → a < nl) := by
  obtain ⟨l, lv, pv, cv, uv, F, pcs, h1, h2, h3, h4⟩ := h
  have hll : l.length ≤ 200 := by unfold weight at h2; omega
  obtain ⟨ad, cap, hlv, _, _⟩ := h1.row.form
  subst hlv
  refine ⟨l, ad, l.length, cap, cell_of h1.blk 0, cell_of h1.blk 1, hll, rfl, h1.row, mark_ref h1.row (by omega) i hi, fun W hW => some_abs (h1.st.chg hW (fun _ _ e => e)) i n (hW.cell hb (fun e => e)), fun a ha => ?_⟩
  obtain ⟨m, hx⟩ : ∃ m, l[a]? = some (true, m) := by
    obtain ⟨bv, pv', base, L, g1, g2, g3⟩ := h1.st
    rw [← g2]
    exact markAt_get base L i a (by rw [g2]; exact ha)
  exact (List.getElem?_eq_some_iff.1 hx).1
def isN (n : Int) (x : Bool × Int) : Bool := !x.1 && decide (x.2 = n)
def wantTo (l : Row) (a q : Nat) (n : Int) : Bool := ((l.take q).drop a).any (isN n)
theorem want_step (l : Row) (a q : Nat) (n : Int) (x : Bool × Int) (ha : a ≤ q) (h : l[q]? = some x) : wantTo l a (q + 1) n = (wantTo l a q n || isN n x) := by
  unfold wantTo
  have hl : q ≤ (l.take q).length := by
    rw [List.length_take]
    have := (List.getElem?_eq_some_iff.1 h).1
    omega
  rw [take_snoc l q x h, List.drop_append_of_le_length (by omega), List.any_append]
  simp
theorem want_start (l : Row) (a : Nat) (n : Int) : wantTo l a a n = false := by
  unfold wantTo
  have : (l.take a).drop a = [] := List.eq_nil_of_length_eq_zero (by rw [List.length_drop, List.length_take]; omega)
  rw [this]
  rfl
theorem want_all (l : Row) (a : Nat) (n : Int) (i : Int) (h : markAt l i = some a) : wantTo l a l.length n = someOf l i n := by
  unfold wantTo someOf
  rw [List.take_length, h]
  rfl
set_option maxRecDepth 100000 in
set_option maxHeartbeats 8000000 in
theorem somel_calls (n i : Int) (hiw : i ≤ 9223372036854775807) (v : Value) (acts : List Act) (w0 : World) (hA : ActsAt w0 v acts) : Calls Try.prog 12 #[v, .int .i64 i, .int .i64 n] w0 fun e w' => e = .returned (.bool true) ∧ Below w0.heap.size w0 w' := by
  obtain ⟨ad, cap, rfl, hok, hcells⟩ := hA
  obtain ⟨na, hna⟩ : ∃ na, acts.length = na := ⟨_, rfl⟩
  have HNA := Lib.hid hna
  rw [hna] at hcells ⊢
  obtain ⟨w, hw⟩ : ∃ w, w = w0.alloc (.cells #[.int .i64 n] 3) := ⟨_, rfl⟩
  have hCw : Chg (fun _ => False) w0 w := by rw [hw]; exact (Chg.refl _ _).alloc _
  have hBw : Below w0.heap.size w0 w := hCw.toBelow (Nat.le_refl _) (fun _ _ e => e.elim)
  have hbox : w.cell? ⟨w0.heap.size, 0, none⟩ = some (.int .i64 n) := by rw [hw]; exact cell_of (blk_new w0 _) 0
  have hbl : w0.heap.size < w.heap.size := by rw [hw]; simp
  have HBW := Lib.hid hBw
  have HBX := Lib.hid hbox
  have HOK := Lib.hid hok
  have HCE : Hid (∀ j, j < na → ∃ b off, ad = some ⟨b, off, none⟩ ∧ b < w.heap.size ∧ ∀ q, q < 2 → w.cell? ⟨b, off + j * 2 + q, none⟩ = (acells (acts.getD j a0))[q]?) := fun j hj => by
    obtain ⟨b, off, h1, h2, h3⟩ := hcells j hj
    exact ⟨b, off, h1, by omega, fun q hq => (hBw.cell (p := ⟨b, off + j * 2 + q, none⟩) h2).trans (h3 q hq)⟩
  have hfin : ∀ w', Below w.heap.size w w' → Below w0.heap.size w0 w' := fun w' h => hBw.trans (h.mono (by omega))
  have HFIN := Lib.hid hfin
  clear hcells hok hna hCw hBw hbox hfin
  have HW := Lib.hid hw
  by_cases hbig : 100 < na
  · have hb2 : (100 : Int) < (na : Int) := by omega
    clear hw
    go_enter Try.func12, Try.ntmps12
    go_wp2_with fail
    rw [← HW.out]
    refine (awake_calls _).mono ?_
    rintro e w7 ⟨rfl, hb7⟩
    have HB7 := Lib.hid hb7
    clear hb7
    go_wp2_with fail
    go_ret
    exact ⟨rfl, HFIN.out _ (HB7.out.toBelow (Nat.le_refl _) (fun _ _ e => e.elim))⟩
  have hb2 : ¬ (100 : Int) < (na : Int) := by omega
  have HN := Lib.hid (new_abs w)
  clear hw
  go_enter Try.func12, Try.ntmps12
  go_wp2_with fail
  rw [← HW.out]
  refine HN.out.mono ?_
  rintro e w1 ⟨rfl, hs1, hC1⟩
  have HL1 := Lib.hid (play_new hs1 hC1)
  have HC1 := Lib.hid hC1
  obtain ⟨P, hP⟩ : ∃ P, w1.heap.size = P := ⟨_, rfl⟩
  rw [hP] at HL1
  clear hs1 hC1
  go_wp2_with fail
  go_loopg [8] (na + 1) (fun g vi wr => ∃ (i : Nat), vi = .int .i64 i ∧ i ≤ na ∧ na < g + i ∧ Hid (Live w wr P w.heap.size i))
  case atStart => exact ⟨0, rfl, by omega, by omega, HL1.out⟩
  case round =>
    obtain ⟨k, rfl, hi, hg, hL⟩ := hrel
    by_cases hlt : k < na
    · obtain ⟨gk', rfl⟩ : ∃ m, gk = m + 1 := ⟨gk - 1, by omega⟩
      obtain ⟨b, off, rfl, hbl2, hce⟩ := HCE.out k hlt
      have hcr : ∀ q, q < 2 → wr.cell? ⟨b, off + k * 2 + q, none⟩ = (acells (acts.getD k a0))[q]? := fun q hq => (hL.out.below.cell (p := ⟨b, off + k * 2 + q, none⟩) hbl2).trans (hce q hq)
      have z0 : wr.cell? ⟨b, off + k * 2, none⟩ = _ := hcr 0 (by omega)
      have z1 := hcr 1 (by omega)
      have hmem : acts.getD k a0 ∈ acts := (by have : k < acts.length := (by rw [HNA.out]; exact hlt); simp [this])
      have hokn := HOK.out _ hmem
      generalize acts.getD k a0 = y at *
      obtain ⟨yk, yn⟩ := y
      simp only [acells, List.getElem?_cons_zero, List.getElem?_cons_succ] at z0 z1
      have HD := Lib.hid (hL.out.does (by omega) yk yn hokn)
      simp only [actV] at HD
      have i0 : (0 : Int) ≤ (k : Int) := by omega
      have i1 : (k : Int) < (na : Int) := by omega
      clear hcr hce hmem hokn
      go_wp2_with fail
      refine HD.out.mono ?_
      rintro e w2 ⟨rfl, hL2⟩
      have HL2 := Lib.hid hL2
      clear hL2 z0 z1
      go_wp2_with fail
      go_roundg gk'
      case measure => omega
      case rel => exact ⟨k + 1, by go_num, by omega, by omega, HL2.out⟩
    · have i1 : ¬ (k : Int) < (na : Int) := by omega
      obtain ⟨l, adl, nl, capl, c0, c1, hnl, HLEN, HROW, HMK, HSM, HAT⟩ := hL.out.somes (bx := w0.heap.size) (by omega) i n hiw ((hL.out.below.cell (p := ⟨w0.heap.size, 0, none⟩) hbl).trans HBX.out)
      have hbx : wr.cell? ⟨w0.heap.size, 0, none⟩ = some (.int .i64 n) := (hL.out.below.cell (p := ⟨w0.heap.size, 0, none⟩) hbl).trans HBX.out
      unfold askV at HSM
      go_wp2_with fail
      refine HMK.out.mono ?_
      rintro e w2 ⟨rfl, hq⟩
      obtain rfl : wr = w2 := hq.symm
      clear hq HMK
      cases hmk : markAt l i with
      | none =>
        have hpl : placeOf l i = -1 := by simp [placeOf, hmk]
        have hso : someOf l i n = false := by simp [someOf, hmk]
        rw [hpl]
        rw [hso] at HSM
        clear hpl hso hmk
        go_wp2_with fail
        go_loopg [9, 11] 1 (fun g v9 v11 wk => v9 = .bool false ∧ v11 = .int .i64 (-1) ∧ wk = wr)
        case atStart => exact ⟨rfl, rfl, rfl⟩
        case round =>
          obtain ⟨rfl, rfl, hwk⟩ := hrel
          subst hwk
          go_wp2_with fail
          refine (HSM.out _ (Chg.refl _ _)).mono ?_
          rintro e w3 ⟨rfl, hc3⟩
          have HB5 := Lib.hid (hL.out.kept hc3).below
          clear hc3
          go_wp2_with fail
          refine (awake_calls _).mono ?_
          rintro e w7 ⟨rfl, hb7⟩
          have HB7 := Lib.hid (HFIN.out _ (HB5.out.trans (hb7.toBelow HB5.out.size (fun _ _ e => e.elim))))
          clear hb7
          go_wp2_with fail
          go_ret
          exact ⟨rfl, HB7.out⟩
      | some a =>
        have hpl : placeOf l i = (a : Int) := by simp [placeOf, hmk]
        have ha := HAT.out a hmk
        have HSO := Lib.hid (want_all l a n i hmk)
        rw [hpl]
        have a0' : (0 : Int) ≤ (a : Int) := by omega
        clear hpl hmk
        go_wp2_with fail
        go_loopg [9, 11] (nl + 1) (fun g v9 v11 wk => ∃ (q : Nat) (wt : Bool), v9 = .bool wt ∧ v11 = .int .i64 q ∧ a ≤ q ∧ q ≤ nl ∧ nl < g + q ∧ Hid (wantTo l a q n = wt) ∧ Hid (Chg (fun _ => False) wr wk))
        case atStart => exact ⟨a, false, rfl, rfl, Nat.le_refl _, by omega, by omega, want_start l a n, Lib.hid (Chg.refl _ _)⟩
        case round =>
          obtain ⟨q, wt, rfl, rfl, haq, hq, hgq, hwt, hCq⟩ := hrel
          have d0 := hCq.out.cell c0 (fun h => h)
          have d1 := hCq.out.cell c1 (fun h => h)
          have dx := hCq.out.cell hbx (fun h => h)
          by_cases hlq : q < nl
          · obtain ⟨gq', rfl⟩ : ∃ m, gk = m + 1 := ⟨gk - 1, by omega⟩
            have hr2 := HROW.out.kept hCq.out (fun _ _ h => h)
            obtain ⟨g, off, cp, hv, _⟩ := hr2.formS (by omega)
            cases hv
            obtain ⟨⟨mb, mx⟩, hx⟩ : ∃ x, l[q]? = some x := ⟨_, List.getElem?_eq_getElem (by rw [HLEN.out]; exact hlq)⟩
            obtain ⟨e0, e1⟩ := RRow.at hr2 HLEN.out q mb mx hx
            have HST := Lib.hid (want_step l a q n _ haq hx)
            rw [hwt.out] at HST
            have q0 : (0 : Int) ≤ (q : Int) := by omega
            have q1 : (q : Int) < (nl : Int) := by omega
            clear hx hr2 c0 c1 hbx
            cases wt with
            | true =>
              have HN2 : Hid (wantTo l a (q + 1) n = true) := by rw [HST.out]; rfl
              clear hwt HST
              go_wp2_with fail
              go_quiet (fail)
              go_wp2_with fail
              go_roundg gq'
              case measure => omega
              case rel => exact ⟨q + 1, true, rfl, by go_num, by omega, by omega, by omega, HN2.out, Lib.hid (hCq.out.drewN _)⟩
            | false =>
              cases mb with
              | true =>
                have HN2 : Hid (wantTo l a (q + 1) n = false) := by rw [HST.out]; rfl
                clear hwt HST
                go_wp2_with fail
                go_quiet (fail)
                go_wp2_with fail
                go_roundg gq'
                case measure => omega
                case rel => exact ⟨q + 1, false, rfl, by go_num, by omega, by omega, by omega, HN2.out, Lib.hid (hCq.out.drewN _)⟩
              | false =>
                by_cases hmx : mx = n
                · have HN2 : Hid (wantTo l a (q + 1) n = true) := by rw [HST.out]; simp [isN, hmx, Hid]
                  have hbe : (mx == n) = true := by simpa using hmx
                  clear hwt HST hmx
                  go_wp2_with fail
                  go_quiet (fail)
                  go_wp2_with fail
                  go_roundg gq'
                  case measure => omega
                  case rel => exact ⟨q + 1, true, rfl, by go_num, by omega, by omega, by omega, HN2.out, Lib.hid (hCq.out.drewN _)⟩
                · have HN2 : Hid (wantTo l a (q + 1) n = false) := by rw [HST.out]; simp [isN, hmx, Hid]
                  have hbe : (mx == n) = false := by simpa using hmx
                  clear hwt HST hmx
                  go_wp2_with fail
                  go_quiet (fail)
                  go_wp2_with fail
                  go_roundg gq'
                  case measure => omega
                  case rel => exact ⟨q + 1, false, rfl, by go_num, by omega, by omega, by omega, HN2.out, Lib.hid (hCq.out.drewN _)⟩
          · obtain rfl : q = nl := by omega
            have q1 : ¬ (q : Int) < (q : Int) := by omega
            have q0 : (0 : Int) ≤ (q : Int) := by omega
            have hso := HSO.out
            rw [HLEN.out, hwt.out] at hso
            have HSM2 := Lib.hid (HSM.out _ hCq.out)
            rw [← hso] at HSM2
            clear hso hwt c0 c1 hbx
            cases wt with
            | true =>
              go_wp2_with fail
              refine HSM2.out.mono ?_
              rintro e w3 ⟨rfl, hc3⟩
              have HB5 := Lib.hid (hL.out.kept (hCq.out.trans hc3)).below
              clear hc3
              go_wp2_with fail
              refine (awake_calls _).mono ?_
              rintro e w7 ⟨rfl, hb7⟩
              have HB7 := Lib.hid (HFIN.out _ (HB5.out.trans (hb7.toBelow HB5.out.size (fun _ _ e => e.elim))))
              clear hb7
              go_wp2_with fail
              go_ret
              exact ⟨rfl, HB7.out⟩
            | false =>
              go_wp2_with fail
              refine HSM2.out.mono ?_
              rintro e w3 ⟨rfl, hc3⟩
              have HB5 := Lib.hid (hL.out.kept (hCq.out.trans hc3)).below
              clear hc3
              go_wp2_with fail
              refine (awake_calls _).mono ?_
              rintro e w7 ⟨rfl, hb7⟩
              have HB7 := Lib.hid (HFIN.out _ (HB5.out.trans (hb7.toBelow HB5.out.size (fun _ _ e => e.elim))))
              clear hb7
              go_wp2_with fail
              go_ret
              exact ⟨rfl, HB7.out⟩
end Go.Proofs.Ytkidnmjaioejaaa.Sg
