/- does, walked, for Join. Condition: the play is known, and its rows are shorter than 100000 together. -/
import Derived.Test.YtkidnmjaioejaaaPlayCut
namespace Go.Proofs.Ytkidnmjaioejaaa.Sg
set_option linter.unusedVariables false
set_option linter.unusedSimpArgs false
open Go.RowKit Go.Proofs.Ytkidnmjaioejaaa.Mem

set_option maxRecDepth 100000 in
set_option maxHeartbeats 4000000 in
theorem joinn_walk {w w0 : World} {P s A np cap : Nat} {ad : Option Addr} {n : Int} (hA : A = w.heap.size) (hw0 : w.alloc (.cells #[.int .i64 5, .int .i64 n] 64) = w0)
    (a0 : w0.cell? ⟨A, 0, none⟩ = some (.int .i64 5)) (a1 : w0.cell? ⟨A, 1, none⟩ = some (.int .i64 n)) (c0 : w0.cell? ⟨P, 0, none⟩ = some (.pointer (some ⟨s, 0, none⟩))) (c2 : w0.cell? ⟨P, 2, none⟩ = some (.slice ad np cap))
    (hn : n < 0 ∨ (np : Int) ≤ n) :
    Calls Try.prog 26 #[.pointer (some ⟨P, 0, none⟩), actV 5 n] w fun e w' => e = .returned (.bool true) ∧ ∃ m, w' = w0.drewN m := by
  subst hA
  unfold actV
  by_cases h0 : n < 0
  · clear hn
    have hd : decide (n < 0) = true := decide_eq_true h0
    go_enter Try.func26, Try.ntmps26
    go_wp2_with fail
    go_quiet (fail)
    go_wp2_with fail
    refine join_nilp.mono ?_
    rintro e w1 ⟨rfl, rfl⟩
    go_wp2_with fail
    go_ret
    exact ⟨rfl, _, rfl⟩
  · have hd : decide (n < 0) = false := decide_eq_false h0
    have h1 : (np : Int) ≤ n := by omega
    have hd2 : decide ((np : Int) ≤ n) = true := decide_eq_true h1
    clear hn
    go_enter Try.func26, Try.ntmps26
    go_wp2_with fail
    go_quiet (fail)
    go_wp2_with fail
    refine join_nilp.mono ?_
    rintro e w1 ⟨rfl, rfl⟩
    go_wp2_with fail
    go_ret
    exact ⟨rfl, _, rfl⟩
set_option maxRecDepth 100000 in
set_option maxHeartbeats 4000000 in
theorem joinu_walk {w w0 : World} {P s A np i gp offp capp gu offu capu p : Nat} (hA : A = w.heap.size) (hw0 : w.alloc (.cells #[.int .i64 5, .int .i64 (i : Int)] 64) = w0)
    (a0 : w0.cell? ⟨A, 0, none⟩ = some (.int .i64 5)) (a1 : w0.cell? ⟨A, 1, none⟩ = some (.int .i64 (i : Int))) (c0 : w0.cell? ⟨P, 0, none⟩ = some (.pointer (some ⟨s, 0, none⟩)))
    (c2 : w0.cell? ⟨P, 2, none⟩ = some (.slice (some ⟨gp, offp, none⟩) np capp)) (c4 : w0.cell? ⟨P, 4, none⟩ = some (.slice (some ⟨gu, offu, none⟩) np capu))
    (hpi : w0.cell? ⟨gp, offp + i, none⟩ = some (.pointer (some ⟨p, 0, none⟩))) (hui : w0.cell? ⟨gu, offu + i, none⟩ = some (.bool true)) (huf : w0.frozen? ⟨gu, offu + i, none⟩ = false)
    (hP : ∀ k, Calls Try.prog 32 #[.pointer (some ⟨s, 0, none⟩), .pointer (some ⟨p, 0, none⟩)] (w0.drewN k) fun e w' => e = .returned (.bool false) ∧ w' = w0.drewN k)
    (hi : i < np) (hnp : np < 100000) :
    Calls Try.prog 26 #[.pointer (some ⟨P, 0, none⟩), actV 5 (i : Int)] w fun e w' => e = .returned (.bool true) ∧ ∃ m, w' = (w0.drewN m).setCell ⟨gu, offu + i, none⟩ (.bool true) := by
  subst hA
  have HP := fun k => Lib.hid (hP k)
  clear hP
  unfold actV
  have i0 : (0 : Int) ≤ (i : Int) := by omega
  have i1 : (i : Int) < (np : Int) := by omega
  have hd : decide ((i : Int) < 0) = false := decide_eq_false (by omega)
  have hd2 : decide ((np : Int) ≤ (i : Int)) = false := decide_eq_false (by omega)
  have hd3 : decide (np ≤ i) = false := decide_eq_false (by omega)
  go_enter Try.func26, Try.ntmps26
  go_wp2_with fail
  go_quiet (fail)
  go_wp2_with fail
  go_quiet ((go_at_call 32; exact quiet3 (HP _).out))
  go_wp2_with fail
  go_quiet (fail)
  go_wp2_with fail
  go_region
  all_goals
    go_wp2_with fail
    go_ret
    exact ⟨rfl, _, rfl⟩
set_option maxRecDepth 100000 in
set_option maxHeartbeats 8000000 in
theorem joind_walk {w w0 : World} {P s A np i gp offp capp gu offu capu gc offc capv p nl cap nc capc : Nat} {adl adc : Option Addr} {l c : Row} {X : World → Prop} (hA : A = w.heap.size) (hw0 : w.alloc (.cells #[.int .i64 5, .int .i64 (i : Int)] 64) = w0)
    (a0 : w0.cell? ⟨A, 0, none⟩ = some (.int .i64 5)) (a1 : w0.cell? ⟨A, 1, none⟩ = some (.int .i64 (i : Int))) (c0 : w0.cell? ⟨P, 0, none⟩ = some (.pointer (some ⟨s, 0, none⟩)))
    (c2 : w0.cell? ⟨P, 2, none⟩ = some (.slice (some ⟨gp, offp, none⟩) np capp))
    (hpi : w0.cell? ⟨gp, offp + i, none⟩ = some (.pointer (some ⟨p, 0, none⟩)))
    (hP : ∀ W, Chg (fun _ => False) w0 W → Calls Try.prog 32 #[.pointer (some ⟨s, 0, none⟩), .pointer (some ⟨p, 0, none⟩)] W fun e w' => e = .returned (.bool true) ∧ X w')
    (hX : ∀ w1, X w1 → w1.heap[A]? = some (.cells #[.int .i64 5, .int .i64 (i : Int)] 64 (0, 0)) ∧
      w1.heap[P]? = some (.cells #[ptr s, .slice adl nl cap, .slice (some ⟨gp, offp, none⟩) np capp, .slice (some ⟨gc, offc, none⟩) np capv, .slice (some ⟨gu, offu, none⟩) np capu] 61 (0, 0)) ∧
      RowAt w1 70 2 (.slice adl nl cap) nl (l.flatMap rcells) ∧ RowAt w1 70 2 (.slice adc nc capc) nc (c.flatMap rcells) ∧
      w1.cell? ⟨gp, offp + i, none⟩ = some (.pointer (some ⟨p, 0, none⟩)) ∧ w1.cell? ⟨gc, offc + i, none⟩ = some (.slice adc nc capc) ∧ w1.cell? ⟨gu, offu + i, none⟩ = some (.bool false) ∧ w1.frozen? ⟨gu, offu + i, none⟩ = false)
    (hi : i < np) (hnp : np < 100000) (hk : nl + nc ≤ 100000) (hgP : gu ≠ P) :
    Calls Try.prog 26 #[.pointer (some ⟨P, 0, none⟩), actV 5 (i : Int)] w fun e w' => e = .returned (.bool true) ∧ ∃ w1 w5 lv' k, X w1 ∧ Chg (fun _ => False) w1 w5 ∧
      RowAt w5 70 2 lv' (nl + nc) (l.flatMap rcells ++ c.flatMap rcells) ∧ w' = ((w5.setCell ⟨P, 1, none⟩ lv').setCell ⟨gu, offu + i, none⟩ (.bool true)).drewN k := by
  subst hA
  have HP := Lib.hid hP
  have HX := Lib.hid hX
  obtain ⟨iR, hj0, hj1, hj2, hj3⟩ := info_parts infoR
  have H1 := Lib.hid (rcells_one l)
  have H2 := Lib.hid (rcells_one c)
  clear hP hX
  unfold actV
  have i0 : (0 : Int) ≤ (i : Int) := by omega
  have i1 : (i : Int) < (np : Int) := by omega
  have hd : decide ((i : Int) < 0) = false := decide_eq_false (by omega)
  have hd2 : decide ((np : Int) ≤ (i : Int)) = false := decide_eq_false (by omega)
  have hd3 : decide (np ≤ i) = false := decide_eq_false (by omega)
  go_enter Try.func26, Try.ntmps26
  go_wp2_with fail
  go_quiet (fail)
  go_wp2_with fail
  go_region_held3 (fun W => W.cell? ⟨P, 0, none⟩ = some (.pointer (some ⟨s, 0, none⟩)) ∧ W.cell? ⟨w.heap.size, 1, none⟩ = some (.int .i64 (i : Int)) ∧ W.cell? ⟨P, 2, none⟩ = some (.slice (some ⟨gp, offp, none⟩) np capp) ∧ W.cell? ⟨gp, offp + i, none⟩ = some (.pointer (some ⟨p, 0, none⟩)))
    (first | exact ⟨by assumption, by assumption, by assumption, by assumption⟩ | go_keep)
    ((go_at_call 32; refine (HP.out _ ?hc).mono ?_; (case hc => repeat (first | exact Chg.refl _ _ | apply Chg.alloc | apply Chg.drew | apply Chg.drewN)); rintro e w1 ⟨rfl, hx1⟩; have HX1 := Lib.hid hx1; obtain ⟨b0, b1, b2, b3, hpi1, hci, hui, huif⟩ := HX.out w1 hx1; have d1 := cell_of b0 1; have e0 := cell_of b1 0; have e1 := cell_of b1 1; have e2 := cell_of b1 2; have e3 := cell_of b1 3; have e4 := cell_of b1 4; simp only [List.getElem?_toArray, List.getElem?_cons_zero, List.getElem?_cons_succ, ptr] at d1 e0 e1 e2 e3 e4))
  have HB1 := Lib.hid b1
  have HB0 := Lib.hid b0
  have HL0 := Lib.hid b2
  have HCR0 := Lib.hid b3
  have hAP : w.heap.size ≠ P := fun e => tag_ne (w := w1) ⟨_, b0⟩ ⟨_, b1⟩ (by decide) e
  have hgul : gu < w1.heap.size := World.block_lt_of_cell? w1 _ hui
  have hPl : P < w1.heap.size := lt_of_block b1
  clear hx1 b0 b1 b2 b3 a0 a1 c0 c2 hpi hw0 HP HX
  go_wp2_with fail
  go_quiet (fail)
  go_wp2_with fail
  have hW2 : ∀ m, Chg (fun _ => False) w1 (w1.drewN m) := fun m => (Chg.refl _ w1).drewN m
  generalize hgw : w1.drewN _ = w2
  have hC2 : Chg (fun _ => False) w1 w2 := by rw [← hgw]; exact hW2 _
  have HL1 := Lib.hid (HL0.out.kept hC2 (fun _ _ h => h))
  have HCR1 := Lib.hid (HCR0.out.kept hC2 (fun _ _ h => h))
  have hB2 := hC2.blk HB1.out (fun h => h)
  have HB2 := Lib.hid hB2
  have hci2 := hC2.cell hci (fun h => h)
  have hui2 := hC2.cell hui (fun h => h)
  have hui2f : w2.frozen? ⟨gu, offu + i, none⟩ = false := (World.frozen?_of_block (a := ⟨gu, offu + i, none⟩) (hC2.block gu hgul (fun h => h))).trans huif
  have f1 := hC2.cell e1 (fun h => h)
  have f3 := hC2.cell e3 (fun h => h)
  have g1 := hC2.cell d1 (fun h => h)
  have hgul2 : gu < w2.heap.size := World.block_lt_of_cell? w2 _ hui2
  have HC2 := Lib.hid hC2
  clear hgw hC2 hB2 hci hui huif e0 e1 e2 e3 e4 d1 hW2
  have e1 := f1
  have e3 := f3
  have d1 := g1
  clear f1 f3 g1
  refine wp_region_T (S := fun W => W.cell? ⟨P, 1, none⟩ = some (.slice adl nl cap) ∧ W.cell? ⟨P, 3, none⟩ = some (.slice (some ⟨gc, offc, none⟩) np capv) ∧ W.cell? ⟨w.heap.size, 1, none⟩ = some (.int .i64 (i : Int)) ∧ W.cell? ⟨gc, offc + i, none⟩ = some (.slice adc nc capc)) 16 3 rfl (by kernel_rfl) ?_ (fun hHeld => ?_)
  · exact ⟨by assumption, by assumption, by assumption, by assumption⟩
  refine wpAnyT_take (i := 0) (v := ?tv1) rfl (by kernel_rfl) (by decide) (by kernel_rfl) (by kernel_rfl) (fun _ _ _ h => h) (Or.inl ⟨by rfl, ?ty1⟩) (by assumption) ?tr1
  case ty1 => intro w hSw; (try dsimp only at hSw); go_simp; (try with_reducible rfl)
  try simp only [Act.put, List.setIfInBounds_toArray, List.set_cons_zero, List.set_cons_succ, List.getElem_toArray, List.getElem_cons_zero, List.getElem_cons_succ, Nat.zero_add]
  refine wpAnyT_take (i := 2) (v := ?tv2) rfl (by kernel_rfl) (by decide) (by kernel_rfl) (by kernel_rfl) (fun _ _ _ h => h) (Or.inl ⟨by rfl, ?ty2⟩) (by assumption) ?tr2
  case ty2 => intro w hSw; (try dsimp only at hSw); go_simp; (try with_reducible rfl)
  try simp only [Act.put, List.setIfInBounds_toArray, List.set_cons_zero, List.set_cons_succ, List.getElem_toArray, List.getElem_cons_zero, List.getElem_cons_succ, Nat.zero_add]
  refine wpAnyT_take (i := 3) (v := ?tv3) rfl (by kernel_rfl) (by decide) (by kernel_rfl) (by kernel_rfl) (fun _ _ _ h => h) (Or.inl ⟨by rfl, ?ty3⟩) (by assumption) ?tr3
  case ty3 => intro w hSw; (try dsimp only at hSw); go_simp; (try with_reducible rfl)
  try simp only [Act.put, List.setIfInBounds_toArray, List.set_cons_zero, List.set_cons_succ, List.getElem_toArray, List.getElem_cons_zero, List.getElem_cons_succ, Nat.zero_add]
  refine wpAnyT_take (i := 4) (v := ?tv4) rfl (by kernel_rfl) (by decide) (by kernel_rfl) (by kernel_rfl) (fun _ _ _ h => h) (Or.inl ⟨by rfl, ?ty4⟩) (by assumption) ?tr4
  case ty4 => intro w hSw; (try dsimp only at hSw); go_simp; (try with_reducible rfl)
  try simp only [Act.put, List.setIfInBounds_toArray, List.set_cons_zero, List.set_cons_succ, List.getElem_toArray, List.getElem_cons_zero, List.getElem_cons_succ, Nat.zero_add]
  refine wpAnyT_take (i := 5) (v := ?tv5) rfl (by kernel_rfl) (by decide) (by kernel_rfl) (by kernel_rfl) (fun _ _ _ h => h) (Or.inl ⟨by rfl, ?ty5⟩) (by assumption) ?tr5
  case ty5 => intro w hSw; (try dsimp only at hSw); go_simp; (try with_reducible rfl)
  try simp only [Act.put, List.setIfInBounds_toArray, List.set_cons_zero, List.set_cons_succ, List.getElem_toArray, List.getElem_cons_zero, List.getElem_cons_succ, Nat.zero_add]
  refine wpAnyT_take (i := 7) (v := ?tv6) rfl (by kernel_rfl) (by decide) (by kernel_rfl) (by kernel_rfl) (fun _ _ _ h => h) (Or.inl ⟨by rfl, ?ty6⟩) (by assumption) ?tr6
  case ty6 => intro w hSw; (try dsimp only at hSw); go_simp; (try with_reducible rfl)
  try simp only [Act.put, List.setIfInBounds_toArray, List.set_cons_zero, List.set_cons_succ, List.getElem_toArray, List.getElem_cons_zero, List.getElem_cons_succ, Nat.zero_add]
  refine wpAnyT_take (i := 8) (v := ?tv7) rfl (by kernel_rfl) (by decide) (by kernel_rfl) (by kernel_rfl) (fun _ _ _ h => h) (Or.inl ⟨by rfl, ?ty7⟩) (by assumption) ?tr7
  case ty7 => intro w hSw; (try dsimp only at hSw); go_simp; (try with_reducible rfl)
  try simp only [Act.put, List.setIfInBounds_toArray, List.set_cons_zero, List.set_cons_succ, List.getElem_toArray, List.getElem_cons_zero, List.getElem_cons_succ, Nat.zero_add]
  refine wpAnyT_take (i := 9) (v := ?tv8) rfl (by kernel_rfl) (by decide) (by kernel_rfl) (by kernel_rfl) (fun _ _ _ h => h) (Or.inl ⟨by rfl, ?ty8⟩) (by assumption) ?tr8
  case ty8 => intro w hSw; (try dsimp only at hSw); go_simp; (try with_reducible rfl)
  try simp only [Act.put, List.setIfInBounds_toArray, List.set_cons_zero, List.set_cons_succ, List.getElem_toArray, List.getElem_cons_zero, List.getElem_cons_succ, Nat.zero_add]
  refine wpAnyT_take (i := 10) (v := ?tv9) rfl (by kernel_rfl) (by decide) (by kernel_rfl) (by kernel_rfl) (fun _ _ _ h => h) (Or.inl ⟨by rfl, ?ty9⟩) (by assumption) ?tr9
  case ty9 => intro w hSw; (try dsimp only at hSw); go_simp; (try with_reducible rfl)
  try simp only [Act.put, List.setIfInBounds_toArray, List.set_cons_zero, List.set_cons_succ, List.getElem_toArray, List.getElem_cons_zero, List.getElem_cons_succ, Nat.zero_add]
  refine wpAnyT_take (i := 11) (v := ?tv10) rfl (by kernel_rfl) (by decide) (by kernel_rfl) (by kernel_rfl) (fun _ _ _ h => h) (Or.inl ⟨by rfl, ?ty10⟩) (by assumption) ?tr10
  case ty10 => intro w hSw; (try dsimp only at hSw); go_simp; (try with_reducible rfl)
  try simp only [Act.put, List.setIfInBounds_toArray, List.set_cons_zero, List.set_cons_succ, List.getElem_toArray, List.getElem_cons_zero, List.getElem_cons_succ, Nat.zero_add]
  refine wpAnyT_take (i := 12) (v := ?tv11) rfl (by kernel_rfl) (by decide) (by kernel_rfl) (by kernel_rfl) (fun _ _ _ h => h) (Or.inl ⟨by rfl, ?ty11⟩) (by assumption) ?tr11
  case ty11 => intro w hSw; (try dsimp only at hSw); go_simp; (try with_reducible rfl)
  try simp only [Act.put, List.setIfInBounds_toArray, List.set_cons_zero, List.set_cons_succ, List.getElem_toArray, List.getElem_cons_zero, List.getElem_cons_succ, Nat.zero_add]
  refine wpAnyT_take (i := 13) (v := ?tv12) rfl (by kernel_rfl) (by decide) (by kernel_rfl) (by kernel_rfl) (fun _ _ _ h => h) (Or.inl ⟨by rfl, ?ty12⟩) (by assumption) ?tr12
  case ty12 => intro w hSw; (try dsimp only at hSw); go_simp; (try with_reducible rfl)
  try simp only [Act.put, List.setIfInBounds_toArray, List.set_cons_zero, List.set_cons_succ, List.getElem_toArray, List.getElem_cons_zero, List.getElem_cons_succ, Nat.zero_add]
  refine wpAnyT_take (i := 14) (v := ?tv13) rfl (by kernel_rfl) (by decide) (by kernel_rfl) (by kernel_rfl) (fun _ _ _ h => h) (Or.inl ⟨by rfl, ?ty13⟩) (by assumption) ?tr13
  case ty13 => intro w hSw; (try dsimp only at hSw); go_simp; (try with_reducible rfl)
  try simp only [Act.put, List.setIfInBounds_toArray, List.set_cons_zero, List.set_cons_succ, List.getElem_toArray, List.getElem_cons_zero, List.getElem_cons_succ, Nat.zero_add]
  refine wpAnyT_ready (rs := [1]) (by kernel_rfl) (by kernel_rfl) ?_
  refine AllReadyT.cons rfl (fun K hK => ?_) ?_
  · go_simp
    refine hK.out _ _ ?_ (fun hHeld => ?_)
    · first | exact ⟨by assumption, by assumption, by assumption, by assumption⟩ | exact ⟨cell_alj _ hHeld.1, cell_alj _ hHeld.2.1, cell_alj _ hHeld.2.2.1, cell_alj _ hHeld.2.2.2⟩
    clear hK K
    try simp only [Act.put, List.setIfInBounds_toArray, List.set_cons_zero, List.set_cons_succ, List.getElem_toArray, List.getElem_cons_zero, List.getElem_cons_succ, Nat.zero_add]
    refine wpAnyT_ready (rs := [6]) (by kernel_rfl) (by kernel_rfl) ?_
    refine AllReadyT.cons rfl (fun K hK => ?_) ?_
    · refine step_append_rows _ (by rfl) _ _ _ (by rfl) 70 iR _ 2 16 Try.underlying56 hj0 hj1 hj2 hj3 rfl (by omega) _ 0 [] (by rfl) (row_one _ _ (by exact new_at _ _ _ (by simp))) 70 (.slice adl nl cap) nl (l.flatMap rcells) (by rfl) (HL1.out.kept ?nc1 (fun _ _ h => h)) H1.out (by unfold maxLen; omega) (by omega) _ (by rfl) ?_
      case nc1 => (repeat (first | exact Chg.refl _ _ | apply Chg.alloc | apply Chg.drew | apply Chg.drewN))
      intro ad1 cap1 w4 hrow4 hgrow4 hat4
      simp only [Nat.zero_add, List.nil_append] at hrow4 hat4 hgrow4
      have hC4 : Chg (fun _ => False) w2 w4 := (by refine Chg.grown ?_ hgrow4 (fun k hk e => ?_); (focus (repeat (first | exact Chg.refl _ _ | apply Chg.alloc | apply Chg.drew | apply Chg.drewN))); (simp [Value.ownBlock] at e; try omega))
      have q1 := hC4.cell e1 (fun h => h)
      have q2 := hC4.cell e3 (fun h => h)
      have q3 := hC4.cell d1 (fun h => h)
      have q4 := hC4.cell hci2 (fun h => h)
      refine hK.out _ _ ?_ (fun hHeld => ?_)
      · first | exact ⟨by assumption, by assumption, by assumption, by assumption⟩ | exact ⟨cell_alj _ hHeld.1, cell_alj _ hHeld.2.1, cell_alj _ hHeld.2.2.1, cell_alj _ hHeld.2.2.2⟩
      clear hK K
      try simp only [Act.put, List.setIfInBounds_toArray, List.set_cons_zero, List.set_cons_succ, List.getElem_toArray, List.getElem_cons_zero, List.getElem_cons_succ, Nat.zero_add]
      refine wpAnyT_ready (rs := [15]) (by kernel_rfl) (by kernel_rfl) ?_
      refine AllReadyT.cons rfl (fun K hK => ?_) ?_
      · refine step_append_rows _ (by rfl) _ _ _ (by rfl) 70 iR _ 2 16 Try.underlying56 hj0 hj1 hj2 hj3 rfl (by omega) (.slice ad1 nl cap1) nl (l.flatMap rcells) (by rfl) (hrow4.kept ?nc2 (fun _ _ h => h)) 70 (.slice adc nc capc) nc (c.flatMap rcells) (by rfl) (HCR1.out.kept ?nc3 (fun _ _ h => h)) H2.out (by unfold maxLen; omega) (by omega) _ (by rfl) ?_
        case nc2 => (repeat (first | exact Chg.refl _ _ | apply Chg.alloc | apply Chg.drew | apply Chg.drewN))
        case nc3 => (repeat (first | exact hC4 | exact Chg.refl _ _ | apply Chg.alloc | apply Chg.drew | apply Chg.drewN))
        intro ad2 cap2 w5 hrow5 hgrow5 hat5
        have hC5 : Chg (fun _ => False) w2 w5 := (by refine Chg.grown hC4 hgrow5 (fun k hk e => ?_); exact (Nat.not_lt.2 (put_own hat4 e (fun g hg => (by simp [Value.ownBlock] at hg; try omega)) (by simp; try omega)) hk).elim)
        have r1 := hC5.cell e1 (fun h => h)
        have r2 := hC5.cell e3 (fun h => h)
        have r3 := hC5.cell d1 (fun h => h)
        have r4 := hC5.cell hci2 (fun h => h)
        have hP5 := hC5.blk HB2.out (fun h => h)
        have p1f := free_of hP5 1
        have p4 := cell_of hP5 4
        have hu5 := hC5.cell hui2 (fun h => h)
        have hu5f : w5.frozen? ⟨gu, offu + i, none⟩ = false := (World.frozen?_of_block (a := ⟨gu, offu + i, none⟩) (hC5.block gu hgul2 (fun h => h))).trans hui2f
        simp only [List.getElem?_toArray, List.getElem?_cons_zero, List.getElem?_cons_succ] at p4
        refine hK.out _ _ ?_ (fun hHeld => ?_)
        · first | exact ⟨by assumption, by assumption, by assumption, by assumption⟩ | exact ⟨cell_alj _ hHeld.1, cell_alj _ hHeld.2.1, cell_alj _ hHeld.2.2.1, cell_alj _ hHeld.2.2.2⟩
        clear hK K
        try simp only [Act.put, List.setIfInBounds_toArray, List.set_cons_zero, List.set_cons_succ, List.getElem_toArray, List.getElem_cons_zero, List.getElem_cons_succ, Nat.zero_add]
        refine wpAnyT_done (by kernel_rfl) ?_
        simp only [List.drop_succ_cons, List.drop_zero]
        have HROW5 := Lib.hid hrow5
        have HC5 := Lib.hid hC5
        clear hP5 hrow4 hgrow4 hat4 hC4 hrow5 hgrow5 hat5 hC5 q1 q2 q3 q4 e1 e3 d1 hci2 hui2 hui2f
        go_wp2_with fail
        go_region
        all_goals
          go_wp2_with fail
          go_ret
          exact ⟨rfl, w1, w5, _, _, HX1.out, HC2.out.trans HC5.out, HROW5.out, rfl⟩
      exact AllReadyT.nil
    exact AllReadyT.nil
  exact AllReadyT.nil
theorem set_used (A B : List Pc) (x : Pc) : ((A ++ x :: B).map fun y => (Value.bool y.u)).set A.length (.bool true) = (A ++ { x with u := true } :: B).map fun y => Value.bool y.u := by
  rw [List.map_append, List.map_append, List.set_append_right _ _ (by rw [List.length_map]; exact Nat.le_refl _), List.length_map, Nat.sub_self]
  rfl
theorem far_two {A B : List Pc} {x y : Pc} (h : ((A ++ x :: B).flatMap fun y => y.F).Nodup) (hy : y ∈ A ++ B) : ∀ j ∈ y.F, j ∉ x.F := by
  rw [List.flatMap_append, List.flatMap_cons, List.nodup_append, List.nodup_append] at h
  obtain ⟨h1, ⟨h2, h3, h4⟩, h5⟩ := h
  intro j hj hx
  rcases List.mem_append.1 hy with e | e
  · exact h5 j (List.mem_flatMap.2 ⟨y, e, hj⟩) j (List.mem_append_left _ hx) rfl
  · exact h4 j hx j (List.mem_flatMap.2 ⟨y, e, hj⟩) rfl
theorem unused_one (A B : List Pc) (x : Pc) (h : x.u = false) : unusedLen (A ++ { x with u := true } :: B) + x.c.length = unusedLen (A ++ x :: B) := by
  unfold unusedLen
  simp only [List.map_append, List.map_cons, List.sum_append, List.sum_cons, if_true, h, Bool.false_eq_true, if_false]
  omega
theorem join_fin {w w0 w1 w5 w9 : World} {P s gu offu capu np k : Nat} {l : Row} {lv pv cv lv' : Value} {F F' : List Nat} {A B : List Pc} {x : Pc} {B0 : Nat}
    (h : PlayAt w0 P s l l lv pv cv (.slice (some ⟨gu, offu, none⟩) np capu) F (A ++ x :: B) B0) (hxu : x.u = false) (hw : Chg (fun _ => False) w w0)
    (hs : SA w1 s (l ++ x.c) F') (hp : PA w1 x.p x.c true x.F) (ha : Chg (fun j => j ∈ F ∨ j = x.p) w0 w1) (hn : ∀ k ∈ F', k ∈ F ∨ w0.heap.size ≤ k)
    (c5 : Chg (fun _ => False) w1 w5) (r5 : RowAt w5 70 2 lv' (l.length + x.c.length) (l.flatMap rcells ++ x.c.flatMap rcells))
    (h9 : w9 = ((w5.setCell ⟨P, 1, none⟩ lv').setCell ⟨gu, offu + A.length, none⟩ (.bool true)).drewN k) (hnp : (A ++ x :: B).length = np) : Did w w9 P s l (A ++ x :: B) B0 := by
  have hxm : x ∈ A ++ x :: B := by simp
  have hpF : x.p ∈ x.F := (h.pc x hxm).mem
  have hap := h.apart
  rw [List.nodup_append] at hap
  have hgu : gu ∈ own (.slice (some ⟨gu, offu, none⟩) np capu) := by simp [own_slice]
  have tgu : tag w0 gu 4 := row_tag h.urow hgu
  have hPl : P < w0.heap.size := lt_of_block h.blk
  have hgl : gu < w0.heap.size := h.urow.lt gu rfl
  have dgP : gu ≠ P := tag_ne tgu h.tagP (by decide)
  have dPF : P ∉ F := h.st.not h.tagP (by decide)
  have dPp : P ≠ x.p := fun e => (h.pc x hxm).not h.tagP (by decide) (e ▸ hpF)
  have dgF : gu ∉ F := h.st.not tgu (by decide)
  have dgp : gu ≠ x.p := fun e => (h.pc x hxm).not tgu (by decide) (e ▸ hpF)
  have hnot : ∀ {j : Nat} {t : TypeId}, tag w0 j t → t ∉ stackTags → t ∉ pieceTags → t ≠ 4 → t ≠ 61 → ¬ (j = P ∨ j = gu ∨ j ∈ F ∨ j = x.p) := fun ht h1 h2 h3 h4 e => by
    rcases e with rfl | rfl | e | rfl
    · exact tag_ne ht h.tagP h4 rfl
    · exact tag_ne ht tgu h3 rfl
    · exact h.st.not ht h1 e
    · exact (h.pc x hxm).not ht h2 hpF
  have hnot1 : ∀ {j : Nat} {t : TypeId}, tag w0 j t → t ∉ stackTags → t ∉ pieceTags → ¬ (j ∈ F ∨ j = x.p) := fun ht h1 h2 e => by
    rcases e with e | rfl
    · exact h.st.not ht h1 e
    · exact (h.pc x hxm).not ht h2 hpF
  have z0 := hw.size
  have z1 := ha.size
  have s9 : Chg (fun j => j = P ∨ j = gu) w5 w9 := by
    rw [h9]
    exact (Chg.set (p := ⟨gu, offu + A.length, none⟩) (F := fun j => j = P ∨ j = gu) (Chg.set (p := ⟨P, 1, none⟩) (F := fun j => j = P ∨ j = gu) (Chg.refl _ w5) (fun _ => .inl rfl) _) (fun _ => .inr rfl) _).drewN k
  have k1 : Chg (fun j => j = P ∨ j = gu) w1 w9 := (c5.mono (fun _ _ e => e.elim)).trans s9
  have k0 : Chg (fun j => j = P ∨ j = gu ∨ j ∈ F ∨ j = x.p) w0 w9 := (ha.mono (fun _ _ e => .inr (.inr e))).andThen k1 (fun _ _ e => e.imp id .inl)
  have nF : ∀ k ∈ F', ¬ (k = P ∨ k = gu) := fun k hk e => by
    rcases hn k hk with h1 | h1
    · rcases e with rfl | rfl
      · exact dPF h1
      · exact dgF h1
    · rcases e with rfl | rfl <;> omega
  have hs9 := hs.chg k1 nF
  have b1 := ha.blk h.blk (hnot1 h.tagP (by decide) (by decide))
  have b5 := c5.blk b1 (fun e => e)
  have b6 := blk_set b5 1 lv'
  have b9 : w9.heap[P]? = some (.cells #[ptr s, lv', pv, cv, .slice (some ⟨gu, offu, none⟩) np capu] 61 (0, 0)) := by
    rw [h9]
    show ((w5.setCell ⟨P, 1, none⟩ lv').setCell ⟨gu, offu + A.length, none⟩ (.bool true)).heap[P]? = _
    rw [blk_set_other b6 (a := ⟨gu, offu + A.length, none⟩) (fun e => dgP e.symm)]
    simp
  have u5 : RowAt w5 4 1 (.slice (some ⟨gu, offu, none⟩) np capu) np ((A ++ x :: B).map fun y => Value.bool y.u) := by
    have h1 := h.urow.kept ha (fun j hj => hnot1 (row_tag h.urow (mem_own.2 hj)) (by decide) (by decide))
    rw [hnp] at h1
    exact h1.kept c5 (fun _ _ e => e)
  have t5 : tag w5 P 61 := ⟨_, b5⟩
  have u6 := u5.kept (Chg.set (p := ⟨P, 1, none⟩) (F := fun j => j = P) (Chg.refl _ w5) (fun _ => rfl) lv') (fun j hj e => tag_ne (row_tag u5 (mem_own.2 hj)) t5 (by decide) e)
  have hA : A.length < np := by rw [← hnp]; simp
  have u7 := u6.set A.length (by omega) (.bool true)
  rw [set_used] at u7
  have hlen : (A ++ ({ x with u := true } : Pc) :: B).length = (A ++ x :: B).length := by simp
  have hrl : RRow w5 lv' (l ++ x.c) := by unfold RRow; rw [List.length_append, List.flatMap_append]; exact r5
  have hfm : (A ++ ({ x with u := true } : Pc) :: B).flatMap (fun y => y.F) = (A ++ x :: B).flatMap (fun y => y.F) := by simp
  have hmem : ∀ y ∈ A ++ ({ x with u := true } : Pc) :: B, y = { x with u := true } ∨ (y ∈ A ++ B ∧ y ∈ A ++ x :: B) := fun y hy => by
    simp only [List.mem_append, List.mem_cons] at hy ⊢
    rcases hy with e | e | e
    · exact .inr ⟨.inl e, .inl e⟩
    · exact .inl e
    · exact .inr ⟨.inr e, .inr (.inr e)⟩
  refine ⟨l ++ x.c, lv', pv, cv, _, F', A ++ { x with u := true } :: B, ⟨b9, hs9, ?_, ?_, ?_, ?_, ?_, ?_, ?_, h.lo.1, ?_, h.lo.2.2.1, ?_⟩, ?_, ?_, by rw [hlen]; omega⟩
  · refine hrl.kept s9 (fun j hj e => ?_)
    have ht := row_tag hrl (mem_own.2 hj)
    rcases e with rfl | rfl
    · exact tag_ne ht t5 (by decide) rfl
    · exact tag_ne ht (row_tag u5 hgu) (by decide) rfl
  · rw [hlen]
    have := h.prow.kept k0 (fun j hj => hnot (row_tag h.prow (mem_own.2 hj)) (by decide) (by decide) (by decide) (by decide))
    simpa using this
  · rw [hlen]
    have := h.crow.kept k0 (fun j hj => hnot (row_tag h.crow (mem_own.2 hj)) (by decide) (by decide) (by decide) (by decide))
    simpa using this
  · rw [hlen, hnp, h9]
    exact u7.kept ((Chg.refl (fun _ => False) _).drewN k) (fun _ _ e => e)
  · intro y hy
    rcases hmem y hy with rfl | ⟨e1, e2⟩
    · exact hp.chg k1 (fun j hj e => by
        rcases e with rfl | rfl
        · exact (h.pc x hxm).not h.tagP (by decide) hj
        · exact (h.pc x hxm).not tgu (by decide) hj)
    · exact (h.pc y e2).chg k0 (fun j hj e => by
        rcases e with rfl | rfl | e | rfl
        · exact (h.pc y e2).not h.tagP (by decide) hj
        · exact (h.pc y e2).not tgu (by decide) hj
        · exact h.far y e2 j hj e
        · exact far_two hap.2.1 e1 _ hj hpF)
  · intro y hy
    have hk : ∀ {v : Value} {c : Row}, RRow w0 v c → RRow w9 v c := fun {v c} hr => hr.kept k0 (fun j hj => hnot (row_tag hr (mem_own.2 hj)) (by decide) (by decide) (by decide) (by decide))
    rcases hmem y hy with rfl | ⟨e1, e2⟩
    · exact hk (h.pr x hxm)
    · exact hk (h.pr y e2)
  · rw [hfm, List.nodup_append]
    refine ⟨hs.nodup, hap.2.1, fun a ha' b hb e => ?_⟩
    subst e
    rcases hn a ha' with h1 | h1
    · exact hap.2.2 a h1 a hb rfl
    · obtain ⟨y, hy, hj⟩ := List.mem_flatMap.1 hb
      have := (h.pc y hy).lt a hj
      omega
  · intro j hj
    rcases hn j hj with h1 | h1
    · exact h.lo.2.1 j h1
    · have := h.lo.1; omega
  · intro y hy j hj
    rcases hmem y hy with rfl | ⟨e1, e2⟩
    · exact h.lo.2.2.2 x hxm j hj
    · exact h.lo.2.2.2 y e2 j hj
  · refine (hw.mono (fun _ _ e => e.elim)).andThen k0 (fun j _ e => ?_)
    rcases e with rfl | rfl | e | rfl
    · exact h.lo.1
    · exact h.lo.2.2.1 j (by simp [own_slice])
    · exact h.lo.2.1 j e
    · exact h.lo.2.2.2 x hxm _ hpF
  · have := unused_one A B x hxu
    unfold weight
    rw [List.length_append]
    omega
theorem joinu_fin {w w0 w9 : World} {P s gu offu capu np m : Nat} {l : Row} {lv pv cv : Value} {F : List Nat} {A B : List Pc} {x : Pc} {B0 : Nat}
    (h : PlayAt w0 P s l l lv pv cv (.slice (some ⟨gu, offu, none⟩) np capu) F (A ++ x :: B) B0) (hxu : x.u = true) (hw : Chg (fun _ => False) w w0)
    (h9 : w9 = (w0.drewN m).setCell ⟨gu, offu + A.length, none⟩ (.bool true)) (hnp : (A ++ x :: B).length = np) : Did w w9 P s l (A ++ x :: B) B0 := by
  have hgu : gu ∈ own (.slice (some ⟨gu, offu, none⟩) np capu) := by simp [own_slice]
  have tgu : tag w0 gu 4 := row_tag h.urow hgu
  have k0 : Chg (fun j => j = gu) w0 w9 := by
    rw [h9]
    exact Chg.set (p := ⟨gu, offu + A.length, none⟩) (F := fun j => j = gu) ((Chg.refl _ w0).drewN m) (fun _ => rfl) _
  have hA : A.length < np := by rw [← hnp]; simp
  have hlp := h.lo
  have u0 : RowAt (w0.drewN m) 4 1 (.slice (some ⟨gu, offu, none⟩) np capu) np ((A ++ x :: B).map fun y => Value.bool y.u) := by
    have h1 := h.urow.kept ((Chg.refl (fun _ => False) w0).drewN m) (fun _ _ e => e)
    rw [hnp] at h1
    exact h1
  have u7 := u0.set A.length (by omega) (.bool true)
  rw [set_used] at u7
  have hx : ({ x with u := true } : Pc) = x := by cases x; simp only at hxu; rw [hxu]
  rw [hx] at u7
  have hn : ∀ {j : Nat} {t : TypeId}, tag w0 j t → t ≠ 4 → ¬ j = gu := fun ht h1 e => tag_ne ht tgu h1 e
  refine ⟨l, lv, pv, cv, _, F, A ++ x :: B, ⟨k0.blk h.blk (hn h.tagP (by decide)), h.st.chg k0 (fun j hj e => h.st.not tgu (by decide) (e ▸ hj)), h.row.kept k0 (fun j hj => hn (row_tag h.row (mem_own.2 hj)) (by decide)),
    h.prow.kept k0 (fun j hj => hn (row_tag h.prow (mem_own.2 hj)) (by decide)), h.crow.kept k0 (fun j hj => hn (row_tag h.crow (mem_own.2 hj)) (by decide)), ?_, fun y hy => (h.pc y hy).chg k0 (fun j hj e => (h.pc y hy).not tgu (by decide) (e ▸ hj)),
    fun y hy => (h.pr y hy).kept k0 (fun j hj => hn (row_tag (h.pr y hy) (mem_own.2 hj)) (by decide)), h.apart, h.lo⟩, ?_, by omega, by omega⟩
  · rw [hnp, h9]
    exact u7
  · refine (hw.mono (fun _ _ e => e.elim)).andThen k0 (fun j _ e => ?_)
    rw [e]
    exact h.lo.2.2.1 gu (by simp [own_slice])
theorem one_cell {w : World} {e : TypeId} {g off n cap : Nat} {xs : List Value} (h : RowAt w e 1 (.slice (some ⟨g, off, none⟩) n cap) n xs) (i : Nat) (v : Value) (hi : xs[i]? = some v) : w.cell? ⟨g, off + i, none⟩ = some v := by
  have hl := h.1
  have : i < n * 1 := by rw [← hl]; exact (List.getElem?_eq_some_iff.1 hi).1
  rw [h.cell i this, hi]
theorem does_join {w : World} {P s : Nat} {l : Row} {lv pv cv uv : Value} {F : List Nat} {pcs : List Pc} {B0 : Nat} (h : PlayAt w P s l l lv pv cv uv F pcs B0) (hl : weight l pcs ≤ 100000) (hn : pcs.length < 100000) (n : Int) :
    Calls Try.prog 26 #[.pointer (some ⟨P, 0, none⟩), actV 5 n] w fun e w' => e = .returned (.bool true) ∧ Did w w' P s l pcs B0 := by
  obtain ⟨w0, hw0⟩ : ∃ w0, w.alloc (.cells #[.int .i64 5, .int .i64 n] 64) = w0 := ⟨_, rfl⟩
  have hC0 : Chg (fun _ => False) w w0 := by rw [← hw0]; exact (Chg.refl _ w).alloc _
  have hb0 : w0.heap[w.heap.size]? = some (.cells #[.int .i64 5, .int .i64 n] 64 (0, 0)) := by rw [← hw0]; exact blk_new w _
  have h0 := h.kept hC0
  have hk0 : ∀ k, Chg (fun _ => False) w0 (w0.drewN k) := fun k => (Chg.refl _ w0).drewN k
  by_cases hr : n < 0 ∨ (pcs.length : Int) ≤ n
  · obtain ⟨ad, cap, hpv, _, _⟩ := h.prow.form
    subst hpv
    refine (joinn_walk rfl hw0 (cell_of hb0 0) (cell_of hb0 1) (cell_of h0.blk 0) (cell_of h0.blk 2) hr).mono ?_
    rintro e w' ⟨q1, m, rfl⟩
    exact ⟨q1, _, _, _, _, _, _, _, h0.kept (hk0 m), (hC0.trans (hk0 m)).mono (fun _ _ e => e.elim), by omega, by omega⟩
  · obtain ⟨i, rfl⟩ : ∃ i : Nat, n = (i : Int) := ⟨n.toNat, by omega⟩
    have hi : i < pcs.length := by omega
    obtain ⟨x, hx⟩ : ∃ x, pcs[i]? = some x := ⟨_, List.getElem?_eq_getElem hi⟩
    obtain ⟨A, B, hpcs, hA⟩ : ∃ A B, pcs = A ++ x :: B ∧ A.length = i := by
      refine ⟨pcs.take i, pcs.drop (i + 1), ?_, by rw [List.length_take]; omega⟩
      have e1 : pcs.drop i = x :: pcs.drop (i + 1) := by
        rw [List.drop_eq_getElem_cons hi]
        congr 1
        exact Option.some.inj (by rw [← List.getElem?_eq_getElem hi, hx])
      rw [← e1, List.take_append_drop]
    have hxm : x ∈ pcs := List.mem_of_getElem? hx
    obtain ⟨gp, offp, capp, hpv, _⟩ := h0.prow.formS (by omega)
    obtain ⟨gc, offc, capc, hcv, _⟩ := h0.crow.formS (by omega)
    obtain ⟨gu, offu, capu, huv, _⟩ := h0.urow.formS (by omega)
    subst hpv hcv huv
    have hpi := one_cell h0.prow i (ptr x.p) (by rw [List.getElem?_map, hx]; rfl)
    have hci := one_cell h0.crow i x.v (by rw [List.getElem?_map, hx]; rfl)
    have hui := one_cell h0.urow i (.bool x.u) (by rw [List.getElem?_map, hx]; rfl)
    cases hu : x.u with
    | true =>
      rw [hu] at hui
      refine (joinu_walk (p := x.p) rfl hw0 (cell_of hb0 0) (cell_of hb0 1) (cell_of h0.blk 0) (cell_of h0.blk 2) (cell_of h0.blk 4) hpi hui (h0.urow.free _) (fun k => ?_) hi hn).mono ?_
      · have hpa := (h0.kept (hk0 k)).pc x hxm
        rw [hu] at hpa
        exact join_used hpa
      · rintro e w' ⟨q1, m, q2⟩
        rw [hpcs] at h0 ⊢
        exact ⟨q1, joinu_fin h0 hu hC0 (by rw [hA]; exact q2) (by rw [← hpcs])⟩
    | false =>
      rw [hu] at hui
      obtain ⟨adc, capc', hxv, _, _⟩ := (h0.pr x hxm).form
      obtain ⟨adl, capl, hlv, _, _⟩ := h0.row.form
      subst hlv
      rw [hxv] at hci
      have hxF := (h0.pc x hxm)
      rw [hu] at hxF
      have hpF : x.p ∈ x.F := hxF.mem
      have hcl : x.c.length ≤ unusedLen pcs := by
        rw [hpcs, ← unused_one A B x hu]; omega
      have hgu : gu ∈ own (.slice (some ⟨gu, offu, none⟩) pcs.length capu) := by simp [own_slice]
      have tgu : tag w0 gu 4 := row_tag h0.urow hgu
      have hX1 : ∀ W, Chg (fun _ => False) w0 W → Calls Try.prog 32 #[.pointer (some ⟨s, 0, none⟩), .pointer (some ⟨x.p, 0, none⟩)] W fun e w' => e = .returned (.bool true) ∧
          ∃ F', SA w' s (l ++ x.c) F' ∧ PA w' x.p x.c true x.F ∧ Chg (fun j => j ∈ F ∨ j = x.p) w0 w' ∧ ∀ k ∈ F', k ∈ F ∨ w0.heap.size ≤ k := fun W hW => by
        have hpW := (h0.kept hW).pc x hxm
        rw [hu] at hpW
        refine (join_abs (h0.kept hW).st hpW (fun j hj k hk e => h0.far x hxm k hk (e ▸ hj)) (by unfold weight at hl; omega)).mono ?_
        rintro e w' ⟨q1, F', q2, q3, q4, q5⟩
        exact ⟨q1, F', q2, q3, (hW.mono (fun _ _ e => e.elim)).trans q4, fun k hk => (q5 k hk).imp id (fun e => Nat.le_trans hW.size e)⟩
      have hnot1 : ∀ {j : Nat} {t : TypeId}, tag w0 j t → t ∉ stackTags → t ∉ pieceTags → ¬ (j ∈ F ∨ j = x.p) := fun ht h1 h2 e => by
        rcases e with e | rfl
        · exact h0.st.not ht h1 e
        · exact hxF.not ht h2 hpF
      refine (joind_walk (p := x.p) (i := i) (l := l) (c := x.c) (adl := adl) (cap := capl) (gc := gc) (offc := offc) (capv := capc) (gu := gu) (offu := offu) (capu := capu) (adc := adc) (capc := capc') (nl := l.length) (nc := x.c.length) (X := fun w' => ∃ F', SA w' s (l ++ x.c) F' ∧ PA w' x.p x.c true x.F ∧ Chg (fun j => j ∈ F ∨ j = x.p) w0 w' ∧ ∀ k ∈ F', k ∈ F ∨ w0.heap.size ≤ k)
        rfl hw0 (cell_of hb0 0) (cell_of hb0 1) (cell_of h0.blk 0) (cell_of h0.blk 2) hpi hX1 ?_ hi hn (by unfold weight at hl; omega) (tag_ne tgu h0.tagP (by decide))).mono ?_
      · rintro w1 ⟨F', q2, q3, q4, q5⟩
        have hh := fun {e : TypeId} {sz : Nat} {v : Value} {k : Nat} {xs : List Value} (hr : RowAt w0 e sz v k xs) (h1 : e ∉ stackTags) (h2 : e ∉ pieceTags) => hr.kept q4 (fun j hj => hnot1 (row_tag hr (mem_own.2 hj)) h1 h2)
        have hxr := h0.pr x hxm
        have hxr2 : RRow w1 x.v x.c := hh hxr (by decide) (by decide)
        unfold RRow at hxr2
        rw [hxv] at hxr2
        have u1 := hh h0.urow (by decide) (by decide)
        refine ⟨q4.blk hb0 (hnot1 ⟨_, hb0⟩ (by decide) (by decide)), q4.blk h0.blk (hnot1 h0.tagP (by decide) (by decide)), hh h0.row (by decide) (by decide), hxr2, one_cell (hh h0.prow (by decide) (by decide)) i _ (by rw [List.getElem?_map, hx]; rfl), one_cell (hh h0.crow (by decide) (by decide)) i _ (by rw [List.getElem?_map, hx, ← hxv]; rfl), ?_, u1.free _⟩
        exact one_cell u1 i _ (by rw [List.getElem?_map, hx, ← hu]; rfl)
      · rintro e w' ⟨q1, w1, w5, lv', k, ⟨F', t1, t2, t3, t4⟩, c5, r5, hf⟩
        rw [hpcs] at h0 ⊢
        exact ⟨q1, join_fin h0 hu hC0 t1 t2 t3 t4 c5 r5 (by rw [hA]; exact hf) (by rw [← hpcs])⟩
end Go.Proofs.Ytkidnmjaioejaaa.Sg
