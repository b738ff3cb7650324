/- does, walked, for Push and Mark. Condition: the play is known. -/
import Derived.Test.YtkidnmjaioejaaaPlayDoes
import Derived.Test.YtkidnmjaioejaaaRow2
import Derived.Test.YtkidnmjaioejaaaRegT
namespace Go.Proofs.Ytkidnmjaioejaaa.Sg
set_option linter.unusedVariables false
set_option linter.unusedSimpArgs false
open Go.RowKit Go.Proofs.Ytkidnmjaioejaaa.Mem

abbrev putF (b : Bool) : FuncId := if b then 34 else 33
theorem put_calls {w : World} {s : Nat} {l : Row} {F : List Nat} (h : SA w s l F) (b : Bool) (n : Int) (hl : l.length < 100000) :
    Calls Try.prog (putF b) #[.pointer (some ⟨s, 0, none⟩), .int .i64 n] w fun e w' => (∃ u, e = .returned u) ∧ ∃ F', SA w' s (l ++ [(b, n)]) F' ∧ After w w' F F' := by
  cases b with
  | true => exact mark_abs h n hl
  | false => exact push_abs h n hl
theorem row_one (w : World) (B : Nat) (h : w.heap[B]? = some (.cells #[] 70 (0, 0))) : RowAt w 70 2 (.slice (some ⟨B, 0, none⟩) 0 0) 0 [] :=
  ⟨rfl, .inr ⟨B, 0, 0, #[], rfl, h, Nat.le_refl _, Nat.zero_le _, Nat.le_refl _, rfl⟩⟩
theorem row_act (w : World) (B : Nat) (b : Bool) (n : Int) (h : w.heap[B]? = some (.cells #[.bool b, .int .i64 n] 70 (0, 0))) : RowAt w 70 2 (.slice (some ⟨B, 0, none⟩) 1 1) 1 [.bool b, .int .i64 n] :=
  ⟨rfl, .inr ⟨B, 0, 1, _, rfl, h, Nat.le_refl _, by unfold maxLen; omega, Nat.le_refl _, rfl⟩⟩
theorem rcells_one (l : Row) : ∀ u ∈ l.flatMap rcells, u.oneCell' = true := by
  intro u hu
  obtain ⟨x, _, hx⟩ := List.mem_flatMap.1 hu
  simp only [rcells, List.mem_cons, List.not_mem_nil, or_false] at hx
  rcases hx with rfl | rfl <;> rfl
theorem new_at (w : World) (o : Obj) (B : Nat) (h : w.heap.size = B) : (w.alloc o).heap[B]? = some o := by
  subst h
  exact blk_new w o
theorem cell_sto {w : World} {b P i j : Nat} {u : Value} (hne : b ≠ P) (x : Value) (h : w.cell? ⟨b, i, none⟩ = some u) : (w.setCell ⟨P, j, none⟩ x).cell? ⟨b, i, none⟩ = some u :=
  (World.cell?_of_block (w := w) (w' := w.setCell ⟨P, j, none⟩ x) (a := ⟨b, i, none⟩) (Below.heap_setCell _ _ _ _ hne)).trans h
theorem put_own {v v0 : Value} {H B k : Nat} {w : World} (h : ∀ g, v.ownBlock = some g → (v0.ownBlock = some g ∨ g = H) ∧ g < w.heap.size) (e : v.ownBlock = some k) (h0 : ∀ g, v0.ownBlock = some g → B ≤ g) (hH : B ≤ H) : B ≤ k := by
  rcases (h k e).1 with h1 | h1
  · exact h0 k h1
  · omega
set_option maxRecDepth 100000 in
set_option maxHeartbeats 8000000 in
theorem push_walk {w w0 : World} {P s A nl cap : Nat} {adl : Option Addr} {n : Int} {l : Row} {X : World → Prop} (hA : A = w.heap.size) (hw0 : w.alloc (.cells #[.int .i64 0, .int .i64 n] 64) = w0)
    (a0 : w0.cell? ⟨A, 0, none⟩ = some (.int .i64 0)) (a1 : w0.cell? ⟨A, 1, none⟩ = some (.int .i64 n)) (c0 : w0.cell? ⟨P, 0, none⟩ = some (.pointer (some ⟨s, 0, none⟩)))
    (hP : ∀ W, Chg (fun _ => False) w0 W → Calls Try.prog 33 #[.pointer (some ⟨s, 0, none⟩), .int .i64 n] W fun e w' => (∃ u, e = .returned u) ∧ X w')
    (hX : ∀ w1, X w1 → w1.heap[A]? = some (.cells #[.int .i64 0, .int .i64 n] 64 (0, 0)) ∧ w1.cell? ⟨P, 1, none⟩ = some (.slice adl nl cap) ∧ w1.frozen? ⟨P, 1, none⟩ = false ∧ RowAt w1 70 2 (.slice adl nl cap) nl (l.flatMap rcells) ∧ w1.cell? ⟨P, 0, none⟩ = some (.pointer (some ⟨s, 0, none⟩)))
    (hk : nl < 100000) :
    Calls Try.prog 26 #[.pointer (some ⟨P, 0, none⟩), actV 0 n] w fun e w' => e = .returned (.bool true) ∧ ∃ w1 w5 lv', X w1 ∧ Chg (fun _ => False) w1 w5 ∧ RowAt w5 70 2 lv' (nl + 1) ((l ++ [(false, n)]).flatMap rcells) ∧ w' = w5.setCell ⟨P, 1, none⟩ lv' := by
  subst hA
  have HP := Lib.hid hP
  have HX := Lib.hid hX
  obtain ⟨iR, hj0, hj1, hj2, hj3⟩ := info_parts infoR
  have H1 := Lib.hid (rcells_one l)
  clear hP hX
  unfold actV
  go_enter Try.func26, Try.ntmps26
  go_wp2_with fail
  go_region_held3 (fun W => W.cell? ⟨P, 0, none⟩ = some (.pointer (some ⟨s, 0, none⟩)) ∧ W.cell? ⟨w.heap.size, 1, none⟩ = some (.int .i64 n))
    (first | exact ⟨by assumption, by assumption⟩ | go_keep)
    ((go_at_call 33; refine (HP.out _ ?hc).mono ?_; (case hc => first | exact Chg.refl _ _ | exact (Chg.refl _ _).drew | exact (Chg.refl _ _).drewN _); rintro e w1 ⟨⟨u, rfl⟩, hx1⟩; have HX1 := Lib.hid hx1; obtain ⟨b0, b1, b2, b3, b4⟩ := HX.out w1 hx1; have d0 := cell_of b0 0; have d1 := cell_of b0 1; simp only [List.getElem?_toArray, List.getElem?_cons_zero, List.getElem?_cons_succ] at d0 d1))
  have HB3 := Lib.hid b3
  have hA1 : w.heap.size < w1.heap.size := lt_of_block b0
  have hPl : P < w1.heap.size := World.block_lt_of_cell? w1 _ b1
  clear hx1 b0 b3 a0 a1 c0 hw0 HP HX
  go_wp2_with fail
  refine wp_region_T (S := fun W => W.cell? ⟨P, 1, none⟩ = some (.slice adl nl cap) ∧ W.cell? ⟨w.heap.size, 0, none⟩ = some (.int .i64 0) ∧ W.cell? ⟨w.heap.size, 1, none⟩ = some (.int .i64 n)) 15 3 rfl (by kernel_rfl) ?_ (fun hHeld => ?_)
  · exact ⟨by assumption, by assumption, by assumption⟩
  refine wpAnyT_take (i := 0) (v := ?tv1) rfl (by kernel_rfl) (by decide) (by kernel_rfl) (by kernel_rfl) (fun _ _ _ h => h) (Or.inl ⟨by rfl, ?ty1⟩) (by assumption) ?tr1
  case ty1 => intro w hSw; (try dsimp only at hSw); go_simp; (try with_reducible rfl)
  try simp only [Act.put, List.setIfInBounds_toArray, List.set_cons_zero, List.set_cons_succ, List.getElem_toArray, List.getElem_cons_zero, List.getElem_cons_succ, Nat.zero_add]
  refine wpAnyT_take (i := 2) (v := ?tv2) rfl (by kernel_rfl) (by decide) (by kernel_rfl) (by kernel_rfl) (fun _ _ _ h => h) (Or.inl ⟨by rfl, ?ty2⟩) (by assumption) ?tr2
  case ty2 => intro w hSw; (try dsimp only at hSw); go_simp; (try with_reducible rfl)
  try simp only [Act.put, List.setIfInBounds_toArray, List.set_cons_zero, List.set_cons_succ, List.getElem_toArray, List.getElem_cons_zero, List.getElem_cons_succ, Nat.zero_add]
  refine wpAnyT_take (i := 3) (v := ?tv3) rfl (by kernel_rfl) (by decide) (by kernel_rfl) (by kernel_rfl) (fun _ _ _ h => h) (Or.inl ⟨by rfl, ?ty3⟩) (by assumption) ?tr3
  case ty3 => intro w hSw; (try dsimp only at hSw); go_simp; (try with_reducible rfl)
  try simp only [Act.put, List.setIfInBounds_toArray, List.set_cons_zero, List.set_cons_succ, List.getElem_toArray, List.getElem_cons_zero, List.getElem_cons_succ, Nat.zero_add]
  refine wpAnyT_take (i := 4) (v := ?tv4) rfl (by kernel_rfl) (by decide) (by kernel_rfl) (by kernel_rfl) (fun _ _ _ h => h) (Or.inl ⟨by rfl, ?ty4⟩) (by assumption) ?tr4
  case ty4 => intro w hSw; (try dsimp only at hSw); go_simp; (try with_reducible rfl)
  try simp only [Act.put, List.setIfInBounds_toArray, List.set_cons_zero, List.set_cons_succ, List.getElem_toArray, List.getElem_cons_zero, List.getElem_cons_succ, Nat.zero_add]
  refine wpAnyT_take (i := 5) (v := ?tv5) rfl (by kernel_rfl) (by decide) (by kernel_rfl) (by kernel_rfl) (fun _ _ _ h => h) (Or.inl ⟨by rfl, ?ty5⟩) (by assumption) ?tr5
  case ty5 => intro w hSw; (try dsimp only at hSw); go_simp; (try with_reducible rfl)
  try simp only [Act.put, List.setIfInBounds_toArray, List.set_cons_zero, List.set_cons_succ, List.getElem_toArray, List.getElem_cons_zero, List.getElem_cons_succ, Nat.zero_add]
  refine wpAnyT_take (i := 7) (v := ?tv6) rfl (by kernel_rfl) (by decide) (by kernel_rfl) (by kernel_rfl) (fun _ _ _ h => h) (Or.inl ⟨by rfl, ?ty6⟩) (by assumption) ?tr6
  case ty6 => intro w hSw; (try dsimp only at hSw); go_simp; (try with_reducible rfl)
  try simp only [Act.put, List.setIfInBounds_toArray, List.set_cons_zero, List.set_cons_succ, List.getElem_toArray, List.getElem_cons_zero, List.getElem_cons_succ, Nat.zero_add]
  refine wpAnyT_take (i := 8) (v := ?tv7) rfl (by kernel_rfl) (by decide) (by kernel_rfl) (by kernel_rfl) (fun _ _ _ h => h) (Or.inl ⟨by rfl, ?ty7⟩) (by assumption) ?tr7
  case ty7 => intro w hSw; (try dsimp only at hSw); go_simp; (try with_reducible rfl)
  try simp only [Act.put, List.setIfInBounds_toArray, List.set_cons_zero, List.set_cons_succ, List.getElem_toArray, List.getElem_cons_zero, List.getElem_cons_succ, Nat.zero_add]
  refine wpAnyT_take (i := 9) (v := ?tv8) rfl (by kernel_rfl) (by decide) (by kernel_rfl) (by kernel_rfl) (fun _ _ _ h => h) (Or.inl ⟨by rfl, ?ty8⟩) (by assumption) ?tr8
  case ty8 => intro w hSw; (try dsimp only at hSw); go_simp; (try with_reducible rfl)
  try simp only [Act.put, List.setIfInBounds_toArray, List.set_cons_zero, List.set_cons_succ, List.getElem_toArray, List.getElem_cons_zero, List.getElem_cons_succ, Nat.zero_add]
  refine wpAnyT_take (i := 10) (v := ?tv9) rfl (by kernel_rfl) (by decide) (by kernel_rfl) (by kernel_rfl) (fun _ _ _ h => h) (Or.inl ⟨by rfl, ?ty9⟩) (by assumption) ?tr9
  case ty9 => intro w hSw; (try dsimp only at hSw); go_simp; (try with_reducible rfl)
  try simp only [Act.put, List.setIfInBounds_toArray, List.set_cons_zero, List.set_cons_succ, List.getElem_toArray, List.getElem_cons_zero, List.getElem_cons_succ, Nat.zero_add]
  refine wpAnyT_take (i := 11) (v := ?tv10) rfl (by kernel_rfl) (by decide) (by kernel_rfl) (by kernel_rfl) (fun _ _ _ h => h) (Or.inl ⟨by rfl, ?ty10⟩) (by assumption) ?tr10
  case ty10 => intro w hSw; (try dsimp only at hSw); go_simp; (try with_reducible rfl)
  try simp only [Act.put, List.setIfInBounds_toArray, List.set_cons_zero, List.set_cons_succ, List.getElem_toArray, List.getElem_cons_zero, List.getElem_cons_succ, Nat.zero_add]
  refine wpAnyT_take (i := 12) (v := ?tv11) rfl (by kernel_rfl) (by decide) (by kernel_rfl) (by kernel_rfl) (fun _ _ _ h => h) (Or.inl ⟨by rfl, ?ty11⟩) (by assumption) ?tr11
  case ty11 => intro w hSw; (try dsimp only at hSw); go_simp; (try with_reducible rfl)
  try simp only [Act.put, List.setIfInBounds_toArray, List.set_cons_zero, List.set_cons_succ, List.getElem_toArray, List.getElem_cons_zero, List.getElem_cons_succ, Nat.zero_add]
  refine wpAnyT_ready (rs := [1, 13]) (by kernel_rfl) (by kernel_rfl) ?_
  refine AllReadyT.cons rfl (fun K hK => ?_) ?_
  · go_simp
    refine hK.out _ _ ?_ (fun hHeld => ?_)
    · first | exact ⟨by assumption, by assumption, by assumption⟩ | exact ⟨cell_alj _ hHeld.1, cell_alj _ hHeld.2.1, cell_alj _ hHeld.2.2⟩
    clear hK K
    try simp only [Act.put, List.setIfInBounds_toArray, List.set_cons_zero, List.set_cons_succ, List.getElem_toArray, List.getElem_cons_zero, List.getElem_cons_succ, Nat.zero_add]
    refine wpAnyT_ready (rs := [6, 13]) (by kernel_rfl) (by kernel_rfl) ?_
    refine AllReadyT.cons rfl (fun K hK => ?_) ?_
    · refine step_append_rows _ (by rfl) _ _ _ (by rfl) 70 iR _ 2 16 Try.underlying56 hj0 hj1 hj2 hj3 rfl (by omega) _ 0 [] (by rfl) (row_one _ _ ?nb) 70 (.slice adl nl cap) nl (l.flatMap rcells) (by rfl) (HB3.out.kept ?nc (fun _ _ h => h)) H1.out (by unfold maxLen; omega) (by omega) _ (by rfl) ?_
      case nb => first | exact new_at _ _ _ (by simp) | exact blk_alloc (new_at _ _ _ (by simp)) _
      case nc => (repeat (first | exact Chg.refl _ _ | apply Chg.alloc | apply Chg.drew | apply Chg.drewN))
      intro ad1 cap1 w3 hrow3 hgrow3 hat3
      simp only [Nat.zero_add, List.nil_append] at hrow3 hat3 hgrow3
      have hC3 : Chg (fun _ => False) w1 w3 := (by refine Chg.grown ?_ hgrow3 (fun k hk e => ?_); (focus (repeat (first | exact Chg.refl _ _ | apply Chg.alloc | apply Chg.drew | apply Chg.drewN))); (simp [Value.ownBlock] at e; try omega))
      have HG3 := Lib.hid hgrow3
      have q2 := hC3.cell d0 (fun h => h)
      have q3 := hC3.cell d1 (fun h => h)
      have q1 := hC3.cell b1 (fun h => h)
      refine hK.out _ _ ?_ (fun hHeld => ?_)
      · first | exact ⟨by assumption, by assumption, by assumption⟩ | exact ⟨cell_alj _ hHeld.1, cell_alj _ hHeld.2.1, cell_alj _ hHeld.2.2⟩
      clear hK K
      try simp only [Act.put, List.setIfInBounds_toArray, List.set_cons_zero, List.set_cons_succ, List.getElem_toArray, List.getElem_cons_zero, List.getElem_cons_succ, Nat.zero_add]
      refine wpAnyT_ready (rs := [13]) (by kernel_rfl) (by kernel_rfl) ?_
      refine AllReadyT.cons rfl (fun K hK => ?_) ?_
      · go_simp
        refine hK.out _ _ ?_ (fun hHeld => ?_)
        · first | exact ⟨by assumption, by assumption, by assumption⟩ | exact ⟨cell_alj _ hHeld.1, cell_alj _ hHeld.2.1, cell_alj _ hHeld.2.2⟩
        clear hK K
        try simp only [Act.put, List.setIfInBounds_toArray, List.set_cons_zero, List.set_cons_succ, List.getElem_toArray, List.getElem_cons_zero, List.getElem_cons_succ, Nat.zero_add]
        refine wpAnyT_ready (rs := [14]) (by kernel_rfl) (by kernel_rfl) ?_
        refine AllReadyT.cons rfl (fun K hK => ?_) ?_
        · refine step_append_rows _ (by rfl) _ _ _ (by rfl) 70 iR _ 2 16 Try.underlying56 hj0 hj1 hj2 hj3 rfl (by omega) (.slice ad1 nl cap1) nl (l.flatMap rcells) (by rfl) (hrow3.kept ?nc (fun _ _ h => h)) 70 _ 1 [.bool false, .int .i64 n] (by rfl) (row_act _ _ _ _ ?nb) (by simp [Value.oneCell']) (by unfold maxLen; omega) (by omega) _ (by rfl) ?_
          case nb => first | exact new_at _ _ _ (by simp) | exact blk_grown HG3.out (new_at _ _ _ (by simp)) (by simp [Value.ownBlock]; try omega) | exact blk_grown HG3.out (blk_alloc (new_at _ _ _ (by simp)) _) (by simp [Value.ownBlock]; try omega)
          case nc => (repeat (first | exact Chg.refl _ _ | apply Chg.alloc | apply Chg.drew | apply Chg.drewN))
          intro ad2 cap2 w5 hrow5 hgrow5 hat5
          have hC5 : Chg (fun _ => False) w1 w5 := (by refine Chg.grown ?_ hgrow5 (fun k hk e => ?_); (focus (repeat (first | exact hC3 | exact Chg.refl _ _ | apply Chg.alloc | apply Chg.drew | apply Chg.drewN))); exact (Nat.not_lt.2 (put_own hat3 e (fun g hg => (by simp [Value.ownBlock] at hg; try omega)) (by simp; try omega)) hk).elim)
          have r1 := hC5.cell b1 (fun h => h)
          have r2 := hC5.cell d0 (fun h => h)
          have r3 := hC5.cell d1 (fun h => h)
          have r4 : w5.frozen? ⟨P, 1, none⟩ = false := (World.frozen?_of_block (a := ⟨P, 1, none⟩) (hC5.block P hPl (fun h => h))).trans b2
          refine hK.out _ _ ?_ (fun hHeld => ?_)
          · first | exact ⟨by assumption, by assumption, by assumption⟩ | exact ⟨cell_alj _ hHeld.1, cell_alj _ hHeld.2.1, cell_alj _ hHeld.2.2⟩
          clear hK K
          try simp only [Act.put, List.setIfInBounds_toArray, List.set_cons_zero, List.set_cons_succ, List.getElem_toArray, List.getElem_cons_zero, List.getElem_cons_succ, Nat.zero_add]
          refine wpAnyT_done (by kernel_rfl) ?_
          simp only [List.drop_succ_cons, List.drop_zero]
          have hR5 : RowAt w5 70 2 (.slice ad2 (nl + 1) cap2) (nl + 1) ((l ++ [(false, n)]).flatMap rcells) := (by rw [List.flatMap_append]; simpa [rcells] using hrow5)
          have HR5 := Lib.hid hR5
          have HC5 := Lib.hid hC5
          clear hR5 hrow5 hgrow5 hat5 hC5 hrow3 hgrow3 hat3 hC3 HG3
          go_wp2_with fail
          go_ret
          exact ⟨rfl, w1, w5, _, HX1.out, HC5.out, HR5.out, rfl⟩
        exact AllReadyT.nil
      exact AllReadyT.nil
    refine AllReadyT.cons rfl (fun K hK => ?_) ?_
    · go_simp
      refine hK.out _ _ ?_ (fun hHeld => ?_)
      · first | exact ⟨by assumption, by assumption, by assumption⟩ | exact ⟨cell_alj _ hHeld.1, cell_alj _ hHeld.2.1, cell_alj _ hHeld.2.2⟩
      clear hK K
      try simp only [Act.put, List.setIfInBounds_toArray, List.set_cons_zero, List.set_cons_succ, List.getElem_toArray, List.getElem_cons_zero, List.getElem_cons_succ, Nat.zero_add]
      refine wpAnyT_ready (rs := [6]) (by kernel_rfl) (by kernel_rfl) ?_
      refine AllReadyT.cons rfl (fun K hK => ?_) ?_
      · refine step_append_rows _ (by rfl) _ _ _ (by rfl) 70 iR _ 2 16 Try.underlying56 hj0 hj1 hj2 hj3 rfl (by omega) _ 0 [] (by rfl) (row_one _ _ ?nb) 70 (.slice adl nl cap) nl (l.flatMap rcells) (by rfl) (HB3.out.kept ?nc (fun _ _ h => h)) H1.out (by unfold maxLen; omega) (by omega) _ (by rfl) ?_
        case nb => first | exact new_at _ _ _ (by simp) | exact blk_alloc (new_at _ _ _ (by simp)) _
        case nc => (repeat (first | exact Chg.refl _ _ | apply Chg.alloc | apply Chg.drew | apply Chg.drewN))
        intro ad1 cap1 w3 hrow3 hgrow3 hat3
        simp only [Nat.zero_add, List.nil_append] at hrow3 hat3 hgrow3
        have hC3 : Chg (fun _ => False) w1 w3 := (by refine Chg.grown ?_ hgrow3 (fun k hk e => ?_); (focus (repeat (first | exact Chg.refl _ _ | apply Chg.alloc | apply Chg.drew | apply Chg.drewN))); (simp [Value.ownBlock] at e; try omega))
        have HG3 := Lib.hid hgrow3
        have q2 := hC3.cell d0 (fun h => h)
        have q3 := hC3.cell d1 (fun h => h)
        have q1 := hC3.cell b1 (fun h => h)
        refine hK.out _ _ ?_ (fun hHeld => ?_)
        · first | exact ⟨by assumption, by assumption, by assumption⟩ | exact ⟨cell_alj _ hHeld.1, cell_alj _ hHeld.2.1, cell_alj _ hHeld.2.2⟩
        clear hK K
        try simp only [Act.put, List.setIfInBounds_toArray, List.set_cons_zero, List.set_cons_succ, List.getElem_toArray, List.getElem_cons_zero, List.getElem_cons_succ, Nat.zero_add]
        refine wpAnyT_ready (rs := [14]) (by kernel_rfl) (by kernel_rfl) ?_
        refine AllReadyT.cons rfl (fun K hK => ?_) ?_
        · refine step_append_rows _ (by rfl) _ _ _ (by rfl) 70 iR _ 2 16 Try.underlying56 hj0 hj1 hj2 hj3 rfl (by omega) (.slice ad1 nl cap1) nl (l.flatMap rcells) (by rfl) (hrow3.kept ?nc (fun _ _ h => h)) 70 _ 1 [.bool false, .int .i64 n] (by rfl) (row_act _ _ _ _ ?nb) (by simp [Value.oneCell']) (by unfold maxLen; omega) (by omega) _ (by rfl) ?_
          case nb => first | exact new_at _ _ _ (by simp) | exact blk_grown HG3.out (new_at _ _ _ (by simp)) (by simp [Value.ownBlock]; try omega) | exact blk_grown HG3.out (blk_alloc (new_at _ _ _ (by simp)) _) (by simp [Value.ownBlock]; try omega)
          case nc => (repeat (first | exact Chg.refl _ _ | apply Chg.alloc | apply Chg.drew | apply Chg.drewN))
          intro ad2 cap2 w5 hrow5 hgrow5 hat5
          have hC5 : Chg (fun _ => False) w1 w5 := (by refine Chg.grown ?_ hgrow5 (fun k hk e => ?_); (focus (repeat (first | exact hC3 | exact Chg.refl _ _ | apply Chg.alloc | apply Chg.drew | apply Chg.drewN))); exact (Nat.not_lt.2 (put_own hat3 e (fun g hg => (by simp [Value.ownBlock] at hg; try omega)) (by simp; try omega)) hk).elim)
          have r1 := hC5.cell b1 (fun h => h)
          have r2 := hC5.cell d0 (fun h => h)
          have r3 := hC5.cell d1 (fun h => h)
          have r4 : w5.frozen? ⟨P, 1, none⟩ = false := (World.frozen?_of_block (a := ⟨P, 1, none⟩) (hC5.block P hPl (fun h => h))).trans b2
          refine hK.out _ _ ?_ (fun hHeld => ?_)
          · first | exact ⟨by assumption, by assumption, by assumption⟩ | exact ⟨cell_alj _ hHeld.1, cell_alj _ hHeld.2.1, cell_alj _ hHeld.2.2⟩
          clear hK K
          try simp only [Act.put, List.setIfInBounds_toArray, List.set_cons_zero, List.set_cons_succ, List.getElem_toArray, List.getElem_cons_zero, List.getElem_cons_succ, Nat.zero_add]
          refine wpAnyT_done (by kernel_rfl) ?_
          simp only [List.drop_succ_cons, List.drop_zero]
          have hR5 : RowAt w5 70 2 (.slice ad2 (nl + 1) cap2) (nl + 1) ((l ++ [(false, n)]).flatMap rcells) := (by rw [List.flatMap_append]; simpa [rcells] using hrow5)
          have HR5 := Lib.hid hR5
          have HC5 := Lib.hid hC5
          clear hR5 hrow5 hgrow5 hat5 hC5 hrow3 hgrow3 hat3 hC3 HG3
          go_wp2_with fail
          go_ret
          exact ⟨rfl, w1, w5, _, HX1.out, HC5.out, HR5.out, rfl⟩
        exact AllReadyT.nil
      exact AllReadyT.nil
    exact AllReadyT.nil
  refine AllReadyT.cons rfl (fun K hK => ?_) ?_
  · go_simp
    refine hK.out _ _ ?_ (fun hHeld => ?_)
    · first | exact ⟨by assumption, by assumption, by assumption⟩ | exact ⟨cell_alj _ hHeld.1, cell_alj _ hHeld.2.1, cell_alj _ hHeld.2.2⟩
    clear hK K
    try simp only [Act.put, List.setIfInBounds_toArray, List.set_cons_zero, List.set_cons_succ, List.getElem_toArray, List.getElem_cons_zero, List.getElem_cons_succ, Nat.zero_add]
    refine wpAnyT_ready (rs := [1]) (by kernel_rfl) (by kernel_rfl) ?_
    refine AllReadyT.cons rfl (fun K hK => ?_) ?_
    · go_simp
      refine hK.out _ _ ?_ (fun hHeld => ?_)
      · first | exact ⟨by assumption, by assumption, by assumption⟩ | exact ⟨cell_alj _ hHeld.1, cell_alj _ hHeld.2.1, cell_alj _ hHeld.2.2⟩
      clear hK K
      try simp only [Act.put, List.setIfInBounds_toArray, List.set_cons_zero, List.set_cons_succ, List.getElem_toArray, List.getElem_cons_zero, List.getElem_cons_succ, Nat.zero_add]
      refine wpAnyT_ready (rs := [6]) (by kernel_rfl) (by kernel_rfl) ?_
      refine AllReadyT.cons rfl (fun K hK => ?_) ?_
      · refine step_append_rows _ (by rfl) _ _ _ (by rfl) 70 iR _ 2 16 Try.underlying56 hj0 hj1 hj2 hj3 rfl (by omega) _ 0 [] (by rfl) (row_one _ _ ?nb) 70 (.slice adl nl cap) nl (l.flatMap rcells) (by rfl) (HB3.out.kept ?nc (fun _ _ h => h)) H1.out (by unfold maxLen; omega) (by omega) _ (by rfl) ?_
        case nb => first | exact new_at _ _ _ (by simp) | exact blk_alloc (new_at _ _ _ (by simp)) _
        case nc => (repeat (first | exact Chg.refl _ _ | apply Chg.alloc | apply Chg.drew | apply Chg.drewN))
        intro ad1 cap1 w3 hrow3 hgrow3 hat3
        simp only [Nat.zero_add, List.nil_append] at hrow3 hat3 hgrow3
        have hC3 : Chg (fun _ => False) w1 w3 := (by refine Chg.grown ?_ hgrow3 (fun k hk e => ?_); (focus (repeat (first | exact Chg.refl _ _ | apply Chg.alloc | apply Chg.drew | apply Chg.drewN))); (simp [Value.ownBlock] at e; try omega))
        have HG3 := Lib.hid hgrow3
        have q2 := hC3.cell d0 (fun h => h)
        have q3 := hC3.cell d1 (fun h => h)
        have q1 := hC3.cell b1 (fun h => h)
        refine hK.out _ _ ?_ (fun hHeld => ?_)
        · first | exact ⟨by assumption, by assumption, by assumption⟩ | exact ⟨cell_alj _ hHeld.1, cell_alj _ hHeld.2.1, cell_alj _ hHeld.2.2⟩
        clear hK K
        try simp only [Act.put, List.setIfInBounds_toArray, List.set_cons_zero, List.set_cons_succ, List.getElem_toArray, List.getElem_cons_zero, List.getElem_cons_succ, Nat.zero_add]
        refine wpAnyT_ready (rs := [14]) (by kernel_rfl) (by kernel_rfl) ?_
        refine AllReadyT.cons rfl (fun K hK => ?_) ?_
        · refine step_append_rows _ (by rfl) _ _ _ (by rfl) 70 iR _ 2 16 Try.underlying56 hj0 hj1 hj2 hj3 rfl (by omega) (.slice ad1 nl cap1) nl (l.flatMap rcells) (by rfl) (hrow3.kept ?nc (fun _ _ h => h)) 70 _ 1 [.bool false, .int .i64 n] (by rfl) (row_act _ _ _ _ ?nb) (by simp [Value.oneCell']) (by unfold maxLen; omega) (by omega) _ (by rfl) ?_
          case nb => first | exact new_at _ _ _ (by simp) | exact blk_grown HG3.out (new_at _ _ _ (by simp)) (by simp [Value.ownBlock]; try omega) | exact blk_grown HG3.out (blk_alloc (new_at _ _ _ (by simp)) _) (by simp [Value.ownBlock]; try omega)
          case nc => (repeat (first | exact Chg.refl _ _ | apply Chg.alloc | apply Chg.drew | apply Chg.drewN))
          intro ad2 cap2 w5 hrow5 hgrow5 hat5
          have hC5 : Chg (fun _ => False) w1 w5 := (by refine Chg.grown ?_ hgrow5 (fun k hk e => ?_); (focus (repeat (first | exact hC3 | exact Chg.refl _ _ | apply Chg.alloc | apply Chg.drew | apply Chg.drewN))); exact (Nat.not_lt.2 (put_own hat3 e (fun g hg => (by simp [Value.ownBlock] at hg; try omega)) (by simp; try omega)) hk).elim)
          have r1 := hC5.cell b1 (fun h => h)
          have r2 := hC5.cell d0 (fun h => h)
          have r3 := hC5.cell d1 (fun h => h)
          have r4 : w5.frozen? ⟨P, 1, none⟩ = false := (World.frozen?_of_block (a := ⟨P, 1, none⟩) (hC5.block P hPl (fun h => h))).trans b2
          refine hK.out _ _ ?_ (fun hHeld => ?_)
          · first | exact ⟨by assumption, by assumption, by assumption⟩ | exact ⟨cell_alj _ hHeld.1, cell_alj _ hHeld.2.1, cell_alj _ hHeld.2.2⟩
          clear hK K
          try simp only [Act.put, List.setIfInBounds_toArray, List.set_cons_zero, List.set_cons_succ, List.getElem_toArray, List.getElem_cons_zero, List.getElem_cons_succ, Nat.zero_add]
          refine wpAnyT_done (by kernel_rfl) ?_
          simp only [List.drop_succ_cons, List.drop_zero]
          have hR5 : RowAt w5 70 2 (.slice ad2 (nl + 1) cap2) (nl + 1) ((l ++ [(false, n)]).flatMap rcells) := (by rw [List.flatMap_append]; simpa [rcells] using hrow5)
          have HR5 := Lib.hid hR5
          have HC5 := Lib.hid hC5
          clear hR5 hrow5 hgrow5 hat5 hC5 hrow3 hgrow3 hat3 hC3 HG3
          go_wp2_with fail
          go_ret
          exact ⟨rfl, w1, w5, _, HX1.out, HC5.out, HR5.out, rfl⟩
        exact AllReadyT.nil
      exact AllReadyT.nil
    exact AllReadyT.nil
  exact AllReadyT.nil
set_option maxRecDepth 100000 in
set_option maxHeartbeats 8000000 in
theorem markw_walk {w w0 : World} {P s A nl cap : Nat} {adl : Option Addr} {n : Int} {l : Row} {X : World → Prop} (hA : A = w.heap.size) (hw0 : w.alloc (.cells #[.int .i64 1, .int .i64 n] 64) = w0)
    (a0 : w0.cell? ⟨A, 0, none⟩ = some (.int .i64 1)) (a1 : w0.cell? ⟨A, 1, none⟩ = some (.int .i64 n)) (c0 : w0.cell? ⟨P, 0, none⟩ = some (.pointer (some ⟨s, 0, none⟩)))
    (hP : ∀ W, Chg (fun _ => False) w0 W → Calls Try.prog 34 #[.pointer (some ⟨s, 0, none⟩), .int .i64 n] W fun e w' => (∃ u, e = .returned u) ∧ X w')
    (hX : ∀ w1, X w1 → w1.heap[A]? = some (.cells #[.int .i64 1, .int .i64 n] 64 (0, 0)) ∧ w1.cell? ⟨P, 1, none⟩ = some (.slice adl nl cap) ∧ w1.frozen? ⟨P, 1, none⟩ = false ∧ RowAt w1 70 2 (.slice adl nl cap) nl (l.flatMap rcells) ∧ w1.cell? ⟨P, 0, none⟩ = some (.pointer (some ⟨s, 0, none⟩)))
    (hk : nl < 100000) :
    Calls Try.prog 26 #[.pointer (some ⟨P, 0, none⟩), actV 1 n] w fun e w' => e = .returned (.bool true) ∧ ∃ w1 w5 lv', X w1 ∧ Chg (fun _ => False) w1 w5 ∧ RowAt w5 70 2 lv' (nl + 1) ((l ++ [(true, n)]).flatMap rcells) ∧ w' = w5.setCell ⟨P, 1, none⟩ lv' := by
  subst hA
  have HP := Lib.hid hP
  have HX := Lib.hid hX
  obtain ⟨iR, hj0, hj1, hj2, hj3⟩ := info_parts infoR
  have H1 := Lib.hid (rcells_one l)
  clear hP hX
  unfold actV
  go_enter Try.func26, Try.ntmps26
  go_wp2_with fail
  go_region_held3 (fun W => W.cell? ⟨P, 0, none⟩ = some (.pointer (some ⟨s, 0, none⟩)) ∧ W.cell? ⟨w.heap.size, 1, none⟩ = some (.int .i64 n))
    (first | exact ⟨by assumption, by assumption⟩ | go_keep)
    ((go_at_call 34; refine (HP.out _ ?hc).mono ?_; (case hc => first | exact Chg.refl _ _ | exact (Chg.refl _ _).drew | exact (Chg.refl _ _).drewN _); rintro e w1 ⟨⟨u, rfl⟩, hx1⟩; have HX1 := Lib.hid hx1; obtain ⟨b0, b1, b2, b3, b4⟩ := HX.out w1 hx1; have d0 := cell_of b0 0; have d1 := cell_of b0 1; simp only [List.getElem?_toArray, List.getElem?_cons_zero, List.getElem?_cons_succ] at d0 d1))
  have HB3 := Lib.hid b3
  have hA1 : w.heap.size < w1.heap.size := lt_of_block b0
  have hPl : P < w1.heap.size := World.block_lt_of_cell? w1 _ b1
  clear hx1 b0 b3 a0 a1 c0 hw0 HP HX
  go_wp2_with fail
  refine wp_region_T (S := fun W => W.cell? ⟨P, 1, none⟩ = some (.slice adl nl cap) ∧ W.cell? ⟨w.heap.size, 0, none⟩ = some (.int .i64 1) ∧ W.cell? ⟨w.heap.size, 1, none⟩ = some (.int .i64 n)) 15 3 rfl (by kernel_rfl) ?_ (fun hHeld => ?_)
  · exact ⟨by assumption, by assumption, by assumption⟩
  refine wpAnyT_take (i := 0) (v := ?tv12) rfl (by kernel_rfl) (by decide) (by kernel_rfl) (by kernel_rfl) (fun _ _ _ h => h) (Or.inl ⟨by rfl, ?ty12⟩) (by assumption) ?tr12
  case ty12 => intro w hSw; (try dsimp only at hSw); go_simp; (try with_reducible rfl)
  try simp only [Act.put, List.setIfInBounds_toArray, List.set_cons_zero, List.set_cons_succ, List.getElem_toArray, List.getElem_cons_zero, List.getElem_cons_succ, Nat.zero_add]
  refine wpAnyT_take (i := 2) (v := ?tv13) rfl (by kernel_rfl) (by decide) (by kernel_rfl) (by kernel_rfl) (fun _ _ _ h => h) (Or.inl ⟨by rfl, ?ty13⟩) (by assumption) ?tr13
  case ty13 => intro w hSw; (try dsimp only at hSw); go_simp; (try with_reducible rfl)
  try simp only [Act.put, List.setIfInBounds_toArray, List.set_cons_zero, List.set_cons_succ, List.getElem_toArray, List.getElem_cons_zero, List.getElem_cons_succ, Nat.zero_add]
  refine wpAnyT_take (i := 3) (v := ?tv14) rfl (by kernel_rfl) (by decide) (by kernel_rfl) (by kernel_rfl) (fun _ _ _ h => h) (Or.inl ⟨by rfl, ?ty14⟩) (by assumption) ?tr14
  case ty14 => intro w hSw; (try dsimp only at hSw); go_simp; (try with_reducible rfl)
  try simp only [Act.put, List.setIfInBounds_toArray, List.set_cons_zero, List.set_cons_succ, List.getElem_toArray, List.getElem_cons_zero, List.getElem_cons_succ, Nat.zero_add]
  refine wpAnyT_take (i := 4) (v := ?tv15) rfl (by kernel_rfl) (by decide) (by kernel_rfl) (by kernel_rfl) (fun _ _ _ h => h) (Or.inl ⟨by rfl, ?ty15⟩) (by assumption) ?tr15
  case ty15 => intro w hSw; (try dsimp only at hSw); go_simp; (try with_reducible rfl)
  try simp only [Act.put, List.setIfInBounds_toArray, List.set_cons_zero, List.set_cons_succ, List.getElem_toArray, List.getElem_cons_zero, List.getElem_cons_succ, Nat.zero_add]
  refine wpAnyT_take (i := 5) (v := ?tv16) rfl (by kernel_rfl) (by decide) (by kernel_rfl) (by kernel_rfl) (fun _ _ _ h => h) (Or.inl ⟨by rfl, ?ty16⟩) (by assumption) ?tr16
  case ty16 => intro w hSw; (try dsimp only at hSw); go_simp; (try with_reducible rfl)
  try simp only [Act.put, List.setIfInBounds_toArray, List.set_cons_zero, List.set_cons_succ, List.getElem_toArray, List.getElem_cons_zero, List.getElem_cons_succ, Nat.zero_add]
  refine wpAnyT_take (i := 7) (v := ?tv17) rfl (by kernel_rfl) (by decide) (by kernel_rfl) (by kernel_rfl) (fun _ _ _ h => h) (Or.inl ⟨by rfl, ?ty17⟩) (by assumption) ?tr17
  case ty17 => intro w hSw; (try dsimp only at hSw); go_simp; (try with_reducible rfl)
  try simp only [Act.put, List.setIfInBounds_toArray, List.set_cons_zero, List.set_cons_succ, List.getElem_toArray, List.getElem_cons_zero, List.getElem_cons_succ, Nat.zero_add]
  refine wpAnyT_take (i := 8) (v := ?tv18) rfl (by kernel_rfl) (by decide) (by kernel_rfl) (by kernel_rfl) (fun _ _ _ h => h) (Or.inl ⟨by rfl, ?ty18⟩) (by assumption) ?tr18
  case ty18 => intro w hSw; (try dsimp only at hSw); go_simp; (try with_reducible rfl)
  try simp only [Act.put, List.setIfInBounds_toArray, List.set_cons_zero, List.set_cons_succ, List.getElem_toArray, List.getElem_cons_zero, List.getElem_cons_succ, Nat.zero_add]
  refine wpAnyT_take (i := 9) (v := ?tv19) rfl (by kernel_rfl) (by decide) (by kernel_rfl) (by kernel_rfl) (fun _ _ _ h => h) (Or.inl ⟨by rfl, ?ty19⟩) (by assumption) ?tr19
  case ty19 => intro w hSw; (try dsimp only at hSw); go_simp; (try with_reducible rfl)
  try simp only [Act.put, List.setIfInBounds_toArray, List.set_cons_zero, List.set_cons_succ, List.getElem_toArray, List.getElem_cons_zero, List.getElem_cons_succ, Nat.zero_add]
  refine wpAnyT_take (i := 10) (v := ?tv20) rfl (by kernel_rfl) (by decide) (by kernel_rfl) (by kernel_rfl) (fun _ _ _ h => h) (Or.inl ⟨by rfl, ?ty20⟩) (by assumption) ?tr20
  case ty20 => intro w hSw; (try dsimp only at hSw); go_simp; (try with_reducible rfl)
  try simp only [Act.put, List.setIfInBounds_toArray, List.set_cons_zero, List.set_cons_succ, List.getElem_toArray, List.getElem_cons_zero, List.getElem_cons_succ, Nat.zero_add]
  refine wpAnyT_take (i := 11) (v := ?tv21) rfl (by kernel_rfl) (by decide) (by kernel_rfl) (by kernel_rfl) (fun _ _ _ h => h) (Or.inl ⟨by rfl, ?ty21⟩) (by assumption) ?tr21
  case ty21 => intro w hSw; (try dsimp only at hSw); go_simp; (try with_reducible rfl)
  try simp only [Act.put, List.setIfInBounds_toArray, List.set_cons_zero, List.set_cons_succ, List.getElem_toArray, List.getElem_cons_zero, List.getElem_cons_succ, Nat.zero_add]
  refine wpAnyT_take (i := 12) (v := ?tv22) rfl (by kernel_rfl) (by decide) (by kernel_rfl) (by kernel_rfl) (fun _ _ _ h => h) (Or.inl ⟨by rfl, ?ty22⟩) (by assumption) ?tr22
  case ty22 => intro w hSw; (try dsimp only at hSw); go_simp; (try with_reducible rfl)
  try simp only [Act.put, List.setIfInBounds_toArray, List.set_cons_zero, List.set_cons_succ, List.getElem_toArray, List.getElem_cons_zero, List.getElem_cons_succ, Nat.zero_add]
  refine wpAnyT_ready (rs := [1, 13]) (by kernel_rfl) (by kernel_rfl) ?_
  refine AllReadyT.cons rfl (fun K hK => ?_) ?_
  · go_simp
    refine hK.out _ _ ?_ (fun hHeld => ?_)
    · first | exact ⟨by assumption, by assumption, by assumption⟩ | exact ⟨cell_alj _ hHeld.1, cell_alj _ hHeld.2.1, cell_alj _ hHeld.2.2⟩
    clear hK K
    try simp only [Act.put, List.setIfInBounds_toArray, List.set_cons_zero, List.set_cons_succ, List.getElem_toArray, List.getElem_cons_zero, List.getElem_cons_succ, Nat.zero_add]
    refine wpAnyT_ready (rs := [6, 13]) (by kernel_rfl) (by kernel_rfl) ?_
    refine AllReadyT.cons rfl (fun K hK => ?_) ?_
    · refine step_append_rows _ (by rfl) _ _ _ (by rfl) 70 iR _ 2 16 Try.underlying56 hj0 hj1 hj2 hj3 rfl (by omega) _ 0 [] (by rfl) (row_one _ _ ?nb) 70 (.slice adl nl cap) nl (l.flatMap rcells) (by rfl) (HB3.out.kept ?nc (fun _ _ h => h)) H1.out (by unfold maxLen; omega) (by omega) _ (by rfl) ?_
      case nb => first | exact new_at _ _ _ (by simp) | exact blk_alloc (new_at _ _ _ (by simp)) _
      case nc => (repeat (first | exact Chg.refl _ _ | apply Chg.alloc | apply Chg.drew | apply Chg.drewN))
      intro ad1 cap1 w3 hrow3 hgrow3 hat3
      simp only [Nat.zero_add, List.nil_append] at hrow3 hat3 hgrow3
      have hC3 : Chg (fun _ => False) w1 w3 := (by refine Chg.grown ?_ hgrow3 (fun k hk e => ?_); (focus (repeat (first | exact Chg.refl _ _ | apply Chg.alloc | apply Chg.drew | apply Chg.drewN))); (simp [Value.ownBlock] at e; try omega))
      have HG3 := Lib.hid hgrow3
      have q2 := hC3.cell d0 (fun h => h)
      have q3 := hC3.cell d1 (fun h => h)
      have q1 := hC3.cell b1 (fun h => h)
      refine hK.out _ _ ?_ (fun hHeld => ?_)
      · first | exact ⟨by assumption, by assumption, by assumption⟩ | exact ⟨cell_alj _ hHeld.1, cell_alj _ hHeld.2.1, cell_alj _ hHeld.2.2⟩
      clear hK K
      try simp only [Act.put, List.setIfInBounds_toArray, List.set_cons_zero, List.set_cons_succ, List.getElem_toArray, List.getElem_cons_zero, List.getElem_cons_succ, Nat.zero_add]
      refine wpAnyT_ready (rs := [13]) (by kernel_rfl) (by kernel_rfl) ?_
      refine AllReadyT.cons rfl (fun K hK => ?_) ?_
      · go_simp
        refine hK.out _ _ ?_ (fun hHeld => ?_)
        · first | exact ⟨by assumption, by assumption, by assumption⟩ | exact ⟨cell_alj _ hHeld.1, cell_alj _ hHeld.2.1, cell_alj _ hHeld.2.2⟩
        clear hK K
        try simp only [Act.put, List.setIfInBounds_toArray, List.set_cons_zero, List.set_cons_succ, List.getElem_toArray, List.getElem_cons_zero, List.getElem_cons_succ, Nat.zero_add]
        refine wpAnyT_ready (rs := [14]) (by kernel_rfl) (by kernel_rfl) ?_
        refine AllReadyT.cons rfl (fun K hK => ?_) ?_
        · refine step_append_rows _ (by rfl) _ _ _ (by rfl) 70 iR _ 2 16 Try.underlying56 hj0 hj1 hj2 hj3 rfl (by omega) (.slice ad1 nl cap1) nl (l.flatMap rcells) (by rfl) (hrow3.kept ?nc (fun _ _ h => h)) 70 _ 1 [.bool true, .int .i64 n] (by rfl) (row_act _ _ _ _ ?nb) (by simp [Value.oneCell']) (by unfold maxLen; omega) (by omega) _ (by rfl) ?_
          case nb => first | exact new_at _ _ _ (by simp) | exact blk_grown HG3.out (new_at _ _ _ (by simp)) (by simp [Value.ownBlock]; try omega) | exact blk_grown HG3.out (blk_alloc (new_at _ _ _ (by simp)) _) (by simp [Value.ownBlock]; try omega)
          case nc => (repeat (first | exact Chg.refl _ _ | apply Chg.alloc | apply Chg.drew | apply Chg.drewN))
          intro ad2 cap2 w5 hrow5 hgrow5 hat5
          have hC5 : Chg (fun _ => False) w1 w5 := (by refine Chg.grown ?_ hgrow5 (fun k hk e => ?_); (focus (repeat (first | exact hC3 | exact Chg.refl _ _ | apply Chg.alloc | apply Chg.drew | apply Chg.drewN))); exact (Nat.not_lt.2 (put_own hat3 e (fun g hg => (by simp [Value.ownBlock] at hg; try omega)) (by simp; try omega)) hk).elim)
          have r1 := hC5.cell b1 (fun h => h)
          have r2 := hC5.cell d0 (fun h => h)
          have r3 := hC5.cell d1 (fun h => h)
          have r4 : w5.frozen? ⟨P, 1, none⟩ = false := (World.frozen?_of_block (a := ⟨P, 1, none⟩) (hC5.block P hPl (fun h => h))).trans b2
          refine hK.out _ _ ?_ (fun hHeld => ?_)
          · first | exact ⟨by assumption, by assumption, by assumption⟩ | exact ⟨cell_alj _ hHeld.1, cell_alj _ hHeld.2.1, cell_alj _ hHeld.2.2⟩
          clear hK K
          try simp only [Act.put, List.setIfInBounds_toArray, List.set_cons_zero, List.set_cons_succ, List.getElem_toArray, List.getElem_cons_zero, List.getElem_cons_succ, Nat.zero_add]
          refine wpAnyT_done (by kernel_rfl) ?_
          simp only [List.drop_succ_cons, List.drop_zero]
          have hR5 : RowAt w5 70 2 (.slice ad2 (nl + 1) cap2) (nl + 1) ((l ++ [(true, n)]).flatMap rcells) := (by rw [List.flatMap_append]; simpa [rcells] using hrow5)
          have HR5 := Lib.hid hR5
          have HC5 := Lib.hid hC5
          clear hR5 hrow5 hgrow5 hat5 hC5 hrow3 hgrow3 hat3 hC3 HG3
          go_wp2_with fail
          go_ret
          exact ⟨rfl, w1, w5, _, HX1.out, HC5.out, HR5.out, rfl⟩
        exact AllReadyT.nil
      exact AllReadyT.nil
    refine AllReadyT.cons rfl (fun K hK => ?_) ?_
    · go_simp
      refine hK.out _ _ ?_ (fun hHeld => ?_)
      · first | exact ⟨by assumption, by assumption, by assumption⟩ | exact ⟨cell_alj _ hHeld.1, cell_alj _ hHeld.2.1, cell_alj _ hHeld.2.2⟩
      clear hK K
      try simp only [Act.put, List.setIfInBounds_toArray, List.set_cons_zero, List.set_cons_succ, List.getElem_toArray, List.getElem_cons_zero, List.getElem_cons_succ, Nat.zero_add]
      refine wpAnyT_ready (rs := [6]) (by kernel_rfl) (by kernel_rfl) ?_
      refine AllReadyT.cons rfl (fun K hK => ?_) ?_
      · refine step_append_rows _ (by rfl) _ _ _ (by rfl) 70 iR _ 2 16 Try.underlying56 hj0 hj1 hj2 hj3 rfl (by omega) _ 0 [] (by rfl) (row_one _ _ ?nb) 70 (.slice adl nl cap) nl (l.flatMap rcells) (by rfl) (HB3.out.kept ?nc (fun _ _ h => h)) H1.out (by unfold maxLen; omega) (by omega) _ (by rfl) ?_
        case nb => first | exact new_at _ _ _ (by simp) | exact blk_alloc (new_at _ _ _ (by simp)) _
        case nc => (repeat (first | exact Chg.refl _ _ | apply Chg.alloc | apply Chg.drew | apply Chg.drewN))
        intro ad1 cap1 w3 hrow3 hgrow3 hat3
        simp only [Nat.zero_add, List.nil_append] at hrow3 hat3 hgrow3
        have hC3 : Chg (fun _ => False) w1 w3 := (by refine Chg.grown ?_ hgrow3 (fun k hk e => ?_); (focus (repeat (first | exact Chg.refl _ _ | apply Chg.alloc | apply Chg.drew | apply Chg.drewN))); (simp [Value.ownBlock] at e; try omega))
        have HG3 := Lib.hid hgrow3
        have q2 := hC3.cell d0 (fun h => h)
        have q3 := hC3.cell d1 (fun h => h)
        have q1 := hC3.cell b1 (fun h => h)
        refine hK.out _ _ ?_ (fun hHeld => ?_)
        · first | exact ⟨by assumption, by assumption, by assumption⟩ | exact ⟨cell_alj _ hHeld.1, cell_alj _ hHeld.2.1, cell_alj _ hHeld.2.2⟩
        clear hK K
        try simp only [Act.put, List.setIfInBounds_toArray, List.set_cons_zero, List.set_cons_succ, List.getElem_toArray, List.getElem_cons_zero, List.getElem_cons_succ, Nat.zero_add]
        refine wpAnyT_ready (rs := [14]) (by kernel_rfl) (by kernel_rfl) ?_
        refine AllReadyT.cons rfl (fun K hK => ?_) ?_
        · refine step_append_rows _ (by rfl) _ _ _ (by rfl) 70 iR _ 2 16 Try.underlying56 hj0 hj1 hj2 hj3 rfl (by omega) (.slice ad1 nl cap1) nl (l.flatMap rcells) (by rfl) (hrow3.kept ?nc (fun _ _ h => h)) 70 _ 1 [.bool true, .int .i64 n] (by rfl) (row_act _ _ _ _ ?nb) (by simp [Value.oneCell']) (by unfold maxLen; omega) (by omega) _ (by rfl) ?_
          case nb => first | exact new_at _ _ _ (by simp) | exact blk_grown HG3.out (new_at _ _ _ (by simp)) (by simp [Value.ownBlock]; try omega) | exact blk_grown HG3.out (blk_alloc (new_at _ _ _ (by simp)) _) (by simp [Value.ownBlock]; try omega)
          case nc => (repeat (first | exact Chg.refl _ _ | apply Chg.alloc | apply Chg.drew | apply Chg.drewN))
          intro ad2 cap2 w5 hrow5 hgrow5 hat5
          have hC5 : Chg (fun _ => False) w1 w5 := (by refine Chg.grown ?_ hgrow5 (fun k hk e => ?_); (focus (repeat (first | exact hC3 | exact Chg.refl _ _ | apply Chg.alloc | apply Chg.drew | apply Chg.drewN))); exact (Nat.not_lt.2 (put_own hat3 e (fun g hg => (by simp [Value.ownBlock] at hg; try omega)) (by simp; try omega)) hk).elim)
          have r1 := hC5.cell b1 (fun h => h)
          have r2 := hC5.cell d0 (fun h => h)
          have r3 := hC5.cell d1 (fun h => h)
          have r4 : w5.frozen? ⟨P, 1, none⟩ = false := (World.frozen?_of_block (a := ⟨P, 1, none⟩) (hC5.block P hPl (fun h => h))).trans b2
          refine hK.out _ _ ?_ (fun hHeld => ?_)
          · first | exact ⟨by assumption, by assumption, by assumption⟩ | exact ⟨cell_alj _ hHeld.1, cell_alj _ hHeld.2.1, cell_alj _ hHeld.2.2⟩
          clear hK K
          try simp only [Act.put, List.setIfInBounds_toArray, List.set_cons_zero, List.set_cons_succ, List.getElem_toArray, List.getElem_cons_zero, List.getElem_cons_succ, Nat.zero_add]
          refine wpAnyT_done (by kernel_rfl) ?_
          simp only [List.drop_succ_cons, List.drop_zero]
          have hR5 : RowAt w5 70 2 (.slice ad2 (nl + 1) cap2) (nl + 1) ((l ++ [(true, n)]).flatMap rcells) := (by rw [List.flatMap_append]; simpa [rcells] using hrow5)
          have HR5 := Lib.hid hR5
          have HC5 := Lib.hid hC5
          clear hR5 hrow5 hgrow5 hat5 hC5 hrow3 hgrow3 hat3 hC3 HG3
          go_wp2_with fail
          go_ret
          exact ⟨rfl, w1, w5, _, HX1.out, HC5.out, HR5.out, rfl⟩
        exact AllReadyT.nil
      exact AllReadyT.nil
    exact AllReadyT.nil
  refine AllReadyT.cons rfl (fun K hK => ?_) ?_
  · go_simp
    refine hK.out _ _ ?_ (fun hHeld => ?_)
    · first | exact ⟨by assumption, by assumption, by assumption⟩ | exact ⟨cell_alj _ hHeld.1, cell_alj _ hHeld.2.1, cell_alj _ hHeld.2.2⟩
    clear hK K
    try simp only [Act.put, List.setIfInBounds_toArray, List.set_cons_zero, List.set_cons_succ, List.getElem_toArray, List.getElem_cons_zero, List.getElem_cons_succ, Nat.zero_add]
    refine wpAnyT_ready (rs := [1]) (by kernel_rfl) (by kernel_rfl) ?_
    refine AllReadyT.cons rfl (fun K hK => ?_) ?_
    · go_simp
      refine hK.out _ _ ?_ (fun hHeld => ?_)
      · first | exact ⟨by assumption, by assumption, by assumption⟩ | exact ⟨cell_alj _ hHeld.1, cell_alj _ hHeld.2.1, cell_alj _ hHeld.2.2⟩
      clear hK K
      try simp only [Act.put, List.setIfInBounds_toArray, List.set_cons_zero, List.set_cons_succ, List.getElem_toArray, List.getElem_cons_zero, List.getElem_cons_succ, Nat.zero_add]
      refine wpAnyT_ready (rs := [6]) (by kernel_rfl) (by kernel_rfl) ?_
      refine AllReadyT.cons rfl (fun K hK => ?_) ?_
      · refine step_append_rows _ (by rfl) _ _ _ (by rfl) 70 iR _ 2 16 Try.underlying56 hj0 hj1 hj2 hj3 rfl (by omega) _ 0 [] (by rfl) (row_one _ _ ?nb) 70 (.slice adl nl cap) nl (l.flatMap rcells) (by rfl) (HB3.out.kept ?nc (fun _ _ h => h)) H1.out (by unfold maxLen; omega) (by omega) _ (by rfl) ?_
        case nb => first | exact new_at _ _ _ (by simp) | exact blk_alloc (new_at _ _ _ (by simp)) _
        case nc => (repeat (first | exact Chg.refl _ _ | apply Chg.alloc | apply Chg.drew | apply Chg.drewN))
        intro ad1 cap1 w3 hrow3 hgrow3 hat3
        simp only [Nat.zero_add, List.nil_append] at hrow3 hat3 hgrow3
        have hC3 : Chg (fun _ => False) w1 w3 := (by refine Chg.grown ?_ hgrow3 (fun k hk e => ?_); (focus (repeat (first | exact Chg.refl _ _ | apply Chg.alloc | apply Chg.drew | apply Chg.drewN))); (simp [Value.ownBlock] at e; try omega))
        have HG3 := Lib.hid hgrow3
        have q2 := hC3.cell d0 (fun h => h)
        have q3 := hC3.cell d1 (fun h => h)
        have q1 := hC3.cell b1 (fun h => h)
        refine hK.out _ _ ?_ (fun hHeld => ?_)
        · first | exact ⟨by assumption, by assumption, by assumption⟩ | exact ⟨cell_alj _ hHeld.1, cell_alj _ hHeld.2.1, cell_alj _ hHeld.2.2⟩
        clear hK K
        try simp only [Act.put, List.setIfInBounds_toArray, List.set_cons_zero, List.set_cons_succ, List.getElem_toArray, List.getElem_cons_zero, List.getElem_cons_succ, Nat.zero_add]
        refine wpAnyT_ready (rs := [14]) (by kernel_rfl) (by kernel_rfl) ?_
        refine AllReadyT.cons rfl (fun K hK => ?_) ?_
        · refine step_append_rows _ (by rfl) _ _ _ (by rfl) 70 iR _ 2 16 Try.underlying56 hj0 hj1 hj2 hj3 rfl (by omega) (.slice ad1 nl cap1) nl (l.flatMap rcells) (by rfl) (hrow3.kept ?nc (fun _ _ h => h)) 70 _ 1 [.bool true, .int .i64 n] (by rfl) (row_act _ _ _ _ ?nb) (by simp [Value.oneCell']) (by unfold maxLen; omega) (by omega) _ (by rfl) ?_
          case nb => first | exact new_at _ _ _ (by simp) | exact blk_grown HG3.out (new_at _ _ _ (by simp)) (by simp [Value.ownBlock]; try omega) | exact blk_grown HG3.out (blk_alloc (new_at _ _ _ (by simp)) _) (by simp [Value.ownBlock]; try omega)
          case nc => (repeat (first | exact Chg.refl _ _ | apply Chg.alloc | apply Chg.drew | apply Chg.drewN))
          intro ad2 cap2 w5 hrow5 hgrow5 hat5
          have hC5 : Chg (fun _ => False) w1 w5 := (by refine Chg.grown ?_ hgrow5 (fun k hk e => ?_); (focus (repeat (first | exact hC3 | exact Chg.refl _ _ | apply Chg.alloc | apply Chg.drew | apply Chg.drewN))); exact (Nat.not_lt.2 (put_own hat3 e (fun g hg => (by simp [Value.ownBlock] at hg; try omega)) (by simp; try omega)) hk).elim)
          have r1 := hC5.cell b1 (fun h => h)
          have r2 := hC5.cell d0 (fun h => h)
          have r3 := hC5.cell d1 (fun h => h)
          have r4 : w5.frozen? ⟨P, 1, none⟩ = false := (World.frozen?_of_block (a := ⟨P, 1, none⟩) (hC5.block P hPl (fun h => h))).trans b2
          refine hK.out _ _ ?_ (fun hHeld => ?_)
          · first | exact ⟨by assumption, by assumption, by assumption⟩ | exact ⟨cell_alj _ hHeld.1, cell_alj _ hHeld.2.1, cell_alj _ hHeld.2.2⟩
          clear hK K
          try simp only [Act.put, List.setIfInBounds_toArray, List.set_cons_zero, List.set_cons_succ, List.getElem_toArray, List.getElem_cons_zero, List.getElem_cons_succ, Nat.zero_add]
          refine wpAnyT_done (by kernel_rfl) ?_
          simp only [List.drop_succ_cons, List.drop_zero]
          have hR5 : RowAt w5 70 2 (.slice ad2 (nl + 1) cap2) (nl + 1) ((l ++ [(true, n)]).flatMap rcells) := (by rw [List.flatMap_append]; simpa [rcells] using hrow5)
          have HR5 := Lib.hid hR5
          have HC5 := Lib.hid hC5
          clear hR5 hrow5 hgrow5 hat5 hC5 hrow3 hgrow3 hat3 hC3 HG3
          go_wp2_with fail
          go_ret
          exact ⟨rfl, w1, w5, _, HX1.out, HC5.out, HR5.out, rfl⟩
        exact AllReadyT.nil
      exact AllReadyT.nil
    exact AllReadyT.nil
  exact AllReadyT.nil
/-- Behind the stack's own step. -/
def PutX (w : World) (P s : Nat) (kind n : Int) (l : Row) (b : Bool) (lv pv cv uv : Value) (pcs : List Pc) (B0 : Nat) (w1 : World) : Prop :=
  w1.heap[w.heap.size]? = some (.cells #[.int .i64 kind, .int .i64 n] 64 (0, 0)) ∧ ∃ F', PlayAt w1 P s (l ++ [(b, n)]) l lv pv cv uv F' pcs B0 ∧ Chg (fun j => B0 ≤ j) w w1
theorem put_fin {w w' : World} {P s : Nat} {kind n : Int} {l : Row} {b : Bool} {lv pv cv uv : Value} {pcs : List Pc} {B0 : Nat}
    (h : ∃ w1 w5 lv', PutX w P s kind n l b lv pv cv uv pcs B0 w1 ∧ Chg (fun _ => False) w1 w5 ∧ RowAt w5 70 2 lv' (l.length + 1) ((l ++ [(b, n)]).flatMap rcells) ∧ w' = w5.setCell ⟨P, 1, none⟩ lv') : Did w w' P s l pcs B0 := by
  obtain ⟨w1, w5, lv', ⟨hb, F', hp, hC⟩, h5, hr, rfl⟩ := h
  have hp5 := hp.kept h5
  have hS : Chg (fun j => j = P) w5 (w5.setCell ⟨P, 1, none⟩ lv') := Chg.set (p := ⟨P, 1, none⟩) (F := fun j => j = P) (Chg.refl _ w5) (fun _ => rfl) _
  have hr2 : RRow w5 lv' (l ++ [(b, n)]) := by unfold RRow; rw [List.length_append]; exact hr
  refine ⟨l ++ [(b, n)], lv', pv, cv, uv, F', pcs, hp5.newRow hS ?_ (hr2.kept hS (fun j hj e => tag_ne (row_tag hr2 (mem_own.2 hj)) hp5.tagP (by decide) e)), ?_, ?_, by omega⟩
  · have := blk_set hp5.blk 1 lv'
    simpa using this
  · exact (hC.trans (h5.mono (fun _ _ e => e.elim))).andThen hS (fun j _ e => by rw [e]; exact hp.lo.1)
  · unfold weight
    rw [List.length_append]
    simp only [List.length_cons, List.length_nil]
    omega
theorem does_put {w : World} {P s : Nat} {l : Row} {lv pv cv uv : Value} {F : List Nat} {pcs : List Pc} {B0 : Nat} (h : PlayAt w P s l l lv pv cv uv F pcs B0) (hl : l.length < 100000) (n : Int) (b : Bool) :
    Calls Try.prog 26 #[.pointer (some ⟨P, 0, none⟩), actV (if b then 1 else 0) n] w fun e w' => e = .returned (.bool true) ∧ Did w w' P s l pcs B0 := by
  obtain ⟨kind, hkind⟩ : ∃ kind : Int, (if b then 1 else 0) = kind := ⟨_, rfl⟩
  rw [hkind]
  obtain ⟨w0, hw0⟩ : ∃ w0, w.alloc (.cells #[.int .i64 kind, .int .i64 n] 64) = w0 := ⟨_, rfl⟩
  have hC0 : Chg (fun _ => False) w w0 := by rw [← hw0]; exact (Chg.refl _ w).alloc _
  have hb0 : w0.heap[w.heap.size]? = some (.cells #[.int .i64 kind, .int .i64 n] 64 (0, 0)) := by rw [← hw0]; exact blk_new w _
  have h0 := h.kept hC0
  obtain ⟨adl, cap, hlv, _, _⟩ := h.row.form
  subst hlv
  have hP : ∀ W, Chg (fun _ => False) w0 W → Calls Try.prog (putF b) #[.pointer (some ⟨s, 0, none⟩), .int .i64 n] W fun e w' => (∃ u, e = .returned u) ∧ PutX w P s kind n l b (.slice adl l.length cap) pv cv uv pcs B0 w' := fun W hW => by
    have hW2 := h0.kept hW
    refine (put_calls hW2.st b n hl).mono ?_
    rintro e w' ⟨q1, F', q2, q3⟩
    refine ⟨q1, q3.chg.blk (hW.blk hb0 (fun h => h)) (hW2.st.not ⟨_, hW.blk hb0 (fun h => h)⟩ (by decide)), F', hW2.stack q2 q3.chg q3.new, ?_⟩
    exact ((hC0.trans hW).mono (fun _ _ e => e.elim)).trans (chg_lo q3.chg h.lo.2.1)
  have hX : ∀ w1, PutX w P s kind n l b (.slice adl l.length cap) pv cv uv pcs B0 w1 → w1.heap[w.heap.size]? = some (.cells #[.int .i64 kind, .int .i64 n] 64 (0, 0)) ∧ w1.cell? ⟨P, 1, none⟩ = some (.slice adl l.length cap) ∧ w1.frozen? ⟨P, 1, none⟩ = false ∧ RowAt w1 70 2 (.slice adl l.length cap) l.length (l.flatMap rcells) ∧ w1.cell? ⟨P, 0, none⟩ = some (.pointer (some ⟨s, 0, none⟩)) := by
    rintro w1 ⟨hb, F', hp, hC⟩
    exact ⟨hb, cell_of hp.blk 1, free_of hp.blk 1, hp.row, cell_of hp.blk 0⟩
  cases b with
  | false =>
    obtain rfl : 0 = kind := hkind
    exact (push_walk rfl hw0 (cell_of hb0 0) (cell_of hb0 1) (cell_of h0.blk 0) hP hX hl).mono fun e w' ⟨q1, q2⟩ => ⟨q1, put_fin q2⟩
  | true =>
    obtain rfl : 1 = kind := hkind
    exact (markw_walk rfl hw0 (cell_of hb0 0) (cell_of hb0 1) (cell_of h0.blk 0) hP hX hl).mono fun e w' ⟨q1, q2⟩ => ⟨q1, put_fin q2⟩
end Go.Proofs.Ytkidnmjaioejaaa.Sg
