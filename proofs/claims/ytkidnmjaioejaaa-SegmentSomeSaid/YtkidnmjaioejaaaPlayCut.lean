/- does, walked, for Cut. Condition: the play is known. -/
import Derived.Test.YtkidnmjaioejaaaPlayPut
namespace Go.Proofs.Ytkidnmjaioejaaa.Sg
set_option linter.unusedVariables false
set_option linter.unusedSimpArgs false
open Go.RowKit Go.Proofs.Ytkidnmjaioejaaa.Mem

theorem infoPP : (Try.prog.info? 67).map (fun i => (i.zero, i.size, i.bytes)) = some (some (.pointer none), 1, 8) := by kernel_rfl
theorem infoC : (Try.prog.info? 56).map (fun i => (i.zero, i.size, i.bytes)) = some (some (.slice none 0 0), 1, 24) := by kernel_rfl
theorem infoU : (Try.prog.info? 4).map (fun i => (i.zero, i.size, i.bytes)) = some (some (.bool false), 1, 1) := by kernel_rfl
theorem rcells_drop (l : Row) (k : Nat) : (l.flatMap rcells).drop (k * 2) = (l.drop k).flatMap rcells := by
  induction l generalizing k with
  | nil => simp
  | cons x l ih =>
    cases k with
    | zero => simp
    | succ k =>
      rw [List.drop_succ_cons, List.flatMap_cons, ← ih k]
      have : (k + 1) * 2 = (rcells x).length + k * 2 := by show _ = 2 + _; omega
      rw [this, List.drop_length_add_append]
set_option maxRecDepth 100000 in
set_option maxHeartbeats 4000000 in
theorem cutn_walk {w w0 : World} {P s A : Nat} {lv : Value} {n : Int} (hA : A = w.heap.size) (hw0 : w.alloc (.cells #[.int .i64 4, .int .i64 n] 64) = w0)
    (a0 : w0.cell? ⟨A, 0, none⟩ = some (.int .i64 4)) (a1 : w0.cell? ⟨A, 1, none⟩ = some (.int .i64 n)) (c0 : w0.cell? ⟨P, 0, none⟩ = some (.pointer (some ⟨s, 0, none⟩))) (c1 : w0.cell? ⟨P, 1, none⟩ = some lv)
    (hP : ∀ k, Calls Try.prog 30 #[.pointer (some ⟨s, 0, none⟩), .int .i64 n] (w0.drewN k) fun e w' => e = .returned (.tuple #[.pointer none, .bool false]) ∧ w' = w0.drewN k)
    (hM : ∀ k, Calls Try.prog 31 #[lv, .int .i64 n] (w0.drewN k) fun e w' => e = .returned (.int .i64 (-1)) ∧ w' = w0.drewN k) :
    Calls Try.prog 26 #[.pointer (some ⟨P, 0, none⟩), actV 4 n] w fun e w' => e = .returned (.bool true) ∧ ∃ m, w' = w0.drewN m := by
  subst hA
  have HP := fun k => Lib.hid (hP k)
  have HM := fun k => Lib.hid (hM k)
  clear hP hM
  unfold actV
  go_enter Try.func26, Try.ntmps26
  go_wp2_with fail
  go_quiet ((go_at_call 30; exact Calls.quiet_of_same (HP _).out))
  go_wp2_with fail
  go_quiet ((go_at_call 31; exact quiet3 (HM _).out))
  go_wp2_with fail
  go_ret
  exact ⟨rfl, _, rfl⟩
set_option maxRecDepth 100000 in
set_option maxHeartbeats 8000000 in
theorem cutd_walk {w w0 : World} {P s A nl at_ g off cap np : Nat} {pv cv uv : Value} {n : Int} {l : Row} {ps cs us : List Value} {X : Nat → World → Prop}
    (hA : A = w.heap.size) (hw0 : w.alloc (.cells #[.int .i64 4, .int .i64 n] 64) = w0)
    (a0 : w0.cell? ⟨A, 0, none⟩ = some (.int .i64 4)) (a1 : w0.cell? ⟨A, 1, none⟩ = some (.int .i64 n)) (c0 : w0.cell? ⟨P, 0, none⟩ = some (.pointer (some ⟨s, 0, none⟩)))
    (hP : ∀ W, Chg (fun _ => False) w0 W → Calls Try.prog 30 #[.pointer (some ⟨s, 0, none⟩), .int .i64 n] W fun e w' => ∃ p, e = .returned (.tuple #[.pointer (some ⟨p, 0, none⟩), .bool true]) ∧ X p w')
    (hX : ∀ p w1, X p w1 → w1.heap[A]? = some (.cells #[.int .i64 4, .int .i64 n] 64 (0, 0)) ∧
      w1.heap[P]? = some (.cells #[ptr s, .slice (some ⟨g, off, none⟩) nl cap, pv, cv, uv] 61 (0, 0)) ∧ RowAt w1 70 2 (.slice (some ⟨g, off, none⟩) nl cap) nl (l.flatMap rcells) ∧
      RowAt w1 67 1 pv np ps ∧ RowAt w1 56 1 cv np cs ∧ RowAt w1 4 1 uv np us)
    (hM : ∀ p w1, X p w1 → ∀ k, Calls Try.prog 31 #[.slice (some ⟨g, off, none⟩) nl cap, .int .i64 n] (w1.drewN k) fun e w' => e = .returned (.int .i64 (at_ : Int)) ∧ w' = w1.drewN k)
    (hat : at_ < nl) (hcap : nl ≤ cap) (hk : nl < 100000) (hnp : np < 100000) :
    Calls Try.prog 26 #[.pointer (some ⟨P, 0, none⟩), actV 4 n] w fun e w' => e = .returned (.bool true) ∧ ∃ p w1 pv' w2 v' w4 cv' w5 uv' w7, X p w1 ∧
      (RowAt w2 67 1 pv' (np + 1) (ps ++ [ptr p]) ∧ Chg (fun j => j ∈ own pv) w1 w2 ∧ ∀ j ∈ own pv', j ∈ own pv ∨ w1.heap.size ≤ j) ∧
      (RowAt w4 70 2 v' (nl - at_) ((l.drop at_).flatMap rcells) ∧ Chg (fun _ => False) (w2.setCell ⟨P, 2, none⟩ pv') w4 ∧ ∀ j ∈ own v', w2.heap.size ≤ j) ∧
      (RowAt w5 56 1 cv' (np + 1) (cs ++ [v']) ∧ Chg (fun j => j ∈ own cv) w4 w5 ∧ ∀ j ∈ own cv', j ∈ own cv ∨ w4.heap.size ≤ j) ∧
      (RowAt w7 4 1 uv' (np + 1) (us ++ [.bool false]) ∧ Chg (fun j => j ∈ own uv) (w5.setCell ⟨P, 3, none⟩ cv') w7 ∧ ∀ j ∈ own uv', j ∈ own uv ∨ w5.heap.size ≤ j) ∧
      w' = (w7.setCell ⟨P, 4, none⟩ uv').setCell ⟨P, 1, none⟩ (.slice (some ⟨g, off, none⟩) at_ cap) := by
  subst hA
  have HP := Lib.hid hP
  have HX := Lib.hid hX
  have HM := fun p w1 h k => Lib.hid (hM p w1 h k)
  obtain ⟨iR, hj0, hj1, hj2, hj3⟩ := info_parts infoR
  obtain ⟨iP, hp0, hp1, hp2, hp3⟩ := info_parts infoPP
  obtain ⟨iC, hk0, hk1, hk2, hk3⟩ := info_parts infoC
  obtain ⟨iU, hl0, hl1, hl2, hl3⟩ := info_parts infoU
  have H1 := Lib.hid (rcells_one (l.drop at_))
  have i0 : (0 : Int) ≤ (at_ : Int) := by omega
  have i1 : (at_ : Int) ≤ (cap : Int) := by omega
  have i2 : (at_ : Int) ≤ (nl : Int) := by omega
  have i3 : ¬ cap = at_ := by omega
  have i4 : ¬ (at_ : Int) < 0 := by omega
  clear hP hX hM
  unfold actV
  go_enter Try.func26, Try.ntmps26
  go_wp2_with fail
  go_region_held3 (fun W => W.cell? ⟨P, 0, none⟩ = some (.pointer (some ⟨s, 0, none⟩)) ∧ W.cell? ⟨w.heap.size, 1, none⟩ = some (.int .i64 n))
    (first | exact ⟨by assumption, by assumption⟩ | go_keep)
    ((go_at_call 30; refine (HP.out _ ?hc).mono ?_; (case hc => first | exact Chg.refl _ _ | exact (Chg.refl _ _).drew | exact (Chg.refl _ _).drewN _); rintro e w1 ⟨p, rfl, hx1⟩; have HX1 := Lib.hid hx1; obtain ⟨b0, b1, b2, b3, b4, b5⟩ := HX.out p w1 hx1; have d0 := cell_of b0 0; have d1 := cell_of b0 1; have e0 := cell_of b1 0; have e1 := cell_of b1 1; have e2 := cell_of b1 2; have e2f := free_of b1 2; simp only [List.getElem?_toArray, List.getElem?_cons_zero, List.getElem?_cons_succ, ptr] at d0 d1 e0 e1 e2))
  have HM1 := HM p w1 hx1
  have hPl : P < w1.heap.size := lt_of_block b1
  have HPVP : Hid (P ∉ own pv) := fun e => tag_ne (row_tag b3 e) ⟨_, b1⟩ (by decide) rfl
  have HCVP : Hid (P ∉ own cv) := fun e => tag_ne (row_tag b4 e) ⟨_, b1⟩ (by decide) rfl
  have HUVP : Hid (P ∉ own uv) := fun e => tag_ne (row_tag b5 e) ⟨_, b1⟩ (by decide) rfl
  have HLP : Hid (∀ j, (Value.slice (some ⟨g, off, none⟩) nl cap).ownBlock = some j → j ∉ own pv) := fun j hj e => tag_ne (row_tag b2 (mem_own.2 hj)) (row_tag b3 e) (by decide) rfl
  have HLPP : Hid (∀ j, (Value.slice (some ⟨g, off, none⟩) nl cap).ownBlock = some j → ¬ j = P) := fun j hj e => tag_ne (row_tag b2 (mem_own.2 hj)) ⟨_, b1⟩ (by decide) e
  have HCP : Hid (∀ j ∈ own cv, j ∉ own pv) := fun j hj e => tag_ne (row_tag b4 hj) (row_tag b3 e) (by decide) rfl
  have HUP : Hid (∀ j ∈ own uv, j ∉ own pv) := fun j hj e => tag_ne (row_tag b5 hj) (row_tag b3 e) (by decide) rfl
  have HUC : Hid (∀ j ∈ own uv, j ∉ own cv) := fun j hj e => tag_ne (row_tag b5 hj) (row_tag b4 e) (by decide) rfl
  have HD1 := Lib.hid b2
  have HPV1 := Lib.hid b3
  have HCV1 := Lib.hid b4
  have HUV1 := Lib.hid b5
  have HB1 := Lib.hid b1
  have HAP : Hid (w.heap.size ≠ P) := fun e => tag_ne (w := w1) ⟨_, b0⟩ ⟨_, b1⟩ (by decide) e
  have HAPV : Hid (w.heap.size ∉ own pv) := fun e => tag_ne (w := w1) (row_tag b3 e) ⟨_, b0⟩ (by decide) rfl
  have HB0 := Lib.hid b0
  clear hx1 b0 b1 b2 b3 b4 b5 a0 a1 c0 hw0 HP HX HM
  go_wp2_with fail
  go_quiet ((go_at_call 31; exact Calls.quiet_of_same (HM1 _).out))
  go_wp2_with (at_builtin; refine wpList_append_row _ rfl _ _ 57 rfl 67 iP _ 1 8 Try.underlying57 hp0 hp1 hp2 hp3 rfl (by decide) pv np ps rfl ?ya1 ⟨w1.heap.size, 0, none⟩ 1 1 [ptr p] rfl rfl ?ya2 ?ya3 (by decide) ?ya4 ?ya5 _ rfl ?_)
  case ya1 => exact HPV1.out.kept (((Chg.refl (fun _ => False) w1).drewN _).alloc _) (fun _ _ h => h)
  case ya2 => exact World.news_of_block (blk_new (w1.drewN _) _)
  case ya3 => simp [Value.oneCell', ptr]
  case ya4 => unfold maxLen; omega
  case ya5 => omega
  intro g2 off2 cap2 w2 hrow2 hgrow2 hat2 hlt2
  have hC2 : Chg (fun j => j ∈ own pv) w1 w2 := ((((Chg.refl _ w1).drewN _).alloc _).grown hgrow2 (fun j _ e => mem_own.2 e))
  have hB2 := hC2.blk HB1.out HPVP.out
  have hb0 := hC2.blk HB0.out HAPV.out
  have HO2 : Hid (∀ j ∈ own (.slice (some ⟨g2, off2, none⟩) (np + 1) cap2), j ∈ own pv ∨ w1.heap.size ≤ j) := fun j hj => by
    have e : j = g2 := by simpa [own_slice] using hj
    subst e
    rcases hat2 with h1 | h1
    · exact .inl (mem_own.2 h1)
    · right; rw [h1]; exact Nat.le_succ _
  have HROW2 := Lib.hid hrow2
  have HC2 := Lib.hid hC2
  obtain ⟨pv', hpv'⟩ : ∃ pv', pv' = Value.slice (some ⟨g2, off2, none⟩) (np + 1) cap2 := ⟨_, rfl⟩
  have f2 := cell_of hB2 2
  have f2f := free_of hB2 2
  simp only [List.getElem?_toArray, List.getElem?_cons_zero, List.getElem?_cons_succ] at f2
  have hS3 : Chg (fun j => j = P) w2 (w2.setCell ⟨P, 2, none⟩ pv') := Chg.set (p := ⟨P, 2, none⟩) (F := fun j => j = P) (Chg.refl _ w2) (fun _ => rfl) _
  have hb3 := hS3.blk hb0 HAP.out
  have hB3 : (w2.setCell ⟨P, 2, none⟩ pv').heap[P]? = some (.cells #[ptr s, .slice (some ⟨g, off, none⟩) nl cap, pv', cv, uv] 61 (0, 0)) := by
    have := blk_set hB2 2 pv'
    simpa using this
  have hlrow3 := (HD1.out.kept hC2 HLP.out).kept hS3 HLPP.out
  have hdrop3 := hlrow3.drop at_ (by omega)
  rw [rcells_drop] at hdrop3
  have HCV3 := Lib.hid ((HCV1.out.kept hC2 (fun j hj => HCP.out j (mem_own.2 hj))).kept hS3 (fun j hj e => HCVP.out (e ▸ mem_own.2 hj)))
  have HUV3 := Lib.hid ((HUV1.out.kept hC2 (fun j hj => HUP.out j (mem_own.2 hj))).kept hS3 (fun j hj e => HUVP.out (e ▸ mem_own.2 hj)))
  have hsz3 : (w2.setCell ⟨P, 2, none⟩ pv').heap.size = w2.heap.size := by simp [World.setCell]
  obtain ⟨w3, hw3⟩ : ∃ w3, w3 = w2.setCell ⟨P, 2, none⟩ pv' := ⟨_, rfl⟩
  rw [← hw3] at hB3 hdrop3 HCV3 HUV3 hsz3 hb3
  have HW3 := Lib.hid hw3
  have HSZ3 := Lib.hid hsz3
  have HD3 := Lib.hid hdrop3
  have HB3 := Lib.hid hB3
  have s1 := cell_of hB3 1
  have s3 := cell_of hB3 3
  simp only [List.getElem?_toArray, List.getElem?_cons_zero, List.getElem?_cons_succ] at s1 s3
  rw [hpv'] at hw3
  clear hrow2 hgrow2 hat2 hlt2 hC2 hB2 hb0 hS3 hB3 hlrow3 hdrop3 hb3 hsz3 d0 d1 e0 e1 e2
  go_wp2_with fail
  rw [← hw3]
  clear hw3 f2 f2f e2f
  refine wp_region_T (S := fun W => W.cell? ⟨P, 3, none⟩ = some cv ∧ W.cell? ⟨P, 1, none⟩ = some (.slice (some ⟨g, off, none⟩) nl cap)) 15 3 rfl (by kernel_rfl) ?_ (fun hHeld => ?_)
  · exact ⟨by assumption, by assumption⟩
  refine wpAnyT_take (i := 0) (v := ?tv1) rfl (by kernel_rfl) (by decide) (by kernel_rfl) (by kernel_rfl) (fun _ _ _ h => h) (Or.inl ⟨by rfl, ?ty1⟩) (by assumption) ?tr1
  case ty1 => intro w hSw; (try dsimp only at hSw); go_simp; (try with_reducible rfl)
  try simp only [Act.put, List.setIfInBounds_toArray, List.set_cons_zero, List.set_cons_succ, List.getElem_toArray, List.getElem_cons_zero, List.getElem_cons_succ, Nat.zero_add]
  refine wpAnyT_take (i := 1) (v := ?tv2) rfl (by kernel_rfl) (by decide) (by kernel_rfl) (by kernel_rfl) (fun _ _ _ h => h) (Or.inl ⟨by rfl, ?ty2⟩) (by assumption) ?tr2
  case ty2 => intro w hSw; (try dsimp only at hSw); go_simp; (try with_reducible rfl)
  try simp only [Act.put, List.setIfInBounds_toArray, List.set_cons_zero, List.set_cons_succ, List.getElem_toArray, List.getElem_cons_zero, List.getElem_cons_succ, Nat.zero_add]
  refine wpAnyT_take (i := 2) (v := ?tv3) rfl (by kernel_rfl) (by decide) (by kernel_rfl) (by kernel_rfl) (fun _ _ _ h => h) (Or.inl ⟨by rfl, ?ty3⟩) (by assumption) ?tr3
  case ty3 => intro w hSw; (try dsimp only at hSw); go_simp; (try with_reducible rfl)
  try simp only [Act.put, List.setIfInBounds_toArray, List.set_cons_zero, List.set_cons_succ, List.getElem_toArray, List.getElem_cons_zero, List.getElem_cons_succ, Nat.zero_add]
  refine wpAnyT_take (i := 3) (v := ?tv4) rfl (by kernel_rfl) (by decide) (by kernel_rfl) (by kernel_rfl) (fun _ _ _ h => h) (Or.inl ⟨by rfl, ?ty4⟩) (by assumption) ?tr4
  case ty4 => intro w hSw; (try dsimp only at hSw); go_simp; (try with_reducible rfl)
  try simp only [Act.put, List.setIfInBounds_toArray, List.set_cons_zero, List.set_cons_succ, List.getElem_toArray, List.getElem_cons_zero, List.getElem_cons_succ, Nat.zero_add]
  refine wpAnyT_take (i := 4) (v := ?tv5) rfl (by kernel_rfl) (by decide) (by kernel_rfl) (by kernel_rfl) (fun _ _ _ h => h) (Or.inl ⟨by rfl, ?ty5⟩) (by assumption) ?tr5
  case ty5 => intro w hSw; (try dsimp only at hSw); go_simp; (try with_reducible rfl)
  try simp only [Act.put, List.setIfInBounds_toArray, List.set_cons_zero, List.set_cons_succ, List.getElem_toArray, List.getElem_cons_zero, List.getElem_cons_succ, Nat.zero_add]
  refine wpAnyT_take (i := 6) (v := ?tv6) rfl (by kernel_rfl) (by decide) (by kernel_rfl) (by kernel_rfl) (fun _ _ _ h => h) (Or.inl ⟨by rfl, ?ty6⟩) (by assumption) ?tr6
  case ty6 => intro w hSw; (try dsimp only at hSw); go_simp; (try with_reducible rfl)
  try simp only [Act.put, List.setIfInBounds_toArray, List.set_cons_zero, List.set_cons_succ, List.getElem_toArray, List.getElem_cons_zero, List.getElem_cons_succ, Nat.zero_add]
  refine wpAnyT_take (i := 7) (v := ?tv7) rfl (by kernel_rfl) (by decide) (by kernel_rfl) (by kernel_rfl) (fun _ _ _ h => h) (Or.inl ⟨by rfl, ?ty7⟩) (by assumption) ?tr7
  case ty7 => intro w hSw; (try dsimp only at hSw); go_simp; (try with_reducible rfl)
  try simp only [Act.put, List.setIfInBounds_toArray, List.set_cons_zero, List.set_cons_succ, List.getElem_toArray, List.getElem_cons_zero, List.getElem_cons_succ, Nat.zero_add]
  refine wpAnyT_take (i := 8) (v := ?tv8) rfl (by kernel_rfl) (by decide) (by kernel_rfl) (by kernel_rfl) (fun _ _ _ h => h) (Or.inl ⟨by rfl, ?ty8⟩) (by assumption) ?tr8
  case ty8 => intro w hSw; (try dsimp only at hSw); go_simp; (try with_reducible rfl)
  try simp only [Act.put, List.setIfInBounds_toArray, List.set_cons_zero, List.set_cons_succ, List.getElem_toArray, List.getElem_cons_zero, List.getElem_cons_succ, Nat.zero_add]
  refine wpAnyT_take (i := 9) (v := ?tv9) rfl (by kernel_rfl) (by decide) (by kernel_rfl) (by kernel_rfl) (fun _ _ _ h => h) (Or.inl ⟨by rfl, ?ty9⟩) (by assumption) ?tr9
  case ty9 => intro w hSw; (try dsimp only at hSw); go_simp; (try with_reducible rfl)
  try simp only [Act.put, List.setIfInBounds_toArray, List.set_cons_zero, List.set_cons_succ, List.getElem_toArray, List.getElem_cons_zero, List.getElem_cons_succ, Nat.zero_add]
  refine wpAnyT_take (i := 10) (v := ?tv10) rfl (by kernel_rfl) (by decide) (by kernel_rfl) (by kernel_rfl) (fun _ _ _ h => h) (Or.inl ⟨by rfl, ?ty10⟩) (by assumption) ?tr10
  case ty10 => intro w hSw; (try dsimp only at hSw); go_simp; (try with_reducible rfl)
  try simp only [Act.put, List.setIfInBounds_toArray, List.set_cons_zero, List.set_cons_succ, List.getElem_toArray, List.getElem_cons_zero, List.getElem_cons_succ, Nat.zero_add]
  refine wpAnyT_take (i := 11) (v := ?tv11) rfl (by kernel_rfl) (by decide) (by kernel_rfl) (by kernel_rfl) (fun _ _ _ h => h) (Or.inl ⟨by rfl, ?ty11⟩) (by assumption) ?tr11
  case ty11 => intro w hSw; (try dsimp only at hSw); go_simp; (try with_reducible rfl)
  try simp only [Act.put, List.setIfInBounds_toArray, List.set_cons_zero, List.set_cons_succ, List.getElem_toArray, List.getElem_cons_zero, List.getElem_cons_succ, Nat.zero_add]
  refine wpAnyT_ready (rs := [5]) (by kernel_rfl) (by kernel_rfl) ?_
  refine AllReadyT.cons rfl (fun K hK => ?_) ?_
  · go_simp
    refine hK.out _ _ ?_ (fun hHeld => ?_)
    · first | exact ⟨by assumption, by assumption⟩ | exact ⟨cell_alj _ hHeld.1, cell_alj _ hHeld.2⟩
    clear hK K
    try simp only [Act.put, List.setIfInBounds_toArray, List.set_cons_zero, List.set_cons_succ, List.getElem_toArray, List.getElem_cons_zero, List.getElem_cons_succ, Nat.zero_add]
    refine wpAnyT_ready (rs := [12]) (by kernel_rfl) (by kernel_rfl) ?_
    refine AllReadyT.cons rfl (fun K hK => ?_) ?_
    · refine step_append_rows _ (by rfl) _ _ _ (by rfl) 70 iR _ 2 16 Try.underlying56 hj0 hj1 hj2 hj3 rfl (by omega) _ 0 [] (by rfl) (row_one _ _ (by exact new_at _ _ _ (by simp [World.setCell]))) 70 (.slice (some ⟨g, off + at_ * 2, none⟩) (nl - at_) (cap - at_)) (nl - at_) ((l.drop at_).flatMap rcells) (by rfl) (HD3.out.kept ?nc1 (fun _ _ h => h)) H1.out (by unfold maxLen; omega) (by omega) _ (by rfl) ?_
      case nc1 => (repeat (first | exact Chg.refl _ _ | apply Chg.alloc | apply Chg.drew | apply Chg.drewN))
      intro ad1 cap1 w4 hrow4 hgrow4 hat4
      simp only [Nat.zero_add, List.nil_append] at hrow4 hat4 hgrow4
      have hC4 : Chg (fun _ => False) w3 w4 := (by refine Chg.grown ?_ hgrow4 (fun k hk e => ?_); (focus (repeat (first | exact Chg.refl _ _ | apply Chg.alloc | apply Chg.drew | apply Chg.drewN))); (simp [Value.ownBlock] at e; try omega))
      have hO4 : ∀ j ∈ own (.slice ad1 (nl - at_) cap1), w3.heap.size ≤ j := fun j hj => put_own hat4 (mem_own.1 hj) (fun g hg => (by simp [Value.ownBlock] at hg; try omega)) (by simp; try omega)
      have q1 := hC4.cell s3 (fun h => h)
      have q2 := hC4.cell s1 (fun h => h)
      refine hK.out _ _ ?_ (fun hHeld => ?_)
      · first | exact ⟨by assumption, by assumption⟩ | exact ⟨cell_alj _ hHeld.1, cell_alj _ hHeld.2⟩
      clear hK K
      try simp only [Act.put, List.setIfInBounds_toArray, List.set_cons_zero, List.set_cons_succ, List.getElem_toArray, List.getElem_cons_zero, List.getElem_cons_succ, Nat.zero_add]
      refine wpAnyT_ready (rs := [13]) (by kernel_rfl) (by kernel_rfl) ?_
      refine AllReadyT.cons rfl (fun K hK => ?_) ?_
      · go_simp
        refine hK.out _ _ ?_ (fun hHeld => ?_)
        · first | exact ⟨by assumption, by assumption⟩ | exact ⟨cell_alj _ hHeld.1, cell_alj _ hHeld.2⟩
        clear hK K
        try simp only [Act.put, List.setIfInBounds_toArray, List.set_cons_zero, List.set_cons_succ, List.getElem_toArray, List.getElem_cons_zero, List.getElem_cons_succ, Nat.zero_add]
        refine wpAnyT_ready (rs := [14]) (by kernel_rfl) (by kernel_rfl) ?_
        refine AllReadyT.cons rfl (fun K hK => ?_) ?_
        · refine step_append_row _ (by rfl) _ _ _ (by rfl) 56 iC _ 1 24 Try.underlying58 hk0 hk1 hk2 hk3 rfl (by omega) cv np cs (by rfl) (HCV3.out.kept ?nc2 (fun _ _ h => h)) ⟨_, 0, none⟩ 1 1 [.slice ad1 (nl - at_) cap1] (by rfl) (by rfl) (by exact World.news_of_block (blk_new w4 _)) (by simp [Value.oneCell']) (by omega) (by unfold maxLen; omega) (by omega) _ (by rfl) ?_
          case nc2 => (repeat (first | exact hC4 | exact Chg.refl _ _ | apply Chg.alloc | apply Chg.drew | apply Chg.drewN))
          intro g5 off5 cap5 w5 hrow5 hgrow5 hat5 hlt5
          have hC5 : Chg (fun j => j ∈ own cv) w4 w5 := (by refine Chg.grown ?_ hgrow5 (fun k hk e => mem_own.2 e); exact (Chg.refl _ _).alloc _)
          have hO5 : ∀ j ∈ own (.slice (some ⟨g5, off5, none⟩) (np + 1) cap5), j ∈ own cv ∨ w4.heap.size ≤ j := fun j hj => (by have e : j = g5 := (by simpa [own_slice] using hj); subst e; exact hat5.imp mem_own.2 (fun h => (by rw [h]; simp)))
          have hP5 : w5.heap[P]? = _ := hC5.blk (hC4.blk HB3.out (fun h => h)) HCVP.out
          have p1 := cell_of hP5 1
          have p4 := cell_of hP5 4
          have p4f := free_of hP5 4
          have p1f := free_of hP5 1
          have p3 := cell_of hP5 3
          have p3f := free_of hP5 3
          simp only [List.getElem?_toArray, List.getElem?_cons_zero, List.getElem?_cons_succ] at p1 p3 p4
          refine hK.out _ _ ?_ (fun hHeld => ?_)
          · first | exact ⟨by assumption, by assumption⟩ | exact ⟨cell_alj _ hHeld.1, cell_alj _ hHeld.2⟩
          clear hK K
          try simp only [Act.put, List.setIfInBounds_toArray, List.set_cons_zero, List.set_cons_succ, List.getElem_toArray, List.getElem_cons_zero, List.getElem_cons_succ, Nat.zero_add]
          refine wpAnyT_done (by kernel_rfl) ?_
          simp only [List.drop_succ_cons, List.drop_zero]
          have HROW4 := Lib.hid hrow4
          have HC4 := Lib.hid hC4
          have HO4 := Lib.hid hO4
          have HROW5 := Lib.hid hrow5
          have HC5 := Lib.hid hC5
          have HO5 := Lib.hid hO5
          have HP5 := Lib.hid hP5
          have HUV5 := Lib.hid ((HUV3.out.kept hC4 (fun _ _ h => h)).kept hC5 (fun j hj e => HUC.out j (mem_own.2 hj) e))
          have hP6 : (w5.setCell ⟨P, 3, none⟩ (.slice (some ⟨g5, off5, none⟩) (np + 1) cap5)).heap[P]? = some (.cells #[ptr s, .slice (some ⟨g, off, none⟩) nl cap, pv', .slice (some ⟨g5, off5, none⟩) (np + 1) cap5, uv] 61 (0, 0)) := (by have := blk_set hP5 3 (.slice (some ⟨g5, off5, none⟩) (np + 1) cap5); simpa using this)
          have HUV6 : Hid (RowAt (w5.setCell ⟨P, 3, none⟩ (.slice (some ⟨g5, off5, none⟩) (np + 1) cap5)) 4 1 uv np us) := HUV5.out.kept (F := fun j => j = P) (Chg.set (p := ⟨P, 3, none⟩) (F := fun j => j = P) (Chg.refl _ w5) (fun _ => rfl) _) (fun j hj e => HUVP.out (e ▸ mem_own.2 hj))
          have HP6 := Lib.hid hP6
          clear hP5 hP6 hrow4 hgrow4 hat4 hC4 hO4 hrow5 hgrow5 hat5 hlt5 hC5 hO5 q1 q2 s1 s3
          go_wp2_with (at_builtin; refine wpList_append_row _ rfl _ _ 59 rfl 4 iU _ 1 1 Try.underlying59 hl0 hl1 hl2 hl3 rfl (by decide) uv np us rfl ?ya6 ⟨w5.heap.size, 0, none⟩ 1 1 [.bool false] rfl rfl ?ya7 ?ya8 (by decide) ?ya9 ?ya10 _ rfl ?_)
          case ya6 => exact HUV6.out.kept ((Chg.refl (fun _ => False) _).alloc _) (fun _ _ h => h)
          case ya7 => exact World.news_of_block (new_at _ _ _ (by simp [World.setCell]))
          case ya8 => simp [Value.oneCell']
          case ya9 => unfold maxLen; omega
          case ya10 => omega
          intro g7 off7 cap7 w7 hrow7 hgrow7 hat7 hlt7
          have hC7 : Chg (fun j => j ∈ own uv) (w5.setCell ⟨P, 3, none⟩ (.slice (some ⟨g5, off5, none⟩) (np + 1) cap5)) w7 := (((Chg.refl _ _).alloc _).grown hgrow7 (fun j _ e => mem_own.2 e))
          have hO7 : ∀ j ∈ own (.slice (some ⟨g7, off7, none⟩) (np + 1) cap7), j ∈ own uv ∨ w5.heap.size ≤ j := fun j hj => (by have e : j = g7 := (by simpa [own_slice] using hj); subst e; exact hat7.imp mem_own.2 (fun h => (by rw [h]; simp [World.setCell])))
          have hP7 := hC7.blk HP6.out HUVP.out
          have u1 := cell_of hP7 1
          have u4 := cell_of hP7 4
          have u4f := free_of hP7 4
          have u1f := free_of hP7 1
          simp only [List.getElem?_toArray, List.getElem?_cons_zero, List.getElem?_cons_succ] at u1 u4
          have HROW7 := Lib.hid hrow7
          have HC7 := Lib.hid hC7
          have HO7 := Lib.hid hO7
          clear hrow7 hgrow7 hat7 hlt7 hC7 hO7 hP7 p1 p3 p4 p1f p3f p4f
          go_wp2_with fail
          go_ret
          exact ⟨rfl, p, w1, pv', w2, _, w4, _, w5, _, w7, HX1.out, ⟨by rw [hpv']; exact HROW2.out, HC2.out, by rw [hpv']; exact HO2.out⟩, ⟨HROW4.out, by rw [← HW3.out]; exact HC4.out, by rw [← HSZ3.out]; exact HO4.out⟩, ⟨HROW5.out, HC5.out, HO5.out⟩, ⟨HROW7.out, HC7.out, HO7.out⟩, rfl⟩
        exact AllReadyT.nil
      exact AllReadyT.nil
    exact AllReadyT.nil
  exact AllReadyT.nil
theorem cutp_end {w w0 w1 w2 w4 w5 w7 w9 : World} {P s p at_ g off cap : Nat} {l : Row} {pv cv uv pv' v' cv' uv' : Value} {F F' Fp : List Nat} {pcs : List Pc} {B0 : Nat}
    (h : PlayAt w0 P s l l (.slice (some ⟨g, off, none⟩) l.length cap) pv cv uv F pcs B0) (hw : Chg (fun _ => False) w w0)
    (hs : SA w1 s (l.take at_) F') (hp : PA w1 p (l.drop at_) false Fp) (hnd : (F' ++ Fp).Nodup) (ha : Chg (fun j => j ∈ F) w0 w1) (hn : ∀ k ∈ F' ++ Fp, k ∈ F ∨ w0.heap.size ≤ k)
    (r2 : RowAt w2 67 1 pv' (pcs.length + 1) ((pcs.map fun x => ptr x.p) ++ [ptr p])) (c2 : Chg (fun j => j ∈ own pv) w1 w2) (o2 : ∀ j ∈ own pv', j ∈ own pv ∨ w1.heap.size ≤ j)
    (r4 : RowAt w4 70 2 v' (l.length - at_) ((l.drop at_).flatMap rcells)) (c4 : Chg (fun _ => False) (w2.setCell ⟨P, 2, none⟩ pv') w4) (o4 : ∀ j ∈ own v', w2.heap.size ≤ j)
    (r5 : RowAt w5 56 1 cv' (pcs.length + 1) ((pcs.map fun x => x.v) ++ [v'])) (c5 : Chg (fun j => j ∈ own cv) w4 w5) (o5 : ∀ j ∈ own cv', j ∈ own cv ∨ w4.heap.size ≤ j)
    (r7 : RowAt w7 4 1 uv' (pcs.length + 1) ((pcs.map fun x => .bool x.u) ++ [.bool false])) (c7 : Chg (fun j => j ∈ own uv) (w5.setCell ⟨P, 3, none⟩ cv') w7) (o7 : ∀ j ∈ own uv', j ∈ own uv ∨ w5.heap.size ≤ j)
    (h9 : w9 = (w7.setCell ⟨P, 4, none⟩ uv').setCell ⟨P, 1, none⟩ (.slice (some ⟨g, off, none⟩) at_ cap)) (hat : at_ ≤ l.length) : Did w w9 P s l pcs B0 := by
  have hPl : P < w0.heap.size := lt_of_block h.blk
  have dPF : P ∉ F := h.st.not h.tagP (by decide)
  have dPpv : P ∉ own pv := fun e => tag_ne (row_tag h.prow e) h.tagP (by decide) rfl
  have dPcv : P ∉ own cv := fun e => tag_ne (row_tag h.crow e) h.tagP (by decide) rfl
  have dPuv : P ∉ own uv := fun e => tag_ne (row_tag h.urow e) h.tagP (by decide) rfl
  have dpvF : ∀ j ∈ own pv, j ∉ F := fun j hj => h.st.not (row_tag h.prow hj) (by decide)
  have dcvF : ∀ j ∈ own cv, j ∉ F := fun j hj => h.st.not (row_tag h.crow hj) (by decide)
  have duvF : ∀ j ∈ own uv, j ∉ F := fun j hj => h.st.not (row_tag h.urow hj) (by decide)
  have dpc : ∀ j ∈ own pv, j ∉ own cv := fun j hj e => tag_ne (row_tag h.prow hj) (row_tag h.crow e) (by decide) rfl
  have dpu : ∀ j ∈ own pv, j ∉ own uv := fun j hj e => tag_ne (row_tag h.prow hj) (row_tag h.urow e) (by decide) rfl
  have dcu : ∀ j ∈ own cv, j ∉ own uv := fun j hj e => tag_ne (row_tag h.crow hj) (row_tag h.urow e) (by decide) rfl
  have lF : ∀ j ∈ F, j < w0.heap.size := h.st.lt
  have lpv : ∀ j ∈ own pv, j < w0.heap.size := fun j hj => h.prow.lt j (mem_own.1 hj)
  have lcv : ∀ j ∈ own cv, j < w0.heap.size := fun j hj => h.crow.lt j (mem_own.1 hj)
  have luv : ∀ j ∈ own uv, j < w0.heap.size := fun j hj => h.urow.lt j (mem_own.1 hj)
  have z0 := hw.size
  have z1 := ha.size
  have z2 := c2.size
  have z3 : (w2.setCell ⟨P, 2, none⟩ pv').heap.size = w2.heap.size := by simp [World.setCell]
  have z4 := c4.size
  have z5 := c5.size
  have z6 : (w5.setCell ⟨P, 3, none⟩ cv').heap.size = w5.heap.size := by simp [World.setCell]
  have z7 := c7.size
  have s3 : Chg (fun j => j = P) w2 (w2.setCell ⟨P, 2, none⟩ pv') := Chg.set (p := ⟨P, 2, none⟩) (F := fun j => j = P) (Chg.refl _ w2) (fun _ => rfl) _
  have s6 : Chg (fun j => j = P) w5 (w5.setCell ⟨P, 3, none⟩ cv') := Chg.set (p := ⟨P, 3, none⟩) (F := fun j => j = P) (Chg.refl _ w5) (fun _ => rfl) _
  have s9 : Chg (fun j => j = P) w7 w9 := by
    rw [h9]
    exact Chg.set (p := ⟨P, 1, none⟩) (F := fun j => j = P) (Chg.set (p := ⟨P, 4, none⟩) (F := fun j => j = P) (Chg.refl _ w7) (fun _ => rfl) _) (fun _ => rfl) _
  -- from w7, from w5, from w4, from w2, from w1, from w0 on
  have k7 : Chg (fun j => j = P) w7 w9 := s9
  have k5 : Chg (fun j => j = P ∨ j ∈ own uv) w5 w9 := ((s6.mono (fun _ _ e => .inl e)).andThen c7 (fun _ _ e => .inr e)).andThen s9 (fun _ _ e => .inl e)
  have k4 : Chg (fun j => j = P ∨ j ∈ own uv ∨ j ∈ own cv) w4 w9 := (c5.mono (fun _ _ e => .inr (.inr e))).andThen k5 (fun _ _ e => e.imp id .inl)
  have k2 : Chg (fun j => j = P ∨ j ∈ own uv ∨ j ∈ own cv) w2 w9 := ((s3.mono (fun _ _ e => .inl e)).andThen c4 (fun _ _ e => e.elim)).andThen k4 (fun _ _ e => e)
  have k1 : Chg (fun j => j = P ∨ j ∈ own uv ∨ j ∈ own cv ∨ j ∈ own pv) w1 w9 := (c2.mono (fun _ _ e => .inr (.inr (.inr e)))).andThen k2 (fun _ _ e => e.imp id (.imp id .inl))
  have k0 : Chg (fun j => j = P ∨ j ∈ own uv ∨ j ∈ own cv ∨ j ∈ own pv ∨ j ∈ F) w0 w9 := (ha.mono (fun _ _ e => .inr (.inr (.inr (.inr e))))).andThen k1 (fun _ _ e => e.imp id (.imp id (.imp id .inl)))
  have nF : ∀ k ∈ F' ++ Fp, ¬ (k = P ∨ k ∈ own uv ∨ k ∈ own cv ∨ k ∈ own pv) := fun k hk e => by
    rcases hn k hk with h1 | h1
    · rcases e with rfl | e | e | e
      · exact dPF h1
      · exact duvF k e h1
      · exact dcvF k e h1
      · exact dpvF k e h1
    · rcases e with rfl | e | e | e
      · omega
      · have := luv k e; omega
      · have := lcv k e; omega
      · have := lpv k e; omega
  have hs9 := hs.chg k1 (fun j hj => nF j (List.mem_append_left _ hj))
  have hp9 := hp.chg k1 (fun j hj => nF j (List.mem_append_right _ hj))
  have hpcF : ∀ x ∈ pcs, ∀ j ∈ x.F, ¬ (j = P ∨ j ∈ own uv ∨ j ∈ own cv ∨ j ∈ own pv ∨ j ∈ F) := fun x hx j hj e => by
    rcases e with rfl | e | e | e | e
    · exact (h.pc x hx).not h.tagP (by decide) hj
    · exact (h.pc x hx).not (row_tag h.urow e) (by decide) hj
    · exact (h.pc x hx).not (row_tag h.crow e) (by decide) hj
    · exact (h.pc x hx).not (row_tag h.prow e) (by decide) hj
    · exact h.far x hx j hj e
  have hrowF : ∀ {v : Value} {c : Row}, RRow w0 v c → RRow w9 v c := fun {v c} hr => hr.kept k0 (fun j hj e => by
    have ht := row_tag hr (mem_own.2 hj)
    rcases e with rfl | e | e | e | e
    · exact tag_ne ht h.tagP (by decide) rfl
    · exact tag_ne ht (row_tag h.urow e) (by decide) rfl
    · exact tag_ne ht (row_tag h.crow e) (by decide) rfl
    · exact tag_ne ht (row_tag h.prow e) (by decide) rfl
    · exact h.st.not ht (by decide) e)
  have hl9 : RRow w9 (.slice (some ⟨g, off, none⟩) at_ cap) (l.take at_) := RRow.take (hrowF h.row) rfl at_ hat
  have hb1 := k1
  have b1 : w1.heap[P]? = some (.cells #[ptr s, .slice (some ⟨g, off, none⟩) l.length cap, pv, cv, uv] 61 (0, 0)) := ha.blk h.blk dPF
  have b2 := c2.blk b1 dPpv
  have b3 := blk_set b2 2 pv'
  have b4 := c4.blk b3 (fun e => e)
  have b5 := c5.blk b4 dPcv
  have b6 := blk_set b5 3 cv'
  have b7 := c7.blk b6 dPuv
  have b9 := blk_set (blk_set b7 4 uv') 1 (.slice (some ⟨g, off, none⟩) at_ cap)
  rw [← h9] at b9
  have hmap1 : (pcs ++ [(⟨p, l.drop at_, false, v', Fp⟩ : Pc)]).length = pcs.length + 1 := by simp
  refine ⟨l.take at_, _, pv', cv', uv', F', pcs ++ [⟨p, l.drop at_, false, v', Fp⟩], ⟨by simpa using b9, hs9, hl9, ?_, ?_, ?_, ?_, ?_, ?_, h.lo.1, ?_, ?_, ?_⟩, ?_, ?_, by rw [hmap1]; omega⟩
  · rw [hmap1, List.map_append]
    refine r2.kept k2 (fun j hj e => ?_)
    rcases o2 j (mem_own.2 hj) with h1 | h1
    · rcases e with rfl | e | e
      · exact dPpv h1
      · exact dpu j h1 e
      · exact dpc j h1 e
    · rcases e with rfl | e | e
      · omega
      · have := luv j e; omega
      · have := lcv j e; omega
  · rw [hmap1, List.map_append]
    refine r5.kept k5 (fun j hj e => ?_)
    rcases o5 j (mem_own.2 hj) with h1 | h1
    · rcases e with rfl | e
      · exact dPcv h1
      · exact dcu j h1 e
    · rcases e with rfl | e
      · omega
      · have := luv j e; omega
  · rw [hmap1, List.map_append]
    refine r7.kept k7 (fun j hj e => ?_)
    rcases o7 j (mem_own.2 hj) with h1 | h1
    · exact dPuv (e ▸ h1)
    · omega
  · intro x hx
    rcases List.mem_append.1 hx with h1 | h1
    · exact (h.pc x h1).chg k0 (hpcF x h1)
    · obtain rfl : x = ⟨p, l.drop at_, false, v', Fp⟩ := by simpa using h1
      exact hp9
  · intro x hx
    rcases List.mem_append.1 hx with h1 | h1
    · exact hrowF (h.pr x h1)
    · obtain rfl : x = ⟨p, l.drop at_, false, v', Fp⟩ := by simpa using h1
      have r4' : RRow w4 v' (l.drop at_) := by unfold RRow; rw [List.length_drop]; exact r4
      refine r4'.kept k4 (fun j hj e => ?_)
      have := o4 j (mem_own.2 hj)
      rcases e with rfl | e | e
      · omega
      · have := luv j e; omega
      · have := lcv j e; omega
  · have hap := h.apart
    rw [List.nodup_append] at hap
    rw [List.flatMap_append, ← List.append_assoc]
    simp only [List.flatMap_cons, List.flatMap_nil, List.append_nil]
    rw [List.nodup_append] at hnd
    have hold : ∀ k ∈ F' ++ Fp, ∀ j ∈ pcs.flatMap (fun x => x.F), k ≠ j := fun k hk j hj e => by
      subst e
      obtain ⟨x, hx, hjx⟩ := List.mem_flatMap.1 hj
      rcases hn k hk with h1 | h1
      · exact h.far x hx k hjx h1
      · have := (h.pc x hx).lt k hjx; omega
    rw [List.nodup_append, List.nodup_append]
    refine ⟨⟨hnd.1, hap.2.1, fun a ha b hb => hold a (List.mem_append_left _ ha) b hb⟩, hnd.2.1, fun a ha b hb => ?_⟩
    rcases List.mem_append.1 ha with h1 | h1
    · exact hnd.2.2 a h1 b hb
    · exact fun e => hold b (List.mem_append_right _ hb) a h1 e.symm
  · intro j hj
    rcases hn j (List.mem_append_left _ hj) with h1 | h1
    · exact h.lo.2.1 j h1
    · have := h.lo.1; omega
  · intro j hj
    have hB := h.lo.1
    have hO := h.lo.2.2.1
    simp only [List.mem_append] at hj hO
    rcases hj with e | e | e
    · rcases o2 j e with h1 | h1
      · exact hO j (.inl h1)
      · omega
    · rcases o5 j e with h1 | h1
      · exact hO j (.inr (.inl h1))
      · omega
    · rcases o7 j e with h1 | h1
      · exact hO j (.inr (.inr h1))
      · omega
  · intro x hx j hj
    rcases List.mem_append.1 hx with h1 | h1
    · exact h.lo.2.2.2 x h1 j hj
    · obtain rfl : x = ⟨p, l.drop at_, false, v', Fp⟩ := by simpa using h1
      rcases hn j (List.mem_append_right _ hj) with h2 | h2
      · exact h.lo.2.1 j h2
      · have := h.lo.1; omega
  · have hO := h.lo.2.2.1
    simp only [List.mem_append] at hO
    refine (hw.mono (fun _ _ e => e.elim)).andThen k0 (fun j _ e => ?_)
    rcases e with rfl | e | e | e | e
    · exact h.lo.1
    · exact hO j (.inr (.inr e))
    · exact hO j (.inr (.inl e))
    · exact hO j (.inl e)
    · exact h.lo.2.1 j e
  · unfold weight unusedLen
    have e1 : at_ + (l.drop at_).length = l.length := by rw [List.length_drop]; omega
    rw [List.map_append, List.sum_append, List.length_take, Nat.min_eq_left hat]
    simp only [List.map_cons, List.map_nil, List.sum_cons, List.sum_nil, Bool.false_eq_true, if_false]
    generalize (l.drop at_).length = q at *
    omega
theorem does_cut {w : World} {P s : Nat} {l : Row} {lv pv cv uv : Value} {F : List Nat} {pcs : List Pc} {B0 : Nat} (h : PlayAt w P s l l lv pv cv uv F pcs B0) (hl : l.length < 100000) (hn : pcs.length < 100000) (n : Int) (hi : n ≤ 9223372036854775807) :
    Calls Try.prog 26 #[.pointer (some ⟨P, 0, none⟩), actV 4 n] w fun e w' => e = .returned (.bool true) ∧ Did w w' P s l pcs B0 := by
  obtain ⟨w0, hw0⟩ : ∃ w0, w.alloc (.cells #[.int .i64 4, .int .i64 n] 64) = w0 := ⟨_, rfl⟩
  have hC0 : Chg (fun _ => False) w w0 := by rw [← hw0]; exact (Chg.refl _ w).alloc _
  have hb0 : w0.heap[w.heap.size]? = some (.cells #[.int .i64 4, .int .i64 n] 64 (0, 0)) := by rw [← hw0]; exact blk_new w _
  have h0 := h.kept hC0
  have hk0 : ∀ k, Chg (fun _ => False) w0 (w0.drewN k) := fun k => (Chg.refl _ w0).drewN k
  cases hat : markAt l n with
  | none =>
    refine (cutn_walk rfl hw0 (cell_of hb0 0) (cell_of hb0 1) (cell_of h0.blk 0) (cell_of h0.blk 1) (fun k => cut_none (h0.kept (hk0 k)).st n hat) (fun k => ?_)).mono ?_
    · have := mark_ref (h0.kept (hk0 k)).row (by omega) n hi
      simpa [placeOf, hat] using this
    · rintro e w' ⟨q1, m, rfl⟩
      exact ⟨q1, _, _, _, _, _, _, _, h0.kept (hk0 m), (hC0.trans (hk0 m)).mono (fun _ _ e => e.elim), by omega, by omega⟩
  | some at_ =>
    obtain ⟨m, hx⟩ : ∃ m, l[at_]? = some (true, m) := by
      obtain ⟨bv, pv', base, L, h1, h2, h3⟩ := h.st
      rw [← h2]
      exact markAt_get base L n at_ (by rw [h2]; exact hat)
    have hal : at_ < l.length := (List.getElem?_eq_some_iff.1 hx).1
    obtain ⟨g, off, cap, hlv, hcap⟩ := h.row.formS (by omega)
    subst hlv
    have hX1 : ∀ W, Chg (fun _ => False) w0 W → Calls Try.prog 30 #[.pointer (some ⟨s, 0, none⟩), .int .i64 n] W fun e w' => ∃ p, e = .returned (.tuple #[.pointer (some ⟨p, 0, none⟩), .bool true]) ∧
        ∃ F' Fp, SA w' s (l.take at_) F' ∧ PA w' p (l.drop at_) false Fp ∧ (F' ++ Fp).Nodup ∧ Chg (fun j => j ∈ F) w0 w' ∧ ∀ k ∈ F' ++ Fp, k ∈ F ∨ w0.heap.size ≤ k := fun W hW => by
      refine (cut_abs (h0.kept hW).st n at_ hat).mono ?_
      rintro e w' ⟨p, F', Fp, q1, q2, q3, q4, q5⟩
      exact ⟨p, q1, F', Fp, q2, q3, q4, (hW.mono (fun _ _ e => e.elim)).trans q5.chg, fun k hk => (q5.new k hk).imp id (fun e => Nat.le_trans hW.size e)⟩
    refine (cutd_walk (l := l) (g := g) (off := off) (pv := pv) (cv := cv) (uv := uv) (ps := pcs.map fun x => ptr x.p) (cs := pcs.map fun x => x.v) (us := pcs.map fun x => .bool x.u) (X := fun p w' => ∃ F' Fp, SA w' s (l.take at_) F' ∧ PA w' p (l.drop at_) false Fp ∧ (F' ++ Fp).Nodup ∧ Chg (fun j => j ∈ F) w0 w' ∧ ∀ k ∈ F' ++ Fp, k ∈ F ∨ w0.heap.size ≤ k) rfl hw0 (cell_of hb0 0) (cell_of hb0 1) (cell_of h0.blk 0) hX1 ?_ ?_ hal hcap hl hn).mono ?_
    · rintro p w1 ⟨F', Fp, q1, q2, q3, q4, q5⟩
      have hh := fun {e : TypeId} {sz : Nat} {v : Value} {k : Nat} {xs : List Value} (hr : RowAt w0 e sz v k xs) (hne : e ∉ stackTags) => hr.kept q4 (fun j hj => h0.st.not (row_tag hr (mem_own.2 hj)) hne)
      exact ⟨q4.blk hb0 (h0.st.not ⟨_, hb0⟩ (by decide)), q4.blk h0.blk (h0.st.not h0.tagP (by decide)), hh h0.row (by decide), hh h0.prow (by decide), hh h0.crow (by decide), hh h0.urow (by decide)⟩
    · rintro p w1 ⟨F', Fp, q1, q2, q3, q4, q5⟩ k
      have hr := h0.row.kept (q4.drewN k) (fun j hj => h0.st.not (row_tag h0.row (mem_own.2 hj)) (by decide))
      have := mark_ref hr (by omega) n hi
      simpa [placeOf, hat] using this
    · rintro e w' ⟨q1, p, w1, pv', w2, v', w4, cv', w5, uv', w7, ⟨F', Fp, t1, t2, t3, t4, t5⟩, ⟨a1, a2, a3⟩, ⟨b1, b2, b3⟩, ⟨d1, d2, d3⟩, ⟨e1, e2, e3⟩, hf⟩
      exact ⟨q1, cutp_end h0 hC0 t1 t2 t3 t4 t5 a1 a2 a3 b1 b2 b3 d1 d2 d3 e1 e2 e3 hf (by omega)⟩
end Go.Proofs.Ytkidnmjaioejaaa.Sg
