/- The stack's Pop, walked. Condition: the stack's block is known, and its rows. -/
import Derived.Test.YtkidnmjaioejaaaSegAbs
namespace Go.Proofs.Ytkidnmjaioejaaa.Sg
set_option linter.unusedVariables false
set_option linter.unusedSimpArgs false
open Go.RowKit Go.Proofs.Ytkidnmjaioejaaa.Mem

theorem After.then {w w' w'' : World} {B B' : List Nat} (h : After w w' B B') (hc : Chg (fun _ => False) w' w'') : After w w'' B B' :=
  ⟨h.chg.andThen hc (fun _ _ e => e.elim), h.new⟩
theorem After.from {w0 w w' : World} {B B' : List Nat} (hc : Chg (fun _ => False) w0 w) (h : After w w' B B') (hB : ∀ j ∈ B, j < w0.heap.size) : After w0 w' B B' :=
  ⟨(hc.mono (fun _ _ e => e.elim)).trans h.chg, fun j hj => by
    rcases h.new j hj with h1 | h1
    · exact .inl h1
    · have := hc.size; right; omega⟩
/-- The base has other frames now. -/
theorem base_end {w w1 : World} {s : Nat} {bv v' pv : Value} {base fs' : List Int} (h : StackAt w s bv pv base []) (hA : Chg (fun j => j ∈ own bv) w w1)
    (hr : IRow w1 v' fs') (hnew : ∀ j ∈ own v', j ∈ own bv ∨ w.heap.size ≤ j) (hone : (own v').Nodup) (ct : Nat) (hct : ct = count fs' []) (hsm : ct ≤ 100000) :
    StackAt ((w1.setCell ⟨s, 0, none⟩ v').setCell ⟨s, 2, none⟩ (.int .i64 (ct : Int))) s v' pv fs' [] ∧
    After w ((w1.setCell ⟨s, 0, none⟩ v').setCell ⟨s, 2, none⟩ (.int .i64 (ct : Int))) (foot s bv pv []) (foot s v' pv []) := by
  have hap := h.apart
  simp only [blocks, List.flatMap_nil, List.append_nil, List.nodup_cons, List.nodup_append, List.mem_append, not_or] at hap
  obtain ⟨⟨hs1, hs2⟩, hb1, hp1, hbp⟩ := hap
  have hlt : ∀ j ∈ foot s bv pv [], j < w.heap.size := h.lt
  have hnv : ∀ j ∈ own v', j ≠ s ∧ j ∉ own pv := fun j hj => by
    rcases hnew j hj with e1 | e1
    · exact ⟨fun e2 => hs1 (e2 ▸ e1), fun e2 => hbp j e1 j e2 rfl⟩
    · have f : ∀ k ∈ foot s bv pv [], j ≠ k := fun k hk e2 => by have := hlt k hk; omega
      exact ⟨f s (by simp [foot]), fun e2 => f j (by simp [foot, e2]) rfl⟩
  have hS1 : Chg (fun j => j = s) w1 (w1.setCell ⟨s, 0, none⟩ v') := Chg.set (p := ⟨s, 0, none⟩) (F := fun j => j = s) (Chg.refl _ w1) (fun _ => rfl) _
  have hS2 : Chg (fun j => j = s) (w1.setCell ⟨s, 0, none⟩ v') ((w1.setCell ⟨s, 0, none⟩ v').setCell ⟨s, 2, none⟩ (.int .i64 (ct : Int))) := Chg.set (p := ⟨s, 2, none⟩) (F := fun j => j = s) (Chg.refl _ _) (fun _ => rfl) _
  have hS := hS1.trans hS2
  refine ⟨⟨?_, ?_, ⟨?_, ?_⟩, ?_, ?_⟩, ⟨?_, ?_⟩⟩
  · have h1 := blk_set (blk_set (hA.blk h.blk hs1) 0 v') 2 (.int .i64 (ct : Int))
    rw [← hct]
    simpa using h1
  · exact hr.kept hS (fun j hj e1 => (hnv j (mem_own.2 hj)).1 e1)
  · exact (h.parts.row.kept hA (fun j hj e1 => hbp j e1 j (mem_own.2 hj) rfl)).kept hS (fun j hj e1 => hs2 (e1 ▸ mem_own.2 hj))
  · intro y hy
    cases hy
  · simp only [blocks, List.flatMap_nil, List.append_nil, List.nodup_cons, List.nodup_append, List.mem_append, not_or]
    exact ⟨⟨fun e1 => (hnv s e1).1 rfl, hs2⟩, hone, hp1, fun j hj k hk e1 => (hnv j hj).2 (e1 ▸ hk)⟩
  · rw [← hct]
    exact ⟨hsm, by simp⟩
  · exact (hA.mono (fun j _ e1 => by simp [foot, e1])).andThen hS (fun j _ e1 => by simp [foot, e1])
  · intro j hj
    simp only [foot, blocks, List.flatMap_nil, List.append_nil, List.mem_cons, List.mem_append] at hj ⊢
    rcases hj with e1 | e1 | e1
    · exact .inl (.inl e1)
    · rcases hnew j e1 with e2 | e2
      · exact .inl (.inr (.inl e2))
      · exact .inr e2
    · exact .inl (.inr (.inr e1))
theorem zeroI (w : World) : (zeroValue 3).run Try.prog w = .ok (.int .i64 0) w := by kernel_rfl
set_option maxRecDepth 100000 in
set_option maxHeartbeats 4000000 in
/-- Pop, once it is known where the frames on top lie. -/
theorem popAt {w : World} {s B o g off k cap C : Nat} {f0 : List Int} {f : Int} (hTop : Calls Try.prog 36 #[.pointer (some ⟨s, 0, none⟩)] w fun e w' => e = .returned (.tuple #[.int .i64 f, .bool true]) ∧ Chg (fun _ => False) w w')
    (hT : ∀ w1, Chg (fun _ => False) w w1 → Calls Try.prog 55 #[.pointer (some ⟨s, 0, none⟩)] w1 fun e w' => e = .returned (.pointer (some ⟨B, o, none⟩)) ∧ Chg (fun _ => False) w1 w')
    (hc : w.cell? ⟨B, o, none⟩ = some (.slice (some ⟨g, off, none⟩) (k + 1) cap)) (hf : w.frozen? ⟨B, o, none⟩ = false) (hr : IRow w (.slice (some ⟨g, off, none⟩) (k + 1) cap) (f0 ++ [f])) (hk : f0.length = k) (hk5 : k ≤ 100000)
    (hc2 : w.cell? ⟨s, 2, none⟩ = some (.int .i64 ((C + 1 : Nat) : Int))) (hf2 : w.frozen? ⟨s, 2, none⟩ = false) (hC5 : C ≤ 100000) (hgB : g ≠ B) (hgs : g ≠ s) (hBs : B = s → o = 0) :
    Calls Try.prog 35 #[.pointer (some ⟨s, 0, none⟩)] w fun e w' => e = .returned (.tuple #[.int .i64 f, .bool true]) ∧ ∃ w3, Chg (fun j => j = g) w w3 ∧ IRow w3 (.slice (some ⟨g, off, none⟩) k cap) f0 ∧
      Chg (fun _ => False) ((w3.setCell ⟨B, o, none⟩ (.slice (some ⟨g, off, none⟩) k cap)).setCell ⟨s, 2, none⟩ (.int .i64 (C : Int))) w' := by
  have HTop := Lib.hid hTop
  have HT := fun w1 => Lib.hid (hT w1)
  have HR := Lib.hid hr
  have HK := Lib.hid hk
  have HC := Lib.hid hc
  have HF := Lib.hid hf
  have HC2 := Lib.hid hc2
  have HF2 := Lib.hid hf2
  have HBS := Lib.hid hBs
  have k0 : (0 : Int) ≤ (k : Int) := by omega
  have c0 : (0 : Int) ≤ (C : Int) := by omega
  have c5 : (C : Int) ≤ 100000 := by omega
  have hcap : k + 1 ≤ cap := by
    have hl : (f0 ++ [f]).length = k + 1 := by simp [hk]
    have hr' := hr
    unfold IRow at hr'
    rw [hl] at hr'
    obtain ⟨_, _, _, e1, h2⟩ := hr'.formS (by omega)
    cases e1
    exact h2
  clear hTop hT hr hk hc hf hc2 hf2 hBs
  go_enter Try.func35, Try.ntmps35
  go_wp2_with fail
  refine HTop.out.mono ?_
  rintro e w1 ⟨rfl, hC1⟩
  have HC1 := Lib.hid hC1
  have HT1 := Lib.hid ((HT w1).out hC1)
  clear hC1 HT HTop
  go_wp2_with fail
  refine HT1.out.mono ?_
  rintro e w2 ⟨rfl, hC2⟩
  have HCW := Lib.hid (HC1.out.trans hC2)
  clear hC2 HT1 HC1
  have d0 : w2.cell? ⟨B, o, none⟩ = some (.slice (some ⟨g, off, none⟩) (k + 1) cap) := HCW.out.cell HC.out (fun h => h)
  have hrw : RowAt w2.drew 3 1 (.slice (some ⟨g, off, none⟩) (k + 1) cap) (k + 1) ((f0 ++ [f]).map (Value.int .i64)) := by
    have := HR.out.kept (HCW.out.drewN 1) (fun _ _ h => h)
    have hl : (f0 ++ [f]).length = k + 1 := by simp [HK.out]
    unfold IRow at this
    rw [hl] at this
    exact this
  obtain ⟨i3, hj0, hj1, hj2, hj3⟩ := info_parts info3
  obtain ⟨w3, hclr, hr3, hg3⟩ := run_clear_row (P := Try.prog) w2.drew 49 3 0 i3 _ 1 Try.underlying49 zeroI rfl (by decide) hrw k (cap - k) (by omega)
  have hclr2 : ∀ ty, (Builtin.clear_ #[49] ty #[.slice (some ⟨g, off + k, none⟩) 1 (cap - k)]).run Try.prog w2.drew = .ok (.tuple #[]) w3 := fun ty => by
    rw [Nat.mul_one, Nat.add_sub_cancel_left] at hclr; exact hclr
  have hCh : Chg (fun j => j = g) w w3 := ((HCW.out.mono (fun _ _ e => e.elim)).drewN 1).grown hg3 (fun j _ e => by cases e; rfl)
  have hr3' : IRow w3 (.slice (some ⟨g, off, none⟩) k cap) f0 := by
    have e1 : ((f0 ++ [f]).map (Value.int .i64)).take (k * 1) = f0.map (Value.int .i64) := by
      rw [List.map_append, Nat.mul_one]
      exact List.take_left' (by simp [HK.out])
    rw [e1] at hr3
    unfold IRow
    rw [HK.out]
    exact hr3
  have q0 : w3.cell? ⟨B, o, none⟩ = some (.slice (some ⟨g, off, none⟩) (k + 1) cap) := hCh.cell HC.out (fun e => hgB e.symm)
  have q2 : w3.cell? ⟨s, 2, none⟩ = some (.int .i64 ((C + 1 : Nat) : Int)) := hCh.cell HC2.out (fun e => hgs e.symm)
  have q1 : w3.frozen? ⟨B, o, none⟩ = false := by
    rw [World.frozen?_of_block (a := ⟨B, o, none⟩) (hCh.block B (World.block_lt_of_cell? w _ HC.out) (fun e => hgB e.symm))]
    exact HF.out
  have q3 : w3.frozen? ⟨s, 2, none⟩ = false := by
    rw [World.frozen?_of_block (a := ⟨s, 2, none⟩) (hCh.block s (World.block_lt_of_cell? w _ HC2.out) (fun e => hgs e.symm))]
    exact HF2.out
  have HCh := Lib.hid hCh
  have HR3 := Lib.hid hr3'
  clear hr3 hclr hCh hr3' hg3 hrw
  rw [show ((C + 1 : Nat) : Int) = (C : Int) + 1 from by push_cast; rfl] at q2
  by_cases hBs : B = s
  · have ho := HBS.out hBs
    subst hBs
    subst ho
    go_wp2_with fail
    go_region
    all_goals go_wp2_with fail
    all_goals go_region
    all_goals go_wp2_with fail
    all_goals go_ret2
    all_goals exact ⟨rfl, w3, HCh.out, HR3.out, (Chg.refl _ _).drewN 1⟩
  · go_wp2_with fail
    go_region
    all_goals go_wp2_with fail
    all_goals go_region
    all_goals go_wp2_with fail
    all_goals go_ret2
    all_goals exact ⟨rfl, w3, HCh.out, HR3.out, (Chg.refl _ _).drewN 1⟩
end Go.Proofs.Ytkidnmjaioejaaa.Sg
