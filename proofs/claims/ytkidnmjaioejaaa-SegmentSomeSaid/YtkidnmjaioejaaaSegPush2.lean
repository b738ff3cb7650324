/- The stack's Push, walked. Condition: the stack's block is known, and its rows. -/
import Derived.Test.YtkidnmjaioejaaaSegPush
namespace Go.Proofs.Ytkidnmjaioejaaa.Sg
set_option linter.unusedVariables false
set_option linter.unusedSimpArgs false
open Go.RowKit Go.Proofs.Ytkidnmjaioejaaa.Mem

theorem push_nil (f : Int) (w : World) : Calls Try.prog 33 #[.pointer none, .int .i64 f] w fun e w' => (∃ u, e = .returned u) ∧ w' = w := by
  go_enter Try.func33, Try.ntmps33
  go_wp2_with fail
  refine bodyPost_ret (results_none rfl _ _ _) rfl ?_
  exact ⟨⟨_, rfl⟩, rfl⟩
/-- What an operation of the stack leaves. -/
structure After (w w' : World) (B B' : List Nat) : Prop where
  chg : Chg (fun j => j ∈ B) w w'
  new : ∀ j ∈ B', j ∈ B ∨ w.heap.size ≤ j
theorem count_base (base : List Int) (f : Int) (L : List Part) : count (base ++ [f]) L = count base L + 1 := by simp [count]; omega
theorem count_part (base : List Int) (f : Int) (L : List Part) (e : Part) (v : Value) : count base (L ++ [⟨e.m, v, e.fs ++ [f]⟩]) = count base (L ++ [e]) + 1 := by simp [count]; omega
theorem own_slice (g off n cap : Nat) : own (.slice (some ⟨g, off, none⟩) n cap) = [g] := rfl

theorem push_base_end {w w1 : World} {s g off cap : Nat} {bv pv : Value} {base : List Int} {f : Int} {o : Obj} (h : StackAt w s bv pv base []) (hsm : count base [] < 100000)
    (hr : RowAt w1 3 1 (.slice (some ⟨g, off, none⟩) (base.length + 1) cap) (base.length + 1) (base.map (Value.int .i64) ++ [.int .i64 f])) (hg : (w.alloc o).grownBy w1 bv.ownBlock) (hat : bv.ownBlock = some g ∨ g = w.heap.size + 1) :
    StackAt ((w1.setCell ⟨s, 0, none⟩ (.slice (some ⟨g, off, none⟩) (base.length + 1) cap)).setCell ⟨s, 2, none⟩ (.int .i64 ((count base [] : Int) + 1))) s (.slice (some ⟨g, off, none⟩) (base.length + 1) cap) pv (base ++ [f]) [] ∧
    After w ((w1.setCell ⟨s, 0, none⟩ (.slice (some ⟨g, off, none⟩) (base.length + 1) cap)).setCell ⟨s, 2, none⟩ (.int .i64 ((count base [] : Int) + 1))) (foot s bv pv []) (foot s (.slice (some ⟨g, off, none⟩) (base.length + 1) cap) pv []) := by
  have hsl : s < w.heap.size := lt_of_block h.blk
  have hap := h.apart
  simp only [List.nodup_cons, List.nodup_append, List.mem_append, not_or] at hap
  obtain ⟨⟨hs1, hs2, hs3⟩, hb1, ⟨hp1, hp2, hp3⟩, hbp⟩ := hap
  have hgs : g ≠ s := by
    rcases hat with e | e
    · intro e2; subst e2; exact hs1 (mem_own.2 e)
    · omega
  have hgp : ∀ j ∈ own pv, g ≠ j := fun j hj => by
    rcases hat with e | e
    · exact hbp g (mem_own.2 e) j (.inl hj)
    · have h1 := h.lt j (by unfold foot; simp [hj])
      omega
  have hA : Chg (fun j => j ∈ own bv) w w1 := (((Chg.refl _ w).alloc o).grown hg (fun j _ e => mem_own.2 e))
  have hblk1 : w1.heap[s]? = _ := hA.blk h.blk (fun e => hs1 e)
  have hS : Chg (fun j => j = s) w1 ((w1.setCell ⟨s, 0, none⟩ (.slice (some ⟨g, off, none⟩) (base.length + 1) cap)).setCell ⟨s, 2, none⟩ (.int .i64 ((count base [] : Int) + 1))) :=
    Chg.set (p := ⟨s, 2, none⟩) (F := fun j => j = s) (Chg.set (p := ⟨s, 0, none⟩) (F := fun j => j = s) (Chg.refl _ w1) (fun _ => rfl) _) (fun _ => rfl) _
  refine ⟨⟨?_, ?_, ?_, ?_, ?_⟩, ⟨?_, ?_⟩⟩
  · have := blk_set (blk_set hblk1 0 (.slice (some ⟨g, off, none⟩) (base.length + 1) cap)) 2 (.int .i64 ((count base [] : Int) + 1))
    rw [count_base]
    simpa using this
  · unfold IRow
    rw [List.length_append, List.map_append]
    refine RowAt.kept hr hS (fun j hj e => ?_)
    have : g = j := by simpa [Value.ownBlock] using hj
    omega
  · refine (h.parts.chg hA (fun j hj e => ?_)).chg hS (fun j hj e => ?_)
    · exact hbp j e j (List.mem_append.1 hj) rfl
    · subst e
      rcases List.mem_append.1 hj with e | e
      · exact hs2 e
      · exact hs3 e
  · rw [own_slice]
    simp only [List.cons_append, List.nil_append, List.nodup_cons, List.mem_cons, List.mem_append, not_or, List.nodup_append]
    refine ⟨⟨fun e => hgs e.symm, hs2, hs3⟩, ⟨fun e => hgp g e rfl, fun e => by simp [blocks] at e⟩, hp1, hp2, hp3⟩
  · rw [count_base]
    exact ⟨by omega, h.small.2⟩
  · exact (hA.mono (fun j _ e => by unfold foot; simp [e])).andThen hS (fun j _ e => by unfold foot; simp [e])
  · intro j hj
    unfold foot at hj ⊢
    rw [own_slice] at hj
    simp only [List.mem_cons, List.mem_append, List.not_mem_nil, or_false] at hj ⊢
    rcases hj with e | e | e | e
    · exact .inl (.inl e)
    · subst e
      rcases hat with h1 | h1
      · exact .inl (.inr (.inl (mem_own.2 h1)))
      · right
        omega
    · exact .inl (.inr (.inr (.inl e)))
    · exact .inl (.inr (.inr (.inr e)))

set_option maxHeartbeats 2000000 in
theorem push_base {w : World} {s : Nat} {bv pv : Value} {base : List Int} (h : StackAt w s bv pv base []) (f : Int) (hsm : count base [] < 100000) :
    Calls Try.prog 33 #[.pointer (some ⟨s, 0, none⟩), .int .i64 f] w fun e w' => (∃ u, e = .returned u) ∧ ∃ bv', StackAt w' s bv' pv (base ++ [f]) [] ∧ After w w' (foot s bv pv []) (foot s bv' pv []) := by
  have HT := Lib.hid (top_base h)
  have HH := Lib.hid h
  obtain ⟨n, hn⟩ : ∃ n, base.length = n := ⟨_, rfl⟩
  have HN := Lib.hid hn
  have HR : Hid (RowAt w 3 1 bv n (base.map (Value.int .i64))) := by rw [← hn]; exact h.bas
  obtain ⟨adb, capb, hbv, hnb, hmb⟩ := HR.out.form
  obtain ⟨i3, hj0, hj1, hj2, hj3⟩ := info_parts info3
  have c0 : w.cell? ⟨s, 0, none⟩ = some bv := cell_of h.blk 0
  have hnl : n ≤ 100000 := by have := h.small.1; unfold count at this; omega
  have hap : Hid (s ∉ own bv) := fun e => by
    have := h.apart
    rw [List.nodup_cons] at this
    exact this.1 (List.mem_append_left _ e)
  obtain ⟨ct, hct⟩ : ∃ ct, count base [] = ct := ⟨_, rfl⟩
  have HCT := Lib.hid hct
  rw [hct] at hsm
  clear h hn hct
  subst hbv
  go_enter Try.func33, Try.ntmps33
  go_wp2_with fail
  refine HT.out.mono ?_
  rintro e w1 ⟨rfl, rfl⟩
  go_wp2_with (at_builtin; refine wpList_append_row _ rfl _ _ 49 rfl 3 i3 _ 1 8 Try.underlying49 hj0 hj1 hj2 hj3 rfl (by decide) (.slice adb n capb) n (base.map (Value.int .i64)) rfl ?ya1 ⟨w1.heap.size, 0, none⟩ 1 1 [.int .i64 f] rfl rfl ?ya2 ?ya3 (by decide) ?ya4 ?ya5 _ rfl ?_)
  case ya1 => exact HR.out.kept ((Chg.refl (fun _ => False) w1).alloc _) (fun _ _ h => h)
  case ya2 => exact World.news_of_block (blk_new w1 _)
  case ya3 => simp [Value.oneCell']
  case ya4 => unfold maxLen; omega
  case ya5 => omega
  intro g off cap w3 hrow3 hgrow3 hat3 hlt3
  have hA : Chg (fun j => j ∈ own (.slice adb n capb)) w1 w3 := (((Chg.refl _ w1).alloc _).grown hgrow3 (fun j _ e => mem_own.2 e))
  have hblk3 := hA.blk HH.out.blk hap.out
  have hE := Lib.hid (push_base_end HH.out (by rw [HCT.out]; exact hsm) (by rw [HN.out]; exact hrow3) hgrow3 hat3)
  rw [HN.out, HCT.out] at hE
  rw [HCT.out] at hblk3
  have q0 : w3.cell? ⟨s, 0, none⟩ = some (.slice adb n capb) := cell_of hblk3 0
  have q1 : w3.frozen? ⟨s, 0, none⟩ = false := free_of hblk3 0
  have q2 : w3.cell? ⟨s, 2, none⟩ = some (.int .i64 ct) := cell_of hblk3 2
  have q3 : w3.frozen? ⟨s, 2, none⟩ = false := free_of hblk3 2
  have ct0 : (0 : Int) ≤ (ct : Int) := by omega
  have ct1 : (ct : Int) < 100000 := by omega
  clear hrow3 hgrow3 hat3 hlt3 hA hblk3
  go_wp2_with fail
  go_end0
  exact ⟨⟨_, rfl⟩, _, hE.out.1, hE.out.2⟩
end Go.Proofs.Ytkidnmjaioejaaa.Sg
