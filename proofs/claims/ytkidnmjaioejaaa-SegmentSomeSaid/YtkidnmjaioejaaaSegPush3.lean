/- The stack's Push, on a part, walked. Condition: the stack's block is known, and its rows. -/
import Derived.Test.YtkidnmjaioejaaaSegPush2
namespace Go.Proofs.Ytkidnmjaioejaaa.Sg
set_option linter.unusedVariables false
set_option linter.unusedSimpArgs false
open Go.RowKit Go.Proofs.Ytkidnmjaioejaaa.Mem

theorem blocks_append (A B : List Part) : blocks (A ++ B) = blocks A ++ blocks B := by simp [blocks]
theorem blocks_one (e : Part) : blocks [e] = own e.v := by simp [blocks]
theorem pcells_last (L0 : List Part) (e : Part) (v' : Value) (fs' : List Int) : ((L0 ++ [e]).flatMap pcells).set (L0.length * 2 + 1) v' = (L0 ++ [(⟨e.m, v', fs'⟩ : Part)]).flatMap pcells := by
  rw [List.flatMap_append, List.flatMap_append, List.set_append_right _ _ (by rw [pcells_len]; omega), pcells_len]
  congr 1
  rw [show L0.length * 2 + 1 - L0.length * 2 = 1 by omega]
  simp [pcells]
/-- The last part has other frames now. -/
theorem last_end {w w1 : World} {s gp offp capp : Nat} {bv v' : Value} {base fs' : List Int} {L0 : List Part} {e : Part} (h : StackAt w s bv (.slice (some ⟨gp, offp, none⟩) (L0.length + 1) capp) base (L0 ++ [e])) (hA : Chg (fun j => j ∈ own e.v) w w1)
    (hr : IRow w1 v' fs') (hnew : ∀ j ∈ own v', j ∈ own e.v ∨ w.heap.size ≤ j) (hone : (own v').Nodup) (ct : Nat) (hct : ct = count base (L0 ++ [⟨e.m, v', fs'⟩])) (hsm : ct ≤ 100000) :
    StackAt ((w1.setCell ⟨gp, offp + L0.length * 2 + 1, none⟩ v').setCell ⟨s, 2, none⟩ (.int .i64 (ct : Int))) s bv (.slice (some ⟨gp, offp, none⟩) (L0.length + 1) capp) base (L0 ++ [⟨e.m, v', fs'⟩]) ∧
    After w ((w1.setCell ⟨gp, offp + L0.length * 2 + 1, none⟩ v').setCell ⟨s, 2, none⟩ (.int .i64 (ct : Int))) (foot s bv (.slice (some ⟨gp, offp, none⟩) (L0.length + 1) capp) (L0 ++ [e])) (foot s bv (.slice (some ⟨gp, offp, none⟩) (L0.length + 1) capp) (L0 ++ [⟨e.m, v', fs'⟩])) := by
  have hap := h.apart
  rw [blocks_append, blocks_one, own_slice] at hap
  simp only [List.nodup_cons, List.nodup_append, List.mem_append, List.mem_cons, List.not_mem_nil, or_false, not_or, List.cons_append, List.nil_append] at hap
  obtain ⟨⟨hs1, hs2, hs3, hs4⟩, hb1, ⟨⟨hp1, hp2⟩, hL1, hL2, hL3⟩, hbp⟩ := hap
  have hlt : ∀ j ∈ foot s bv (.slice (some ⟨gp, offp, none⟩) (L0.length + 1) capp) (L0 ++ [e]), j < w.heap.size := h.lt
  have hnv : ∀ j ∈ own v', j ≠ s ∧ j ≠ gp ∧ j ∉ own bv ∧ j ∉ blocks L0 := fun j hj => by
    rcases hnew j hj with e1 | e1
    · refine ⟨fun e2 => hs4 (e2 ▸ e1), fun e2 => hp2 (e2 ▸ e1), fun e2 => hbp j e2 j (.inr (.inr e1)) rfl, fun e2 => hL3 j e2 j e1 rfl⟩
    · have f : ∀ k ∈ foot s bv (.slice (some ⟨gp, offp, none⟩) (L0.length + 1) capp) (L0 ++ [e]), j ≠ k := fun k hk e2 => by have := hlt k hk; omega
      refine ⟨f s (by simp [foot]), f gp (by simp [foot, own_slice]), fun e2 => f j (by simp [foot, e2]) rfl, fun e2 => f j (by simp [foot, blocks_append, e2]) rfl⟩
  have hS1 : Chg (fun j => j = gp) w1 (w1.setCell ⟨gp, offp + L0.length * 2 + 1, none⟩ v') := Chg.set (p := ⟨gp, offp + L0.length * 2 + 1, none⟩) (F := fun j => j = gp) (Chg.refl _ w1) (fun _ => rfl) _
  have hS2 : Chg (fun j => j = s) (w1.setCell ⟨gp, offp + L0.length * 2 + 1, none⟩ v') ((w1.setCell ⟨gp, offp + L0.length * 2 + 1, none⟩ v').setCell ⟨s, 2, none⟩ (.int .i64 (ct : Int))) := Chg.set (p := ⟨s, 2, none⟩) (F := fun j => j = s) (Chg.refl _ _) (fun _ => rfl) _
  have hlen : (L0 ++ [e]).length = L0.length + 1 := by simp
  have hlen' : (L0 ++ [(⟨e.m, v', fs'⟩ : Part)]).length = L0.length + 1 := by simp
  refine ⟨⟨?_, ?_, ⟨?_, ?_⟩, ?_, ?_⟩, ⟨?_, ?_⟩⟩
  · have h1 := hS1.blk (hA.blk h.blk hs4) hs2
    have := blk_set h1 2 (.int .i64 (ct : Int))
    rw [← hct]
    simpa using this
  · exact ((h.bas.kept hA (fun j hj e1 => hbp j (mem_own.2 hj) j (.inr (.inr e1)) rfl)).kept hS1 (fun j hj e1 => hbp j (mem_own.2 hj) j (.inl e1) rfl)).kept hS2 (fun j hj e1 => hs1 (e1 ▸ mem_own.2 hj))
  · have h1 : RowAt w1 _ 2 _ _ _ := h.parts.row.kept hA (fun j hj e1 => by
      have : gp = j := by simpa [Value.ownBlock] using hj
      subst this
      exact hp2 e1)
    rw [hlen] at h1
    have h2 := h1.set (L0.length * 2 + 1) (by omega) v'
    rw [pcells_last L0 e v' fs', ← Nat.add_assoc] at h2
    rw [hlen']
    refine h2.kept hS2 (fun j hj e1 => ?_)
    have : gp = j := by simpa [Value.ownBlock] using hj
    subst this
    exact hs2 e1.symm
  · intro y hy
    rcases List.mem_append.1 hy with h1 | h1
    · have hyb : ∀ j, y.v.ownBlock = some j → j ∈ blocks L0 := fun j hj => mem_blocks.2 ⟨y, h1, hj⟩
      exact (((h.parts.frames y (List.mem_append_left _ h1)).kept hA (fun j hj e1 => hL3 j (hyb j hj) j e1 rfl)).kept hS1 (fun j hj e1 => hp1 (e1 ▸ hyb j hj))).kept hS2 (fun j hj e1 => hs3 (e1 ▸ hyb j hj))
    · have : y = ⟨e.m, v', fs'⟩ := by simpa using h1
      subst this
      exact (hr.kept hS1 (fun j hj e1 => (hnv j (mem_own.2 hj)).2.1 e1)).kept hS2 (fun j hj e1 => (hnv j (mem_own.2 hj)).1 e1)
  · rw [blocks_append, blocks_one, own_slice]
    simp only [List.nodup_cons, List.nodup_append, List.mem_append, List.mem_cons, List.not_mem_nil, or_false, not_or, List.cons_append, List.nil_append]
    refine ⟨⟨hs1, hs2, hs3, fun e1 => (hnv s e1).1 rfl⟩, hb1, ⟨⟨hp1, fun e1 => (hnv gp e1).2.1 rfl⟩, hL1, hone, fun j hj k hk e1 => (hnv k hk).2.2.2 (e1 ▸ hj)⟩, fun j hj k hk e1 => ?_⟩
    rcases hk with e2 | e2 | e2
    · exact hbp j hj k (.inl e2) e1
    · exact hbp j hj k (.inr (.inl e2)) e1
    · exact (hnv k e2).2.2.1 (e1 ▸ hj)
  · rw [hlen', ← hct]
    have := h.small.2
    rw [hlen] at this
    exact ⟨hsm, this⟩
  · refine ((hA.mono (fun j _ e1 => ?_)).andThen hS1 (fun j _ e1 => ?_)).andThen hS2 (fun j _ e1 => ?_)
    · simp [foot, blocks_append, blocks_one, e1]
    · simp [foot, own_slice, e1]
    · simp [foot, e1]
  · intro j hj
    simp only [foot, blocks_append, blocks_one, own_slice, List.mem_cons, List.mem_append, List.not_mem_nil, or_false] at hj ⊢
    rcases hj with e1 | e1 | e1 | e1 | e1
    · exact .inl (.inl e1)
    · exact .inl (.inr (.inl e1))
    · exact .inl (.inr (.inr (.inl e1)))
    · exact .inl (.inr (.inr (.inr (.inl e1))))
    · rcases hnew j e1 with e2 | e2
      · exact .inl (.inr (.inr (.inr (.inr e2))))
      · exact .inr e2

set_option maxHeartbeats 2000000 in
theorem push_part {w : World} {s : Nat} {bv pv : Value} {base : List Int} {L0 : List Part} {e : Part} (h : StackAt w s bv pv base (L0 ++ [e])) (f : Int) (hsm : count base (L0 ++ [e]) < 100000) :
    Calls Try.prog 33 #[.pointer (some ⟨s, 0, none⟩), .int .i64 f] w fun e' w' => (∃ u, e' = .returned u) ∧ ∃ v', StackAt w' s bv pv base (L0 ++ [⟨e.m, v', e.fs ++ [f]⟩]) ∧ After w w' (foot s bv pv (L0 ++ [e])) (foot s bv pv (L0 ++ [⟨e.m, v', e.fs ++ [f]⟩])) := by
  have hlen : (L0 ++ [e]).length = L0.length + 1 := by simp
  obtain ⟨gp, offp, capp, hpv, hcp, hcell, hfree⟩ := h.rowAt (by omega)
  rw [hlen] at hpv hcp
  subst hpv
  have HT := Lib.hid (top_part (L := L0 ++ [e]) (by rw [hlen]; exact h) (by omega))
  rw [hlen, Nat.add_sub_cancel] at HT
  have HH := Lib.hid h
  obtain ⟨n, hn⟩ : ∃ n, e.fs.length = n := ⟨_, rfl⟩
  have HN := Lib.hid hn
  have hre := h.parts.frames e (by simp)
  have HR : Hid (RowAt w 3 1 e.v n (e.fs.map (Value.int .i64))) := by rw [← hn]; exact hre
  obtain ⟨ade, cape, hev, hne, hme⟩ := HR.out.form
  obtain ⟨i3, hj0, hj1, hj2, hj3⟩ := info_parts info3
  have c0 : w.cell? ⟨gp, offp + L0.length * 2 + 1, none⟩ = some e.v := by
    rw [hcell L0.length 1 (by omega) (by omega)]
    simp [pcells]
  have hnl : n ≤ 100000 := by have := h.small.1; unfold count at this; simp at this; omega
  have hap := h.apart
  rw [blocks_append, blocks_one, own_slice] at hap
  simp only [List.nodup_cons, List.nodup_append, List.mem_append, List.mem_cons, List.not_mem_nil, or_false, not_or, List.cons_append, List.nil_append] at hap
  have HE1 : Hid (s ∉ own e.v) := hap.1.2.2.2
  have HE2 : Hid (gp ∉ own e.v) := hap.2.2.1.1.2
  have hgs : gp ≠ s := fun e1 => hap.1.2.1 e1.symm
  obtain ⟨ct, hct⟩ : ∃ ct, count base (L0 ++ [e]) = ct := ⟨_, rfl⟩
  have HCT := Lib.hid hct
  obtain ⟨k, hk⟩ : ∃ k, L0.length = k := ⟨_, rfl⟩
  have HK := Lib.hid hk
  have hblk := h.blk
  have HB := Lib.hid hblk
  rw [hct] at hsm
  rw [hk] at c0 HT ⊢
  have HFR := Lib.hid hfree
  have hpl := lt_of_block hblk
  have hgl : gp < w.heap.size := World.block_lt_of_cell? w _ c0
  obtain ⟨em, ev, efs⟩ := e
  simp only at hev hre HR c0 HE1 HE2 hn HN
  subst hev
  clear h hn hct hcell hfree hre hap hk hblk
  go_enter Try.func33, Try.ntmps33
  go_wp2_with fail
  refine HT.out.mono ?_
  rintro e' w1 ⟨rfl, md, rfl⟩
  go_wp2_with (at_builtin; refine wpList_append_row _ rfl _ _ 49 rfl 3 i3 _ 1 8 Try.underlying49 hj0 hj1 hj2 hj3 rfl (by decide) (.slice ade n cape) n (efs.map (Value.int .i64)) rfl ?ya1 ⟨w.heap.size, 0, none⟩ 1 1 [.int .i64 f] rfl rfl ?ya2 ?ya3 (by decide) ?ya4 ?ya5 _ rfl ?_)
  case ya1 => exact HR.out.kept (((Chg.refl (fun _ => False) w).drewN md).alloc _) (fun _ _ h => h)
  case ya2 => exact World.news_of_block (blk_new (w.drewN md) _)
  case ya3 => simp [Value.oneCell']
  case ya4 => unfold maxLen; omega
  case ya5 => omega
  intro g off cap w3 hrow3 hgrow3 hat3 hlt3
  have hA : Chg (fun j => j ∈ own (.slice ade n cape)) w w3 := ((((Chg.refl _ w).drewN md).alloc _).grown hgrow3 (fun j _ e => mem_own.2 e))
  have hblk3 := hA.blk HB.out HE1.out
  have hnew3 : ∀ j ∈ own (.slice (some ⟨g, off, none⟩) (n + 1) cap), j ∈ own (.slice ade n cape) ∨ w.heap.size ≤ j := fun j hj => by
    have : j = g := by simpa [own_slice] using hj
    subst this
    rcases hat3 with h1 | h1
    · exact .inl (mem_own.2 h1)
    · right
      rw [h1]
      exact Nat.le_succ _
  have hE := Lib.hid (last_end (fs' := efs ++ [f]) HH.out hA (by unfold IRow; rw [List.length_append, List.map_append, HN.out]; exact hrow3) hnew3 (by rw [own_slice]; simp) (ct + 1) (by rw [count_part, HCT.out]) (by omega))
  rw [HK.out] at hE
  have hcast : (((ct + 1 : Nat)) : Int) = (ct : Int) + 1 := by push_cast; rfl
  rw [hcast] at hE
  clear hcast
  have q0 : w3.cell? ⟨gp, offp + k * 2 + 1, none⟩ = some (.slice ade n cape) := (World.cell?_of_block (a := ⟨gp, offp + k * 2 + 1, none⟩) (hA.block gp hgl HE2.out)).trans c0
  have q1 : w3.frozen? ⟨gp, offp + k * 2 + 1, none⟩ = false := by
    rw [World.frozen?_of_block (a := ⟨gp, offp + k * 2 + 1, none⟩) (hA.block gp hgl HE2.out)]
    exact HFR.out _
  have q2 : w3.cell? ⟨s, 2, none⟩ = _ := cell_of hblk3 2
  rw [HCT.out] at q2
  simp only [List.getElem?_toArray, List.getElem?_cons_zero, List.getElem?_cons_succ] at q2
  have q3 : w3.frozen? ⟨s, 2, none⟩ = false := free_of hblk3 2
  have ct0 : (0 : Int) ≤ (ct : Int) := by omega
  have ct1 : (ct : Int) < 100000 := by omega
  clear hrow3 hgrow3 hat3 hlt3 hA hblk3 hnew3
  go_wp2_with fail
  go_end0
  exact ⟨⟨_, rfl⟩, _, hE.out.1, hE.out.2⟩
end Go.Proofs.Ytkidnmjaioejaaa.Sg
