/- The cache's Drop and its closure, walked. Condition: the cache's block is known, its map and its row of keys. -/
import Derived.Test.YtkidnmjaioejaaaCacheFullLaw
namespace Go.Proofs.Ytkidnmjaioejaaa.Cx
set_option linter.unusedVariables false
set_option linter.unusedSimpArgs false
open Go.RowKit Go.Proofs.Ytkidnmjaioejaaa.Mem Go.Maps

theorem info3 : (Try.prog.info? 3).map (fun i => (i.zero, i.size, i.bytes)) = some (some (.int .i64 0), 1, 8) := by kernel_rfl
abbrev IRow (w : World) (v : Value) (l : List Int) : Prop := RowAt w 3 1 v l.length (l.map (Value.int .i64))

theorem drop_other (x : Key) (p : Int) (Bp : Nat) (o2 o3 : Value) (w : World) (hbp : w.heap[Bp]? = some (.cells #[.int .i64 p] 3 (0, 0))) (hne : ¬ x.p = p) :
    Calls Try.prog 51 #[kv x, .pointer (some ⟨Bp, 0, none⟩), o2, o3] w fun e w' => e = .returned (.bool false) ∧ Below w.heap.size w w' := by
  have hlt := lt_of_block hbp
  have c0 : w.cell? ⟨Bp, 0, none⟩ = some (.int .i64 p) := cell_of hbp 0
  obtain ⟨x0, x1, x2, x3, x4⟩ := x
  have hne2 : ¬ x0 = p := hne
  simp only [kv]
  clear hbp hne
  go_enter Try.func51, Try.ntmps51
  go_wp2_with fail
  go_ret
  exact ⟨rfl, (Below.refl _ _).alloc (Nat.le_refl _) _⟩

theorem drop_cells {w w0 w3 : World} {Bo Bc c M : Nat} {v vo1 : Value} {lim : Int} {ado : Option Addr} {n capo : Nat} {x : Key} {o : Obj} (hb : w0.heap[w.heap.size]? = some (.cells #[.int .i64 x.p, .int .i64 x.a, .int .i64 x.b, .int .i64 x.c, .int .i64 x.d] 34 (0, 0)))
    (hbc : w0.heap[Bc]? = some (.cells #[.pointer (some ⟨c, 0, none⟩)] 29 (0, 0))) (hc : w0.heap[c]? = some (.cells #[.map (some M), v, .int .i64 lim] 92 (0, 0)))
    (hv : ∀ j, (Value.slice ado n capo).ownBlock = some j → j ≠ Bo ∧ j ≠ M ∧ j ≠ c ∧ j ≠ Bc ∧ j < w0.heap.size ∧ j ≠ w.heap.size) (h1 : Bo ≠ c) (h2 : Bo ≠ Bc) (hBo : Bo < w.heap.size) (hBc : Bc < w.heap.size) (hcl : c < w.heap.size)
    (hg : (w0.alloc o).drew.grownBy w3 (Value.slice ado n capo).ownBlock) (hsz : w0.heap.size = w.heap.size + 1) :
    (w3.setCell ⟨Bo, 0, none⟩ vo1).cell? ⟨Bc, 0, none⟩ = some (.pointer (some ⟨c, 0, none⟩)) ∧ (w3.setCell ⟨Bo, 0, none⟩ vo1).cell? ⟨c, 0, none⟩ = some (.map (some M)) ∧
    (w3.setCell ⟨Bo, 0, none⟩ vo1).cell? ⟨w.heap.size, 0, none⟩ = some (.int .i64 x.p) ∧ (w3.setCell ⟨Bo, 0, none⟩ vo1).cell? ⟨w.heap.size, 1, none⟩ = some (.int .i64 x.a) ∧ (w3.setCell ⟨Bo, 0, none⟩ vo1).cell? ⟨w.heap.size, 2, none⟩ = some (.int .i64 x.b) ∧
    (w3.setCell ⟨Bo, 0, none⟩ vo1).cell? ⟨w.heap.size, 3, none⟩ = some (.int .i64 x.c) ∧ (w3.setCell ⟨Bo, 0, none⟩ vo1).cell? ⟨w.heap.size, 4, none⟩ = some (.int .i64 x.d) ∧
    w3.cell? ⟨Bc, 0, none⟩ = some (.pointer (some ⟨c, 0, none⟩)) ∧ w3.cell? ⟨c, 0, none⟩ = some (.map (some M)) ∧
    w3.cell? ⟨w.heap.size, 0, none⟩ = some (.int .i64 x.p) ∧ w3.cell? ⟨w.heap.size, 1, none⟩ = some (.int .i64 x.a) ∧ w3.cell? ⟨w.heap.size, 2, none⟩ = some (.int .i64 x.b) ∧
    w3.cell? ⟨w.heap.size, 3, none⟩ = some (.int .i64 x.c) ∧ w3.cell? ⟨w.heap.size, 4, none⟩ = some (.int .i64 x.d) := by
  have k1 := blk_set_other (blk_grown hg (blk_ad hbc o) (fun e => (hv Bc e.symm).2.2.2.1 rfl)) (a := ⟨Bo, 0, none⟩) (fun e => h2 e.symm) vo1
  have k2 := blk_set_other (blk_grown hg (blk_ad hc o) (fun e => (hv c e.symm).2.2.1 rfl)) (a := ⟨Bo, 0, none⟩) (fun e => h1 e.symm) vo1
  have k3 := blk_set_other (blk_grown hg (blk_ad hb o) (fun e => (hv _ e.symm).2.2.2.2.2 rfl)) (a := ⟨Bo, 0, none⟩) (by show w.heap.size ≠ Bo; omega) vo1
  have l1 := blk_grown hg (blk_ad hbc o) (fun e => (hv Bc e.symm).2.2.2.1 rfl)
  have l2 := blk_grown hg (blk_ad hc o) (fun e => (hv c e.symm).2.2.1 rfl)
  have l3 := blk_grown hg (blk_ad hb o) (fun e => (hv _ e.symm).2.2.2.2.2 rfl)
  exact ⟨cell_of k1 0, cell_of k2 0, cell_of k3 0, cell_of k3 1, cell_of k3 2, cell_of k3 3, cell_of k3 4, cell_of l1 0, cell_of l2 0, cell_of l3 0, cell_of l3 1, cell_of l3 2, cell_of l3 3, cell_of l3 4⟩
theorem drop_mid {w w0 w3 : World} {Bo Bc c M gg off cap n capo : Nat} {v : Value} {lim : Int} {ado : Option Addr} {x : Key} {val : Int} {go : List Int} {m : List Ent} {o : Obj} (hC0 : Chg (fun _ => False) w w0)
    (hbo : w0.heap[Bo]? = some (.cells #[.slice ado n capo] 49 (0, 0))) (hbc : w0.heap[Bc]? = some (.cells #[.pointer (some ⟨c, 0, none⟩)] 29 (0, 0)))
    (hc : w0.heap[c]? = some (.cells #[.map (some M), v, .int .i64 lim] 92 (0, 0))) (hm : MapIs w0 M m) (hg : Good m) (hx : x.ok) (hBo : Bo < w0.heap.size)
    (hv : ∀ j, (Value.slice ado n capo).ownBlock = some j → j ≠ Bo ∧ j ≠ M ∧ j ≠ c ∧ j ≠ Bc ∧ j < w0.heap.size ∧ j ≠ w.heap.size) (h0 : Bo ≠ M) (h2 : c ≠ M) (h4 : Bo ≠ c)
    (hrow : RowAt w3 3 1 (.slice (some ⟨gg, off, none⟩) (n + 1) cap) (n + 1) (go.map (Value.int .i64) ++ [.int .i64 val])) (hgr : (w0.alloc o).drew.grownBy w3 (Value.slice ado n capo).ownBlock)
    (hat : (Value.slice ado n capo).ownBlock = some gg ∨ gg = (w0.alloc o).drew.heap.size) (hbo3 : w3.heap[Bo]? = some (.cells #[.slice ado n capo] 49 (0, 0))) :
    ∃ w5, (∀ ty, (Builtin.delete_ #[89, 34] ty #[.map (some M), kv x]).run Try.prog (w3.setCell ⟨Bo, 0, none⟩ (.slice (some ⟨gg, off, none⟩) (n + 1) cap)).drew = .ok (.tuple #[]) w5) ∧
      w5.heap[Bo]? = some (.cells #[.slice (some ⟨gg, off, none⟩) (n + 1) cap] 49 (0, 0)) ∧ RowAt w5 3 1 (.slice (some ⟨gg, off, none⟩) (n + 1) cap) (n + 1) (go.map (Value.int .i64) ++ [.int .i64 val]) ∧ MapIs w5 M (without m x) ∧
      Chg (fun j => j = Bo ∨ j = M ∨ (Value.slice ado n capo).ownBlock = some j) w w5 ∧ ((Value.slice ado n capo).ownBlock = some gg ∨ w.heap.size ≤ gg) := by
  have hgg : gg ≠ Bo ∧ gg ≠ M := by
    rcases hat with h | h
    · exact ⟨(hv gg h).1, (hv gg h).2.1⟩
    · have hM := hm.lt
      have e : (w0.alloc o).drew.heap.size = w0.heap.size + 1 := by simp
      rw [h, e]
      omega
  have hS : Chg (fun j => j = Bo) w3 (w3.setCell ⟨Bo, 0, none⟩ (.slice (some ⟨gg, off, none⟩) (n + 1) cap)) := Chg.set (p := ⟨Bo, 0, none⟩) (F := fun j => j = Bo) (Chg.refl _ w3) (fun _ => rfl) _
  have hm3 : MapIs w3 M m := hm.chg (F := fun j => (Value.slice ado n capo).ownBlock = some j) ((((Chg.refl _ w0).alloc o).drewN 1).grown hgr (fun j _ e => e)) (fun e => (hv M e).2.1 rfl)
  have hm4 := hm3.chg hS (fun e => h0 e.symm)
  obtain ⟨w5, hrun, hmap5, hgr5⟩ := (hm4.chg ((Chg.refl (fun _ => False) _).drewN 1) (fun h => h)).drop hg hx 0
  have hC5 : Chg (fun j => j = M) (w3.setCell ⟨Bo, 0, none⟩ (.slice (some ⟨gg, off, none⟩) (n + 1) cap)) w5 := ((Chg.refl (fun j => j = M) _).drewN 1).grown hgr5 (fun j _ e => by cases e; rfl)
  refine ⟨w5, fun ty => hrun, ?_, ?_, hmap5, ?_, ?_⟩
  · refine hC5.blk ?_ h0
    have := blk_set hbo3 0 (.slice (some ⟨gg, off, none⟩) (n + 1) cap)
    simpa using this
  · refine (hrow.kept hS (fun j hj e => ?_)).kept hC5 (fun j hj e => ?_)
    · have : gg = j := by simpa [Value.ownBlock] using hj
      omega
    · have : gg = j := by simpa [Value.ownBlock] using hj
      omega
  · have hA : Chg (fun j => j = Bo ∨ j = M ∨ (Value.slice ado n capo).ownBlock = some j) w w3 := (((hC0.mono (fun _ _ h => h.elim)).alloc o).drewN 1).grown hgr (fun j _ e => .inr (.inr e))
    exact (hA.andThen hS (fun j _ e => .inl e)).andThen hC5 (fun j _ e => .inr (.inl e))
  · refine hat.imp id (fun h => ?_)
    have e : (w0.alloc o).drew.heap.size = w0.heap.size + 1 := by simp
    have := hC0.size
    rw [h, e]
    omega

set_option maxHeartbeats 4000000 in
theorem drop_this (x : Key) (val : Int) (Bp Bo Bc c M : Nat) (v vo : Value) (lim : Int) (go : List Int) (m : List Ent) (w : World)
    (hbp : w.heap[Bp]? = some (.cells #[.int .i64 x.p] 3 (0, 0))) (hbo : w.heap[Bo]? = some (.cells #[vo] 49 (0, 0))) (hbc : w.heap[Bc]? = some (.cells #[.pointer (some ⟨c, 0, none⟩)] 29 (0, 0)))
    (hc : w.heap[c]? = some (.cells #[.map (some M), v, .int .i64 lim] 92 (0, 0))) (hm : MapIs w M m) (hg : Good m) (hx : x.ok) (hf : find m x = some val) (hr : IRow w vo go) (hl : go.length ≤ 100)
    (hd : Bo ≠ M ∧ c ≠ M ∧ Bc ≠ M ∧ Bo ≠ c ∧ Bo ≠ Bc) (hv : ∀ j, vo.ownBlock = some j → j ≠ Bo ∧ j ≠ M ∧ j ≠ c ∧ j ≠ Bc) :
    Calls Try.prog 51 #[kv x, .pointer (some ⟨Bp, 0, none⟩), .pointer (some ⟨Bo, 0, none⟩), .pointer (some ⟨Bc, 0, none⟩)] w fun e w' => e = .returned (.bool true) ∧
      ∃ vo', w'.heap[Bo]? = some (.cells #[vo'] 49 (0, 0)) ∧ IRow w' vo' (go ++ [val]) ∧ MapIs w' M (without m x) ∧ Chg (fun j => j = Bo ∨ j = M ∨ vo.ownBlock = some j) w w' ∧ (∀ j, vo'.ownBlock = some j → vo.ownBlock = some j ∨ w.heap.size ≤ j) := by
  obtain ⟨w0, hw0⟩ : ∃ w0, w0 = w.alloc (.cells #[.int .i64 x.p, .int .i64 x.a, .int .i64 x.b, .int .i64 x.c, .int .i64 x.d] 34) := ⟨_, rfl⟩
  have hC0 : Chg (fun _ => False) w w0 := by rw [hw0]; exact (Chg.refl _ _).alloc _
  have hB : w0.heap[w.heap.size]? = some (.cells #[.int .i64 x.p, .int .i64 x.a, .int .i64 x.b, .int .i64 x.c, .int .i64 x.d] 34 (0, 0)) := by rw [hw0]; exact blk_new _ _
  obtain ⟨hd1, hd2, hd3, hd4, hd5⟩ := hd
  have HD := Lib.hid hx
  have HV := Lib.hid hv
  have HC0 := Lib.hid hC0
  have HB := Lib.hid hB
  have HBO := Lib.hid (hC0.blk hbo (fun h => h))
  have HBC := Lib.hid (hC0.blk hbc (fun h => h))
  have HCC := Lib.hid (hC0.blk hc (fun h => h))
  have HM := Lib.hid (hm.chg hC0 (fun h => h))
  have HG := Lib.hid hg
  have HR := Lib.hid (hr.kept hC0 (fun _ _ h => h))
  have HVL : Hid (∀ j, vo.ownBlock = some j → j ≠ w.heap.size) := fun j hj => by have := hr.lt j hj; omega
  have hMl := hm.lt
  have hBol := lt_of_block hbo
  have hBcl := lt_of_block hbc
  have hcl := lt_of_block hc
  have hBpl := lt_of_block hbp
  have hlook : (Instr.lookup 89 (.map (some M)) (kv x) false).run Try.prog w0.drew = .ok (.int .i64 val) w0.drew := by
    have := (HM.out.chg ((Chg.refl (fun _ => False) w0).drewN 1) (fun h => h)).look1 hg hx
    rw [hf] at this
    exact this
  have hbp0 := hC0.blk hbp (fun h => h)
  have p0 : w0.cell? ⟨Bp, 0, none⟩ = some (.int .i64 x.p) := cell_of hbp0 0
  have o0 : w0.cell? ⟨Bo, 0, none⟩ = some vo := cell_of HBO.out 0
  have q0 : w0.cell? ⟨Bc, 0, none⟩ = some (.pointer (some ⟨c, 0, none⟩)) := cell_of HBC.out 0
  have m0 : w0.cell? ⟨c, 0, none⟩ = some (.map (some M)) := cell_of HCC.out 0
  have b0 : w0.cell? ⟨w.heap.size, 0, none⟩ = _ := cell_of hB 0
  have b1 : w0.cell? ⟨w.heap.size, 1, none⟩ = _ := cell_of hB 1
  have b2 : w0.cell? ⟨w.heap.size, 2, none⟩ = _ := cell_of hB 2
  have b3 : w0.cell? ⟨w.heap.size, 3, none⟩ = _ := cell_of hB 3
  have b4 : w0.cell? ⟨w.heap.size, 4, none⟩ = _ := cell_of hB 4
  simp only [List.getElem?_toArray, List.getElem?_cons_zero, List.getElem?_cons_succ] at b0 b1 b2 b3 b4
  obtain ⟨n, hn⟩ : ∃ n, go.length = n := ⟨_, rfl⟩
  have HRn : Hid (RowAt w0 3 1 vo n (go.map (Value.int .i64))) := by rw [← hn]; exact HR.out
  obtain ⟨ado, capo, hvo, hno, hmo⟩ := HRn.out.form
  obtain ⟨i3, hi0, hi1, hi2, hi3⟩ := info_parts info3
  rw [hn] at hl
  clear hbp hbo hbc hc hm hg hx hf hr hv hC0 hB hbp0
  rw [hw0] at p0 o0 q0 m0 b0 b1 b2 b3 b4 hlook
  subst hvo
  simp only [kv] at hlook ⊢
  have HN := Lib.hid hn
  clear hn
  go_enter Try.func51, Try.ntmps51
  go_wp2_with fail
  rw [← hw0]
  rw [← hw0] at p0 o0 q0 m0 b0 b1 b2 b3 b4 hlook
  have f0 : w0.frozen? ⟨Bo, 0, none⟩ = false := free_of HBO.out 0
  have hsz0 : w0.heap.size = w.heap.size + 1 := by rw [hw0]; simp
  clear hw0
  have HVD : Hid (∀ j, (Value.slice ado n capo).ownBlock = some j → j ≠ Bo ∧ j ≠ M ∧ j ≠ c ∧ j ≠ Bc ∧ j < w0.heap.size ∧ j ≠ w.heap.size) := fun j hj => ⟨(HV.out j hj).1, (HV.out j hj).2.1, (HV.out j hj).2.2.1, (HV.out j hj).2.2.2, HRn.out.lt j hj, HVL.out j hj⟩
  go_region_law ((refine step_append_row _ (by rfl) _ _ _ (by rfl) 3 i3 _ 1 8 Try.underlying49 hi0 hi1 hi2 hi3 rfl (by omega) (.slice ado n capo) n (go.map (Value.int .i64)) (by rfl) (by exact RowAt.kept HRn.out (((Chg.refl (fun _ => False) w0).alloc _).drewN 1) (fun _ _ h => h)) ⟨w.heap.size + 1, 0, none⟩ 1 1 [.int .i64 val] (by rfl) (by rfl) (by exact World.news_of_block (new_ad _ _ _ hsz0)) (by simp [Value.oneCell']) (by omega) (by unfold maxLen; omega) (by omega) _ (by rfl) ?_; intro gg off cap w3 hrow3 hgrow3 hat3 hlt3; have hbo3 := blk_grown hgrow3 (blk_ad HBO.out _) (fun e => (HVD.out Bo e.symm).1 rfl); have q2 : w3.cell? ⟨Bo, 0, none⟩ = some (.slice ado n capo) := cell_of hbo3 0; have q3 : w3.frozen? ⟨Bo, 0, none⟩ = false := free_of hbo3 0))
  all_goals
    obtain ⟨w5, hdel, hdo, hrow5, hmap5, hch5, hown5⟩ := drop_mid (x := x) (val := val) HC0.out HBO.out HBC.out HCC.out HM.out HG.out HD.out (by omega) HVD.out hd1 hd2 hd4 hrow3 hgrow3 hat3 hbo3
    obtain ⟨e0, e1, e2, e3, e4, e5, e6, g0, g1, g2, g3, g4, g5, g6⟩ := drop_cells (vo1 := .slice (some ⟨gg, off, none⟩) (n + 1) cap) HB.out HBC.out HCC.out HVD.out hd4 hd5 hBol hBcl hcl hgrow3 hsz0
    simp only [kv] at hdel
    go_wp2_with fail
  all_goals go_region
  all_goals
    go_wp2_with fail
    go_ret
    refine ⟨rfl, .slice (some ⟨gg, off, none⟩) (n + 1) cap, hdo, ?_, hmap5, hch5, fun j hj => ?_⟩
    · unfold IRow
      rw [List.length_append, HN.out, List.map_append]
      exact hrow5
    · have : gg = j := by simpa [Value.ownBlock] using hj
      subst this
      exact hown5
end Go.Proofs.Ytkidnmjaioejaaa.Cx
