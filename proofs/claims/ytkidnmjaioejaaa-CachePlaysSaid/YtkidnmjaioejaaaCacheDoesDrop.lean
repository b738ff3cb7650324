/- The statement's does, at a Drop, walked. Condition: the cache's block is known, and the document's row. -/
import Derived.Test.YtkidnmjaioejaaaCacheDoesGet
namespace Go.Proofs.Ytkidnmjaioejaaa.Cx
set_option linter.unusedVariables false
set_option linter.unusedSimpArgs false
open Go.RowKit Go.Proofs.Ytkidnmjaioejaaa.Mem Go.Maps

theorem rest_step (l : List Ent) (p : Int) (j : Nat) (x : Ent) (h : l[j]? = some x) : rest (l.take (j + 1)) p = if x.1.p = p then rest (l.take j) p else rest (l.take j) p ++ [x] := by
  rw [take_snoc l j x h]
  unfold rest
  rw [List.filter_append]
  by_cases e : x.1.p = p <;> simp [e]
theorem outs_step (l : List Ent) (p : Int) (j : Nat) (x : Ent) (h : l[j]? = some x) : outs (l.take (j + 1)) p = if x.1.p = p then outs (l.take j) p ++ [x.2] else outs (l.take j) p := by
  rw [take_snoc l j x h]
  unfold outs
  rw [List.filter_append]
  by_cases e : x.1.p = p <;> simp [e]
theorem outs_len (l : List Ent) (p : Int) : (outs l p).length ≤ l.length := by
  unfold outs
  rw [List.length_map]
  exact List.length_filter_le _ _
theorem IRow.cell {w : World} {g off n cap : Nat} {l : List Int} (h : IRow w (.slice (some ⟨g, off, none⟩) n cap) l) (hn : l.length = n) (k : Nat) (hk : k < n) : w.cell? ⟨g, off + k, none⟩ = some (.int .i64 (l.getD k 0)) := by
  subst hn
  rw [RowAt.cell h k (by omega)]
  simp [hk]

set_option maxRecDepth 100000 in
set_option maxHeartbeats 4000000 in
theorem does_drop (n : Int) (x : Int) (k : Key) (c M lim : Nat) (v lv : Value) (l : List Ent) (w : World) (h : Pair w c M v lv lim l) (hl : l.length ≤ 64) :
    Calls Try.prog 22 #[.pointer (some ⟨c, 0, none⟩), lv, .int .i64 n, actV 1 x k] w fun e w' => ∃ lv' v', e = .returned (.tuple #[.bool true, lv']) ∧ Pair w' c M v' lv' lim (rest l k.p) ∧ Went w w' c M v lv v' lv' := by
  obtain ⟨w0, hw0⟩ : ∃ w0, w0 = w.alloc (actBox 1 x k) := ⟨_, rfl⟩
  have hC0 : Chg (fun _ => False) w w0 := by rw [hw0]; exact (Chg.refl _ _).alloc _
  have hB : w0.heap[w.heap.size]? = some (actBox 1 x k) := by rw [hw0]; exact blk_new _ _
  have h0 := h.ca.chg hC0 (fun _ _ h => h)
  have HP := Lib.hid (drop_calls c M lim v l k.p w0 h0)
  have HH := Lib.hid h
  have HC0 := Lib.hid hC0
  have HB := Lib.hid hB
  have hll : l.length ≤ 100 := by omega
  obtain ⟨b1, b2, b3, b4, b5, b6⟩ := act_cells hB
  have b0 : w0.cell? ⟨w.heap.size, 0, none⟩ = some (.int .i64 1) := cell_of hB 0
  obtain ⟨adl, capl, hlv, hnl, hml⟩ := h.row.form
  obtain ⟨i3, hj0, hj1, hj2, hj3⟩ := info_parts info3
  obtain ⟨iE, hi0, hi1, hi2, hi3⟩ := info_parts infoE
  clear h hC0 hB h0
  rw [hw0] at b0 b1 b2 b3 b4 b5 b6 HP
  simp only [actV]
  go_enter Try.func22, Try.ntmps22
  go_wp2_with fail
  refine HP.out.mono ?_
  rintro e w1 ⟨vo, rfl, hro, hoo, v1, hA1, hC1, ho1⟩
  rw [← hw0] at hoo hC1
  have hnf : ∀ j, foot c M v j → j < w.heap.size := fun j hj => HH.out.ca.lt j hj
  have hs0 : w.heap.size < w0.heap.size := lt_of_block HB.out
  have hbox1 : w1.heap[w.heap.size]? = some (actBox 1 x k) := hC1.blk HB.out (fun e => by have := hnf _ e; omega)
  have hrow1 : ERow w1 lv l := (HH.out.row.kept HC0.out (fun _ _ h => h)).kept hC1 (fun j hj => HH.out.apart j hj)
  have HO := Lib.hid hro
  have HOO := Lib.hid hoo
  have HA1 := Lib.hid hA1
  have HC1 := Lib.hid hC1
  have HO1 := Lib.hid ho1
  have HB1 := Lib.hid hbox1
  have HR1 := Lib.hid hrow1
  obtain ⟨m, hm⟩ : ∃ m, (outs l k.p).length = m := ⟨_, rfl⟩
  obtain ⟨ado, capo, hvo, hno, hmo⟩ := hro.form
  rw [hm] at hvo hno
  have HM := Lib.hid hm
  have hm100 : m ≤ 100 := by rw [← hm]; exact Nat.le_trans (outs_len _ _) hll
  obtain ⟨nl, hnl2⟩ : ∃ nl, l.length = nl := ⟨_, rfl⟩
  have HNL := Lib.hid hnl2
  rw [hnl2] at hlv hnl hl hll
  clear hro hoo hA1 hC1 ho1 hbox1 hrow1 HP b0 b1 b2 b3 b4 b5 b6 hw0 hm hnl2
  subst hvo
  subst hlv
  go_wp2_with fail
  go_loopg [11, 12, 13] (nl + 1) (fun g rv0 gv0 vi wr => ∃ (j : Nat) (rv gv : Value), rv = rv0 ∧ gv = gv0 ∧ vi = .int .i64 j ∧ j ≤ nl ∧ nl < g + j ∧ Hid (ERow wr rv (rest (l.take j) k.p)) ∧ Hid (IRow wr gv (outs (l.take j) k.p)) ∧
    Hid ((∀ b, rv.ownBlock = some b → w1.heap.size ≤ b) ∧ (∀ b, gv.ownBlock = some b → w1.heap.size ≤ b) ∧ ∀ b, rv.ownBlock = some b → ¬ gv.ownBlock = some b) ∧ Hid (Chg (fun _ => False) w1 wr))
  case atStart =>
    refine ⟨0, _, _, rfl, rfl, rfl, by omega, by omega, ?_, ?_, ?_, ?_⟩
    · refine Lib.hid ⟨rfl, .inr ⟨w1.heap.size, 0, 0, #[], rfl, ?_, Nat.le_refl _, Nat.zero_le _, Nat.le_refl _, rfl⟩⟩
      exact blk_alloc (blk_new w1 _) _
    · refine Lib.hid ⟨rfl, .inr ⟨w1.heap.size + 1, 0, 0, #[], rfl, ?_, Nat.le_refl _, Nat.zero_le _, Nat.le_refl _, rfl⟩⟩
      have := blk_new (w1.alloc (.cells #[] 47)) (.cells #[] 3)
      simpa using this
    · refine Lib.hid ⟨fun b hb => ?_, fun b hb => ?_, fun b hb hb2 => ?_⟩
      · have : w1.heap.size = b := by simpa [Value.ownBlock] using hb
        omega
      · have : w1.heap.size + 1 = b := by simpa [Value.ownBlock] using hb
        omega
      · have h1 : w1.heap.size = b := by simpa [Value.ownBlock] using hb
        have h2 : w1.heap.size + 1 = b := by simpa [Value.ownBlock] using hb2
        omega
    · exact Lib.hid (((Chg.refl _ _).alloc _).alloc _)
  case round =>
    obtain ⟨j, rv, gv, rfl, rfl, rfl, hj, hgj, hrr, hgr, hown, hC⟩ := hrel
    by_cases hjn : j < nl
    · obtain ⟨g, rfl⟩ : ∃ m, gk = m + 1 := ⟨gk - 1, by omega⟩
      have hjl : j < l.length := by rw [HNL.out]; exact hjn
      have hRr := HR1.out.kept hC.out (fun _ _ h => h)
      obtain ⟨b, off, cap', hv, hcc⟩ := hRr.formS (by omega)
      rw [HNL.out] at hv
      cases hv
      have hcell := ERow.cells hRr HNL.out j hjn
      have a0 : wr.cell? ⟨b, off + j * 6, none⟩ = _ := hcell 0 (by omega)
      have a1 := hcell 1 (by omega)
      have a2 := hcell 2 (by omega)
      have a3 := hcell 3 (by omega)
      have a4 := hcell 4 (by omega)
      have a5 := hcell 5 (by omega)
      have hboxr : wr.heap[w.heap.size]? = some (actBox 1 x k) := hC.out.blk HB1.out (fun h => h)
      obtain ⟨_, g2, _, _, _, _⟩ := act_cells hboxr
      have hst1 := Lib.hid (rest_step l k.p j (l.getD j e0) (by simp [hjl]))
      have hst2 := Lib.hid (outs_step l k.p j (l.getD j e0) (by simp [hjl]))
      obtain ⟨y, hy⟩ : ∃ y, y = l.getD j e0 := ⟨_, rfl⟩
      rw [← hy] at a0 a1 a2 a3 a4 a5 hst1 hst2
      clear hy hcell hRr hboxr
      obtain ⟨⟨x0, x1, x2, x3, x4⟩, x5⟩ := y
      simp only [ecells, List.getElem?_cons_zero, List.getElem?_cons_succ] at a0 a1 a2 a3 a4 a5
      have i0 : (0 : Int) ≤ (j : Int) := by omega
      have i1 : (j : Int) < (nl : Int) := by omega
      by_cases he : x0 = k.p
      · have he2 : x0 = k.p := he
        rw [if_pos he] at hst1 hst2
        obtain ⟨og, hog⟩ : ∃ og, outs (l.take j) k.p = og := ⟨_, rfl⟩
        have hogl : og.length ≤ 100 := by rw [← hog]; exact Nat.le_trans (outs_len _ _) (by rw [List.length_take]; have := HNL.out; omega)
        rw [hog] at hgr hst2
        go_wp2_with fail
        go_quiet (fail)
        go_wp2_with (at_builtin; refine wpList_append_row _ rfl _ _ 49 rfl 3 i3 _ 1 8 Try.underlying49 hj0 hj1 hj2 hj3 rfl (by decide) gv og.length (og.map (Value.int .i64)) rfl ?ya1 ⟨wr.heap.size, 0, none⟩ 1 1 [.int .i64 x5] rfl rfl ?ya2 ?ya3 (by decide) ?ya4 ?ya5 _ rfl ?_)
        case ya1 => exact hgr.out.kept (((Chg.refl (fun _ => False) wr).drewN _).alloc _) (fun _ _ h => h)
        case ya2 => exact World.news_of_block (blk_new (wr.drewN _) _)
        case ya3 => simp [Value.oneCell']
        case ya4 => unfold maxLen; omega
        case ya5 => omega
        intro gg off2 cap2 w3 hrow3 hgrow3 hat3 hlt3
        have hA3 : Chg (fun b => gv.ownBlock = some b) wr w3 := (((Chg.refl _ wr).drewN _).alloc _).grown hgrow3 (fun b _ e => e)
        have hsr := hC.out.size
        have hgg : w1.heap.size ≤ gg ∧ ∀ b, rv.ownBlock = some b → b ≠ gg := by
          rcases hat3 with h | h
          · exact ⟨hown.out.2.1 gg h, fun b hb e => hown.out.2.2 b hb (by rw [e]; exact h)⟩
          · have h3 : gg = wr.heap.size + 1 := by rw [h]
            exact ⟨by omega, fun b hb e => by have := hrr.out.lt b hb; omega⟩
        have hG3 : Hid (IRow w3 (.slice (some ⟨gg, off2, none⟩) (og.length + 1) cap2) (og ++ [x5])) := by
          unfold IRow
          rw [List.length_append, List.map_append]
          exact Lib.hid hrow3
        have hR3 : Hid (ERow w3 rv (rest (l.take j) k.p)) := hrr.out.kept hA3 (fun b hb e => hown.out.2.2 b hb e)
        have hC3 : Hid (Chg (fun _ => False) w1 w3) := hC.out.andThen hA3 (fun b hb e => by have := hown.out.2.1 b e; omega)
        clear hrow3 hgrow3 hat3 hlt3 hA3
        go_wp2_with fail
        go_roundg g
        case measure => omega
        case rel =>
          refine ⟨j + 1, rv, _, rfl, rfl, by go_num, by omega, by omega, ?_, ?_, Lib.hid ⟨hown.out.1, fun b hb => ?_, fun b hb hb2 => ?_⟩, hC3.out⟩
          · rw [hst1.out]; exact hR3.out
          · rw [hst2.out]; exact hG3.out
          · have : gg = b := by simpa [Value.ownBlock] using hb
            omega
          · have : gg = b := by simpa [Value.ownBlock] using hb2
            exact hgg.2 b hb this.symm
      · have he2 : ¬ x0 = k.p := he
        rw [if_neg he] at hst1 hst2
        obtain ⟨rr, hrr0⟩ : ∃ rr, rest (l.take j) k.p = rr := ⟨_, rfl⟩
        have hrrl : rr.length ≤ 100 := by rw [← hrr0]; exact Nat.le_trans (rest_sub _ _).length_le (by rw [List.length_take]; have := HNL.out; omega)
        rw [hrr0] at hrr hst1
        go_wp2_with fail
        go_quiet (fail)
        go_wp2_with (at_builtin; refine wpList_append_row _ rfl _ _ 41 rfl 47 iE _ 6 48 Try.underlying41 hi0 hi1 hi2 hi3 rfl (by decide) rv rr.length (rr.flatMap ecells) rfl ?yb1 ⟨wr.heap.size, 0, none⟩ 1 1 (ecells (⟨x0, x1, x2, x3, x4⟩, x5)) rfl rfl ?yb2 ?yb3 (by decide) ?yb4 ?yb5 _ rfl ?_)
        case yb1 => exact hrr.out.kept (((Chg.refl (fun _ => False) wr).drewN _).alloc _) (fun _ _ h => h)
        case yb2 => exact World.news_of_block (blk_new (wr.drewN _) _)
        case yb3 => simp [Value.oneCell', ecells]
        case yb4 => unfold maxLen; omega
        case yb5 => omega
        intro gg off2 cap2 w3 hrow3 hgrow3 hat3 hlt3
        have hA3 : Chg (fun b => rv.ownBlock = some b) wr w3 := (((Chg.refl _ wr).drewN _).alloc _).grown hgrow3 (fun b _ e => e)
        have hsr := hC.out.size
        have hgg : w1.heap.size ≤ gg ∧ ∀ b, gv.ownBlock = some b → b ≠ gg := by
          rcases hat3 with h | h
          · exact ⟨hown.out.1 gg h, fun b hb e => hown.out.2.2 gg h (by rw [← e]; exact hb)⟩
          · have h3 : gg = wr.heap.size + 1 := by rw [h]
            exact ⟨by omega, fun b hb e => by have := hgr.out.lt b hb; omega⟩
        have hR3 : Hid (ERow w3 (.slice (some ⟨gg, off2, none⟩) (rr.length + 1) cap2) (rr ++ [(⟨x0, x1, x2, x3, x4⟩, x5)])) := by
          unfold ERow
          rw [List.length_append, List.flatMap_append]
          exact Lib.hid (by simpa using hrow3)
        have hG3 : Hid (IRow w3 gv (outs (l.take j) k.p)) := hgr.out.kept hA3 (fun b hb e => hown.out.2.2 b e hb)
        have hC3 : Hid (Chg (fun _ => False) w1 w3) := hC.out.andThen hA3 (fun b hb e => by have := hown.out.1 b e; omega)
        clear hrow3 hgrow3 hat3 hlt3 hA3
        go_wp2_with fail
        go_roundg g
        case measure => omega
        case rel =>
          refine ⟨j + 1, _, gv, rfl, rfl, by go_num, by omega, by omega, ?_, ?_, Lib.hid ⟨fun b hb => ?_, hown.out.2.1, fun b hb hb2 => ?_⟩, hC3.out⟩
          · rw [hst1.out]; exact hR3.out
          · rw [hst2.out]; exact hG3.out
          · have : gg = b := by simpa [Value.ownBlock] using hb
            omega
          · have : gg = b := by simpa [Value.ownBlock] using hb
            exact hgg.2 b hb2 this.symm
    · obtain rfl : j = nl := by omega
      have i2 : ¬ (j : Int) < (j : Int) := by omega
      have hall : l.take j = l := List.take_of_length_le (by rw [HNL.out]; exact Nat.le_refl _)
      rw [hall] at hrr hgr
      obtain ⟨adg, capg, hgv, hng, hmg⟩ := hgr.out.form
      rw [HM.out] at hgv hng
      subst hgv
      go_wp2_with fail
      go_loopg [14] (m + 1) (fun g vi wq => ∃ (q : Nat), vi = .int .i64 q ∧ q ≤ m ∧ m < g + q ∧ Hid (Chg (fun _ => False) wr wq))
      case atStart => exact ⟨0, rfl, by omega, by omega, Chg.refl _ _⟩
      case round =>
        obtain ⟨q, rfl, hq, hgq, hCq⟩ := hrel
        have hC2 : Chg (fun _ => False) w1 wr := hC.out.trans hCq.out
        by_cases hqm : q < m
        · obtain ⟨g, rfl⟩ : ∃ m, gk = m + 1 := ⟨gk - 1, by omega⟩
          have hRo := HO.out.kept hC2 (fun _ _ h => h)
          have hRg := hgr.out.kept hCq.out (fun _ _ h => h)
          obtain ⟨bo, oo, co, hvo, hco⟩ := hRo.formS (by rw [HM.out]; omega)
          obtain ⟨bg, og, cg, hvg, hcg⟩ := hRg.formS (by rw [HM.out]; omega)
          rw [HM.out] at hvo hvg
          cases hvo
          cases hvg
          have z1 := IRow.cell hRo HM.out q hqm
          have z2 := IRow.cell hRg HM.out q hqm
          have q0 : (0 : Int) ≤ (q : Int) := by omega
          have q1 : (q : Int) < (m : Int) := by omega
          generalize (outs l k.p).getD q 0 = val at z1 z2
          clear hRo hRg hC2
          go_wp2_with fail
          go_quiet (fail)
          go_wp2_with fail
          go_roundg g
          case measure => omega
          case rel => exact ⟨q + 1, by go_num, by omega, by omega, hCq.out.drewN _⟩
        · have q1 : ¬ (q : Int) < (m : Int) := by omega
          have hP : Hid (Pair wr c M v1 rv lim (rest l k.p)) := ⟨HA1.out.chg hC2 (fun _ _ h => h), hrr.out.kept hCq.out (fun _ _ h => h), fun b hb hf => by
            have h1 := hown.out.1 b hb
            have h2 := HA1.out.lt b hf
            omega⟩
          have hW : Hid (Went w wr c M v (.slice adl j capl) v1 rv) := ⟨((HC0.out.mono (fun _ _ h => h.elim)).andThen HC1.out (fun j _ e => .inl e)).andThen hC2 (fun _ _ h => h.elim), fun b hb => .inl (HO1.out b hb), fun b hb => .inr (by
            have h1 := hown.out.1 b hb
            have h2 := HC1.out.size
            omega)⟩
          clear hC2
          go_wp2_with fail
          go_ret2
          exact ⟨_, rfl, _, hP.out, hW.out⟩
end Go.Proofs.Ytkidnmjaioejaaa.Cx
