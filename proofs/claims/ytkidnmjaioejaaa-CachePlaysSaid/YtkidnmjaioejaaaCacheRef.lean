/- The reference's Without and Find, walked. Condition: the row's cells are known. -/
import Derived.Test.YtkidnmjaioejaaaCacheDrop2
namespace Go.Proofs.Ytkidnmjaioejaaa.Cx
set_option linter.unusedVariables false
set_option linter.unusedSimpArgs false
open Go.RowKit Go.Proofs.Ytkidnmjaioejaaa.Mem Go.Maps

def ecells (e : Ent) : List Value := [.int .i64 e.1.p, .int .i64 e.1.a, .int .i64 e.1.b, .int .i64 e.1.c, .int .i64 e.1.d, .int .i64 e.2]
theorem ecells_len (l : List Ent) : (l.flatMap ecells).length = l.length * 6 := by
  induction l with
  | nil => rfl
  | cons t l ih => simp only [List.flatMap_cons, List.length_append, ih, List.length_cons]; show 6 + _ = _; omega
theorem ecells_get (l : List Ent) (k i : Nat) (hk : k < l.length) (hi : i < 6) : (l.flatMap ecells)[k * 6 + i]? = (ecells l[k])[i]? := by
  induction l generalizing k with
  | nil => simp at hk
  | cons t l ih =>
    rw [List.flatMap_cons]
    cases k with
    | zero => rw [List.getElem?_append_left (by show 0 * 6 + i < 6; omega), Nat.zero_mul, Nat.zero_add]; rfl
    | succ k =>
      rw [List.getElem?_append_right (by show 6 ≤ _; omega), show (k + 1) * 6 + i - (ecells t).length = k * 6 + i from by show (k + 1) * 6 + i - 6 = _; omega]
      exact ih k (by simpa using hk)
abbrev ERow (w : World) (v : Value) (l : List Ent) : Prop := RowAt w 47 6 v l.length (l.flatMap ecells)
theorem infoE : (Try.prog.info? 47).map (fun i => (i.zero, i.size, i.bytes)) = some (some (.agg #[.int .i64 0, .int .i64 0, .int .i64 0, .int .i64 0, .int .i64 0, .int .i64 0]), 6, 48) := by kernel_rfl
def e0 : Ent := (⟨0, 0, 0, 0, 0⟩, 0)
theorem ERow.cells {w : World} {g off n cap : Nat} {l : List Ent} (h : ERow w (.slice (some ⟨g, off, none⟩) n cap) l) (hn : l.length = n) (k : Nat) (hk : k < n) (i : Nat) (hi : i < 6) : w.cell? ⟨g, off + k * 6 + i, none⟩ = (ecells (l.getD k e0))[i]? := by
  subst hn
  rw [Nat.add_assoc, RowAt.cell h (k * 6 + i) (by omega), ecells_get l k i hk hi]; simp [hk]

set_option maxHeartbeats 4000000 in
theorem without_calls (lv : Value) (l : List Ent) (k : Key) (w : World) (hr : ERow w lv l) (hl : l.length ≤ 100) :
    Calls Try.prog 48 #[lv, kv k] w fun e w' => ∃ v', e = .returned v' ∧ ERow w' v' (without l k) ∧ (∀ j, v'.ownBlock = some j → w.heap.size ≤ j) ∧ Below w.heap.size w w' := by
  have E := fun w x => eqKey w x k
  obtain ⟨ad, cap, rfl, hcap, _⟩ := hr.form
  obtain ⟨n, hn⟩ : ∃ n, l.length = n := ⟨_, rfl⟩
  obtain ⟨iE, hi0, hi1, hi2, hi3⟩ := info_parts infoE
  have HN := Lib.hid hn
  have HR : Hid (RowAt w 47 6 (.slice ad n cap) n (l.flatMap ecells)) := by rw [← hn]; exact hr
  have hlt := hr.lt
  rw [hn] at hl hcap hlt ⊢
  have HLT := Lib.hid hlt
  have HK : Hid (∀ j : Nat, ∀ x, l[j]? = some x → without (l.take (j + 1)) k = if x.1 = k then without (l.take j) k else without (l.take j) k ++ [x]) := fun j x hx => by
    rw [take_snoc l j x hx]
    unfold without
    rw [List.filter_append]
    by_cases h : x.1 = k <;> simp [h]
  have HW : Hid (∀ j : Nat, (without (l.take j) k).length ≤ 100) := fun j => by
    unfold without
    refine Nat.le_trans (List.length_filter_le _ _) ?_
    rw [List.length_take]
    have := HN.out
    omega
  clear hr hn hlt
  obtain ⟨k0, k1, k2, k3, k4⟩ := k
  simp only [kv] at E ⊢
  go_enter Try.func48, Try.ntmps48
  go_wp2_with fail
  go_loopg [5, 10] (n + 1) (fun g vo0 vi wr => ∃ (j : Nat) (vo : Value), vo = vo0 ∧ vi = .int .i64 j ∧ j ≤ n ∧ n < g + j ∧ Hid (ERow wr vo (without (l.take j) ⟨k0, k1, k2, k3, k4⟩)) ∧ Hid (∀ b, vo.ownBlock = some b → w.heap.size + 1 ≤ b) ∧ Hid (Chg (fun b => w.heap.size + 1 ≤ b) (w.alloc (.cells #[.int .i64 k0, .int .i64 k1, .int .i64 k2, .int .i64 k3, .int .i64 k4] 34)) wr))
  case atStart =>
    refine ⟨0, _, rfl, rfl, by omega, by omega, ?_, ?_, ?_⟩
    · refine Lib.hid ⟨rfl, .inr ⟨w.heap.size + 1, 0, 0, #[], rfl, ?_, Nat.le_refl _, Nat.zero_le _, Nat.le_refl _, rfl⟩⟩
      have := blk_new (w.alloc (.cells #[.int .i64 k0, .int .i64 k1, .int .i64 k2, .int .i64 k3, .int .i64 k4] 34)) (.cells #[] 47)
      simpa using this
    · exact Lib.hid (fun b hb => by have : w.heap.size + 1 = b := by simpa [Value.ownBlock] using hb
                                    omega)
    · exact Lib.hid ((Chg.refl _ _).alloc _)
  case round =>
    obtain ⟨j, vo, rfl, rfl, hj, hgj, hro, hob, hC⟩ := hrel
    have hC2 : Chg (fun b => w.heap.size ≤ b) w wr := ((Chg.refl (fun b => w.heap.size ≤ b) w).alloc _).andThen hC.out (fun b _ e => Nat.le_of_succ_le e)
    by_cases hjn : j < n
    · obtain ⟨g, rfl⟩ : ∃ m, gk = m + 1 := ⟨gk - 1, by omega⟩
      have hRr : RowAt wr 47 6 (.slice ad n cap) n (l.flatMap ecells) := HR.out.kept hC2 (fun b hb e => by have := HLT.out b hb; omega)
      obtain ⟨b, off, cap', hv, hcc⟩ := hRr.formS (by omega)
      cases hv
      have hbox : wr.heap[w.heap.size]? = some (.cells #[.int .i64 k0, .int .i64 k1, .int .i64 k2, .int .i64 k3, .int .i64 k4] 34 (0, 0)) := hC.out.blk (blk_new _ _) (by omega)
      have hcell : ∀ i, i < 6 → wr.cell? ⟨b, off + j * 6 + i, none⟩ = (ecells (l.getD j e0))[i]? := fun i hi => by
        rw [Nat.add_assoc, RowAt.cell hRr (j * 6 + i) (by omega), ecells_get l j i (by rw [HN.out]; exact hjn) hi]; simp [show j < l.length by rw [HN.out]; exact hjn]
      have a0 := hcell 0 (by omega)
      have a1 := hcell 1 (by omega)
      have a2 := hcell 2 (by omega)
      have a3 := hcell 3 (by omega)
      have a4 := hcell 4 (by omega)
      have a5 := hcell 5 (by omega)
      have b0 : wr.cell? ⟨w.heap.size, 0, none⟩ = _ := cell_of hbox 0
      have b1 : wr.cell? ⟨w.heap.size, 1, none⟩ = _ := cell_of hbox 1
      have b2 : wr.cell? ⟨w.heap.size, 2, none⟩ = _ := cell_of hbox 2
      have b3 : wr.cell? ⟨w.heap.size, 3, none⟩ = _ := cell_of hbox 3
      have b4 : wr.cell? ⟨w.heap.size, 4, none⟩ = _ := cell_of hbox 4
      simp only [List.getElem?_toArray, List.getElem?_cons_zero, List.getElem?_cons_succ] at b0 b1 b2 b3 b4
      have HKj := Lib.hid (HK.out j (l.getD j e0) (by simp [show j < l.length by rw [HN.out]; exact hjn]))
      have Ej := fun w => E w (l.getD j e0).1
      obtain ⟨y, hy⟩ : ∃ y, y = l.getD j e0 := ⟨_, rfl⟩
      rw [← hy] at a0 a1 a2 a3 a4 a5 HKj
      simp only [← hy] at Ej
      clear hy hcell hRr hbox E
      obtain ⟨⟨x0, x1, x2, x3, x4⟩, x5⟩ := y
      simp only [ecells, List.getElem?_cons_zero, List.getElem?_cons_succ, Nat.add_zero] at a0 a1 a2 a3 a4 a5
      have i0 : (0 : Int) ≤ (j : Int) := by omega
      have i1 : (j : Int) < (n : Int) := by omega
      obtain ⟨r, hr⟩ : ∃ r, without (l.take j) ⟨k0, k1, k2, k3, k4⟩ = r := ⟨_, rfl⟩
      have hrl : r.length ≤ 100 := by rw [← hr]; exact HW.out j
      rw [hr] at hro HKj
      by_cases he : (⟨x0, x1, x2, x3, x4⟩ : Key) = ⟨k0, k1, k2, k3, k4⟩
      · have Et : ∀ w : World, (Op.equalIn 10000 34 (.agg #[.int .i64 x0, .int .i64 x1, .int .i64 x2, .int .i64 x3, .int .i64 x4]) (.agg #[.int .i64 k0, .int .i64 k1, .int .i64 k2, .int .i64 k3, .int .i64 k4])).run Try.prog w = .ok true w := fun w => (Ej w).trans (by rw [decide_eq_true he])
        rw [if_pos he] at HKj
        clear Ej he
        go_wp2_with fail
        go_quiet (fail)
        go_wp2_with fail
        go_roundg g
        case measure => omega
        case rel =>
          refine ⟨j + 1, _, rfl, by go_num, by omega, by omega, ?_, hob.out, hC.out.drewN _⟩
          rw [HKj.out]
          exact hro.out.kept ((Chg.refl (fun _ => False) wr).drewN _) (fun _ _ h => h)
      · have Et : ∀ w : World, (Op.equalIn 10000 34 (.agg #[.int .i64 x0, .int .i64 x1, .int .i64 x2, .int .i64 x3, .int .i64 x4]) (.agg #[.int .i64 k0, .int .i64 k1, .int .i64 k2, .int .i64 k3, .int .i64 k4])).run Try.prog w = .ok false w := fun w => (Ej w).trans (by rw [decide_eq_false he])
        rw [if_neg he] at HKj
        clear Ej he
        obtain ⟨ro, hrol⟩ : ∃ ro, r.length = ro := ⟨_, rfl⟩
        have hro2 : Hid (RowAt wr 47 6 vo ro (r.flatMap ecells)) := by rw [← hrol]; exact hro.out
        rw [hrol] at hrl
        go_wp2_with fail
        go_quiet (fail)
        go_wp2_with (at_builtin; refine wpList_append_row _ rfl _ _ 41 rfl 47 iE _ 6 48 Try.underlying41 hi0 hi1 hi2 hi3 rfl (by decide) vo ro (r.flatMap ecells) rfl ?ya1 ⟨wr.heap.size, 0, none⟩ 1 1 (ecells (⟨x0, x1, x2, x3, x4⟩, x5)) rfl rfl ?ya2 ?ya3 (by decide) ?ya4 ?ya5 _ rfl ?_)
        case ya1 => exact hro2.out.kept (((Chg.refl (fun _ => False) wr).drewN _).alloc _) (fun _ _ h => h)
        case ya2 => exact World.news_of_block (blk_new (wr.drewN _) _)
        case ya3 => simp [ecells, Value.oneCell']
        case ya4 => unfold maxLen; omega
        case ya5 => omega
        intro gg off2 cap2 w3 hrow3 hgrow3 hat3 hlt3
        have hA3 : Chg (fun b => w.heap.size + 1 ≤ b) wr w3 := (((Chg.refl _ wr).drewN _).alloc _).grown hgrow3 (fun b _ e => hob.out b e)
        have hgg : w.heap.size + 1 ≤ gg := by
          rcases hat3 with h | h
          · exact hob.out gg h
          · have h2 := hC.out.size
            have h3 : gg = wr.heap.size + 1 := by rw [h]
            simp at h2
            omega
        have hR3 : Hid (ERow w3 (.slice (some ⟨gg, off2, none⟩) (ro + 1) cap2) (r ++ [(⟨x0, x1, x2, x3, x4⟩, x5)])) := by
          unfold ERow
          rw [List.length_append, hrol, List.flatMap_append]
          exact Lib.hid (by simpa using hrow3)
        have hC3 : Hid (Chg (fun b => w.heap.size + 1 ≤ b) (w.alloc (.cells #[.int .i64 k0, .int .i64 k1, .int .i64 k2, .int .i64 k3, .int .i64 k4] 34)) w3) := hC.out.trans hA3
        clear hrow3 hgrow3 hat3 hlt3 hA3
        go_wp2_with fail
        go_roundg g
        case measure => omega
        case rel =>
          refine ⟨j + 1, _, rfl, by go_num, by omega, by omega, ?_, fun b hb => ?_, hC3.out⟩
          · rw [HKj.out]; exact hR3.out
          · have : gg = b := by simpa [Value.ownBlock] using hb
            omega
    · obtain rfl : j = n := by omega
      have i2 : ¬ (j : Int) < (j : Int) := by omega
      have hall : l.take j = l := List.take_of_length_le (by rw [HN.out]; exact Nat.le_refl _)
      rw [hall] at hro
      have HB : Hid (Below w.heap.size w wr) := hC2.toBelow (Nat.le_refl _) (fun b _ e => e)
      have HO : Hid (∀ b, vo.ownBlock = some b → w.heap.size ≤ b) := fun b hb => Nat.le_of_succ_le (hob.out b hb)
      clear hC2 hC
      go_wp2_with fail
      go_ret
      exact ⟨_, rfl, hro.out, HO.out, HB.out⟩

set_option maxHeartbeats 4000000 in
theorem find_calls (lv : Value) (l : List Ent) (k : Key) (w : World) (hr : ERow w lv l) (hl : l.length ≤ 100) :
    Calls Try.prog 49 #[lv, kv k] w fun e w' => e = .returned (.tuple #[.int .i64 ((find l k).getD 0), .bool (find l k).isSome]) ∧ Below w.heap.size w w' := by
  have E := fun w x => eqKey w x k
  obtain ⟨ad, cap, rfl, hcap, _⟩ := hr.form
  obtain ⟨n, hn⟩ : ∃ n, l.length = n := ⟨_, rfl⟩
  have HN := Lib.hid hn
  have HR : Hid (RowAt w 47 6 (.slice ad n cap) n (l.flatMap ecells)) := by rw [← hn]; exact hr
  have hlt := hr.lt
  rw [hn] at hl hcap hlt ⊢
  have HLT := Lib.hid hlt
  have HF : Hid (∀ j : Nat, find (l.take j) k = none → ∀ x, l[j]? = some x → if x.1 = k then find l k = some x.2 else find (l.take (j + 1)) k = none) := fun j h0 x hx => by
    have h1 := take_snoc l j x hx
    have h2 : find (l.take (j + 1)) k = if x.1 = k then some x.2 else none := by
      rw [h1]
      unfold find at h0 ⊢
      rw [Option.map_eq_none_iff] at h0
      rw [List.find?_append, h0]
      by_cases h : x.1 = k <;> simp [h]
    by_cases h : x.1 = k
    · rw [if_pos h] at h2 ⊢
      have h3 : l = l.take (j + 1) ++ l.drop (j + 1) := (List.take_append_drop _ _).symm
      rw [h3]
      unfold find at h2 ⊢
      rw [List.find?_append]
      rcases hh : (l.take (j + 1)).find? (fun e => decide (e.1 = k)) with _ | y
      · rw [hh] at h2; cases h2
      · rw [hh] at h2 ⊢
        exact h2
    · rw [if_neg h] at h2 ⊢
      exact h2
  clear hr hn hlt
  generalize hfk : find l k = fk at HF ⊢
  have HFK := Lib.hid hfk
  clear hfk
  obtain ⟨k0, k1, k2, k3, k4⟩ := k
  simp only [kv] at E ⊢
  go_enter Try.func49, Try.ntmps49
  go_wp2_with fail
  go_loopg [9] (n + 1) (fun g vi wr => ∃ (j : Nat), vi = .int .i64 j ∧ j ≤ n ∧ n < g + j ∧ Hid (find (l.take j) ⟨k0, k1, k2, k3, k4⟩ = none) ∧ Hid (Chg (fun _ => False) (w.alloc (.cells #[.int .i64 k0, .int .i64 k1, .int .i64 k2, .int .i64 k3, .int .i64 k4] 34)) wr))
  case atStart => exact ⟨0, rfl, by omega, by omega, Lib.hid rfl, Lib.hid (Chg.refl _ _)⟩
  case round =>
    obtain ⟨j, rfl, hj, hgj, hf0, hC⟩ := hrel
    have hC2 : Chg (fun _ => False) w wr := ((Chg.refl (fun _ => False) w).alloc _).trans hC.out
    by_cases hjn : j < n
    · obtain ⟨g, rfl⟩ : ∃ m, gk = m + 1 := ⟨gk - 1, by omega⟩
      have hRr : RowAt wr 47 6 (.slice ad n cap) n (l.flatMap ecells) := HR.out.kept hC2 (fun _ _ h => h)
      obtain ⟨b, off, cap', hv, hcc⟩ := hRr.formS (by omega)
      cases hv
      have hbox : wr.heap[w.heap.size]? = some (.cells #[.int .i64 k0, .int .i64 k1, .int .i64 k2, .int .i64 k3, .int .i64 k4] 34 (0, 0)) := hC.out.blk (blk_new _ _) (fun h => h)
      have hcell : ∀ i, i < 6 → wr.cell? ⟨b, off + j * 6 + i, none⟩ = (ecells (l.getD j e0))[i]? := fun i hi => by
        rw [Nat.add_assoc, RowAt.cell hRr (j * 6 + i) (by omega), ecells_get l j i (by rw [HN.out]; exact hjn) hi]; simp [show j < l.length by rw [HN.out]; exact hjn]
      have a0 := hcell 0 (by omega)
      have a1 := hcell 1 (by omega)
      have a2 := hcell 2 (by omega)
      have a3 := hcell 3 (by omega)
      have a4 := hcell 4 (by omega)
      have a5 := hcell 5 (by omega)
      have b0 : wr.cell? ⟨w.heap.size, 0, none⟩ = _ := cell_of hbox 0
      have b1 : wr.cell? ⟨w.heap.size, 1, none⟩ = _ := cell_of hbox 1
      have b2 : wr.cell? ⟨w.heap.size, 2, none⟩ = _ := cell_of hbox 2
      have b3 : wr.cell? ⟨w.heap.size, 3, none⟩ = _ := cell_of hbox 3
      have b4 : wr.cell? ⟨w.heap.size, 4, none⟩ = _ := cell_of hbox 4
      simp only [List.getElem?_toArray, List.getElem?_cons_zero, List.getElem?_cons_succ] at b0 b1 b2 b3 b4
      have HFj := Lib.hid (HF.out j hf0.out (l.getD j e0) (by simp [show j < l.length by rw [HN.out]; exact hjn]))
      have Ej := fun w => E w (l.getD j e0).1
      obtain ⟨y, hy⟩ : ∃ y, y = l.getD j e0 := ⟨_, rfl⟩
      rw [← hy] at a0 a1 a2 a3 a4 a5 HFj
      simp only [← hy] at Ej
      clear hy hcell hRr hbox E
      obtain ⟨⟨x0, x1, x2, x3, x4⟩, x5⟩ := y
      simp only [ecells, List.getElem?_cons_zero, List.getElem?_cons_succ, Nat.add_zero] at a0 a1 a2 a3 a4 a5
      have i0 : (0 : Int) ≤ (j : Int) := by omega
      have i1 : (j : Int) < (n : Int) := by omega
      by_cases he : (⟨x0, x1, x2, x3, x4⟩ : Key) = ⟨k0, k1, k2, k3, k4⟩
      · have Et : ∀ w : World, (Op.equalIn 10000 34 (.agg #[.int .i64 x0, .int .i64 x1, .int .i64 x2, .int .i64 x3, .int .i64 x4]) (.agg #[.int .i64 k0, .int .i64 k1, .int .i64 k2, .int .i64 k3, .int .i64 k4])).run Try.prog w = .ok true w := fun w => (Ej w).trans (by rw [decide_eq_true he])
        rw [if_pos he] at HFj
        have HB : Hid (Below w.heap.size w wr) := hC2.toBelow (Nat.le_refl _) (fun b _ e => e.elim)
        clear Ej he hC2
        go_wp2_with fail
        go_quiet (fail)
        go_wp2_with fail
        go_ret2
        rw [HFj.out]
        exact ⟨rfl, HB.out.trans ((Chg.toBelow ((Chg.refl (fun _ => False) wr).drewN _) (Nat.le_refl _) (fun _ _ h => h.elim)).mono HB.out.size)⟩
      · have Et : ∀ w : World, (Op.equalIn 10000 34 (.agg #[.int .i64 x0, .int .i64 x1, .int .i64 x2, .int .i64 x3, .int .i64 x4]) (.agg #[.int .i64 k0, .int .i64 k1, .int .i64 k2, .int .i64 k3, .int .i64 k4])).run Try.prog w = .ok false w := fun w => (Ej w).trans (by rw [decide_eq_false he])
        rw [if_neg he] at HFj
        clear Ej he hC2
        go_wp2_with fail
        go_quiet (fail)
        go_wp2_with fail
        go_roundg g
        case measure => omega
        case rel => exact ⟨j + 1, by go_num, by omega, by omega, HFj.out, hC.out.drewN _⟩
    · obtain rfl : j = n := by omega
      have i2 : ¬ (j : Int) < (j : Int) := by omega
      have hall : l.take j = l := List.take_of_length_le (by rw [HN.out]; exact Nat.le_refl _)
      rw [hall, HFK.out] at hf0
      have HB : Hid (Below w.heap.size w wr) := hC2.toBelow (Nat.le_refl _) (fun b _ e => e.elim)
      clear hC2 hC
      go_wp2_with fail
      go_ret2
      rw [hf0.out]
      exact ⟨rfl, HB.out⟩
end Go.Proofs.Ytkidnmjaioejaaa.Cx
