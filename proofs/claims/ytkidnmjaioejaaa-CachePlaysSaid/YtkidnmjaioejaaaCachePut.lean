/- The cache's New, Put, Get and Len, walked. Condition: the cache's block is known, its map and its row of keys. -/
import Derived.Test.YtkidnmjaioejaaaCacheLast
namespace Go.Proofs.Ytkidnmjaioejaaa.Cx
set_option linter.unusedVariables false
set_option linter.unusedSimpArgs false
open Go.RowKit Go.Proofs.Ytkidnmjaioejaaa.Mem Go.Maps

structure CacheAt (w : World) (c M : Nat) (v : Value) (lim : Nat) (l : List Ent) : Prop where
  blk : w.heap[c]? = some (.cells #[.map (some M), v, .int .i64 lim] 92 (0, 0))
  map : MapIs w M l
  row : KRow w v (l.map Prod.fst)
  good : Good l
  cM : c ≠ M
  own : ∀ j, v.ownBlock = some j → j ≠ c ∧ j ≠ M
  len : l.length ≤ 65
def foot (c M : Nat) (v : Value) (j : Nat) : Prop := j = c ∨ j = M ∨ v.ownBlock = some j
theorem CacheAt.chg {F : Nat → Prop} {w w' : World} {c M lim : Nat} {v : Value} {l : List Ent} (h : CacheAt w c M v lim l) (hc : Chg F w w') (hf : ∀ j, foot c M v j → ¬ F j) : CacheAt w' c M v lim l :=
  ⟨hc.blk h.blk (hf c (.inl rfl)), h.map.chg hc (hf M (.inr (.inl rfl))), h.row.kept hc (fun j hj => hf j (.inr (.inr hj))), h.good, h.cM, h.own, h.len⟩
theorem CacheAt.lt {w : World} {c M lim : Nat} {v : Value} {l : List Ent} (h : CacheAt w c M v lim l) (j : Nat) (hj : foot c M v j) : j < w.heap.size := by
  rcases hj with rfl | rfl | hj
  · exact lt_of_block h.blk
  · exact h.map.lt
  · exact h.row.lt j hj
def limit (n : Int) : Nat := if n < 1 then 1 else if 64 < n then 64 else n.toNat
def cput (lim : Nat) (l : List Ent) (k : Key) (x : Int) : List Ent := if lim < (put l k x).length then (put l k x).tail else put l k x

theorem new_end (w : World) (x : Int) (L : Nat) (hx : x = (L : Int)) : CacheAt ((w.alloc (.map #[] 0)).alloc (.cells #[.map (some w.heap.size), .slice none 0 0, .int .i64 x] 92)) (w.heap.size + 1) w.heap.size (.slice none 0 0) L [] := by
  subst hx
  refine ⟨?_, (MapIs.made w).chg ((Chg.refl (fun _ => False) _).alloc _) (fun h => h), RowAt.nil _ _ _, ⟨List.nodup_nil, fun e he => by cases he⟩, by omega, fun j hj => by simp [Value.ownBlock] at hj, Nat.zero_le _⟩
  have := blk_new (w.alloc (.map #[] 0)) (.cells #[.map (some w.heap.size), .slice none 0 0, .int .i64 (L : Int)] 92)
  simpa using this
set_option maxHeartbeats 1000000 in
theorem new_calls (n : Int) (w : World) : Calls Try.prog 16 #[.int .i64 n] w fun e w' => ∃ c M, e = .returned (.pointer (some ⟨c, 0, none⟩)) ∧ CacheAt w' c M (.slice none 0 0) (limit n) [] ∧
    w.heap.size ≤ c ∧ w.heap.size ≤ M ∧ Below w.heap.size w w' := by
  have hmm := @run_makeMap Try.prog
  go_enter Try.func16, Try.ntmps16
  go_wp2_with fail
  · go_ret
    exact ⟨_, rfl, _, new_end w 1 (limit n) (by unfold limit; rw [if_pos (by omega)]; rfl), Nat.le_succ _, Nat.le_refl _, ((Below.refl _ w).alloc (Nat.le_refl _) _).alloc (by simp) _⟩
  · go_ret
    exact ⟨_, rfl, _, new_end w 64 (limit n) (by unfold limit; rw [if_neg (by omega), if_pos (by omega)]; rfl), Nat.le_succ _, Nat.le_refl _, ((Below.refl _ w).alloc (Nat.le_refl _) _).alloc (by simp) _⟩
  · go_ret
    exact ⟨_, rfl, _, new_end w n (limit n) (by unfold limit; rw [if_neg (by omega), if_neg (by omega)]; omega), Nat.le_succ _, Nat.le_refl _, ((Below.refl _ w).alloc (Nat.le_refl _) _).alloc (by simp) _⟩

theorem ks_put (l : List Ent) (k : Key) (x : Int) : (l.map Prod.fst).filter (fun y => !decide (y = k)) ++ [k] = (put l k x).map Prod.fst := by
  unfold put without
  rw [List.map_append, List.filter_map]
  rfl
theorem put_len (l : List Ent) (k : Key) (x : Int) : (put l k x).length ≤ l.length + 1 := by
  unfold put without
  rw [List.length_append]
  have := List.length_filter_le (fun e : Ent => !decide (e.1 = k)) l
  simp only [List.length_cons, List.length_nil]; omega
theorem without_head {e : Ent} {l : List Ent} (h : ((e :: l).map Prod.fst).Nodup) : without (e :: l) e.1 = l := by
  unfold without
  rw [List.filter_cons_of_neg (by simp)]
  rw [List.map_cons, List.nodup_cons] at h
  apply List.filter_eq_self.2
  intro y hy
  simp only [Bool.not_eq_true', decide_eq_false_iff_not]
  intro e2
  exact h.1 (List.mem_map.2 ⟨y, hy, e2⟩)
/-- Behind last. -/
theorem CacheAt.turned {w w' : World} {c M lim : Nat} {v v' : Value} {l l' : List Ent} (h : CacheAt w c M v lim l) (hc : w'.heap[c]? = some (.cells #[.map (some M), v', .int .i64 lim] 92 (0, 0))) (hm : MapIs w' M l')
    (hr : KRow w' v' (l'.map Prod.fst)) (hg : Good l') (ho : ∀ j, v'.ownBlock = some j → v.ownBlock = some j ∨ w.heap.size ≤ j) (hl : l'.length ≤ 65) : CacheAt w' c M v' lim l' :=
  ⟨hc, hm, hr, hg, h.cM, fun j hj => by
    rcases ho j hj with h1 | h1
    · exact h.own j h1
    · have h2 := h.lt c (.inl rfl)
      have h3 := h.lt M (.inr (.inl rfl))
      omega, hl⟩

/-- The eldest one goes. -/
theorem CacheAt.eldest {w w' : World} {c M lim g off n cap : Nat} {e : Ent} {l : List Ent} (h : CacheAt w c M (.slice (some ⟨g, off, none⟩) n cap) lim (e :: l)) (hm : MapIs w' M (without (e :: l) e.1)) (hc : Chg (fun j => j = M) w w') :
    CacheAt (w'.setCell ⟨c, 1, none⟩ (.slice (some ⟨g, off + 5, none⟩) (n - 1) (cap - 1))) c M (.slice (some ⟨g, off + 5, none⟩) (n - 1) (cap - 1)) lim l := by
  have hgc := h.own g rfl
  have hS : Chg (fun j => j = c) w' (w'.setCell ⟨c, 1, none⟩ (.slice (some ⟨g, off + 5, none⟩) (n - 1) (cap - 1))) := Chg.set (p := ⟨c, 1, none⟩) (F := fun j => j = c) (Chg.refl _ w') (fun _ => rfl) _
  have hlen : ((e :: l).map Prod.fst).length = n := by
    obtain ⟨_, h2⟩ := h.row
    rcases h2 with ⟨e, _⟩ | ⟨g', off', cap', cur, e, _⟩
    · cases e
    · cases e; rfl
  refine ⟨?_, ?_, ?_, ⟨?_, fun y hy => h.good.2 y (List.mem_cons_of_mem _ hy)⟩, h.cM, fun j hj => ?_, ?_⟩
  · have := blk_set (hc.blk h.blk h.cM) 1 (.slice (some ⟨g, off + 5, none⟩) (n - 1) (cap - 1))
    simpa using this
  · rw [without_head h.good.1] at hm
    exact hm.chg hS (fun e => h.cM e.symm)
  · have h1 : RowAt w 34 5 (.slice (some ⟨g, off, none⟩) n cap) n (((e :: l).map Prod.fst).flatMap kcells) := by
      have := h.row
      unfold KRow at this
      rw [hlen] at this
      exact this
    have hn1 : 1 ≤ n := by rw [← hlen]; simp
    have h2 := h1.drop 1 hn1
    have e1 : (((e :: l).map Prod.fst).flatMap kcells).drop (1 * 5) = (l.map Prod.fst).flatMap kcells := rfl
    rw [e1] at h2
    have hl2 : n - 1 = (l.map Prod.fst).length := by rw [← hlen]; simp
    have h3 : RowAt w' 34 5 (.slice (some ⟨g, off + 1 * 5, none⟩) (n - 1) (cap - 1)) (n - 1) ((l.map Prod.fst).flatMap kcells) := h2.kept hc (fun j hj e => (h.own j hj).2 e)
    have h4 := h3.kept hS (fun j hj e => (h.own j hj).1 e)
    unfold KRow
    rw [← hl2]
    exact h4
  · have := h.good.1
    rw [List.map_cons, List.nodup_cons] at this
    exact this.2
  · exact h.own j hj
  · have := h.len
    simp only [List.length_cons] at this
    omega

set_option maxHeartbeats 4000000 in
theorem put_calls (c M lim : Nat) (v : Value) (l : List Ent) (k : Key) (x : Int) (w : World) (h : CacheAt w c M v lim l) (hk : k.ok) (hx : fits x) (hl : l.length ≤ lim) (hlim : lim ≤ 64) (hl1 : 1 ≤ lim) :
    Calls Try.prog 18 #[.pointer (some ⟨c, 0, none⟩), kv k, .int .i64 x] w fun e w' => (∃ u, e = .returned u) ∧ ∃ v', CacheAt w' c M v' lim (cput lim l k x) ∧
      Chg (foot c M v) w w' ∧ (∀ j, v'.ownBlock = some j → v.ownBlock = some j ∨ w.heap.size ≤ j) := by
  obtain ⟨w0, hw0⟩ : ∃ w0, w0 = w.alloc (.cells #[.int .i64 k.p, .int .i64 k.a, .int .i64 k.b, .int .i64 k.c, .int .i64 k.d] 34) := ⟨_, rfl⟩
  have hC0 : Chg (fun _ => False) w w0 := by rw [hw0]; exact (Chg.refl _ _).alloc _
  have h0 := h.chg hC0 (fun _ _ h => h)
  have hB : w0.heap[w.heap.size]? = some (.cells #[.int .i64 k.p, .int .i64 k.a, .int .i64 k.b, .int .i64 k.c, .int .i64 k.d] 34 (0, 0)) := by rw [hw0]; exact blk_new _ _
  obtain ⟨w1, hst, hm1, hg1⟩ := (h0.map.chg ((Chg.refl (fun _ => False) w0).drewN 1) (fun h => h)).store h.good hk hx (by have := h.len; omega)
  have hcl := lt_of_block h.blk
  have HH := Lib.hid h
  have H0 := Lib.hid h0
  have HB := Lib.hid hB
  have HC0 := Lib.hid hC0
  have HM1 := Lib.hid hm1
  have HG1 := Lib.hid hg1
  have HW0 := Lib.hid hw0
  have c0 : w0.cell? ⟨c, 0, none⟩ = some (.map (some M)) := cell_of h0.blk 0
  have b0 : w0.cell? ⟨w.heap.size, 0, none⟩ = _ := cell_of hB 0
  have b1 : w0.cell? ⟨w.heap.size, 1, none⟩ = _ := cell_of hB 1
  have b2 : w0.cell? ⟨w.heap.size, 2, none⟩ = _ := cell_of hB 2
  have b3 : w0.cell? ⟨w.heap.size, 3, none⟩ = _ := cell_of hB 3
  have b4 : w0.cell? ⟨w.heap.size, 4, none⟩ = _ := cell_of hB 4
  simp only [List.getElem?_toArray, List.getElem?_cons_zero, List.getElem?_cons_succ] at b0 b1 b2 b3 b4
  have hst2 : (Instr.mapUpdate 89 (.map (some M)) (kv k) (.int .i64 x)).run Try.prog w0.drew = .ok () w1 := hst
  clear h h0 hB hC0 hm1 hg1 hst
  rw [hw0] at c0 b0 b1 b2 b3 b4 hst2
  simp only [kv] at hst2 ⊢
  go_enter Try.func18, Try.ntmps18
  go_wp2_with fail
  go_region
  have HE : Hid (CacheAt w1 c M v lim l → False) ∨ True := .inr trivial
  clear HE
  have hC1 : Chg (fun j => j = M) w0 w1 := ((Chg.refl (fun j => j = M) w0).drewN 1).grown HG1.out (fun j _ e => by cases e; rfl)
  have hcb1 : w1.heap[c]? = _ := hC1.blk H0.out.blk H0.out.cM
  have hrow1 : KRow w1 v (l.map Prod.fst) := H0.out.row.kept hC1 (fun j hj => (H0.out.own j hj).2)
  have hbox1 : w1.heap[w.heap.size]? = _ := hC1.blk HB.out (fun e => by have := HH.out.lt M (.inr (.inl rfl)); omega)
  have HL := Lib.hid (last_calls c (.map (some M)) v lim (l.map Prod.fst) k w1 (by rw [List.length_map]; omega) hcb1 hrow1 (fun j hj => (H0.out.own j hj).1))
  have d0 : w1.cell? ⟨w.heap.size, 0, none⟩ = _ := cell_of hbox1 0
  have d1 : w1.cell? ⟨w.heap.size, 1, none⟩ = _ := cell_of hbox1 1
  have d2 : w1.cell? ⟨w.heap.size, 2, none⟩ = _ := cell_of hbox1 2
  have d3 : w1.cell? ⟨w.heap.size, 3, none⟩ = _ := cell_of hbox1 3
  have d4 : w1.cell? ⟨w.heap.size, 4, none⟩ = _ := cell_of hbox1 4
  simp only [List.getElem?_toArray, List.getElem?_cons_zero, List.getElem?_cons_succ] at d0 d1 d2 d3 d4
  have HC1 := Lib.hid hC1
  clear hcb1 hrow1 hbox1 hC1 b0 b1 b2 b3 b4 c0 hst2
  go_wp2_with fail
  refine HL.out.mono ?_
  rintro e w2 ⟨⟨u, rfl⟩, v2, hcb2, hrow2, hC2, ho2⟩
  have hA2 : CacheAt w2 c M v2 lim (put l k x) := by
    rw [ks_put l k x] at hrow2
    refine HH.out.turned hcb2 (HM1.out.chg hC2 (fun e => ?_)) hrow2 (HH.out.good.put hk hx) (fun j hj => ?_) (by have := put_len l k x; omega)
    · rcases e with e | e
      · exact HH.out.cM e.symm
      · exact (HH.out.own M e).2 rfl
    · exact (ho2 j hj).imp id (fun h => Nat.le_trans (Nat.le_trans HC0.out.size HC1.out.size) h)
  have hC2' : Chg (foot c M v) w w2 := (((HC0.out.mono (fun _ _ h => h.elim)).andThen HC1.out (fun j _ e => .inr (.inl e))).andThen hC2 (fun j _ e => e.elim .inl (fun h => .inr (.inr h))))
  have HA2 := Lib.hid hA2
  have HC2 := Lib.hid hC2'
  have HO2 : Hid (∀ j, v2.ownBlock = some j → v.ownBlock = some j ∨ w.heap.size ≤ j) := fun j hj => (ho2 j hj).imp id (fun h => Nat.le_trans (Nat.le_trans HC0.out.size HC1.out.size) h)
  clear hcb2 hrow2 hC2 ho2 hC2' HL d0 d1 d2 d3 d4
  obtain ⟨n, hn⟩ : ∃ n, ((put l k x).map Prod.fst).length = n := ⟨_, rfl⟩
  have hnl : (put l k x).length = n := by rw [← hn, List.length_map]
  obtain ⟨ad2, cap2, hv2, hnc2, hmc2⟩ := hA2.row.form
  rw [hn] at hv2 hnc2
  have e1 : w2.cell? ⟨c, 1, none⟩ = some v2 := cell_of hA2.blk 1
  have e2 : w2.cell? ⟨c, 2, none⟩ = some (.int .i64 lim) := cell_of hA2.blk 2
  subst hv2
  clear hA2
  go_wp2_with fail
  go_quiet (fail)
  by_cases hgt : lim < n
  · have hgt2 : (lim : Int) < (n : Int) := by omega
    have hn1 : (1 : Int) ≤ (n : Int) := by omega
    have hn0 : (0 : Int) < (n : Int) := by omega
    obtain ⟨e0, rest, hput⟩ : ∃ e0 rest, put l k x = e0 :: rest := by
      rcases hp : put l k x with _ | ⟨e0, rest⟩
      · rw [hp] at hnl; simp at hnl; omega
      · exact ⟨_, _, rfl⟩
    obtain ⟨g2, off2, cap', hv2, hcc⟩ := HA2.out.row.formS (by omega)
    rw [hn] at hv2
    cases hv2
    have hgood := HA2.out.good
    have hmap2 := HA2.out.map
    have hrow2 := HA2.out.row
    rw [hput] at hgood hmap2
    have hrow2' : RowAt w2 34 5 (.slice (some ⟨g2, off2, none⟩) n cap2) n (((put l k x).map Prod.fst).flatMap kcells) := by
      have := hrow2
      unfold KRow at this
      rw [hn] at this
      exact this
    have hcell : ∀ i, i < 5 → w2.cell? ⟨g2, off2 + i, none⟩ = (kcells e0.1)[i]? := fun i hi => by
      rw [hrow2'.cell i (by omega)]
      have := kcells_get ((put l k x).map Prod.fst) 0 i (by rw [hn]; omega) hi
      rw [Nat.zero_mul, Nat.zero_add] at this
      rw [this]; simp [hput]
    have a0 : w2.cell? ⟨g2, off2, none⟩ = _ := hcell 0 (by omega)
    have a1 := hcell 1 (by omega)
    have a2 := hcell 2 (by omega)
    have a3 := hcell 3 (by omega)
    have a4 := hcell 4 (by omega)
    have m0 : w2.cell? ⟨c, 0, none⟩ = some (.map (some M)) := cell_of HA2.out.blk 0
    have hk0 : e0.1.ok := (hgood.2 e0 List.mem_cons_self).1
    have hdel := fun m => (hmap2.chg ((Chg.refl (fun _ => False) w2).drewN m) (fun h => h)).drop hgood hk0 0
    obtain ⟨W3, hW3⟩ := Classical.skolem.1 hdel
    have HW3 := Lib.hid hW3
    have hdelr : ∀ m ty, (Builtin.delete_ #[89, 34] ty #[.map (some M), kv e0.1]).run Try.prog (w2.drewN m) = .ok (.tuple #[]) (W3 m) := fun m ty => (hW3 m).1
    have HC3 : Hid (∀ m, Chg (fun j => j = M) w2 (W3 m)) := fun m => ((Chg.refl (fun j => j = M) w2).drewN m).grown (hW3 m).2.2 (fun j _ e => by cases e; rfl)
    have n1 : ∀ m, (W3 m).cell? ⟨c, 1, none⟩ = some (.slice (some ⟨g2, off2, none⟩) n cap2) := fun m => cell_of ((HC3.out m).blk HA2.out.blk HH.out.cM) 1
    have n2 : ∀ m, (W3 m).frozen? ⟨c, 1, none⟩ = false := fun m => free_of ((HC3.out m).blk HA2.out.blk HH.out.cM) 1
    have HPUT := Lib.hid hput
    have HGD := Lib.hid hgood
    clear hcell hdel hW3 hrow2 hrow2' hput hgood hmap2
    obtain ⟨⟨q0, q1, q2, q3, q4⟩, y0⟩ := e0
    simp only [kcells, kv, List.getElem?_cons_zero, List.getElem?_cons_succ, Nat.add_zero] at a0 a1 a2 a3 a4 hdelr
    go_wp2_with fail
    go_region
    all_goals
      go_wp2_with fail
      go_end0
      have hA3 := HA2.out
      rw [HPUT.out] at hA3
      refine ⟨⟨_, rfl⟩, .slice (some ⟨g2, off2 + 5, none⟩) (n - 1) (cap2 - 1), ?_, ?_, fun j hj => HO2.out j hj⟩
      · rw [cput, if_pos (by omega), HPUT.out]
        exact hA3.eldest (HW3.out _).2.1 (HC3.out _)
      · refine Chg.set (p := ⟨c, 1, none⟩) (HC2.out.andThen (HC3.out _) (fun j _ e => .inr (.inl e))) (fun _ => .inl rfl) _
  · have hgt2 : ¬ (lim : Int) < (n : Int) := by omega
    go_wp2_with fail
    go_end0
    refine ⟨⟨_, rfl⟩, _, ?_, HC2.out.drewN _, HO2.out⟩
    rw [cput, if_neg (by omega)]
    exact HA2.out.chg ((Chg.refl (fun _ => False) w2).drewN _) (fun _ _ h => h)
end Go.Proofs.Ytkidnmjaioejaaa.Cx
