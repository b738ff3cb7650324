/- The cache's Drop, walked. Condition: the cache's block is known, its map and its row of keys. -/
import Derived.Test.YtkidnmjaioejaaaCacheDrop
namespace Go.Proofs.Ytkidnmjaioejaaa.Cx
set_option linter.unusedVariables false
set_option linter.unusedSimpArgs false
open Go.RowKit Go.Proofs.Ytkidnmjaioejaaa.Mem Go.Maps

def rest (l : List Ent) (p : Int) : List Ent := l.filter fun e => !decide (e.1.p = p)
def outs (l : List Ent) (p : Int) : List Int := (l.filter fun e => decide (e.1.p = p)).map Prod.snd
theorem Good.sub {l l' : List Ent} (h : Good l) (hs : l'.Sublist l) : Good l' := ⟨h.1.sublist (hs.map _), fun e he => h.2 e (hs.subset he)⟩
theorem rest_sub (l : List Ent) (p : Int) : (rest l p).Sublist l := List.filter_sublist
theorem without_mid {A D : List Ent} {e : Ent} (h : ((A ++ e :: D).map Prod.fst).Nodup) : without (A ++ e :: D) e.1 = A ++ D := by
  rw [List.map_append, List.nodup_append] at h
  obtain ⟨h1, h2, h3⟩ := h
  have e1 : without (A ++ e :: D) e.1 = without A e.1 ++ without (e :: D) e.1 := List.filter_append _ _
  rw [e1, without_head h2]
  congr 1
  apply List.filter_eq_self.2
  intro y hy
  simp only [Bool.not_eq_true', decide_eq_false_iff_not]
  intro e2
  exact h3 y.1 (List.mem_map.2 ⟨y, hy, rfl⟩) e.1 (by simp) e2
/-- What the closure has done behind the keys pre. -/
def DropJ (w0 : World) (l : List Ent) (p : Int) (Bo M : Nat) (v : Value) (pre : List Key) (W : World) : Prop :=
  ∃ vo, W.heap[Bo]? = some (.cells #[vo] 49 (0, 0)) ∧ IRow W vo (outs (l.take pre.length) p) ∧ MapIs W M (rest (l.take pre.length) p ++ l.drop pre.length) ∧
    Chg (fun j => j = Bo ∨ j = M ∨ v.ownBlock = some j) w0 W ∧ ∀ j, vo.ownBlock = some j → w0.heap.size ≤ j
theorem ownBlock_slice {ad : Option Addr} {n c n' c' : Nat} {ad' : Option Addr} (h : Value.slice ad n c = .slice ad' n' c') : ad = ad' := by cases h; rfl
theorem enterDrop (args : Array Value) (w : World) : (callFunc 51 args).run Try.prog w = .ok (.enter 51 args) w := by
  have h1 : (Try.f51.name == "runtime.NumGoroutine") = false := by kernel_rfl
  have h2 : Try.f51.body.isNone = false := by kernel_rfl
  have h3 : ¬ Try.f51.name = "runtime.NumGoroutine" := by simpa using h1
  have h4 : ¬ Try.f51.body = none := fun h => by rw [h] at h2; cases h2
  simp [callFunc, Try.func51, h3, h4]

theorem drop_asks {w w0 : World} {c M lim Bp Bo Bc : Nat} {v : Value} {l : List Ent} (h : CacheAt w c M v lim l) (p : Int) (h0 : CacheAt w0 c M v lim l)
    (hbp : w0.heap[Bp]? = some (.cells #[.int .i64 p] 3 (0, 0))) (hbc : w0.heap[Bc]? = some (.cells #[.pointer (some ⟨c, 0, none⟩)] 29 (0, 0)))
    (hBp : w.heap.size ≤ Bp) (hBo : w.heap.size ≤ Bo) (hBc : w.heap.size ≤ Bc) (h1 : Bo ≠ Bp) (h2 : Bo ≠ Bc) (h3 : Bp ≠ Bc) (hBol : Bo < w0.heap.size) :
    Asks 51 #[.pointer (some ⟨Bp, 0, none⟩), .pointer (some ⟨Bo, 0, none⟩), .pointer (some ⟨Bc, 0, none⟩)] v (fun k => decide (k.p = p)) (DropJ w0 l p Bo M v) (l.map Prod.fst) := by
  intro pre x W0 W hJ hC hpre
  obtain ⟨vo, hbo, hrow, hmap, hch, hown⟩ := hJ
  have hML := h.lt M (.inr (.inl rfl))
  have hcL := h.lt c (.inl rfl)
  have hvL : ∀ j, v.ownBlock = some j → j < w.heap.size := fun j hj => h.lt j (.inr (.inr hj))
  -- the entry that comes next
  obtain ⟨val, hval⟩ : ∃ val, l[pre.length]? = some (x, val) := by
    obtain ⟨t, ht⟩ := hpre
    have e1 : (l.map Prod.fst)[pre.length]? = some x := by rw [← ht]; simp
    rw [List.getElem?_map] at e1
    rcases hl : l[pre.length]? with _ | ⟨k, y⟩
    · rw [hl] at e1; cases e1
    · rw [hl] at e1
      simp at e1
      subst e1
      exact ⟨y, rfl⟩
  have hlt : pre.length < l.length := (List.getElem?_eq_some_iff.1 hval).1
  have hts := take_snoc l pre.length _ hval
  have hdrop : l.drop pre.length = (x, val) :: l.drop (pre.length + 1) := by
    rw [List.drop_eq_getElem_cons hlt]
    congr 1
    exact (List.getElem?_eq_some_iff.1 hval).2
  have hlen : (pre ++ [x]).length = pre.length + 1 := by simp
  -- the blocks in W
  have hne : ∀ b, w.heap.size ≤ b → b ≠ Bo → ¬ (b = Bo ∨ b = M ∨ v.ownBlock = some b) := fun b hb hb2 e => by
    rcases e with e | e | e
    · exact hb2 e
    · omega
    · have := hvL b e; omega
  have hbpW : W.heap[Bp]? = _ := hC.blk (hch.blk hbp (hne Bp hBp (fun e => h1 e.symm))) (fun h => h)
  have hbcW : W.heap[Bc]? = _ := hC.blk (hch.blk hbc (hne Bc hBc (fun e => h2 e.symm))) (fun h => h)
  have hcW : W.heap[c]? = _ := hC.blk (hch.blk h0.blk (fun e => by
    rcases e with e | e | e
    · omega
    · exact h.cM e
    · exact (h.own c e).1 rfl)) (fun h => h)
  have hboW := hC.blk hbo (fun h => h)
  have hsz0 : w0.heap.size ≤ W0.heap.size := hch.size
  have hOwnV : ∀ j, vo.ownBlock = some j → v.ownBlock = some j → False := fun j h1 h2 => by
    have := hown j h1
    have := h0.lt j (.inr (.inr h2))
    omega
  by_cases hp : x.p = p
  · subst hp
    have hg : Good (rest (l.take pre.length) x.p ++ l.drop pre.length) := h.good.sub (by
      have h5 := (rest_sub (l.take pre.length) x.p).append (List.Sublist.refl (l.drop pre.length))
      rwa [List.take_append_drop] at h5)
    have hf : find (rest (l.take pre.length) x.p ++ l.drop pre.length) x = some val := (find_mem hg.1).2 (by rw [hdrop]; simp)
    have hlout : (outs (l.take pre.length) x.p).length ≤ 100 := by
      unfold outs
      rw [List.length_map]
      refine Nat.le_trans (List.length_filter_le _ _) ?_
      rw [List.length_take]
      have := h.len
      omega
    refine (drop_this x val Bp Bo Bc c M v vo lim _ _ W hbpW hboW hbcW hcW (hmap.chg hC (fun h => h)) hg (hg.2 _ ((find_mem hg.1).1 hf)).1 hf (hrow.kept hC (fun _ _ h => h)) hlout ⟨by omega, h.cM, by omega, by omega, h2⟩ (fun j hj => ?_)).mono ?_
    · have := hown j hj
      have := h0.lt c (.inl rfl)
      have := h0.lt M (.inr (.inl rfl))
      have := lt_of_block hbc
      refine ⟨?_, ?_, ?_, ?_⟩ <;> omega
    · rintro e w' ⟨rfl, vo', hbo', hrow', hmap', hch', hown'⟩
      have hK : ∀ k, k < W0.heap.size → ¬ (k = Bo ∨ k = M ∨ vo.ownBlock = some k) → w'.heap[k]? = W0.heap[k]? := fun k hk hk2 => (hch'.block k (Nat.lt_of_lt_of_le hk hC.size) hk2).trans (hC.block k hk (fun h => h))
      refine ⟨by simp, ⟨vo', hbo', ?_, ?_, ?_, ?_⟩, ?_, hch'.size, ?_⟩
      · rw [hlen, hts]
        unfold outs
        rw [List.filter_append, List.map_append]
        simpa [outs] using hrow'
      · rw [hlen, hts]
        rw [hdrop, without_mid (e := (x, val)) (by rw [← hdrop]; exact hg.1)] at hmap'
        have e2 : rest (l.take pre.length ++ [(x, val)]) x.p = rest (l.take pre.length) x.p := by unfold rest; rw [List.filter_append]; simp
        rw [e2]
        exact hmap'
      · refine (hch.andThen hC (fun _ _ h => h.elim)).andThen hch' (fun j hj e => ?_)
        rcases e with e | e | e
        · exact .inl e
        · exact .inr (.inl e)
        · have := hown j e; omega
      · intro j hj
        rcases hown' j hj with h6 | h6
        · exact hown j h6
        · have := hC.size; omega
      · intro k hk
        refine hK k (Nat.lt_of_lt_of_le (Nat.lt_of_lt_of_le (h0.lt k (.inr (.inr hk))) hsz0) (Nat.le_refl _)) (fun e => ?_)
        rcases e with e | e | e
        · have := hvL k hk; omega
        · exact (h.own k hk).2 e
        · exact hOwnV k e hk
      · intro k hk hkW
        refine hch'.block k hkW (fun e => ?_)
        rcases e with e | e | e
        · omega
        · have := h0.lt M (.inr (.inl rfl)); omega
        · have := hrow.lt k e; omega
  · refine (drop_other x p Bp _ _ W hbpW hp).mono ?_
    rintro e w' ⟨rfl, hB⟩
    have hC2 : Chg (fun _ => False) W0 w' := hC.callee hB
    refine ⟨by simp [hp], ⟨vo, hC2.blk hbo (fun h => h), ?_, ?_, hch.andThen hC2 (fun _ _ h => h.elim), hown⟩, hC2.keeps (fun j hj => Nat.lt_of_lt_of_le (h0.lt j (.inr (.inr hj))) hsz0) (fun _ _ h => h), hB.size, fun j _ hj => hB.block j hj⟩
    · rw [hlen, hts]
      have e2 : outs (l.take pre.length ++ [(x, val)]) p = outs (l.take pre.length) p := by unfold outs; rw [List.filter_append]; simp [hp]
      rw [e2]
      exact hrow.kept hC2 (fun _ _ h => h)
    · rw [hlen, hts]
      have e2 : rest (l.take pre.length ++ [(x, val)]) p ++ l.drop (pre.length + 1) = rest (l.take pre.length) p ++ l.drop pre.length := by
        rw [hdrop]; unfold rest; rw [List.filter_append]; simp [hp]
      rw [e2]
      exact hmap.chg hC2 (fun h => h)

theorem drop_after {w w0 w1 : World} {c M lim : Nat} {v v1 : Value} {l : List Ent} {p : Int} (h : CacheAt w c M v lim l) (h0 : CacheAt w0 c M v lim l) (hbc : w0.heap[w.heap.size]? = some (.cells #[.pointer (some ⟨c, 0, none⟩)] 29 (0, 0))) (hsz : w0.heap.size = w.heap.size + 3)
    (hr : KRow w1 v1 ((l.map Prod.fst).filter fun x => !decide (x.p = p))) (hJ : DropJ w0 l p (w.heap.size + 2) M v (l.map Prod.fst) w1) :
    w1.heap[w.heap.size]? = some (.cells #[.pointer (some ⟨c, 0, none⟩)] 29 (0, 0)) ∧ w1.heap[c]? = some (.cells #[.map (some M), v, .int .i64 lim] 92 (0, 0)) := by
  obtain ⟨vo, q1, q2, q3, q4, q5⟩ := hJ
  have hM := h.lt M (.inr (.inl rfl))
  have hc := h.lt c (.inl rfl)
  refine ⟨q4.blk hbc (fun e => ?_), q4.blk h0.blk (fun e => ?_)⟩
  · rcases e with e | e | e
    · omega
    · omega
    · have := h.lt _ (.inr (.inr e)); omega
  · rcases e with e | e | e
    · omega
    · exact h.cM e
    · exact (h.own c e).1 rfl
/-- Behind the store. -/
theorem drop_end {w w0 w1 : World} {c M lim : Nat} {v v1 : Value} {l : List Ent} {p : Int} (h : CacheAt w c M v lim l) (hC0 : Chg (fun _ => False) w w0) (h0 : CacheAt w0 c M v lim l) (hsz : w0.heap.size = w.heap.size + 3)
    (hr : KRow w1 v1 ((l.map Prod.fst).filter fun x => !decide (x.p = p))) (hJ : DropJ w0 l p (w.heap.size + 2) M v (l.map Prod.fst) w1) (ho : ∀ j, v1.ownBlock = some j → v.ownBlock = some j) (hc1 : w1.heap[c]? = some (.cells #[.map (some M), v, .int .i64 lim] 92 (0, 0))) :
    ∃ vo, (w1.setCell ⟨c, 1, none⟩ v1).heap[w.heap.size + 2]? = some (.cells #[vo] 49 (0, 0)) ∧ IRow (w1.setCell ⟨c, 1, none⟩ v1) vo (outs l p) ∧ (∀ j, vo.ownBlock = some j → w.heap.size ≤ j) ∧
      CacheAt (w1.setCell ⟨c, 1, none⟩ v1) c M v1 lim (rest l p) ∧ Chg (foot c M v) w (w1.setCell ⟨c, 1, none⟩ v1) := by
  obtain ⟨vo, q1, q2, q3, q4, q5⟩ := hJ
  have hM := h.lt M (.inr (.inl rfl))
  have hc := h.lt c (.inl rfl)
  have hS : Chg (fun j => j = c) w1 (w1.setCell ⟨c, 1, none⟩ v1) := Chg.set (p := ⟨c, 1, none⟩) (F := fun j => j = c) (Chg.refl _ w1) (fun _ => rfl) _
  have hlen : (l.map Prod.fst).length = l.length := List.length_map _
  rw [hlen, List.take_length] at q2 q3
  rw [List.drop_length, List.append_nil] at q3
  have hke : (l.map Prod.fst).filter (fun x => !decide (x.p = p)) = (rest l p).map Prod.fst := by
    unfold rest
    rw [List.filter_map]
    rfl
  rw [hke] at hr
  refine ⟨vo, hS.blk q1 (fun e => by omega), q2.kept hS (fun j hj e => by have := q5 j hj; omega), fun j hj => by have := q5 j hj; omega, ?_, ?_⟩
  · refine ⟨?_, q3.chg hS (fun e => h.cM e.symm), hr.kept hS (fun j hj e => (h.own j (ho j hj)).1 e), h.good.sub (rest_sub l p), h.cM, fun j hj => h.own j (ho j hj), Nat.le_trans (rest_sub l p).length_le h.len⟩
    have := blk_set hc1 1 v1
    simpa using this
  · refine ⟨hS.os.trans (q4.os.trans hC0.os), hS.tape.trans (q4.tape.trans hC0.tape), hS.output.trans (q4.output.trans hC0.output), Nat.le_trans hC0.size (Nat.le_trans q4.size hS.size), fun k hk hf => ?_⟩
    rw [hS.block k (Nat.lt_of_lt_of_le hk (Nat.le_trans hC0.size q4.size)) (fun e => hf (.inl e)), q4.block k (Nat.lt_of_lt_of_le hk hC0.size) (fun e => ?_), hC0.block k hk (fun h => h)]
    rcases e with e | e | e
    · omega
    · exact hf (.inr (.inl e))
    · exact hf (.inr (.inr e))

set_option maxHeartbeats 4000000 in
theorem drop_calls (c M lim : Nat) (v : Value) (l : List Ent) (p : Int) (w : World) (h : CacheAt w c M v lim l) :
    Calls Try.prog 23 #[.pointer (some ⟨c, 0, none⟩), .int .i64 p] w fun e w' => ∃ vo, e = .returned vo ∧ IRow w' vo (outs l p) ∧ (∀ j, vo.ownBlock = some j → w.heap.size ≤ j) ∧
      ∃ v', CacheAt w' c M v' lim (rest l p) ∧ Chg (foot c M v) w w' ∧ (∀ j, v'.ownBlock = some j → v.ownBlock = some j) := by
  obtain ⟨w0, hw0⟩ : ∃ w0, w0 = ((w.alloc (.cells #[.pointer (some ⟨c, 0, none⟩)] 29)).alloc (.cells #[.int .i64 p] 3)).alloc (.cells #[.slice none 0 0] 49) := ⟨_, rfl⟩
  have hC0 : Chg (fun _ => False) w w0 := by rw [hw0]; exact (((Chg.refl _ _).alloc _).alloc _).alloc _
  have h0 := h.chg hC0 (fun _ _ h => h)
  have hsz0 : w0.heap.size = w.heap.size + 3 := by rw [hw0]; simp
  have hbc : w0.heap[w.heap.size]? = some (.cells #[.pointer (some ⟨c, 0, none⟩)] 29 (0, 0)) := by rw [hw0]; exact blk_alloc (blk_alloc (blk_new _ _) _) _
  have hbp : w0.heap[w.heap.size + 1]? = some (.cells #[.int .i64 p] 3 (0, 0)) := by
    rw [hw0]
    have := blk_alloc (blk_new (w.alloc (.cells #[.pointer (some ⟨c, 0, none⟩)] 29)) (.cells #[.int .i64 p] 3)) (.cells #[.slice none 0 0] 49)
    simpa using this
  have hbo : w0.heap[w.heap.size + 2]? = some (.cells #[.slice none 0 0] 49 (0, 0)) := by
    rw [hw0]
    have := blk_new ((w.alloc (.cells #[.pointer (some ⟨c, 0, none⟩)] 29)).alloc (.cells #[.int .i64 p] 3)) (.cells #[.slice none 0 0] 49)
    simpa using this
  have hdN : ∀ n, Chg (fun _ => False) w0 (w0.drewN n) := fun n => (Chg.refl (fun _ => False) w0).drewN n
  have HA : ∀ n, Asks 51 #[.pointer (some ⟨w.heap.size + 1, 0, none⟩), .pointer (some ⟨w.heap.size + 2, 0, none⟩), .pointer (some ⟨w.heap.size, 0, none⟩)] v (fun k => decide (k.p = p)) (DropJ (w0.drewN n) l p (w.heap.size + 2) M v) (l.map Prod.fst) := fun n =>
    drop_asks h p (h0.chg (hdN n) (fun _ _ h => h)) ((hdN n).blk hbp (fun h => h)) ((hdN n).blk hbc (fun h => h)) (by omega) (by omega) (by omega) (by omega) (by omega) (by omega) (by show w.heap.size + 2 < w0.heap.size; omega)
  have hMl := h.lt M (.inr (.inl rfl))
  have hcl := h.lt c (.inl rfl)
  have hvl : ∀ j, v.ownBlock = some j → j < w.heap.size := fun j hj => h.lt j (.inr (.inr hj))
  have HD := Lib.hid (fun n => delete_calls 51 #[.pointer (some ⟨w.heap.size + 1, 0, none⟩), .pointer (some ⟨w.heap.size + 2, 0, none⟩), .pointer (some ⟨w.heap.size, 0, none⟩)] (l.map Prod.fst) v (w0.drewN n) _ _ enterDrop
    (by rw [List.length_map]; have := h.len; omega) (h0.row.kept (hdN n) (fun _ _ h => h)) (HA n)
    ⟨.slice none 0 0, (hdN n).blk hbo (fun h => h), RowAt.nil _ _ _, by simpa [rest] using h0.map.chg (hdN n) (fun h => h), Chg.refl _ _, fun j hj => by simp [Value.ownBlock] at hj⟩
    (fun pre W W' hJ hC => by
      obtain ⟨vo, q1, q2, q3, q4, q5⟩ := hJ
      have hlo : ∀ j, vo.ownBlock = some j → ¬ v.ownBlock = some j := fun j hj e => by
        have := q5 j hj
        have e2 : (w0.drewN n).heap.size = w0.heap.size := rfl
        have := hvl j e
        omega
      exact ⟨vo, hC.blk q1 (fun e => by have := hvl _ e; omega), q2.kept hC hlo, q3.chg hC (fun e => (h.own M e).2 rfl), q4.andThen hC (fun j _ e => .inr (.inr e)), q5⟩))
  have HH := Lib.hid h
  have HC0 := Lib.hid hC0
  have H0 := Lib.hid h0
  have HVL := Lib.hid hvl
  have c1 : w0.cell? ⟨c, 1, none⟩ = some v := cell_of h0.blk 1
  have a0 : w0.cell? ⟨w.heap.size, 0, none⟩ = some (.pointer (some ⟨c, 0, none⟩)) := cell_of hbc 0
  obtain ⟨adv, capv, hv, hnv, hmv⟩ := h0.row.form
  rw [List.length_map] at hv hnv
  have HSZ := Lib.hid hsz0
  have HBC := Lib.hid hbc
  clear h h0 hC0 hbc hbp hbo HA hdN hvl hsz0
  have HW := Lib.hid hw0
  rw [hw0] at c1 a0
  go_enter Try.func23, Try.ntmps23
  go_wp2_with fail
  rw [← hw0]
  rw [← hw0] at c1 a0
  clear hw0
  subst hv
  have a0d : w0.drew.cell? ⟨w.heap.size, 0, none⟩ = some (.pointer (some ⟨c, 0, none⟩)) := a0
  have c1d : w0.drew.cell? ⟨c, 1, none⟩ = some (.slice adv l.length capv) := c1
  have HD1 : Hid (Calls Try.prog 50 #[.slice adv l.length capv, .func (.func 51) #[] #[.pointer (some ⟨w.heap.size + 1, 0, none⟩), .pointer (some ⟨w.heap.size + 1 + 1, 0, none⟩), .pointer (some ⟨w.heap.size, 0, none⟩)]] w0.drew _) := HD.out 1
  go_region_with (go_at_call 50; refine HD1.out.mono ?_; rintro e w1 ⟨v1, rfl, hr1, hJ1, ho1, hs1⟩; obtain ⟨hd1, hd2⟩ := drop_after HH.out (H0.out.chg ((Chg.refl (fun _ => False) w0).drewN 1) (fun _ _ h => h)) HBC.out HSZ.out hr1 hJ1; obtain ⟨ad1, cap1, rfl, hn1, hm1⟩ := hr1.form; have z0 : w1.cell? ⟨w.heap.size, 0, none⟩ = some (.pointer (some ⟨c, 0, none⟩)) := cell_of hd1 0; have z1 : w1.cell? ⟨c, 1, none⟩ = some (.slice adv l.length capv) := cell_of hd2 1; have z2 : w1.frozen? ⟨c, 1, none⟩ = false := free_of hd2 1)
  all_goals
    obtain ⟨vo, x1, x2, x3, x4, x5⟩ := drop_end HH.out ((HC0.out).drewN 1) (H0.out.chg ((Chg.refl (fun _ => False) w0).drewN 1) (fun _ _ h => h)) HSZ.out hr1 hJ1 ho1 hd2
    have y0 : (w1.setCell ⟨c, 1, none⟩ (.slice ad1 (List.filter (fun x => !decide (x.p = p)) (List.map Prod.fst l)).length cap1)).cell? ⟨w.heap.size + 1 + 1, 0, none⟩ = some vo := cell_of x1 0
    have y1 : w1.cell? ⟨w.heap.size + 1 + 1, 0, none⟩ = some vo := by
      rw [← y0]
      exact (World.cell?_of_block (a := ⟨w.heap.size + 1 + 1, 0, none⟩) (Below.heap_setCell w1 _ _ _ (by show w.heap.size + 1 + 1 ≠ c; omega))).symm
    obtain ⟨vv, hvv⟩ : ∃ vv, vv = vo := ⟨_, rfl⟩
    go_wp2_with fail
    go_ret
    exact ⟨_, rfl, x2, x3, _, x4, x5, ho1⟩
end Go.Proofs.Ytkidnmjaioejaaa.Cx
