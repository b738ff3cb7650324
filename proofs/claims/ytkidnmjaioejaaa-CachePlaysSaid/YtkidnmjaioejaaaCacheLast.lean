/- The cache's closure that compares a key with the one that it has, and last, walked. Conditions: the cache's block is known, and its row of keys. -/
import Derived.Test.YtkidnmjaioejaaaCacheMap
import Derived.Laws.StructEq
import Derived.ChangeKeysEq
namespace Go.Proofs.Ytkidnmjaioejaaa.Cx
set_option linter.unusedVariables false
set_option linter.unusedSimpArgs false
open Go.RowKit Go.Proofs.Ytkidnmjaioejaaa.Mem Go.Maps

theorem info4 : (Try.prog.info? 3).map (fun i => (i.zero, i.size, i.bytes)) = some (some (.int .i64 0), 1, 8) := by kernel_rfl
theorem eqArr (w : World) (x1 x2 x3 x4 y1 y2 y3 y4 : Int) : (Op.equalIn 9999 32 (.agg #[.int .i64 x1, .int .i64 x2, .int .i64 x3, .int .i64 x4]) (.agg #[.int .i64 y1, .int .i64 y2, .int .i64 y3, .int .i64 y4])).run Try.prog w =
    .ok (decide (x1 = y1) && (decide (x2 = y2) && (decide (x3 = y3) && decide (x4 = y4)))) w := by
  obtain ⟨i, hi, _⟩ := info_parts info4
  rw [show (9999 : Nat) = 9998 + 1 from rfl, run_equalIn_array w 9998 _ _ Try.underlying32 hi, show List.range 4 = [0, 1, 2, 3] from rfl, cells3]
  simp only [Op.eqItems]
  go_simp
  by_cases h1 : x1 = y1 <;> by_cases h2 : x2 = y2 <;> by_cases h3 : x3 = y3 <;> by_cases h4 : x4 = y4 <;> simp [h1, h2, h3, h4]
theorem eqKey (w : World) (x y : Key) : (Op.equalIn 10000 34 (kv x) (kv y)).run Try.prog w = .ok (decide (x = y)) w := by
  have hS : Try.prog.underlying 34 = some (.struct (Try.prog.fieldsOf 34)) := by kernel_rfl
  have hp : Try.prog.stoodInHeld 34 = false := by kernel_rfl
  obtain ⟨x0, x1, x2, x3, x4⟩ := x
  obtain ⟨y0, y1, y2, y3, y4⟩ := y
  unfold kv
  rw [show (10000 : Nat) = 9999 + 1 from rfl, run_equalIn_agg w 9999 34 _ _ hS hp]
  simp only [Program.fieldsOf, Try.underlying34]
  have h := eqArr w x1 x2 x3 x4 y1 y2 y3 y4
  go_simp
  clear h hS hp
  by_cases h0 : x0 = y0 <;> by_cases h1 : x1 = y1 <;> by_cases h2 : x2 = y2 <;> by_cases h3 : x3 = y3 <;> by_cases h4 : x4 = y4 <;> simp [h0, h1, h2, h3, h4]

theorem enter60 (args : Array Value) (w : World) : (callFunc 60 args).run Try.prog w = .ok (.enter 60 args) w := by
  have h1 : (Try.f60.name == "runtime.NumGoroutine") = false := by kernel_rfl
  have h2 : Try.f60.body.isNone = false := by kernel_rfl
  have h3 : ¬ Try.f60.name = "runtime.NumGoroutine" := by simpa using h1
  have h4 : ¬ Try.f60.body = none := fun h => by rw [h] at h2; cases h2
  simp [callFunc, Try.func60, h3, h4]

theorem same_calls (x k : Key) (B : Nat) (w : World) (hb : w.heap[B]? = some (.cells #[.int .i64 k.p, .int .i64 k.a, .int .i64 k.b, .int .i64 k.c, .int .i64 k.d] 34 (0, 0))) :
    Calls Try.prog 60 #[kv x, .pointer (some ⟨B, 0, none⟩)] w fun e w' => e = .returned (.bool (decide (x = k))) ∧ Below w.heap.size w w' := by
  have hlt := lt_of_block hb
  have E := fun w => eqKey w x k
  have D : ∃ d, decide (x = k) = d := ⟨_, rfl⟩
  obtain ⟨d, hd⟩ := D
  simp only [hd] at E ⊢
  clear hd
  obtain ⟨x0, x1, x2, x3, x4⟩ := x
  obtain ⟨k0, k1, k2, k3, k4⟩ := k
  simp only [kv] at E hb ⊢
  have c0 : w.cell? ⟨B, 0, none⟩ = _ := cell_of hb 0
  have c1 : w.cell? ⟨B, 1, none⟩ = _ := cell_of hb 1
  have c2 : w.cell? ⟨B, 2, none⟩ = _ := cell_of hb 2
  have c3 : w.cell? ⟨B, 3, none⟩ = _ := cell_of hb 3
  have c4 : w.cell? ⟨B, 4, none⟩ = _ := cell_of hb 4
  simp only [List.getElem?_toArray, List.getElem?_cons_zero, List.getElem?_cons_succ] at c0 c1 c2 c3 c4
  clear hb
  go_enter Try.func60, Try.ntmps60
  go_wp2_with fail
  go_ret
  exact ⟨rfl, (Below.refl _ _).alloc (Nat.le_refl _) _⟩

theorem same_asks (v : Value) (k : Key) (B : Nat) (W0 : World) (l : List Key) (hb : W0.heap[B]? = some (.cells #[.int .i64 k.p, .int .i64 k.a, .int .i64 k.b, .int .i64 k.c, .int .i64 k.d] 34 (0, 0)))
    (hv : ∀ j, v.ownBlock = some j → j < W0.heap.size ∧ j ≠ B) :
    Asks 60 #[.pointer (some ⟨B, 0, none⟩)] v (fun x => decide (x = k)) (fun _ W => Chg (fun j => v.ownBlock = some j) W0 W) l := by
  intro pre x Wa W hJ hC hx
  have hb2 : W.heap[B]? = _ := hC.blk (hJ.blk hb (fun e => (hv B e).2 rfl)) (fun h => h)
  refine (same_calls x k B W hb2).mono ?_
  rintro e w' ⟨rfl, hB⟩
  have hC2 : Chg (fun _ => False) Wa w' := hC.callee hB
  exact ⟨rfl, hJ.andThen hC2 (fun _ _ h => h.elim), hC2.keeps (fun j hj => Nat.lt_of_lt_of_le (hv j hj).1 hJ.size) (fun _ _ h => h), hB.size, fun j _ hj => hB.block j hj⟩

theorem last_end {w w1 W2 w3 : World} {c gg off cap : Nat} {m0 v v1 : Value} {lim : Int} {ks1 : List Key} {k : Key} {o : Obj} (h1 : Chg (fun j => v.ownBlock = some j) w w1) (hne : ∀ j, v.ownBlock = some j → j ≠ c)
    (ho : ∀ j, v1.ownBlock = some j → v.ownBlock = some j) (hcl : c < w.heap.size) (h2 : Chg (fun j => j = c) w1 W2) (hc3 : w3.heap[c]? = some (.cells #[m0, v1, .int .i64 lim] 92 (0, 0)))
    (hrow : RowAt w3 34 5 (.slice (some ⟨gg, off, none⟩) (ks1.length + 1) cap) (ks1.length + 1) (ks1.flatMap kcells ++ kcells k)) (hgrow : (W2.alloc o).drew.grownBy w3 v1.ownBlock) (hat : v1.ownBlock = some gg ∨ w1.heap.size ≤ gg) :
    ∃ v', (w3.setCell ⟨c, 1, none⟩ (.slice (some ⟨gg, off, none⟩) (ks1.length + 1) cap)).heap[c]? = some (.cells #[m0, v', .int .i64 lim] 92 (0, 0)) ∧
      KRow (w3.setCell ⟨c, 1, none⟩ (.slice (some ⟨gg, off, none⟩) (ks1.length + 1) cap)) v' (ks1 ++ [k]) ∧
      Chg (fun j => j = c ∨ v.ownBlock = some j) w (w3.setCell ⟨c, 1, none⟩ (.slice (some ⟨gg, off, none⟩) (ks1.length + 1) cap)) ∧ (∀ j, v'.ownBlock = some j → v.ownBlock = some j ∨ w.heap.size ≤ j) := by
  have hgc : gg ≠ c := by
    rcases hat with h | h
    · exact hne gg (ho gg h)
    · have := h1.size; omega
  refine ⟨.slice (some ⟨gg, off, none⟩) (ks1.length + 1) cap, ?_, ?_, ?_, ?_⟩
  · have := blk_set hc3 1 (.slice (some ⟨gg, off, none⟩) (ks1.length + 1) cap)
    simpa using this
  · unfold KRow
    rw [List.length_append, List.flatMap_append]
    have e : [k].flatMap kcells = kcells k := by simp
    rw [e]
    refine RowAt.kept hrow (Chg.set (p := ⟨c, 1, none⟩) (F := fun j => j = c) (Chg.refl _ w3) (fun _ => rfl) _) (fun j hj e => ?_)
    have : gg = j := by simpa [Value.ownBlock] using hj
    omega
  · refine Chg.set (p := ⟨c, 1, none⟩) ?_ (fun _ => .inl rfl) _
    have hA : Chg (fun j => j = c ∨ v.ownBlock = some j) w W2 := (h1.mono (fun _ _ h => .inr h)).andThen h2 (fun _ _ h => .inl h)
    exact ((hA.alloc o).drewN 1).grown hgrow (fun j _ e => .inr (ho j e))
  · intro j hj
    have : gg = j := by simpa [Value.ownBlock] using hj
    subst this
    rcases hat with h | h
    · exact .inl (ho _ h)
    · right; have := h1.size; omega

set_option maxHeartbeats 2000000 in
theorem last_calls (c : Nat) (m0 v : Value) (lim : Int) (ks : List Key) (k : Key) (w : World) (hlen : ks.length ≤ 100)
    (hc : w.heap[c]? = some (.cells #[m0, v, .int .i64 lim] 92 (0, 0))) (hr : KRow w v ks) (hne : ∀ j, v.ownBlock = some j → j ≠ c) :
    Calls Try.prog 47 #[.pointer (some ⟨c, 0, none⟩), kv k] w fun e w' => (∃ u, e = .returned u) ∧
      ∃ v', w'.heap[c]? = some (.cells #[m0, v', .int .i64 lim] 92 (0, 0)) ∧ KRow w' v' (ks.filter (fun x => !decide (x = k)) ++ [k]) ∧
        Chg (fun j => j = c ∨ v.ownBlock = some j) w w' ∧ (∀ j, v'.ownBlock = some j → v.ownBlock = some j ∨ w.heap.size ≤ j) := by
  have hcl := lt_of_block hc
  obtain ⟨w0, hw0⟩ : ∃ w0, w0 = w.alloc (.cells #[.int .i64 k.p, .int .i64 k.a, .int .i64 k.b, .int .i64 k.c, .int .i64 k.d] 34) := ⟨_, rfl⟩
  have hB : w0.heap[w.heap.size]? = some (.cells #[.int .i64 k.p, .int .i64 k.a, .int .i64 k.b, .int .i64 k.c, .int .i64 k.d] 34 (0, 0)) := by rw [hw0]; exact blk_new _ _
  have hC0 : Chg (fun _ => False) w w0 := by rw [hw0]; exact (Chg.refl _ _).alloc _
  have hvl := hr.lt
  have hr0 := hr.kept hC0 (fun _ _ h => h)
  have HA := same_asks v k w.heap.size w0 ks hB (fun j hj => ⟨Nat.lt_of_lt_of_le (hvl j hj) hC0.size, by have := hvl j hj; omega⟩)
  have HD := Lib.hid (delete_calls 60 #[.pointer (some ⟨w.heap.size, 0, none⟩)] ks v w0 _ _ enter60 (by omega) hr0 HA (Chg.refl _ _) (fun pre W W' h h' => h.trans h'))
  have hl1 : (ks.filter fun x => !decide (x = k)).length ≤ 100 := Nat.le_trans (List.length_filter_le _ _) hlen
  generalize (ks.filter fun x => !decide (x = k)) = ks1 at HD hl1 ⊢
  have HC := Lib.hid (hC0.blk hc (fun h => h))
  have HC0 := Lib.hid hC0
  have HB := Lib.hid hB
  have HW := Lib.hid hw0
  have c1 : w0.cell? ⟨c, 1, none⟩ = some v := cell_of HC.out 1
  have f1 : w0.frozen? ⟨c, 1, none⟩ = false := free_of HC.out 1
  have HNE := Lib.hid hne
  have HVL := Lib.hid hvl
  rw [hw0] at c1 f1
  clear hc hr hr0 HA hC0 hB hvl hne
  obtain ⟨k0, k1, k2, k3, k4⟩ := k
  simp only [kv]
  go_enter Try.func47, Try.ntmps47
  go_wp2_with fail
  rw [← hw0]
  refine HD.out.mono ?_
  rintro e w1 ⟨v1, rfl, hr1, hC1, ho1, hs1⟩
  have HR1 := Lib.hid hr1
  have HC1 : Hid (Chg (fun j => v.ownBlock = some j) w w1) := (HC0.out.mono (fun _ _ h => h.elim)).trans hC1
  have hcw1 : w1.heap[c]? = some (.cells #[m0, v, .int .i64 lim] 92 (0, 0)) := hC1.blk HC.out (fun h => HNE.out c h rfl)
  have hBw1 : w1.heap[w.heap.size]? = _ := hC1.blk HB.out (fun h => by have := HVL.out _ h; omega)
  obtain ⟨ad1, cap1, hv1, hn1, hm1⟩ := hr1.form
  have HO1 := Lib.hid ho1
  have d1 : w1.cell? ⟨c, 1, none⟩ = some v := cell_of hcw1 1
  have g1 : w1.frozen? ⟨c, 1, none⟩ = false := free_of hcw1 1
  have b0 : w1.cell? ⟨w.heap.size, 0, none⟩ = _ := cell_of hBw1 0
  have b1 : w1.cell? ⟨w.heap.size, 1, none⟩ = _ := cell_of hBw1 1
  have b2 : w1.cell? ⟨w.heap.size, 2, none⟩ = _ := cell_of hBw1 2
  have b3 : w1.cell? ⟨w.heap.size, 3, none⟩ = _ := cell_of hBw1 3
  have b4 : w1.cell? ⟨w.heap.size, 4, none⟩ = _ := cell_of hBw1 4
  simp only [List.getElem?_toArray, List.getElem?_cons_zero, List.getElem?_cons_succ] at b0 b1 b2 b3 b4
  have HCW1 := Lib.hid hcw1
  have HBW1 := Lib.hid hBw1
  clear hr1 hC1 hcw1 hBw1 ho1 c1 f1 hw0
  subst hv1
  obtain ⟨iK, hk0, hk1, hk2, hk3⟩ := info_parts infoK
  have HNC : Hid (∀ j, (Value.slice ad1 ks1.length cap1).ownBlock = some j → j ≠ c ∧ j < w1.heap.size) := fun j hj => ⟨HNE.out j (HO1.out j hj), HR1.out.lt j hj⟩
  have HW2 : Hid (Chg (fun j => j = c) w1 (w1.setCell ⟨c, 1, none⟩ (.slice ad1 ks1.length cap1))) := Lib.hid (Chg.set (p := ⟨c, 1, none⟩) (F := fun j => j = c) (Chg.refl _ w1) (fun _ => rfl) _)
  have HCW2 : Hid ((w1.setCell ⟨c, 1, none⟩ (.slice ad1 ks1.length cap1)).heap[c]? = some (.cells #[m0, .slice ad1 ks1.length cap1, .int .i64 lim] 92 (0, 0))) := by
    have := blk_set HCW1.out 1 (.slice ad1 ks1.length cap1)
    exact Lib.hid (by simpa using this)
  have hcl1 : c < w1.heap.size := lt_of_block HCW1.out
  go_wp2_with fail
  go_region_law ((refine step_append_row _ (by rfl) _ _ _ (by rfl) 34 iK _ 5 40 Try.underlying90 hk0 hk1 hk2 hk3 rfl (by omega) (.slice ad1 ks1.length cap1) ks1.length (ks1.flatMap kcells) (by rfl) (by exact RowAt.kept HR1.out ((HW2.out.alloc _).drewN 1) (fun j hj e => (HNC.out j hj).1 e)) ⟨w1.heap.size, 0, none⟩ 1 1 (kcells ⟨k0, k1, k2, k3, k4⟩) (by rfl) (by rfl) (by exact World.news_of_block (new_ad _ _ _ (by simp [World.setCell]))) (by simp [Value.oneCell', kcells]) (by omega) (by unfold maxLen; omega) (by omega) _ (by rfl) ?_; intro gg off cap w3 hrow3 hgrow3 hat3 hlt3; have hc3 := blk_grown hgrow3 (blk_ad HCW2.out _) (fun e => (HNC.out c e.symm).1 rfl); have q2 : w3.cell? ⟨c, 1, none⟩ = some (.slice ad1 ks1.length cap1) := cell_of hc3 1; have q3 : w3.frozen? ⟨c, 1, none⟩ = false := free_of hc3 1))
  all_goals
    go_wp2_with fail
    go_end0
    exact ⟨⟨_, rfl⟩, last_end HC1.out HNE.out HO1.out hcl HW2.out hc3 hrow3 hgrow3 (hat3.imp id (fun h => by rw [h]; exact Nat.le_of_lt (by simp [World.setCell])))⟩
end Go.Proofs.Ytkidnmjaioejaaa.Cx
