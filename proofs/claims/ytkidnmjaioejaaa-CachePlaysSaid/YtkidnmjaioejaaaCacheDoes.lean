/- The statement's does, at a Put, walked. Condition: the cache's block is known, and the document's row. -/
import Derived.Test.YtkidnmjaioejaaaCacheRef
namespace Go.Proofs.Ytkidnmjaioejaaa.Cx
set_option linter.unusedVariables false
set_option linter.unusedSimpArgs false
open Go.RowKit Go.Proofs.Ytkidnmjaioejaaa.Mem Go.Maps

/-- The cache and the document's row beside it. -/
structure Pair (w : World) (c M : Nat) (v lv : Value) (lim : Nat) (l : List Ent) : Prop where
  ca : CacheAt w c M v lim l
  row : ERow w lv l
  apart : ∀ j, lv.ownBlock = some j → ¬ foot c M v j
/-- What a step may turn, and where its rows lie behind it. -/
structure Went (w w' : World) (c M : Nat) (v lv v' lv' : Value) : Prop where
  chg : Chg (fun j => foot c M v j ∨ lv.ownBlock = some j) w w'
  cache : ∀ j, v'.ownBlock = some j → v.ownBlock = some j ∨ w.heap.size ≤ j
  row : ∀ j, lv'.ownBlock = some j → lv.ownBlock = some j ∨ w.heap.size ≤ j
abbrev actBox (kind x : Int) (k : Key) : Obj := .cells #[.int .i64 kind, .int .i64 x, .int .i64 k.p, .int .i64 k.a, .int .i64 k.b, .int .i64 k.c, .int .i64 k.d] 45
def actV (kind x : Int) (k : Key) : Value := .agg #[.int .i64 kind, .int .i64 x, .int .i64 k.p, .int .i64 k.a, .int .i64 k.b, .int .i64 k.c, .int .i64 k.d]

theorem cell_al {w : World} {p : Addr} {u : Value} (o : Obj) (h : w.cell? p = some u) : (w.alloc o).cell? p = some u :=
  (World.cell?_of_block (w := w) (w' := w.alloc o) (Below.heap_alloc _ _ _ (World.block_lt_of_cell? w _ h))).trans h
/-- The document's row without a key, in a world that has new blocks alone besides those of w1; a block of the caller's own is as it was. -/
theorem without_here {w1 : World} {lv : Value} {l : List Ent} {k : Key} {A : Nat} {o : Obj} (hr : ERow w1 lv l) (hl : l.length ≤ 100) (hA : w1.heap[A]? = some o) (W : World) (hW : Chg (fun _ => False) w1 W) :
    Calls Try.prog 48 #[lv, kv k] W fun e w' => ∃ v', e = .returned v' ∧ ERow w' v' (without l k) ∧ (∀ j, v'.ownBlock = some j → w1.heap.size ≤ j) ∧ Chg (fun _ => False) w1 w' ∧ w'.heap[A]? = some o ∧
      (∀ o2, W.heap[w1.heap.size]? = some o2 → w'.heap[w1.heap.size]? = some o2 ∧ ∀ j, v'.ownBlock = some j → j ≠ w1.heap.size) := by
  refine (without_calls lv l k W (hr.kept hW (fun _ _ h => h)) hl).mono ?_
  rintro e w' ⟨v', rfl, h1, h2, h3⟩
  have hC := hW.callee h3
  refine ⟨v', rfl, h1, fun j hj => Nat.le_trans hW.size (h2 j hj), hC, hC.blk hA (fun h => h), fun o2 ho2 => ⟨?_, fun j hj => ?_⟩⟩
  · rw [h3.block _ (lt_of_block ho2)]; exact ho2
  · have := h2 j hj
    have := lt_of_block ho2
    omega

theorem act_cells {w : World} {A : Nat} {kind x : Int} {k : Key} (h : w.heap[A]? = some (actBox kind x k)) : w.cell? ⟨A, 1, none⟩ = some (.int .i64 x) ∧ w.cell? ⟨A, 2, none⟩ = some (.int .i64 k.p) ∧ w.cell? ⟨A, 3, none⟩ = some (.int .i64 k.a) ∧
    w.cell? ⟨A, 4, none⟩ = some (.int .i64 k.b) ∧ w.cell? ⟨A, 5, none⟩ = some (.int .i64 k.c) ∧ w.cell? ⟨A, 6, none⟩ = some (.int .i64 k.d) :=
  ⟨cell_of h 1, cell_of h 2, cell_of h 3, cell_of h 4, cell_of h 5, cell_of h 6⟩

/-- Behind the append: the cache at w1, the document's row at w4. -/
theorem does_end {w w0 w1 w4 : World} {c M lim gg off cap n : Nat} {v lv v1 : Value} {l l1 L : List Ent} (h : Pair w c M v lv lim l) (hC0 : Chg (fun _ => False) w w0) (hA : CacheAt w1 c M v1 lim l1) (hC1 : Chg (foot c M v) w0 w1)
    (ho : ∀ j, v1.ownBlock = some j → v.ownBlock = some j ∨ w0.heap.size ≤ j) (hC4 : Chg (fun j => w1.heap.size ≤ j) w1 w4) (hg : w1.heap.size ≤ gg) (hr : RowAt w4 47 6 (.slice (some ⟨gg, off, none⟩) n cap) n (L.flatMap ecells)) (hn : L.length = n) :
    (L = l1 → Pair w4 c M v1 (.slice (some ⟨gg, off, none⟩) n cap) lim l1 ∧ Went w w4 c M v lv v1 (.slice (some ⟨gg, off, none⟩) n cap)) ∧
    (1 ≤ n → L.tail = l1 → Pair w4 c M v1 (.slice (some ⟨gg, off + 6, none⟩) (n - 1) (cap - 1)) lim l1 ∧ Went w w4 c M v lv v1 (.slice (some ⟨gg, off + 6, none⟩) (n - 1) (cap - 1))) := by
  have hs0 := hC0.size
  have hs1 := hC1.size
  have hA4 : CacheAt w4 c M v1 lim l1 := hA.chg hC4 (fun j hj e => by have := hA.lt j hj; omega)
  have hap : ∀ j, gg = j → ¬ foot c M v1 j := fun j e hf => by have := hA.lt j hf; omega
  have hW : Chg (fun j => foot c M v j ∨ lv.ownBlock = some j) w w4 := ((hC0.mono (fun _ _ h => h.elim)).andThen hC1 (fun j _ e => .inl e)).andThen hC4 (fun j hj e => absurd hj (by omega))
  have ho' : ∀ j, v1.ownBlock = some j → v.ownBlock = some j ∨ w.heap.size ≤ j := fun j hj => (ho j hj).imp id (fun h => by omega)
  refine ⟨fun e => ?_, fun h1 e => ?_⟩
  · subst e
    refine ⟨⟨hA4, by unfold ERow; rw [hn]; exact hr, fun j hj => hap j (by simpa [Value.ownBlock] using hj)⟩, ⟨hW, ho', fun j hj => .inr ?_⟩⟩
    have : gg = j := by simpa [Value.ownBlock] using hj
    omega
  · subst e
    have h2 := hr.drop 1 h1
    have e1 : (L.flatMap ecells).drop (1 * 6) = L.tail.flatMap ecells := by
      cases L with
      | nil => simp at hn; omega
      | cons e L => rfl
    rw [e1] at h2
    refine ⟨⟨hA4, ?_, fun j hj => hap j (by simpa [Value.ownBlock] using hj)⟩, ⟨hW, ho', fun j hj => .inr ?_⟩⟩
    · unfold ERow
      rw [List.length_tail, hn]
      exact h2
    · have : gg = j := by simpa [Value.ownBlock] using hj
      omega

set_option maxRecDepth 100000 in
set_option maxHeartbeats 4000000 in
theorem does_put (n : Int) (x : Int) (k : Key) (c M lim : Nat) (v lv : Value) (l : List Ent) (w : World) (h : Pair w c M v lv lim l) (hk : k.ok) (hx : fits x) (hn : limit n = lim) (hl : l.length ≤ lim) :
    Calls Try.prog 22 #[.pointer (some ⟨c, 0, none⟩), lv, .int .i64 n, actV 0 x k] w fun e w' => ∃ lv' v', e = .returned (.tuple #[.bool true, lv']) ∧ Pair w' c M v' lv' lim (cput lim l k x) ∧ Went w w' c M v lv v' lv' := by
  obtain ⟨hL1, hL2⟩ := limit_le n
  have HL := Lib.hid (fun w => limit_calls n w)
  rw [hn] at hL1 hL2 HL
  obtain ⟨w0, hw0⟩ : ∃ w0, w0 = w.alloc (actBox 0 x k) := ⟨_, rfl⟩
  have hC0 : Chg (fun _ => False) w w0 := by rw [hw0]; exact (Chg.refl _ _).alloc _
  have hB : w0.heap[w.heap.size]? = some (actBox 0 x k) := by rw [hw0]; exact blk_new _ _
  have h0 := h.ca.chg hC0 (fun _ _ h => h)
  have HP := Lib.hid (put_calls c M lim v l k x w0 h0 hk hx hl hL2 hL1)
  have HH := Lib.hid h
  have HC0 := Lib.hid hC0
  have HB := Lib.hid hB
  have HW := Lib.hid hw0
  have HK := Lib.hid hk
  have hll : l.length ≤ 100 := by omega
  have b0 : w0.cell? ⟨w.heap.size, 0, none⟩ = _ := cell_of hB 0
  have b1 : w0.cell? ⟨w.heap.size, 1, none⟩ = _ := cell_of hB 1
  have b2 : w0.cell? ⟨w.heap.size, 2, none⟩ = _ := cell_of hB 2
  have b3 : w0.cell? ⟨w.heap.size, 3, none⟩ = _ := cell_of hB 3
  have b4 : w0.cell? ⟨w.heap.size, 4, none⟩ = _ := cell_of hB 4
  have b5 : w0.cell? ⟨w.heap.size, 5, none⟩ = _ := cell_of hB 5
  have b6 : w0.cell? ⟨w.heap.size, 6, none⟩ = _ := cell_of hB 6
  simp only [List.getElem?_toArray, List.getElem?_cons_zero, List.getElem?_cons_succ] at b0 b1 b2 b3 b4 b5 b6
  obtain ⟨adl, capl, hlv, hnl, hml⟩ := h.row.form
  clear h hC0 hB h0 hn
  rw [hw0] at b0 b1 b2 b3 b4 b5 b6 HP
  simp only [actV]
  go_enter Try.func22, Try.ntmps22
  go_wp2_with fail
  refine HP.out.mono ?_
  rintro e w1 ⟨⟨u, rfl⟩, v1, hA1, hC1, ho1⟩
  rw [← hw0] at hC1 ho1
  have HA1 := Lib.hid hA1
  have HC1 := Lib.hid hC1
  have HO1 := Lib.hid ho1
  have hnf : ∀ j, foot c M v j → j < w.heap.size := fun j hj => HH.out.ca.lt j hj
  have hbox1 : w1.heap[w.heap.size]? = some (actBox 0 x k) := hC1.blk HB.out (fun e => by have := hnf _ e; omega)
  have hrow1 : ERow w1 lv l := (HH.out.row.kept HC0.out (fun _ _ h => h)).kept hC1 (fun j hj => HH.out.apart j hj)
  have HRW := Lib.hid (fun W hW => without_here (w1 := w1) (k := k) hrow1 hll hbox1 W hW)
  obtain ⟨r, hr⟩ : ∃ r, without l k = r := ⟨_, rfl⟩
  have hrl : r.length ≤ 100 := by rw [← hr]; exact Nat.le_trans (List.length_filter_le _ _) hll
  have HRR := Lib.hid hr
  rw [hr] at HRW
  clear hr
  have HA1W : Hid (∀ n, Chg (fun _ => False) w1 (w1.drewN n)) := fun n => (Chg.refl (fun _ => False) w1).drewN n
  obtain ⟨iE, hi0, hi1, hi2, hi3⟩ := info_parts infoE
  have HROW1 := Lib.hid hrow1
  have hlt1 : w.heap.size < w1.heap.size := lt_of_block hbox1
  have d1 : w1.cell? ⟨w.heap.size, 1, none⟩ = _ := cell_of hbox1 1
  have d2 : w1.cell? ⟨w.heap.size, 2, none⟩ = _ := cell_of hbox1 2
  have d3 : w1.cell? ⟨w.heap.size, 3, none⟩ = _ := cell_of hbox1 3
  have d4 : w1.cell? ⟨w.heap.size, 4, none⟩ = _ := cell_of hbox1 4
  have d5 : w1.cell? ⟨w.heap.size, 5, none⟩ = _ := cell_of hbox1 5
  have d6 : w1.cell? ⟨w.heap.size, 6, none⟩ = _ := cell_of hbox1 6
  simp only [List.getElem?_toArray, List.getElem?_cons_zero, List.getElem?_cons_succ] at d1 d2 d3 d4 d5 d6
  clear hA1 hC1 ho1 hbox1 hrow1 HP b0 b1 b2 b3 b4 b5 b6 hw0
  subst hlv
  simp only [kv] at HRW
  go_wp2_with fail
  go_region_held3 (fun W => W.cell? ⟨w.heap.size, 1, none⟩ = some (.int .i64 x) ∧ W.cell? ⟨w.heap.size, 2, none⟩ = some (.int .i64 k.p) ∧ W.cell? ⟨w.heap.size, 3, none⟩ = some (.int .i64 k.a) ∧ W.cell? ⟨w.heap.size, 4, none⟩ = some (.int .i64 k.b) ∧ W.cell? ⟨w.heap.size, 5, none⟩ = some (.int .i64 k.c) ∧ W.cell? ⟨w.heap.size, 6, none⟩ = some (.int .i64 k.d))
    (first | exact ⟨by assumption, by assumption, by assumption, by assumption, by assumption, by assumption⟩ | exact ⟨cell_al _ (by assumption), cell_al _ (by assumption), cell_al _ (by assumption), cell_al _ (by assumption), cell_al _ (by assumption), cell_al _ (by assumption)⟩ | go_keep)
    (first
      | (go_at_call 48; refine (HRW.out _ ?hc).mono ?_; (case hc => first | exact HA1W.out 1 | exact (HA1W.out 1).alloc _); rintro e w3 ⟨v3, rfl, hr3, ho3, hC3, hb3, hn3⟩; obtain ⟨g1, g2, g3, g4, g5, g6⟩ := act_cells hb3)
      | (refine step_append_row _ (by rfl) _ _ _ (by rfl) 47 iE _ 6 48 Try.underlying41 hi0 hi1 hi2 hi3 rfl (by omega) v3 r.length (r.flatMap ecells) (by rfl) (by first | exact hr3 | exact RowAt.kept hr3 ((Chg.refl (fun _ => False) w3).alloc _) (fun _ _ h => h)) ⟨_, 0, none⟩ 1 1 (ecells (k, x)) (by rfl) (by rfl) (by first | exact World.news_of_block (blk_new w3 _) | exact World.news_of_block (hn3 _ (new_ad _ _ _ rfl)).1) (by simp [Value.oneCell', ecells]) (by omega) (by unfold maxLen; omega) (by omega) _ (by rfl) ?_; intro gg off2 cap2 w4 hrow4 hgrow4 hat4 hlt4; have hb4 := blk_grown hgrow4 (by first | exact hb3 | exact blk_alloc hb3 _) (fun e => by have := ho3 _ e.symm; omega); obtain ⟨g1, g2, g3, g4, g5, g6⟩ := act_cells hb4))
  all_goals
    have hput : put l k x = r ++ [(k, x)] := by unfold put; rw [HRR.out]
    have hW4 : Chg (fun j => w1.heap.size ≤ j) w1 w4 := by
      first
        | exact (((hC3.mono (fun _ _ h => h.elim)).alloc _).grown hgrow4 (fun j _ e => ho3 j e))
        | exact ((hC3.mono (fun _ _ h => h.elim)).grown hgrow4 (fun j _ e => ho3 j e))
    have hgg : w1.heap.size ≤ gg := by
      rcases hat4 with h | h
      · exact ho3 gg h
      · have h5 := hC3.size
        try simp at h
        omega
    have hrow5 : RowAt w4 47 6 (.slice (some ⟨gg, off2, none⟩) (r.length + 1) cap2) (r.length + 1) ((put l k x).flatMap ecells) := by
      rw [hput, List.flatMap_append]
      simpa using hrow4
    have HE := Lib.hid (does_end HH.out HC0.out HA1.out HC1.out HO1.out hW4 hgg hrow5 (by rw [hput]; simp))
    have HPUT := Lib.hid hput
    have hcap4 : r.length + 1 ≤ cap2 := by obtain ⟨_, _, e, h5, _⟩ := hrow5.form; cases e; exact h5
    have hlen5 : (put l k x).length = r.length + 1 := by rw [hput]; simp
    clear hrow4 hgrow4 hat4 hlt4 hb4 hW4 hrow5 hput hn3 hb3 hC3 ho3 hr3
    go_wp2_with fail
    refine (HL.out _).mono ?_
    rintro e w5 ⟨rfl, rfl⟩
    by_cases hgt : lim < r.length + 1
    · have hgt2 : (lim : Int) < (r.length : Int) + 1 := by omega
      have hn1 : (1 : Int) ≤ (r.length : Int) + 1 := by omega
      have hc1 : r.length + 1 ≤ cap2 := hcap4
      go_wp2_with fail
      go_ret2
      obtain ⟨p1, p2⟩ := HE.out.2 (by omega) (by rw [cput, if_pos (by omega)])
      exact ⟨_, _, rfl, p1, p2⟩
    · have hgt2 : ¬ (lim : Int) < (r.length : Int) + 1 := by omega
      go_wp2_with fail
      go_ret2
      obtain ⟨p1, p2⟩ := HE.out.1 (by rw [cput, if_neg (by omega)])
      exact ⟨_, _, rfl, p1, p2⟩
end Go.Proofs.Ytkidnmjaioejaaa.Cx
