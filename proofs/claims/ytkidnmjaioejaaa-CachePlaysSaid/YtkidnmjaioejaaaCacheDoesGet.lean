/- The statement's does, at a Get, walked. Condition: the cache's block is known, and the document's row. -/
import Derived.Test.YtkidnmjaioejaaaCacheDoes
namespace Go.Proofs.Ytkidnmjaioejaaa.Cx
set_option linter.unusedVariables false
set_option linter.unusedSimpArgs false
open Go.RowKit Go.Proofs.Ytkidnmjaioejaaa.Mem Go.Maps

set_option maxRecDepth 100000 in
set_option maxHeartbeats 4000000 in
theorem does_get (n : Int) (kind x y : Int) (k : Key) (c M lim : Nat) (v lv : Value) (l : List Ent) (w : World) (h : Pair w c M v lv lim l) (hk : k.ok) (hl : l.length ≤ 64) (hk0 : ¬ kind = 0) (hk1 : ¬ kind = 1) (hf : find l k = some y) :
    Calls Try.prog 22 #[.pointer (some ⟨c, 0, none⟩), lv, .int .i64 n, actV kind x k] w fun e w' => ∃ lv' v', e = .returned (.tuple #[.bool true, lv']) ∧ Pair w' c M v' lv' lim (put l k y) ∧ Went w w' c M v lv v' lv' := by
  obtain ⟨w0, hw0⟩ : ∃ w0, w0 = w.alloc (actBox kind x k) := ⟨_, rfl⟩
  have hC0 : Chg (fun _ => False) w w0 := by rw [hw0]; exact (Chg.refl _ _).alloc _
  have hB : w0.heap[w.heap.size]? = some (actBox kind x k) := by rw [hw0]; exact blk_new _ _
  have h0 := h.ca.chg hC0 (fun _ _ h => h)
  have HP := Lib.hid (get_calls c M lim v l k w0 h0 hk)
  have hcg : cget l k = put l k y := by unfold cget; rw [hf]
  rw [hf, hcg] at HP
  have HF := Lib.hid hf
  have HH := Lib.hid h
  have HC0 := Lib.hid hC0
  have HB := Lib.hid hB
  have HW := Lib.hid hw0
  have HK := Lib.hid hk
  have hll : l.length ≤ 100 := by omega
  have b0 : w0.cell? ⟨w.heap.size, 0, none⟩ = _ := cell_of hB 0
  have b1 : w0.cell? ⟨w.heap.size, 1, none⟩ = _ := cell_of hB 1
  have b2 : w0.cell? ⟨w.heap.size, 2, none⟩ = _ := cell_of hB 2
  have b3 : w0.cell? ⟨w.heap.size, 3, none⟩ = _ := cell_of hB 3
  have b4 : w0.cell? ⟨w.heap.size, 4, none⟩ = _ := cell_of hB 4
  have b5 : w0.cell? ⟨w.heap.size, 5, none⟩ = _ := cell_of hB 5
  have b6 : w0.cell? ⟨w.heap.size, 6, none⟩ = _ := cell_of hB 6
  simp only [List.getElem?_toArray, List.getElem?_cons_zero, List.getElem?_cons_succ] at b0 b1 b2 b3 b4 b5 b6
  obtain ⟨adl, capl, hlv, hnl, hml⟩ := h.row.form
  clear h hC0 hB h0 hf hcg
  simp only [Option.getD_some, Option.isSome_some] at HP
  rw [hw0] at b0 b1 b2 b3 b4 b5 b6 HP
  simp only [actV]
  go_enter Try.func22, Try.ntmps22
  go_wp2_with fail
  refine HP.out.mono ?_
  rintro e wg ⟨rfl, v1, hAg, hCg, hog⟩
  rw [← hw0] at hCg hog
  have hnf : ∀ j, foot c M v j → j < w.heap.size := fun j hj => HH.out.ca.lt j hj
  have hboxg : wg.heap[w.heap.size]? = some (actBox kind x k) := hCg.blk HB.out (fun e => by have := hnf _ e; omega)
  have hrowg : ERow wg lv l := (HH.out.row.kept HC0.out (fun _ _ h => h)).kept hCg (fun j hj => HH.out.apart j hj)
  have HFC := Lib.hid (find_calls lv l k wg hrowg hll)
  rw [HF.out] at HFC
  simp only [Option.getD_some, Option.isSome_some, kv] at HFC
  obtain ⟨_, g2, g3, g4, g5, g6⟩ := act_cells hboxg
  have HAG := Lib.hid hAg
  have HCG := Lib.hid hCg
  have HOG := Lib.hid hog
  have HBG := Lib.hid hboxg
  have HRG := Lib.hid hrowg
  clear hAg hCg hog hboxg hrowg HP b0 b1 b2 b3 b4 b5 b6 hw0
  subst hlv
  go_wp2_with fail
  refine HFC.out.mono ?_
  rintro e w1 ⟨rfl, hb1⟩
  have hCF : Chg (fun _ => False) wg w1 := (Chg.refl _ wg).callee hb1
  have hA1 := HAG.out.chg hCF (fun _ _ h => h)
  have hC1 : Chg (foot c M v) w0 w1 := HCG.out.andThen hCF (fun _ _ h => h.elim)
  have ho1 := HOG.out
  have HA1 := Lib.hid hA1
  have HC1 := Lib.hid hC1
  have HO1 := Lib.hid ho1
  have hbox1 : w1.heap[w.heap.size]? = some (actBox kind x k) := hCF.blk HBG.out (fun h => h)
  have hrow1 := HRG.out.kept hCF (fun _ _ h => h)
  clear g2 g3 g4 g5 g6 hb1 hCF HFC
  have HRW := Lib.hid (fun W hW => without_here (w1 := w1) (k := k) hrow1 hll hbox1 W hW)
  obtain ⟨r, hr⟩ : ∃ r, without l k = r := ⟨_, rfl⟩
  have hrl : r.length ≤ 100 := by rw [← hr]; exact Nat.le_trans (List.length_filter_le _ _) hll
  have HRR := Lib.hid hr
  rw [hr] at HRW
  clear hr
  have HA1W : Hid (∀ n, Chg (fun _ => False) w1 (w1.drewN n)) := fun n => (Chg.refl (fun _ => False) w1).drewN n
  obtain ⟨iE, hi0, hi1, hi2, hi3⟩ := info_parts infoE
  have HROW1 := Lib.hid hrow1
  have hlt1 : w.heap.size < w1.heap.size := lt_of_block hbox1
  have d2 : w1.cell? ⟨w.heap.size, 2, none⟩ = _ := cell_of hbox1 2
  have d3 : w1.cell? ⟨w.heap.size, 3, none⟩ = _ := cell_of hbox1 3
  have d4 : w1.cell? ⟨w.heap.size, 4, none⟩ = _ := cell_of hbox1 4
  have d5 : w1.cell? ⟨w.heap.size, 5, none⟩ = _ := cell_of hbox1 5
  have d6 : w1.cell? ⟨w.heap.size, 6, none⟩ = _ := cell_of hbox1 6
  simp only [List.getElem?_toArray, List.getElem?_cons_zero, List.getElem?_cons_succ] at d2 d3 d4 d5 d6
  clear hA1 hC1 ho1 hbox1 hrow1
  simp only [kv] at HRW
  go_wp2_with fail
  go_region_held3 (fun W => W.cell? ⟨w.heap.size, 2, none⟩ = some (.int .i64 k.p) ∧ W.cell? ⟨w.heap.size, 3, none⟩ = some (.int .i64 k.a) ∧ W.cell? ⟨w.heap.size, 4, none⟩ = some (.int .i64 k.b) ∧ W.cell? ⟨w.heap.size, 5, none⟩ = some (.int .i64 k.c) ∧ W.cell? ⟨w.heap.size, 6, none⟩ = some (.int .i64 k.d))
    (first | exact ⟨by assumption, by assumption, by assumption, by assumption, by assumption⟩ | exact ⟨cell_al _ (by assumption), cell_al _ (by assumption), cell_al _ (by assumption), cell_al _ (by assumption), cell_al _ (by assumption)⟩ | go_keep)
    (first
      | (go_at_call 48; refine (HRW.out _ ?hc).mono ?_; (case hc => first | exact HA1W.out 1 | exact (HA1W.out 1).alloc _); rintro e w3 ⟨v3, rfl, hr3, ho3, hC3, hb3, hn3⟩; obtain ⟨g1, g2, g3, g4, g5, g6⟩ := act_cells hb3)
      | (refine step_append_row _ (by rfl) _ _ _ (by rfl) 47 iE _ 6 48 Try.underlying41 hi0 hi1 hi2 hi3 rfl (by omega) v3 r.length (r.flatMap ecells) (by rfl) (by first | exact hr3 | exact RowAt.kept hr3 ((Chg.refl (fun _ => False) w3).alloc _) (fun _ _ h => h)) ⟨_, 0, none⟩ 1 1 (ecells (k, y)) (by rfl) (by rfl) (by first | exact World.news_of_block (blk_new w3 _) | exact World.news_of_block (hn3 _ (new_ad _ _ _ rfl)).1) (by simp [Value.oneCell', ecells]) (by omega) (by unfold maxLen; omega) (by omega) _ (by rfl) ?_; intro gg off2 cap2 w4 hrow4 hgrow4 hat4 hlt4; have hb4 := blk_grown hgrow4 (by first | exact hb3 | exact blk_alloc hb3 _) (fun e => by have := ho3 _ e.symm; omega); obtain ⟨g1, g2, g3, g4, g5, g6⟩ := act_cells hb4))
  all_goals
    have hput : put l k y = r ++ [(k, y)] := by unfold put; rw [HRR.out]
    have hW4 : Chg (fun j => w1.heap.size ≤ j) w1 w4 := by
      first
        | exact (((hC3.mono (fun _ _ h => h.elim)).alloc _).grown hgrow4 (fun j _ e => ho3 j e))
        | exact ((hC3.mono (fun _ _ h => h.elim)).grown hgrow4 (fun j _ e => ho3 j e))
    have hgg : w1.heap.size ≤ gg := by
      rcases hat4 with h | h
      · exact ho3 gg h
      · have h5 := hC3.size
        try simp at h
        omega
    have hrow5 : RowAt w4 47 6 (.slice (some ⟨gg, off2, none⟩) (r.length + 1) cap2) (r.length + 1) ((put l k y).flatMap ecells) := by
      rw [hput, List.flatMap_append]
      simpa using hrow4
    have HE := Lib.hid (does_end HH.out HC0.out HA1.out HC1.out HO1.out hW4 hgg hrow5 (by rw [hput]; simp))
    have HPUT := Lib.hid hput
    have hcap4 : r.length + 1 ≤ cap2 := by obtain ⟨_, _, e, h5, _⟩ := hrow5.form; cases e; exact h5
    have hlen5 : (put l k y).length = r.length + 1 := by rw [hput]; simp
    clear hrow4 hgrow4 hat4 hlt4 hb4 hW4 hrow5 hput hn3 hb3 hC3 ho3 hr3
    go_wp2_with fail
    go_ret2
    obtain ⟨p1, p2⟩ := HE.out.1 trivial
    exact ⟨_, rfl, _, p1, p2⟩

set_option maxHeartbeats 4000000 in
theorem does_miss (n : Int) (kind x : Int) (k : Key) (c M lim : Nat) (v lv : Value) (l : List Ent) (w : World) (h : Pair w c M v lv lim l) (hk : k.ok) (hl : l.length ≤ 64) (hk0 : ¬ kind = 0) (hk1 : ¬ kind = 1) (hf : find l k = none) :
    Calls Try.prog 22 #[.pointer (some ⟨c, 0, none⟩), lv, .int .i64 n, actV kind x k] w fun e w' => ∃ lv' v', e = .returned (.tuple #[.bool true, lv']) ∧ Pair w' c M v' lv' lim l ∧ Went w w' c M v lv v' lv' := by
  obtain ⟨w0, hw0⟩ : ∃ w0, w0 = w.alloc (actBox kind x k) := ⟨_, rfl⟩
  have hC0 : Chg (fun _ => False) w w0 := by rw [hw0]; exact (Chg.refl _ _).alloc _
  have hB : w0.heap[w.heap.size]? = some (actBox kind x k) := by rw [hw0]; exact blk_new _ _
  have h0 := h.ca.chg hC0 (fun _ _ h => h)
  have HP := Lib.hid (get_calls c M lim v l k w0 h0 hk)
  have hcg : cget l k = l := by unfold cget; rw [hf]
  rw [hf, hcg] at HP
  have HF := Lib.hid hf
  have HH := Lib.hid h
  have HC0 := Lib.hid hC0
  have HB := Lib.hid hB
  have HW := Lib.hid hw0
  have hll : l.length ≤ 100 := by omega
  obtain ⟨b1, b2, b3, b4, b5, b6⟩ := act_cells hB
  have b0 : w0.cell? ⟨w.heap.size, 0, none⟩ = some (.int .i64 kind) := cell_of hB 0
  obtain ⟨adl, capl, hlv, hnl, hml⟩ := h.row.form
  clear h hC0 hB h0 hf hcg
  simp only [Option.getD_none, Option.isSome_none] at HP
  rw [hw0] at b0 b1 b2 b3 b4 b5 b6 HP
  simp only [actV]
  go_enter Try.func22, Try.ntmps22
  go_wp2_with fail
  refine HP.out.mono ?_
  rintro e wg ⟨rfl, v1, hAg, hCg, hog⟩
  rw [← hw0] at hCg hog
  have hnf : ∀ j, foot c M v j → j < w.heap.size := fun j hj => HH.out.ca.lt j hj
  have hboxg : wg.heap[w.heap.size]? = some (actBox kind x k) := hCg.blk HB.out (fun e => by have := hnf _ e; omega)
  have hrowg : ERow wg lv l := (HH.out.row.kept HC0.out (fun _ _ h => h)).kept hCg (fun j hj => HH.out.apart j hj)
  have HFC := Lib.hid (find_calls lv l k wg hrowg hll)
  rw [HF.out] at HFC
  simp only [Option.getD_none, Option.isSome_none, kv] at HFC
  obtain ⟨_, g2, g3, g4, g5, g6⟩ := act_cells hboxg
  have HAG := Lib.hid hAg
  have HCG := Lib.hid hCg
  have HOG := Lib.hid hog
  have HRG := Lib.hid hrowg
  clear hAg hCg hog hboxg hrowg HP b0 b1 b2 b3 b4 b5 b6 hw0
  subst hlv
  go_wp2_with fail
  refine HFC.out.mono ?_
  rintro e w1 ⟨rfl, hb1⟩
  have hCF : Chg (fun _ => False) wg w1 := (Chg.refl _ wg).callee hb1
  have hs0 := HC0.out.size
  have hPA : Hid (Pair w1 c M v1 (.slice adl l.length capl) lim l) := ⟨HAG.out.chg hCF (fun _ _ h => h), HRG.out.kept hCF (fun _ _ h => h), fun j hj hf => by
    have h1 := HH.out.row.lt j hj
    rcases hf with e | e | e
    · exact HH.out.apart j hj (.inl e)
    · exact HH.out.apart j hj (.inr (.inl e))
    · rcases HOG.out j e with h2 | h2
      · exact HH.out.apart j hj (.inr (.inr h2))
      · omega⟩
  have hWE : Hid (Went w w1 c M v (.slice adl l.length capl) v1 (.slice adl l.length capl)) := ⟨((HC0.out.mono (fun _ _ h => h.elim)).andThen HCG.out (fun j _ e => .inl e)).andThen hCF (fun _ _ h => h.elim), fun j hj => (HOG.out j hj).imp id (fun h => by omega), fun j hj => .inl hj⟩
  clear g2 g3 g4 g5 g6 hb1 hCF HFC
  go_wp2_with fail
  go_ret2
  exact ⟨_, _, rfl, hPA.out, hWE.out⟩
end Go.Proofs.Ytkidnmjaioejaaa.Cx
