/- The statement CacheYoung, walked: true, whatever the limit, the flag and the number. No condition but that the numbers fit. -/
import Derived.Test.YtkidnmjaioejaaaCacheGet
namespace Go.Proofs.Ytkidnmjaioejaaa.Cx
set_option linter.unusedVariables false
set_option linter.unusedSimpArgs false
open Go.RowKit Go.Proofs.Ytkidnmjaioejaaa.Mem Go.Maps

def ki (i : Int) : Key := ⟨i, 0, 0, 0, 0⟩
theorem fits_of {i : Int} (h1 : -9223372036854775808 ≤ i) (h2 : i ≤ 9223372036854775807) : fits i := WalkArith.wf_i64 ⟨h1, h2⟩
theorem fits0 : fits 0 := fits_of (by omega) (by omega)
theorem ki_ok {i : Int} (h : fits i) : (ki i).ok := ⟨h, fits0, fits0, fits0, fits0⟩
theorem put_new {l : List Ent} {k : Key} (h : k ∉ l.map Prod.fst) (x : Int) : put l k x = l ++ [(k, x)] := by
  unfold put without
  congr 1
  apply List.filter_eq_self.2
  intro e he
  simp only [Bool.not_eq_true', decide_eq_false_iff_not]
  intro e2
  exact h (List.mem_map.2 ⟨e, he, e2⟩)
theorem cput_room {lim : Nat} {l : List Ent} {k : Key} (h : k ∉ l.map Prod.fst) (hl : l.length + 1 ≤ lim) (x : Int) : cput lim l k x = l ++ [(k, x)] := by
  unfold cput
  rw [put_new h, if_neg (by simp; omega)]
theorem cput_full {lim : Nat} {l : List Ent} {k : Key} (h : k ∉ l.map Prod.fst) (hl : lim < l.length + 1) (x : Int) : cput lim l k x = (l ++ [(k, x)]).tail := by
  unfold cput
  rw [put_new h, if_pos (by simp; omega)]
theorem limit_le (n : Int) : 1 ≤ limit n ∧ limit n ≤ 64 := by
  unfold limit
  split
  · omega
  · split <;> omega
theorem limit_calls (n : Int) (w : World) : Calls Try.prog 17 #[.int .i64 n] w fun e w' => e = .returned (.int .i64 (limit n : Int)) ∧ w' = w := by
  by_cases h1 : n < 1
  · have e : limit n = 1 := by unfold limit; rw [if_pos h1]
    rw [e]
    go_enter Try.func17, Try.ntmps17
    go_wp2_with fail
    go_ret
    exact ⟨rfl, rfl⟩
  · by_cases h2 : 64 < n
    · have e : limit n = 64 := by unfold limit; rw [if_neg h1, if_pos h2]
      rw [e]
      go_enter Try.func17, Try.ntmps17
      go_wp2_with fail
      go_ret
      exact ⟨rfl, rfl⟩
    · have e : ((limit n : Nat) : Int) = n := by unfold limit; rw [if_neg h1, if_neg h2]; omega
      rw [e]
      go_enter Try.func17, Try.ntmps17
      go_wp2_with fail
      go_ret
      exact ⟨rfl, rfl⟩
/-- What a caller keeps of a cache that it has made itself. -/
structure Mine (w0 w : World) (c M : Nat) (lim : Nat) (l : List Ent) : Prop where
  at_ : ∃ v, CacheAt w c M v lim l ∧ ∀ j, v.ownBlock = some j → w0.heap.size ≤ j
  c : w0.heap.size ≤ c
  m : w0.heap.size ≤ M
  below : Below w0.heap.size w0 w
theorem Mine.chg {F : Nat → Prop} {w0 w w' : World} {c M lim : Nat} {l : List Ent} (h : Mine w0 w c M lim l) (hc : Chg F w w') (hf : ∀ j, ¬ F j) : Mine w0 w' c M lim l := by
  obtain ⟨v, h1, h2⟩ := h.at_
  exact ⟨⟨v, h1.chg hc (fun j _ => hf j), h2⟩, h.c, h.m, h.below.trans (hc.toBelow h.below.size (fun j _ hj => (hf j hj).elim))⟩
theorem Mine.put {w0 w : World} {c M lim : Nat} {l : List Ent} (h : Mine w0 w c M lim l) {k : Key} (hk : k.ok) {x : Int} (hx : fits x) (hl : l.length ≤ lim) (h1 : 1 ≤ lim) (h2 : lim ≤ 64) :
    Calls Try.prog 18 #[.pointer (some ⟨c, 0, none⟩), kv k, .int .i64 x] w fun e w' => (∃ u, e = .returned u) ∧ Mine w0 w' c M lim (cput lim l k x) ∧ Below w0.heap.size w w' := by
  obtain ⟨v, hA, hv⟩ := h.at_
  refine (put_calls c M lim v l k x w hA hk hx hl h2 h1).mono ?_
  rintro e w' ⟨hu, v', hA', hC, ho⟩
  have hB : Below w0.heap.size w w' := hC.toBelow h.below.size (fun j _ hj => by
    rcases hj with rfl | rfl | hj
    · exact h.c
    · exact h.m
    · exact hv j hj)
  exact ⟨hu, ⟨⟨v', hA', fun j hj => (ho j hj).elim (hv j) (fun hh => Nat.le_trans h.below.size hh)⟩, h.c, h.m, h.below.trans hB⟩, hB⟩
theorem Mine.get {w0 w : World} {c M lim : Nat} {l : List Ent} (h : Mine w0 w c M lim l) {k : Key} (hk : k.ok) :
    Calls Try.prog 19 #[.pointer (some ⟨c, 0, none⟩), kv k] w fun e w' => e = .returned (.tuple #[.int .i64 ((find l k).getD 0), .bool (find l k).isSome]) ∧ Mine w0 w' c M lim (cget l k) ∧ Below w0.heap.size w w' := by
  obtain ⟨v, hA, hv⟩ := h.at_
  refine (get_calls c M lim v l k w hA hk).mono ?_
  rintro e w' ⟨hu, v', hA', hC, ho⟩
  have hB : Below w0.heap.size w w' := hC.toBelow h.below.size (fun j _ hj => by
    rcases hj with rfl | rfl | hj
    · exact h.c
    · exact h.m
    · exact hv j hj)
  exact ⟨hu, ⟨⟨v', hA', fun j hj => (ho j hj).elim (hv j) (fun hh => Nat.le_trans h.below.size hh)⟩, h.c, h.m, h.below.trans hB⟩, hB⟩
theorem Mine.len {w0 w : World} {c M lim : Nat} {l : List Ent} (h : Mine w0 w c M lim l) :
    Calls Try.prog 20 #[.pointer (some ⟨c, 0, none⟩)] w fun e w' => e = .returned (.int .i64 (l.length : Int)) ∧ w' = w := by
  obtain ⟨v, hA, hv⟩ := h.at_
  exact len_calls c M lim v l w hA
theorem mine_new (n : Int) (w : World) : Calls Try.prog 16 #[.int .i64 n] w fun e w' => ∃ c M, e = .returned (.pointer (some ⟨c, 0, none⟩)) ∧ Mine w w' c M (limit n) [] := by
  refine (new_calls n w).mono ?_
  rintro e w' ⟨c, M, rfl, hA, hc, hm, hB⟩
  exact ⟨c, M, rfl, ⟨_, hA, fun j hj => by simp [Value.ownBlock] at hj⟩, hc, hm, hB⟩

set_option maxHeartbeats 2000000 in
theorem awake_calls (w : World) : Calls Try.prog 21 #[] w fun e w' => e = .returned (.bool true) ∧ Below w.heap.size w w' := by
  have HN := Lib.hid (mine_new 1 w)
  have h1 : (ki 1).ok := ki_ok (fits_of (by omega) (by omega))
  have h2 : (ki 2).ok := ki_ok (fits_of (by omega) (by omega))
  have e1 : cput (limit 1) [] (ki 1) 5 = [(ki 1, 5)] := by decide
  have e2 : cput (limit 1) [(ki 1, 5)] (ki 2) 6 = [(ki 2, 6)] := by decide
  have e3 : find [(ki 2, 6)] (ki 1) = none := by decide
  have e4 : cget [(ki 2, 6)] (ki 1) = [(ki 2, 6)] := by decide
  have e5 : find [(ki 2, 6)] (ki 2) = some 6 := by decide
  go_enter Try.func21, Try.ntmps21
  go_wp2_with fail
  refine HN.out.mono ?_
  rintro e w1 ⟨c, M, rfl, hm1⟩
  have HM1 := Lib.hid hm1
  clear hm1
  go_wp2_with fail
  refine (HM1.out.put h1 (x := 5) (fits_of (by omega) (by omega)) (by decide) (by decide) (by decide)).mono ?_
  rintro e w2 ⟨⟨u, rfl⟩, hm2, _⟩
  rw [e1] at hm2
  have HM2 := Lib.hid hm2
  clear hm2
  go_wp2_with fail
  refine (HM2.out.put h2 (x := 6) (fits_of (by omega) (by omega)) (by decide) (by decide) (by decide)).mono ?_
  rintro e w3 ⟨⟨u2, rfl⟩, hm3, _⟩
  rw [e2] at hm3
  have HM3 := Lib.hid hm3
  clear hm3
  go_wp2_with fail
  refine (HM3.out.get h1).mono ?_
  rintro e w4 ⟨rfl, hm4, _⟩
  rw [e4] at hm4
  rw [e3]
  have HM4 := Lib.hid hm4
  clear hm4
  go_wp2_with fail
  refine (HM4.out.get h2).mono ?_
  rintro e w5 ⟨rfl, hm5, _⟩
  rw [e5]
  have HM5 := Lib.hid hm5
  clear hm5
  go_wp2_with fail
  go_ret
  exact ⟨rfl, HM5.out.below⟩
end Go.Proofs.Ytkidnmjaioejaaa.Cx
