/- The statement CacheYoung, walked: true, whatever the limit, the flag and the number. Condition: the number fits. -/
import Derived.Test.YtkidnmjaioejaaaCacheYoung
namespace Go.Proofs.Ytkidnmjaioejaaa.Cx
set_option linter.unusedVariables false
set_option linter.unusedSimpArgs false
open Go.RowKit Go.Proofs.Ytkidnmjaioejaaa.Mem Go.Maps

/-- The things 0 to i, less one. -/
def many (i : Nat) : List Ent := (List.range i).map fun j : Nat => (ki (j : Int), (j : Int))
theorem many_succ (i : Nat) : many (i + 1) = many i ++ [(ki (i : Int), (i : Int))] := by
  unfold many
  rw [List.range_succ, List.map_append]; rfl
theorem many_len (i : Nat) : (many i).length = i := by simp [many]
theorem many_keys (i : Nat) : (many i).map Prod.fst = (List.range i).map fun j : Nat => ki (j : Int) := by simp [many, Function.comp_def]
theorem ki_inj {a b : Int} (h : ki a = ki b) : a = b := by injection h
theorem mem_many {i : Nat} {a : Int} : ki a ∈ (many i).map Prod.fst ↔ 0 ≤ a ∧ a < i := by
  rw [many_keys, List.mem_map]
  constructor
  · rintro ⟨j, hj, e⟩
    have := ki_inj e
    rw [List.mem_range] at hj
    omega
  · rintro ⟨h1, h2⟩
    exact ⟨a.toNat, by rw [List.mem_range]; omega, by congr 1; omega⟩
def own : Key := ki (-1)
def young (x : Int) (i : Nat) : List Ent := (own, x) :: many i
theorem mem_young {x : Int} {i : Nat} {a : Int} : ki a ∈ (young x i).map Prod.fst ↔ a = -1 ∨ (0 ≤ a ∧ a < i) := by
  unfold young own
  rw [List.map_cons, List.mem_cons, mem_many]
  constructor
  · rintro (h | h)
    · exact .inl (ki_inj h)
    · exact .inr h
  · rintro (h | h)
    · exact .inl (by rw [h])
    · exact .inr h
theorem young_next (L : Nat) (x : Int) (i : Nat) (h : i + 1 < L) : cput L (young x i) (ki (i : Int)) (i : Int) = young x (i + 1) := by
  rw [cput_room (by rw [mem_young]; omega) (by simp [young, many_len]; omega), young, young, many_succ, List.cons_append]
/-- Behind all. -/
def last (L : Nat) (got : Bool) (x : Int) : List Ent := if got then cput L (cget (young x (L - 1)) own) (ki 1000) 5 else cput L (young x (L - 1)) (ki 1000) 5
theorem young_own (x : Int) (i : Nat) : find (young x i) own = some x := by
  unfold young find
  rw [List.find?_cons]
  simp
theorem young_got (x : Int) (i : Nat) : cget (young x i) own = many i ++ [(own, x)] := by
  unfold cget
  rw [young_own]
  show put (young x i) own x = _
  unfold put without young
  rw [List.filter_cons_of_neg (by simp)]
  congr 1
  apply List.filter_eq_self.2
  intro e he
  simp only [Bool.not_eq_true', decide_eq_false_iff_not]
  intro e2
  have : own ∈ (many i).map Prod.fst := List.mem_map.2 ⟨e, he, e2⟩
  unfold own at this
  rw [mem_many] at this
  omega
theorem last_is (L : Nat) (h1 : 1 ≤ L) (h2 : L ≤ 64) (got : Bool) (x : Int) : (last L got x).length = L ∧ find (last L got x) own = if got && decide (1 < L) then some x else none := by
  have hne : own ≠ ki 1000 := fun e => by have := ki_inj e; omega
  cases got
  · have e : last L false x = many (L - 1) ++ [(ki 1000, 5)] := by
      unfold last
      rw [if_neg (by simp), cput_full (by rw [mem_young]; omega) (by simp [young, many_len]; omega)]
      rfl
    rw [e]
    refine ⟨by simp [many_len]; omega, ?_⟩
    simp only [Bool.false_and, Bool.false_eq_true, if_false]
    rw [find_none]
    simp only [List.map_append, List.mem_append, List.map_cons, List.map_nil, List.mem_cons, List.not_mem_nil, or_false]
    rintro (h | h)
    · unfold own at h; rw [mem_many] at h; omega
    · exact hne h
  · have hk : ki 1000 ∉ (many (L - 1) ++ [(own, x)]).map Prod.fst := by
      simp only [List.map_append, List.mem_append, List.map_cons, List.map_nil, List.mem_cons, List.not_mem_nil, or_false]
      rintro (h | h)
      · rw [mem_many] at h; omega
      · exact hne h.symm
    have e : last L true x = (many (L - 1) ++ [(own, x)] ++ [(ki 1000, 5)]).tail := by
      unfold last
      rw [if_pos rfl, young_got, cput_full hk (by simp [many_len]; omega)]
    rw [e]
    refine ⟨by simp [many_len]; omega, ?_⟩
    by_cases hL : 1 < L
    · rw [if_pos (by simp [hL])]
      obtain ⟨i, hi⟩ : ∃ i, L - 1 = i + 1 := ⟨L - 2, by omega⟩
      rw [hi]
      have hr : many (i + 1) = (ki 0, 0) :: (many (i + 1)).tail := by
        unfold many
        rw [List.range_succ_eq_map]
        rfl
      rw [hr]
      show find ((many (i + 1)).tail ++ [(own, x)] ++ [(ki 1000, 5)]) own = some x
      unfold find
      rw [List.append_assoc, List.find?_append]
      have h0 : (many (i + 1)).tail.find? (fun e => decide (e.1 = own)) = none := by
        rw [List.find?_eq_none]
        intro e he
        simp only [decide_eq_true_eq]
        intro e2
        have : own ∈ (many (i + 1)).map Prod.fst := List.mem_map.2 ⟨e, List.mem_of_mem_tail he, e2⟩
        unfold own at this
        rw [mem_many] at this
        omega
      rw [h0]
      simp
    · have : L = 1 := by omega
      subst this
      rw [if_neg (by simp)]
      rw [find_none]
      show own ∉ [ki 1000]
      simp only [List.mem_cons, List.not_mem_nil, or_false]
      exact hne

/-- A cache that the caller has made, and a block of the caller's own beside it. -/
structure MineB (w0 w : World) (B : Nat) (o : Obj) (c M : Nat) (lim : Nat) (l : List Ent) : Prop where
  at_ : ∃ v, CacheAt w c M v lim l ∧ ∀ j, foot c M v j → w0.heap.size ≤ j ∧ j ≠ B
  box : w.heap[B]? = some o
  low : w0.heap.size ≤ B
  below : Below w0.heap.size w0 w
theorem Mine.box {w0 w : World} {c M lim : Nat} {l : List Ent} (h : Mine w0 w c M lim l) (o : Obj) : MineB w0 (w.alloc o) w.heap.size o c M lim l := by
  obtain ⟨v, h1, h2⟩ := h.at_
  refine ⟨⟨v, h1.chg ((Chg.refl (fun _ => False) w).alloc o) (fun _ _ h => h), fun j hj => ⟨?_, ?_⟩⟩, blk_new w o, h.below.size, h.below.alloc h.below.size _⟩
  · rcases hj with rfl | rfl | hj
    · exact h.c
    · exact h.m
    · exact h2 j hj
  · have := h1.lt j hj
    omega
theorem MineB.chg {w0 w w' : World} {B c M lim : Nat} {o : Obj} {l l' : List Ent} {v v' : Value} (h : MineB w0 w B o c M lim l) (hv : ∀ j, foot c M v j → w0.heap.size ≤ j ∧ j ≠ B) (hA : CacheAt w' c M v' lim l') (hC : Chg (foot c M v) w w') (ho : ∀ j, v'.ownBlock = some j → v.ownBlock = some j ∨ w.heap.size ≤ j) :
    MineB w0 w' B o c M lim l' := by
  have hBl := lt_of_block h.box
  refine ⟨⟨v', hA, fun j hj => ?_⟩, hC.blk h.box (fun hf => (hv B hf).2 rfl), h.low, h.below.trans (hC.toBelow h.below.size (fun j _ hj => (hv j hj).1))⟩
  rcases hj with rfl | rfl | hj
  · exact hv _ (.inl rfl)
  · exact hv _ (.inr (.inl rfl))
  · rcases ho j hj with h1 | h1
    · exact hv j (.inr (.inr h1))
    · have := h.below.size; omega
theorem MineB.put {w0 w : World} {B c M lim : Nat} {o : Obj} {l : List Ent} (h : MineB w0 w B o c M lim l) {k : Key} (hk : k.ok) {x : Int} (hx : fits x) (hl : l.length ≤ lim) (h1 : 1 ≤ lim) (h2 : lim ≤ 64) :
    Calls Try.prog 18 #[.pointer (some ⟨c, 0, none⟩), kv k, .int .i64 x] w fun e w' => (∃ u, e = .returned u) ∧ MineB w0 w' B o c M lim (cput lim l k x) := by
  obtain ⟨v, hA, hv⟩ := h.at_
  refine (put_calls c M lim v l k x w hA hk hx hl h2 h1).mono ?_
  rintro e w' ⟨hu, v', hA', hC, ho⟩
  exact ⟨hu, h.chg hv hA' hC ho⟩
theorem MineB.get {w0 w : World} {B c M lim : Nat} {o : Obj} {l : List Ent} (h : MineB w0 w B o c M lim l) {k : Key} (hk : k.ok) :
    Calls Try.prog 19 #[.pointer (some ⟨c, 0, none⟩), kv k] w fun e w' => e = .returned (.tuple #[.int .i64 ((find l k).getD 0), .bool (find l k).isSome]) ∧ MineB w0 w' B o c M lim (cget l k) := by
  obtain ⟨v, hA, hv⟩ := h.at_
  refine (get_calls c M lim v l k w hA hk).mono ?_
  rintro e w' ⟨hu, v', hA', hC, ho⟩
  exact ⟨hu, h.chg hv hA' hC ho⟩
theorem MineB.len {w0 w : World} {B c M lim : Nat} {o : Obj} {l : List Ent} (h : MineB w0 w B o c M lim l) :
    Calls Try.prog 20 #[.pointer (some ⟨c, 0, none⟩)] w fun e w' => e = .returned (.int .i64 (l.length : Int)) ∧ w' = w := by
  obtain ⟨v, hA, hv⟩ := h.at_
  exact len_calls c M lim v l w hA
theorem own_ok : own.ok := ki_ok (fits_of (by omega) (by omega))
abbrev ownBox : Obj := .cells #[.int .i64 (-1), .int .i64 0, .int .i64 0, .int .i64 0, .int .i64 0] 34
theorem young_zero (L : Nat) (h : 1 ≤ L) (x : Int) : cput L [] own x = young x 0 := by
  rw [cput_room (by simp) (by simpa using h)]; rfl
theorem young_len (x : Int) (i : Nat) : (young x i).length = i + 1 := by simp [young, many_len]
theorem got_len (x : Int) (i : Nat) : (cget (young x i) own).length = i + 1 := by rw [young_got]; simp [many_len]

theorem cget_len {l : List Ent} (h : (l.map Prod.fst).Nodup) (k : Key) : (cget l k).length = l.length := by
  unfold cget
  rcases hf : find l k with _ | x
  · rfl
  · exact (put_perm h ((find_mem h).1 hf)).length_eq.symm

set_option maxHeartbeats 4000000 in
theorem young_calls (n : Int) (got : Bool) (x : Int) (w : World) (hx : fits x) : Calls Try.prog 5 #[.int .i64 n, .bool got, .int .i64 x] w fun e w' => e = .returned (.bool true) ∧ Below w.heap.size w w' := by
  have HN := Lib.hid (mine_new n w)
  obtain ⟨hL1, hL2⟩ := limit_le n
  have HL := Lib.hid (fun w => limit_calls n w)
  have HX := Lib.hid hx
  generalize limit n = L at *
  have HLast := Lib.hid (last_is L hL1 hL2 got x)
  have e0 := young_zero L hL1 x
  clear hx
  go_enter Try.func5, Try.ntmps5
  go_wp2_with fail
  refine HN.out.mono ?_
  rintro e w1 ⟨c, M, rfl, hm1⟩
  have HM1 := Lib.hid hm1
  clear hm1
  go_wp2_with fail
  refine (HL.out _).mono ?_
  rintro e w1' ⟨rfl, rfl⟩
  go_wp2_with fail
  refine ((HM1.out.box ownBox).put own_ok HX.out (by simp) hL1 hL2).mono ?_
  rintro e w2 ⟨⟨u, rfl⟩, hm2⟩
  rw [e0] at hm2
  have HM2 := Lib.hid hm2
  have hB : Hid (w.heap.size ≤ w1'.heap.size) := HM1.out.below.size
  clear hm2 e0
  go_wp2_with fail
  go_loopg [10] L (fun g vi wr => ∃ (i : Nat), vi = .int .i64 i ∧ i + 1 ≤ L ∧ L ≤ g + i ∧ Hid (MineB w wr w1'.heap.size ownBox c M L (young x i)))
  case atStart => exact ⟨0, rfl, by omega, by omega, HM2.out⟩
  case round =>
    obtain ⟨i, rfl, hi, hg, hm⟩ := hrel
    by_cases hlt : i + 1 < L
    · obtain ⟨g, rfl⟩ : ∃ m, gk = m + 1 := ⟨gk - 1, by omega⟩
      have i1 : (i : Int) < (L : Int) - 1 := by omega
      go_wp2_with fail
      refine (hm.out.put (k := ki (i : Int)) (ki_ok (fits_of (by omega) (by omega))) (fits_of (by omega) (by omega)) (by rw [young_len]; omega) hL1 hL2).mono ?_
      rintro e w3 ⟨⟨u3, rfl⟩, hm3⟩
      rw [young_next L x i hlt] at hm3
      have HM3 := Lib.hid hm3
      clear hm3
      go_wp2_with fail
      go_roundg g
      case measure => omega
      case rel => exact ⟨i + 1, by go_num, by omega, by omega, HM3.out⟩
    · have i1 : ¬ (i : Int) < (L : Int) - 1 := by omega
      obtain rfl : i = L - 1 := by omega
      have b0 : wr.cell? ⟨w1'.heap.size, 0, none⟩ = _ := cell_of hm.out.box 0
      have b1 : wr.cell? ⟨w1'.heap.size, 1, none⟩ = _ := cell_of hm.out.box 1
      have b2 : wr.cell? ⟨w1'.heap.size, 2, none⟩ = _ := cell_of hm.out.box 2
      have b3 : wr.cell? ⟨w1'.heap.size, 3, none⟩ = _ := cell_of hm.out.box 3
      have b4 : wr.cell? ⟨w1'.heap.size, 4, none⟩ = _ := cell_of hm.out.box 4
      simp only [List.getElem?_toArray, List.getElem?_cons_zero, List.getElem?_cons_succ] at b0 b1 b2 b3 b4
      cases got
      · go_wp2_with fail
        refine (hm.out.put (k := ki 1000) (x := 5) (ki_ok (fits_of (by omega) (by omega))) (fits_of (by omega) (by omega)) (by rw [young_len]; omega) hL1 hL2).mono ?_
        rintro e w4 ⟨⟨u4, rfl⟩, hm4⟩
        have HM4 : Hid (MineB w w4 w1'.heap.size ownBox c M L (last L false x)) := hm4
        have d0 : w4.cell? ⟨w1'.heap.size, 0, none⟩ = _ := cell_of hm4.box 0
        have d1 : w4.cell? ⟨w1'.heap.size, 1, none⟩ = _ := cell_of hm4.box 1
        have d2 : w4.cell? ⟨w1'.heap.size, 2, none⟩ = _ := cell_of hm4.box 2
        have d3 : w4.cell? ⟨w1'.heap.size, 3, none⟩ = _ := cell_of hm4.box 3
        have d4 : w4.cell? ⟨w1'.heap.size, 4, none⟩ = _ := cell_of hm4.box 4
        simp only [List.getElem?_toArray, List.getElem?_cons_zero, List.getElem?_cons_succ] at d0 d1 d2 d3 d4
        clear hm4
        go_wp2_with fail
        refine (HM4.out.get own_ok).mono ?_
        rintro e w5 ⟨rfl, hm5⟩
        rw [HLast.out.2]
        have HM5 := Lib.hid hm5
        clear hm5
        go_wp2_with fail
        refine HM5.out.len.mono ?_
        rintro e w6 ⟨rfl, rfl⟩
        have hll : (cget (last L false x) own).length = L := by
          obtain ⟨v4, hA4, _⟩ := HM4.out.at_
          rw [cget_len hA4.good.1, HLast.out.1]
        rw [hll]
        go_wp2_with fail
        refine (awake_calls _).mono ?_
        rintro e w7 ⟨rfl, hb7⟩
        have HB7 : Hid (Below w.heap.size w w7) := HM5.out.below.trans (hb7.mono HM5.out.below.size)
        clear hb7
        go_wp2_with fail
        go_ret
        exact ⟨rfl, HB7.out⟩
      · go_wp2_with fail
        refine (hm.out.get own_ok).mono ?_
        rintro e w3 ⟨rfl, hm3⟩
        rw [young_own]
        have HM3 := Lib.hid hm3
        have b0 : w3.cell? ⟨w1'.heap.size, 0, none⟩ = _ := cell_of hm3.box 0
        have b1 : w3.cell? ⟨w1'.heap.size, 1, none⟩ = _ := cell_of hm3.box 1
        have b2 : w3.cell? ⟨w1'.heap.size, 2, none⟩ = _ := cell_of hm3.box 2
        have b3 : w3.cell? ⟨w1'.heap.size, 3, none⟩ = _ := cell_of hm3.box 3
        have b4 : w3.cell? ⟨w1'.heap.size, 4, none⟩ = _ := cell_of hm3.box 4
        simp only [List.getElem?_toArray, List.getElem?_cons_zero, List.getElem?_cons_succ] at b0 b1 b2 b3 b4
        clear hm3
        go_wp2_with fail
        refine (HM3.out.put (k := ki 1000) (x := 5) (ki_ok (fits_of (by omega) (by omega))) (fits_of (by omega) (by omega)) (by rw [got_len]; omega) hL1 hL2).mono ?_
        rintro e w4 ⟨⟨u4, rfl⟩, hm4⟩
        have HM4 : Hid (MineB w w4 w1'.heap.size ownBox c M L (last L true x)) := hm4
        have d0 : w4.cell? ⟨w1'.heap.size, 0, none⟩ = _ := cell_of hm4.box 0
        have d1 : w4.cell? ⟨w1'.heap.size, 1, none⟩ = _ := cell_of hm4.box 1
        have d2 : w4.cell? ⟨w1'.heap.size, 2, none⟩ = _ := cell_of hm4.box 2
        have d3 : w4.cell? ⟨w1'.heap.size, 3, none⟩ = _ := cell_of hm4.box 3
        have d4 : w4.cell? ⟨w1'.heap.size, 4, none⟩ = _ := cell_of hm4.box 4
        simp only [List.getElem?_toArray, List.getElem?_cons_zero, List.getElem?_cons_succ] at d0 d1 d2 d3 d4
        clear hm4
        go_wp2_with fail
        refine (HM4.out.get own_ok).mono ?_
        rintro e w5 ⟨rfl, hm5⟩
        rw [HLast.out.2]
        have HM5 := Lib.hid hm5
        clear hm5
        have hll : (cget (last L true x) own).length = L := by
          obtain ⟨v4, hA4, _⟩ := HM4.out.at_
          rw [cget_len hA4.good.1, HLast.out.1]
        by_cases hL : 1 < L
        · have hL3 : (1 : Int) < (L : Int) := by omega
          simp only [hL, decide_true, Bool.and_true, if_true, Option.getD_some, Option.isSome_some]
          go_wp2_with fail
          refine HM5.out.len.mono ?_
          rintro e w6 ⟨rfl, rfl⟩
          rw [hll]
          go_wp2_with fail
          refine (awake_calls _).mono ?_
          rintro e w7 ⟨rfl, hb7⟩
          have HB7 : Hid (Below w.heap.size w w7) := HM5.out.below.trans (hb7.mono HM5.out.below.size)
          clear hb7
          go_wp2_with fail
          go_ret
          exact ⟨rfl, HB7.out⟩
        · have hL3 : ¬ (1 : Int) < (L : Int) := by omega
          simp only [hL, decide_false, Bool.and_false, Bool.false_eq_true, if_false, Option.getD_none, Option.isSome_none]
          go_wp2_with fail
          refine HM5.out.len.mono ?_
          rintro e w6 ⟨rfl, rfl⟩
          rw [hll]
          go_wp2_with fail
          refine (awake_calls _).mono ?_
          rintro e w7 ⟨rfl, hb7⟩
          have HB7 : Hid (Below w.heap.size w w7) := HM5.out.below.trans (hb7.mono HM5.out.below.size)
          clear hb7
          go_wp2_with fail
          go_ret
          exact ⟨rfl, HB7.out⟩
end Go.Proofs.Ytkidnmjaioejaaa.Cx
