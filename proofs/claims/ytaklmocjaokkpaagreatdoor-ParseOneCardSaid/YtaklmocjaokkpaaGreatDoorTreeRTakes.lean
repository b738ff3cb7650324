/- How many parts a word takes: the document's answer, walked. No condition. -/
import Derived.Test.YtaklmocjaokkpaaGreatDoorTreeTakes
import Derived.Test.YtaklmocjaokkpaaGreatDoorTreeUnlike
import Derived.Shelf.Abstract
namespace Go.Proofs.YtaklmocjaokkpaaGreatDoor.Tr
set_option linter.unusedVariables false
set_option linter.unusedSimpArgs false
open Go.RowKit Go.Shelf Go.Proofs.YtaklmocjaokkpaaGreatDoor.Mem

def ones9 : List ByteArray := [⟨#[110, 101, 103]⟩, ⟨#[110, 111, 116]⟩, ⟨#[108, 101, 110]⟩, ⟨#[105, 56]⟩, ⟨#[105, 49, 54]⟩, ⟨#[105, 51, 50]⟩, ⟨#[117, 56]⟩, ⟨#[117, 49, 54]⟩, ⟨#[117, 51, 50]⟩]
def fives : List ByteArray := [⟨#[102, 115, 116]⟩, ⟨#[115, 110, 100]⟩, ⟨#[99, 101, 108, 108]⟩, ⟨#[103, 101, 116]⟩, ⟨#[111, 117, 116]⟩]
def twos15 : List ByteArray := [⟨#[43]⟩, ⟨#[45]⟩, ⟨#[42]⟩, ⟨#[47]⟩, ⟨#[37]⟩, ⟨#[97, 110, 100]⟩, ⟨#[111, 114]⟩, ⟨#[120, 111, 114]⟩, ⟨#[115, 104, 108]⟩, ⟨#[115, 104, 114]⟩, ⟨#[117, 115, 104, 114]⟩, ⟨#[60]⟩, ⟨#[61]⟩, ⟨#[99, 97, 116]⟩, ⟨#[97, 116]⟩]
def sPair : ByteArray := ⟨#[112, 97, 105, 114]⟩
def sSet : ByteArray := ⟨#[115, 101, 116]⟩
def sIn : ByteArray := ⟨#[105, 110]⟩
theorem bytes_eq (s : ByteArray) (l : List UInt8) : (s.data.toList = l) ↔ s = ⟨l.toArray⟩ := by
  constructor
  · intro h; apply ByteArray.ext; rw [← h]
  · intro h; rw [h]
theorem tl_ne {s : ByteArray} (l : List UInt8) (h : ¬ s = ⟨l.toArray⟩) : (s.toList == l) = false :=
  beq_eq_false_iff_ne.2 (fun e => h ((bytes_eq s l).1 (by rw [← ByteArray.toList_eq]; exact e)))
theorem memB_iff (s : ByteArray) (l : List ByteArray) : memB s l = true ↔ s ∈ l := by
  unfold memB
  rw [List.any_eq_true]
  constructor
  · rintro ⟨x, h1, h2⟩; rw [← of_decide_eq_true h2]; exact h1
  · intro h; exact ⟨s, h, decide_eq_true rfl⟩
theorem ones_iff (s : ByteArray) : s.data.toList ∈ onesL ↔ (memB s ones9 = true ∨ memB s fives = true) := by
  rw [memB_iff, memB_iff]
  simp only [onesL, ones9, fives, List.mem_cons, List.not_mem_nil, or_false, bytes_eq]
  simp only [or_assoc]
theorem twos_iff (s : ByteArray) : s.data.toList ∈ twosL ↔ (memB s twos15 = true ∨ s = sPair ∨ s = sSet) := by
  rw [memB_iff]
  simp only [twosL, twos15, sPair, sSet, List.mem_cons, List.not_mem_nil, or_false, bytes_eq]
  simp only [or_assoc]
theorem takes_is (s : ByteArray) : takes s = if s = sIn then 0 else if memB s ones9 = true ∨ memB s fives = true then 1 else if memB s twos15 = true ∨ s = sPair ∨ s = sSet then 2 else -1 := by
  unfold takes takesL
  simp only [ones_iff, twos_iff, bytes_eq]
  rfl
theorem strs_in {W : World} {b : Nat} {l : List ByteArray} {t : TypeId} {fr : Nat × Nat} (h : W.heap[b]? = some (.cells (l.map Value.string).toArray t fr)) (n : Nat) (hn : l.length = n) (hm : n ≤ maxLen) : StrsIn W (.slice (some ⟨b, 0, none⟩) n n) l := by
  subst hn
  refine ⟨_, _, rfl, Nat.le_refl _, hm, fun i s hi => ⟨b, 0, rfl, lt_of_block h, ?_⟩⟩
  rw [Nat.zero_add, cell_of h]
  simp [hi]
set_option maxRecDepth 100000 in
set_option maxHeartbeats 2000000 in
theorem ones_calls (w : World) : Calls Tryz.prog 43 #[] w fun e w' => e = .returned (.slice (some ⟨w.heap.size, 0, none⟩) 9 9) ∧ w' = w.alloc (.cells (ones9.map Value.string).toArray 9) := by
  go_enter Tryz.func43, Tryz.ntmps43
  go_wp2_with fail
  go_ret
  exact ⟨rfl, rfl⟩
set_option maxRecDepth 100000 in
set_option maxHeartbeats 2000000 in
theorem twos_calls (w : World) : Calls Tryz.prog 44 #[] w fun e w' => e = .returned (.slice (some ⟨w.heap.size, 0, none⟩) 15 15) ∧ w' = w.alloc (.cells (twos15.map Value.string).toArray 9) := by
  go_enter Tryz.func44, Tryz.ntmps44
  go_wp2_with fail
  go_ret
  exact ⟨rfl, rfl⟩
set_option maxRecDepth 100000 in
set_option maxHeartbeats 4000000 in
theorem rtakes_calls (s : ByteArray) (w : World) : Calls Tryz.prog 25 #[.string s] w fun e w' => e = .returned (.int .i64 (takes s)) ∧ Chg (fun _ => False) w w' := by
  have H9 := Lib.hid (rin_calls s ones9 _ _ (strs_in (blk_new w (.cells (ones9.map Value.string).toArray 9)) 9 rfl (by decide)))
  have H5 := Lib.hid (fun W => rin_calls s fives _ _ (strs_in (blk_new W (.cells (fives.map Value.string).toArray 9)) 5 rfl (by decide)))
  have H15 := Lib.hid (fun W => rin_calls s twos15 _ _ (strs_in (blk_new W (.cells (twos15.map Value.string).toArray 9)) 15 rfl (by decide)))
  have HO := Lib.hid (ones_calls w)
  have HT := Lib.hid (fun W => twos_calls W)
  obtain ⟨res, hres⟩ : ∃ res, takes s = res := ⟨_, rfl⟩
  rw [hres]
  rw [takes_is] at hres
  obtain ⟨m9, hm9⟩ : ∃ m9, memB s ones9 = m9 := ⟨_, rfl⟩
  obtain ⟨m5, hm5⟩ : ∃ m5, memB s fives = m5 := ⟨_, rfl⟩
  obtain ⟨m15, hm15⟩ : ∃ m15, memB s twos15 = m15 := ⟨_, rfl⟩
  rw [hm9, hm5, hm15] at hres
  rw [hm9] at H9
  rw [hm5] at H5
  rw [hm15] at H15
  have HRES := Lib.hid hres
  clear hres hm9 hm5 hm15
  obtain ⟨w9, hw9⟩ : ∃ w9, w.alloc (.cells (ones9.map Value.string).toArray 9) = w9 := ⟨_, rfl⟩
  rw [hw9] at H9 HO
  have HC9 : Hid (Chg (fun _ => False) w w9) := Lib.hid (by rw [← hw9]; exact (Chg.refl _ w).alloc _)
  clear hw9
  go_enter Tryz.func25, Tryz.ntmps25
  by_cases e0 : s = sIn
  · have hr : res = 0 := by rw [← HRES.out, if_pos e0]
    subst hr
    subst e0
    unfold sIn
    go_wp2_with fail
    go_ret
    exact ⟨rfl, Chg.refl _ _⟩
  have q2 := tl_ne [105, 110] e0
  have E0 := Lib.hid e0
  clear e0
  go_wp2_with fail
  refine HO.out.mono ?_
  rintro e w1 ⟨rfl, hq⟩
  obtain rfl : w9 = w1 := hq.symm
  clear HO
  go_wp2_with fail
  refine H9.out.mono ?_
  rintro e w1 ⟨rfl, hq⟩
  obtain rfl : w9 = w1 := hq.symm
  clear H9
  cases m9 with
  | true =>
    have hr : res = 1 := by rw [← HRES.out, if_neg E0.out, if_pos (.inl rfl)]
    subst hr
    go_wp2_with fail
    go_ret
    exact ⟨rfl, HC9.out⟩
  | false =>
    go_wp2_with fail
    refine (H5.out _).mono ?_
    rintro e w1 ⟨rfl, hq⟩
    have HC5 : Hid (Chg (fun _ => False) w w1) := Lib.hid (by rw [hq]; exact HC9.out.alloc _)
    clear H5 hq HC9
    cases m5 with
    | true =>
      have hr : res = 1 := by rw [← HRES.out, if_neg E0.out, if_pos (.inr rfl)]
      subst hr
      go_wp2_with fail
      go_ret
      exact ⟨rfl, HC5.out⟩
    | false =>
      go_wp2_with fail
      refine (HT.out _).mono ?_
      rintro e w2 ⟨rfl, hq⟩
      subst hq
      go_wp2_with fail
      refine (H15.out _).mono ?_
      rintro e w3 ⟨rfl, hq⟩
      have HC3 : Hid (Chg (fun _ => False) w w3) := Lib.hid (by rw [hq]; exact HC5.out.alloc _)
      clear H15 hq HC5 HT
      cases m15 with
      | true =>
        have hr : res = 2 := by rw [← HRES.out, if_neg E0.out, if_neg (by simp), if_pos (.inl rfl)]
        subst hr
        go_wp2_with fail
        go_ret
        exact ⟨rfl, HC3.out⟩
      | false =>
        by_cases e1 : s = sPair
        · have hr : res = 2 := by rw [← HRES.out, if_neg E0.out, if_neg (by simp), if_pos (.inr (.inl e1))]
          subst hr
          subst e1
          unfold sPair
          go_wp2_with fail
          go_ret
          exact ⟨rfl, HC3.out⟩
        have p2 := tl_ne [112, 97, 105, 114] e1
        have E1 := Lib.hid e1
        clear e1
        by_cases e2 : s = sSet
        · have hr : res = 2 := by rw [← HRES.out, if_neg E0.out, if_neg (by simp), if_pos (.inr (.inr e2))]
          subst hr
          subst e2
          unfold sSet
          go_wp2_with fail
          go_ret
          exact ⟨rfl, HC3.out⟩
        have t2 := tl_ne [115, 101, 116] e2
        have hr : res = -1 := by rw [← HRES.out, if_neg E0.out, if_neg (by simp), if_neg (fun h => h.elim (fun h => by cases h) (fun h => h.elim E1.out e2))]
        subst hr
        clear e2
        go_wp2_with fail
        go_ret
        exact ⟨rfl, HC3.out⟩
end Go.Proofs.YtaklmocjaokkpaaGreatDoor.Tr
