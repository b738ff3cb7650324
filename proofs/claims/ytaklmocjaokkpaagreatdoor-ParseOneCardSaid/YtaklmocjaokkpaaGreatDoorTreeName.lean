/- Names: the program's and the document's, walked. Condition: the two errors of strconv hold interface values. -/
import Derived.Test.YtaklmocjaokkpaaGreatDoorTreePlain
import Derived.Test.YtaklmocjaokkpaaGreatDoorTreeSizes
import Derived.Test.YtaklmocjaokkpaaGreatDoorLexD
namespace Go.Proofs.YtaklmocjaokkpaaGreatDoor.Tr
set_option linter.unusedVariables false
set_option linter.unusedSimpArgs false
open Go.RowKit Go.Shelf Go.Proofs.YtaklmocjaokkpaaGreatDoor.Mem

theorem of_below {w w' : World} (h : Below w.heap.size w w') : Chg (fun _ => False) w w' := ⟨h.os, h.tape, h.output, h.size, fun k hk _ => h.block k hk⟩
theorem to_below {w w' : World} (h : Chg (fun _ => False) w w') : Below w.heap.size w w' := h.toBelow (Nat.le_refl _) (fun _ _ e => e.elim)
theorem glob_later {w w' : World} (h : Lx.Glob w) (hc : Chg (fun _ => False) w w') : Lx.Glob w' := h.later (to_below hc)
theorem rword_any (s : ByteArray) (w : World) (hs : s.size ≤ 1099511627776) :
    Calls Tryz.prog 76 #[.string s] w fun e w' => e = .returned (.bool (word s)) ∧ w' = w := by
  by_cases h : s.size ≤ 65536
  · exact Lx.rWord_calls s w h
  · have hw : word s = false := by
      unfold word Lx.wordB
      rw [decide_eq_false (by rw [Lx.len_is]; omega)]
      simp
    rw [hw]
    have h1 : (65536 : Int) < (s.size : Int) := by omega
    have h2 : ¬ s = ⟨#[]⟩ := by rintro rfl; exact h (by decide)
    have h3 : s.toList.isEmpty = false := by
      rw [ByteArray.toList_eq]
      cases hl : s.data.toList with
      | nil =>
        exfalso
        have := Lx.len_is s
        rw [hl] at this
        simp at this
        omega
      | cons => rfl
    clear hw
    go_enter Tryz.func76, Tryz.ntmps76
    go_wp2_with fail
    go_ret
    exact ⟨rfl, rfl⟩
theorem name_true : nameB sTrue = false := by unfold nameB; rw [decide_eq_true (rfl : sTrue = sTrue)]; simp
theorem name_false : nameB sFalse = false := by unfold nameB; rw [decide_eq_true (rfl : sFalse = sFalse)]; simp
theorem name_unit : nameB sUnit = false := by unfold nameB; rw [decide_eq_true (rfl : sUnit = sUnit)]; simp
theorem name_else {s : ByteArray} (h1 : ¬ s = sTrue) (h2 : ¬ s = sFalse) (h3 : ¬ s = sUnit) : nameB s = word s := by
  unfold nameB
  rw [decide_eq_false h1, decide_eq_false h2, decide_eq_false h3]; simp
theorem str_ne {s : ByteArray} {l : List UInt8} (h : ¬ s = ⟨l.toArray⟩) : ¬ s.toList = l := fun e => h (by
  rw [ByteArray.toList_eq] at e
  cases s
  simp only at e
  rw [← e])
set_option maxHeartbeats 2000000 in
theorem tname_calls (s : ByteArray) (w : World) (hg : Lx.Glob w) : Calls Tryz.prog 89 #[.string s] w fun e w' => e = .returned (.bool (nameB s)) ∧ Chg (fun _ => False) w w' := by
  have HW := Lib.hid (fun w hg => Lx.lword_calls s w hg)
  have HG := Lib.hid hg
  clear hg
  by_cases h1 : s = sTrue
  · subst h1
    rw [name_true]
    unfold sTrue
    go_enter Tryz.func89, Tryz.ntmps89
    go_wp2_with fail
    go_ret
    exact ⟨rfl, Chg.refl _ _⟩
  by_cases h2 : s = sFalse
  · subst h2
    rw [name_false]
    unfold sFalse
    go_enter Tryz.func89, Tryz.ntmps89
    go_wp2_with fail
    go_ret
    exact ⟨rfl, Chg.refl _ _⟩
  by_cases h3 : s = sUnit
  · subst h3
    rw [name_unit]
    unfold sUnit
    go_enter Tryz.func89, Tryz.ntmps89
    go_wp2_with fail
    go_ret
    exact ⟨rfl, Chg.refl _ _⟩
  rw [name_else h1 h2 h3]
  have t1 : ¬ s.toList = [116, 114, 117, 101] := str_ne h1
  have t2 : ¬ s.toList = [102, 97, 108, 115, 101] := str_ne h2
  have t3 : ¬ s.toList = [117, 110, 105, 116] := str_ne h3
  have u1 : (s.toList == [116, 114, 117, 101]) = false := beq_eq_false_iff_ne.2 t1
  have u2 : (s.toList == [102, 97, 108, 115, 101]) = false := beq_eq_false_iff_ne.2 t2
  have u3 : (s.toList == [117, 110, 105, 116]) = false := beq_eq_false_iff_ne.2 t3
  have HW2 := Lib.hid (HW.out w HG.out)
  obtain ⟨res, hres⟩ : ∃ res, word s = res := ⟨_, rfl⟩
  have hres2 : Lx.wordB s.data.toList = res := hres
  rw [hres2] at HW2
  rw [hres]
  clear hres hres2 h1 h2 h3
  go_enter Tryz.func89, Tryz.ntmps89
  go_wp2_with fail
  refine HW2.out.mono ?_
  rintro e w1 ⟨rfl, hb⟩
  have HB := Lib.hid (of_below hb)
  clear hb HW2
  go_wp2_with fail
  go_ret
  exact ⟨rfl, HB.out⟩
set_option maxHeartbeats 2000000 in
theorem rname_calls (s : ByteArray) (w : World) (hs : s.size ≤ 1099511627776) : Calls Tryz.prog 52 #[.string s] w fun e w' => e = .returned (.bool (nameB s)) ∧ w' = w := by
  have HW := Lib.hid (rword_any s w hs)
  obtain ⟨res, hres⟩ : ∃ res, word s = res := ⟨_, rfl⟩
  rw [hres] at HW
  cases res with
  | false =>
    have hn : nameB s = false := by unfold nameB; rw [hres]; simp
    rw [hn]
    clear hres hn
    go_enter Tryz.func52, Tryz.ntmps52
    go_wp2_with fail
    refine HW.out.mono ?_
    rintro e w1 ⟨rfl, hq⟩
    obtain rfl : w = w1 := hq.symm
    go_wp2_with fail
    go_ret
    exact ⟨rfl, rfl⟩
  | true =>
    by_cases h1 : s = sTrue
    · subst h1
      rw [name_true]
      unfold sTrue at *
      clear hres
      go_enter Tryz.func52, Tryz.ntmps52
      go_wp2_with fail
      refine HW.out.mono ?_
      rintro e w1 ⟨rfl, hq⟩
      obtain rfl : w = w1 := hq.symm
      go_wp2_with fail
      go_ret
      exact ⟨rfl, rfl⟩
    by_cases h2 : s = sFalse
    · subst h2
      rw [name_false]
      unfold sFalse at *
      clear hres h1
      go_enter Tryz.func52, Tryz.ntmps52
      go_wp2_with fail
      refine HW.out.mono ?_
      rintro e w1 ⟨rfl, hq⟩
      obtain rfl : w = w1 := hq.symm
      go_wp2_with fail
      go_ret
      exact ⟨rfl, rfl⟩
    by_cases h3 : s = sUnit
    · subst h3
      rw [name_unit]
      unfold sUnit at *
      clear hres h1 h2
      go_enter Tryz.func52, Tryz.ntmps52
      go_wp2_with fail
      refine HW.out.mono ?_
      rintro e w1 ⟨rfl, hq⟩
      obtain rfl : w = w1 := hq.symm
      go_wp2_with fail
      go_ret
      exact ⟨rfl, rfl⟩
    rw [name_else h1 h2 h3, hres]
    have t1 : ¬ s.toList = [116, 114, 117, 101] := str_ne h1
    have t2 : ¬ s.toList = [102, 97, 108, 115, 101] := str_ne h2
    have t3 : ¬ s.toList = [117, 110, 105, 116] := str_ne h3
    have u1 : (s.toList == [116, 114, 117, 101]) = false := beq_eq_false_iff_ne.2 t1
    have u2 : (s.toList == [102, 97, 108, 115, 101]) = false := beq_eq_false_iff_ne.2 t2
    have u3 : (s.toList == [117, 110, 105, 116]) = false := beq_eq_false_iff_ne.2 t3
    clear hres h1 h2 h3
    go_enter Tryz.func52, Tryz.ntmps52
    go_wp2_with fail
    refine HW.out.mono ?_
    rintro e w1 ⟨rfl, hq⟩
    obtain rfl : w = w1 := hq.symm
    go_wp2_with fail
    go_ret
    exact ⟨rfl, rfl⟩
end Go.Proofs.YtaklmocjaokkpaaGreatDoor.Tr
