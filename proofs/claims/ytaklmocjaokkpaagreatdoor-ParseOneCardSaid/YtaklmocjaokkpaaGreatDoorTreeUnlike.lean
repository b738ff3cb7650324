/- Rows of names: is a text among them, are they all names and unlike; the program's and the document's, walked. Condition: at most 2^40 of them, each at most so long; the two errors of strconv hold interface values. -/
import Derived.Test.YtaklmocjaokkpaaGreatDoorTreeName
namespace Go.Proofs.YtaklmocjaokkpaaGreatDoor.Tr
set_option linter.unusedVariables false
set_option linter.unusedSimpArgs false
open Go.RowKit Go.Shelf Go.Proofs.YtaklmocjaokkpaaGreatDoor.Mem

theorem str_ne2 {s t : ByteArray} (h : ¬ s = t) : ¬ s.toList = t.toList := fun e => h (by
  rw [ByteArray.toList_eq, ByteArray.toList_eq] at e
  cases s with
  | mk a => cases t with
    | mk b =>
      simp only at e
      congr 1
      exact Array.toList_inj.1 e)
theorem memB_take (s x : ByteArray) (l : List ByteArray) (k : Nat) (h : l[k]? = some x) : memB s (l.take (k + 1)) = (memB s (l.take k) || decide (x = s)) := by
  unfold memB
  rw [List.take_add_one, h, List.any_append]
  simp
theorem memB_of {s : ByteArray} {l : List ByteArray} (h : s ∈ l) : memB s l = true := List.any_eq_true.2 ⟨s, h, decide_eq_true rfl⟩
theorem StrsIn.take {w : World} {ad : Option Addr} {n cap : Nat} {l : List ByteArray} (h : StrsIn w (.slice ad n cap) l) (hn : l.length = n) (k : Nat) (hk : k ≤ n) : StrsIn w (.slice ad k cap) (l.take k) := by
  obtain ⟨ad', cap', e, h2, h3, h4⟩ := h
  cases e
  refine ⟨ad, cap, ?_, ?_, h3, fun i s hi => ?_⟩
  · congr 1
    rw [List.length_take]
    omega
  · rw [List.length_take]; omega
  · rw [List.getElem?_take] at hi
    split at hi
    · exact h4 i s hi
    · cases hi
set_option maxRecDepth 100000 in
set_option maxHeartbeats 2000000 in
theorem rin_calls (s : ByteArray) (l : List ByteArray) (v : Value) (w : World) (h : StrsIn w v l) :
    Calls Tryz.prog 42 #[.string s, v] w fun e w' => e = .returned (.bool (memB s l)) ∧ w' = w := by
  obtain ⟨ad, cap, rfl, hlc, hcm, hel⟩ := h
  obtain ⟨n, hn⟩ : ∃ n, l.length = n := ⟨_, rfl⟩
  have HN := Lib.hid hn
  have HEL := Lib.hid hel
  rw [hn] at hlc ⊢
  have hmx : cap ≤ 9223372036854775807 := by unfold maxLen at hcm; omega
  obtain ⟨res, hres⟩ : ∃ res, memB s l = res := ⟨_, rfl⟩
  have HRES := Lib.hid hres
  rw [hres]
  clear hel hn hcm hres
  go_enter Tryz.func42, Tryz.ntmps42
  go_wp2_with fail
  go_loopg [8] (n + 1) (fun g vi wr => ∃ (k : Nat), vi = .int .i64 k ∧ k ≤ n ∧ n < g + k ∧ wr = w ∧ Hid (memB s (l.take k) = false))
  case atStart => exact ⟨0, rfl, by omega, by omega, rfl, rfl⟩
  case round =>
    obtain ⟨k, rfl, hk, hg, rfl, hno⟩ := hrel
    by_cases hlt : k < n
    · obtain ⟨gk', rfl⟩ : ∃ q, gk = q + 1 := ⟨gk - 1, by omega⟩
      obtain ⟨x, hx⟩ : ∃ x, l[k]? = some x := ⟨_, List.getElem?_eq_getElem (by rw [HN.out]; exact hlt)⟩
      obtain ⟨b, off, rfl, _, c0⟩ := HEL.out k x hx
      have HX := Lib.hid hx
      have i0 : (0 : Int) ≤ (k : Int) := by omega
      have i1 : (k : Int) < (n : Int) := by omega
      clear hx
      by_cases hxs : x = s
      · subst hxs
        have hr : res = true := by rw [← HRES.out]; exact memB_of (List.mem_of_getElem? HX.out)
        subst hr
        go_wp2_with fail
        go_ret
        exact ⟨rfl, rfl⟩
      · have HNX : Hid (memB s (l.take (k + 1)) = false) := by rw [memB_take s x l k HX.out, hno.out, decide_eq_false hxs]; rfl
        have t1 := str_ne2 hxs
        have u1 : (x.toList == s.toList) = false := beq_eq_false_iff_ne.2 t1
        clear hxs
        go_wp2_with fail
        go_roundg gk'
        case measure => omega
        case rel => exact ⟨k + 1, by go_num, by omega, by omega, rfl, HNX.out⟩
    · obtain rfl : k = n := by omega
      have hkk : ¬ (k : Int) < (k : Int) := by omega
      have hall : l.take k = l := List.take_of_length_le (by rw [HN.out]; exact Nat.le_refl _)
      have hr : res = false := by rw [← HRES.out, ← hall]; exact hno.out
      subst hr
      clear hall
      go_wp2_with fail
      go_ret
      exact ⟨rfl, rfl⟩
set_option maxRecDepth 100000 in
set_option maxHeartbeats 2000000 in
theorem sindex_calls (s : ByteArray) (l : List ByteArray) (v : Value) (w : World) (h : StrsIn w v l) :
    Calls Tryz.prog 78 #[v, .string s] w fun e w' => (∃ r : Int, e = .returned (.int .i64 r) ∧ decide (0 ≤ r) = memB s l) ∧ w' = w := by
  obtain ⟨ad, cap, rfl, hlc, hcm, hel⟩ := h
  obtain ⟨n, hn⟩ : ∃ n, l.length = n := ⟨_, rfl⟩
  have HN := Lib.hid hn
  have HEL := Lib.hid hel
  rw [hn] at hlc ⊢
  have hmx : cap ≤ 9223372036854775807 := by unfold maxLen at hcm; omega
  clear hel hn hcm
  go_enter Tryz.func78, Tryz.ntmps78
  go_wp2_with fail
  go_loopg [8] (n + 1) (fun g vi wr => ∃ (k : Nat), vi = .int .i64 k ∧ k ≤ n ∧ n < g + k ∧ wr = w ∧ Hid (memB s (l.take k) = false))
  case atStart => exact ⟨0, rfl, by omega, by omega, rfl, rfl⟩
  case round =>
    obtain ⟨k, rfl, hk, hg, rfl, hno⟩ := hrel
    by_cases hlt : k < n
    · obtain ⟨gk', rfl⟩ : ∃ q, gk = q + 1 := ⟨gk - 1, by omega⟩
      obtain ⟨x, hx⟩ : ∃ x, l[k]? = some x := ⟨_, List.getElem?_eq_getElem (by rw [HN.out]; exact hlt)⟩
      obtain ⟨b, off, rfl, _, c0⟩ := HEL.out k x hx
      have HX := Lib.hid hx
      have i0 : (0 : Int) ≤ (k : Int) := by omega
      have i1 : (k : Int) < (n : Int) := by omega
      clear hx
      by_cases hxs : s = x
      · subst hxs
        have HM : Hid (memB s l = true) := memB_of (List.mem_of_getElem? HX.out)
        go_wp2_with fail
        go_ret
        exact ⟨⟨(k : Int), rfl, by rw [HM.out]; exact decide_eq_true (by omega)⟩, rfl⟩
      · have HNX : Hid (memB s (l.take (k + 1)) = false) := by rw [memB_take s x l k HX.out, hno.out, decide_eq_false (fun e => hxs e.symm)]; rfl
        have t1 := str_ne2 hxs
        have u1 : (s.toList == x.toList) = false := beq_eq_false_iff_ne.2 t1
        clear hxs
        go_wp2_with fail
        go_roundg gk'
        case measure => omega
        case rel => exact ⟨k + 1, by go_num, by omega, by omega, rfl, HNX.out⟩
    · obtain rfl : k = n := by omega
      have hkk : ¬ (k : Int) < (k : Int) := by omega
      have hall : l.take k = l := List.take_of_length_le (by rw [HN.out]; exact Nat.le_refl _)
      have HM : Hid (memB s l = false) := by rw [← hall]; exact hno.out
      clear hall
      go_wp2_with fail
      go_ret
      exact ⟨⟨-1, rfl, by rw [HM.out]; rfl⟩, rfl⟩
theorem scontains_calls (s : ByteArray) (l : List ByteArray) (v : Value) (w : World) (h : StrsIn w v l) :
    Calls Tryz.prog 56 #[v, .string s] w fun e w' => e = .returned (.bool (memB s l)) ∧ w' = w := by
  have HI := Lib.hid (sindex_calls s l v w h)
  obtain ⟨ad, cap, rfl, hlc, hcm, hel⟩ := h
  obtain ⟨res, hres⟩ : ∃ res, memB s l = res := ⟨_, rfl⟩
  rw [hres] at HI ⊢
  clear hel hres hcm
  go_enter Tryz.func56, Tryz.ntmps56
  go_wp2_with fail
  refine HI.out.mono ?_
  rintro e w1 ⟨⟨r, rfl, hr⟩, hq⟩
  obtain rfl : w = w1 := hq.symm
  subst hr
  go_wp2_with fail
  go_ret
  exact ⟨rfl, rfl⟩
/-- A row of names that is right so far, and its next one. -/
theorem unlike_next {l : List ByteArray} {k : Nat} {x : ByteArray} (h : l[k]? = some x) : unlike (l.take (k + 1)) = (unlike (l.take k) && nameB x && !memB x (l.take k)) := by
  rw [List.take_add_one, h]
  exact unlike_snoc _ _
set_option maxRecDepth 100000 in
set_option maxHeartbeats 4000000 in
theorem rnames_calls (l : List ByteArray) (v : Value) (w : World) (h : StrsIn w v l) (hs : ∀ x ∈ l, x.size ≤ 1099511627776) :
    Calls Tryz.prog 53 #[v] w fun e w' => e = .returned (.bool (unlike l)) ∧ ∃ m, w' = w.drewN m := by
  have HST := Lib.hid h
  obtain ⟨ad, cap, rfl, hlc, hcm, hel⟩ := h
  obtain ⟨n, hn⟩ : ∃ n, l.length = n := ⟨_, rfl⟩
  have HN := Lib.hid hn
  have HEL := Lib.hid hel
  have HSZ := Lib.hid hs
  rw [hn] at hlc HST ⊢
  have hmx : cap ≤ 9223372036854775807 := by unfold maxLen at hcm; omega
  obtain ⟨res, hres⟩ : ∃ res, unlike l = res := ⟨_, rfl⟩
  have HRES := Lib.hid hres
  rw [hres]
  clear hel hn hcm hs hres
  go_enter Tryz.func53, Tryz.ntmps53
  go_wp2_with fail
  go_loopg [6] (n + 1) (fun g vi wr => ∃ (k m : Nat), vi = .int .i64 k ∧ k ≤ n ∧ n < g + k ∧ wr = w.drewN m ∧ Hid (unlike (l.take k) = true))
  case atStart => exact ⟨0, 0, rfl, by omega, by omega, rfl, rfl⟩
  case round =>
    obtain ⟨k, m, rfl, hk, hg, hwr, hno⟩ := hrel
    have hCw : Chg (fun _ => False) w wr := by rw [hwr]; exact (Chg.refl _ w).drewN m
    by_cases hlt : k < n
    · obtain ⟨gk', rfl⟩ : ∃ q, gk = q + 1 := ⟨gk - 1, by omega⟩
      obtain ⟨x, hx⟩ : ∃ x, l[k]? = some x := ⟨_, List.getElem?_eq_getElem (by rw [HN.out]; exact hlt)⟩
      obtain ⟨b, off, rfl, _, c0⟩ := HEL.out k x hx
      have c0r := hCw.cell c0 (fun e => e)
      have HX := Lib.hid hx
      have HU := Lib.hid (unlike_next hx)
      have HNM := Lib.hid (fun w => rname_calls x w (HSZ.out x (List.mem_of_getElem? hx)))
      have HIN := fun q => Lib.hid (rin_calls x (l.take k) _ (wr.drewN q) (((HST.out.take HN.out k hk).kept hCw).kept ((Chg.refl _ wr).drewN q)))
      have i0 : (0 : Int) ≤ (k : Int) := by omega
      have i1 : (k : Int) < (n : Int) := by omega
      have i2 : (k : Int) ≤ (cap : Int) := by omega
      have HW := Lib.hid hwr
      clear hx hwr c0
      rw [hno.out] at HU
      cases hnm : nameB x with
      | false =>
        rw [hnm] at HU HNM
        have hr : res = false := by rw [← HRES.out]; exact unlike_take l (k + 1) (by rw [HU.out]; rfl)
        subst hr
        clear hnm
        go_wp2_with fail
        go_quiet ((go_at_call 52; exact Calls.quiet_of_same (HNM.out _)))
        go_wp2_with fail
        go_ret
        exact ⟨rfl, _, by rw [HW.out]; exact World.drewN_drewN _ _ _⟩
      | true =>
        rw [hnm] at HU HNM
        cases hmb : memB x (l.take k) with
        | true =>
          rw [hmb] at HU HIN
          have hr : res = false := by rw [← HRES.out]; exact unlike_take l (k + 1) (by rw [HU.out]; rfl)
          subst hr
          clear hnm hmb
          go_wp2_with fail
          go_quiet (first
            | (go_at_call 52; exact Calls.quiet_of_same (HNM.out _))
            | (go_at_call 42; exact Calls.quiet_of_same (HIN _).out))
          go_wp2_with fail
          go_ret
          exact ⟨rfl, _, by rw [HW.out]; exact World.drewN_drewN _ _ _⟩
        | false =>
          rw [hmb] at HU HIN
          have HU2 : Hid (unlike (l.take (k + 1)) = true) := by rw [HU.out]; rfl
          clear hnm hmb
          go_wp2_with fail
          go_quiet (first
            | (go_at_call 52; exact Calls.quiet_of_same (HNM.out _))
            | (go_at_call 42; exact Calls.quiet_of_same (HIN _).out))
          go_wp2_with fail
          go_roundg gk'
          case measure => omega
          case rel => exact ⟨k + 1, _, by go_num, by omega, by omega, by rw [HW.out]; exact World.drewN_drewN _ _ _, HU2.out⟩
    · obtain rfl : k = n := by omega
      have hkk : ¬ (k : Int) < (k : Int) := by omega
      have hall : l.take k = l := List.take_of_length_le (by rw [HN.out]; exact Nat.le_refl _)
      have hr : res = true := by rw [← HRES.out, ← hall]; exact hno.out
      subst hr
      have HW := Lib.hid hwr
      clear hall hwr
      go_wp2_with fail
      go_ret
      exact ⟨rfl, _, HW.out⟩
set_option maxRecDepth 100000 in
set_option maxHeartbeats 4000000 in
theorem tunlike_calls (l : List ByteArray) (v : Value) (w : World) (h : StrsIn w v l) (hgl : Lx.Glob w) :
    Calls Tryz.prog 65 #[v] w fun e w' => e = .returned (.bool (unlike l)) ∧ Chg (fun _ => False) w w' := by
  have HST := Lib.hid h
  obtain ⟨ad, cap, rfl, hlc, hcm, hel⟩ := h
  obtain ⟨n, hn⟩ : ∃ n, l.length = n := ⟨_, rfl⟩
  have HN := Lib.hid hn
  have HEL := Lib.hid hel
  have HGL := Lib.hid hgl
  rw [hn] at hlc HST ⊢
  have hmx : cap ≤ 9223372036854775807 := by unfold maxLen at hcm; omega
  obtain ⟨res, hres⟩ : ∃ res, unlike l = res := ⟨_, rfl⟩
  have HRES := Lib.hid hres
  rw [hres]
  clear hel hn hcm hgl hres
  go_enter Tryz.func65, Tryz.ntmps65
  go_wp2_with fail
  go_loopg [7] (n + 1) (fun g vi wr => ∃ (k : Nat), vi = .int .i64 k ∧ k ≤ n ∧ n < g + k ∧ Hid (Chg (fun _ => False) w wr) ∧ Hid (unlike (l.take k) = true))
  case atStart => exact ⟨0, rfl, by omega, by omega, Lib.hid (Chg.refl _ _), rfl⟩
  case round =>
    obtain ⟨k, rfl, hk, hg, hCw, hno⟩ := hrel
    by_cases hlt : k < n
    · obtain ⟨gk', rfl⟩ : ∃ q, gk = q + 1 := ⟨gk - 1, by omega⟩
      obtain ⟨x, hx⟩ : ∃ x, l[k]? = some x := ⟨_, List.getElem?_eq_getElem (by rw [HN.out]; exact hlt)⟩
      obtain ⟨b, off, rfl, _, c0⟩ := HEL.out k x hx
      have c0r := hCw.out.cell c0 (fun e => e)
      have HU := Lib.hid (unlike_next hx)
      have HNM := Lib.hid (tname_calls x wr (glob_later HGL.out hCw.out))
      have HIN := Lib.hid (fun W (hW : Chg (fun _ => False) wr W) => scontains_calls x (l.take k) _ W (((HST.out.take HN.out k hk).kept hCw.out).kept hW))
      have i0 : (0 : Int) ≤ (k : Int) := by omega
      have i1 : (k : Int) < (n : Int) := by omega
      have i2 : (k : Int) ≤ (cap : Int) := by omega
      clear hx c0
      rw [hno.out] at HU
      cases hnm : nameB x with
      | false =>
        rw [hnm] at HU HNM
        have hr : res = false := by rw [← HRES.out]; exact unlike_take l (k + 1) (by rw [HU.out]; rfl)
        subst hr
        clear hnm
        go_wp2_with fail
        refine HNM.out.mono ?_
        rintro e w1 ⟨rfl, hC1⟩
        have HC1 := Lib.hid (hCw.out.trans hC1)
        clear hC1 HNM
        go_wp2_with fail
        go_ret
        exact ⟨rfl, HC1.out⟩
      | true =>
        rw [hnm] at HU HNM
        cases hmb : memB x (l.take k) with
        | true =>
          rw [hmb] at HU HIN
          have hr : res = false := by rw [← HRES.out]; exact unlike_take l (k + 1) (by rw [HU.out]; rfl)
          subst hr
          clear hnm hmb
          go_wp2_with fail
          refine HNM.out.mono ?_
          rintro e w1 ⟨rfl, hC1⟩
          have HC1 := Lib.hid (hCw.out.trans hC1)
          have HI1 := Lib.hid (HIN.out w1 hC1)
          clear hC1 HNM
          go_wp2_with fail
          refine HI1.out.mono ?_
          rintro e w2 ⟨rfl, hq⟩
          obtain rfl : w1 = w2 := hq.symm
          go_wp2_with fail
          go_ret
          exact ⟨rfl, HC1.out⟩
        | false =>
          rw [hmb] at HU HIN
          have HU2 : Hid (unlike (l.take (k + 1)) = true) := by rw [HU.out]; rfl
          clear hnm hmb
          go_wp2_with fail
          refine HNM.out.mono ?_
          rintro e w1 ⟨rfl, hC1⟩
          have HC1 := Lib.hid (hCw.out.trans hC1)
          have HI1 := Lib.hid (HIN.out w1 hC1)
          clear hC1 HNM
          go_wp2_with fail
          refine HI1.out.mono ?_
          rintro e w2 ⟨rfl, hq⟩
          obtain rfl : w1 = w2 := hq.symm
          go_wp2_with fail
          go_roundg gk'
          case measure => omega
          case rel => exact ⟨k + 1, by go_num, by omega, by omega, HC1.out, HU2.out⟩
    · obtain rfl : k = n := by omega
      have hkk : ¬ (k : Int) < (k : Int) := by omega
      have hall : l.take k = l := List.take_of_length_le (by rw [HN.out]; exact Nat.le_refl _)
      have hr : res = true := by rw [← HRES.out, ← hall]; exact hno.out
      subst hr
      clear hall
      go_wp2_with fail
      go_ret
      exact ⟨rfl, hCw.out⟩
end Go.Proofs.YtaklmocjaokkpaaGreatDoor.Tr
