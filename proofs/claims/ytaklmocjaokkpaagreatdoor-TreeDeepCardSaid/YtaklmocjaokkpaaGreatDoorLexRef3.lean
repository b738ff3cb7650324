/- The reference's number, word of the lexer, walked. No condition but a source's size. -/
import Derived.Test.YtaklmocjaokkpaaGreatDoorLexEnds
import Derived.Test.YtaklmocjaokkpaaGreatDoorLexNum
namespace Go.Proofs.YtaklmocjaokkpaaGreatDoor.Lx
open Go.RowKit Go.Proofs.YtaklmocjaokkpaaGreatDoor.Mem

def NumV (w : List UInt8) (n : Int) (is fits : Bool) : Prop :=
  is = isNum w ∧ (isNum w = true → (fits = true → Lib.parseIntB 64 w = .ok n) ∧ (fits = false → ∀ x, Lib.parseIntB 64 w ≠ .ok x))
def NumEnds (l : List UInt8) (w : World) (e : Ending) (w' : World) : Prop := (∃ n is fits, e = .returned (.tuple #[.int .i64 n, .bool is, .bool fits]) ∧ NumV l n is fits) ∧ w' = w
theorem NumEnds.no {l : List UInt8} {w : World} (h : isNum l = false) : NumEnds l w (.returned (.tuple #[.int .i64 0, .bool false, .bool false])) w :=
  ⟨⟨0, false, false, rfl, h.symm, fun h2 => by rw [h] at h2; cases h2⟩, rfl⟩

/-- What holds of the digits that have been read: all are digits; the number, below nought, is theirs, or they are too great. -/
def Acc (pre : List UInt8) (n : Int) (f : Bool) : Prop :=
  pre.all isDigit = true ∧ -9223372036854775808 ≤ n ∧ n ≤ 0 ∧ (f = true → n = -(val 0 pre : Int)) ∧ (f = false → 9223372036854775808 < val 0 pre)
theorem Acc.nil : Acc [] 0 true := ⟨rfl, by omega, by omega, fun _ => by rw [val_nil]; rfl, fun h => by cases h⟩

theorem tdiv_is (d : Int) (h0 : 0 ≤ d) (h9 : d ≤ 9) : (-9223372036854775808 + d).tdiv 10 = -((9223372036854775808 - d) / 10) := by
  have e : -9223372036854775808 + d = -(9223372036854775808 - d) := by omega
  rw [e, Int.neg_tdiv, Int.tdiv_eq_ediv_of_nonneg (by omega)]
theorem Acc.big {pre : List UInt8} {n : Int} {f : Bool} {c : UInt8} (h : Acc pre n f) (h1 : 48 ≤ c.toNat) (h2 : c.toNat ≤ 57) (ht : n < (-9223372036854775808 + ((c.toNat : Int) - 48)).tdiv 10) : Acc (pre ++ [c]) n false := by
  obtain ⟨a1, a2, a3, a4, a5⟩ := h
  rw [tdiv_is _ (by omega) (by omega)] at ht
  refine ⟨by rw [List.all_append, a1]; simp [isDigit, h1, h2], a2, a3, (fun h => by cases h), fun _ => ?_⟩
  rw [val_snoc]
  cases f with
  | true => have := a4 rfl; omega
  | false => have := a5 rfl; omega
theorem Acc.go {pre : List UInt8} {n : Int} {f : Bool} {c : UInt8} (h : Acc pre n f) (h1 : 48 ≤ c.toNat) (h2 : c.toNat ≤ 57) (ht : (-9223372036854775808 + ((c.toNat : Int) - 48)).tdiv 10 ≤ n) : Acc (pre ++ [c]) (10 * n - ((c.toNat : Int) - 48)) f := by
  obtain ⟨a1, a2, a3, a4, a5⟩ := h
  rw [tdiv_is _ (by omega) (by omega)] at ht
  refine ⟨by rw [List.all_append, a1]; simp [isDigit, h1, h2], by omega, by omega, fun h => ?_, fun h => ?_⟩
  · rw [val_snoc]; have := a4 h; omega
  · rw [val_snoc]; have := a5 h; omega
theorem take_snoc (s : ByteArray) (a k : Nat) (ha : a ≤ k) (hk : k < s.size) : (s.data.toList.drop a).take (k + 1 - a) = (s.data.toList.drop a).take (k - a) ++ [s[k]] := by
  have e : k + 1 - a = (k - a) + 1 := by omega
  rw [e, List.take_add_one]
  have : (s.data.toList.drop a)[k - a]? = some s[k] := by rw [List.getElem?_drop, show a + (k - a) = k by omega]; exact at_get s k hk
  rw [this]; rfl
theorem take_all (s : ByteArray) (a : Nat) : (s.data.toList.drop a).take (s.size - a) = s.data.toList.drop a := List.take_of_length_le (by rw [List.length_drop, len_is]; omega)
/-- A byte that is no digit. -/
theorem no_digit (s : ByteArray) (a k : Nat) (ha : a ≤ k) (hk : k < s.size) (hd : digW s.data.toList = s.data.toList.drop a) (h : ¬ (48 ≤ s[k].toNat ∧ s[k].toNat ≤ 57)) : isNum s.data.toList = false := by
  rw [isNum_is, hd]
  have hx : (s.data.toList.drop a)[k - a]? = some s[k] := by rw [List.getElem?_drop, show a + (k - a) = k by omega]; exact at_get s k hk
  have : (s.data.toList.drop a).all isDigit = false := by
    rw [List.all_eq_false]
    refine ⟨s[k], List.mem_of_getElem? hx, ?_⟩
    unfold isDigit
    simp only [Bool.and_eq_true, decide_eq_true_eq]
    exact h
  rw [this, Bool.and_false]
theorem Acc.num {l : List UInt8} {n : Int} {f : Bool} (h : Acc (digW l) n f) (hne : digW l ≠ []) : isNum l = true := by
  rw [isNum_is, h.1, Bool.and_true]
  cases hd : digW l with
  | nil => exact absurd hd hne
  | cons a r => rfl
theorem end_neg {l : List UInt8} {n : Int} {f : Bool} (h : Acc (digW l) n f) (hne : digW l ≠ []) (hn : negW l = true) : NumV l n true f := by
  have hN := h.num hne
  obtain ⟨a1, a2, a3, a4, a5⟩ := h
  have ht : topW l = 9223372036854775808 := by unfold topW; rw [if_pos hn]
  refine ⟨hN.symm, fun _ => ⟨fun hf => ?_, fun hf x => ?_⟩⟩
  · rw [parse_num l hN, ht, hn]
    have := a4 hf
    rw [if_pos (by omega), if_pos rfl, ← this]
  · rw [parse_num l hN, ht]
    have := a5 hf
    rw [if_neg (by omega)]
    intro h; cases h
theorem end_pos {l : List UInt8} {n : Int} {f : Bool} (h : Acc (digW l) n f) (hne : digW l ≠ []) (hn : negW l = false) (h1 : ¬ n = -9223372036854775808) : NumV l (-n) true f := by
  have hN := h.num hne
  obtain ⟨a1, a2, a3, a4, a5⟩ := h
  have ht : topW l = 9223372036854775807 := by unfold topW; rw [hn]; rfl
  refine ⟨hN.symm, fun _ => ⟨fun hf => ?_, fun hf x => ?_⟩⟩
  · rw [parse_num l hN, ht, hn]
    have := a4 hf
    rw [if_pos (by omega), if_neg (by decide)]
    congr 1; omega
  · rw [parse_num l hN, ht]
    have := a5 hf
    rw [if_neg (by omega)]
    intro h; cases h
theorem end_least {l : List UInt8} {n : Int} {f : Bool} (h : Acc (digW l) n f) (hne : digW l ≠ []) (hn : negW l = false) (h1 : n = -9223372036854775808) : NumV l 0 true false := by
  have hN := h.num hne
  obtain ⟨a1, a2, a3, a4, a5⟩ := h
  have ht : topW l = 9223372036854775807 := by unfold topW; rw [hn]; rfl
  refine ⟨hN.symm, fun _ => ⟨(fun hf => by cases hf), fun _ x => ?_⟩⟩
  rw [parse_num l hN, ht]
  have : 9223372036854775807 < val 0 (digW l) := by
    cases f with
    | true => have := a4 rfl; omega
    | false => have := a5 rfl; omega
  rw [if_neg (by omega)]
  intro h; cases h

set_option maxRecDepth 100000 in
set_option maxHeartbeats 4000000 in
theorem number_calls (s : ByteArray) (w : World) (hs : s.size ≤ 65536) :
    Calls Tryz.prog 101 #[.string s] w (NumEnds s.data.toList w) := by
  by_cases h0 : s.size = 0
  · have HN : isNum s.data.toList = false := by
      have : s.data.toList = [] := List.length_eq_zero_iff.1 (by rw [len_is]; exact h0)
      rw [this]; rfl
    have h1 : ¬ 0 < s.size := by omega
    have h2 : ((0 : Int) == (s.size : Int)) = true := by rw [h0]; rfl
    clear h0
    go_enter Tryz.func101, Tryz.ntmps101
    go_wp2
    go_ret3
    exact NumEnds.no HN
  · have h1 : 0 < s.size := by omega
    obtain ⟨c, hc⟩ : ∃ c, s[0] = c := ⟨_, rfl⟩
    have hat := at_get s 0 h1
    rw [hc] at hat
    have hh : s.data.toList.head? = some c := by rw [List.head?_eq_getElem?]; exact hat
    by_cases hm : c = 45
    · have hn : negW s.data.toList = true := by unfold negW; rw [hh]; simp [hm]
      have hd : digW s.data.toList = s.data.toList.drop 1 := by unfold digW; rw [hh, hm, if_pos rfl, List.drop_one]
      have m1 : ((c.toNat : Int) == 45) = true := by subst hm; rfl
      have HN := Lib.hid hn
      have HD := Lib.hid hd
      clear hat hh hm hn hd
      by_cases hone : s.size = 1
      · have HN2 : Hid (isNum s.data.toList = false) := by
          rw [isNum_is, HD.out, List.drop_of_length_le (by rw [len_is]; omega)]; rfl
        have h2 : ((1 : Int) == (s.size : Int)) = true := by rw [hone]; rfl
        clear hone
        go_enter Tryz.func101, Tryz.ntmps101
        go_wp2_with fail
        go_ret3
        exact NumEnds.no HN2.out
      · have h2 : ((1 : Int) == (s.size : Int)) = false := by rw [beq_eq_false_iff_ne]; omega
        have h3 : 1 < s.size := by omega
        clear hone
        go_enter Tryz.func101, Tryz.ntmps101
        go_wp2_with fail
        go_loopg [6, 7, 8] (s.size + 1) (fun g n f i wr => ∃ (k : Nat) (nn : Int) (ff : Bool), w = wr ∧ n = .int .i64 nn ∧ f = .bool ff ∧ i = .int .i64 k ∧ 1 ≤ k ∧ k ≤ s.size ∧ s.size < g + k ∧ -9223372036854775808 ≤ nn ∧ nn ≤ 0 ∧ Hid (Acc ((s.data.toList.drop 1).take (k - 1)) nn ff))
        case atStart => exact ⟨1, 0, true, rfl, rfl, rfl, rfl, by omega, by omega, by omega, by omega, by omega, by rw [Nat.sub_self, List.take_zero]; exact Acc.nil⟩
        case round =>
          obtain ⟨k, nn, ff, rfl, rfl, rfl, rfl, ha, hk, hg, b1, b2, hA⟩ := hrel
          by_cases hlt : k < s.size
          · obtain ⟨g, rfl⟩ : ∃ m, gk = m + 1 := ⟨gk - 1, by omega⟩
            obtain ⟨d, hd⟩ : ∃ c, s[k] = c := ⟨_, rfl⟩
            by_cases hdig : 48 ≤ d.toNat ∧ d.toNat ≤ 57
            · have HS : Hid ((s.data.toList.drop 1).take (k + 1 - 1) = (s.data.toList.drop 1).take (k - 1) ++ [d]) := by rw [← hd]; exact take_snoc s 1 k ha hlt
              obtain ⟨d1, d2⟩ := hdig
              by_cases ht : nn < (-9223372036854775808 + ((d.toNat : Int) - 48)).tdiv 10
              · have HA : Hid (Acc ((s.data.toList.drop 1).take (k + 1 - 1)) nn false) := by rw [HS.out]; exact hA.out.big d1 d2 ht
                clear HS
                go_wp2_with fail
                go_roundg g
                case measure => omega
                case rel => exact ⟨k + 1, nn, false, rfl, rfl, rfl, by go_num, by omega, by omega, by omega, b1, b2, HA⟩
              · have hB : Acc ((s.data.toList.drop 1).take (k + 1 - 1)) (10 * nn - ((d.toNat : Int) - 48)) ff := by rw [HS.out]; exact hA.out.go d1 d2 (by omega)
                have b3 := hB.2.1
                have b4 := hB.2.2.1
                have HA := Lib.hid hB
                clear HS hB
                go_wp2_with fail
                go_roundg g
                case measure => omega
                case rel => exact ⟨k + 1, _, ff, rfl, by first | rfl | go_num, rfl, by go_num, by omega, by omega, by omega, b3, b4, HA⟩
            · have HN : Hid (isNum s.data.toList = false) := no_digit s 1 k ha hlt HD.out (by rw [hd]; exact hdig)
              have m2 : d.toNat < 48 ∨ 57 < d.toNat := by omega
              clear hdig
              rcases m2 with m2 | m2
              all_goals
                go_wp2_with fail
                go_ret3
                exact NumEnds.no HN.out
          · obtain rfl : k = s.size := by omega
            have hA2 : Acc (digW s.data.toList) nn ff := by rw [HD.out]; have := hA.out; rw [take_all] at this; exact this
            have hne : digW s.data.toList ≠ [] := by
              intro e
              have := congrArg List.length e
              rw [HD.out, List.length_drop, len_is] at this
              simp only [List.length_nil] at this; omega
            have H2 := Lib.hid (And.intro hA2 hne)
            clear hA2 hne
            have HV := Lib.hid (end_neg H2.out.1 H2.out.2 HN.out)
            go_wp2_with fail
            go_ret3
            exact ⟨⟨_, _, _, rfl, HV.out⟩, rfl⟩
    · have hn : negW s.data.toList = false := by unfold negW; rw [hh]; simp [hm]
      have hd : digW s.data.toList = s.data.toList.drop 0 := by unfold digW; rw [hh, if_neg (by simp [hm]), List.drop_zero]
      have m1 : ((c.toNat : Int) == 45) = false := by rw [beq_eq_false_iff_ne]; intro h; exact hm (UInt8.toNat_inj.1 (by show c.toNat = 45; omega))
      have h2 : ((0 : Int) == (s.size : Int)) = false := by rw [beq_eq_false_iff_ne]; omega
      have HN := Lib.hid hn
      have HD := Lib.hid hd
      clear hat hh hm hn hd
      go_enter Tryz.func101, Tryz.ntmps101
      go_wp2_with fail
      go_loopg [6, 7, 8] (s.size + 1) (fun g n f i wr => ∃ (k : Nat) (nn : Int) (ff : Bool), w = wr ∧ n = .int .i64 nn ∧ f = .bool ff ∧ i = .int .i64 k ∧ 0 ≤ k ∧ k ≤ s.size ∧ s.size < g + k ∧ -9223372036854775808 ≤ nn ∧ nn ≤ 0 ∧ Hid (Acc ((s.data.toList.drop 0).take (k - 0)) nn ff))
      case atStart => exact ⟨0, 0, true, rfl, rfl, rfl, rfl, by omega, by omega, by omega, by omega, by omega, by rw [Nat.sub_self, List.take_zero]; exact Acc.nil⟩
      case round =>
        obtain ⟨k, nn, ff, rfl, rfl, rfl, rfl, ha, hk, hg, b1, b2, hA⟩ := hrel
        by_cases hlt : k < s.size
        · obtain ⟨g, rfl⟩ : ∃ m, gk = m + 1 := ⟨gk - 1, by omega⟩
          obtain ⟨d, hd⟩ : ∃ c, s[k] = c := ⟨_, rfl⟩
          by_cases hdig : 48 ≤ d.toNat ∧ d.toNat ≤ 57
          · have HS : Hid ((s.data.toList.drop 0).take (k + 1 - 0) = (s.data.toList.drop 0).take (k - 0) ++ [d]) := by rw [← hd]; exact take_snoc s 0 k ha hlt
            obtain ⟨d1, d2⟩ := hdig
            by_cases ht : nn < (-9223372036854775808 + ((d.toNat : Int) - 48)).tdiv 10
            · have HA : Hid (Acc ((s.data.toList.drop 0).take (k + 1 - 0)) nn false) := by rw [HS.out]; exact hA.out.big d1 d2 ht
              clear HS
              go_wp2_with fail
              go_roundg g
              case measure => omega
              case rel => exact ⟨k + 1, nn, false, rfl, rfl, rfl, by go_num, by omega, by omega, by omega, b1, b2, HA⟩
            · have hB : Acc ((s.data.toList.drop 0).take (k + 1 - 0)) (10 * nn - ((d.toNat : Int) - 48)) ff := by rw [HS.out]; exact hA.out.go d1 d2 (by omega)
              have b3 := hB.2.1
              have b4 := hB.2.2.1
              have HA := Lib.hid hB
              clear HS hB
              go_wp2_with fail
              go_roundg g
              case measure => omega
              case rel => exact ⟨k + 1, _, ff, rfl, by first | rfl | go_num, rfl, by go_num, by omega, by omega, by omega, b3, b4, HA⟩
          · have HN : Hid (isNum s.data.toList = false) := no_digit s 0 k ha hlt HD.out (by rw [hd]; exact hdig)
            have m2 : d.toNat < 48 ∨ 57 < d.toNat := by omega
            clear hdig
            rcases m2 with m2 | m2
            all_goals
              go_wp2_with fail
              go_ret3
              exact NumEnds.no HN.out
        · obtain rfl : k = s.size := by omega
          have hA2 : Acc (digW s.data.toList) nn ff := by rw [HD.out]; have := hA.out; rw [take_all] at this; exact this
          have hne : digW s.data.toList ≠ [] := by
            intro e
            have := congrArg List.length e
            rw [HD.out, List.length_drop, len_is] at this
            simp only [List.length_nil] at this; omega
          have H2 := Lib.hid (And.intro hA2 hne)
          clear hA2 hne
          by_cases he : nn = -9223372036854775808
          · have he2 : (nn == -9223372036854775808) = true := beq_iff_eq.2 he
            have HV := Lib.hid (end_least H2.out.1 H2.out.2 HN.out he)
            clear he
            go_wp2_with fail
            go_ret3
            exact ⟨⟨_, _, _, rfl, HV.out⟩, rfl⟩
          · have he2 : (nn == -9223372036854775808) = false := beq_eq_false_iff_ne.2 he
            have he3 : -9223372036854775808 < nn := (Int.lt_or_eq_of_le b1).resolve_right (fun h => he h.symm)
            have HV := Lib.hid (end_pos H2.out.1 H2.out.2 HN.out he)
            clear he
            go_wp2_with fail
            go_ret3
            exact ⟨⟨_, _, _, rfl, by first | exact HV.out | (have := HV.out; rwa [show -nn = 0 - nn by omega] at this)⟩, rfl⟩
end Go.Proofs.YtaklmocjaokkpaaGreatDoor.Lx
