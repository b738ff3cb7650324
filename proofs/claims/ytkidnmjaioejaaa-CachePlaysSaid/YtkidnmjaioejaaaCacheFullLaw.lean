/- The statement CacheFull, walked: true, whatever the limit and the number. Condition: the number is a byte. -/
import Derived.Test.YtkidnmjaioejaaaCacheYoungLaw
namespace Go.Proofs.Ytkidnmjaioejaaa.Cx
set_option linter.unusedVariables false
set_option linter.unusedSimpArgs false
open Go.RowKit Go.Proofs.Ytkidnmjaioejaaa.Mem Go.Maps

def kk (i : Int) : Key := ⟨i, i, 0, 0, 0⟩
theorem kk_inj {a b : Int} (h : kk a = kk b) : a = b := by injection h
theorem kk_ok {i : Int} (h : fits i) : (kk i).ok := ⟨h, h, fits0, fits0, fits0⟩
/-- The youngest of i things. -/
def full (L i : Nat) : List Ent := ((List.range i).drop (i - L)).map fun j : Nat => (kk (j : Int), (j : Int))
theorem full_len (L i : Nat) : (full L i).length = min i L := by simp [full]; omega
theorem mem_full {L i : Nat} {a : Int} {x : Int} : (kk a, x) ∈ full L i ↔ ((i - L : Nat) : Int) ≤ a ∧ a < i ∧ x = a := by
  unfold full
  simp only [List.mem_map, Prod.mk.injEq]
  constructor
  · rintro ⟨j, hj, e1, e2⟩
    have := kk_inj e1
    rw [List.mem_iff_getElem] at hj
    obtain ⟨p, hp, e3⟩ := hj
    simp at hp e3
    omega
  · rintro ⟨h1, h2, rfl⟩
    refine ⟨x.toNat, ?_, by congr 1; omega, by omega⟩
    rw [List.mem_iff_getElem]
    refine ⟨x.toNat - (i - L), by simp; omega, by simp; omega⟩
theorem full_key {L i : Nat} {a : Int} : kk a ∈ (full L i).map Prod.fst ↔ ((i - L : Nat) : Int) ≤ a ∧ a < i := by
  rw [List.mem_map]
  constructor
  · rintro ⟨⟨k, x⟩, he, rfl⟩
    have := mem_full.1 he
    exact ⟨this.1, this.2.1⟩
  · intro h
    exact ⟨(kk a, a), mem_full.2 ⟨h.1, h.2, rfl⟩, rfl⟩
theorem full_next (L : Nat) (h : 1 ≤ L) (i : Nat) : cput L (full L i) (kk (i : Int)) (i : Int) = full L (i + 1) := by
  have hk : kk (i : Int) ∉ (full L i).map Prod.fst := by rw [full_key]; omega
  by_cases hl : i < L
  · rw [cput_room hk (by rw [full_len]; omega)]
    unfold full
    rw [show i - L = 0 by omega, show i + 1 - L = 0 by omega, List.drop_zero, List.drop_zero, List.range_succ, List.map_append]
    rfl
  · rw [cput_full hk (by rw [full_len]; omega)]
    unfold full
    have e : (List.range (i + 1)).drop (i - L) = (List.range i).drop (i - L) ++ [i] := by
      rw [List.range_succ, List.drop_append_of_le_length (by simp)]
    have e2 : (List.range (i + 1)).drop (i + 1 - L) = ((List.range (i + 1)).drop (i - L)).tail := by
      rw [List.tail_drop]; congr 1; omega
    rw [e2, e, List.map_tail, List.map_append]
    rfl
theorem cget_perm {l : List Ent} (h : (l.map Prod.fst).Nodup) (k : Key) : l.Perm (cget l k) := by
  unfold cget
  rcases hf : find l k with _ | x
  · exact List.Perm.refl _
  · exact put_perm h ((find_mem h).1 hf)
/-- What is found in a row that has the same entries as full's. -/
theorem find_full {L i : Nat} {l : List Ent} (hp : (full L i).Perm l) (hn : (l.map Prod.fst).Nodup) (a : Int) : find l (kk a) = if ((i - L : Nat) : Int) ≤ a ∧ a < i then some a else none := by
  split
  · rename_i h
    rw [find_mem hn]
    exact hp.mem_iff.1 (mem_full.2 ⟨h.1, h.2, rfl⟩)
  · rename_i h
    rw [find_none]
    intro hm
    exact h (full_key.1 ((hp.map Prod.fst).mem_iff.2 hm))
theorem drop_nil (p : Int) (w : World) : Calls Try.prog 23 #[.pointer none, .int .i64 p] w fun e w' => e = .returned (.slice none 0 0) ∧ Below w.heap.size w w' := by
  go_enter Try.func23, Try.ntmps23
  go_wp2_with fail
  go_ret
  exact ⟨rfl, ((Below.refl _ _).alloc (Nat.le_refl _) _).alloc (by simp) _⟩

set_option maxHeartbeats 4000000 in
theorem full_calls (n m : Int) (w : World) (hm : (Lit.int .u8 m).wf = true) : Calls Try.prog 7 #[.int .i64 n, .int .u8 m] w fun e w' => e = .returned (.bool true) ∧ Below w.heap.size w w' := by
  have hm1 : 0 ≤ m ∧ m ≤ 255 := by
    simpa [Lit.wf, IntKind.min, IntKind.max, IntKind.signed, IntKind.bits] using hm
  obtain ⟨N, rfl⟩ : ∃ N : Nat, m = (N : Int) := ⟨m.toNat, by omega⟩
  have HN := Lib.hid (mine_new n w)
  obtain ⟨hL1, hL2⟩ := limit_le n
  have HL := Lib.hid (fun w => limit_calls n w)
  generalize limit n = L at *
  obtain ⟨K, hK, hK1⟩ : ∃ K : Nat, (N : Int).tmod 200 = (K : Int) ∧ K < 200 := ⟨N % 200, by rw [Int.tmod_eq_emod_of_nonneg (by omega)]; omega, by omega⟩
  have n0 : (0 : Int) ≤ (N : Int) := by omega
  have n1 : (N : Int) ≤ 255 := hm1.2
  clear hm hm1
  go_enter Try.func7, Try.ntmps7
  go_wp2_with fail
  refine HN.out.mono ?_
  rintro e w1 ⟨c, M, rfl, hm1⟩
  have HF0 : Hid (Mine w w1 c M L (full L 0)) := by
    have e : full L 0 = [] := by simp [full]
    rw [e]
    exact hm1
  have HM1 := Lib.hid hm1
  clear hm1
  go_wp2_with fail
  go_loopg [7] (K + 1) (fun g vi wr => ∃ (i : Nat), vi = .int .i64 i ∧ i ≤ K ∧ K < g + i ∧ Hid (Mine w wr c M L (full L i)))
  case atStart => exact ⟨0, rfl, by omega, by omega, HF0.out⟩
  case round =>
    obtain ⟨i, rfl, hi, hg, hm⟩ := hrel
    by_cases hlt : i < K
    · obtain ⟨g, rfl⟩ : ∃ m, gk = m + 1 := ⟨gk - 1, by omega⟩
      have i1 : (i : Int) < (K : Int) := by omega
      go_wp2_with fail
      refine (hm.out.put (k := kk (i : Int)) (kk_ok (fits_of (by omega) (by omega))) (fits_of (by omega) (by omega)) (by rw [full_len]; omega) hL1 hL2).mono ?_
      rintro e w3 ⟨⟨u3, rfl⟩, hm3, _⟩
      rw [full_next L hL1 i] at hm3
      have HM3 := Lib.hid hm3
      clear hm3
      go_wp2_with fail
      go_roundg g
      case measure => omega
      case rel => exact ⟨i + 1, by go_num, by omega, by omega, HM3.out⟩
    · obtain rfl : i = K := by omega
      have i1 : ¬ (i : Int) < (i : Int) := by omega
      by_cases hcase : L < i
      · have hc2 : (L : Int) < (i : Int) := by omega
        have hlen : (full L i).length = L := by rw [full_len]; omega
        go_wp2_with fail
        refine (HL.out _).mono ?_
        rintro e w1' ⟨rfl, rfl⟩
        go_wp2_with fail
        refine (hm.out.len).mono ?_
        rintro e w2' ⟨rfl, rfl⟩
        rw [hlen]
        go_wp2_with fail
        go_loopg [9] (i + 1) (fun g vi wr => ∃ (a : Nat) (l : List Ent), vi = .int .i64 a ∧ a ≤ i ∧ i < g + a ∧ Hid ((full L i).Perm l) ∧ Hid (Mine w wr c M L l))
        case atStart => exact ⟨0, full L i, rfl, by omega, by omega, List.Perm.refl _, hm.out⟩
        case round =>
          obtain ⟨a, l, rfl, ha, hga, hp, hml⟩ := hrel
          by_cases hlt2 : a < i
          · obtain ⟨g2, rfl⟩ : ∃ m, gk = m + 1 := ⟨gk - 1, by omega⟩
            have a1 : (a : Int) < (i : Int) := by omega
            have HND : Hid ((l.map Prod.fst).Nodup) := by
              obtain ⟨v, hA, _⟩ := hml.out.at_
              exact hA.good.1
            have HF := Lib.hid (find_full hp.out HND.out (a : Int))
            have HPM : Hid ((full L i).Perm (cget l (kk (a : Int)))) := hp.out.trans (cget_perm HND.out _)
            by_cases hin : i - L ≤ a
            · have hin2 : (i : Int) - (L : Int) ≤ (a : Int) := by omega
              rw [if_pos ⟨by omega, by omega⟩] at HF
              go_wp2_with fail
              refine (hml.out.get (k := kk (a : Int)) (kk_ok (fits_of (by omega) (by omega)))).mono ?_
              rintro e w4 ⟨rfl, hm4, _⟩
              rw [HF.out]
              have HM4 := Lib.hid hm4
              clear hm4
              go_wp2_with fail
              go_roundg g2
              case measure => omega
              case rel => exact ⟨a + 1, _, by go_num, by omega, by omega, HPM.out, HM4.out⟩
            · have hin2 : ¬ (i : Int) - (L : Int) ≤ (a : Int) := by omega
              rw [if_neg (by omega)] at HF
              go_wp2_with fail
              refine (hml.out.get (k := kk (a : Int)) (kk_ok (fits_of (by omega) (by omega)))).mono ?_
              rintro e w4 ⟨rfl, hm4, _⟩
              rw [HF.out]
              have HM4 := Lib.hid hm4
              clear hm4
              go_wp2_with fail
              go_roundg g2
              case measure => omega
              case rel => exact ⟨a + 1, _, by go_num, by omega, by omega, HPM.out, HM4.out⟩
          · have a1 : ¬ (a : Int) < (i : Int) := by omega
            have HB5 : Hid (Below w.heap.size w wr) := hml.out.below
            go_wp2_with fail
            refine (put_nil ⟨0, 0, 0, 0, 0⟩ 5 _).mono ?_
            rintro e w6 ⟨⟨u6, rfl⟩, hb6⟩
            have HB6 : Hid (Below w.heap.size w w6) := HB5.out.trans (hb6.mono HB5.out.size)
            clear hb6
            go_wp2_with fail
            refine (get_nil ⟨0, 0, 0, 0, 0⟩ _).mono ?_
            rintro e w7 ⟨rfl, hb7⟩
            have HB7 : Hid (Below w.heap.size w w7) := HB6.out.trans (hb7.mono HB6.out.size)
            clear hb7
            go_wp2_with fail
            refine (len_nil _).mono ?_
            rintro e w8 ⟨rfl, rfl⟩
            go_wp2_with fail
            refine (drop_nil 0 _).mono ?_
            rintro e w9 ⟨rfl, hb9⟩
            have HB9 : Hid (Below w.heap.size w w9) := HB7.out.trans (hb9.mono HB7.out.size)
            clear hb9
            go_wp2_with fail
            refine (awake_calls _).mono ?_
            rintro e w10 ⟨rfl, hb10⟩
            have HB10 : Hid (Below w.heap.size w w10) := HB9.out.trans (hb10.mono HB9.out.size)
            clear hb10
            go_wp2_with fail
            go_ret
            exact ⟨rfl, HB10.out⟩
      · have hc2 : (i : Int) ≤ (L : Int) := by omega
        have hc3 : ¬ (L : Int) < (i : Int) := by omega
        have hlen : (full L i).length = i := by rw [full_len]; omega
        go_wp2_with fail
        refine (HL.out _).mono ?_
        rintro e w1' ⟨rfl, rfl⟩
        go_wp2_with fail
        refine (hm.out.len).mono ?_
        rintro e w2' ⟨rfl, rfl⟩
        rw [hlen]
        go_wp2_with fail
        go_loopg [9] (i + 1) (fun g vi wr => ∃ (a : Nat) (l : List Ent), vi = .int .i64 a ∧ a ≤ i ∧ i < g + a ∧ Hid ((full L i).Perm l) ∧ Hid (Mine w wr c M L l))
        case atStart => exact ⟨0, full L i, rfl, by omega, by omega, List.Perm.refl _, hm.out⟩
        case round =>
          obtain ⟨a, l, rfl, ha, hga, hp, hml⟩ := hrel
          by_cases hlt2 : a < i
          · obtain ⟨g2, rfl⟩ : ∃ m, gk = m + 1 := ⟨gk - 1, by omega⟩
            have a1 : (a : Int) < (i : Int) := by omega
            have HND : Hid ((l.map Prod.fst).Nodup) := by
              obtain ⟨v, hA, _⟩ := hml.out.at_
              exact hA.good.1
            have HF := Lib.hid (find_full hp.out HND.out (a : Int))
            have HPM : Hid ((full L i).Perm (cget l (kk (a : Int)))) := hp.out.trans (cget_perm HND.out _)
            by_cases hin : i - i ≤ a
            · have hin2 : (i : Int) - (i : Int) ≤ (a : Int) := by omega
              rw [if_pos ⟨by omega, by omega⟩] at HF
              go_wp2_with fail
              refine (hml.out.get (k := kk (a : Int)) (kk_ok (fits_of (by omega) (by omega)))).mono ?_
              rintro e w4 ⟨rfl, hm4, _⟩
              rw [HF.out]
              have HM4 := Lib.hid hm4
              clear hm4
              go_wp2_with fail
              go_roundg g2
              case measure => omega
              case rel => exact ⟨a + 1, _, by go_num, by omega, by omega, HPM.out, HM4.out⟩
            · exact absurd (show i - i ≤ a by omega) hin
          · have a1 : ¬ (a : Int) < (i : Int) := by omega
            have HB5 : Hid (Below w.heap.size w wr) := hml.out.below
            go_wp2_with fail
            refine (put_nil ⟨0, 0, 0, 0, 0⟩ 5 _).mono ?_
            rintro e w6 ⟨⟨u6, rfl⟩, hb6⟩
            have HB6 : Hid (Below w.heap.size w w6) := HB5.out.trans (hb6.mono HB5.out.size)
            clear hb6
            go_wp2_with fail
            refine (get_nil ⟨0, 0, 0, 0, 0⟩ _).mono ?_
            rintro e w7 ⟨rfl, hb7⟩
            have HB7 : Hid (Below w.heap.size w w7) := HB6.out.trans (hb7.mono HB6.out.size)
            clear hb7
            go_wp2_with fail
            refine (len_nil _).mono ?_
            rintro e w8 ⟨rfl, rfl⟩
            go_wp2_with fail
            refine (drop_nil 0 _).mono ?_
            rintro e w9 ⟨rfl, hb9⟩
            have HB9 : Hid (Below w.heap.size w w9) := HB7.out.trans (hb9.mono HB7.out.size)
            clear hb9
            go_wp2_with fail
            refine (awake_calls _).mono ?_
            rintro e w10 ⟨rfl, hb10⟩
            have HB10 : Hid (Below w.heap.size w w10) := HB9.out.trans (hb10.mono HB9.out.size)
            clear hb10
            go_wp2_with fail
            go_ret
            exact ⟨rfl, HB10.out⟩
end Go.Proofs.Ytkidnmjaioejaaa.Cx
