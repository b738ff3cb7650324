/- The reference's Word, walked. No condition. -/
import Derived.Test.YtaklmocjaokkpaaGreatDoorLexRef3
import Derived.Test.YtaklmocjaokkpaaGreatDoorLexWordPlain
namespace Go.Proofs.YtaklmocjaokkpaaGreatDoor.Lx
set_option linter.unusedVariables false
set_option linter.unusedSimpArgs false
open Go.RowKit Go.Proofs.YtaklmocjaokkpaaGreatDoor.Mem

def okB (c : UInt8) : Bool := !ends c && decide (33 ≤ c.toNat) && decide (c.toNat ≤ 126)
theorem wordB_is (s : List UInt8) (h0 : s ≠ []) (h1 : s.length ≤ 65536) : wordB s = (s.all okB && !isNum s) := by
  unfold wordB
  cases s with
  | nil => exact absurd rfl h0
  | cons c s => rw [decide_eq_true h1]; rfl
theorem all_false {s : List UInt8} {p : Nat} {c : UInt8} (h : s[p]? = some c) (hb : okB c = false) : s.all okB = false := by
  rw [List.all_eq_false]
  exact ⟨c, List.mem_of_getElem? h, by simp [hb]⟩
theorem all_true {s : List UInt8} (h : ∀ j, j < s.length → ∃ c, s[j]? = some c ∧ okB c = true) : s.all okB = true := by
  rw [List.all_eq_true]
  intro c hc
  obtain ⟨i, hi, he⟩ := List.mem_iff_getElem.1 hc
  obtain ⟨c', h1, h2⟩ := h i hi
  rw [List.getElem?_eq_getElem hi, he] at h1
  cases h1; exact h2

set_option maxRecDepth 100000 in
set_option maxHeartbeats 1000000 in
theorem rWord_calls (s : ByteArray) (w : World) (hs : s.size ≤ 65536) :
    Calls Tryz.prog 76 #[.string s] w fun e w' => e = .returned (.bool (wordB s.data.toList)) ∧ w' = w := by
  by_cases h0 : s.size = 0
  · have hl : s.data.toList = [] := List.length_eq_zero_iff.1 (by rw [len_is]; exact h0)
    have hse : s = ⟨#[]⟩ := by rw [← of_list s, hl]
    rw [hl]; subst hse
    go_enter Tryz.func76, Tryz.ntmps76
    go_wp2_with fail
    go_ret
    exact ⟨rfl, rfl⟩
  · have hne : s.data.toList ≠ [] := fun e => h0 (by rw [← len_is, e]; rfl)
    have e1 : s.toList.isEmpty = false := by
      rw [ByteArray.toList_eq]
      cases hl : s.data.toList with
      | nil => exact absurd hl hne
      | cons => rfl
    have e2 : ¬ s = ⟨#[]⟩ := by rintro rfl; exact h0 rfl
    obtain ⟨r, hr⟩ : ∃ r, wordB s.data.toList = r := ⟨_, rfl⟩
    have HR : Hid ((s.data.toList.all okB && !isNum s.data.toList) = r) := by rw [← hr]; exact (wordB_is _ hne (by rw [len_is]; omega)).symm
    rw [hr]
    have HE := Lib.hid rends_calls
    have HN := Lib.hid (number_calls s w (by omega))
    clear hr hne
    go_enter Tryz.func76, Tryz.ntmps76
    go_wp2_with fail
    go_loopg [3] (s.size + 1) (fun k vi wr => ∃ p : Nat, vi = .int .i64 p ∧ p ≤ s.size ∧ s.size < k + p ∧ wr = w ∧ Hid (∀ j, j < p → ∃ c, s.data.toList[j]? = some c ∧ okB c = true))
    case atStart => exact ⟨0, rfl, by omega, by omega, rfl, fun j h => by omega⟩
    case round =>
      obtain ⟨p, rfl, hp, hk, rfl, hA⟩ := hrel
      by_cases hlt : p < s.size
      · obtain ⟨k, rfl⟩ : ∃ m, gk = m + 1 := ⟨gk - 1, by omega⟩
        have hat := at_get s p hlt
        obtain ⟨c, hc⟩ : ∃ c, s[p] = c := ⟨_, rfl⟩
        rw [hc] at hat
        have i0 : (0 : Int) ≤ (p : Int) := by omega
        have i1 : (p : Int) < (s.size : Int) := by omega
        have HAT := Lib.hid hat
        clear hat
        go_wp2_with fail
        refine (HE.out c _).mono ?_
        rintro e wr ⟨rfl, rfl⟩
        rcases he : ends c with _ | _
        · by_cases h33 : c.toNat < 33
          · have f1 : (c.toNat : Int) < 33 := by omega
            have HX : Hid (r = false) := by
              rw [← HR.out, all_false HAT.out (by unfold okB; rw [decide_eq_false (by omega)]; simp)]; rfl
            go_wp2_with fail
            go_ret
            exact ⟨by rw [HX.out]; rfl, rfl⟩
          · have f1 : ¬ (c.toNat : Int) < 33 := by omega
            by_cases h126 : 126 < c.toNat
            · have f2 : (126 : Int) < (c.toNat : Int) := by omega
              have HX : Hid (r = false) := by
                rw [← HR.out, all_false HAT.out (by unfold okB; rw [decide_eq_false (show ¬ c.toNat ≤ 126 by omega)]; simp)]; rfl
              go_wp2_with fail
              go_ret
              exact ⟨by rw [HX.out]; rfl, rfl⟩
            · have f2 : ¬ (126 : Int) < (c.toNat : Int) := by omega
              have HX : Hid (∀ j, j < p + 1 → ∃ c, s.data.toList[j]? = some c ∧ okB c = true) := fun j hj => by
                by_cases e : j = p
                · subst e; exact ⟨c, HAT.out, by unfold okB; rw [he, decide_eq_true (show 33 ≤ c.toNat by omega), decide_eq_true (show c.toNat ≤ 126 by omega)]; rfl⟩
                · exact hA.out j (by omega)
              go_wp2_with fail
              go_roundg k
              case measure => omega
              case rel => exact ⟨p + 1, by go_num, by omega, by omega, rfl, HX⟩
        · have HX : Hid (r = false) := by
            rw [← HR.out, all_false HAT.out (by unfold okB; rw [he]; rfl)]; rfl
          go_wp2_with fail
          go_ret
          exact ⟨by rw [HX.out]; rfl, rfl⟩
      · have hpe : p = s.size := by omega
        have i1 : ¬ (p : Int) < (s.size : Int) := by omega
        have HX : Hid (s.data.toList.all okB = true) := all_true (fun j hj => hA.out j (by rw [len_is] at hj; omega))
        go_wp2_with fail
        refine HN.out.mono ?_
        rintro e wr ⟨⟨n, is, fits, rfl, hv⟩, rfl⟩
        have HV : Hid (r = !is) := by rw [← HR.out, HX.out, hv.1]; rfl
        clear hv
        go_wp2_with fail
        go_ret
        exact ⟨by rw [HV.out]; rfl, rfl⟩
end Go.Proofs.YtaklmocjaokkpaaGreatDoor.Lx
