/- same, walked: a piece tells what it was. Condition: the piece is shorter than 200000. -/
import Derived.Test.YtkidnmjaioejaaaSegRef
namespace Go.Proofs.Ytkidnmjaioejaaa.Sg
set_option linter.unusedVariables false
set_option linter.unusedSimpArgs false
open Go.RowKit Go.Proofs.Ytkidnmjaioejaaa.Mem

theorem icells_len (l : List Item) : (l.flatMap icells).length = l.length * 3 := by
  induction l with
  | nil => rfl
  | cons t l ih => simp only [List.flatMap_cons, List.length_append, ih, List.length_cons]; show 3 + _ = _; omega
theorem icells_get (l : List Item) (k i : Nat) (hk : k < l.length) (hi : i < 3) : (l.flatMap icells)[k * 3 + i]? = (icells l[k])[i]? := by
  induction l generalizing k with
  | nil => simp at hk
  | cons t l ih =>
    rw [List.flatMap_cons]
    cases k with
    | zero => rw [List.getElem?_append_left (by show 0 * 3 + i < 3; omega), Nat.zero_mul, Nat.zero_add]; rfl
    | succ k =>
      rw [List.getElem?_append_right (by show 3 ≤ _; omega), show (k + 1) * 3 + i - (icells t).length = k * 3 + i from by show (k + 1) * 3 + i - 3 = _; omega]
      exact ih k (by simpa using hk)
theorem item_at {w : World} {its : List Item} {g off cap n : Nat} (h : RowAt w 83 3 (.slice (some ⟨g, off, none⟩) n cap) n (its.flatMap icells)) (hn : its.length = n) (k : Nat) (it : Item) (hk : its[k]? = some it) :
    w.cell? ⟨g, off + k * 3, none⟩ = some (.bool it.mark) ∧ w.cell? ⟨g, off + k * 3 + 1, none⟩ = some (.int .i64 it.frame) ∧ w.cell? ⟨g, off + k * 3 + 2, none⟩ = some (.int .i64 it.label) := by
  have hkl : k < its.length := (List.getElem?_eq_some_iff.1 hk).1
  have e : its[k] = it := by rw [List.getElem?_eq_getElem hkl] at hk; exact Option.some.inj hk
  refine ⟨?_, ?_, ?_⟩
  · have := h.cell (k * 3 + 0) (by omega)
    rw [icells_get its k 0 hkl (by omega), e] at this
    exact this
  · rw [Nat.add_assoc, h.cell (k * 3 + 1) (by omega), icells_get its k 1 hkl (by omega), e]
    rfl
  · rw [Nat.add_assoc, h.cell (k * 3 + 2) (by omega), icells_get its k 2 hkl (by omega), e]
    rfl
set_option maxRecDepth 100000 in
set_option maxHeartbeats 4000000 in
theorem same_calls {w : World} {p : Nat} {c : Row} {u : Bool} {Fp : List Nat} {v : Value} (h : PA w p c u Fp) (hr : RRow w v c) (hl : c.length ≤ 200000) :
    Calls Try.prog 28 #[.pointer (some ⟨p, 0, none⟩), v] w fun e w' => e = .returned (.bool true) ∧ Chg (fun _ => False) w w' := by
  have HI := Lib.hid (items_abs h)
  obtain ⟨n, hn⟩ : ∃ n, c.length = n := ⟨_, rfl⟩
  have HN := Lib.hid hn
  unfold RRow at hr
  rw [hn] at hr hl
  obtain ⟨ad, cap, rfl, _, _⟩ := hr.form
  have HR := Lib.hid hr
  clear hr hn h
  go_enter Try.func28, Try.ntmps28
  go_wp2_with fail
  refine HI.out.mono ?_
  clear HI
  rintro e w1 ⟨vi, rfl, hit, hC1, hvo⟩
  have hil : (c.reverse.map toItem).length = n := by rw [List.length_map, List.length_reverse]; exact HN.out
  unfold ItRow at hit
  rw [hil] at hit
  obtain ⟨adi, capi, rfl, _, _⟩ := hit.form
  have HIT := Lib.hid hit
  have HIL := Lib.hid hil
  have HR1 := Lib.hid (HR.out.kept hC1 (fun _ _ h => h))
  have HC1 := Lib.hid hC1
  clear hit hil hC1 hvo
  go_wp2_with fail
  go_loopg [6] (n + 1) (fun g vi wr => ∃ (k : Nat), vi = .int .i64 k ∧ k ≤ n ∧ n < g + k ∧ Hid (Chg (fun _ => False) w1 wr))
  case atStart => exact ⟨0, rfl, by omega, by omega, Lib.hid (Chg.refl _ _)⟩
  case round =>
    obtain ⟨k, rfl, hk, hg, hC⟩ := hrel
    by_cases hlt : k < n
    · obtain ⟨gk', rfl⟩ : ∃ m, gk = m + 1 := ⟨gk - 1, by omega⟩
      obtain ⟨q, hq⟩ : ∃ q, q + k + 1 = n := ⟨n - k - 1, by omega⟩
      obtain ⟨g, off, cp, hv, _⟩ := HR1.out.formS (by omega)
      cases hv
      obtain ⟨gi, offi, cpi, hvi, _⟩ := HIT.out.formS (by omega)
      cases hvi
      obtain ⟨⟨b, x⟩, hx⟩ : ∃ x, c[q]? = some x := ⟨_, List.getElem?_eq_getElem (by rw [HN.out]; omega)⟩
      have hxi : (c.reverse.map toItem)[k]? = some (toItem (b, x)) := by
        rw [List.getElem?_map, List.getElem?_reverse (by rw [HN.out]; exact hlt), HN.out, show n - 1 - k = q by omega, hx]
        rfl
      have hrr := HR1.out.kept hC.out (fun _ _ h => h)
      have hri := HIT.out.kept hC.out (fun _ _ h => h)
      obtain ⟨c0, c1⟩ := RRow.at hrr HN.out q b x hx
      obtain ⟨wx, hwx⟩ : ∃ wx, wr.alloc (.cells #[.bool b, .int .i64 x] 70) = wx := ⟨_, rfl⟩
      obtain ⟨X, hX⟩ : ∃ X, wr.heap.size = X := ⟨_, rfl⟩
      have hxb : wx.heap[X]? = some (.cells #[.bool b, .int .i64 x] 70 (0, 0)) := by rw [← hwx, ← hX]; exact blk_new wr _
      have hCx : Chg (fun _ => False) wr wx := by rw [← hwx]; exact (Chg.refl _ wr).alloc _
      have hrx := hri.kept hCx (fun _ _ h => h)
      obtain ⟨d0, d1, d2⟩ := item_at hrx HIL.out k _ hxi
      have x0 : wx.cell? ⟨X, 0, none⟩ = some (.bool b) := cell_of hxb 0
      have x1 : wx.cell? ⟨X, 1, none⟩ = some (.int .i64 x) := cell_of hxb 1
      have hnq : (n : Int) - 1 - (k : Int) = (q : Int) := by omega
      have q0 : (0 : Int) ≤ (q : Int) := by omega
      have q1 : (q : Int) < (n : Int) := by omega
      have k0 : (0 : Int) ≤ (k : Int) := by omega
      have k1 : (k : Int) < (n : Int) := by omega
      have HCX := Lib.hid (hC.out.trans hCx)
      have HQ := Lib.hid hq
      clear hx hxi hrr hri hxb hCx hrx hq
      cases b with
      | true =>
        simp only [toItem, if_true, markItem] at d0 d1 d2
        go_wp2_with fail
        go_quiet (fail)
        go_wp2_with fail
        go_roundg gk'
        case measure => omega
        case rel => exact ⟨k + 1, by go_num, by omega, by omega, HCX.out.drewN _⟩
      | false =>
        simp only [toItem, if_false, Bool.false_eq_true, frameItem] at d0 d1 d2
        go_wp2_with fail
        go_quiet (fail)
        go_wp2_with fail
        go_roundg gk'
        case measure => omega
        case rel => exact ⟨k + 1, by go_num, by omega, by omega, HCX.out.drewN _⟩
    · obtain rfl : k = n := by omega
      have hkk : ¬ (k : Int) < (k : Int) := by omega
      go_wp2_with fail
      go_ret
      exact ⟨rfl, HC1.out.trans hC.out⟩
end Go.Proofs.Ytkidnmjaioejaaa.Sg
