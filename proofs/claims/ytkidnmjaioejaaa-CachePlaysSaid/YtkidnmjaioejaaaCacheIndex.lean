/- slices.IndexFunc and slices.DeleteFunc at the cache's keys, whatever is asked; what the asking does to its own state is carried. -/
import Derived.Test.YtkidnmjaioejaaaCacheKey
import Derived.Test.YtkidnmjaioejaaaRow
import Derived.WalkKit
import Derived.Lib.Hide
import Derived.Deep.QuietTactic
import Derived.BigQuiet
import Derived.WalkLawsBesides
import Derived.Deep.RegionHeld3
import Derived.Deep.DrawnRows
import Derived.IntWalk
import Derived.Lib.BufferRead
import Derived.Deep.LoopGhost
import Derived.Laws.IdiomStrings
import Derived.Deep.RegionLaw
import Derived.BigRegion
import Derived.Deep.RegionWith
namespace Go.Proofs.Ytkidnmjaioejaaa.Cx
set_option linter.unusedVariables false
set_option linter.unusedSimpArgs false
open Go.RowKit Go.Proofs.Ytkidnmjaioejaaa.Mem Go.Maps

theorem kcells_len (l : List Key) : (l.flatMap kcells).length = l.length * 5 := by
  induction l with
  | nil => rfl
  | cons t l ih => simp only [List.flatMap_cons, List.length_append, ih, List.length_cons]; show 5 + _ = _; omega
theorem kcells_get (l : List Key) (k i : Nat) (hk : k < l.length) (hi : i < 5) : (l.flatMap kcells)[k * 5 + i]? = (kcells l[k])[i]? := by
  induction l generalizing k with
  | nil => simp at hk
  | cons t l ih =>
    rw [List.flatMap_cons]
    cases k with
    | zero => rw [List.getElem?_append_left (by show 0 * 5 + i < 5; omega), Nat.zero_mul, Nat.zero_add]; rfl
    | succ k =>
      rw [List.getElem?_append_right (by show 5 ≤ _; omega), show (k + 1) * 5 + i - (kcells t).length = k * 5 + i from by show (k + 1) * 5 + i - 5 = _; omega]
      exact ih k (by simpa using hk)
abbrev KRow (w : World) (v : Value) (l : List Key) : Prop := RowAt w 34 5 v l.length (l.flatMap kcells)

/-- What a function that asks of a key is to do, in a world W that has new blocks alone besides those of W0: its answer is p's, its own state goes on, and the row asked of and the new blocks are left alone. -/
def Asks (fn : Nat) (caps : Array Value) (v : Value) (p : Key → Bool) (J : List Key → World → Prop) (l : List Key) : Prop :=
  ∀ pre x W0 W, J pre W0 → Chg (fun _ => False) W0 W → (pre ++ [x]) <+: l → Calls Try.prog fn (#[kv x] ++ caps) W fun e W' => e = .returned (.bool (p x)) ∧ J (pre ++ [x]) W' ∧ Keeps v W0 W' ∧ W.heap.size ≤ W'.heap.size ∧ ∀ k, W0.heap.size ≤ k → k < W.heap.size → W'.heap[k]? = W.heap[k]?

theorem take_snoc {α : Type} (l : List α) (k : Nat) (x : α) (h : l[k]? = some x) : l.take (k + 1) = l.take k ++ [x] := by
  rw [List.take_add_one, h]; rfl

set_option maxHeartbeats 1000000 in
theorem index_calls (fn : Nat) (caps : Array Value) (l : List Key) (v : Value) (w : World) (J : List Key → World → Prop) (p : Key → Bool)
    (hen : ∀ (args : Array Value) (w : World), (callFunc fn args).run Try.prog w = .ok (.enter fn args) w) (hlen : l.length ≤ 1000) (hrow : KRow w v l)
    (hJ : Asks fn caps v p J l) (h0 : J [] w) :
    Calls Try.prog 61 #[v, .func (.func fn) #[] caps] w fun e w' =>
      ((∃ i : Nat, e = .returned (.int .i64 i) ∧ i < l.length ∧ (∀ x ∈ l.take i, p x = false) ∧ (∃ x, l[i]? = some x ∧ p x = true) ∧ J (l.take (i + 1)) w') ∨
      (e = .returned (.int .i64 (-1)) ∧ (∀ x ∈ l, p x = false) ∧ J l w')) ∧ Keeps v w w' ∧ w.heap.size ≤ w'.heap.size := by
  obtain ⟨ad, cap, rfl, hcap, _⟩ := hrow.form
  obtain ⟨n, hn⟩ : ∃ n, l.length = n := ⟨_, rfl⟩
  have HN := Lib.hid hn
  have HJ := Lib.hid hJ
  have H0 := Lib.hid h0
  have HR := Lib.hid hrow
  simp only [hn]
  rw [hn] at hlen
  clear hJ h0 hrow hn
  go_enter Try.func61, Try.ntmps61
  go_wp2_with fail
  go_loopg [8] (n + 1) (fun g vi wr => ∃ (k : Nat), vi = .int .i64 k ∧ k ≤ n ∧ n < g + k ∧ Hid (∀ x ∈ l.take k, p x = false) ∧ Hid (J (l.take k) wr) ∧ Hid (Keeps (.slice ad n cap) w wr) ∧ w.heap.size ≤ wr.heap.size)
  case atStart => exact ⟨0, rfl, by omega, by omega, fun x hx => by simp at hx, H0.out, Keeps.refl _ _, Nat.le_refl _⟩
  case round =>
    obtain ⟨k, rfl, hk, hgk, hp, hj, hkp, hsz⟩ := hrel
    by_cases hlt : k < n
    · obtain ⟨g, rfl⟩ : ∃ m, gk = m + 1 := ⟨gk - 1, by omega⟩
      have hkl : k < l.length := by rw [HN.out]; exact hlt
      have hr := HR.out.same (by rw [HN.out]; exact hkp.out)
      obtain ⟨b, off, cap', hv, hc⟩ := RowAt.formS hr (by rw [HN.out]; omega)
      cases hv
      have hcell : ∀ i, i < 5 → wr.cell? ⟨b, off + k * 5 + i, none⟩ = (kcells (l.getD k ⟨0, 0, 0, 0, 0⟩))[i]? := fun i hi => by
        rw [Nat.add_assoc, RowAt.cell hr (k * 5 + i) (by omega), kcells_get l k i hkl hi]; simp [hkl]
      have a0 := hcell 0 (by omega)
      have a1 := hcell 1 (by omega)
      have a2 := hcell 2 (by omega)
      have a3 := hcell 3 (by omega)
      have a4 := hcell 4 (by omega)
      clear hcell hr
      have HF := Lib.hid (HJ.out _ (l.getD k ⟨0, 0, 0, 0, 0⟩) _ _ hj.out (Chg.refl _ _) (by rw [← take_snoc l k _ (by simp [hkl])]; exact List.take_prefix _ _))
      obtain ⟨x, hx⟩ : ∃ x, x = l.getD k ⟨0, 0, 0, 0, 0⟩ := ⟨_, rfl⟩
      rw [← hx] at a0 a1 a2 a3 a4 HF
      have HX : Hid (l[k]? = some x) := by rw [hx]; simp [Hid, hkl]
      clear hx
      obtain ⟨x0, x1, x2, x3, x4⟩ := x
      simp only [kcells, List.getElem?_cons_zero, List.getElem?_cons_succ, Nat.add_zero] at a0 a1 a2 a3 a4
      have i0 : (0 : Int) ≤ (k : Int) := by omega
      have i1 : (k : Int) < (n : Int) := by omega
      have HTS := Lib.hid (take_snoc l k _ HX.out)
      go_wp2_with fail
      refine HF.out.mono ?_
      rintro e w1 ⟨rfl, hj1, hk1, hs1, _⟩
      have hJ1 : Hid (J (l.take (k + 1)) w1) := by rw [HTS.out]; exact hj1
      have hK1 : Hid (Keeps (.slice (some ⟨b, off, none⟩) n cap) w w1) := hkp.out.trans (by rw [HN.out] at hk1; exact hk1)
      clear hj1 hk1
      rcases hb : p ⟨x0, x1, x2, x3, x4⟩ with _ | _
      · have hP1 : Hid (∀ x ∈ l.take (k + 1), p x = false) := fun x hx => by
          rw [HTS.out, List.mem_append] at hx
          rcases hx with hx | hx
          · exact hp.out x hx
          · simp at hx; rw [hx]; exact hb
        go_wp2_with fail
        go_roundg g
        case measure => omega
        case rel => exact ⟨k + 1, by go_num, by omega, by omega, hP1, hJ1, hK1, by omega⟩
      · go_wp2_with fail
        go_ret
        exact ⟨.inl ⟨k, rfl, hlt, hp.out, ⟨_, HX.out, hb⟩, hJ1.out⟩, hK1.out, by omega⟩
    · obtain rfl : k = n := by omega
      have i2 : ¬ (k : Int) < (k : Int) := by omega
      have ht : Hid (l.take k = l) := List.take_of_length_le (by rw [HN.out]; exact Nat.le_refl _)
      have hp2 : Hid (∀ x ∈ l, p x = false) := fun x hx => hp.out x (by rw [ht.out]; exact hx)
      have hj2 : Hid (J l wr) := by have := hj.out; rw [ht.out] at this; exact this
      clear hp hj
      go_wp2_with fail
      go_ret
      exact ⟨.inr ⟨rfl, hp2.out, hj2.out⟩, hkp.out, hsz⟩
end Go.Proofs.Ytkidnmjaioejaaa.Cx
