/- The stack's New, top, Push, Top, Marks and Len, walked; and what a nil stack does. Condition: the stack's block is known, and its rows. -/
import Derived.Test.YtkidnmjaioejaaaSegBase
namespace Go.Proofs.Ytkidnmjaioejaaa.Sg
set_option linter.unusedVariables false
set_option linter.unusedSimpArgs false
open Go.RowKit Go.Proofs.Ytkidnmjaioejaaa.Mem

theorem info3 : (Try.prog.info? 3).map (fun i => (i.zero, i.size, i.bytes)) = some (some (.int .i64 0), 1, 8) := by kernel_rfl
theorem infoP : (Try.prog.info? 104).map (fun i => (i.zero, i.size, i.bytes)) = some (some (.agg #[.int .i64 0, .slice none 0 0]), 2, 32) := by kernel_rfl

theorem new_calls (w : World) : Calls Try.prog 25 #[] w fun e w' => e = .returned (.pointer (some ⟨w.heap.size, 0, none⟩)) ∧ StackAt w' w.heap.size (.slice none 0 0) (.slice none 0 0) [] [] ∧ Chg (fun _ => False) w w' := by
  go_enter Try.func25, Try.ntmps25
  go_wp2_with fail
  go_ret
  exact ⟨rfl, ⟨blk_new _ _, RowAt.nil _ _ _, ⟨RowAt.nil _ _ _, fun e he => by cases he⟩, by simp [own, blocks, Value.ownBlock], by simp [count]⟩, (Chg.refl _ _).alloc _⟩
theorem top_nil (w : World) : Calls Try.prog 55 #[.pointer none] w fun e w' => e = .returned (.pointer (some ⟨w.heap.size + 1, 0, none⟩)) ∧ w'.heap[w.heap.size + 1]? = some (.cells #[.slice (some ⟨w.heap.size, 0, none⟩) 0 0] 49 (0, 0)) ∧ Chg (fun _ => False) w w' := by
  go_enter Try.func55, Try.ntmps55
  go_wp2_with fail
  go_ret
  refine ⟨rfl, ?_, ((Chg.refl _ _).alloc _).alloc _⟩
  have := blk_new (w.alloc (.cells #[] 3)) (.cells #[.slice (some ⟨w.heap.size, 0, none⟩) 0 0] 49)
  simpa using this
theorem top_base {w : World} {s : Nat} {bv pv : Value} {base : List Int} (h : StackAt w s bv pv base []) :
    Calls Try.prog 55 #[.pointer (some ⟨s, 0, none⟩)] w fun e w' => e = .returned (.pointer (some ⟨s, 0, none⟩)) ∧ w' = w := by
  obtain ⟨ad, cap, rfl, _, _⟩ := h.parts.row.form
  have c1 : w.cell? ⟨s, 1, none⟩ = some (.slice ad 0 cap) := cell_of h.blk 1
  clear h
  go_enter Try.func55, Try.ntmps55
  go_wp2_with fail
  go_ret
  exact ⟨rfl, rfl⟩
/-- Where the parts' row lies. -/
theorem StackAt.rowAt {w : World} {s : Nat} {bv pv : Value} {base : List Int} {L : List Part} (h : StackAt w s bv pv base L) (hn : 0 < L.length) : ∃ g off cap, pv = .slice (some ⟨g, off, none⟩) L.length cap ∧ L.length ≤ cap ∧
    (∀ k i, k < L.length → i < 2 → w.cell? ⟨g, off + k * 2 + i, none⟩ = (L[k]?.map pcells).bind fun c => c[i]?) ∧ (∀ j, w.frozen? ⟨g, j, none⟩ = false) := by
  obtain ⟨g, off, cap, rfl, hc⟩ := h.parts.row.formS hn
  refine ⟨g, off, cap, rfl, hc, fun k i hk hi => ?_, fun j => h.parts.row.free j⟩
  rw [Nat.add_assoc, h.parts.row.cell (k * 2 + i) (by omega), pcells_get L k i hk hi, List.getElem?_eq_getElem hk]
  rfl
theorem top_part {w : World} {s g off cap : Nat} {bv : Value} {base : List Int} {L : List Part} (h : StackAt w s bv (.slice (some ⟨g, off, none⟩) L.length cap) base L) (hn : 0 < L.length) :
    Calls Try.prog 55 #[.pointer (some ⟨s, 0, none⟩)] w fun e w' => e = .returned (.pointer (some ⟨g, off + (L.length - 1) * 2 + 1, none⟩)) ∧ ∃ m, w' = w.drewN m := by
  have c1 : w.cell? ⟨s, 1, none⟩ = some (.slice (some ⟨g, off, none⟩) L.length cap) := cell_of h.blk 1
  have hs := h.small.2
  clear h
  obtain ⟨k, hk⟩ : ∃ k, L.length = k + 1 := ⟨L.length - 1, by omega⟩
  rw [hk] at c1 hs ⊢
  clear hk hn
  have k0 : (0 : Int) ≤ (k : Int) := by omega
  have k1 : (k : Int) < ((k + 1 : Nat) : Int) := by omega
  rw [Nat.add_sub_cancel]
  go_enter Try.func55, Try.ntmps55
  go_wp2_with fail
  go_quiet (fail)
  go_wp2_with fail
  go_ret
  exact ⟨rfl, _, rfl⟩
end Go.Proofs.Ytkidnmjaioejaaa.Sg
