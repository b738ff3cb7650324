/- slices.Clone of a part's frames; a stack whose count is behind. -/
import Derived.Test.YtkidnmjaioejaaaSegUnmark
namespace Go.Proofs.Ytkidnmjaioejaaa.Sg
set_option linter.unusedVariables false
set_option linter.unusedSimpArgs false
open Go.RowKit Go.Proofs.Ytkidnmjaioejaaa.Mem

set_option maxRecDepth 100000 in
theorem clone_frames {w : World} {v : Value} {fs : List Int} (h : IRow w v fs) (hk2 : fs.length ≤ 100000) :
    Calls Try.prog 54 #[v] w fun e w' => ∃ ad c, e = .returned (.slice ad fs.length c) ∧ IRow w' (.slice ad fs.length c) fs ∧ Chg (fun _ => False) w w' ∧ ∀ j ∈ own (.slice ad fs.length c), w.heap.size ≤ j := by
  obtain ⟨i3, hj0, hj1, hj2, hj3⟩ := info_parts info3
  have HR := Lib.hid h
  unfold IRow at HR
  obtain ⟨k, hk⟩ : ∃ k, fs.length = k := ⟨_, rfl⟩
  unfold IRow
  rw [hk] at HR hk2 ⊢
  have HK := Lib.hid hk
  clear hk
  rcases h.2 with ⟨rfl, h0⟩ | ⟨g, off, cap, cur, hv, hg, hc⟩
  · rw [HK.out] at h0
    subst h0
    have hfs : fs = [] := List.length_eq_zero_iff.1 HK.out
    clear h
    have hEq := fun w => Lib.run_eql_slice_nil (P := Try.prog) w 49 _ none 0 0 0 0 Try.underlying49
    go_enter Try.func54, Try.ntmps54
    go_wp2_with fail
    go_ret
    exact ⟨_, _, rfl, HR.out, Chg.refl _ _, fun j hj => by simp [own, Value.ownBlock] at hj⟩
  · rw [HK.out] at hv
    subst hv
    clear h hg hc cur
    have hEq := fun w => Lib.run_eql_slice_nil (P := Try.prog) w 49 _ (some ⟨g, off, none⟩) k cap 0 0 Try.underlying49
    have h00 : Hid (RowAt (w.alloc (.cells #[] 3)) 3 1 (.slice (some ⟨w.heap.size, 0, none⟩) 0 0) 0 []) := ⟨rfl, .inr ⟨w.heap.size, 0, 0, #[], rfl, blk_new _ _, Nat.le_refl _, Nat.zero_le _, Nat.le_refl _, rfl⟩⟩
    rcases Nat.eq_zero_or_pos k with rfl | hp
    · have hfs : fs = [] := List.length_eq_zero_iff.1 HK.out
      go_enter Try.func54, Try.ntmps54
      go_wp2_with fail
      go_ret
      refine ⟨_, _, rfl, ?_, (Chg.refl _ _).alloc _, fun j hj => by rw [own_slice] at hj; have : j = w.heap.size := by simpa using hj
                                                                    omega⟩
      rw [hfs]
      exact h00.out
    · have hl := HR.out.1
      have HL := Lib.hid hl
      clear hl
      have HO : Hid (∀ u ∈ fs.map (Value.int .i64), u.oneCell' = true) := fun u hu => by obtain ⟨x, _, rfl⟩ := List.mem_map.1 hu; rfl
      go_enter Try.func54, Try.ntmps54
      go_wp2_with (at_builtin; refine wpList_append_row _ rfl _ _ 49 rfl 3 i3 _ 1 8 Try.underlying49 hj0 hj1 hj2 hj3 rfl (by decide) (.slice (some ⟨w.heap.size, 0, none⟩) 0 0) 0 [] rfl h00.out ⟨g, off, none⟩ k cap (fs.map (Value.int .i64)) rfl HL.out ?ya2 HO.out (by assumption) ?ya4 ?ya5 _ rfl ?_)
      case ya2 =>
        intro j u hj
        have hj2 : j < k * 1 := by rw [← HL.out]; exact (List.getElem?_eq_some_iff.1 hj).1
        have := (HR.out.kept ((Chg.refl (fun _ => False) w).alloc (.cells #[] 3)) (fun _ _ h => h)).cell j hj2
        simp only [Addr.add_lit]
        rw [this]; exact hj
      case ya4 => unfold maxLen; omega
      case ya5 => omega
      intro g' off' c' w3 hrow3 hgrow3 hat3 hlt3
      have hA : Hid (Chg (fun _ => False) w w3) := by
        refine Lib.hid (((Chg.refl (fun _ => False) w).alloc _).grown hgrow3 (fun j hj e => ?_))
        have : w.heap.size = j := by simpa [Value.ownBlock] using e
        omega
      have hgg : w.heap.size ≤ g' := by
        rcases hat3 with e | e
        · have : w.heap.size = g' := by simpa [Value.ownBlock] using e
          omega
        · rw [e]; exact Nat.le_succ _
      have hR3 : Hid (RowAt w3 3 1 (.slice (some ⟨g', off', none⟩) k c') k (fs.map (Value.int .i64))) := Lib.hid (by simpa using hrow3)
      clear hrow3 hgrow3 hat3 hlt3
      go_wp2_with fail
      go_ret
      exact ⟨_, _, rfl, hR3.out, hA.out, fun j hj => by rw [own_slice] at hj; have : j = g' := by simpa using hj
                                                        omega⟩
end Go.Proofs.Ytkidnmjaioejaaa.Sg
