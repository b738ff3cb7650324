/- The stack's Pop, in the row's words. -/
import Derived.Test.YtkidnmjaioejaaaSegPop
namespace Go.Proofs.Ytkidnmjaioejaaa.Sg
set_option linter.unusedVariables false
set_option linter.unusedSimpArgs false
open Go.RowKit Go.Proofs.Ytkidnmjaioejaaa.Mem

theorem pop_none {w : World} {s : Nat} (hTop : Calls Try.prog 36 #[.pointer (some ⟨s, 0, none⟩)] w fun e w' => e = .returned (.tuple #[.int .i64 0, .bool false]) ∧ Chg (fun _ => False) w w') :
    Calls Try.prog 35 #[.pointer (some ⟨s, 0, none⟩)] w fun e w' => e = .returned (.tuple #[.int .i64 0, .bool false]) ∧ Chg (fun _ => False) w w' := by
  have HTop := Lib.hid hTop
  clear hTop
  go_enter Try.func35, Try.ntmps35
  go_wp2_with fail
  refine HTop.out.mono ?_
  rintro e w1 ⟨rfl, hC1⟩
  have HC1 := Lib.hid hC1
  clear hC1
  go_wp2_with fail
  go_ret2
  exact ⟨rfl, HC1.out⟩
theorem drewN_chg {w w' : World} (h : ∃ m, w' = w.drewN m) : Chg (fun _ => False) w w' := by
  obtain ⟨m, rfl⟩ := h
  exact (Chg.refl _ w).drewN m
theorem no_mark_last {base : List Int} : ∀ x ∈ (base.map fr).getLast?, x.1 = false := fun x hx => by
  obtain ⟨f, _, rfl⟩ := List.mem_map.1 (List.mem_of_getLast? hx)
  rfl
set_option maxHeartbeats 1000000 in
theorem pop_abs {w : World} {s : Nat} {l0 : Row} {F : List Nat} {f : Int} (h : SA w s (l0 ++ [fr f]) F) :
    Calls Try.prog 35 #[.pointer (some ⟨s, 0, none⟩)] w fun e w' => e = .returned (.tuple #[.int .i64 f, .bool true]) ∧ ∃ F', SA w' s l0 F' ∧ After w w' F F' := by
  have hTop := (top_abs h).mono (R' := fun e w' => e = .returned (.tuple #[.int .i64 f, .bool true]) ∧ Chg (fun _ => False) w w') fun e w' ⟨q1, q2⟩ => ⟨by rw [q1]; simp [topOf, fr], drewN_chg q2⟩
  obtain ⟨bv, pv, base, L, h1, h2, rfl⟩ := h
  rcases L.eq_nil_or_concat with rfl | ⟨L0, e, rfl⟩
  · -- the frames of the base
    have hb : base.map fr = l0 ++ [fr f] := by rw [← h2]; simp [flat, flatP]
    rcases base.eq_nil_or_concat with rfl | ⟨b0, f', rfl⟩
    · simp at hb
    · rw [List.concat_eq_append] at *
      rw [List.map_append] at hb
      obtain ⟨e1, e2⟩ := List.append_inj' hb rfl
      have e3 : f' = f := by simpa [fr] using e2
      subst e3
      have hlen : (b0 ++ [f']).length = b0.length + 1 := by simp
      have hbas := h1.bas
      unfold IRow at hbas
      rw [hlen] at hbas
      obtain ⟨g, off, cap, rfl, hcap⟩ := hbas.formS (by omega)
      have hap := h1.apart
      rw [own_slice] at hap
      simp only [List.nodup_cons, List.mem_append, List.mem_cons, List.not_mem_nil, or_false, not_or, List.cons_append, List.nil_append] at hap
      have hct : count (b0 ++ [f']) [] = b0.length + 1 := by simp [count]
      have hsm := h1.small.1
      rw [hct] at hsm
      have hblk := h1.blk
      rw [hct] at hblk
      refine (popAt (B := s) (o := 0) (C := b0.length) (k := b0.length) (f0 := b0) hTop (fun w1 hC => (top_base (h1.chg hC (fun _ _ h => h))).mono fun e w' ⟨q1, q2⟩ => ⟨q1, by rw [q2]; exact Chg.refl _ _⟩) (cell_of hblk 0) (free_of hblk 0) (by unfold IRow; rw [hlen]; exact hbas) rfl (by omega) (cell_of hblk 2) (free_of hblk 2) (by omega) (fun e => hap.1.1 e.symm) (fun e => hap.1.1 e.symm) (fun _ => rfl)).mono ?_
      rintro e w' ⟨q1, w3, q2, q3, q4⟩
      obtain ⟨z1, z2⟩ := base_end (fs' := b0) h1 (q2.mono (fun j _ e => by rw [own_slice]; simp [e])) q3 (fun j hj => .inl hj) (by rw [own_slice]; simp) b0.length (by simp [count]) (by omega)
      refine ⟨q1, _, ⟨_, _, _, _, z1.chg q4 (fun _ _ h => h), ?_, rfl⟩, z2.then q4⟩
      rw [← e1]
      simp [flat, flatP]
  · rw [List.concat_eq_append] at *
    have hb : flat base L0 ++ (mk e.m :: e.fs.map fr) = l0 ++ [fr f] := by rw [← h2]; simp [flat, flatP]
    rcases hfs : e.fs.eq_nil_or_concat with h0 | ⟨b0, f', h0⟩
    · exfalso
      rw [h0] at hb
      have := List.append_inj' hb rfl
      simp [mk, fr] at this
    · rw [List.concat_eq_append] at h0
      obtain ⟨em, ev, efs⟩ := e
      simp only at h0
      subst h0
      simp only [List.map_append, List.map_cons, List.map_nil] at hb
      rw [← List.cons_append, ← List.append_assoc] at hb
      obtain ⟨e1, e2⟩ := List.append_inj' hb rfl
      have e3 : f' = f := by simpa [fr] using e2
      subst e3
      have hlen : (b0 ++ [f']).length = b0.length + 1 := by simp
      have hlenL : (L0 ++ [(⟨em, ev, b0 ++ [f']⟩ : Part)]).length = L0.length + 1 := by simp
      have hrow := h1.parts.frames ⟨em, ev, b0 ++ [f']⟩ (by simp)
      unfold IRow at hrow
      simp only at hrow
      rw [hlen] at hrow
      obtain ⟨g, off, cap, rfl, hcap⟩ := hrow.formS (by omega)
      obtain ⟨gp, offp, capp, hpv, hcp, hcell, hfree⟩ := h1.rowAt (by omega)
      rw [hlenL] at hpv hcp
      subst hpv
      have hap := h1.apart
      rw [blocks_append, blocks_one, own_slice] at hap
      simp only [own_slice, List.nodup_cons, List.nodup_append, List.mem_append, List.mem_cons, List.not_mem_nil, or_false, not_or, List.cons_append, List.nil_append] at hap
      obtain ⟨⟨hs1, hs2, hs3, hs4⟩, hb1, ⟨⟨hp1, hp2⟩, hL1, hL2, hL3⟩, hbp⟩ := hap
      obtain ⟨C, hC⟩ : ∃ C, count base (L0 ++ [(⟨em, .slice (some ⟨g, off, none⟩) (b0.length + 1) cap, b0 ++ [f']⟩ : Part)]) = C + 1 := ⟨base.length + (many L0 + b0.length), by simp [count, many]; omega⟩
      have hC2 : C = count base (L0 ++ [(⟨em, .slice (some ⟨g, off, none⟩) b0.length cap, b0⟩ : Part)]) := by
        have : count base (L0 ++ [(⟨em, .slice (some ⟨g, off, none⟩) (b0.length + 1) cap, b0 ++ [f']⟩ : Part)]) = count base (L0 ++ [(⟨em, .slice (some ⟨g, off, none⟩) b0.length cap, b0⟩ : Part)]) + 1 := by simp [count]; omega
        omega
      have hsm := h1.small.1
      have hsl : b0.length + 1 ≤ count base (L0 ++ [(⟨em, .slice (some ⟨g, off, none⟩) (b0.length + 1) cap, b0 ++ [f']⟩ : Part)]) := by simp [count]; omega
      have hblk := h1.blk
      rw [hC] at hblk
      have hT : ∀ w1, Chg (fun _ => False) w w1 → Calls Try.prog 55 #[.pointer (some ⟨s, 0, none⟩)] w1 fun e w' => e = .returned (.pointer (some ⟨gp, offp + L0.length * 2 + 1, none⟩)) ∧ Chg (fun _ => False) w1 w' := fun w1 hC => by
        have := top_part (L := L0 ++ [(⟨em, .slice (some ⟨g, off, none⟩) (b0.length + 1) cap, b0 ++ [f']⟩ : Part)]) (by rw [hlenL]; exact h1.chg hC (fun _ _ h => h)) (by omega)
        rw [hlenL, Nat.add_sub_cancel] at this
        exact this.mono fun e w' ⟨q1, q2⟩ => ⟨q1, drewN_chg q2⟩
      have c0 : w.cell? ⟨gp, offp + L0.length * 2 + 1, none⟩ = some (.slice (some ⟨g, off, none⟩) (b0.length + 1) cap) := by
        rw [hcell L0.length 1 (by omega) (by omega)]
        simp [pcells]
      refine (popAt (B := gp) (o := offp + L0.length * 2 + 1) (C := C) (k := b0.length) (f0 := b0) hTop hT c0 (hfree _) (by unfold IRow; rw [hlen]; exact hrow) rfl (by omega) (cell_of hblk 2) (free_of hblk 2) (by omega) (fun e => hp2 e.symm) (fun e => hs4 e.symm) (fun e => absurd e.symm hs2)).mono ?_
      rintro e w' ⟨q1, w3, q2, q3, q4⟩
      obtain ⟨z1, z2⟩ := last_end (fs' := b0) h1 (q2.mono (fun j _ e => by simp [own_slice, e])) q3 (fun j hj => .inl hj) (by rw [own_slice]; simp) C hC2 (by omega)
      refine ⟨q1, _, ⟨_, _, _, _, z1.chg q4 (fun _ _ h => h), ?_, rfl⟩, z2.then q4⟩
      rw [← e1]
      simp [flat, flatP]
end Go.Proofs.Ytkidnmjaioejaaa.Sg
