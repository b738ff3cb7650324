/- The stack's Unmark, walked. Condition: the stack's block is known, and its rows. -/
import Derived.Test.YtkidnmjaioejaaaSegLabel
namespace Go.Proofs.Ytkidnmjaioejaaa.Sg
set_option linter.unusedVariables false
set_option linter.unusedSimpArgs false
open Go.RowKit Go.Proofs.Ytkidnmjaioejaaa.Mem

/-- Unmark where there is no mark, or a frame above it. -/
theorem unmark_out {w : World} {s n B o : Nat} {a : Option Addr} {k cap : Nat} (hM : Calls Try.prog 39 #[.pointer (some ⟨s, 0, none⟩)] w fun e w' => e = .returned (.int .i64 (n : Int)) ∧ w' = w)
    (hT : 0 < n → Calls Try.prog 55 #[.pointer (some ⟨s, 0, none⟩)] w fun e w' => e = .returned (.pointer (some ⟨B, o, none⟩)) ∧ ∃ m, w' = w.drewN m)
    (hc : 0 < n → w.cell? ⟨B, o, none⟩ = some (.slice a k cap)) (hk : 0 < n → 0 < k) :
    Calls Try.prog 37 #[.pointer (some ⟨s, 0, none⟩)] w fun e w' => e = .returned (.tuple #[.int .i64 0, .bool false]) ∧ ∃ m, w' = w.drewN m := by
  have HM := Lib.hid hM
  clear hM
  rcases Nat.eq_zero_or_pos n with rfl | hn
  · clear hT hc hk
    go_enter Try.func37, Try.ntmps37
    go_wp2_with fail
    refine HM.out.mono ?_
    rintro e w1 ⟨rfl, rfl⟩
    go_wp2_with fail
    go_ret2
    exact ⟨rfl, 0, rfl⟩
  · have HT := Lib.hid (hT hn)
    have c0 := hc hn
    have hkp := hk hn
    have k0 : (0 : Int) < (k : Int) := by omega
    have hn0 : ¬ (n : Int) = 0 := by omega
    clear hT hc hk
    go_enter Try.func37, Try.ntmps37
    go_wp2_with fail
    refine HM.out.mono ?_
    rintro e w1 ⟨rfl, rfl⟩
    go_wp2_with fail
    refine HT.out.mono ?_
    rintro e w2 ⟨rfl, md, rfl⟩
    go_wp2_with fail
    go_ret2
    exact ⟨rfl, _, rfl⟩
set_option maxRecDepth 100000 in
set_option maxHeartbeats 2000000 in
theorem unmark_in {w : World} {s k B o g off capp : Nat} {a : Option Addr} {cap : Nat} {m : Int} {bv ct : Value} (hM : Calls Try.prog 39 #[.pointer (some ⟨s, 0, none⟩)] w fun e w' => e = .returned (.int .i64 ((k + 1 : Nat) : Int)) ∧ w' = w)
    (hT : Calls Try.prog 55 #[.pointer (some ⟨s, 0, none⟩)] w fun e w' => e = .returned (.pointer (some ⟨B, o, none⟩)) ∧ ∃ m, w' = w.drewN m)
    (hc : w.cell? ⟨B, o, none⟩ = some (.slice a 0 cap)) (hL : ∀ md, Calls Try.prog 38 #[.pointer (some ⟨s, 0, none⟩), .int .i64 0] (w.drewN md) fun e w' => e = .returned (.tuple #[.int .i64 m, .bool true]) ∧ ∃ m2, w' = (w.drewN md).drewN m2)
    (hk5 : k ≤ 100000) (hkc : k + 1 ≤ capp) (hb : w.heap[s]? = some (.cells #[bv, .slice (some ⟨g, off, none⟩) (k + 1) capp, ct] 100 (0, 0))) :
    Calls Try.prog 37 #[.pointer (some ⟨s, 0, none⟩)] w fun e w' => e = .returned (.tuple #[.int .i64 m, .bool true]) ∧ Chg (fun _ => False) (w.setCell ⟨s, 1, none⟩ (.slice (some ⟨g, off, none⟩) k capp)) w' := by
  have HM := Lib.hid hM
  have HT := Lib.hid hT
  have HL := fun md => Lib.hid (hL md)
  have c1 : w.cell? ⟨s, 1, none⟩ = some (.slice (some ⟨g, off, none⟩) (k + 1) capp) := cell_of hb 1
  have f1 : w.frozen? ⟨s, 1, none⟩ = false := free_of hb 1
  have k0 : (0 : Int) ≤ (k : Int) := by omega
  have hn0 : ¬ (k : Int) + 1 = 0 := by omega
  clear hM hT hL hb
  go_enter Try.func37, Try.ntmps37
  go_wp2_with fail
  refine HM.out.mono ?_
  rintro e w1 ⟨rfl, rfl⟩
  go_wp2_with fail
  refine HT.out.mono ?_
  rintro e w2 ⟨rfl, md, rfl⟩
  go_wp2_with fail
  refine (HL md).out.mono ?_
  rintro e w2 ⟨rfl, md2, rfl⟩
  go_wp2_with fail
  go_region
  all_goals
    go_wp2_with fail
    go_ret2
    refine ⟨rfl, ?_⟩
    show Chg _ _ ((w1.setCell ⟨s, 1, none⟩ (.slice (some ⟨g, off, none⟩) k capp)).drewN (md + md2 + 1))
    exact (Chg.refl _ _).drewN _
theorem unmark_none {w : World} {s : Nat} {l : Row} {F : List Nat} (h : SA w s l F) (hl : ∀ x ∈ l.getLast?, x.1 = false) :
    Calls Try.prog 37 #[.pointer (some ⟨s, 0, none⟩)] w fun e w' => e = .returned (.tuple #[.int .i64 0, .bool false]) ∧ ∃ m, w' = w.drewN m := by
  obtain ⟨bv, pv, base, L, h1, h2, rfl⟩ := h
  subst h2
  rcases L.eq_nil_or_concat with rfl | ⟨L0, e, rfl⟩
  · exact unmark_out (n := 0) (B := 0) (o := 0) (a := none) (k := 0) (cap := 0) (marks_calls h1) (fun h => by omega) (fun h => by omega) (fun h => by omega)
  · rw [List.concat_eq_append] at *
    have hlen : (L0 ++ [e]).length = L0.length + 1 := by simp
    obtain ⟨gp, offp, capp, hpv, hcp, hcell, hfree⟩ := h1.rowAt (by omega)
    subst hpv
    have hT := top_part h1 (by omega)
    rw [hlen, Nat.add_sub_cancel] at hT
    have c0 : w.cell? ⟨gp, offp + L0.length * 2 + 1, none⟩ = some e.v := by
      rw [hcell L0.length 1 (by omega) (by omega)]
      simp [pcells]
    obtain ⟨ad, cap, hv, _, _⟩ := (h1.parts.frames e (by simp)).form
    rw [hv] at c0
    refine unmark_out (marks_calls h1) (fun _ => hT) (fun _ => c0) (fun _ => ?_)
    rcases Nat.eq_zero_or_pos e.fs.length with h0 | h0
    · exfalso
      have hfs : e.fs = [] := List.length_eq_zero_iff.1 h0
      have e1 : flat base (L0 ++ [e]) = flat base L0 ++ [mk e.m] := by simp [flat, flatP, hfs]
      rw [e1] at hl
      have := hl (mk e.m) (by simp)
      simp [mk] at this
    · exact h0
theorem unmark_abs {w : World} {s : Nat} {l0 : Row} {F : List Nat} {m : Int} (h : SA w s (l0 ++ [mk m]) F) :
    Calls Try.prog 37 #[.pointer (some ⟨s, 0, none⟩)] w fun e w' => e = .returned (.tuple #[.int .i64 m, .bool true]) ∧ ∃ F', SA w' s l0 F' ∧ After w w' F F' := by
  have hL : ∀ md, Calls Try.prog 38 #[.pointer (some ⟨s, 0, none⟩), .int .i64 0] (w.drewN md) fun e w' => e = .returned (.tuple #[.int .i64 m, .bool true]) ∧ ∃ m2, w' = (w.drewN md).drewN m2 := fun md => by
    have := label_abs (h.chg ((Chg.refl (fun _ => False) w).drewN md) (fun _ _ h => h)) 0
    have e1 : labelOf (l0 ++ [mk m]) 0 = .tuple #[.int .i64 m, .bool true] := by
      have : markAt (l0 ++ [mk m]) 0 = some l0.length := by simp [markAt, mk, fromTop]
      unfold labelOf
      rw [this]
      simp [mk]
    rw [e1] at this
    exact this
  obtain ⟨bv, pv, base, L, h1, h2, rfl⟩ := h
  rcases L.eq_nil_or_concat with rfl | ⟨L0, e, rfl⟩
  · exfalso
    have hb : base.map fr = l0 ++ [mk m] := by rw [← h2]; simp [flat, flatP]
    have := no_mark_last (base := base) (mk m) (by rw [hb]; simp)
    simp [mk] at this
  · rw [List.concat_eq_append] at *
    have hb : flat base L0 ++ (mk e.m :: e.fs.map fr) = l0 ++ [mk m] := by rw [← h2]; simp [flat, flatP]
    rcases hfs : e.fs.eq_nil_or_concat with h0 | ⟨b0, f', h0⟩
    · rw [h0] at hb
      obtain ⟨e1, e2⟩ := List.append_inj' hb rfl
      have hlen : (L0 ++ [e]).length = L0.length + 1 := by simp
      have hrow := h1.parts.row
      obtain ⟨gp, offp, capp, hpv, hcp, hcell, hfree⟩ := h1.rowAt (by omega)
      subst hpv
      have hT := top_part h1 (by omega)
      have hM := marks_calls h1
      have hblk := h1.blk
      rw [hlen] at hM hcp hblk hrow
      rw [hlen, Nat.add_sub_cancel] at hT
      have c0 : w.cell? ⟨gp, offp + L0.length * 2 + 1, none⟩ = some e.v := by
        rw [hcell L0.length 1 (by omega) (by omega)]
        simp [pcells]
      obtain ⟨ad, cap, hv, _, _⟩ := (h1.parts.frames e (by simp)).form
      rw [hv, h0] at c0
      have hsm := h1.small.2
      refine (unmark_in hM hT c0 hL (by omega) hcp hblk).mono ?_
      rintro x w' ⟨q1, q2⟩
      have hct : count base (L0 ++ [e]) = count base L0 := by simp [count, h0]
      have hap := h1.apart
      rw [blocks_append, blocks_one, own_slice] at hap
      simp only [List.nodup_cons, List.nodup_append, List.mem_append, List.mem_cons, List.not_mem_nil, or_false, not_or, List.cons_append, List.nil_append] at hap
      obtain ⟨⟨hs1, hs2, hs3, hs4⟩, hb1, ⟨⟨hp1, hp2⟩, hL1, hL2, hL3⟩, hbp⟩ := hap
      have hS : Chg (fun j => j = s) w (w.setCell ⟨s, 1, none⟩ (.slice (some ⟨gp, offp, none⟩) L0.length capp)) := Chg.set (p := ⟨s, 1, none⟩) (F := fun j => j = s) (Chg.refl _ w) (fun _ => rfl) _
      have hSA : StackAt (w.setCell ⟨s, 1, none⟩ (.slice (some ⟨gp, offp, none⟩) L0.length capp)) s bv (.slice (some ⟨gp, offp, none⟩) L0.length capp) base L0 := by
        refine ⟨?_, h1.bas.kept hS (fun j hj e1 => hs1 (e1 ▸ mem_own.2 hj)), ⟨?_, fun y hy => (h1.parts.frames y (List.mem_append_left _ hy)).kept hS (fun j hj e1 => hs3 (e1 ▸ mem_blocks.2 ⟨y, hy, hj⟩))⟩, ?_, ?_⟩
        · have := blk_set hblk 1 (.slice (some ⟨gp, offp, none⟩) L0.length capp)
          rw [hct] at this
          simpa using this
        · have := hrow.take L0.length (by omega) _ _ rfl
          rw [pcells_take] at this
          exact this.kept hS (fun j hj e1 => by
            have : gp = j := by simpa [Value.ownBlock] using hj
            exact hs2 (by omega))
        · rw [own_slice]
          simp only [List.nodup_cons, List.nodup_append, List.mem_append, List.mem_cons, List.not_mem_nil, or_false, not_or, List.cons_append, List.nil_append]
          refine ⟨⟨hs1, hs2, hs3⟩, hb1, ⟨hp1, hL1⟩, fun j hj k hk e1 => ?_⟩
          rcases hk with e2 | e2
          · exact hbp j hj k (.inl e2) e1
          · exact hbp j hj k (.inr (.inl e2)) e1
        · have := h1.small
          rw [hct] at this
          omega
      refine ⟨?_, _, ⟨_, _, _, _, hSA.chg q2 (fun _ _ h => h), e1, rfl⟩, After.then ⟨hS.mono (fun j _ e => by simp [foot, e]), fun j hj => .inl ?_⟩ q2⟩
      · exact q1
      · simp only [foot, blocks_append, own_slice, List.mem_cons, List.mem_append, List.not_mem_nil, or_false] at hj ⊢
        rcases hj with e | e | e | e
        · exact .inl e
        · exact .inr (.inl e)
        · exact .inr (.inr (.inl e))
        · exact .inr (.inr (.inr (.inl e)))
    · exfalso
      rw [List.concat_eq_append] at h0
      rw [h0, List.map_append, ← List.cons_append, ← List.append_assoc] at hb
      have := List.append_inj' hb rfl
      simp [mk, fr] at this
end Go.Proofs.Ytkidnmjaioejaaa.Sg
