/- The stack's Mark, Top, Marks and Len, walked; and what a nil stack does. Condition: the stack's block is known, and its rows. -/
import Derived.Test.YtkidnmjaioejaaaSegPush3
namespace Go.Proofs.Ytkidnmjaioejaaa.Sg
set_option linter.unusedVariables false
set_option linter.unusedSimpArgs false
open Go.RowKit Go.Proofs.Ytkidnmjaioejaaa.Mem

theorem mark_nil (f : Int) (w : World) : Calls Try.prog 34 #[.pointer none, .int .i64 f] w fun e w' => (∃ u, e = .returned u) ∧ w' = w := by
  go_enter Try.func34, Try.ntmps34
  go_wp2_with fail
  go_end0
  exact ⟨⟨_, rfl⟩, rfl⟩
theorem marks_nil (w : World) : Calls Try.prog 39 #[.pointer none] w fun e w' => e = .returned (.int .i64 0) ∧ w' = w := by
  go_enter Try.func39, Try.ntmps39
  go_wp2_with fail
  go_ret
  exact ⟨rfl, rfl⟩
theorem len_nil (w : World) : Calls Try.prog 40 #[.pointer none] w fun e w' => e = .returned (.int .i64 0) ∧ w' = w := by
  go_enter Try.func40, Try.ntmps40
  go_wp2_with fail
  go_ret
  exact ⟨rfl, rfl⟩
theorem marks_calls {w : World} {s : Nat} {bv pv : Value} {base : List Int} {L : List Part} (h : StackAt w s bv pv base L) : Calls Try.prog 39 #[.pointer (some ⟨s, 0, none⟩)] w fun e w' => e = .returned (.int .i64 (L.length : Int)) ∧ w' = w := by
  obtain ⟨ad, cap, rfl, _, _⟩ := h.parts.row.form
  have c1 : w.cell? ⟨s, 1, none⟩ = some (.slice ad L.length cap) := cell_of h.blk 1
  clear h
  go_enter Try.func39, Try.ntmps39
  go_wp2_with fail
  go_ret
  exact ⟨rfl, rfl⟩
theorem len_calls {w : World} {s : Nat} {bv pv : Value} {base : List Int} {L : List Part} (h : StackAt w s bv pv base L) : Calls Try.prog 40 #[.pointer (some ⟨s, 0, none⟩)] w fun e w' => e = .returned (.int .i64 (count base L : Int)) ∧ w' = w := by
  have c1 : w.cell? ⟨s, 2, none⟩ = some (.int .i64 (count base L : Int)) := cell_of h.blk 2
  clear h
  go_enter Try.func40, Try.ntmps40
  go_wp2_with fail
  go_ret
  exact ⟨rfl, rfl⟩
/-- What the frames on top are. -/
def lastOf (fs : List Int) : Value := .tuple #[.int .i64 (fs.getLast?.getD 0), .bool fs.getLast?.isSome]
theorem top_nil_calls (w : World) : Calls Try.prog 36 #[.pointer none] w fun e w' => e = .returned (.tuple #[.int .i64 0, .bool false]) ∧ Chg (fun _ => False) w w' := by
  have HT := Lib.hid (top_nil w)
  go_enter Try.func36, Try.ntmps36
  go_wp2_with fail
  refine HT.out.mono ?_
  rintro e w1 ⟨rfl, hb, hC⟩
  have c0 : w1.cell? ⟨w.heap.size + 1, 0, none⟩ = _ := cell_of hb 0
  simp only [List.getElem?_toArray, List.getElem?_cons_zero] at c0
  have HC := Lib.hid hC
  clear hb hC
  go_wp2_with fail
  go_ret2
  exact ⟨rfl, HC.out⟩
/-- Top, once it is known where the frames on top lie. -/
theorem topAt {w : World} {s B o : Nat} {v : Value} {fs : List Int} (hT : Calls Try.prog 55 #[.pointer (some ⟨s, 0, none⟩)] w fun e w' => e = .returned (.pointer (some ⟨B, o, none⟩)) ∧ ∃ m, w' = w.drewN m)
    (hc : w.cell? ⟨B, o, none⟩ = some v) (hr : IRow w v fs) (hn : fs.length ≤ 100000) :
    Calls Try.prog 36 #[.pointer (some ⟨s, 0, none⟩)] w fun e w' => e = .returned (lastOf fs) ∧ ∃ m, w' = w.drewN m := by
  have HT := Lib.hid hT
  unfold lastOf
  rcases fs.eq_nil_or_concat with rfl | ⟨f0, f, rfl⟩
  · obtain ⟨ad, cap, rfl, _, _⟩ := hr.form
    clear hT hr
    simp only [List.getLast?_nil, Option.getD_none, Option.isSome_none, List.length_nil] at hc ⊢
    go_enter Try.func36, Try.ntmps36
    go_wp2_with fail
    refine HT.out.mono ?_
    rintro e w1 ⟨rfl, md, rfl⟩
    go_wp2_with fail
    go_ret2
    exact ⟨rfl, _, rfl⟩
  · simp only [List.concat_eq_append] at hr hn ⊢
    obtain ⟨k, hk⟩ : ∃ k, f0.length = k := ⟨_, rfl⟩
    have hlen : (f0 ++ [f]).length = k + 1 := by simp [hk]
    obtain ⟨g, off, cap, rfl, hcap⟩ := hr.formS (by omega)
    have hcell : w.cell? ⟨g, off + k, none⟩ = some (.int .i64 f) := by
      rw [hr.cell k (by omega)]
      simp [hk]
    rw [hlen] at hc hcap hn
    simp only [List.getLast?_append, List.getLast?_singleton, Option.some_or, Option.getD_some, Option.isSome_some]
    have k0 : (0 : Int) ≤ (k : Int) := by omega
    have k1 : (k : Int) < ((k + 1 : Nat) : Int) := by omega
    clear hT hr hlen hk
    go_enter Try.func36, Try.ntmps36
    go_wp2_with fail
    refine HT.out.mono ?_
    rintro e w1 ⟨rfl, md, rfl⟩
    go_wp2_with fail
    go_ret2
    exact ⟨rfl, _, rfl⟩
theorem topOf_base {w : World} {s : Nat} {bv pv : Value} {base : List Int} (h : StackAt w s bv pv base []) : Calls Try.prog 36 #[.pointer (some ⟨s, 0, none⟩)] w fun e w' => e = .returned (lastOf base) ∧ ∃ m, w' = w.drewN m :=
  topAt ((top_base h).mono fun e w' ⟨h1, h2⟩ => ⟨h1, 0, h2⟩) (cell_of h.blk 0) h.bas (by have := h.small.1; unfold count at this; omega)
theorem topOf_part {w : World} {s : Nat} {bv pv : Value} {base : List Int} {L0 : List Part} {e : Part} (h : StackAt w s bv pv base (L0 ++ [e])) : Calls Try.prog 36 #[.pointer (some ⟨s, 0, none⟩)] w fun e' w' => e' = .returned (lastOf e.fs) ∧ ∃ m, w' = w.drewN m := by
  have hlen : (L0 ++ [e]).length = L0.length + 1 := by simp
  obtain ⟨gp, offp, capp, rfl, hcp, hcell, hfree⟩ := h.rowAt (by omega)
  have hT := top_part h (by omega)
  rw [hlen, Nat.add_sub_cancel] at hT
  refine topAt hT ?_ (h.parts.frames e (by simp)) (by have := h.small.1; unfold count at this; simp at this; omega)
  rw [hcell L0.length 1 (by omega) (by omega)]
  simp [pcells]

theorem count_mark (base : List Int) (L : List Part) (m : Int) (v : Value) : count base (L ++ [⟨m, v, []⟩]) = count base L := by simp [count]
theorem mark_end {w w1 : World} {s g off cap : Nat} {bv pv : Value} {base : List Int} {L : List Part} {m : Int} {o : Obj} (h : StackAt w s bv pv base L) (hsm : L.length < 100000)
    (hr : RowAt w1 104 2 (.slice (some ⟨g, off, none⟩) (L.length + 1) cap) (L.length + 1) (L.flatMap pcells ++ [.int .i64 m, .slice none 0 0])) (hg : (w.alloc o).grownBy w1 pv.ownBlock) (hat : pv.ownBlock = some g ∨ g = w.heap.size + 1) :
    StackAt (w1.setCell ⟨s, 1, none⟩ (.slice (some ⟨g, off, none⟩) (L.length + 1) cap)) s bv (.slice (some ⟨g, off, none⟩) (L.length + 1) cap) base (L ++ [⟨m, .slice none 0 0, []⟩]) ∧
    After w (w1.setCell ⟨s, 1, none⟩ (.slice (some ⟨g, off, none⟩) (L.length + 1) cap)) (foot s bv pv L) (foot s bv (.slice (some ⟨g, off, none⟩) (L.length + 1) cap) (L ++ [⟨m, .slice none 0 0, []⟩])) := by
  have hlt := h.lt
  have hap := h.apart
  simp only [List.nodup_cons, List.nodup_append, List.mem_append, not_or] at hap
  obtain ⟨⟨hs1, hs2, hs3⟩, hb1, ⟨hp1, hp2, hp3⟩, hbp⟩ := hap
  have hgo : ∀ j ∈ foot s bv pv L, g = j → pv.ownBlock = some g := fun j hj e => by
    rcases hat with h1 | h1
    · exact h1
    · have := hlt j hj; omega
  have hgs : g ≠ s := fun e => by
    have := hgo s (by simp [foot]) e
    exact hs2 (e ▸ mem_own.2 this)
  have hgb : g ∉ own bv := fun e => by
    have := hgo g (by simp [foot, e]) rfl
    exact hbp g e g (.inl (mem_own.2 this)) rfl
  have hgL : g ∉ blocks L := fun e => by
    have := hgo g (by simp [foot, e]) rfl
    exact hp3 g (mem_own.2 this) g e rfl
  have hA : Chg (fun j => j ∈ own pv) w w1 := (((Chg.refl _ w).alloc o).grown hg (fun j _ e => mem_own.2 e))
  have hS : Chg (fun j => j = s) w1 (w1.setCell ⟨s, 1, none⟩ (.slice (some ⟨g, off, none⟩) (L.length + 1) cap)) := Chg.set (p := ⟨s, 1, none⟩) (F := fun j => j = s) (Chg.refl _ w1) (fun _ => rfl) _
  have hbl : blocks (L ++ [(⟨m, .slice none 0 0, []⟩ : Part)]) = blocks L := by rw [blocks_append, blocks_one]; simp [own, Value.ownBlock]
  refine ⟨⟨?_, ?_, ⟨?_, ?_⟩, ?_, ?_⟩, ⟨?_, ?_⟩⟩
  · have := blk_set (hA.blk h.blk hs2) 1 (.slice (some ⟨g, off, none⟩) (L.length + 1) cap)
    rw [count_mark]
    simpa using this
  · exact (h.bas.kept hA (fun j hj e => hbp j (mem_own.2 hj) j (.inl e) rfl)).kept hS (fun j hj e => hs1 (e ▸ mem_own.2 hj))
  · rw [List.length_append, List.flatMap_append]
    refine RowAt.kept hr hS (fun j hj e => ?_)
    have : g = j := by simpa [Value.ownBlock] using hj
    omega
  · intro y hy
    rcases List.mem_append.1 hy with h1 | h1
    · have hyb : ∀ j, y.v.ownBlock = some j → j ∈ blocks L := fun j hj => mem_blocks.2 ⟨y, h1, hj⟩
      exact ((h.parts.frames y h1).kept hA (fun j hj e => hp3 j e j (hyb j hj) rfl)).kept hS (fun j hj e => hs3 (e ▸ hyb j hj))
    · have : y = ⟨m, .slice none 0 0, []⟩ := by simpa using h1
      subst this
      exact RowAt.nil _ _ _
  · rw [hbl, own_slice]
    simp only [List.nodup_cons, List.nodup_append, List.mem_append, List.mem_cons, List.not_mem_nil, or_false, not_or, List.cons_append, List.nil_append]
    refine ⟨⟨hs1, fun e => hgs e.symm, hs3⟩, hb1, ⟨hgL, hp2⟩, fun j hj k hk e => ?_⟩
    rcases hk with e2 | e2
    · subst e2; exact hgb (e ▸ hj)
    · exact hbp j hj k (.inr e2) e
  · rw [count_mark]
    have := h.small
    simp only [List.length_append, List.length_cons, List.length_nil]
    omega
  · exact (hA.mono (fun j _ e => by simp [foot, e])).andThen hS (fun j _ e => by simp [foot, e])
  · intro j hj
    simp only [foot, hbl, own_slice, List.mem_cons, List.mem_append, List.not_mem_nil, or_false] at hj ⊢
    rcases hj with e | e | e | e
    · exact .inl (.inl e)
    · exact .inl (.inr (.inl e))
    · subst e
      rcases hat with h1 | h1
      · exact .inl (.inr (.inr (.inl (mem_own.2 h1))))
      · right; omega
    · exact .inl (.inr (.inr (.inr e)))
set_option maxHeartbeats 2000000 in
theorem mark_calls {w : World} {s : Nat} {bv pv : Value} {base : List Int} {L : List Part} (h : StackAt w s bv pv base L) (m : Int) (hsm : L.length < 100000) :
    Calls Try.prog 34 #[.pointer (some ⟨s, 0, none⟩), .int .i64 m] w fun e w' => (∃ u, e = .returned u) ∧ ∃ pv', StackAt w' s bv pv' base (L ++ [⟨m, .slice none 0 0, []⟩]) ∧ After w w' (foot s bv pv L) (foot s bv pv' (L ++ [⟨m, .slice none 0 0, []⟩])) := by
  have HH := Lib.hid h
  obtain ⟨n, hn⟩ : ∃ n, L.length = n := ⟨_, rfl⟩
  have HN := Lib.hid hn
  have HR : Hid (RowAt w 104 2 pv n (L.flatMap pcells)) := by rw [← hn]; exact h.parts.row
  obtain ⟨adp, capp, hpv, hnp, hmp⟩ := HR.out.form
  obtain ⟨iP, hj0, hj1, hj2, hj3⟩ := info_parts infoP
  have c1 : w.cell? ⟨s, 1, none⟩ = some pv := cell_of h.blk 1
  have hap : Hid (s ∉ own pv) := fun e => by
    have := h.apart
    rw [List.nodup_cons] at this
    exact this.1 (List.mem_append_right _ (List.mem_append_left _ e))
  rw [hn] at hsm
  clear h hn
  subst hpv
  go_enter Try.func34, Try.ntmps34
  go_wp2_with (at_builtin; refine wpList_append_row _ rfl _ _ 98 rfl 104 iP _ 2 32 Try.underlying98 hj0 hj1 hj2 hj3 rfl (by decide) (.slice adp n capp) n (L.flatMap pcells) rfl ?ya1 ⟨w.heap.size, 0, none⟩ 1 1 [.int .i64 m, .slice none 0 0] rfl rfl ?ya2 ?ya3 (by decide) ?ya4 ?ya5 _ rfl ?_)
  case ya1 => exact HR.out.kept ((Chg.refl (fun _ => False) w).alloc _) (fun _ _ h => h)
  case ya2 => exact World.news_of_block (blk_new w _)
  case ya3 => simp [Value.oneCell']
  case ya4 => unfold maxLen; omega
  case ya5 => omega
  intro g off cap w3 hrow3 hgrow3 hat3 hlt3
  have hA : Chg (fun j => j ∈ own (.slice adp n capp)) w w3 := (((Chg.refl _ w).alloc _).grown hgrow3 (fun j _ e => mem_own.2 e))
  have hblk3 := hA.blk HH.out.blk hap.out
  have hE := Lib.hid (mark_end HH.out (by rw [HN.out]; exact hsm) (by rw [HN.out]; exact hrow3) hgrow3 hat3)
  rw [HN.out] at hE
  have q0 : w3.cell? ⟨s, 1, none⟩ = some (.slice adp n capp) := cell_of hblk3 1
  have q1 : w3.frozen? ⟨s, 1, none⟩ = false := free_of hblk3 1
  clear hrow3 hgrow3 hat3 hlt3 hA hblk3
  go_wp2_with fail
  go_end0
  exact ⟨⟨_, rfl⟩, _, hE.out.1, hE.out.2⟩
end Go.Proofs.Ytkidnmjaioejaaa.Sg
