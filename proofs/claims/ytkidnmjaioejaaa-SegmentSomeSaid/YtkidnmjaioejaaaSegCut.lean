/- The stack's Cut, walked. Condition: the stack's block is known, and its rows. -/
import Derived.Test.YtkidnmjaioejaaaSegNil
namespace Go.Proofs.Ytkidnmjaioejaaa.Sg
set_option linter.unusedVariables false
set_option linter.unusedSimpArgs false
open Go.RowKit Go.Proofs.Ytkidnmjaioejaaa.Mem

def many (L : List Part) : Nat := (L.map fun e => e.fs.length).sum
/-- A piece in block p. -/
structure PieceAt (w : World) (p : Nat) (qv : Value) (L : List Part) (used : Bool) : Prop where
  blk : w.heap[p]? = some (.cells #[qv, .int .i64 (many L : Int), .bool used] 106 (0, 0))
  parts : Parts w qv L
  apart : (p :: (own qv ++ blocks L)).Nodup
  small : many L ≤ 100000 ∧ L.length ≤ 100000
def pfoot (p : Nat) (qv : Value) (L : List Part) : List Nat := p :: (own qv ++ blocks L)
theorem many_take (L : List Part) (j : Nat) (e : Part) (h : L[j]? = some e) : many (L.take (j + 1)) = many (L.take j) + e.fs.length := by
  unfold many
  rw [List.take_add_one, h]
  simp
theorem many_le (L : List Part) (j : Nat) : many (L.take j) ≤ many L := by
  have h : many L = many (L.take j) + many (L.drop j) := by
    unfold many
    rw [← List.sum_append, ← List.map_append, List.take_append_drop]
  omega
theorem count_many (base : List Int) (L0 L1 : List Part) : count base (L0 ++ L1) = count base L0 + many L1 := by simp [count, many]; omega
theorem pcells_drop (L0 L1 : List Part) : ((L0 ++ L1).flatMap pcells).drop (L0.length * 2) = L1.flatMap pcells := by
  rw [List.flatMap_append, List.drop_append_of_le_length (by rw [pcells_len]; exact Nat.le_refl _), List.drop_of_length_le (by rw [pcells_len]; exact Nat.le_refl _), List.nil_append]
theorem pcells_take (L0 L1 : List Part) : ((L0 ++ L1).flatMap pcells).take (L0.length * 2) = L0.flatMap pcells := by
  rw [List.flatMap_append]
  exact List.take_left' (pcells_len L0)
theorem frames_one {w : World} {v : Value} {L : List Part} (h : Parts w v L) : ∀ u ∈ L.flatMap pcells, u.oneCell' = true := fun u hu => by
  obtain ⟨e, he, hu⟩ := List.mem_flatMap.1 hu
  obtain ⟨ad, cap, hv, _⟩ := (h.frames e he).form
  simp only [pcells, List.mem_cons, List.not_mem_nil, or_false] at hu
  rcases hu with rfl | rfl
  · rfl
  · rw [hv]; rfl
theorem zeroP (w : World) : (zeroValue 104).run Try.prog w = .ok (.agg #[.int .i64 0, .slice none 0 0]) w := by kernel_rfl

theorem cut_end {w w2 wr w3 wf : World} {s g off n cap g' off' c' a b : Nat} {bv : Value} {base : List Int} {L0 L1 : List Part} (h : StackAt w s bv (.slice (some ⟨g, off, none⟩) n cap) base (L0 ++ L1)) (hC2 : Chg (fun _ => False) w w2) (hCr : Chg (fun k => k = w2.heap.size) w2 wr)
    (hrq : RowAt w2 104 2 (.slice (some ⟨g', off', none⟩) b c') b (L1.flatMap pcells)) (hb : L1.length = b) (ha : L0.length = a) (hg2 : w.heap.size ≤ g')
    (hpb : wr.heap[w2.heap.size]? = some (.cells #[.slice (some ⟨g', off', none⟩) b c', .int .i64 (many L1 : Int), .bool false] 106 (0, 0))) (hgr : wr.grownBy w3 (some g)) (hr3 : RowAt w3 104 2 (.slice (some ⟨g, off, none⟩) a cap) a (L0.flatMap pcells))
    (hS : Chg (fun k => k = s) w3 wf) (hsb : wf.heap[s]? = some (.cells #[bv, .slice (some ⟨g, off, none⟩) a cap, .int .i64 (count base L0 : Int)] 100 (0, 0))) :
    StackAt wf s bv (.slice (some ⟨g, off, none⟩) a cap) base L0 ∧ PieceAt wf w2.heap.size (.slice (some ⟨g', off', none⟩) b c') L1 false ∧
      (foot s bv (.slice (some ⟨g, off, none⟩) a cap) L0 ++ pfoot w2.heap.size (.slice (some ⟨g', off', none⟩) b c') L1).Nodup ∧ After w wf (foot s bv (.slice (some ⟨g, off, none⟩) n cap) (L0 ++ L1)) (foot s bv (.slice (some ⟨g, off, none⟩) a cap) L0 ++ pfoot w2.heap.size (.slice (some ⟨g', off', none⟩) b c') L1) := by
  have hlt := h.lt
  have hap := h.apart
  rw [blocks_append, own_slice] at hap
  simp only [List.nodup_cons, List.nodup_append, List.mem_append, List.mem_cons, List.not_mem_nil, or_false, not_or, List.cons_append, List.nil_append] at hap
  obtain ⟨⟨hs1, hs2, hs3, hs4⟩, hb1, ⟨⟨hp1, hp2⟩, hL1, hL2, hL3⟩, hbp⟩ := hap
  have hgq : g' < w2.heap.size := hrq.lt g' rfl
  have hs2' := hC2.size
  have olt : ∀ j, j ∈ foot s bv (.slice (some ⟨g, off, none⟩) n cap) (L0 ++ L1) → j < w.heap.size := hlt
  have lt_s : s < w.heap.size := olt s (by simp [foot])
  have lt_g : g < w.heap.size := olt g (by simp [foot, own_slice])
  have lt_b : ∀ j ∈ own bv, j < w.heap.size := fun j hj => olt j (by simp [foot, hj])
  have lt_0 : ∀ j ∈ blocks L0, j < w.heap.size := fun j hj => olt j (by simp [foot, blocks_append, hj])
  have lt_1 : ∀ j ∈ blocks L1, j < w.heap.size := fun j hj => olt j (by simp [foot, blocks_append, hj])
  -- what has turned since w
  have hW3 : Chg (fun k => k = g) w w3 := ((hC2.mono (fun _ _ h => h.elim)).andThen hCr (fun k hk e => by omega)).grown hgr (fun k _ e => by cases e; rfl)
  have hWf : Chg (fun k => k = g ∨ k = s) w wf := (hW3.mono (fun _ _ h => .inl h)).andThen hS (fun k _ e => .inr e)
  have hPr : Parts w (.slice (some ⟨g, off, none⟩) n cap) (L0 ++ L1) := h.parts
  have frame : ∀ e ∈ L0 ++ L1, (∀ j ∈ own e.v, j ≠ g ∧ j ≠ s) → IRow wf e.v e.fs := fun e he hj => (hPr.frames e he).kept hWf (fun j hj2 e2 => by
    have := hj j (mem_own.2 hj2)
    rcases e2 with e2 | e2
    · exact this.1 e2
    · exact this.2 e2)
  have own0 : ∀ e ∈ L0, ∀ j ∈ own e.v, j ∈ blocks L0 := fun e he j hj => mem_blocks.2 ⟨e, he, mem_own.1 hj⟩
  have own1 : ∀ e ∈ L1, ∀ j ∈ own e.v, j ∈ blocks L1 := fun e he j hj => mem_blocks.2 ⟨e, he, mem_own.1 hj⟩
  have hcount := h.small
  rw [count_many, List.length_append] at hcount
  refine ⟨⟨hsb, ?_, ⟨?_, fun e he => frame e (List.mem_append_left _ he) (fun j hj => ⟨fun e2 => hp1 (e2 ▸ own0 e he j hj), fun e2 => hs3 (e2 ▸ own0 e he j hj)⟩)⟩, ?_, ⟨by omega, by omega⟩⟩,
    ⟨?_, ⟨?_, fun e he => frame e (List.mem_append_right _ he) (fun j hj => ⟨fun e2 => hp2 (e2 ▸ own1 e he j hj), fun e2 => hs4 (e2 ▸ own1 e he j hj)⟩)⟩, ?_, ⟨by omega, by omega⟩⟩, ?_, ?_⟩
  · exact h.bas.kept hWf (fun j hj e2 => by
      rcases e2 with e2 | e2
      · exact hbp j (mem_own.2 hj) g (.inl rfl) e2
      · exact hs1 (e2 ▸ mem_own.2 hj))
  · rw [ha]
    refine hr3.kept hS (fun j hj e2 => ?_)
    have : g = j := by simpa [Value.ownBlock] using hj
    subst this
    exact hs2 e2.symm
  · rw [own_slice]
    simp only [List.nodup_cons, List.nodup_append, List.mem_append, List.mem_cons, List.not_mem_nil, or_false, not_or, List.cons_append, List.nil_append]
    refine ⟨⟨hs1, hs2, hs3⟩, hb1, ⟨hp1, hL1⟩, fun j hj k hk e => ?_⟩
    rcases hk with e2 | e2
    · exact hbp j hj k (.inl e2) e
    · exact hbp j hj k (.inr (.inl e2)) e
  · refine hS.blk ?_ (by omega)
    rw [hgr.block w2.heap.size (lt_of_block hpb) (by simp; omega)]
    exact hpb
  · rw [hb]
    refine ((hrq.kept hCr (fun j hj e2 => ?_)).kept (F := fun k => k = g) ((Chg.refl _ wr).grown hgr (fun k _ e => by cases e; rfl)) (fun j hj e2 => ?_)).kept hS (fun j hj e2 => ?_)
    · have : g' = j := by simpa [Value.ownBlock] using hj
      omega
    · have : g' = j := by simpa [Value.ownBlock] using hj
      omega
    · have : g' = j := by simpa [Value.ownBlock] using hj
      omega
  · rw [own_slice]
    simp only [List.nodup_cons, List.nodup_append, List.mem_append, List.mem_cons, List.not_mem_nil, or_false, not_or, List.cons_append, List.nil_append]
    exact ⟨⟨by omega, fun e => by have := lt_1 _ e; omega⟩, fun e => by have := lt_1 _ e; omega, hL2⟩
  · unfold foot pfoot
    rw [own_slice, own_slice]
    simp only [List.nodup_cons, List.nodup_append, List.mem_append, List.mem_cons, List.not_mem_nil, or_false, not_or, List.cons_append, List.nil_append]
    refine ⟨⟨⟨hs1, hs2, hs3⟩, by omega, by omega, hs4⟩, ⟨hb1, ⟨hp1, hL1⟩, fun j hj k hk e => ?_⟩, ⟨⟨by omega, fun e => by have := lt_1 _ e; omega⟩, fun e => by have := lt_1 _ e; omega, hL2⟩, fun j hj k hk e => ?_⟩
    · rcases hk with e2 | e2
      · exact hbp j hj k (.inl e2) e
      · exact hbp j hj k (.inr (.inl e2)) e
    · subst e
      have hj3 : j < w.heap.size := by
        rcases hj with e2 | e2 | e2
        · exact lt_b j e2
        · omega
        · exact lt_0 j e2
      rcases hk with e2 | e2 | e2
      · omega
      · omega
      · rcases hj with e3 | e3 | e3
        · exact hbp j e3 j (.inr (.inr e2)) rfl
        · exact hp2 (e3 ▸ e2)
        · exact hL3 j e3 j e2 rfl
  · refine ⟨hWf.mono (fun j _ e => ?_), fun j hj => ?_⟩
    · rcases e with e | e
      · simp [foot, own_slice, e]
      · simp [foot, e]
    · unfold foot pfoot at hj
      rw [own_slice, own_slice] at hj
      simp only [foot, blocks_append, own_slice, List.mem_cons, List.mem_append, List.not_mem_nil, or_false] at hj ⊢
      rcases hj with (e | e | e | e) | e | e | e
      · exact .inl (.inl e)
      · exact .inl (.inr (.inl e))
      · exact .inl (.inr (.inr (.inl e)))
      · exact .inl (.inr (.inr (.inr (.inl e))))
      · right; omega
      · right; omega
      · exact .inl (.inr (.inr (.inr (.inr e))))

set_option maxRecDepth 100000 in
set_option maxHeartbeats 4000000 in
theorem cut_walk {w : World} {s : Nat} {bv pv : Value} {base : List Int} {L0 L1 : List Part} (h : StackAt w s bv pv base (L0 ++ L1)) (h1 : 0 < L1.length) (i : Int) (hi : i = (L1.length : Int) - 1) :
    Calls Try.prog 30 #[.pointer (some ⟨s, 0, none⟩), .int .i64 i] w fun e w' => ∃ p pv' qv, e = .returned (.tuple #[.pointer (some ⟨p, 0, none⟩), .bool true]) ∧ StackAt w' s bv pv' base L0 ∧ PieceAt w' p qv L1 false ∧
      (foot s bv pv' L0 ++ pfoot p qv L1).Nodup ∧ After w w' (foot s bv pv (L0 ++ L1)) (foot s bv pv' L0 ++ pfoot p qv L1) := by
  obtain ⟨n, hn⟩ : ∃ n, (L0 ++ L1).length = n := ⟨_, rfl⟩
  obtain ⟨a, ha⟩ : ∃ a, L0.length = a := ⟨_, rfl⟩
  have hnab : n = a + L1.length := by rw [← hn, ← ha]; simp
  obtain ⟨g, off, cap, hpv, hcap, _, hfree⟩ := h.rowAt (by omega)
  rw [hn] at hpv hcap
  subst hpv
  have HM := Lib.hid (marks_calls h)
  rw [hn] at HM
  have hrow : RowAt w 104 2 (.slice (some ⟨g, off, none⟩) n cap) n ((L0 ++ L1).flatMap pcells) := by have := h.parts.row; rw [hn] at this; exact this
  have hrd := hrow.drop a (by omega)
  rw [← ha, pcells_drop, ha] at hrd
  obtain ⟨b, hb⟩ : ∃ b, n - a = b := ⟨_, rfl⟩
  have hbl : L1.length = b := by omega
  rw [hb] at hrd
  have hp1 : Parts w (.slice (some ⟨g, off, none⟩) n cap) (L0 ++ L1) := h.parts
  have hone : ∀ u ∈ L1.flatMap pcells, u.oneCell' = true := fun u hu => frames_one hp1 u (by rw [List.flatMap_append]; exact List.mem_append_right _ hu)
  have HCL := Lib.hid (clone_parts hrd (by omega) (by have := h.small.2; omega) hone)
  have HH := Lib.hid h
  have HRW := Lib.hid hrow
  have HA := Lib.hid ha
  have HNN := Lib.hid hn
  have c1 : w.cell? ⟨s, 1, none⟩ = some (.slice (some ⟨g, off, none⟩) n cap) := cell_of h.blk 1
  have hi0 : (0 : Int) ≤ i := by omega
  have hi1 : i < (n : Int) := by omega
  have hat : (n : Int) - 1 - i = (a : Int) := by omega
  have ha0 : (0 : Int) ≤ (a : Int) := by omega
  have han : (a : Int) ≤ (n : Int) := by omega
  have hac : (a : Int) ≤ (cap : Int) := by omega
  have hn5 : n ≤ 100000 := by have := h.small.2; omega
  have HAB := Lib.hid hnab
  have HBL := Lib.hid hbl
  have hb1 : 0 < b := by omega
  have hb5 : b ≤ 100000 := by omega
  have hmany := h.small.1
  rw [count_many] at hmany
  have hms : many L1 ≤ 100000 := by omega
  have hal : a < n := by omega
  clear h hrow hrd hp1 hone hn ha hi hnab hbl hmany h1
  go_enter Try.func30, Try.ntmps30
  go_wp2_with fail
  refine HM.out.mono ?_
  rintro e w1 ⟨rfl, rfl⟩
  go_wp2_with fail
  refine HCL.out.mono ?_
  rintro e w2 ⟨g', off', c', rfl, hrq, hC2, hg2⟩
  have HRQ := Lib.hid hrq
  have HC2 := Lib.hid hC2
  clear hrq hC2
  go_wp2_with fail
  go_loopg [40] (b + 1) (fun g vi wr => ∃ (j : Nat), vi = .int .i64 j ∧ j ≤ b ∧ b < g + j ∧ Hid (wr.heap[w2.heap.size]? = some (.cells #[.slice (some ⟨g', off', none⟩) b c', .int .i64 (many (L1.take j) : Int), .bool false] 106 (0, 0))) ∧ Hid (Chg (fun k => k = w2.heap.size) w2 wr))
  case atStart => exact ⟨0, rfl, by omega, by omega, Lib.hid (blk_new w2 _), Lib.hid ((Chg.refl _ w2).alloc _)⟩
  case round =>
    obtain ⟨j, rfl, hj, hgj, hpb, hC⟩ := hrel
    have hp1 : w2.heap.size < wr.heap.size := lt_of_block hpb.out
    have hgg : g' < w2.heap.size := HRQ.out.lt g' rfl
    have hRr : RowAt wr 104 2 (.slice (some ⟨g', off', none⟩) b c') b (L1.flatMap pcells) := HRQ.out.kept hC.out (fun k hk e => by
      have : g' = k := by simpa [Value.ownBlock] using hk
      omega)
    by_cases hlt : j < b
    · obtain ⟨gq, rfl⟩ : ∃ m, gk = m + 1 := ⟨gk - 1, by omega⟩
      have hjl : j < L1.length := by rw [HBL.out]; exact hlt
      obtain ⟨e1, he1⟩ : ∃ e1, L1[j]? = some e1 := ⟨_, List.getElem?_eq_getElem hjl⟩
      have hcell : ∀ q, q < 2 → wr.cell? ⟨g', off' + j * 2 + q, none⟩ = (pcells e1)[q]? := fun q hq => by
        rw [Nat.add_assoc, hRr.cell (j * 2 + q) (by omega), pcells_get L1 j q hjl hq]
        rw [List.getElem?_eq_getElem hjl] at he1
        cases he1; rfl
      have a0 : wr.cell? ⟨g', off' + j * 2, none⟩ = _ := hcell 0 (by omega)
      have a1 := hcell 1 (by omega)
      have hmem : e1 ∈ L0 ++ L1 := List.mem_append_right _ (List.mem_of_getElem? he1)
      obtain ⟨ade, cape, hev, _, _⟩ := (HH.out.parts.frames e1 hmem).form
      have hmt := Lib.hid (many_take L1 j e1 he1)
      have hml := many_le L1 (j + 1)
      rw [hmt.out] at hml
      obtain ⟨em, ev, efs⟩ := e1
      simp only at hev
      subst hev
      simp only [pcells, List.getElem?_cons_zero, List.getElem?_cons_succ] at a0 a1
      simp only at hml hmt
      obtain ⟨mm, hmm⟩ : ∃ mm, many (L1.take j) = mm := ⟨_, rfl⟩
      rw [hmm] at hml hmt hpb
      obtain ⟨ne, hne⟩ : ∃ ne, efs.length = ne := ⟨_, rfl⟩
      rw [hne] at hml hmt a1
      have i0 : (0 : Int) ≤ (j : Int) := by omega
      have i1 : (j : Int) < (b : Int) := by omega
      have p1 : (wr.alloc (.cells #[.int .i64 em, .slice ade ne cape] 104)).cell? ⟨w2.heap.size, 1, none⟩ = some (.int .i64 mm) := cell_of (blk_alloc hpb.out _) 1
      have p2 : (wr.alloc (.cells #[.int .i64 em, .slice ade ne cape] 104)).frozen? ⟨w2.heap.size, 1, none⟩ = false := free_of (blk_alloc hpb.out _) 1
      have p3 : (wr.alloc (.cells #[.int .i64 em, .slice ade ne cape] 104)).cell? ⟨wr.heap.size, 1, none⟩ = some (.slice ade ne cape) := cell_of (blk_new wr _) 1
      have HS : Hid ((wr.setCell ⟨w2.heap.size, 1, none⟩ (.int .i64 ((mm : Int) + (ne : Int)))).heap[w2.heap.size]? = some (.cells #[.slice (some ⟨g', off', none⟩) b c', .int .i64 (many (L1.take (j + 1)) : Int), .bool false] 106 (0, 0))) := by
        have := blk_set hpb.out 1 (.int .i64 ((mm : Int) + (ne : Int)))
        rw [hmt.out]
        push_cast
        exact Lib.hid (by simpa using this)
      have mm0 : (0 : Int) ≤ (mm : Int) + (ne : Int) := by omega
      have mm1 : (mm : Int) + (ne : Int) ≤ 100000 := by omega
      clear hRr hcell hmem he1 hmt hne hmm hml
      go_wp2_with fail
      go_region
      all_goals
        go_wp2_with fail
        go_roundg gq
        case measure => omega
        case rel => exact ⟨j + 1, by go_num, by omega, by omega, blk_ad HS.out _, ((Chg.set (p := ⟨w2.heap.size, 1, none⟩) (F := fun k => k = w2.heap.size) hC.out (fun _ => rfl) _).alloc _).drewN 1⟩
    · obtain rfl : j = b := by omega
      have i2 : ¬ (j : Int) < (j : Int) := by omega
      have hall : L1.take j = L1 := List.take_of_length_le (by rw [HBL.out]; exact Nat.le_refl _)
      rw [hall] at hpb
      have hWr : Chg (fun k => k = w2.heap.size) w1 wr := (HC2.out.mono (fun _ _ h => h.elim)).andThen hC.out (fun k _ e => e)
      have hs2 := HC2.out.size
      have hsl : s < w1.heap.size := lt_of_block HH.out.blk
      have hgl : g < w1.heap.size := HRW.out.lt g rfl
      have hgs : g ≠ s := fun e => by
        have := HH.out.apart
        rw [own_slice, List.nodup_cons] at this
        exact this.1 (by simp [e])
      have hsb : wr.heap[s]? = some (.cells #[bv, .slice (some ⟨g, off, none⟩) n cap, .int .i64 (count base (L0 ++ L1) : Int)] 100 (0, 0)) := hWr.blk HH.out.blk (by omega)
      have hrow2 := HRW.out.kept hWr (fun k hk e => by
        have : g = k := by simpa [Value.ownBlock] using hk
        omega)
      obtain ⟨iP, hj0, hj1, hj2, hj3⟩ := info_parts infoP
      obtain ⟨w3, hclr, hr3, hg3⟩ := run_clear_row (P := Try.prog) wr 98 104 0 iP _ 2 Try.underlying98 zeroP rfl (by decide) hrow2 a (cap - a) (by omega)
      have hclr2 : ∀ ty, (Builtin.clear_ #[98] ty #[.slice (some ⟨g, off + a * 2, none⟩) j (cap - a)]).run Try.prog wr = .ok (.tuple #[]) w3 := fun ty => by rw [← hb]; exact hclr
      have hsb3 : w3.heap[s]? = some (.cells #[bv, .slice (some ⟨g, off, none⟩) n cap, .int .i64 (count base (L0 ++ L1) : Int)] 100 (0, 0)) := by
        rw [hg3.block s (lt_of_block hsb) (by simp; omega)]; exact hsb
      have hpb3 : w3.heap[w2.heap.size]? = some (.cells #[.slice (some ⟨g', off', none⟩) j c', .int .i64 (many L1 : Int), .bool false] 106 (0, 0)) := by
        rw [hg3.block _ hp1 (by simp; omega)]; exact hpb.out
      rw [count_many] at hsb hsb3
      obtain ⟨m1, hm1⟩ : ∃ m1, many L1 = m1 := ⟨_, rfl⟩
      obtain ⟨m0, hm0⟩ : ∃ m0, count base L0 = m0 := ⟨_, rfl⟩
      have HE := Lib.hid (fun wf hS hsb => cut_end (wf := wf) HH.out HC2.out hC.out HRQ.out HBL.out HA.out hg2 hpb.out hg3 (by rw [← HA.out, pcells_take] at hr3; rw [← HA.out]; exact hr3) hS hsb)
      have hq1 : wr.cell? ⟨s, 1, none⟩ = some (.slice (some ⟨g, off, none⟩) n cap) := cell_of hsb 1
      have r1 : w3.cell? ⟨s, 1, none⟩ = some (.slice (some ⟨g, off, none⟩) n cap) := cell_of hsb3 1
      have r2 : w3.frozen? ⟨s, 1, none⟩ = false := free_of hsb3 1
      have r3 : w3.cell? ⟨s, 2, none⟩ = _ := cell_of hsb3 2
      have r4 : w3.frozen? ⟨s, 2, none⟩ = false := free_of hsb3 2
      have r5 : w3.cell? ⟨w2.heap.size, 1, none⟩ = _ := cell_of hpb3 1
      simp only [List.getElem?_toArray, List.getElem?_cons_zero, List.getElem?_cons_succ] at r3 r5
      have hps : w2.heap.size ≠ s := by omega
      rw [hm1, hm0] at r3
      rw [hm1] at r5
      rw [hm1] at hms
      have hm05 : m0 ≤ 100000 := by
        have := HH.out.small.1
        rw [count_many, hm0] at this
        omega
      have HM0 := Lib.hid hm0
      have HSB3 := Lib.hid hsb3
      have hsub : ((m0 + m1 : Nat) : Int) - (m1 : Int) = (m0 : Int) := by push_cast; omega
      clear hclr hrow2 hr3 hg3 hsb hsb3 hpb3 hpb hall hm1 hm0 hWr
      go_wp2_with fail
      go_region
      all_goals
        go_wp2_with fail
        go_ret2
        have hfin : ((w3.setCell ⟨s, 1, none⟩ (.slice (some ⟨g, off, none⟩) a cap)).setCell ⟨s, 2, none⟩ (.int .i64 (m0 : Int))).drew.heap[s]? = some (.cells #[bv, .slice (some ⟨g, off, none⟩) a cap, .int .i64 (count base L0 : Int)] 100 (0, 0)) := by
          have := blk_set (blk_set HSB3.out 1 (.slice (some ⟨g, off, none⟩) a cap)) 2 (.int .i64 (m0 : Int))
          rw [HM0.out]
          show ((w3.setCell ⟨s, 1, none⟩ (.slice (some ⟨g, off, none⟩) a cap)).setCell ⟨s, 2, none⟩ (.int .i64 (m0 : Int))).heap[s]? = _
          simpa using this
        obtain ⟨z1, z2, z3, z4⟩ := HE.out _ ((Chg.set (p := ⟨s, 2, none⟩) (F := fun k => k = s) (Chg.set (p := ⟨s, 1, none⟩) (F := fun k => k = s) (Chg.refl _ w3) (fun _ => rfl) _) (fun _ => rfl) _).drewN 1) hfin
        exact ⟨_, _, _, rfl, z1, z2, z3, z4⟩
end Go.Proofs.Ytkidnmjaioejaaa.Sg
