/- The stack's Join, walked. Condition: the stack's and the piece's blocks are known, and their rows; they are apart. -/
import Derived.Test.YtkidnmjaioejaaaSegJoin
namespace Go.Proofs.Ytkidnmjaioejaaa.Sg
set_option linter.unusedVariables false
set_option linter.unusedSimpArgs false
open Go.RowKit Go.Proofs.Ytkidnmjaioejaaa.Mem

/-- A stack whose count is c. -/
structure StackC (w : World) (s : Nat) (bv pv : Value) (base : List Int) (L : List Part) (c : Int) : Prop where
  blk : w.heap[s]? = some (.cells #[bv, pv, .int .i64 c] 100 (0, 0))
  bas : IRow w bv base
  parts : Parts w pv L
  apart : (s :: (own bv ++ (own pv ++ blocks L))).Nodup
theorem StackAt.toC {w : World} {s : Nat} {bv pv : Value} {base : List Int} {L : List Part} (h : StackAt w s bv pv base L) : StackC w s bv pv base L (count base L : Int) := ⟨h.blk, h.bas, h.parts, h.apart⟩
theorem StackC.chg {F : Nat → Prop} {w w' : World} {s : Nat} {bv pv : Value} {base : List Int} {L : List Part} {c : Int} (h : StackC w s bv pv base L c) (hc : Chg F w w') (hf : ∀ j ∈ foot s bv pv L, ¬ F j) : StackC w' s bv pv base L c :=
  ⟨hc.blk h.blk (hf s List.mem_cons_self), h.bas.kept hc (fun j hj => hf j (List.mem_cons_of_mem _ (List.mem_append_left _ (mem_own.2 hj)))),
    h.parts.chg hc (fun j hj => hf j (List.mem_cons_of_mem _ (List.mem_append_right _ hj))), h.apart⟩
theorem StackC.lt {w : World} {s : Nat} {bv pv : Value} {base : List Int} {L : List Part} {c : Int} (h : StackC w s bv pv base L c) (j : Nat) (hj : j ∈ foot s bv pv L) : j < w.heap.size := by
  rcases List.mem_cons.1 hj with rfl | h1
  · exact lt_of_block h.blk
  · rcases List.mem_append.1 h1 with h2 | h2
    · exact h.bas.lt j (mem_own.1 h2)
    · exact h.parts.lt j h2
theorem own_nodup (v : Value) : (own v).Nodup := by
  unfold own
  cases v.ownBlock <;> simp
theorem join_end {w w2 w3 : World} {s g off cap : Nat} {bv pv : Value} {base : List Int} {L : List Part} {c : Int} {e : Part} (h : StackC w s bv pv base L c) (hC2 : Chg (fun _ => False) w w2)
    (he : IRow w2 e.v e.fs) (hev : ∀ j ∈ own e.v, w.heap.size ≤ j) (hA : Chg (fun j => j ∈ own pv) w2 w3)
    (hr : RowAt w3 104 2 (.slice (some ⟨g, off, none⟩) (L.length + 1) cap) (L.length + 1) (L.flatMap pcells ++ pcells e)) (hat : pv.ownBlock = some g ∨ w2.heap.size ≤ g) :
    StackC (w3.setCell ⟨s, 1, none⟩ (.slice (some ⟨g, off, none⟩) (L.length + 1) cap)) s bv (.slice (some ⟨g, off, none⟩) (L.length + 1) cap) base (L ++ [e]) c ∧
    After w (w3.setCell ⟨s, 1, none⟩ (.slice (some ⟨g, off, none⟩) (L.length + 1) cap)) (foot s bv pv L) (foot s bv (.slice (some ⟨g, off, none⟩) (L.length + 1) cap) (L ++ [e])) := by
  have hlt := h.lt
  have hap := h.apart
  have hs2 := hC2.size
  simp only [List.nodup_cons, List.nodup_append, List.mem_append, not_or] at hap
  obtain ⟨⟨hs1, hs2, hs3⟩, hb1, ⟨hp1, hp2, hp3⟩, hbp⟩ := hap
  have hlt2 : ∀ j ∈ own e.v, j < w2.heap.size := fun j hj => he.lt j (mem_own.1 hj)
  have hgo : ∀ j, j < w2.heap.size → g = j → pv.ownBlock = some g := fun j hj e => by
    rcases hat with h1 | h1
    · exact h1
    · omega
  have lf : ∀ j ∈ foot s bv pv L, j < w2.heap.size := fun j hj => by have := hlt j hj; omega
  have hgs : g ≠ s := fun e => by
    have := hgo s (lf s (by simp [foot])) e
    exact hs2 (e ▸ mem_own.2 this)
  have hgb : g ∉ own bv := fun e => by
    have := hgo g (lf g (by simp [foot, e])) rfl
    exact hbp g e g (.inl (mem_own.2 this)) rfl
  have hgL : g ∉ blocks L := fun e => by
    have := hgo g (lf g (by simp [foot, e])) rfl
    exact hp3 g (mem_own.2 this) g e rfl
  have hge : g ∉ own e.v := fun e1 => by
    have := hgo g (hlt2 g e1) rfl
    have h3 := hlt g (by simp [foot, mem_own.2 this])
    have := hev g e1
    omega
  have hne : ∀ j ∈ own e.v, j ∉ foot s bv pv L := fun j hj e1 => by have := hev j hj; have := hlt j e1; omega
  have hS : Chg (fun j => j = s) w3 (w3.setCell ⟨s, 1, none⟩ (.slice (some ⟨g, off, none⟩) (L.length + 1) cap)) := Chg.set (p := ⟨s, 1, none⟩) (F := fun j => j = s) (Chg.refl _ w3) (fun _ => rfl) _
  have hA2 : Chg (fun j => j ∈ own pv) w w3 := (hC2.mono (fun _ _ e => e.elim)).trans hA
  refine ⟨⟨?_, ?_, ⟨?_, ?_⟩, ?_⟩, ⟨?_, ?_⟩⟩
  · have := blk_set (hA2.blk h.blk hs2) 1 (.slice (some ⟨g, off, none⟩) (L.length + 1) cap)
    simpa using this
  · exact (h.bas.kept hA2 (fun j hj e => hbp j (mem_own.2 hj) j (.inl e) rfl)).kept hS (fun j hj e => hs1 (e ▸ mem_own.2 hj))
  · rw [List.length_append, List.flatMap_append]
    refine RowAt.kept (by simpa using hr) hS (fun j hj e => ?_)
    have : g = j := by simpa [Value.ownBlock] using hj
    omega
  · intro y hy
    rcases List.mem_append.1 hy with h1 | h1
    · have hyb : ∀ j, y.v.ownBlock = some j → j ∈ blocks L := fun j hj => mem_blocks.2 ⟨y, h1, hj⟩
      exact ((h.parts.frames y h1).kept hA2 (fun j hj e => hp3 j e j (hyb j hj) rfl)).kept hS (fun j hj e => hs3 (e ▸ hyb j hj))
    · have : y = e := by simpa using h1
      subst this
      exact (he.kept hA (fun j hj e1 => hne j (mem_own.2 hj) (by simp [foot, e1]))).kept hS (fun j hj e1 => hne j (mem_own.2 hj) (by simp [foot, e1]))
  · rw [blocks_append, blocks_one, own_slice]
    simp only [List.nodup_cons, List.nodup_append, List.mem_append, List.mem_cons, List.not_mem_nil, or_false, not_or, List.cons_append, List.nil_append]
    refine ⟨⟨hs1, fun e => hgs e.symm, hs3, fun e1 => hne s e1 (by simp [foot])⟩, hb1, ⟨⟨hgL, hge⟩, hp2, own_nodup _, fun j hj k hk e1 => hne k hk (by rw [← e1]; simp [foot, hj])⟩, fun j hj k hk e1 => ?_⟩
    rcases hk with e2 | e2 | e2
    · subst e2; exact hgb (e1 ▸ hj)
    · exact hbp j hj k (.inr e2) e1
    · exact hne k e2 (by rw [← e1]; simp [foot, hj])
  · exact (hA2.mono (fun j _ e => by simp [foot, e])).andThen hS (fun j _ e => by simp [foot, e])
  · intro j hj
    simp only [foot, blocks_append, blocks_one, own_slice, List.mem_cons, List.mem_append, List.not_mem_nil, or_false] at hj ⊢
    rcases hj with e1 | e1 | e1 | e1 | e1
    · exact .inl (.inl e1)
    · exact .inl (.inr (.inl e1))
    · subst e1
      rcases hat with h1 | h1
      · exact .inl (.inr (.inr (.inl (mem_own.2 h1))))
      · right; omega
    · exact .inl (.inr (.inr (.inr e1)))
    · exact .inr (hev j e1)
def keys (L : List Part) : List (Int × List Int) := L.map fun e => (e.m, e.fs)
theorem flatP_keys (A B : List Part) (h : keys A = keys B) : flatP A = flatP B := by
  have h2 : ∀ L : List Part, flatP L = (keys L).flatMap fun x => mk x.1 :: x.2.map fr := fun L => by simp [flatP, keys, List.flatMap_map]
  rw [h2, h2, h]
theorem PieceAt.chg {G : Nat → Prop} {w w' : World} {p : Nat} {qv : Value} {L : List Part} {u : Bool} (h1 : PieceAt w p qv L u) (hc : Chg G w w') (hf : ∀ j ∈ pfoot p qv L, ¬ G j) : PieceAt w' p qv L u :=
  ⟨hc.blk h1.blk (hf p (by simp [pfoot])), h1.parts.chg hc (fun j hj => hf j (List.mem_cons_of_mem _ hj)), h1.apart, h1.small⟩
theorem PieceAt.lt {w : World} {p : Nat} {qv : Value} {L : List Part} {u : Bool} (h1 : PieceAt w p qv L u) : ∀ j ∈ pfoot p qv L, j < w.heap.size := fun j hj => by
  rcases List.mem_cons.1 hj with rfl | hj
  · exact lt_of_block h1.blk
  · exact h1.parts.lt j hj
theorem round_end {w wr wx w3 w4 : World} {s p g off cap n ke cc j : Nat} {adp adc : Option Addr} {capp : Nat} {bv pv qv : Value} {base efs : List Int} {L M Lq : List Part} {c em : Int} {o : Obj}
    (hSX : StackC wx s bv (.slice adp n capp) base (L ++ M) c) (hn : (L ++ M).length = n) (hCx : Chg (fun _ => False) wr wx) (hC : Chg (fun j => j ∈ foot s bv pv L ∨ j = p) w wr) (hP : PieceAt wr p qv Lq true)
    (hF : ∀ k ∈ foot s bv (.slice adp n capp) (L ++ M), k ∈ foot s bv pv L ∨ w.heap.size ≤ k) (hPF : ∀ j ∈ pfoot p qv Lq, j ∉ foot s bv pv L) (hpl : ∀ j ∈ pfoot p qv Lq, j < w.heap.size)
    (hM : keys M = keys (Lq.take j)) (hKT : keys (Lq.take (j + 1)) = keys (Lq.take j) ++ [(em, efs)]) (hke : efs.length = ke)
    (hCc : Chg (fun _ => False) wx.drew w3) (hrc : IRow w3 (.slice adc ke cc) efs) (hoc : ∀ j ∈ own (.slice adc ke cc), wx.drew.heap.size ≤ j)
    (hr : RowAt w4 104 2 (.slice (some ⟨g, off, none⟩) (n + 1) cap) (n + 1) ((L ++ M).flatMap pcells ++ [.int .i64 em, .slice adc ke cc])) (hg : (w3.alloc o).grownBy w4 (Value.slice adp n capp).ownBlock) (hat : (Value.slice adp n capp).ownBlock = some g ∨ g = (w3.alloc o).heap.size) :
    ∃ pv' M', StackC (w4.setCell ⟨s, 1, none⟩ (.slice (some ⟨g, off, none⟩) (n + 1) cap)) s bv pv' base (L ++ M') c ∧ keys M' = keys (Lq.take (j + 1)) ∧ PieceAt (w4.setCell ⟨s, 1, none⟩ (.slice (some ⟨g, off, none⟩) (n + 1) cap)) p qv Lq true ∧
      Chg (fun j => j ∈ foot s bv pv L ∨ j = p) w (w4.setCell ⟨s, 1, none⟩ (.slice (some ⟨g, off, none⟩) (n + 1) cap)) ∧ ∀ k ∈ foot s bv pv' (L ++ M'), k ∈ foot s bv pv L ∨ w.heap.size ≤ k := by
  subst hn
  have hC3 : Chg (fun _ => False) wx w3 := ⟨hCc.os, hCc.tape, hCc.output, hCc.size, hCc.block⟩
  have hA : Chg (fun j => j ∈ own (.slice adp (L ++ M).length capp)) w3 w4 := ((Chg.refl _ w3).alloc o).grown hg (fun k _ e => mem_own.2 e)
  obtain ⟨z1, z2⟩ := join_end (e := ⟨em, .slice adc ke cc, efs⟩) hSX hC3 hrc (fun j hj => hoc j hj) hA hr (by
    rcases hat with h | h
    · exact .inl h
    · right
      have : (w3.alloc o).heap.size = w3.heap.size + 1 := by simp
      omega)
  rw [List.append_assoc] at z1 z2
  have hsz := hC.size
  have hszx := hCx.size
  have hCwx : Chg (fun j => j ∈ foot s bv pv L ∨ j = p) w wx := hC.andThen hCx (fun _ _ e => e.elim)
  have hps : ∀ j ∈ pfoot p qv Lq, j ∉ foot s bv (.slice adp (L ++ M).length capp) (L ++ M) := fun j hj e => by
    rcases hF j e with h | h
    · exact hPF j hj h
    · have := hpl j hj; omega
  refine ⟨_, M ++ [⟨em, .slice adc ke cc, efs⟩], z1, ?_, ?_, ?_, ?_⟩
  · rw [hKT, ← hM]
    simp [keys]
  · exact (hP.chg hCx (fun _ _ e => e)).chg z2.chg hps
  · refine hCwx.andThen z2.chg (fun j hj e => ?_)
    rcases hF j e with h | h
    · exact .inl h
    · omega
  · intro k hk
    rcases z2.new k hk with h | h
    · exact hF k h
    · right
      omega
theorem join_final {wr : World} {s : Nat} {bv pv' : Value} {base : List Int} {LM : List Part} {c : Int} (h : StackC wr s bv pv' base LM c) (ct : Nat) (hct : count base LM = ct) (hsm : ct ≤ 100000 ∧ LM.length ≤ 100000) :
    StackAt (wr.setCell ⟨s, 2, none⟩ (.int .i64 (ct : Int))) s bv pv' base LM := by
  have hS : Chg (fun j => j = s) wr (wr.setCell ⟨s, 2, none⟩ (.int .i64 (ct : Int))) := Chg.set (p := ⟨s, 2, none⟩) (F := fun j => j = s) (Chg.refl _ wr) (fun _ => rfl) _
  have hap := h.apart
  rw [List.nodup_cons] at hap
  refine ⟨?_, h.bas.kept hS (fun j hj e => hap.1 (e ▸ List.mem_append_left _ (mem_own.2 hj))), h.parts.chg hS (fun j hj e => hap.1 (e ▸ List.mem_append_right _ hj)), h.apart, by rw [hct]; exact hsm⟩
  have := blk_set h.blk 2 (.int .i64 (ct : Int))
  rw [hct]
  simpa using this
theorem cell_alj {w : World} {p : Addr} {u : Value} (o : Obj) (h : w.cell? p = some u) : (w.alloc o).cell? p = some u :=
  (World.cell?_of_block (w := w) (w' := w.alloc o) (Below.heap_alloc _ _ _ (World.block_lt_of_cell? w _ h))).trans h
theorem join_cells {wx w3 : World} {s X : Nat} {bv pv v : Value} {base : List Int} {L : List Part} {c m : Int} {md : Nat} (h : StackC wx s bv pv base L c) (hx : wx.heap[X]? = some (.cells #[.int .i64 m, v] 104 (0, 0))) (hC : Chg (fun _ => False) (wx.drewN md) w3) :
    w3.cell? ⟨s, 1, none⟩ = some pv ∧ w3.cell? ⟨X, 0, none⟩ = some (.int .i64 m) ∧ w3.cell? ⟨X, 1, none⟩ = some v ∧ ∀ o, (w3.alloc o).cell? ⟨s, 1, none⟩ = some pv := by
  have h1 := hC.blk (w := wx.drewN md) h.blk (fun h => h)
  have h2 := hC.blk (w := wx.drewN md) hx (fun h => h)
  exact ⟨cell_of h1 1, cell_of h2 0, cell_of h2 1, fun o => cell_of (blk_alloc h1 o) 1⟩
theorem join_cells4 {wx w3 w4 : World} {s X : Nat} {bv pv v : Value} {base : List Int} {L : List Part} {c m : Int} {md : Nat} {o : Obj} (h : StackC wx s bv pv base L c) (hx : wx.heap[X]? = some (.cells #[.int .i64 m, v] 104 (0, 0))) (hX : X ∉ own pv) (hC : Chg (fun _ => False) (wx.drewN md) w3) (hg : (w3.alloc o).grownBy w4 pv.ownBlock) :
    w4.cell? ⟨s, 1, none⟩ = some pv ∧ w4.cell? ⟨X, 0, none⟩ = some (.int .i64 m) ∧ w4.cell? ⟨X, 1, none⟩ = some v ∧ w4.frozen? ⟨s, 1, none⟩ = false := by
  have hs : s ∉ own pv := fun e => by
    have := h.apart
    rw [List.nodup_cons] at this
    exact this.1 (List.mem_append_right _ (List.mem_append_left _ e))
  have hA : Chg (fun j => j ∈ own pv) (wx.drewN md) w4 := ((hC.mono (fun _ _ e => e.elim)).alloc o).grown hg (fun k _ e => mem_own.2 e)
  have h1 := hA.blk (w := wx.drewN md) h.blk hs
  have h2 := hA.blk (w := wx.drewN md) hx hX
  exact ⟨cell_of h1 1, cell_of h2 0, cell_of h2 1, free_of h1 1⟩
theorem step_calls1 {P : Program} {ops : Array Oper} {o : Oper} {a : Act} {w : World} {K : Act → World → Prop} {Q : Exit → Act → World → Prop} {E : Prop} {R : Ending → World → Prop}
    (hgd : o.guard = none) (f : FuncId) (x : Operand) (t : TypeId) (hop : o.op = Op.call { callee := Callee.value (Operand.func f), args := #[x], argTypes := #[t] }) (v : Value) (hx : a.eval x = v)
    (hen : ∀ args w, (callFunc f args).run P w = .ok (.enter f args) w) (hC : Calls P f #[v] w R) (hR : ∀ e w', R e w' → ∃ u, e = .returned u ∧ K (a.put o.dst u) w') :
    if Region.wanted o (yielded ops a.tmps) = true then Oper.wp P o a w K Q else E := by
  have hw : Region.wanted o (yielded ops a.tmps) = true := by simp [Region.wanted, hgd]
  rw [if_pos hw]
  unfold Oper.wp
  have e1 : a.eval (Operand.func f) = .func (.func f) #[] #[] := rfl
  simp [execOp, hop, resolve, invoke, hx, Result.andThen, e1, Deferred.ofValue, hen, Oper.upon_enter]
  refine hC.mono fun e w' h => ?_
  obtain ⟨u, rfl, hk⟩ := hR e w' h
  exact hk
set_option maxRecDepth 100000 in
set_option maxHeartbeats 4000000 in
theorem join_walk {w : World} {s p : Nat} {bv pv qv : Value} {base : List Int} {L Lq : List Part} (h : StackAt w s bv pv base L) (hp : PieceAt w p qv Lq false) (hpos : 0 < Lq.length) (hd : ∀ j ∈ foot s bv pv L, ∀ k ∈ pfoot p qv Lq, j ≠ k)
    (hsm : count base L + many Lq ≤ 100000 ∧ L.length + Lq.length ≤ 100000) :
    Calls Try.prog 32 #[.pointer (some ⟨s, 0, none⟩), .pointer (some ⟨p, 0, none⟩)] w fun e w' => e = .returned (.bool true) ∧ ∃ pv' M, StackAt w' s bv pv' base (L ++ M) ∧ keys M = keys Lq ∧ PieceAt w' p qv Lq true ∧
      Chg (fun j => j ∈ foot s bv pv L ∨ j = p) w w' ∧ ∀ k ∈ foot s bv pv' (L ++ M), k ∈ foot s bv pv L ∨ w.heap.size ≤ k := by
  obtain ⟨b, hb⟩ : ∃ b, Lq.length = b := ⟨_, rfl⟩
  have hqrow : RowAt w 104 2 qv b (Lq.flatMap pcells) := by rw [← hb]; exact hp.parts.row
  obtain ⟨gq, offq, capq, hqv, hcapq⟩ := hqrow.formS (by omega)
  subst hqv
  have hsp : s ≠ p := hd s (by simp [foot]) p (by simp [pfoot])
  have hblkp := hp.blk
  have hS1 : Chg (fun j => j = p) w (w.setCell ⟨p, 2, none⟩ (.bool true)) := Chg.set (p := ⟨p, 2, none⟩) (F := fun j => j = p) (Chg.refl _ w) (fun _ => rfl) _
  have hpf : ∀ j ∈ pfoot p (.slice (some ⟨gq, offq, none⟩) b capq) Lq, j ∉ foot s bv pv L := fun j hj e => hd j e j hj rfl
  have hp2 : PieceAt (w.setCell ⟨p, 2, none⟩ (.bool true)) p (.slice (some ⟨gq, offq, none⟩) b capq) Lq true := by
    have hap := hp.apart
    rw [List.nodup_cons] at hap
    refine ⟨?_, hp.parts.chg hS1 (fun j hj e => hap.1 (e ▸ hj)), hp.apart, hp.small⟩
    have := blk_set hblkp 2 (.bool true)
    simpa using this
  have hC2 : StackC (w.setCell ⟨p, 2, none⟩ (.bool true)) s bv pv base L (count base L : Int) := h.toC.chg hS1 (fun j hj e => hd j hj p (by simp [pfoot]) e)
  have HP2 := Lib.hid hp2
  have HC2 := Lib.hid hC2
  have HS1 := Lib.hid hS1
  have HH := Lib.hid h
  have HPF := Lib.hid hpf
  have HB := Lib.hid hb
  have HP := Lib.hid hp
  have HSM := Lib.hid hsm
  have c2 : w.cell? ⟨p, 2, none⟩ = some (.bool false) := cell_of hblkp 2
  have f2 : w.frozen? ⟨p, 2, none⟩ = false := free_of hblkp 2
  have c0 : w.cell? ⟨p, 0, none⟩ = some (.slice (some ⟨gq, offq, none⟩) b capq) := cell_of hblkp 0
  have hb5 : b ≤ 100000 := by rw [← hb]; exact hp.small.2
  have hLp := Lib.hid (HH.out.lt)
  obtain ⟨iP, hj0, hj1, hj2, hj3⟩ := info_parts infoP
  clear h hp hpos hd hsm hqrow hblkp hS1 hpf hp2 hC2 hb
  go_enter Try.func32, Try.ntmps32
  go_wp2_with fail
  go_loopg [27] (b + 1) (fun g vi wr => ∃ (j : Nat) (pvj : Value) (M : List Part), vi = .int .i64 j ∧ j ≤ b ∧ b < g + j ∧ Hid (StackC wr s bv pvj base (L ++ M) (count base L : Int)) ∧ Hid (keys M = keys (Lq.take j)) ∧
    Hid (PieceAt wr p (.slice (some ⟨gq, offq, none⟩) b capq) Lq true) ∧ Hid (Chg (fun j => j ∈ foot s bv pv L ∨ j = p) w wr) ∧ Hid (∀ k ∈ foot s bv pvj (L ++ M), k ∈ foot s bv pv L ∨ w.heap.size ≤ k))
  case atStart => exact ⟨0, pv, [], rfl, by omega, by omega, by rw [List.append_nil]; exact HC2, by simp [keys, Hid], HP2, Lib.hid (HS1.out.mono (fun j _ e => .inr e)), by rw [List.append_nil]; exact Lib.hid (fun k hk => .inl hk)⟩
  case round =>
    obtain ⟨j, pvj, M, rfl, hj, hgj, hSC, hM, hPr, hC, hF⟩ := hrel
    by_cases hlt : j < b
    · obtain ⟨gk', rfl⟩ : ∃ m, gk = m + 1 := ⟨gk - 1, by omega⟩
      have hjl : j < Lq.length := by rw [HB.out]; exact hlt
      obtain ⟨e1, he1⟩ : ∃ e1, Lq[j]? = some e1 := ⟨_, List.getElem?_eq_getElem hjl⟩
      have hqr : RowAt wr 104 2 (.slice (some ⟨gq, offq, none⟩) b capq) b (Lq.flatMap pcells) := by have := hPr.out.parts.row; rw [HB.out] at this; exact this
      have hcell : ∀ q, q < 2 → wr.cell? ⟨gq, offq + j * 2 + q, none⟩ = (pcells e1)[q]? := fun q hq => by
        rw [Nat.add_assoc, hqr.cell (j * 2 + q) (by omega), pcells_get Lq j q hjl hq]
        rw [List.getElem?_eq_getElem hjl] at he1
        cases he1; rfl
      have a0 : wr.cell? ⟨gq, offq + j * 2, none⟩ = _ := hcell 0 (by omega)
      have a1 := hcell 1 (by omega)
      have hmem : e1 ∈ Lq := List.mem_of_getElem? he1
      have hfr1 := hPr.out.parts.frames e1 hmem
      obtain ⟨ade, cape, hev, _, _⟩ := hfr1.form
      obtain ⟨em, ev, efs⟩ := e1
      simp only at hev hfr1
      subst hev
      simp only [pcells, List.getElem?_cons_zero, List.getElem?_cons_succ] at a0 a1
      have hef : efs.length ≤ 100000 := by
        have := many_mem _ _ hmem
        have h3 := hPr.out.small.1
        simp only at this
        omega
      have hKT : Hid (keys (Lq.take (j + 1)) = keys (Lq.take j) ++ [(em, efs)]) := by
        rw [List.take_add_one, he1]
        simp [keys, Hid]
      obtain ⟨ke, hke⟩ : ∃ ke, efs.length = ke := ⟨_, rfl⟩
      have HKE := Lib.hid hke
      rw [hke] at a1 hfr1 hef
      obtain ⟨X, hX⟩ : ∃ X, wr.heap.size = X := ⟨_, rfl⟩
      obtain ⟨wx, hwx⟩ : ∃ wx, wr.alloc (.cells #[.int .i64 em, .slice ade ke cape] 104) = wx := ⟨_, rfl⟩
      have hxb : wx.heap[X]? = some (.cells #[.int .i64 em, .slice ade ke cape] 104 (0, 0)) := by rw [← hwx, ← hX]; exact blk_new wr _
      have hCx : Chg (fun _ => False) wr wx := by rw [← hwx]; exact (Chg.refl _ wr).alloc _
      have hSCx := hSC.out.chg hCx (fun _ _ h => h)
      have hfrx : IRow wx (.slice ade ke cape) efs := hfr1.kept hCx (fun _ _ h => h)
      obtain ⟨n, hn⟩ : ∃ n, (L ++ M).length = n := ⟨_, rfl⟩
      have HN := Lib.hid hn
      have hprow : RowAt wx 104 2 pvj n ((L ++ M).flatMap pcells) := by rw [← hn]; exact hSCx.parts.row
      obtain ⟨adp, capp, hpvj, hnp, hmp⟩ := hprow.form
      subst hpvj
      have d1 : wx.cell? ⟨s, 1, none⟩ = some (.slice adp n capp) := cell_of hSCx.blk 1
      have d0 : wx.cell? ⟨X, 0, none⟩ = some (.int .i64 em) := cell_of hxb 0
      have d2 : wx.cell? ⟨X, 1, none⟩ = some (.slice ade ke cape) := cell_of hxb 1
      have hn5 : n < 100000 := by
        have h1 := HSM.out.2
        rw [HB.out] at h1
        have h2 : M.length = j := by
          have := congrArg List.length hM.out
          simp [keys] at this
          omega
        rw [← hn, List.length_append]
        omega
      have HCL := Lib.hid (fun W (hW : Chg (fun _ => False) wx W) => clone_frames (hfrx.kept hW (fun _ _ h => h)) (by rw [hke]; exact hef))
      rw [hke] at HCL
      have HSX := Lib.hid hSCx
      have HCX := Lib.hid (hC.out.andThen hCx (fun _ _ e => e.elim))
      have HPX := Lib.hid (hPr.out)
      have HXB := Lib.hid hxb
      have HPR := Lib.hid hprow
      have HXR := Lib.hid hCx
      have HXN : Hid (X ∉ own (.slice adp n capp)) := fun e => by
        have := hSC.out.lt X (by simp [foot, e])
        omega
      have HXS : Hid (X < wx.heap.size) := lt_of_block hxb
      have HX := Lib.hid hX
      have HE1 := Lib.hid he1
      have i0 : (0 : Int) ≤ (j : Int) := by omega
      have i1 : (j : Int) < (b : Int) := by omega
      have HWD : Hid (∀ m, Chg (fun _ => False) wx (wx.drewN m)) := fun m => (Chg.refl _ wx).drewN m
      have HFR1 := Lib.hid hfr1
      clear hqr hcell hmem hfr1 he1 hke hxb hCx hSCx hfrx hn hprow
      go_wp2_with fail
      go_region_law (first
          | (refine step_calls1 (by rfl) 54 _ _ (by rfl) _ (by rfl) (enters_of Try.func54 (by kernel_rfl) rfl) (HCL.out _ (by first | exact HWD.out 1 | exact Chg.refl _ _)) ?_; rintro e w3 ⟨adc, cc, rfl, hrc, hCc, hoc⟩; obtain ⟨g1, g2, g3, g5⟩ := join_cells HSX.out HXB.out hCc; refine ⟨_, rfl, ?_⟩)
          | (refine step_append_row _ (by rfl) _ _ _ (by rfl) 104 iP _ 2 32 Try.underlying98 hj0 hj1 hj2 hj3 rfl (by omega) (.slice adp n capp) n ((L ++ M).flatMap pcells) (by rfl) (by exact HPR.out.kept ((((Chg.refl (fun _ => False) wx).drewN 1).trans hCc).alloc _) (fun _ _ h => h)) ⟨_, 0, none⟩ 1 1 [.int .i64 em, .slice adc ke cc] (by rfl) (by rfl) (by exact World.news_of_block (blk_new w3 _)) (by simp [Value.oneCell']) (by omega) (by unfold maxLen; omega) (by omega) _ (by rfl) ?_; intro gg off2 cap2 w4 hrow4 hgrow4 hat4 hlt4; obtain ⟨g1, g2, g3, g4⟩ := join_cells4 HSX.out HXB.out HXN.out hCc hgrow4))
      all_goals
        have HEND := Lib.hid (round_end HSX.out HN.out HXR.out hC.out hPr.out hF.out HPF.out HP.out.lt hM.out hKT.out HKE.out hCc hrc hoc hrow4 hgrow4 hat4)
        clear hrow4 hgrow4 hat4 hlt4 hCc hrc hoc
        go_wp2_with fail
        go_roundg gk'
        case measure => omega
        case rel =>
          obtain ⟨pv', M', z1, z2, z3, z4, z5⟩ := HEND.out
          exact ⟨j + 1, pv', M', by go_num, by omega, by omega, z1, z2, z3, z4, z5⟩
    · obtain rfl : j = b := by omega
      have i2 : ¬ (j : Int) < (j : Int) := by omega
      have hall : Lq.take j = Lq := List.take_of_length_le (by rw [HB.out]; exact Nat.le_refl _)
      rw [hall] at hM
      have hMc : M.length = Lq.length := by
        have := congrArg List.length hM.out
        simpa [keys] using this
      have hct : count base (L ++ M) = count base L + many Lq := by
        rw [count_many]
        have : many M = many Lq := by
          have e : ∀ A : List Part, many A = ((keys A).map fun x => x.2.length).sum := fun A => by simp [many, keys, List.map_map, Function.comp_def]
          rw [e, e, hM.out]
        omega
      have q1 : wr.cell? ⟨s, 2, none⟩ = _ := cell_of hSC.out.blk 2
      have q2 : wr.frozen? ⟨s, 2, none⟩ = false := free_of hSC.out.blk 2
      have q3 : wr.cell? ⟨p, 1, none⟩ = _ := cell_of hPr.out.blk 1
      simp only [List.getElem?_toArray, List.getElem?_cons_zero, List.getElem?_cons_succ] at q1 q3
      have hsm1 := HSM.out.1
      obtain ⟨ct, hct1⟩ : ∃ ct, count base L = ct := ⟨_, rfl⟩
      obtain ⟨cm, hcm1⟩ : ∃ cm, many Lq = cm := ⟨_, rfl⟩
      rw [hct1, hcm1] at hsm1
      rw [hct1] at q1
      rw [hcm1] at q3
      rw [hct1, hcm1] at hct
      have HCT := Lib.hid hct
      have HCT1 := Lib.hid hct1
      have HMC := Lib.hid hMc
      have t0 : (0 : Int) ≤ (ct : Int) := by omega
      have t1 : (0 : Int) ≤ (cm : Int) := by omega
      have t2 : (ct : Int) + (cm : Int) ≤ 100000 := by omega
      clear hall hct hct1 hcm1 hMc
      go_wp2_with fail
      go_region
      all_goals
        go_wp2_with fail
        go_ret
        have hcast : (ct : Int) + (cm : Int) = ((ct + cm : Nat) : Int) := by push_cast; rfl
        rw [hcast]
        have hfin := join_final hSC.out (ct + cm) HCT.out ⟨by omega, by have := HSM.out.2; rw [List.length_append, HMC.out]; exact this⟩
        have hS : Chg (fun j => j = s) wr (wr.setCell ⟨s, 2, none⟩ (.int .i64 ((ct + cm : Nat) : Int))).drew := (Chg.set (p := ⟨s, 2, none⟩) (F := fun j => j = s) (Chg.refl _ wr) (fun _ => rfl) _).drew
        refine ⟨rfl, pvj, M, hfin.chg ((Chg.refl (fun _ => False) _).drew) (fun _ _ h => h), hM.out, hPr.out.chg hS (fun k hk e => HPF.out k hk (by rw [e]; simp [foot])), hC.out.andThen hS (fun k _ e => .inl (by rw [e]; simp [foot])), hF.out⟩
end Go.Proofs.Ytkidnmjaioejaaa.Sg
