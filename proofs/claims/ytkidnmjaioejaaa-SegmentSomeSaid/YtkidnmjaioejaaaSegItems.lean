/- A piece's Items, walked: two loops over slices.Backward, one within the other, that fill a row. Condition: the piece's block is known, and its rows. -/
import Derived.Test.YtkidnmjaioejaaaSegIter
namespace Go.Proofs.Ytkidnmjaioejaaa.Sg
set_option linter.unusedVariables false
set_option linter.unusedSimpArgs false
open Go.RowKit Go.Shelf Go.Proofs.Ytkidnmjaioejaaa.Mem
attribute [local go_sem] Oper.semAt_some

structure Item where
  mark : Bool
  frame : Int
  label : Int
def icells (i : Item) : List Value := [.bool i.mark, .int .i64 i.frame, .int .i64 i.label]
def frameItem (f : Int) : Item := ⟨false, f, 0⟩
def markItem (m : Int) : Item := ⟨true, 0, m⟩
def partItems (e : Part) : List Item := e.fs.reverse.map frameItem ++ [markItem e.m]
def items (L : List Part) : List Item := L.reverse.flatMap partItems
theorem infoIt : (Try.prog.info? 83).map (fun i => (i.zero, i.size, i.bytes)) = some (some (.agg #[.bool false, .int .i64 0, .int .i64 0]), 3, 24) := by kernel_rfl
abbrev ItRow (w : World) (v : Value) (l : List Item) : Prop := RowAt w 83 3 v l.length (l.flatMap icells)

theorem wpListIn_append_row {F : Fence} {n : Nat} {P : Program} (w : World) {ops : Array Oper} {rest : List Oper} {o : Oper} {a : Act} {Q : Exit → Act → World → Prop}
    (hg : o.guard = none) (s x : Operand) (t : TypeId) (hop : o.op = Op.call { callee := Callee.builtin Builtin.append, args := #[s, x], argTypes := #[t, t] })
    (e : TypeId) (i : TypeInfo) (z : Value) (size bytes : Nat) (h1 : P.underlying t = some (.slice e)) (h2 : P.info? e = some i) (h3 : i.zero = some z) (h4 : i.size = size) (h5 : i.bytes = bytes) (h6 : z.cells.size = size) (h7 : 0 < size)
    (v : Value) (k : Nat) (xs : List Value) (hs : a.eval s = v) (hown : RowAt w e size v k xs) (ad : Addr) (m c : Nat) (news : List Value) (hx : a.eval x = .slice (some ad) m c) (hn : news.length = m * size)
    (hc : ∀ j u, news[j]? = some u → w.cell? (ad.add j) = some u) (h1c : ∀ u ∈ news, u.oneCell' = true) (hm : 0 < m) (b1 : k + m ≤ maxLen) (b2 : (k + m) * bytes ≤ 140737488355328)
    (hK : ∀ g off cap w', RowAt w' e size (.slice (some ⟨g, off, none⟩) (k + m) cap) (k + m) (xs ++ news) → w.grownBy w' v.ownBlock → (v.ownBlock = some g ∨ g = w.heap.size) → wpListIn F n P ops Q rest (a.put o.dst (.slice (some ⟨g, off, none⟩) (k + m) cap)) w') :
    wpListIn F n P ops Q (o :: rest) a w := by
  refine wpListIn_plain hg fun K hK' => ?_
  obtain ⟨v', w', hrun, r1, r2, r3⟩ := run_append_row (P := P) w t o.type e i z size bytes h1 h2 h3 h4 h5 h6 h7 v k xs hown ad m c news hn hc h1c hm b1 b2
  obtain ⟨g, off, cap, rfl, _⟩ := r1.formS (by omega)
  unfold Oper.wpIn
  refine ⟨?_, ?_⟩
  · simp [Oper.about, hop, resolve, Target.leads, Sem.run_pure]
  · rw [Oper.semAt_plain F _ _ (by rw [hop]; intro c hc'; cases hc')]
    simp [execOp, hop, resolve, invoke, builtin, hs, hx, hrun, Result.andThen]
    exact hK' _ _ (hK g off cap w' r1 r2 (r3 g rfl))

/-- What has been put out by now: the box B, and its row, in blocks from N on. -/
def OutIs (B N : Nat) (its : List Item) (W : World) : Prop :=
  ∃ v, Boxed W B 80 v ∧ ItRow W v its ∧ ∀ g, v.ownBlock = some g → N ≤ g
theorem turned {W W' : World} {row : Option Nat} (hg : W.grownBy W' row) : Chg (fun j => row = some j) W W' := (Chg.refl _ W).grown hg (fun k _ e => e)
theorem not_turned {W : World} {row : Option Nat} {n : Nat} (hr : ∀ r, row = some r → n ≤ r ∧ ∃ o : Obj, W.heap[r]? = some o ∧ o.isCells = false) {b : Nat} {cs : Array Value} {t : TypeId} {fr : Nat × Nat} (hb : W.heap[b]? = some (.cells cs t fr)) : ¬ row = some b := fun e => by
  obtain ⟨_, o, h1, h2⟩ := hr b e
  rw [hb] at h1
  cases h1
  cases h2
theorem OutIs.kept {B N : Nat} {its : List Item} {W W' : World} {F : Nat → Prop} (h : OutIs B N its W) (hc : Chg F W W') (hF : ∀ j cs t fr, W.heap[j]? = some (.cells cs t fr) → ¬ F j) : OutIs B N its W' := by
  obtain ⟨v, h1, h2, h3⟩ := h
  refine ⟨v, hc.blk h1 (hF _ _ _ _ h1), ?_, h3⟩
  obtain ⟨q1, q2⟩ := h2
  refine ⟨q1, ?_⟩
  rcases q2 with q2 | ⟨g, off, cap, cur, rfl, hgg, r⟩
  · exact .inl q2
  · exact .inr ⟨g, off, cap, cur, rfl, hc.blk hgg (hF _ _ _ _ hgg), r⟩
theorem outIs_own {α : Type} (n B N : Nat) (f : α → List Item) : OwnFrom n (fun s W => OutIs B N (f s) W) := fun s W W' row h hg hr => h.kept (turned hg) (fun j cs t fr hj => not_turned hr hj)
theorem chg_own {α : Type} (n : Nat) (G : Nat → Prop) (W0 : World) (hn : W0.heap.size ≤ n) : OwnFrom n (fun (_ : α) W => Chg G W0 W) := fun s W W' row h hg hr =>
  h.andThen (turned hg) (fun j hj e => by have := (hr j e).1; omega)
theorem blk_own {α : Type} (n b : Nat) (cs : Array Value) (t : TypeId) : OwnFrom n (fun (_ : α) W => W.heap[b]? = some (.cells cs t (0, 0))) := fun s W W' row h hg hr => (turned hg).blk h (not_turned hr h)
theorem row_not {W : World} {e : TypeId} {size : Nat} {v : Value} {k : Nat} {xs : List Value} (h : RowAt W e size v k xs) {g : Nat} (hg : v.ownBlock = some g) : ∃ cs, W.heap[g]? = some (.cells cs e (0, 0)) := by
  rcases h.2 with ⟨rfl, _⟩ | ⟨g', off, cap, cur, rfl, hgg, _⟩
  · simp [Value.ownBlock] at hg
  · obtain rfl : g' = g := by simpa [Value.ownBlock] using hg
    exact ⟨_, hgg⟩
/-- Behind the append and the store. -/
theorem OutIs.put {W w1 : World} {B N : Nat} {v v' : Value} {its : List Item} {it : Item} {tmp : Obj} (h1 : Boxed W B 80 v) (h2 : ItRow W v its) (h3 : ∀ g, v.ownBlock = some g → N ≤ g) (hN : N ≤ W.heap.size)
    (hown : RowAt w1 83 3 v' (its.length + 1) (its.flatMap icells ++ icells it)) (hgrow : (W.alloc tmp).grownBy w1 v.ownBlock) (hat : ∀ g, v'.ownBlock = some g → v.ownBlock = some g ∨ g = (W.alloc tmp).heap.size) :
    Boxed w1 B 80 v ∧ OutIs B N (its ++ [it]) (w1.setCell ⟨B, 0, none⟩ v') ∧ KeepsOthers W (w1.setCell ⟨B, 0, none⟩ v') ∧ Chg (fun j => j = B ∨ (N ≤ j ∧ ∃ cs, W.heap[j]? = some (.cells cs 83 (0, 0)))) W (w1.setCell ⟨B, 0, none⟩ v') := by
  have hC1 : Chg (fun j => v.ownBlock = some j) W w1 := ((Chg.refl _ W).alloc tmp).grown hgrow (fun k _ e => e)
  have hb1 : Boxed w1 B 80 v := hC1.blk h1 (fun e => by
    obtain ⟨cs, hc⟩ := row_not h2 e
    rw [show W.heap[B]? = _ from h1] at hc
    cases hc)
  refine ⟨hb1, ⟨v', hb1.set v', ?_, fun g hg => ?_⟩, ?_, ?_⟩
  · have hC : Chg (fun j => j = B) w1 (w1.setCell ⟨B, 0, none⟩ v') := (Chg.refl (fun j => j = B) w1).set (p := ⟨B, 0, none⟩) (fun _ => rfl) v'
    have e1 : its.flatMap icells ++ icells it = (its ++ [it]).flatMap icells := by simp
    show RowAt _ _ _ _ _ _
    rw [List.length_append, ← e1]
    refine hown.kept hC (fun k hk e => ?_)
    subst e
    obtain ⟨cs, hc⟩ := row_not hown hk
    rw [show w1.heap[k]? = _ from hb1] at hc
    cases hc
  · rcases hat g hg with h | h
    · exact h3 g h
    · have : (W.alloc tmp).heap.size = W.heap.size + 1 := by simp
      omega
  · refine ((KeepsOthers.alloc W tmp).trans (KeepsOthers.of_grownBy hgrow fun j o ej hj => ?_)).trans (KeepsOthers.setCell _ _ _)
    obtain ⟨cs, hc⟩ := row_not h2 ej
    rw [blk_alloc hc tmp] at hj
    cases hj
    rfl
  · exact (hC1.mono (fun j _ e => .inr ⟨h3 j e, row_not h2 e⟩)).set (p := ⟨B, 0, none⟩) (fun _ => .inl rfl) v'
theorem row_alloc {w : World} {e : TypeId} {size n : Nat} {v : Value} {xs : List Value} (h : RowAt w e size v n xs) (o : Obj) : RowAt (w.alloc o) e size v n xs := h.kept ((Chg.refl (fun _ => False) w).alloc o) (fun _ _ h => h)
theorem cells_new (w : World) (t : TypeId) (xs : List Value) : ∀ j u, xs[j]? = some u → (w.alloc (.cells xs.toArray t)).cell? ((⟨w.heap.size, 0, none⟩ : Addr).add j) = some u := fun j u hu => by
  have hadd : (⟨w.heap.size, 0, none⟩ : Addr).add j = ⟨w.heap.size, j, none⟩ := by unfold Addr.add; split <;> simp_all
  rw [hadd, cell_of (blk_new w _)]
  simpa using hu
theorem chgK_b {G : Nat → Prop} {N : Nat} (hG : ∀ j, N ≤ j → G j) (W : World) (l : Nat) (o o' : Obj) (hl : N ≤ l) (_ : W.heap[l]? = some o) (_ : o.isCells = false) (_ : o.isWalk = false) : Chg G W (W.putObj l o') :=
  (turned (grownBy_putObj' W l o')).mono (fun j _ e => by cases e; exact hG _ hl)
theorem many_mem (e : Part) : ∀ L : List Part, e ∈ L → e.fs.length ≤ many L
  | a :: L, h => by
    have hm : many (a :: L) = a.fs.length + many L := by simp [many]
    rcases List.mem_cons.1 h with rfl | h
    · omega
    · have := many_mem e L h; omega
theorem bw_get {α : Type} (l : List α) (f : Nat → α) (hf : ∀ j (h : j < l.length), f j = l[j]) : bw f l.length 0 = l.reverse := by
  unfold bw
  rw [Nat.sub_zero, List.map_reverse]
  congr 1
  apply List.ext_getElem
  · simp
  · intro i h1 h2
    simp [hf i h2]
theorem bw_map {α β : Type} (f : Nat → α) (g : α → β) (len r : Nat) : (bw f len r).map g = bw (fun j => g (f j)) len r := by simp [bw, List.map_map, Function.comp_def]
theorem bw_items (fs : List Int) : ((bw (fun j : Nat => ((j : Int), fs[j]?.getD 0)) fs.length 0).map fun y => frameItem y.2) = fs.reverse.map frameItem := by
  have h := bw_map (fun j : Nat => ((j : Int), fs[j]?.getD 0)) (fun y => y.2) fs.length 0
  have h2 := bw_get fs (fun j => fs[j]?.getD 0) (fun j hj => by simp [hj])
  dsimp only at h
  rw [h2] at h
  rw [← h, List.map_map]
  rfl
theorem bw_parts (L : List Part) (hpos : 0 < L.length) : ((bw (fun j : Nat => if h : j < L.length then (⟨j, h⟩ : Fin L.length) else ⟨0, hpos⟩) L.length 0).flatMap fun i => partItems L[i]) = items L := by
  have h := bw_map (fun j : Nat => if h : j < L.length then (⟨j, h⟩ : Fin L.length) else ⟨0, hpos⟩) (fun i => L[i]) L.length 0
  have h2 := bw_get L (fun j => L[if h : j < L.length then (⟨j, h⟩ : Fin L.length) else ⟨0, hpos⟩]) (fun j hj => by simp [hj])
  rw [h2] at h
  unfold items
  rw [← h, List.flatMap_map]
theorem len_flat {α β : Type} (f : α → List β) (C : Nat) (h : ∀ x, (f x).length ≤ C) (l : List α) : (l.flatMap f).length ≤ l.length * C := by
  induction l with
  | nil => simp
  | cons a l ih => have := h a; simp only [List.flatMap_cons, List.length_append, List.length_cons, Nat.add_mul]; omega

set_option maxRecDepth 100000 in
set_option maxHeartbeats 4000000 in
theorem items_in (F : Fence) (n : Nat) (h41 : F.fn 41) (h56 : F.fn 56) (h57 : F.fn 57) (h62 : F.fn 62) (h63 : F.fn 63) (hro : F.round = none) (hn : 6 ≤ n)
    (p : Nat) (qv : Value) (L : List Part) (used : Bool) (w : World) (h : PieceAt w p qv L used) (hpos : 0 < L.length) :
    CallsIn F n Try.prog 41 #[.pointer (some ⟨p, 0, none⟩)] w fun e w' => ∃ v, e = .returned v ∧ ItRow w' v (items L) ∧ Chg (fun _ => False) w w' ∧ ∀ j, v.ownBlock = some j → w.heap.size ≤ j := by
  have h1 : 1 ≤ n := by omega
  obtain ⟨adq, capq, hqv, hnq, hmq⟩ := h.parts.row.form
  have c0 : (w.alloc (.cells #[.slice none 0 0] 80)).cell? ⟨p, 0, none⟩ = some qv := cell_of (blk_alloc h.blk _) 0
  have HH := Lib.hid h
  clear h
  subst hqv
  refine callsIn_of_wp_marks Try.func41 rfl h41 ?_ hro
  simp only [Try.ntmps41, List.size_toArray, List.length_cons, List.length_nil, Nat.reduceAdd, Nat.reduceSub, Array.replicate_succ, Array.replicate_zero, List.push_toArray, List.append_toArray, List.nil_append, List.cons_append]
  gi_wp2_with (gi_at_call 56; refine (backP_in F (n - 1) h56 hro _ _ _ _).mono ?_; rintro e w' ⟨rfl, rfl⟩)
  have hB0 := blk_new w (.cells #[.slice none 0 0] 80)
  obtain ⟨B, hB⟩ : ∃ B, w.heap.size = B := ⟨_, rfl⟩
  obtain ⟨W0, hW0⟩ : ∃ W0, ((w.alloc (.cells #[.slice none 0 0] 80)).alloc (.cells #[.slice adq L.length capq] 98)) = W0 := ⟨_, rfl⟩
  have hsz : W0.heap.size = B + 2 := by rw [← hW0, ← hB]; simp
  have bO : Boxed W0 B 80 (.slice none 0 0) := by rw [← hW0, ← hB]; exact (Boxed.new w _ _).alloc _
  have bP : Boxed W0 (B + 1) 98 (.slice adq L.length capq) := by
    rw [← hW0, ← hB]
    have := Boxed.new (w.alloc (.cells #[.slice none 0 0] 80)) 98 (.slice adq L.length capq)
    rwa [World.size_alloc] at this
  have hC0 : Chg (fun _ => False) w W0 := by rw [← hW0]; exact ((Chg.refl _ w).alloc _).alloc _
  have hP : Parts W0 (.slice adq L.length capq) L := HH.out.parts.chg hC0 (fun _ _ h => h)
  have hPl : ∀ j ∈ own (.slice adq L.length capq) ++ blocks L, j < B := fun j hj => by rw [← hB]; exact HH.out.parts.lt j hj
  rw [hW0]
  rw [hB]
  clear hB0 c0
  refine wpIn_rangeFunc_ownH hro h1 (gf := 62) (lb := #[.pointer (some ⟨B + 1, 0, none⟩)]) rfl h62 (enters_of Try.func62 (by kernel_rfl) rfl)
    (backP_stops F (n - 1) h62 hro (by omega) (B + 1) (fun j => j = B ∨ B + 2 ≤ j) (.slice adq L.length capq) L HH.out.small.2 hpos W0 bP hP.row (by omega) (fun j hj => by have := hPl j (List.mem_append_left _ (mem_own.2 hj)); omega))
    Chg.trans (chgK_b (fun j hj => .inr (by omega))) (Below.refl _ _) (fun _ => rfl)
    (fun pre W => OutIs B (B + 2) (pre.flatMap fun i => partItems L[i]) W ∧ Chg (fun j => j = B ∨ B + 2 ≤ j) W0 W)
    (fun _ _ _ => False)
    (OwnFrom.and (outIs_own _ _ _ _) (chg_own _ _ _ (Nat.le_refl _)))
    (fun _ _ _ _ _ hs _ _ => hs)
    ⟨⟨_, bO, RowAt.nil _ _ _, fun g hg => by simp [Value.ownBlock] at hg⟩, Chg.refl _ _⟩
    (fun x a' W => ∃ Bx, B + 2 ≤ Bx ∧ W.heap[Bx]? = some (.cells #[.int .i64 L[x].m, L[x].v] 104 (0, 0)) ∧ a' = { tmps := #[.pointer (some ⟨p, 0, none⟩), undef, .slice none 0 0, .pointer (some ⟨B, 0, none⟩), undef, .pointer (some ⟨Bx, 0, none⟩), undef, undef, .pointer (some ⟨p, 0, none⟩), .bool false, .pointer (some ⟨p, 0, none⟩), .pointer (some ⟨p, 0, none⟩), .pointer (some ⟨p, 0, none⟩), .slice adq L.length capq, .func (.func 62) #[] #[.pointer (some ⟨B + 1, 0, none⟩)], .int .i64 (x.val : Int), .agg #[.int .i64 L[x].m, L[x].v], undef, undef, undef, undef, undef, undef, undef, undef, undef, undef, undef, undef, undef, undef, undef, undef, undef], defers := [] })
    (fun x a' _ X Y row hs hg hr => by obtain ⟨Bx, h1, h2, h3⟩ := hs; exact ⟨Bx, h1, blk_own _ Bx _ _ () X Y row h2 hg hr, h3⟩)
    ?assign ?body ?done ?stop
  case assign =>
    rintro l pre x W K ⟨hO, hC⟩ hK
    obtain ⟨adx, capx, hvx, _⟩ := (hP.frames L[x] (List.getElem_mem _)).form
    obtain ⟨e, he⟩ : ∃ e, L[x] = e := ⟨_, rfl⟩
    have he2 : L[x.val] = e := he
    simp only [he] at hK hvx ⊢
    clear he he2
    obtain ⟨m, v, fs⟩ := e
    dsimp only at hK hvx ⊢
    subst hvx
    gi_wp2
    exact hK _ _ ((KeepsOthers.alloc _ _).from _) ((Chg.refl _ W).alloc _) ⟨hO.kept ((Chg.refl (fun _ => False) W).alloc _) (fun _ _ _ _ _ h => h), hC.alloc _⟩ ⟨W.heap.size, by have := hC.size; omega, blk_new W _, rfl⟩
  case body =>
    rintro l pre x a' W hl ⟨r, hr⟩ ⟨hO, hC⟩ ⟨Bx, hBx, hxb, rfl⟩ hlt
    have hsW := hC.size
    have hfr : IRow W L[x].v L[x].fs := (hP.frames L[x] (List.getElem_mem _)).kept hC (fun j hj => by have := hPl j (List.mem_append_right _ (mem_blocks.2 ⟨_, List.getElem_mem _, hj⟩)); omega)
    have hfo : ∀ j, L[x].v.ownBlock = some j → j < B := fun j hj => hPl j (List.mem_append_right _ (mem_blocks.2 ⟨_, List.getElem_mem _, hj⟩))
    obtain ⟨adx, capx, hvx, _⟩ := hfr.form
    have hfs : ∀ i : Fin L.length, L[i].fs.length ≤ 100000 := fun i => by
      have := HH.out.small.1
      have h2 : L[i].fs.length ≤ many L := many_mem _ _ (List.getElem_mem _)
      omega
    have hps : (pre.flatMap fun i => partItems L[i]).length ≤ pre.length * 100001 := len_flat _ _ (fun i => by have := hfs i; simp only [partItems, List.length_append, List.length_map, List.length_reverse, List.length_cons, List.length_nil]; omega) pre
    have hpl := hlt
    have hsm := HH.out.small.2
    have hf1 := hfs x
    have hpi : partItems L[x] = L[x].fs.reverse.map frameItem ++ [markItem L[x].m] := rfl
    obtain ⟨outs, houts⟩ : ∃ outs, (pre.flatMap fun i => partItems L[i]) = outs := ⟨_, rfl⟩
    have hfin : ((pre ++ [x]).flatMap fun i => partItems L[i]) = outs ++ partItems L[x] := by rw [← houts]; simp
    rw [hpi] at hfin
    rw [houts] at hO hps
    have HF := Lib.hid hfin
    clear hfin hpi houts hfs
    obtain ⟨e, he⟩ : ∃ e, L[x] = e := ⟨_, rfl⟩
    have he2 : L[x.val] = e := he
    simp only [he] at hxb hfr hvx hf1 hfo HF ⊢
    clear he he2
    obtain ⟨m, v, fs⟩ := e
    dsimp only at hxb hfr hvx hf1 hfo HF ⊢
    subst hvx
    have ho : outs.length ≤ 100000 * 100001 := Nat.le_trans hps (Nat.mul_le_mul_right _ (by omega))
    have cx0 : W.cell? ⟨Bx, 0, none⟩ = some (.int .i64 m) := cell_of hxb 0
    have cx1 : W.cell? ⟨Bx, 1, none⟩ = some (.slice adx fs.length capx) := cell_of hxb 1
    have h1' : 1 ≤ n - 1 - 1 := by omega
    obtain ⟨k, hk⟩ : ∃ k, fs.length = k := ⟨_, rfl⟩
    have HK := Lib.hid hk
    rw [hk] at cx1 hxb hfr ⊢
    clear hk
    gi_wp2_with (gi_at_call 57; refine (CallsIn.inRound l (backI_in F (n - 1 - 1 - 1) h57 hro _ _ _ _)).mono ?_; rintro e w' ⟨rfl, rfl⟩)
    have hBN : Boxed (W.alloc (.cells #[.slice adx k capx] 49)) W.heap.size 49 (.slice adx k capx) := Boxed.new W _ _
    have hC1 : Chg (fun _ => False) W (W.alloc (.cells #[.slice adx k capx] 49)) := (Chg.refl _ W).alloc _
    have hr' : (W.alloc (.cells #[.slice adx k capx] 49)).heap[l]? = some (.loop r) := blk_alloc hr _
    have hO1 := hO.kept hC1 (fun _ _ _ _ _ h => h)
    have hs1 : (W.alloc (.cells #[.slice adx k capx] 49)).heap.size = W.heap.size + 1 := by simp
    have hKF1 : KeepsFrom W0.heap.size W (W.alloc (.cells #[.slice adx k capx] 49)) := (KeepsOthers.alloc _ _).from _
    have hxb1 := blk_alloc hxb (.cells #[.slice adx k capx] 49)
    have hfr1 : IRow (W.alloc (.cells #[.slice adx k capx] 49)) (.slice adx k capx) fs := row_alloc hfr _
    obtain ⟨N, hN⟩ : ∃ N, W.heap.size = N := ⟨_, rfl⟩
    obtain ⟨W1, hW1⟩ : ∃ W1, W.alloc (.cells #[.slice adx k capx] 49) = W1 := ⟨_, rfl⟩
    rw [hN, hW1] at hs1 hBN
    rw [hW1] at hC1 hr' hO1 hKF1 hxb1 hfr1 ⊢
    rw [hN] at hsW ⊢
    refine wpIn_rangeFunc_ownN (l₀ := l) (r₀ := r) rfl hr' h1' (gf := 63) (lb := #[.pointer (some ⟨N, 0, none⟩)]) rfl h63 (enters_of Try.func63 (by kernel_rfl) rfl)
      ((backI_stops F (n - 1 - 1 - 1) h63 hro (by omega) N (fun j => (j = B ∨ B + 2 ≤ j) ∧ j ≠ N) (.slice adx k capx) fs hf1 W1 hBN hfr1 (fun e => e.2 rfl) (fun j hj e => by have := hfo j (by rw [HK.out]; exact hj); omega)).inRound l)
      Chg.trans (chgK_b (fun j hj => by omega)) (Below.refl _ _) (fun _ => rfl)
      (fun pre' W' => (OutIs B (B + 2) (outs ++ pre'.map fun y => frameItem y.2) W' ∧ W'.heap[Bx]? = some (.cells #[.int .i64 m, .slice adx k capx] 104 (0, 0)) ∧ W'.heap[N]? = some (.cells #[.slice adx k capx] 49 (0, 0))) ∧ (Chg (fun j => j = B ∨ B + 2 ≤ j) W W' ∧ KeepsFrom W0.heap.size W W'))
      (fun _ _ _ => False)
      (OwnFrom.and (OwnFrom.and (outIs_own _ _ _ _) (OwnFrom.and (blk_own _ _ _ _) (blk_own _ _ _ _))) (OwnFrom.and (chg_own _ _ _ (by omega)) (ownFrom_keepsFrom (by omega))))
      (fun _ _ _ _ _ hs _ _ => hs)
      ⟨⟨by rw [List.map_nil, List.append_nil]; exact hO1, hxb1, hBN⟩, hC1.mono (fun _ _ h => h.elim), hKF1⟩
      (fun y a'' _ => a'' = { tmps := #[.pointer (some ⟨p, 0, none⟩), undef, .slice none 0 0, .pointer (some ⟨B, 0, none⟩), undef, .pointer (some ⟨Bx, 0, none⟩), undef, .int .i64 y.2, .pointer (some ⟨p, 0, none⟩), .bool false, .pointer (some ⟨p, 0, none⟩), .pointer (some ⟨p, 0, none⟩), .pointer (some ⟨p, 0, none⟩), .slice adq L.length capq, .func (.func 62) #[] #[.pointer (some ⟨B + 1, 0, none⟩)], .int .i64 (x.val : Int), .agg #[.int .i64 m, .slice adx k capx], .pointer (some ⟨Bx, 1, none⟩), .slice adx k capx, .func (.func 63) #[] #[.pointer (some ⟨N, 0, none⟩)], .int .i64 y.1, .int .i64 y.2, undef, undef, undef, undef, undef, undef, undef, undef, undef, undef, undef, undef], defers := [] })
      (fun _ _ _ _ _ _ hs _ _ => hs)
      ?assign2 ?body2 ?done2 ?stop2
    case assign2 =>
      rintro l2 pre' y W' K hi hK
      gi_wp2
      exact hK _ _ (KeepsFrom.refl _ _) (Chg.refl _ _) hi rfl
    case body2 =>
      rintro l2 pre' y a'' W' _ _ ⟨⟨hO2, hx2, hN2⟩, hC2, hK2⟩ rfl hlt2
      have h1'' : 1 ≤ n - 1 - 1 - 1 - 1 := by omega
      obtain ⟨v2, hb2, hr2, ho2⟩ := hO2
      obtain ⟨ad2, cap2, rfl, hc2⟩ := hr2.form
      have hbb := hb2.cell
      obtain ⟨i0, hi0, hz0, hz1, hz2⟩ := info_parts infoIt
      have hsW2 := hC2.size
      have hq : (outs ++ pre'.map fun y => frameItem y.2).length ≤ 100000 * 100002 := by rw [List.length_append, List.length_map]; omega
      obtain ⟨its, hits⟩ : ∃ its, (outs ++ pre'.map fun y => frameItem y.2) = its := ⟨_, rfl⟩
      have hits2 : (outs ++ (pre' ++ [y]).map fun y => frameItem y.2) = its ++ [frameItem y.2] := by rw [← hits]; simp
      have HI := Lib.hid hits2
      rw [hits] at hr2 hq hbb hb2 ho2
      clear hits hits2
      gi_wp2_with (gi_at_builtin; refine wpListIn_append_row _ rfl _ _ 80 rfl 83 i0 _ 3 24 Try.underlying80 hi0 hz0 hz1 hz2 rfl (by decide) _ its.length (its.flatMap icells) rfl (row_alloc hr2 _) ⟨W'.heap.size, 0, none⟩ 1 1 (icells (frameItem y.2)) rfl rfl (cells_new _ _ _) (by simp [icells, Value.oneCell']) (by decide) (by unfold maxLen; omega) (by omega) ?_; intro g' off' cap' w1 hown1 hgrow1 hat1; obtain ⟨hb1, hO', hKo, hCh⟩ := OutIs.put hb2 hr2 ho2 (by omega) hown1 hgrow1 (fun g hg => by cases hg; exact hat1); have hcb1 := hb1.cell; have hfb1 := hb1.frozen)
      have hne : ∀ j, (j = B ∨ (B + 2 ≤ j ∧ ∃ cs, W'.heap[j]? = some (.cells cs 83 (0, 0)))) → (j = B ∨ B + 2 ≤ j) ∧ j ≠ N := fun j hj => by
        rcases hj with rfl | ⟨h2, cs, h3⟩
        · exact ⟨.inl rfl, by omega⟩
        · refine ⟨.inr h2, ?_⟩
          rintro rfl
          rw [hN2] at h3
          cases h3
      have hnx : ¬ (Bx = B ∨ (B + 2 ≤ Bx ∧ ∃ cs, W'.heap[Bx]? = some (.cells cs 83 (0, 0)))) := by
        rintro (e | ⟨_, cs, h3⟩)
        · omega
        · rw [hx2] at h3
          cases h3
      exact ⟨hKo.from _, hCh.mono (fun j _ hj => hne j hj), ⟨by rw [HI.out]; exact hO', hCh.blk hx2 hnx, hCh.blk hN2 (fun h => (hne N h).2 rfl)⟩, hC2.trans (hCh.mono (fun j _ hj => (hne j hj).1)), hK2.trans (hKo.from _)⟩
    case done2 =>
      rintro ys' W' hys' ⟨⟨hO2, hx2, hN2⟩, hC2, hK2⟩
      have hpm : (ys'.map fun y => frameItem y.2) = fs.reverse.map frameItem := by rw [hys']; exact bw_items fs
      rw [hpm] at hO2
      clear hys' hpm
      have cx2 : W'.cell? ⟨Bx, 0, none⟩ = some (.int .i64 m) := cell_of hx2 0
      obtain ⟨v2, hb2, hr2, ho2⟩ := hO2
      obtain ⟨ad2, cap2, rfl, hc2⟩ := hr2.form
      have hbb := hb2.cell
      obtain ⟨i0, hi0, hz0, hz1, hz2⟩ := info_parts infoIt
      have hsW2 := hC2.size
      have hq : (outs ++ fs.reverse.map frameItem).length ≤ 100000 * 100002 := by rw [List.length_append, List.length_map, List.length_reverse]; omega
      obtain ⟨its, hits⟩ : ∃ its, (outs ++ fs.reverse.map frameItem) = its := ⟨_, rfl⟩
      have hits2 : outs ++ (fs.reverse.map frameItem ++ [markItem m]) = its ++ [markItem m] := by rw [← hits]; simp
      have HI := Lib.hid hits2
      rw [hits] at hr2 hq hbb hb2 ho2
      clear hits hits2
      gi_wp2_with (gi_at_builtin; refine wpListIn_append_row _ rfl _ _ 80 rfl 83 i0 _ 3 24 Try.underlying80 hi0 hz0 hz1 hz2 rfl (by decide) _ its.length (its.flatMap icells) rfl (row_alloc hr2 _) ⟨W'.heap.size, 0, none⟩ 1 1 (icells (markItem m)) rfl rfl (cells_new _ _ _) (by simp [icells, Value.oneCell']) (by decide) (by unfold maxLen; omega) (by omega) ?_; intro g' off' cap' w1 hown1 hgrow1 hat1; obtain ⟨hb1, hO', hKo, hCh⟩ := OutIs.put hb2 hr2 ho2 (by omega) hown1 hgrow1 (fun g hg => by cases hg; exact hat1); have hcb1 := hb1.cell; have hfb1 := hb1.frozen)
      have hC3 : Chg (fun j => j = B ∨ B + 2 ≤ j) W' (w1.setCell ⟨B, 0, none⟩ (.slice (some ⟨g', off', none⟩) (its.length + 1) cap')) := hCh.mono (fun j _ hj => by rcases hj with rfl | ⟨h2, _⟩; exact .inl rfl; exact .inr h2)
      exact ⟨hK2.trans (hKo.from _), hC2.trans hC3, by rw [HF.out, HI.out]; exact hO', (hC.trans hC2).trans hC3⟩
    case stop2 =>
      rintro c pre' W' _ h
      exact h.elim
  case done =>
    rintro D ys W hD hys ⟨hO, hC⟩ hK
    have hit : (ys.flatMap fun i => partItems L[i]) = items L := by rw [hys]; exact bw_parts L hpos
    rw [hit] at hO
    clear hys hit
    obtain ⟨v2, hb2, hr2, ho2⟩ := hO
    obtain ⟨ad2, cap2, rfl, hc2⟩ := hr2.form
    have hbb := hb2.cell
    gi_wp2
    refine ⟨by simp, .inl ⟨_, _, rfl, run_takeDeferred hK, ?_⟩⟩
    have hCD := turned (grownBy_putObj' W D (.deferred none))
    have hnd : ∀ {b : Nat} {cs : Array Value} {t : TypeId} {fr : Nat × Nat}, W.heap[b]? = some (.cells cs t fr) → ¬ some D = some b := fun hb e => by
      cases e
      rw [hK] at hb
      cases hb
    refine ⟨_, results_tmp rfl _ _ _, _, rfl, ?_, ?_, fun j hj => by have := ho2 j hj; omega⟩
    · exact hr2.kept hCD (fun j hj e => by obtain ⟨cs, hc⟩ := row_not hr2 hj; exact hnd hc e)
    · refine hC0.andThen (hC.andThen hCD (fun j hj e => by cases e; omega)) (fun j hj e => ?_)
      omega
  case stop =>
    rintro D c pre W _ _ h _
    exact h.elim
end Go.Proofs.Ytkidnmjaioejaaa.Sg
