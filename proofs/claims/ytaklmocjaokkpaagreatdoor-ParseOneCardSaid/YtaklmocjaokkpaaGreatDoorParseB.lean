/- The parser's peek, wrong, take, name and count, walked: they come to what the plain parser has. Condition: the parser's block and the tokens are known. · The parser's kinds and value, walked: they come to what the plain parser has. Condition: the parser's block and the tokens are known; what XTreeText's functions want of the library's variables. · Rows of nodes, and of texts, that a call builds in new memory: how they grow, and that they are a node's parts and names. No condition. · The parser's parts, walked: it comes to what the plain parser has. Condition: value's contract. -/
import Derived.Test.YtaklmocjaokkpaaGreatDoorParseA
import Derived.Test.YtaklmocjaokkpaaGreatDoorTreeUnlike
import Derived.Test.YtaklmocjaokkpaaGreatDoorBase
import Derived.Test.YtaklmocjaokkpaaGreatDoorTreeText
namespace Go.Proofs.YtaklmocjaokkpaaGreatDoor.Tr
set_option linter.unusedVariables false
set_option linter.unusedSimpArgs false
open Go.RowKit Go.Shelf Go.Proofs.YtaklmocjaokkpaaGreatDoor.Mem

/-- A world where some blocks hold nothing that may be read. -/
noncomputable def off (F : Nat → Prop) (w : World) : World := { w with heap := w.heap.mapIdx fun k o => @ite _ (F k) (Classical.propDecidable _) (.cells #[] 0 (0, 0)) o }
theorem off_size (F : Nat → Prop) (w : World) : (off F w).heap.size = w.heap.size := by simp [off]
theorem off_heap (F : Nat → Prop) (w : World) (b : Nat) (h : ¬ F b) : (off F w).heap[b]? = w.heap[b]? := by
  simp only [off, Array.getElem?_mapIdx]
  cases w.heap[b]? with
  | none => rfl
  | some o => simp [h]
theorem off_in (F : Nat → Prop) (w : World) (b i : Nat) (h : F b) : (off F w).cell? ⟨b, i, none⟩ = none := by
  have hb : (off F w).heap[b]? = (w.heap[b]?).map fun _ => .cells #[] 0 (0, 0) := by
    simp only [off, Array.getElem?_mapIdx]
    cases w.heap[b]? with
    | none => rfl
    | some o => simp [h]
  cases hw : w.heap[b]? with
  | none =>
    rw [hw] at hb
    simp only [Option.map_none] at hb
    simp [World.cell?, hb]
  | some o =>
    rw [hw] at hb
    simp only [Option.map_some] at hb
    rw [cell_of hb]
    simp
theorem off_out (F : Nat → Prop) (w : World) (b i : Nat) (h : ¬ F b) : (off F w).cell? ⟨b, i, none⟩ = w.cell? ⟨b, i, none⟩ := by
  have := off_heap F w b h
  simp only [World.cell?, this]
/-- What may be read stays as it is. -/
def Keep (W W' : World) : Prop := W.heap.size ≤ W'.heap.size ∧ ∀ b i u, W.cell? ⟨b, i, none⟩ = some u → W'.cell? ⟨b, i, none⟩ = some u
theorem Keep.trans {a b c : World} (h : Keep a b) (h' : Keep b c) : Keep a c := ⟨Nat.le_trans h.1 h'.1, fun q i u hu => h'.2 q i u (h.2 q i u hu)⟩
theorem Keep.refl (w : World) : Keep w w := ⟨Nat.le_refl _, fun _ _ _ h => h⟩
theorem Keep.of {w w' : World} (h : Chg (fun _ => False) w w') : Keep w w' := ⟨h.size, fun _ _ _ hu => h.cell hu (fun e => e)⟩
theorem keep_off (F : Nat → Prop) (w : World) : Keep (off F w) w := ⟨by rw [off_size]; exact Nat.le_refl _, fun b i u hu => by
  by_cases h : F b
  · rw [off_in F w b i h] at hu; cases hu
  · rw [off_out F w b i h] at hu; exact hu⟩
theorem keep_offs {F F' : Nat → Prop} {w w' : World} (hc : Chg F w w') (hF : ∀ b, b < w.heap.size → ¬ F b → ¬ F' b) : Keep (off F w) (off F' w') := ⟨by rw [off_size, off_size]; exact hc.size, fun b i u hu => by
  by_cases h : F b
  · rw [off_in F w b i h] at hu; cases hu
  · rw [off_out F w b i h] at hu
    have hb := World.block_lt_of_cell? w _ hu
    rw [off_out F' w' b i (hF b hb h)]
    exact hc.cell hu h⟩
theorem StrsIn.keep {w w' : World} {v : Value} {l : List ByteArray} (h : StrsIn w v l) (hc : Keep w w') : StrsIn w' v l := by
  obtain ⟨ad, cap, h1, h2, h3, h4⟩ := h
  refine ⟨ad, cap, h1, h2, h3, fun i s hi => ?_⟩
  obtain ⟨b, off, e1, e2, e3⟩ := h4 i s hi
  exact ⟨b, off, e1, Nat.lt_of_lt_of_le e2 hc.1, hc.2 _ _ _ e3⟩
theorem NdIn.keep {w w' : World} (hc : Keep w w') : ∀ (x : Nd) (nv kv : Value), NdIn w nv kv x → NdIn w' nv kv x := by
  intro x
  induction x using Nd.ind with
  | h x ih =>
    intro nv kv h
    obtain ⟨ad, cap, h1, h2, h3, h4⟩ := h.kids
    refine NdIn.of h.kind h.n (h.names.keep hc) ⟨ad, cap, h1, h2, h3, KidsIn.of _ _ fun j y hy => ?_⟩
    obtain ⟨b, off, nv', kv', f1, f2, f3, f4, f5, f6, f7, f8⟩ := h4.at_ j y hy
    exact ⟨b, off, nv', kv', f1, Nat.lt_of_lt_of_le f2 hc.1, hc.2 _ _ _ f3, hc.2 _ _ _ f4, hc.2 _ _ _ f5, hc.2 _ _ _ f6, hc.2 _ _ _ f7, ih y (List.mem_of_getElem? hy) _ _ f8⟩
/-- The fault that is thrown. -/
def pfault (p e : Nat) : List PanicEntry := [{ v := .iface 70 (.agg #[.int .i64 p, .int .i64 e]), recovered := false }]
/-- The parser in block b. -/
def Psr (b : Nat) (v : Value) (i fin n : Nat) (w : World) : Prop := w.heap[b]? = some (.cells #[v, .int .i64 i, .int .i64 fin, .int .i64 n] 73 (0, 0))
theorem Psr.lt {b : Nat} {v : Value} {i fin n : Nat} {w : World} (h : Psr b v i fin n w) : b < w.heap.size := lt_of_block h
theorem Psr.chg {F : Nat → Prop} {b : Nat} {v : Value} {i fin n : Nat} {w w' : World} (h : Psr b v i fin n w) (hc : Chg F w w') (hf : ¬ F b) : Psr b v i fin n w' := hc.blk h hf
theorem Psr.at_ {b : Nat} {v : Value} {i fin n : Nat} {w : World} (h : Psr b v i fin n w) : Psr b v (i + 1) fin n (w.setCell ⟨b, 1, none⟩ (.int .i64 ((i : Int) + 1))) := (blk_set h 1 _).trans rfl
theorem Psr.nodes {b : Nat} {v : Value} {i fin n : Nat} {w : World} (h : Psr b v i fin n w) : Psr b v i fin (n + 1) (w.setCell ⟨b, 3, none⟩ (.int .i64 ((n : Int) + 1))) := (blk_set h 3 _).trans rfl
/-- Tokens in a row. -/
def TokIn (w : World) (v : Value) (L : List Lx.Tok) : Prop := ∃ ad cap, v = .slice ad L.length cap ∧ L.length ≤ cap ∧ cap ≤ maxLen ∧ ∀ i t, L[i]? = some t → ∃ b off, ad = some ⟨b, off, none⟩ ∧ b < w.heap.size ∧
  w.cell? ⟨b, off + i * 4, none⟩ = some (.int .u8 t.kind) ∧ w.cell? ⟨b, off + i * 4 + 1, none⟩ = some (.string (ba t.s)) ∧ w.cell? ⟨b, off + i * 4 + 2, none⟩ = some (.int .i64 t.n) ∧ w.cell? ⟨b, off + i * 4 + 3, none⟩ = some (.int .i64 t.at_)
theorem TokIn.keep {w w' : World} {v : Value} {L : List Lx.Tok} (h : TokIn w v L) (hc : Keep w w') : TokIn w' v L := by
  obtain ⟨ad, cap, h1, h2, h3, h4⟩ := h
  refine ⟨ad, cap, h1, h2, h3, fun i t ht => ?_⟩
  obtain ⟨b, off, e1, e2, c0, c1, c2, c3⟩ := h4 i t ht
  exact ⟨b, off, e1, Nat.lt_of_lt_of_le e2 hc.1, hc.2 _ _ _ c0, hc.2 _ _ _ c1, hc.2 _ _ _ c2, hc.2 _ _ _ c3⟩
def tokV (t : Lx.Tok) : Value := .agg #[.int .u8 t.kind, .string (ba t.s), .int .i64 t.n, .int .i64 t.at_]
/-- Where, and what, is wrong at a token. -/
def wrongP (L : List Lx.Tok) (fin i e : Nat) : Nat × Nat := match L[i]? with | none => (fin, 11) | some t => (t.at_, e)
theorem str_no {s : ByteArray} {l : List UInt8} (h : ¬ s = ⟨l.toArray⟩) : (s.toList == l) = false := by
  rw [beq_eq_false_iff_ne]
  intro e
  rw [ByteArray.toList_eq] at e
  exact h (ByteArray.ext (by rw [← e]))
theorem run_fld3 (x y z u : Value) (w : World) : (Instr.field 104 (.agg #[x, y, z, u]) 3).run Tryz.prog w = .ok u w := by kernel_rfl
theorem run_fld0 (x y z u : Value) (w : World) : (Instr.field 104 (.agg #[x, y, z, u]) 0).run Tryz.prog w = .ok x w := by kernel_rfl
theorem end4 {B : Nat} {W : World} {c0 c1 c2 c3 : Value} {t : TypeId} (hb : W.heap[B]? = some (.cells #[c0, c1, c2, c3] t (0, 0))) (x0 x1 x2 x3 : Value) :
    ((((W.setCell ⟨B, 0, none⟩ x0).setCell ⟨B, 1, none⟩ x1).setCell ⟨B, 2, none⟩ x2).setCell ⟨B, 3, none⟩ x3).heap[B]? = some (.cells #[x0, x1, x2, x3] t (0, 0)) :=
  (blk_set (blk_set (blk_set (blk_set hb 0 x0) 1 x1) 2 x2) 3 x3).trans rfl
theorem chg4 {F : Nat → Prop} {B : Nat} {w W : World} (h : Chg F w W) (hB : w.heap.size ≤ B) (x0 x1 x2 x3 : Value) : Chg F w ((((W.setCell ⟨B, 0, none⟩ x0).setCell ⟨B, 1, none⟩ x1).setCell ⟨B, 2, none⟩ x2).setCell ⟨B, 3, none⟩ x3) :=
  (((h.set (p := ⟨B, 0, none⟩) (fun e => absurd e (Nat.not_lt.2 hB)) x0).set (p := ⟨B, 1, none⟩) (fun e => absurd e (Nat.not_lt.2 hB)) x1).set (p := ⟨B, 2, none⟩) (fun e => absurd e (Nat.not_lt.2 hB)) x2).set (p := ⟨B, 3, none⟩) (fun e => absurd e (Nat.not_lt.2 hB)) x3
theorem chg4F {F : Nat → Prop} {B : Nat} {w W : World} (h : Chg F w W) (hB : F B) (x0 x1 x2 x3 : Value) : Chg F w ((((W.setCell ⟨B, 0, none⟩ x0).setCell ⟨B, 1, none⟩ x1).setCell ⟨B, 2, none⟩ x2).setCell ⟨B, 3, none⟩ x3) :=
  (((h.set (p := ⟨B, 0, none⟩) (fun _ => hB) x0).set (p := ⟨B, 1, none⟩) (fun _ => hB) x1).set (p := ⟨B, 2, none⟩) (fun _ => hB) x2).set (p := ⟨B, 3, none⟩) (fun _ => hB) x3
abbrev zTok : Obj := .cells #[.int .u8 0, .string ⟨#[]⟩, .int .i64 0, .int .i64 0] 104
set_option maxRecDepth 100000 in
set_option maxHeartbeats 1000000 in
theorem peek_err {b fin i n : Nat} {v : Value} {L : List Lx.Tok} {w : World} (hp : Psr b v i fin n w) (ht : TokIn (off (fun k => k = b) w) v L) (hi : L[i]? = none) :
    Calls Tryz.prog 73 #[.pointer (some ⟨b, 0, none⟩)] w fun e w' => e = .panicked (pfault fin 11) ∧ Chg (fun _ => False) w w' := by
  obtain ⟨ad, cap, rfl, hle, hcm, _⟩ := ht
  obtain ⟨ln, hln⟩ : ∃ ln, L.length = ln := ⟨_, rfl⟩
  have hge : ln ≤ i := by rw [← hln]; exact List.getElem?_eq_none_iff.1 hi
  have hge2 : (ln : Int) ≤ (i : Int) := by omega
  obtain ⟨w1, hw1⟩ : ∃ w1, w.alloc zTok = w1 := ⟨_, rfl⟩
  have hC1 : Chg (fun _ => False) w w1 := by rw [← hw1]; exact (Chg.refl _ w).alloc _
  have hp1 := hC1.blk hp (fun e => e)
  have HC1 := Lib.hid hC1
  rw [hln] at hp1 hle
  have c0 := cell_of hp1 0
  have c1 := cell_of hp1 1
  have c2 := cell_of hp1 2
  unfold zTok at hw1
  clear hp hi hC1 hp1 hln hcm
  go_enter Tryz.func73, Tryz.ntmps73
  go_wp2_with fail
  go_quiet (fail)
  go_wp2_with fail
  exact ⟨rfl, rfl, HC1.out.drewN _⟩
set_option maxRecDepth 100000 in
set_option maxHeartbeats 1000000 in
theorem peek_ok {b fin i n : Nat} {v : Value} {L : List Lx.Tok} {w : World} (hp : Psr b v i fin n w) (ht : TokIn (off (fun k => k = b) w) v L) {t : Lx.Tok} (hi : L[i]? = some t) :
    Calls Tryz.prog 73 #[.pointer (some ⟨b, 0, none⟩)] w fun e w' => e = .returned (tokV t) ∧ Chg (fun _ => False) w w' := by
  obtain ⟨ad, cap, rfl, hle, hcm, hel⟩ := ht.keep (keep_off _ _)
  have hcm2 : cap ≤ 9223372036854775807 := by unfold maxLen at hcm; omega
  obtain ⟨b2, o2, rfl, hb2, t0, t1, t2, t3⟩ := hel i t hi
  obtain ⟨ln, hln⟩ : ∃ ln, L.length = ln := ⟨_, rfl⟩
  have hlt : i < ln := by rw [← hln]; exact (List.getElem?_eq_some_iff.1 hi).1
  have i0 : (0 : Int) ≤ (i : Int) := by omega
  have i1 : (i : Int) < (ln : Int) := by omega
  have i2 : ¬ (ln : Int) ≤ (i : Int) := by omega
  obtain ⟨w1, hw1⟩ : ∃ w1, w.alloc zTok = w1 := ⟨_, rfl⟩
  have hC1 : Chg (fun _ => False) w w1 := by rw [← hw1]; exact (Chg.refl _ w).alloc _
  have hz1 : w1.heap[w.heap.size]? = some zTok := by rw [← hw1]; exact blk_new w _
  have hp1 := hC1.blk hp (fun e => e)
  have HC1 := Lib.hid hC1
  have HZ := Lib.hid hz1
  rw [hln] at hp1 hle
  have c0 := cell_of hp1 0
  have c1 := cell_of hp1 1
  have c2 := cell_of hp1 2
  have t0 := hC1.cell t0 (fun e => e)
  have t1 := hC1.cell t1 (fun e => e)
  have t2 := hC1.cell t2 (fun e => e)
  have t3 := hC1.cell t3 (fun e => e)
  obtain ⟨s, hs⟩ : ∃ s, ba t.s = s := ⟨_, rfl⟩
  unfold tokV
  rw [hs] at t1 ⊢
  unfold zTok at hw1 HZ hz1
  clear hp hi hC1 hp1 hln hcm hel hs ht
  go_enter Tryz.func73, Tryz.ntmps73
  go_wp2_with fail
  go_quiet (fail)
  obtain ⟨w2, hw2⟩ : ∃ w2, w1.drewN nq = w2 := ⟨_, rfl⟩
  have hC2 : Chg (fun _ => False) w1 w2 := by rw [← hw2]; exact (Chg.refl _ w1).drewN _
  rw [hw2]
  have c0 := hC2.cell c0 (fun e => e)
  have c1 := hC2.cell c1 (fun e => e)
  have t0 := hC2.cell t0 (fun e => e)
  have t1 := hC2.cell t1 (fun e => e)
  have t2 := hC2.cell t2 (fun e => e)
  have t3 := hC2.cell t3 (fun e => e)
  have hz := hC2.blk hz1 (fun e => e)
  have z0 := cell_of hz 0
  have z1 := cell_of hz 1
  have z2 := cell_of hz 2
  have z3 := cell_of hz 3
  have f0 := free_of hz 0
  have f1 := free_of hz 1
  have f2 := free_of hz 2
  have f3 := free_of hz 3
  have HZ2 := Lib.hid hz
  have HC2 := Lib.hid (HC1.out.trans hC2)
  clear hw2 hC2 hz hz1 HZ HC1 c2
  go_wp2_with fail
  refine wp_region_T (S := fun W => W.cell? ⟨b, 1, none⟩ = some (.int .i64 i) ∧ W.cell? ⟨b, 0, none⟩ = some (.slice (some ⟨b2, o2, none⟩) ln cap) ∧ W.cell? ⟨b2, o2 + i * 4, none⟩ = some (.int .u8 t.kind) ∧ W.cell? ⟨b2, o2 + i * 4 + 1, none⟩ = some (.string s) ∧ W.cell? ⟨b2, o2 + i * 4 + 2, none⟩ = some (.int .i64 t.n) ∧ W.cell? ⟨b2, o2 + i * 4 + 3, none⟩ = some (.int .i64 t.at_)) 10 1 rfl (by kernel_rfl) ?_ (fun hHeld => ?_)
  · exact ⟨by assumption, by assumption, by assumption, by assumption, by assumption, by assumption⟩
  refine wpAnyT_take (i := 0) (v := ?tv1) rfl (by kernel_rfl) (by decide) (by kernel_rfl) (by kernel_rfl) (fun _ _ _ h => h) (Or.inl ⟨by rfl, ?ty1⟩) (by assumption) ?tr1
  case ty1 => intro w hSw; (try dsimp only at hSw); go_simp; (try with_reducible rfl)
  try simp only [Act.put, List.setIfInBounds_toArray, List.set_cons_zero, List.set_cons_succ, List.getElem_toArray, List.getElem_cons_zero, List.getElem_cons_succ, Nat.zero_add]
  refine wpAnyT_take (i := 1) (v := ?tv2) rfl (by kernel_rfl) (by decide) (by kernel_rfl) (by kernel_rfl) (fun _ _ _ h => h) (Or.inl ⟨by rfl, ?ty2⟩) (by assumption) ?tr2
  case ty2 => intro w hSw; (try dsimp only at hSw); go_simp; (try with_reducible rfl)
  try simp only [Act.put, List.setIfInBounds_toArray, List.set_cons_zero, List.set_cons_succ, List.getElem_toArray, List.getElem_cons_zero, List.getElem_cons_succ, Nat.zero_add]
  refine wpAnyT_take (i := 2) (v := ?tv3) rfl (by kernel_rfl) (by decide) (by kernel_rfl) (by kernel_rfl) (fun _ _ _ h => h) (Or.inl ⟨by rfl, ?ty3⟩) (by assumption) ?tr3
  case ty3 => intro w hSw; (try dsimp only at hSw); go_simp; (try with_reducible rfl)
  try simp only [Act.put, List.setIfInBounds_toArray, List.set_cons_zero, List.set_cons_succ, List.getElem_toArray, List.getElem_cons_zero, List.getElem_cons_succ, Nat.zero_add]
  refine wpAnyT_take (i := 3) (v := ?tv4) rfl (by kernel_rfl) (by decide) (by kernel_rfl) (by kernel_rfl) (fun _ _ _ h => h) (Or.inl ⟨by rfl, ?ty4⟩) (by assumption) ?tr4
  case ty4 => intro w hSw; (try dsimp only at hSw); go_simp; (try with_reducible rfl)
  try simp only [Act.put, List.setIfInBounds_toArray, List.set_cons_zero, List.set_cons_succ, List.getElem_toArray, List.getElem_cons_zero, List.getElem_cons_succ, Nat.zero_add]
  refine wpAnyT_take (i := 4) (v := ?tv5) rfl (by kernel_rfl) (by decide) (by kernel_rfl) (by kernel_rfl) (fun _ _ _ h => h) (Or.inl ⟨by rfl, ?ty5⟩) (by assumption) ?tr5
  case ty5 => intro w hSw; (try dsimp only at hSw); go_simp; (try with_reducible rfl)
  try simp only [Act.put, List.setIfInBounds_toArray, List.set_cons_zero, List.set_cons_succ, List.getElem_toArray, List.getElem_cons_zero, List.getElem_cons_succ, Nat.zero_add]
  refine wpAnyT_take (i := 5) (v := ?tv6) rfl (by kernel_rfl) (by decide) (by kernel_rfl) (by kernel_rfl) (fun _ _ _ h => h) (Or.inl ⟨by rfl, ?ty6⟩) (by assumption) ?tr6
  case ty6 => intro w hSw; (try dsimp only at hSw); go_simp; (try with_reducible rfl)
  try simp only [Act.put, List.setIfInBounds_toArray, List.set_cons_zero, List.set_cons_succ, List.getElem_toArray, List.getElem_cons_zero, List.getElem_cons_succ, Nat.zero_add]
  refine wpAnyT_take (i := 6) (v := ?tv7) rfl (by kernel_rfl) (by decide) (by kernel_rfl) (by kernel_rfl) (fun _ _ _ h => h) (Or.inl ⟨by rfl, ?ty7⟩) (by assumption) ?tr7
  case ty7 => intro w hSw; (try dsimp only at hSw); go_simp; (try with_reducible rfl)
  try simp only [Act.put, List.setIfInBounds_toArray, List.set_cons_zero, List.set_cons_succ, List.getElem_toArray, List.getElem_cons_zero, List.getElem_cons_succ, Nat.zero_add]
  refine wpAnyT_take (i := 7) (v := ?tv8) rfl (by kernel_rfl) (by decide) (by kernel_rfl) (by kernel_rfl) (fun _ _ _ h => h) (Or.inl ⟨by rfl, ?ty8⟩) (by assumption) ?tr8
  case ty8 => intro w hSw; (try dsimp only at hSw); go_simp; (try with_reducible rfl)
  try simp only [Act.put, List.setIfInBounds_toArray, List.set_cons_zero, List.set_cons_succ, List.getElem_toArray, List.getElem_cons_zero, List.getElem_cons_succ, Nat.zero_add]
  refine wpAnyT_take (i := 8) (v := ?tv9) rfl (by kernel_rfl) (by decide) (by kernel_rfl) (by kernel_rfl) (fun _ _ _ h => h) (Or.inl ⟨by rfl, ?ty9⟩) (by assumption) ?tr9
  case ty9 => intro w hSw; (try dsimp only at hSw); go_simp; (try with_reducible rfl)
  try simp only [Act.put, List.setIfInBounds_toArray, List.set_cons_zero, List.set_cons_succ, List.getElem_toArray, List.getElem_cons_zero, List.getElem_cons_succ, Nat.zero_add]
  refine wpAnyT_take (i := 9) (v := ?tv10) rfl (by kernel_rfl) (by decide) (by kernel_rfl) (by kernel_rfl) (fun _ _ _ h => h) (Or.inl ⟨by rfl, ?ty10⟩) (by assumption) ?tr10
  case ty10 => intro w hSw; (try dsimp only at hSw); go_simp; (try with_reducible rfl)
  try simp only [Act.put, List.setIfInBounds_toArray, List.set_cons_zero, List.set_cons_succ, List.getElem_toArray, List.getElem_cons_zero, List.getElem_cons_succ, Nat.zero_add]
  refine wpAnyT_done (by kernel_rfl) ?_
  simp only [List.drop_succ_cons, List.drop_zero]
  go_wp2_with fail
  refine bodyPost_ret (results_cell_row rfl _ _ w.heap.size 104 #[.int .u8 t.kind, .string s, .int .i64 t.n, .int .i64 t.at_] (0, 0) _ rfl (end4 (W := w2.drew) HZ2.out _ _ _ _) Tryz.underlying104 rfl (by kernel_rfl)) rfl ?_
  exact ⟨rfl, chg4 HC2.out.drew (Nat.le_refl _) _ _ _ _⟩
set_option maxRecDepth 100000 in
set_option maxHeartbeats 1000000 in
theorem wrong_calls {b fin i n : Nat} {v : Value} {L : List Lx.Tok} {w : World} (hp : Psr b v i fin n w) (ht : TokIn (off (fun k => k = b) w) v L) (e : Nat) :
    Calls Tryz.prog 50 #[.pointer (some ⟨b, 0, none⟩), .int .i64 e] w fun e' w' => e' = .panicked (pfault (wrongP L fin i e).1 (wrongP L fin i e).2) ∧ Chg (fun _ => False) w w' := by
  cases hi : L[i]? with
  | none =>
    have H := Lib.hid (peek_err hp ht hi)
    have hr : wrongP L fin i e = (fin, 11) := by unfold wrongP; rw [hi]
    rw [hr]
    clear hp ht hi hr
    go_enter Tryz.func50, Tryz.ntmps50
    go_wp2_with fail
    refine H.out.mono ?_
    rintro e' w2 ⟨rfl, hC⟩
    go_wp2_with fail
    exact ⟨rfl, rfl, hC⟩
  | some t =>
    have H := Lib.hid (peek_ok hp ht hi)
    have hr : wrongP L fin i e = (t.at_, e) := by unfold wrongP; rw [hi]
    rw [hr]
    unfold tokV at H
    have hfl := run_fld3
    clear hp ht hi hr
    go_enter Tryz.func50, Tryz.ntmps50
    go_wp2_with fail
    refine H.out.mono ?_
    rintro e' w2 ⟨rfl, hC⟩
    go_wp2_with fail
    exact ⟨rfl, rfl, hC⟩
/-- How take ends; how name ends. -/
def TakeEnds (b : Nat) (v : Value) (fin j n : Nat) (w : World) (r : Except (Nat × Nat) Unit) (e : Ending) (w' : World) : Prop :=
  match r with
  | .ok _ => (∃ u, e = .returned u) ∧ Psr b v j fin n w' ∧ Chg (· = b) w w'
  | .error (p, q) => e = .panicked (pfault p q) ∧ Chg (· = b) w w'
def NameEnds (b : Nat) (v : Value) (fin j n : Nat) (w : World) (r : Except (Nat × Nat) ByteArray) (e : Ending) (w' : World) : Prop :=
  match r with
  | .ok s => e = .returned (.string s) ∧ Psr b v j fin n w' ∧ Chg (· = b) w w'
  | .error (p, q) => e = .panicked (pfault p q) ∧ Chg (· = b) w w'
theorem chgb {b : Nat} {w w' : World} (h : Chg (fun _ => False) w w') : Chg (· = b) w w' := h.mono fun _ _ e => e.elim
set_option maxRecDepth 100000 in
set_option maxHeartbeats 1000000 in
theorem take_calls {b fin i n : Nat} {v : Value} {L : List Lx.Tok} {w : World} (hp : Psr b v i fin n w) (ht : TokIn (off (fun k => k = b) w) v L) (k : Nat) (hk : k < 256) (hL : L.length ≤ 4611686018427387904) :
    Calls Tryz.prog 97 #[.pointer (some ⟨b, 0, none⟩), .int .u8 k] w (TakeEnds b v fin (i + 1) n w (takeP L fin k i)) := by
  obtain ⟨w1, hw1⟩ : ∃ w1, w.alloc zTok = w1 := ⟨_, rfl⟩
  have hC1 : Chg (fun _ => False) w w1 := by rw [← hw1]; exact (Chg.refl _ w).alloc _
  have hz1 : w1.heap[w.heap.size]? = some zTok := by rw [← hw1]; exact blk_new w _
  have hp1 := hp.chg hC1 (fun e => e)
  have ht1 := ht.keep (keep_offs (chgb hC1) (fun _ _ h => h))
  have HC1 := Lib.hid hC1
  have HB := Lib.hid hp.lt
  cases hi : L[i]? with
  | none =>
    have H := Lib.hid (peek_err hp1 ht1 hi)
    have hr : takeP L fin k i = .error (fin, 11) := by unfold takeP; rw [hi]
    rw [hr]
    unfold zTok at hw1
    clear hp ht hi hr hp1 ht1 hz1 hC1
    go_enter Tryz.func97, Tryz.ntmps97
    go_wp2_with fail
    refine H.out.mono ?_
    rintro e' w2 ⟨rfl, hC⟩
    go_wp2_with fail
    exact ⟨rfl, rfl, chgb (HC1.out.trans hC)⟩
  | some t =>
    have H := Lib.hid (peek_ok hp1 ht1 hi)
    have hilt := (List.getElem?_eq_some_iff.1 hi).1
    have HP1 := Lib.hid hp1
    have HT1 := Lib.hid ht1
    have HZ1 := Lib.hid hz1
    have HI := Lib.hid hi
    have hwr : wrongP L fin i 12 = (t.at_, 12) := by unfold wrongP; rw [hi]
    have HWR := Lib.hid hwr
    have hr : takeP L fin k i = if t.kind = k then .ok () else .error (t.at_, 12) := by unfold takeP; rw [hi]
    obtain ⟨s, hs⟩ : ∃ s, ba t.s = s := ⟨_, rfl⟩
    obtain ⟨kd, hkd⟩ : ∃ kd, t.kind = kd := ⟨_, rfl⟩
    unfold tokV at H
    rw [hs, hkd] at H
    rw [hkd] at hr
    have HR := Lib.hid hr
    unfold zTok at hw1 HZ1
    clear hp ht hi hr hp1 ht1 hz1 hC1 hwr hs hkd
    go_enter Tryz.func97, Tryz.ntmps97
    go_wp2_with fail
    refine H.out.mono ?_
    rintro e' w2 ⟨rfl, hC2⟩
    obtain ⟨w3, hw3⟩ : ∃ w3, w2.alloc (.cells #[.int .u8 kd, .string s, .int .i64 t.n, .int .i64 t.at_] 104) = w3 := ⟨_, rfl⟩
    have hC3 : Chg (fun _ => False) w2 w3 := by rw [← hw3]; exact (Chg.refl _ w2).alloc _
    have hb3 : w3.heap[w2.heap.size]? = some (.cells #[.int .u8 kd, .string s, .int .i64 t.n, .int .i64 t.at_] 104) := by rw [← hw3]; exact blk_new w2 _
    have hC13 := hC2.trans hC3
    have hp3 := HP1.out.chg hC13 (fun e => e)
    have hz3 := hC13.blk HZ1.out (fun e => e)
    have HC13 := Lib.hid hC13
    have HP3 := Lib.hid hp3
    have HS2 := Lib.hid hC2.size
    have HS1 := Lib.hid HC1.out.size
    have g0 := cell_of hb3 0
    have g1 := cell_of hb3 1
    have g2 := cell_of hb3 2
    have g3 := cell_of hb3 3
    by_cases hkk : kd = k
    · have hke : ((kd : Int) != (k : Int)) = false := by rw [hkk]; exact bne_self_eq_false _
      have hke3 : ((kd : Int) == (k : Int)) = true := by rw [hkk]; exact beq_self_eq_true _
      have HKK := Lib.hid hkk
      have c1 := cell_of hp3 1
      have f1 := free_of hp3 1
      obtain ⟨w4, hw4⟩ : ∃ w4, w3.setCell ⟨b, 1, none⟩ (.int .i64 ((i : Int) + 1)) = w4 := ⟨_, rfl⟩
      have hC4 : Chg (fun k => k = b) w3 w4 := by rw [← hw4]; exact (Chg.refl (fun k => k = b) w3).set (p := ⟨b, 1, none⟩) (fun _ => rfl) _
      have hp4 : Psr b v (i + 1) fin n w4 := by rw [← hw4]; exact hp3.at_
      have hne2 : ¬ w2.heap.size = b := by have := HB.out; have := HS1.out; have := HS2.out; omega
      have hne1 : ¬ w.heap.size = b := by have := HB.out; omega
      have hb4 := hC4.blk hb3 hne2
      have hz4 := hC4.blk hz3 hne1
      have q0 := cell_of hb4 0
      have q1 := cell_of hb4 1
      have q2 := cell_of hb4 2
      have q3 := cell_of hb4 3
      have z0 := cell_of hz4 0
      have z1 := cell_of hz4 1
      have z2 := cell_of hz4 2
      have z3 := cell_of hz4 3
      have r0 := free_of hz4 0
      have r1 := free_of hz4 1
      have r2 := free_of hz4 2
      have r3 := free_of hz4 3
      have HZ4 := Lib.hid hz4
      have HP4 := Lib.hid hp4
      have HC4 := Lib.hid ((chgb (HC1.out.trans HC13.out)).trans hC4)
      have hib : (i : Int) ≤ 4611686018427387904 := by omega
      clear hC2 hC3 hb3 hC13 hp3 hz3 hC4 hp4 hb4 hz4 hkk H hne1 hne2
      go_wp2_with fail
      refine bodyPost_ret (results_cell_row rfl _ _ w.heap.size 104 #[.int .u8 kd, .string s, .int .i64 t.n, .int .i64 t.at_] (0, 0) _ rfl (end4 (W := w4) HZ4.out _ _ _ _) Tryz.underlying104 rfl (by kernel_rfl)) rfl ?_
      rw [HR.out, if_pos HKK.out]
      exact ⟨⟨_, rfl⟩, HP4.out.chg (chg4F (F := fun k => k = w.heap.size) (Chg.refl _ w4) rfl _ _ _ _) (fun e => by have := HB.out; omega), chg4 HC4.out (Nat.le_refl _) _ _ _ _⟩
    · have hke2 : ¬ (kd : Int) = (k : Int) := by omega
      have hke : ((kd : Int) != (k : Int)) = true := bne_iff_ne.2 hke2
      have hke3 : ((kd : Int) == (k : Int)) = false := beq_eq_false_iff_ne.2 hke2
      have HKK := Lib.hid hkk
      have HW := Lib.hid (wrong_calls hp3 (HT1.out.keep (keep_offs (chgb HC13.out) (fun _ _ h => h))) 12)
      rw [HWR.out] at HW
      clear hC2 hC3 hb3 hC13 hp3 hz3 hkk H
      go_wp2_with fail
      refine HW.out.mono ?_
      rintro e' w5 ⟨rfl, hC5⟩
      go_wp2_with fail
      rw [HR.out, if_neg HKK.out]
      exact ⟨rfl, rfl, chgb ((HC1.out.trans HC13.out).trans hC5)⟩
set_option maxRecDepth 100000 in
set_option maxHeartbeats 2000000 in
theorem name_calls {b fin i n : Nat} {v : Value} {L : List Lx.Tok} {w : World} (hp : Psr b v i fin n w) (ht : TokIn (off (fun k => k = b) w) v L) (no : List ByteArray) (nov : Value) (hno : StrsIn w nov no) (hL : L.length ≤ 4611686018427387904) :
    Calls Tryz.prog 96 #[.pointer (some ⟨b, 0, none⟩), nov] w (NameEnds b v fin (i + 1) n w (nameP L fin no i)) := by
  cases hi : L[i]? with
  | none =>
    have H := Lib.hid (peek_err hp ht hi)
    have hr : nameP L fin no i = .error (fin, 11) := by unfold nameP; rw [hi]
    rw [hr]
    clear hp ht hi hr hno
    go_enter Tryz.func96, Tryz.ntmps96
    go_wp2_with fail
    refine H.out.mono ?_
    rintro e' w2 ⟨rfl, hC⟩
    go_wp2_with fail
    exact ⟨rfl, rfl, chgb hC⟩
  | some t =>
    have H := Lib.hid (peek_ok hp ht hi)
    have hilt := (List.getElem?_eq_some_iff.1 hi).1
    have HP := Lib.hid hp
    have HT := Lib.hid ht
    have hwr : wrongP L fin i 12 = (t.at_, 12) := by unfold wrongP; rw [hi]
    have HWR := Lib.hid hwr
    obtain ⟨s, hs⟩ : ∃ s, ba t.s = s := ⟨_, rfl⟩
    have hr : nameP L fin no i = if t.kind = 3 ∧ s ≠ sTrue ∧ s ≠ sFalse ∧ s ≠ sUnit ∧ memB s no = false then .ok s else .error (t.at_, 12) := by
      rw [← hs]
      unfold nameP
      rw [hi]
    obtain ⟨kd, hkd⟩ : ∃ kd, t.kind = kd := ⟨_, rfl⟩
    have HCN := Lib.hid (fun W (hW : Chg (fun _ => False) w W) => scontains_calls s no nov W (hno.kept hW))
    obtain ⟨mb, hmb⟩ : ∃ mb, memB s no = mb := ⟨_, rfl⟩
    simp only [hmb] at HCN
    unfold tokV at H
    rw [hs, hkd] at H
    rw [hkd, hmb] at hr
    have HR := Lib.hid hr
    obtain ⟨an, cn, hnv, hn1, hn2, _⟩ := hno
    subst hnv
    obtain ⟨z, hz⟩ : ∃ z : Int, (kd : Int) = z := ⟨_, rfl⟩
    rw [hz] at H
    clear hp ht hi hr hwr hs hkd hmb hn1 hn2
    go_enter Tryz.func96, Tryz.ntmps96
    go_wp2_with fail
    refine H.out.mono ?_
    rintro e' w2 ⟨rfl, hC2⟩
    obtain ⟨w3, hw3⟩ : ∃ w3, w2.alloc (.cells #[.int .u8 z, .string s, .int .i64 t.n, .int .i64 t.at_] 104) = w3 := ⟨_, rfl⟩
    have hC3 : Chg (fun _ => False) w2 w3 := by rw [← hw3]; exact (Chg.refl _ w2).alloc _
    have hb3 : w3.heap[w2.heap.size]? = some (.cells #[.int .u8 z, .string s, .int .i64 t.n, .int .i64 t.at_] 104) := by rw [← hw3]; exact blk_new w2 _
    have HC3 := Lib.hid (hC2.trans hC3)
    have hp3 := HP.out.chg HC3.out (fun e => e)
    have HW := Lib.hid (wrong_calls hp3 (HT.out.keep (keep_offs (chgb HC3.out) (fun _ _ h => h))) 12)
    rw [HWR.out] at HW
    have HCN3 := Lib.hid (HCN.out w3 HC3.out)
    have hneb : ¬ w2.heap.size = b := by have := HP.out.lt; have := hC2.size; omega
    have g0 := cell_of hb3 0
    have g1 := cell_of hb3 1
    have g2 := cell_of hb3 2
    have g3 := cell_of hb3 3
    clear H HCN hC2 hC3
    by_cases k3 : kd = 3
    case neg =>
      have hz3 : ¬ z = 3 := by omega
      have hz4 : (z != 3) = true := bne_iff_ne.2 hz3
      have HRN : Hid (nameP L fin no i = .error (t.at_, 12)) := Lib.hid (by rw [HR.out, if_neg (fun h => k3 h.1)])
      clear hb3 hp3 hneb hz
      go_wp2_with fail
      refine HW.out.mono ?_
      rintro e' w5 ⟨rfl, hC5⟩
      go_wp2_with fail
      rw [HRN.out]
      exact ⟨rfl, rfl, chgb (HC3.out.trans hC5)⟩
    obtain rfl : z = 3 := by rw [← hz, k3]; rfl
    by_cases e1 : s = sTrue
    case pos =>
      have HRN : Hid (nameP L fin no i = .error (t.at_, 12)) := Lib.hid (by rw [HR.out, if_neg (fun h => h.2.1 e1)])
      clear HR
      have e1' : s = ⟨#[116, 114, 117, 101]⟩ := e1
      subst e1'
      clear hb3 hp3 hneb hz e1
      go_wp2_with fail
      refine HW.out.mono ?_
      rintro e' w5 ⟨rfl, hC5⟩
      go_wp2_with fail
      rw [HRN.out]
      exact ⟨rfl, rfl, chgb (HC3.out.trans hC5)⟩
    have e1b : (s.toList == [116, 114, 117, 101]) = false := str_no e1
    by_cases e2 : s = sFalse
    case pos =>
      have HRN : Hid (nameP L fin no i = .error (t.at_, 12)) := Lib.hid (by rw [HR.out, if_neg (fun h => h.2.2.1 e2)])
      clear HR
      have e1' : s = ⟨#[102, 97, 108, 115, 101]⟩ := e2
      subst e1'
      clear hb3 hp3 hneb hz e1 e2
      go_wp2_with fail
      refine HW.out.mono ?_
      rintro e' w5 ⟨rfl, hC5⟩
      go_wp2_with fail
      rw [HRN.out]
      exact ⟨rfl, rfl, chgb (HC3.out.trans hC5)⟩
    have e2b : (s.toList == [102, 97, 108, 115, 101]) = false := str_no e2
    by_cases e3 : s = sUnit
    case pos =>
      have HRN : Hid (nameP L fin no i = .error (t.at_, 12)) := Lib.hid (by rw [HR.out, if_neg (fun h => h.2.2.2.1 e3)])
      clear HR
      have e1' : s = ⟨#[117, 110, 105, 116]⟩ := e3
      subst e1'
      clear hb3 hp3 hneb hz e1 e2 e3
      go_wp2_with fail
      refine HW.out.mono ?_
      rintro e' w5 ⟨rfl, hC5⟩
      go_wp2_with fail
      rw [HRN.out]
      exact ⟨rfl, rfl, chgb (HC3.out.trans hC5)⟩
    have e3b : (s.toList == [117, 110, 105, 116]) = false := str_no e3
    cases mb with
    | true =>
      have HRN : Hid (nameP L fin no i = .error (t.at_, 12)) := Lib.hid (by rw [HR.out, if_neg (fun h => by have := h.2.2.2.2; cases this)])
      clear hb3 hp3 hneb hz e1 e2 e3
      go_wp2_with fail
      refine HCN3.out.mono ?_
      rintro e' w4 ⟨rfl, rfl⟩
      go_wp2_with fail
      refine HW.out.mono ?_
      rintro e' w5 ⟨rfl, hC5⟩
      go_wp2_with fail
      rw [HRN.out]
      exact ⟨rfl, rfl, chgb (HC3.out.trans hC5)⟩
    | false =>
      have HRN : Hid (nameP L fin no i = .ok s) := Lib.hid (by rw [HR.out, if_pos ⟨k3, e1, e2, e3, rfl⟩])
      obtain ⟨w4, hw4⟩ : ∃ w4, w3.setCell ⟨b, 1, none⟩ (.int .i64 ((i : Int) + 1)) = w4 := ⟨_, rfl⟩
      have c1 := cell_of hp3 1
      have f1 := free_of hp3 1
      have hC4 : Chg (fun k => k = b) w3 w4 := by rw [← hw4]; exact (Chg.refl (fun k => k = b) w3).set (p := ⟨b, 1, none⟩) (fun _ => rfl) _
      have HP4 := Lib.hid (show Psr b v (i + 1) fin n w4 by rw [← hw4]; exact hp3.at_)
      have hb4 := hC4.blk hb3 hneb
      have q0 := cell_of hb4 0
      have q1 := cell_of hb4 1
      have q2 := cell_of hb4 2
      have q3 := cell_of hb4 3
      have HC4 := Lib.hid ((chgb HC3.out).trans hC4)
      have hib : (i : Int) ≤ 4611686018427387904 := by omega
      clear hb3 hp3 hneb hz e1 e2 e3 hC4 hb4 k3
      go_wp2_with fail
      refine HCN3.out.mono ?_
      rintro e' w5 ⟨rfl, rfl⟩
      go_wp2_with fail
      go_ret
      rw [HRN.out]
      exact ⟨rfl, HP4.out, HC4.out⟩
set_option maxRecDepth 100000 in
set_option maxHeartbeats 1000000 in
theorem count_calls {b fin i n : Nat} {v : Value} {L : List Lx.Tok} {w : World} (hp : Psr b v i fin n w) (ht : TokIn (off (fun k => k = b) w) v L) (deep : Nat) (hd : deep ≤ 1000) (hn : n ≤ 5000) :
    Calls Tryz.prog 74 #[.pointer (some ⟨b, 0, none⟩), .int .i64 deep] w fun e w' =>
      if 4000 < n + 1 ∨ 60 < deep then e = .panicked (pfault (wrongP L fin i 13).1 (wrongP L fin i 13).2) ∧ Chg (· = b) w w'
      else e = .returned (.tuple #[]) ∧ Psr b v i fin (n + 1) w' ∧ Chg (· = b) w w' := by
  obtain ⟨w1, hw1⟩ : ∃ w1, w.setCell ⟨b, 3, none⟩ (.int .i64 ((n : Int) + 1)) = w1 := ⟨_, rfl⟩
  have hC1 : Chg (fun k => k = b) w w1 := by rw [← hw1]; exact (Chg.refl (fun k => k = b) w).set (p := ⟨b, 3, none⟩) (fun _ => rfl) _
  have hp1 : Psr b v i fin (n + 1) w1 := by rw [← hw1]; exact hp.nodes
  have HW := Lib.hid (wrong_calls hp1 (ht.keep (keep_offs hC1 (fun _ _ h => h))) 13)
  have HC1 := Lib.hid hC1
  have HP1 := Lib.hid hp1
  have c3 := cell_of hp 3
  have f3 := free_of hp 3
  have q3 := cell_of hp1 3
  have hcast : ((n + 1 : Nat) : Int) = (n : Int) + 1 := by push_cast; rfl
  simp only [hcast] at q3
  have hn0 : (n : Int) ≤ 5000 := by omega
  have hn1 : (0 : Int) ≤ (n : Int) := by omega
  clear hp ht hC1 hp1 hcast
  by_cases h1 : 4000 < n + 1
  · simp only [if_pos (show 4000 < n + 1 ∨ 60 < deep from .inl h1)]
    have h1i : (4000 : Int) < (n : Int) + 1 := by omega
    clear h1
    go_enter Tryz.func74, Tryz.ntmps74
    go_wp2_with fail
    refine HW.out.mono ?_
    rintro e' w2 ⟨rfl, hC2⟩
    go_wp2_with fail
    exact ⟨rfl, rfl, HC1.out.trans (chgb hC2)⟩
  have h1i : ¬ (4000 : Int) < (n : Int) + 1 := by omega
  by_cases h2 : 60 < deep
  · simp only [if_pos (show 4000 < n + 1 ∨ 60 < deep from .inr h2)]
    have h2i : (60 : Int) < (deep : Int) := by omega
    clear h1 h2
    go_enter Tryz.func74, Tryz.ntmps74
    go_wp2_with fail
    refine HW.out.mono ?_
    rintro e' w2 ⟨rfl, hC2⟩
    go_wp2_with fail
    exact ⟨rfl, rfl, HC1.out.trans (chgb hC2)⟩
  · simp only [if_neg (show ¬ (4000 < n + 1 ∨ 60 < deep) by omega)]
    have h2i : ¬ (60 : Int) < (deep : Int) := by omega
    clear h1 h2
    go_enter Tryz.func74, Tryz.ntmps74
    go_wp2_with fail
    go_end0
    exact ⟨rfl, HP1.out, HC1.out⟩
end Go.Proofs.YtaklmocjaokkpaaGreatDoor.Tr
namespace Go.Proofs.YtaklmocjaokkpaaGreatDoor.Tr
set_option linter.unusedVariables false
set_option linter.unusedSimpArgs false
open Go.RowKit Go.Shelf Go.Proofs.YtaklmocjaokkpaaGreatDoor.Mem

theorem Gm.keep {w w' : World} (h : Gm w) (hc : Keep w w') : Gm w' :=
  ⟨⟨h.1.1.imp fun _ ⟨p, hp⟩ => ⟨p, hc.2 _ _ _ hp⟩, h.1.2.imp fun _ ⟨p, hp⟩ => ⟨p, hc.2 _ _ _ hp⟩⟩, h.2.imp fun _ hm => hc.2 _ _ _ hm⟩
set_option maxRecDepth 100000 in
set_option maxHeartbeats 2000000 in
theorem kinds_calls (s : ByteArray) (w : World) (hs : s.size ≤ 1048576) (hg : Gm w) :
    Calls Tryz.prog 95 #[.string s] w fun e w' => e = .returned (.tuple #[.int .u8 (kindsP s).1, .int .i64 (kindsP s).2]) ∧ Chg (fun _ => False) w w' := by
  obtain ⟨m, hm⟩ := hg.2
  have HT := Lib.hid (ttakes_calls s m w hs hm)
  obtain ⟨tk, htk⟩ : ∃ tk, takes s = tk := ⟨_, rfl⟩
  have HTK := Lib.hid htk
  rw [htk] at HT
  clear hs hg hm htk
  go_enter Tryz.func95, Tryz.ntmps95
  by_cases h0 : s = wFun
  case pos =>
    have hk : kindsP s = (6, 1) := by rw [h0]; rfl
    rw [hk]
    have e' : s = ⟨#[102, 117, 110]⟩ := h0
    subst e'
    clear h0 hk HT HTK
    go_wp2_with fail
    go_ret2
    exact ⟨rfl, Chg.refl _ _⟩
  have hb0 : (s.toList == [102, 117, 110]) = false := str_no h0
  by_cases h1 : s = wCall
  case pos =>
    have hk : kindsP s = (7, -1) := by rw [h1]; rfl
    rw [hk]
    have e' : s = ⟨#[99, 97, 108, 108]⟩ := h1
    subst e'
    clear h0 h1 hk HT HTK
    go_wp2_with fail
    go_ret2
    exact ⟨rfl, Chg.refl _ _⟩
  have hb1 : (s.toList == [99, 97, 108, 108]) = false := str_no h1
  by_cases h2 : s = wLet
  case pos =>
    have hk : kindsP s = (8, 2) := by rw [h2]; rfl
    rw [hk]
    have e' : s = ⟨#[108, 101, 116]⟩ := h2
    subst e'
    clear h0 h1 h2 hk HT HTK
    go_wp2_with fail
    go_ret2
    exact ⟨rfl, Chg.refl _ _⟩
  have hb2 : (s.toList == [108, 101, 116]) = false := str_no h2
  by_cases h3 : s = wIf
  case pos =>
    have hk : kindsP s = (9, 3) := by rw [h3]; rfl
    rw [hk]
    have e' : s = ⟨#[105, 102]⟩ := h3
    subst e'
    clear h0 h1 h2 h3 hk HT HTK
    go_wp2_with fail
    go_ret2
    exact ⟨rfl, Chg.refl _ _⟩
  have hb3 : (s.toList == [105, 102]) = false := str_no h3
  by_cases h4 : s = wDo
  case pos =>
    have hk : kindsP s = (10, -1) := by rw [h4]; rfl
    rw [hk]
    have e' : s = ⟨#[100, 111]⟩ := h4
    subst e'
    clear h0 h1 h2 h3 h4 hk HT HTK
    go_wp2_with fail
    go_ret2
    exact ⟨rfl, Chg.refl _ _⟩
  have hb4 : (s.toList == [100, 111]) = false := str_no h4
  by_cases h5 : s = wPerform
  case pos =>
    have hk : kindsP s = (12, 1) := by rw [h5]; rfl
    rw [hk]
    have e' : s = ⟨#[112, 101, 114, 102, 111, 114, 109]⟩ := h5
    subst e'
    clear h0 h1 h2 h3 h4 h5 hk HT HTK
    go_wp2_with fail
    go_ret2
    exact ⟨rfl, Chg.refl _ _⟩
  have hb5 : (s.toList == [112, 101, 114, 102, 111, 114, 109]) = false := str_no h5
  by_cases h6 : s = wHandle
  case pos =>
    have hk : kindsP s = (13, 1) := by rw [h6]; rfl
    rw [hk]
    have e' : s = ⟨#[104, 97, 110, 100, 108, 101]⟩ := h6
    subst e'
    clear h0 h1 h2 h3 h4 h5 h6 hk HT HTK
    go_wp2_with fail
    go_ret2
    exact ⟨rfl, Chg.refl _ _⟩
  have hb6 : (s.toList == [104, 97, 110, 100, 108, 101]) = false := str_no h6
  by_cases h7 : s = wResume
  case pos =>
    have hk : kindsP s = (14, 2) := by rw [h7]; rfl
    rw [hk]
    have e' : s = ⟨#[114, 101, 115, 117, 109, 101]⟩ := h7
    subst e'
    clear h0 h1 h2 h3 h4 h5 h6 h7 hk HT HTK
    go_wp2_with fail
    go_ret2
    exact ⟨rfl, Chg.refl _ _⟩
  have hb7 : (s.toList == [114, 101, 115, 117, 109, 101]) = false := str_no h7
  by_cases h8 : s = wDrop
  case pos =>
    have hk : kindsP s = (15, 2) := by rw [h8]; rfl
    rw [hk]
    have e' : s = ⟨#[100, 114, 111, 112]⟩ := h8
    subst e'
    clear h0 h1 h2 h3 h4 h5 h6 h7 h8 hk HT HTK
    go_wp2_with fail
    go_ret2
    exact ⟨rfl, Chg.refl _ _⟩
  have hb8 : (s.toList == [100, 114, 111, 112]) = false := str_no h8
  by_cases h9 : s = wWind
  case pos =>
    have hk : kindsP s = (16, 3) := by rw [h9]; rfl
    rw [hk]
    have e' : s = ⟨#[119, 105, 110, 100]⟩ := h9
    subst e'
    clear h0 h1 h2 h3 h4 h5 h6 h7 h8 h9 hk HT HTK
    go_wp2_with fail
    go_ret2
    exact ⟨rfl, Chg.refl _ _⟩
  have hb9 : (s.toList == [119, 105, 110, 100]) = false := str_no h9
  have hk : kindsP s = (11, tk) := by
    unfold kindsP
    rw [if_neg h0, if_neg h1, if_neg h2, if_neg h3, if_neg h4, if_neg h5, if_neg h6, if_neg h7, if_neg h8, if_neg h9, HTK.out]
  rw [hk]
  clear h0 h1 h2 h3 h4 h5 h6 h7 h8 h9 hk HTK
  go_wp2_with fail
  refine HT.out.mono ?_
  rintro e w2 ⟨rfl, hC⟩
  go_wp2_with fail
  go_ret2
  exact ⟨rfl, hC⟩
/-- What the tokens hold is a lexer's. -/
def TokFine (L : List Lx.Tok) : Prop := L.length ≤ 1048576 ∧ ∀ t ∈ L, (-9223372036854775808 ≤ t.n ∧ t.n ≤ 9223372036854775807) ∧ (ba t.s).size ≤ 1048576
/-- What holds all the while. -/
structure Amb (b : Nat) (v : Value) (L : List Lx.Tok) (w : World) : Prop where
  tok : TokIn (off (fun k => k = b) w) v L
  gm : Gm (off (fun k => k = b) w)
theorem Amb.later {b : Nat} {v : Value} {L : List Lx.Tok} {w w' : World} (h : Amb b v L w) (hc : Chg (· = b) w w') : Amb b v L w' :=
  ⟨h.tok.keep (keep_offs hc (fun _ _ h => h)), h.gm.keep (keep_offs hc (fun _ _ h => h))⟩
/-- How a method that takes a node ends: the node lies in new memory. -/
def NodeEnds (b : Nat) (v : Value) (fin : Nat) (w : World) (r : PRes Nd) (e : Ending) (w' : World) : Prop :=
  match r with
  | .ok (x, i, n) => ∃ nv kv, e = .returned (ndV x nv kv) ∧ Psr b v i fin n w' ∧ NdIn (off (fun k => k < w.heap.size) w') nv kv x ∧ Chg (· = b) w w'
  | .error (p, q) => e = .panicked (pfault p q) ∧ Chg (· = b) w w'
theorem leaf0 (w : World) (k : Nat) (n : Int) (t : ByteArray) (hk : k < 256) (hn : -9223372036854775808 ≤ n ∧ n ≤ 9223372036854775807) : NdIn w (.slice none 0 0) (.slice none 0 0) (.mk k n t [] []) :=
  NdIn.of hk hn ⟨none, 0, rfl, Nat.le_refl _, Nat.zero_le _, fun i s h => by cases h⟩ ⟨none, 0, rfl, Nat.le_refl _, Nat.zero_le _, KidsIn.of _ _ fun j y hy => by cases hy⟩
theorem end5 {B : Nat} {W : World} {c0 c1 c2 c3 c4 : Value} {t : TypeId} (hb : W.heap[B]? = some (.cells #[c0, c1, c2, c3, c4] t (0, 0))) (x0 x1 x2 x3 x4 : Value) :
    (((((W.setCell ⟨B, 0, none⟩ x0).setCell ⟨B, 1, none⟩ x1).setCell ⟨B, 2, none⟩ x2).setCell ⟨B, 3, none⟩ x3).setCell ⟨B, 4, none⟩ x4).heap[B]? = some (.cells #[x0, x1, x2, x3, x4] t (0, 0)) :=
  (blk_set (blk_set (blk_set (blk_set (blk_set hb 0 x0) 1 x1) 2 x2) 3 x3) 4 x4).trans rfl
theorem chg5 {F : Nat → Prop} {B : Nat} {w W : World} (h : Chg F w W) (hB : B < w.heap.size → F B) (x0 x1 x2 x3 x4 : Value) : Chg F w (((((W.setCell ⟨B, 0, none⟩ x0).setCell ⟨B, 1, none⟩ x1).setCell ⟨B, 2, none⟩ x2).setCell ⟨B, 3, none⟩ x3).setCell ⟨B, 4, none⟩ x4) :=
  ((((h.set (p := ⟨B, 0, none⟩) hB x0).set (p := ⟨B, 1, none⟩) hB x1).set (p := ⟨B, 2, none⟩) hB x2).set (p := ⟨B, 3, none⟩) hB x3).set (p := ⟨B, 4, none⟩) hB x4
abbrev zNd : Obj := .cells #[.int .u8 0, .int .i64 0, .string ⟨#[]⟩, .slice none 0 0, .slice none 0 0] 25
/-- A node put into the result's block. -/
theorem put_ends {b fin i n : Nat} {v : Value} {w W : World} {x : Nd} {c0 c1 c2 c3 c4 : Value} {nv kv : Value} (hp : Psr b v i fin n W) (hc : Chg (· = b) w W) (hb : b < w.heap.size)
    (hin : NdIn (off (fun k => k < w.heap.size ∨ k = w.heap.size) W) nv kv x) :
    NodeEnds b v fin w (.ok (x, i, n)) (.returned (ndV x nv kv)) (((((W.setCell ⟨w.heap.size, 0, none⟩ c0).setCell ⟨w.heap.size, 1, none⟩ c1).setCell ⟨w.heap.size, 2, none⟩ c2).setCell ⟨w.heap.size, 3, none⟩ c3).setCell ⟨w.heap.size, 4, none⟩ c4) := by
  refine ⟨nv, kv, rfl, hp.chg (chg5 (F := fun k => k = w.heap.size) (Chg.refl _ W) (fun _ => rfl) _ _ _ _ _) (fun e => by omega), ?_, chg5 hc (fun e => absurd e (Nat.lt_irrefl _)) _ _ _ _ _⟩
  refine NdIn.keep (keep_offs (F := fun k => k < w.heap.size ∨ k = w.heap.size) (chg5 (Chg.refl _ W) (fun _ => .inr rfl) _ _ _ _ _) (fun q _ h1 h2 => h1 (.inl h2))) _ _ _ hin
abbrev BrOk (b : Nat) (v : Value) (fin : Nat) (L : List Lx.Tok) (deep : Nat) (br : Nat → Nat → PRes Nd) : Prop := ∀ (i n : Nat) (w : World), Psr b v i fin n w → Amb b v L w → n ≤ 4000 →
  Calls Tryz.prog 75 #[.pointer (some ⟨b, 0, none⟩), .int .i64 deep] w (NodeEnds b v fin w (br i n))
abbrev ValOk (b : Nat) (v : Value) (fin : Nat) (L : List Lx.Tok) (deep : Nat) (val : Nat → Nat → PRes Nd) : Prop := ∀ (i n : Nat) (w : World), Psr b v i fin n w → Amb b v L w → n ≤ 4000 →
  Calls Tryz.prog 49 #[.pointer (some ⟨b, 0, none⟩), .int .i64 deep] w (NodeEnds b v fin w (val i n))
set_option maxRecDepth 100000 in
set_option maxHeartbeats 4000000 in
theorem value_calls {b fin : Nat} {v : Value} {L : List Lx.Tok} (hf : TokFine L) (deep : Nat) (hd : deep ≤ 1000) (br : Nat → Nat → PRes Nd) (hbr : deep ≤ 60 → BrOk b v fin L deep br) : ValOk b v fin L deep (valueP L fin br (decide (deep ≤ 60))) := by
  intro i n w hp ha hn
  obtain ⟨okk, hok⟩ : ∃ okk, decide (deep ≤ 60) = okk := ⟨_, rfl⟩
  rw [hok]
  have HOK := Lib.hid hok
  clear hok
  have HB := Lib.hid hp.lt
  obtain ⟨w1, hw1⟩ : ∃ w1, w.alloc zNd = w1 := ⟨_, rfl⟩
  have hC1 : Chg (fun _ => False) w w1 := by rw [← hw1]; exact (Chg.refl _ w).alloc _
  have hz1 : w1.heap[w.heap.size]? = some zNd := by rw [← hw1]; exact blk_new w _
  have hs1 : w.heap.size < w1.heap.size := lt_of_block hz1
  have hp1 := hp.chg hC1 (fun e => e)
  have ha1 := ha.later (chgb hC1)
  have HC1 := Lib.hid hC1
  cases hi : L[i]? with
  | none =>
    have H := Lib.hid (peek_err hp1 ha1.tok hi)
    have hr : valueP L fin br okk i n = .error (fin, 11) := by unfold valueP; rw [hi]
    rw [hr]
    unfold NodeEnds
    unfold zNd at hw1
    clear hp ha hi hr hp1 ha1 hC1 hz1 hs1 hbr
    go_enter Tryz.func49, Tryz.ntmps49
    go_wp2_with fail
    refine H.out.mono ?_
    rintro e' w2 ⟨rfl, hC⟩
    go_wp2_with fail
    exact ⟨rfl, rfl, chgb (HC1.out.trans hC)⟩
  | some t =>
    have H := Lib.hid (peek_ok hp1 ha1.tok hi)
    have hft := hf.2 t (List.mem_of_getElem? hi)
    have hilt := (List.getElem?_eq_some_iff.1 hi).1
    have hlen := hf.1
    have HFT := Lib.hid hft
    have HP1 := Lib.hid hp1
    have HA1 := Lib.hid ha1
    have HZ1 := Lib.hid hz1
    have HS1 := Lib.hid hs1
    have HBR := Lib.hid hbr
    have hw12 : wrongP L fin i 12 = (t.at_, 12) := by unfold wrongP; rw [hi]
    have hw13 : wrongP L fin i 13 = (t.at_, 13) := by unfold wrongP; rw [hi]
    have HW12 := Lib.hid hw12
    have HW13 := Lib.hid hw13
    have hr : valueP L fin br okk i n = if t.kind = 2 then .error (t.at_, 12) else if 4000 < n + 1 ∨ okk = false then .error (t.at_, 13) else if t.kind = 1 then br (i + 1) (n + 1) else .ok (leafP t, i + 1, n + 1) := by unfold valueP; rw [hi]
    have HLF : Hid (leafP t = if t.kind = 4 then .mk 1 t.n ⟨#[]⟩ [] [] else if t.kind = 5 then .mk 3 0 (ba t.s) [] [] else if ba t.s = sTrue then .mk 2 1 ⟨#[]⟩ [] [] else if ba t.s = sFalse then .mk 2 0 ⟨#[]⟩ [] [] else if ba t.s = sUnit then .mk 4 0 ⟨#[]⟩ [] [] else .mk 5 0 (ba t.s) [] []) := Lib.hid rfl
    obtain ⟨s, hs⟩ : ∃ s, ba t.s = s := ⟨_, rfl⟩
    obtain ⟨kd, hkd⟩ : ∃ kd, t.kind = kd := ⟨_, rfl⟩
    unfold tokV at H
    rw [hs, hkd] at H HLF
    rw [hkd] at hr
    have HR := Lib.hid hr
    obtain ⟨z, hz⟩ : ∃ z : Int, (kd : Int) = z := ⟨_, rfl⟩
    rw [hz] at H
    have HZ := Lib.hid hz
    unfold zNd at hw1 HZ1
    clear hp ha hi hr hp1 ha1 hC1 hz1 hs1 hbr hft hw12 hw13 hs hkd hz
    go_enter Tryz.func49, Tryz.ntmps49
    go_wp2_with fail
    refine H.out.mono ?_
    rintro e' w2 ⟨rfl, hC2⟩
    obtain ⟨w3, hw3⟩ : ∃ w3, w2.alloc (.cells #[.int .u8 z, .string s, .int .i64 t.n, .int .i64 t.at_] 104) = w3 := ⟨_, rfl⟩
    have hC3 : Chg (fun _ => False) w2 w3 := by rw [← hw3]; exact (Chg.refl _ w2).alloc _
    have hb3 : w3.heap[w2.heap.size]? = some (.cells #[.int .u8 z, .string s, .int .i64 t.n, .int .i64 t.at_] 104) := by rw [← hw3]; exact blk_new w2 _
    have HC13 := Lib.hid (hC2.trans hC3)
    have hp3 := HP1.out.chg HC13.out (fun e => e)
    have ha3 := HA1.out.later (chgb HC13.out)
    have HP3 := Lib.hid hp3
    have HA3 := Lib.hid ha3
    have hs2 := hC2.size
    have hneb : ¬ w2.heap.size = b := by have := HB.out; have := HS1.out; omega
    have HNEB := Lib.hid hneb
    have HB3 := Lib.hid hb3
    have g0 := cell_of hb3 0
    have g1 := cell_of hb3 1
    have g2 := cell_of hb3 2
    have g3 := cell_of hb3 3
    clear H hC2 hC3
    by_cases k2 : kd = 2
    case pos =>
      obtain rfl : z = 2 := by rw [← HZ.out, k2]; rfl
      have HRV : Hid (valueP L fin br okk i n = .error (t.at_, 12)) := Lib.hid (by rw [HR.out, if_pos k2])
      have HW := Lib.hid (wrong_calls hp3 ha3.tok 12)
      rw [HW12.out] at HW
      clear hb3 hp3 ha3 hneb k2 hs2
      go_wp2_with fail
      refine HW.out.mono ?_
      rintro e' w5 ⟨rfl, hC5⟩
      go_wp2_with fail
      rw [HRV.out]
      exact ⟨rfl, rfl, chgb ((HC1.out.trans HC13.out).trans hC5)⟩
    have HR2 := Lib.hid HR.out
    rw [if_neg k2] at HR2
    have z2 : ¬ z = 2 := by have := HZ.out; omega
    have HCT := Lib.hid (count_calls hp3 ha3.tok deep hd (by omega))
    rw [HW13.out] at HCT
    clear hb3 hp3 ha3 hneb hs2
    by_cases hq : 4000 < n + 1 ∨ okk = false
    · have HRV : Hid (valueP L fin br okk i n = .error (t.at_, 13)) := Lib.hid (by rw [HR2.out, if_pos hq])
      have hq2 : 4000 < n + 1 ∨ 60 < deep := by
        rcases hq with h | h
        · exact .inl h
        · exact .inr (by rw [← HOK.out] at h; have := of_decide_eq_false h; omega)
      simp only [if_pos hq2] at HCT
      clear k2 hq hq2
      go_wp2_with fail
      refine HCT.out.mono ?_
      rintro e' w5 ⟨rfl, hC5⟩
      go_wp2_with fail
      rw [HRV.out]
      exact ⟨rfl, rfl, (chgb (HC1.out.trans HC13.out)).trans hC5⟩
    have HR3 := Lib.hid HR2.out
    rw [if_neg hq] at HR3
    have hq3 : n + 1 ≤ 4000 ∧ deep ≤ 60 := by
      constructor
      · omega
      · have h : ¬ okk = false := fun h => hq (.inr h)
        rw [← HOK.out] at h
        simpa using h
    simp only [if_neg (show ¬ (4000 < n + 1 ∨ 60 < deep) by omega)] at HCT
    clear hq
    go_wp2_with fail
    refine HCT.out.mono ?_
    rintro e' w4 ⟨rfl, hp4, hC4⟩
    obtain ⟨w5, hw5⟩ : ∃ w5, w4.setCell ⟨b, 1, none⟩ (.int .i64 ((i : Int) + 1)) = w5 := ⟨_, rfl⟩
    have hC45 : Chg (fun k => k = b) w4 w5 := by rw [← hw5]; exact (Chg.refl (fun k => k = b) w4).set (p := ⟨b, 1, none⟩) (fun _ => rfl) _
    have hp5 : Psr b v (i + 1) fin (n + 1) w5 := by rw [← hw5]; exact hp4.at_
    have c1 := cell_of hp4 1
    have f1 := free_of hp4 1
    have hC35 := hC4.trans hC45
    have hb5 := hC35.blk HB3.out HNEB.out
    have hzz : w5.heap[w.heap.size]? = some (.cells #[.int .u8 0, .int .i64 0, .string ⟨#[]⟩, .slice none 0 0, .slice none 0 0] 25) := hC35.blk (HC13.out.blk HZ1.out (fun e => e)) (fun e => by have := HB.out; omega)
    have HP5 := Lib.hid hp5
    have HC5 := Lib.hid ((chgb (HC1.out.trans HC13.out)).trans hC35)
    have HZ5 := Lib.hid hzz
    have HA5 := Lib.hid (HA3.out.later hC35)
    have g0 := cell_of hb5 0
    have g1 := cell_of hb5 1
    have g2 := cell_of hb5 2
    have g3 := cell_of hb5 3
    have y0 := cell_of hzz 0
    have y1 := cell_of hzz 1
    have y2 := cell_of hzz 2
    have y3 := cell_of hzz 3
    have y4 := cell_of hzz 4
    have r0 := free_of hzz 0
    have r1 := free_of hzz 1
    have r2 := free_of hzz 2
    have r3 := free_of hzz 3
    have r4 := free_of hzz 4
    have hib : (i : Int) ≤ 1048576 := by omega
    clear HCT hp4 hC4 hC45 hp5 hC35 hb5 hzz
    by_cases k4 : kd = 4
    case pos =>
      obtain rfl : z = 4 := by rw [← HZ.out, k4]; rfl
      have HRV : Hid (valueP L fin br okk i n = .ok (.mk 1 t.n ⟨#[]⟩ [] [], i + 1, n + 1)) := Lib.hid (by rw [HR3.out, if_neg (by omega), HLF.out, if_pos k4])
      clear k2 k4 z2
      go_wp2_with fail
      refine bodyPost_ret (results_cell_row rfl _ _ w.heap.size 25 #[.int .u8 1, .int .i64 t.n, .string ⟨#[]⟩, .slice none 0 0, .slice none 0 0] (0, 0) _ rfl (end5 (W := w5) HZ5.out _ _ _ _ _) Tryz.underlying25 rfl (by kernel_rfl)) rfl ?_
      rw [HRV.out]
      exact put_ends (x := .mk 1 t.n ⟨#[]⟩ [] []) HP5.out HC5.out HB.out (leaf0 _ 1 _ _ (by decide) HFT.out.1)
    have z4 : ¬ z = 4 := by have := HZ.out; omega
    by_cases k5 : kd = 5
    case pos =>
      obtain rfl : z = 5 := by rw [← HZ.out, k5]; rfl
      have HRV : Hid (valueP L fin br okk i n = .ok (.mk 3 0 s [] [], i + 1, n + 1)) := Lib.hid (by rw [HR3.out, if_neg (by omega), HLF.out, if_neg k4, if_pos k5])
      clear k2 k4 k5 z2 z4
      go_wp2_with fail
      refine bodyPost_ret (results_cell_row rfl _ _ w.heap.size 25 #[.int .u8 3, .int .i64 0, .string s, .slice none 0 0, .slice none 0 0] (0, 0) _ rfl (end5 (W := w5) HZ5.out _ _ _ _ _) Tryz.underlying25 rfl (by kernel_rfl)) rfl ?_
      rw [HRV.out]
      exact put_ends (x := .mk 3 0 s [] []) HP5.out HC5.out HB.out (leaf0 _ 3 _ _ (by decide) (by decide))
    have z5 : ¬ z = 5 := by have := HZ.out; omega
    by_cases k1 : kd = 1
    case pos =>
      obtain rfl : z = 1 := by rw [← HZ.out, k1]; rfl
      have HRV : Hid (valueP L fin br okk i n = br (i + 1) (n + 1)) := Lib.hid (by rw [HR3.out, if_pos k1])
      have HBW := Lib.hid (HBR.out hq3.2 (i + 1) (n + 1) w5 HP5.out HA5.out hq3.1)
      clear k2 k4 k5 k1 z2 z4 z5
      go_wp2_with fail
      cases hres : br (i + 1) (n + 1) with
      | error pq =>
        obtain ⟨p, q⟩ := pq
        rw [hres] at HBW HRV
        refine HBW.out.mono ?_
        rintro e' w6 ⟨rfl, hC6⟩
        go_wp2_with fail
        rw [HRV.out]
        exact ⟨rfl, rfl, HC5.out.trans hC6⟩
      | ok xr =>
        obtain ⟨x, i', n'⟩ := xr
        rw [hres] at HBW HRV
        refine HBW.out.mono ?_
        rintro e' w6 ⟨nv, kv, rfl, hp6, hin6, hC6⟩
        have hneR : ¬ w.heap.size = b := by have := HB.out; omega
        have hz6 := hC6.blk HZ5.out hneR
        have y0 := cell_of hz6 0
        have y1 := cell_of hz6 1
        have y2 := cell_of hz6 2
        have y3 := cell_of hz6 3
        have y4 := cell_of hz6 4
        have r0 := free_of hz6 0
        have r1 := free_of hz6 1
        have r2 := free_of hz6 2
        have r3 := free_of hz6 3
        have r4 := free_of hz6 4
        have HP6 := Lib.hid hp6
        have HIN6 := Lib.hid hin6
        have HC6 := Lib.hid (HC5.out.trans hC6)
        have HZ6 := Lib.hid hz6
        have HLT := Lib.hid (lt_of_block HZ5.out)
        obtain ⟨an, cn, ak, ck, rfl, rfl, _⟩ := hin6.forms
        unfold ndV
        clear hp6 hin6 hC6 hz6 hneR g0 g1 g2 g3 HBW hres
        go_wp2_with fail
        refine bodyPost_ret (results_cell_row rfl _ _ w.heap.size 25 #[.int .u8 x.kind, .int .i64 x.n, .string x.text, .slice an x.names.length cn, .slice ak x.kids.length ck] (0, 0) _ rfl (end5 (W := w6) HZ6.out _ _ _ _ _) Tryz.underlying25 rfl (by kernel_rfl)) rfl ?_
        rw [HRV.out]
        exact put_ends (x := x) HP6.out HC6.out HB.out (HIN6.out.keep (keep_offs (F := fun k => k < w5.heap.size) (Chg.refl _ w6) (fun q _ h1 h2 => by
          have h1' : ¬ q < w5.heap.size := h1
          have := HLT.out
          rcases h2 with h2 | h2 <;> omega)) _ _ _)
    have z1 : ¬ z = 1 := by have := HZ.out; omega
    have HR4 := Lib.hid HR3.out
    rw [if_neg k1, HLF.out, if_neg k4, if_neg k5] at HR4
    clear k1 k2 k4 k5
    by_cases e1 : s = sTrue
    case pos =>
      have HRV : Hid (valueP L fin br okk i n = .ok (.mk 2 1 ⟨#[]⟩ [] [], i + 1, n + 1)) := Lib.hid (by rw [HR4.out, if_pos e1])
      have e' : s = ⟨#[116, 114, 117, 101]⟩ := e1
      subst e'
      clear e1 HR HR2 HR3 HR4 HLF
      go_wp2_with fail
      refine bodyPost_ret (results_cell_row rfl _ _ w.heap.size 25 #[.int .u8 2, .int .i64 1, .string ⟨#[]⟩, .slice none 0 0, .slice none 0 0] (0, 0) _ rfl (end5 (W := w5) HZ5.out _ _ _ _ _) Tryz.underlying25 rfl (by kernel_rfl)) rfl ?_
      rw [HRV.out]
      exact put_ends (x := .mk 2 1 ⟨#[]⟩ [] []) HP5.out HC5.out HB.out (leaf0 _ 2 _ _ (by decide) (by decide))
    have e1b : (s.toList == [116, 114, 117, 101]) = false := str_no e1
    by_cases e2 : s = sFalse
    case pos =>
      have HRV : Hid (valueP L fin br okk i n = .ok (.mk 2 0 ⟨#[]⟩ [] [], i + 1, n + 1)) := Lib.hid (by rw [HR4.out, if_neg e1, if_pos e2])
      have e' : s = ⟨#[102, 97, 108, 115, 101]⟩ := e2
      subst e'
      clear e1 e2 HR HR2 HR3 HR4 HLF
      go_wp2_with fail
      refine bodyPost_ret (results_cell_row rfl _ _ w.heap.size 25 #[.int .u8 2, .int .i64 0, .string ⟨#[]⟩, .slice none 0 0, .slice none 0 0] (0, 0) _ rfl (end5 (W := w5) HZ5.out _ _ _ _ _) Tryz.underlying25 rfl (by kernel_rfl)) rfl ?_
      rw [HRV.out]
      exact put_ends (x := .mk 2 0 ⟨#[]⟩ [] []) HP5.out HC5.out HB.out (leaf0 _ 2 _ _ (by decide) (by decide))
    have e2b : (s.toList == [102, 97, 108, 115, 101]) = false := str_no e2
    by_cases e3 : s = sUnit
    case pos =>
      have HRV : Hid (valueP L fin br okk i n = .ok (.mk 4 0 ⟨#[]⟩ [] [], i + 1, n + 1)) := Lib.hid (by rw [HR4.out, if_neg e1, if_neg e2, if_pos e3])
      have e' : s = ⟨#[117, 110, 105, 116]⟩ := e3
      subst e'
      clear e1 e2 e3 HR HR2 HR3 HR4 HLF
      go_wp2_with fail
      refine bodyPost_ret (results_cell_row rfl _ _ w.heap.size 25 #[.int .u8 4, .int .i64 0, .string ⟨#[]⟩, .slice none 0 0, .slice none 0 0] (0, 0) _ rfl (end5 (W := w5) HZ5.out _ _ _ _ _) Tryz.underlying25 rfl (by kernel_rfl)) rfl ?_
      rw [HRV.out]
      exact put_ends (x := .mk 4 0 ⟨#[]⟩ [] []) HP5.out HC5.out HB.out (leaf0 _ 4 _ _ (by decide) (by decide))
    have e3b : (s.toList == [117, 110, 105, 116]) = false := str_no e3
    have HRV : Hid (valueP L fin br okk i n = .ok (.mk 5 0 s [] [], i + 1, n + 1)) := Lib.hid (by rw [HR4.out, if_neg e1, if_neg e2, if_neg e3])
    clear e1 e2 e3
    go_wp2_with fail
    refine bodyPost_ret (results_cell_row rfl _ _ w.heap.size 25 #[.int .u8 5, .int .i64 0, .string s, .slice none 0 0, .slice none 0 0] (0, 0) _ rfl (end5 (W := w5) HZ5.out _ _ _ _ _) Tryz.underlying25 rfl (by kernel_rfl)) rfl ?_
    rw [HRV.out]
    exact put_ends (x := .mk 5 0 s [] []) HP5.out HC5.out HB.out (leaf0 _ 5 _ _ (by decide) (by decide))
end Go.Proofs.YtaklmocjaokkpaaGreatDoor.Tr
namespace Go.Proofs.YtaklmocjaokkpaaGreatDoor.Tr
set_option linter.unusedVariables false
set_option linter.unusedSimpArgs false
open Go.RowKit Go.Shelf Go.Proofs.YtaklmocjaokkpaaGreatDoor.Mem

theorem infoSP : (Tryz.prog.info? 9).map (fun i => (i.zero, i.size, i.bytes)) = some (some (.string ⟨#[]⟩), 1, 16) := by kernel_rfl
theorem twSP : Tryz.prog.underlying 22 = some (.slice 9) := Tryz.underlying22
theorem new_atSP (w : World) (o : Obj) (B : Nat) (h : w.heap.size = B) : (w.alloc o).heap[B]? = some o := by
  subst h
  exact blk_new w o
theorem cell_alSP {w : World} {b i : Nat} {u : Value} (o : Obj) (h : w.cell? ⟨b, i, none⟩ = some u) : (w.alloc o).cell? ⟨b, i, none⟩ = some u := ((Chg.refl (fun _ => False) w).alloc o).cell h (fun e => e)
theorem news_oneP {w : World} {b : Nat} {s : ByteArray} (h : w.heap[b]? = some (.cells #[.string s] 9 (0, 0))) : ∀ j u, [Value.string s][j]? = some u → w.cell? ((⟨b, 0, none⟩ : Addr).add j) = some u := by
  intro j u hu
  cases j with
  | zero =>
    obtain rfl : Value.string s = u := by simpa using hu
    exact cell_of h 0
  | succ j => simp at hu
def ndC5 (p : Nd × Value × Value) : List Value := [.int .u8 p.1.kind, .int .i64 p.1.n, .string p.1.text, p.2.1, p.2.2]
theorem flat5 : ∀ (ps : List (Nd × Value × Value)) (j i : Nat) (p : Nd × Value × Value), ps[j]? = some p → i < 5 → (ps.flatMap ndC5)[j * 5 + i]? = (ndC5 p)[i]?
  | [], j, i, p, h, hi => by simp at h
  | q :: ps, 0, i, p, h, hi => by
    obtain rfl : q = p := by simpa using h
    rw [List.flatMap_cons, Nat.zero_mul, Nat.zero_add, List.getElem?_append_left (by simpa [ndC5] using hi)]
  | q :: ps, j + 1, i, p, h, hi => by
    rw [List.flatMap_cons, List.getElem?_append_right (by simp [ndC5]; omega)]
    have := flat5 ps j i p (by simpa using h) hi
    rw [← this]
    congr 1
    simp [ndC5]
    omega
theorem flat5_len (ps : List (Nd × Value × Value)) : (ps.flatMap ndC5).length = ps.length * 5 := by
  induction ps with
  | nil => rfl
  | cons p ps ih => rw [List.flatMap_cons, List.length_append, ih, List.length_cons]; simp [ndC5]; omega
/-- A row of nodes in new memory: those of them, and all that they hold, lie behind B. -/
structure NRow (w : World) (B : Nat) (v : Value) (ks : List Nd) : Prop where
  ex : ∃ ps : List (Nd × Value × Value), ps.map (fun p => p.1) = ks ∧ RowAt w 25 5 v ps.length (ps.flatMap ndC5) ∧ ∀ p ∈ ps, NdIn (off (fun k => k < B ∨ v.ownBlock = some k) w) p.2.1 p.2.2 p.1
  new : ∀ k, v.ownBlock = some k → B ≤ k
theorem NRow.nil (w : World) (B : Nat) : NRow w B (.slice none 0 0) [] := ⟨⟨[], rfl, RowAt.nil _ _ _, fun p h => by cases h⟩, fun k h => by cases h⟩
theorem NRow.form {w : World} {B : Nat} {v : Value} {ks : List Nd} (h : NRow w B v ks) : ∃ ad cap, v = .slice ad ks.length cap ∧ ks.length ≤ cap ∧ cap ≤ maxLen := by
  obtain ⟨ps, h1, h2, _⟩ := h.ex
  have hl : ps.length = ks.length := by rw [← h1, List.length_map]
  obtain ⟨ad, cap, e, h3, h4⟩ := h2.form
  exact ⟨ad, cap, by rw [← hl]; exact e, by omega, h4⟩
theorem NRow.later {F : Nat → Prop} {w w' : World} {B : Nat} {v : Value} {ks : List Nd} (h : NRow w B v ks) (hc : Chg F w w') (hF : ∀ k, F k → k < B) : NRow w' B v ks := by
  obtain ⟨ps, h1, h2, h3⟩ := h.ex
  refine ⟨⟨ps, h1, h2.kept hc (fun k hk e => by have := hF k e; have := h.new k hk; omega), fun p hp => NdIn.keep (keep_offs (hc.mono (fun k _ e => .inl (hF k e))) (fun _ _ h => h)) _ _ _ (h3 p hp)⟩, h.new⟩
theorem NRow.snoc {w w' : World} {B H : Nat} {v v' : Value} {ks : List Nd} {x : Nd} {nv kv : Value} (h : NRow w B v ks) (hx : NdIn (off (fun k => k < B ∨ v.ownBlock = some k) w) nv kv x) {xs : List Value} {n : Nat} (hn : ks.length = n)
    (hxs : ∀ ps : List (Nd × Value × Value), ps.map (fun p => p.1) = ks → RowAt w 25 5 v ps.length (ps.flatMap ndC5) → xs = ps.flatMap ndC5)
    (hr : RowAt w' 25 5 v' (n + 1) (xs ++ [.int .u8 x.kind, .int .i64 x.n, .string x.text, nv, kv])) (hc : Chg (fun k => v.ownBlock = some k) w w') (ho : ∀ g, v'.ownBlock = some g → v.ownBlock = some g ∨ g = H) (hH : w.heap.size ≤ H) (hB : B ≤ w.heap.size) : NRow w' B v' (ks ++ [x]) := by
  obtain ⟨ps, h1, h2, h3⟩ := h.ex
  have hl : ps.length = n := by rw [← hn, ← h1, List.length_map]
  have hk : Keep (off (fun k => k < B ∨ v.ownBlock = some k) w) (off (fun k => k < B ∨ v'.ownBlock = some k) w') := keep_offs (hc.mono (fun k _ e => .inr e)) (fun q hq h1 h2 => by
    rcases h2 with h2 | h2
    · exact h1 (.inl h2)
    · rcases ho q h2 with e | e
      · exact h1 (.inr e)
      · omega)
  refine ⟨⟨ps ++ [(x, nv, kv)], by simp [h1], ?_, fun p hp => ?_⟩, fun k hk => ?_⟩
  · rw [List.length_append, List.flatMap_append, hl, ← hxs ps h1 h2]
    exact hr
  · rcases List.mem_append.1 hp with hp | hp
    · exact NdIn.keep hk _ _ _ (h3 p hp)
    · obtain rfl : p = (x, nv, kv) := by simpa using hp
      exact NdIn.keep hk _ _ _ hx
  · rcases ho k hk with e | e
    · exact h.new k e
    · omega
/-- .. a whole row, whose nodes are newer. -/
theorem NRow.append {w w' : World} {B B2 H : Nat} {v v' v2 : Value} {ks ls : List Nd} (h : NRow w B v ks) (h2 : NRow w B2 v2 ls) (hBB : B ≤ B2) (hv : ∀ k, v.ownBlock = some k → k < B2)
    (hr : ∀ ps qs : List (Nd × Value × Value), ps.map (fun p => p.1) = ks → qs.map (fun p => p.1) = ls → RowAt w 25 5 v ps.length (ps.flatMap ndC5) → RowAt w 25 5 v2 qs.length (qs.flatMap ndC5) → RowAt w' 25 5 v' (ps.length + qs.length) (ps.flatMap ndC5 ++ qs.flatMap ndC5))
    (hc : Chg (fun k => v.ownBlock = some k) w w') (ho : ∀ g, v'.ownBlock = some g → v.ownBlock = some g ∨ g = H) (hH : w.heap.size ≤ H) (hB : B2 ≤ w.heap.size) : NRow w' B v' (ks ++ ls) := by
  obtain ⟨ps, p1, p2, p3⟩ := h.ex
  obtain ⟨qs, q1, q2, q3⟩ := h2.ex
  refine ⟨⟨ps ++ qs, by simp [p1, q1], ?_, fun p hp => ?_⟩, fun k hk => ?_⟩
  · rw [List.length_append, List.flatMap_append]
    exact hr ps qs p1 q1 p2 q2
  · rcases List.mem_append.1 hp with hp | hp
    · refine NdIn.keep (keep_offs (hc.mono (fun k _ e => .inr e)) (fun q hq h1 h2 => ?_)) _ _ _ (p3 p hp)
      rcases h2 with h2 | h2
      · exact h1 (.inl h2)
      · rcases ho q h2 with e | e
        · exact h1 (.inr e)
        · omega
    · refine NdIn.keep (keep_offs (F := fun k => k < B2 ∨ v2.ownBlock = some k) (hc.mono (fun k _ e => .inl (hv k e))) (fun q hq h1 h2 => ?_)) _ _ _ (q3 p hp)
      have h1' : ¬ q < B2 := fun e => h1 (.inl e)
      rcases h2 with h2 | h2
      · omega
      · rcases ho q h2 with e | e
        · exact h1' (hv q e)
        · omega
  · rcases ho k hk with e | e
    · exact h.new k e
    · omega
/-- It is a node's parts. -/
theorem NRow.kids {w : World} {B : Nat} {v : Value} {ks : List Nd} (h : NRow w B v ks) : ∃ ad cap, v = .slice ad ks.length cap ∧ ks.length ≤ cap ∧ cap ≤ maxLen ∧ KidsIn (off (fun k => k < B) w) ad 0 ks := by
  obtain ⟨ad, cap, rfl, h2, h3⟩ := h.form
  refine ⟨ad, cap, rfl, h2, h3, KidsIn.of _ _ fun j x hx => ?_⟩
  obtain ⟨ps, p1, p2, p3⟩ := h.ex
  have hl : ps.length = ks.length := by rw [← p1, List.length_map]
  have hj := (List.getElem?_eq_some_iff.1 hx).1
  obtain ⟨p, hp⟩ : ∃ p, ps[j]? = some p := ⟨_, List.getElem?_eq_getElem (by omega)⟩
  have hpx : p.1 = x := by
    rw [← p1, List.getElem?_map, hp] at hx
    exact Option.some.inj hx
  rw [hl] at p2
  obtain ⟨g, o, cap', e, _⟩ := p2.formS (by omega)
  simp only [Value.slice.injEq] at e
  obtain ⟨rfl, _, rfl⟩ := e
  have hg : ¬ g < B := fun e => by have := h.new g rfl; omega
  have hglt : g < w.heap.size := p2.lt g rfl
  have hcell : ∀ i, i < 5 → (off (fun k => k < B) w).cell? ⟨g, o + (0 + j) * 5 + i, none⟩ = (ndC5 p)[i]? := fun i hi => by
    rw [off_out (fun k => k < B) _ _ _ hg, Nat.zero_add, Nat.add_assoc, p2.cell (j * 5 + i) (by omega)]
    exact flat5 ps j i p hp hi
  refine ⟨g, o, p.2.1, p.2.2, rfl, by rw [off_size]; exact hglt, ?_, ?_, ?_, ?_, ?_, ?_⟩
  · rw [← hpx]; exact hcell 0 (by decide)
  · rw [← hpx]; exact hcell 1 (by decide)
  · rw [← hpx]; exact hcell 2 (by decide)
  · exact hcell 3 (by decide)
  · exact hcell 4 (by decide)
  · rw [← hpx]
    exact NdIn.keep (keep_offs (F := fun k => k < B ∨ (Value.slice (some ⟨g, o, none⟩) ks.length cap).ownBlock = some k) (Chg.refl _ w) (fun q _ h1 h2 => h1 (.inl h2))) _ _ _ (p3 p (List.mem_of_getElem? hp))
/-- A row of texts in new memory. -/
structure SRow (w : World) (B : Nat) (v : Value) (ns : List ByteArray) : Prop where
  row : RowAt w 9 1 v ns.length (ns.map Value.string)
  new : ∀ k, v.ownBlock = some k → B ≤ k
theorem SRow.nil (w : World) (B : Nat) : SRow w B (.slice none 0 0) [] := ⟨RowAt.nil _ _ _, fun k h => by cases h⟩
theorem SRow.later {F : Nat → Prop} {w w' : World} {B : Nat} {v : Value} {ns : List ByteArray} (h : SRow w B v ns) (hc : Chg F w w') (hF : ∀ k, F k → k < B) : SRow w' B v ns :=
  ⟨h.row.kept hc (fun k hk e => by have := hF k e; have := h.new k hk; omega), h.new⟩
theorem SRow.names {w : World} {B : Nat} {v : Value} {ns : List ByteArray} (h : SRow w B v ns) : StrsIn (off (fun k => k < B) w) v ns := by
  obtain ⟨ad, cap, e, h1, h2⟩ := h.row.form
  refine ⟨ad, cap, e, h1, h2, fun i s hi => ?_⟩
  have hl := (List.getElem?_eq_some_iff.1 hi).1
  obtain ⟨g, o, cap', e2, _⟩ := h.row.formS (by omega)
  have hg : ¬ g < B := fun e3 => by have := h.new g (by rw [e2]; rfl); omega
  rw [e] at e2
  simp only [Value.slice.injEq] at e2
  obtain ⟨rfl, _, rfl⟩ := e2
  subst e
  refine ⟨g, o, rfl, by rw [off_size]; exact h.row.lt g rfl, ?_⟩
  rw [off_out (fun k => k < B) _ _ _ hg, h.row.cell i (by omega), List.getElem?_map, hi]
  rfl
theorem SRow.snoc {w w' : World} {B H : Nat} {v v' : Value} {ns : List ByteArray} {s : ByteArray} {n : Nat} (h : SRow w B v ns) (hn : ns.length = n) (hr : RowAt w' 9 1 v' (n + 1) (ns.map Value.string ++ [.string s])) (ho : ∀ g, v'.ownBlock = some g → v.ownBlock = some g ∨ g = H) (hH : B ≤ H) : SRow w' B v' (ns ++ [s]) :=
  ⟨by rw [List.map_append, List.length_append, hn]; exact hr, fun k hk => by
    rcases ho k hk with e | e
    · exact h.new k e
    · omega⟩
end Go.Proofs.YtaklmocjaokkpaaGreatDoor.Tr
namespace Go.Proofs.YtaklmocjaokkpaaGreatDoor.Tr
set_option linter.unusedVariables false
set_option linter.unusedSimpArgs false
open Go.RowKit Go.Shelf Go.Proofs.YtaklmocjaokkpaaGreatDoor.Mem

/-- How a method that takes nodes ends. -/
def KidsEnds (b : Nat) (v : Value) (fin : Nat) (w : World) (r : PRes (List Nd)) (e : Ending) (w' : World) : Prop :=
  match r with
  | .ok (ks, i, n) => ∃ kv, e = .returned kv ∧ Psr b v i fin n w' ∧ NRow w' w.heap.size kv ks ∧ Chg (· = b) w w'
  | .error (p, q) => e = .panicked (pfault p q) ∧ Chg (· = b) w w'
theorem infoN : (Tryz.prog.info? 25).map (fun i => (i.zero, i.size, i.bytes)) = some (some (.agg #[.int .u8 0, .int .i64 0, .string ⟨#[]⟩, .slice none 0 0, .slice none 0 0]), 5, 80) := by kernel_rfl
theorem twN : Tryz.prog.underlying 23 = some (.slice 25) := Tryz.underlying23
theorem NRow.lt {w : World} {B : Nat} {v : Value} {ks : List Nd} (h : NRow w B v ks) : ∀ k, v.ownBlock = some k → k < w.heap.size := by
  obtain ⟨ps, _, h2, _⟩ := h.ex
  exact h2.lt
/-- Nodes are counted up, to 4000 at most. -/
def Counts (val : Nat → Nat → PRes Nd) : Prop := ∀ i n x i' n', val i n = .ok (x, i', n') → n ≤ 4000 → n < n' ∧ n' ≤ 4000
theorem parts_true {L : List Lx.Tok} {fin : Nat} {val : Nat → Nat → PRes Nd} {many : Int} {k i n : Nat} {ks : List Nd} (hm : moreP L fin many ks.length i = .ok true) : partsP L fin val many (k + 1) ks i n = match val i n with | .error e => .error e | .ok (x, i', n') => partsP L fin val many k (ks ++ [x]) i' n' := by
  rw [partsP, hm]
  rfl
theorem parts_false {L : List Lx.Tok} {fin : Nat} {val : Nat → Nat → PRes Nd} {many : Int} {k i n : Nat} {ks : List Nd} (hm : moreP L fin many ks.length i = .ok false) : partsP L fin val many (k + 1) ks i n = .ok (ks, i, n) := by
  rw [partsP, hm]
theorem parts_error {L : List Lx.Tok} {fin : Nat} {val : Nat → Nat → PRes Nd} {many : Int} {k i n : Nat} {ks : List Nd} {e : Nat × Nat} (hm : moreP L fin many ks.length i = .error e) : partsP L fin val many (k + 1) ks i n = .error e := by
  rw [partsP, hm]
/-- One node put behind the row. -/
theorem row_more {b v0 : Nat} {w wr w2 w3 : World} {v : Value} {ks : List Nd} {x : Nd} {nv kv : Value} {ad : Option Addr} {ln cap : Nat} {gg o2 cap2 : Nat} {ps : List (Nd × Value × Value)} (hb : b < w.heap.size) (hl : ks.length = ln) (hr : NRow wr w.heap.size (.slice ad ln cap) ks) (hC2 : Chg (· = b) wr w2) (hwr : w.heap.size ≤ wr.heap.size)
    (hin : NdIn (off (fun k => k < wr.heap.size) w2) nv kv x) (hps : ps.map (fun p => p.1) = ks) (hrow : RowAt w2 25 5 (.slice ad ln cap) ln (ps.flatMap ndC5))
    (hrow3 : RowAt w3 25 5 (.slice (some ⟨gg, o2, none⟩) (ln + 1) cap2) (ln + 1) (ps.flatMap ndC5 ++ [.int .u8 x.kind, .int .i64 x.n, .string x.text, nv, kv]))
    (hg : (w2.alloc (.cells #[.int .u8 x.kind, .int .i64 x.n, .string x.text, nv, kv] 25)).grownBy w3 (Value.slice ad ln cap).ownBlock)
    (hat : (Value.slice ad ln cap).ownBlock = some gg ∨ gg = w2.heap.size + 1) (hC : Chg (· = b) w wr) :
    NRow w3 w.heap.size (.slice (some ⟨gg, o2, none⟩) (ln + 1) cap2) (ks ++ [x]) ∧ Chg (· = b) w w3 ∧ ∀ i fin n v, Psr b v i fin n w2 → Psr b v i fin n w3 := by
  have hsz2 := hC2.size
  have hA : Chg (fun _ => False) w2 (w2.alloc (.cells #[.int .u8 x.kind, .int .i64 x.n, .string x.text, nv, kv] 25)) := (Chg.refl _ w2).alloc _
  have hG : Chg (fun k => (Value.slice ad ln cap).ownBlock = some k) (w2.alloc (.cells #[.int .u8 x.kind, .int .i64 x.n, .string x.text, nv, kv] 25)) w3 := (Chg.refl _ _).grown hg (fun k _ e => e)
  have hr2 := (hr.later hC2 (fun k (e : k = b) => by omega)).later hA (fun k e => e.elim)
  refine ⟨hr2.snoc (n := ln) (H := w2.heap.size + 1) (NdIn.keep (keep_offs (F := fun k => k < wr.heap.size) (hA.mono (fun _ _ e => e.elim)) (fun q _ h1 h2 => ?_)) _ _ _ hin) hl (xs := ps.flatMap ndC5) (fun qs e1 e2 => ?_) hrow3 hG (fun g hg => ?_) (by simp) (by have := hA.size; omega), ?_, fun i fin n v hp => (hp.chg hA (fun e => e)).chg hG (fun e => ?_)⟩
  · have h1' : ¬ q < wr.heap.size := h1
    rcases h2 with h2 | h2
    · omega
    · exact h1' (hr.lt q h2)
  · have hl1 : ps.length = ln := by rw [← hl, ← hps, List.length_map]
    have hl2 : qs.length = ln := by rw [← hl, ← e1, List.length_map]
    rw [hl2] at e2
    have hx : ∀ xs ys : List Value, RowAt w2 25 5 (.slice ad ln cap) ln xs → RowAt (w2.alloc (.cells #[.int .u8 x.kind, .int .i64 x.n, .string x.text, nv, kv] 25)) 25 5 (.slice ad ln cap) ln ys → xs = ys := fun xs ys h1 h2 => by
      have h1' := h1.kept hA (fun _ _ e => e)
      rcases h1'.2 with ⟨e, rfl⟩ | ⟨g, o, c, cur, e, hg, _, _, _, h6⟩
      · have a1 := h1'.1
        have a2 := h2.1
        rw [Nat.zero_mul] at a1 a2
        rw [List.eq_nil_of_length_eq_zero a1, List.eq_nil_of_length_eq_zero a2]
      · rcases h2.2 with ⟨e', rfl⟩ | ⟨g', o', c', cur', e', hg', _, _, _, h6'⟩
        · rw [e] at e'; cases e'
        · rw [e] at e'
          simp only [Value.slice.injEq, Option.some.injEq, Addr.mk.injEq, and_true, true_and] at e'
          obtain ⟨⟨rfl, rfl⟩, _⟩ := e'
          rw [hg] at hg'
          simp only [Option.some.injEq, Obj.cells.injEq, and_true] at hg'
          rw [← h6, ← h6', hg']
    exact hx _ _ hrow e2
  · have e : gg = g := by simpa [Value.ownBlock] using hg
    rw [← e]; exact hat
  · exact ((hC.trans hC2).trans (chgb hA)).andThen hG (fun k hk e => by have := hr.new k e; omega)
  · have := hr.new b e; omega
theorem news5 {w : World} {b : Nat} {c0 c1 c2 c3 c4 : Value} (h : w.heap[b]? = some (.cells #[c0, c1, c2, c3, c4] 25 (0, 0))) : ∀ j u, [c0, c1, c2, c3, c4][j]? = some u → w.cell? ((⟨b, 0, none⟩ : Addr).add j) = some u := by
  intro j u hu
  have hadd : (⟨b, 0, none⟩ : Addr).add j = ⟨b, 0 + j, none⟩ := by unfold Addr.add; split <;> simp_all
  rw [hadd, Nat.zero_add, cell_of h]
  simpa using hu
theorem one5 (k n : Int) (t : ByteArray) (ad ad' : Option Addr) (a c a' c' : Nat) : ∀ u ∈ [Value.int .u8 k, .int .i64 n, .string t, .slice ad a c, .slice ad' a' c'], u.oneCell' = true := fun u hu => by
  simp only [List.mem_cons, List.not_mem_nil, or_false] at hu
  rcases hu with rfl | rfl | rfl | rfl | rfl <;> rfl
theorem new_atN (w : World) (o : Obj) (B : Nat) (h : w.heap.size = B) : (w.alloc o).heap[B]? = some o := by
  subst h
  exact blk_new w o
set_option maxRecDepth 100000 in
set_option maxHeartbeats 4000000 in
theorem parts_calls {b fin : Nat} {v : Value} {L : List Lx.Tok} (deep : Nat) (hd : deep ≤ 100) (many : Int) (hm : -1 ≤ many ∧ many ≤ 3) (val : Nat → Nat → PRes Nd) (hv : ValOk b v fin L (deep + 1) val) (hvn : Counts val) (i0 n0 : Nat) (w : World) (hp : Psr b v i0 fin n0 w) (ha : Amb b v L w) (hn : n0 ≤ 4000) :
    Calls Tryz.prog 98 #[.pointer (some ⟨b, 0, none⟩), .int .i64 many, .int .i64 deep] w (KidsEnds b v fin w (partsP L fin val many 4002 [] i0 n0)) := by
  obtain ⟨R, hR⟩ : ∃ R, partsP L fin val many 4002 [] i0 n0 = R := ⟨_, rfl⟩
  rw [hR]
  have HR := Lib.hid hR.symm
  have HP := Lib.hid hp
  have HA := Lib.hid ha
  have HB := Lib.hid hp.lt
  have HVAL := Lib.hid hv
  have HCN := Lib.hid hvn
  obtain ⟨iN, hk0, hk1, hk2, hk3⟩ := info_parts infoN
  have hfl := run_fld0
  have hdc : ((deep + 1 : Nat) : Int) = (deep : Int) + 1 := by push_cast; rfl
  have hd0 : (0 : Int) ≤ (deep : Int) := by omega
  have hd1 : (deep : Int) ≤ 100 := by omega
  obtain ⟨hm1, hm2⟩ := hm
  clear hp ha hv hvn hR
  go_enter Tryz.func98, Tryz.ntmps98
  go_wp2_with fail
  go_loopg [7] 4003 (fun g ov wr => ∃ (ks : List Nd) (i n k ln : Nat) (ad : Option Addr) (cap : Nat), ov = .slice ad ln cap ∧ n ≤ 4000 ∧ 4002 ≤ k + n ∧ 4002 ≤ g + n ∧ ln ≤ n ∧ Hid (R = partsP L fin val many k ks i n) ∧ Hid (ks.length = ln ∧ Psr b v i fin n wr ∧ NRow wr w.heap.size (.slice ad ln cap) ks ∧ Chg (· = b) w wr))
  case atStart => exact ⟨[], i0, n0, 4002, 0, none, 0, rfl, hn, by omega, by omega, by omega, HR, Lib.hid ⟨rfl, HP.out, NRow.nil _ _, Chg.refl _ _⟩⟩
  case round =>
    obtain ⟨ks, i, n, k, ln, ad, cap, rfl, hn4, hk, hg, hln, hRK, hI⟩ := hrel
    obtain ⟨k, rfl⟩ : ∃ q, k = q + 1 := ⟨k - 1, by omega⟩
    obtain ⟨gk', rfl⟩ : ∃ q, gk = q + 1 := ⟨gk - 1, by omega⟩
    by_cases h1 : (ln : Int) < many
    · have HMR : Hid (moreP L fin many ks.length i = .ok true) := Lib.hid (by unfold moreP; rw [hI.out.1, if_pos h1])
      have HV := Lib.hid (HVAL.out i n wr hI.out.2.1 (HA.out.later hI.out.2.2.2) hn4)
      rw [hdc] at HV
      have hbW := HB.out
      go_wp2_with fail
      cases hres : val i n with
      | error pq =>
        obtain ⟨p, q⟩ := pq
        have HRE : Hid (R = .error (p, q)) := Lib.hid (by rw [hRK.out, parts_true HMR.out, hres])
        rw [hres] at HV
        refine HV.out.mono ?_
        rintro e' w2 ⟨rfl, hC2⟩
        go_wp2_with fail
        rw [HRE.out]
        exact ⟨rfl, rfl, hI.out.2.2.2.trans hC2⟩
      | ok xr =>
        obtain ⟨x, i', n'⟩ := xr
        have hcnt := HCN.out i n x i' n' hres hn4
        have HRN : Hid (R = partsP L fin val many k (ks ++ [x]) i' n') := Lib.hid (by rw [hRK.out, parts_true HMR.out, hres])
        rw [hres] at HV
        refine HV.out.mono ?_
        rintro e' w2 ⟨nv, kv, rfl, hp2, hin2, hC2⟩
        obtain ⟨ps, e1, e2, _⟩ := (hI.out.2.2.1.later hC2 (fun k (e : k = b) => by have := HB.out; omega)).ex
        have hpl : ps.length = ln := by rw [← hI.out.1, ← e1, List.length_map]
        rw [hpl] at e2
        obtain ⟨an, cn, ak, ck, rfl, rfl, _⟩ := hin2.forms
        have HYA := Lib.hid (e2.kept ((Chg.refl (fun _ => False) w2).alloc (.cells #[.int .u8 x.kind, .int .i64 x.n, .string x.text, .slice an x.names.length cn, .slice ak x.kids.length ck] 25)) (fun _ _ h => h))
        have HYB := Lib.hid (news5 (new_atN w2 (.cells #[.int .u8 x.kind, .int .i64 x.n, .string x.text, .slice an x.names.length cn, .slice ak x.kids.length ck] 25) w2.heap.size rfl))
        have HYC := Lib.hid (one5 (x.kind : Int) x.n x.text an ak x.names.length cn x.kids.length ck)
        have HYD : Hid (ln + 1 ≤ maxLen ∧ (ln + 1) * 80 ≤ 140737488355328) := Lib.hid (by unfold maxLen; omega)
        have HE1 := Lib.hid e1
        have HE2 := Lib.hid e2
        have HP2 := Lib.hid hp2
        have HIN2 := Lib.hid hin2
        have HC2 := Lib.hid hC2
        have HWR := Lib.hid hI.out.2.2.2.size
        clear hp2 hin2 hC2 e1 e2 HV hres
        unfold ndV
        go_wp2_with (at_builtin; refine wpList_append_row _ rfl _ _ 23 rfl 25 iN _ 5 80 twN hk0 hk1 hk2 hk3 rfl (by decide) (.slice ad ln cap) ln (ps.flatMap ndC5) rfl HYA.out ⟨w2.heap.size, 0, none⟩ 1 1 [.int .u8 x.kind, .int .i64 x.n, .string x.text, .slice an x.names.length cn, .slice ak x.kids.length ck] rfl rfl HYB.out HYC.out (by decide) HYD.out.1 HYD.out.2 _ rfl ?_)
        clear HYA HYB HYC HYD
        intro gg off2 cap2 w3 hrow3 hgrow3 hat3 hlt3
        have HQ := Lib.hid (row_more (v0 := 0) (v := v) HB.out hI.out.1 hI.out.2.2.1 HC2.out HWR.out HIN2.out HE1.out HE2.out hrow3 hgrow3 hat3 hI.out.2.2.2)
        have HKL : Hid ((ks ++ [x]).length = ln + 1) := Lib.hid (by rw [List.length_append, hI.out.1]; rfl)
        clear hrow3 hgrow3 hat3 hlt3
        go_wp2_with fail
        go_roundg gk'
        case measure => omega
        case rel => exact ⟨ks ++ [x], i', n', k, ln + 1, _, _, rfl, by omega, by omega, by omega, by omega, HRN, Lib.hid ⟨HKL.out, HQ.out.2.2 _ _ _ _ HP2.out, HQ.out.1, HQ.out.2.1⟩⟩
    by_cases h2 : many < 0
    · by_cases h3 : ln = 0
      · have HMR : Hid (moreP L fin many ks.length i = .ok true) := Lib.hid (by unfold moreP; rw [hI.out.1, if_neg h1, if_pos h2, if_pos h3])
        have h3b : ((ln : Int) == 0) = true := by rw [h3]; rfl
        have H3 := Lib.hid h3
        clear h3
        have HV := Lib.hid (HVAL.out i n wr hI.out.2.1 (HA.out.later hI.out.2.2.2) hn4)
        rw [hdc] at HV
        have hbW := HB.out
        go_wp2_with fail
        cases hres : val i n with
        | error pq =>
          obtain ⟨p, q⟩ := pq
          have HRE : Hid (R = .error (p, q)) := Lib.hid (by rw [hRK.out, parts_true HMR.out, hres])
          rw [hres] at HV
          refine HV.out.mono ?_
          rintro e' w2 ⟨rfl, hC2⟩
          go_wp2_with fail
          rw [HRE.out]
          exact ⟨rfl, rfl, hI.out.2.2.2.trans hC2⟩
        | ok xr =>
          obtain ⟨x, i', n'⟩ := xr
          have hcnt := HCN.out i n x i' n' hres hn4
          have HRN : Hid (R = partsP L fin val many k (ks ++ [x]) i' n') := Lib.hid (by rw [hRK.out, parts_true HMR.out, hres])
          rw [hres] at HV
          refine HV.out.mono ?_
          rintro e' w2 ⟨nv, kv, rfl, hp2, hin2, hC2⟩
          obtain ⟨ps, e1, e2, _⟩ := (hI.out.2.2.1.later hC2 (fun k (e : k = b) => by have := HB.out; omega)).ex
          have hpl : ps.length = ln := by rw [← hI.out.1, ← e1, List.length_map]
          rw [hpl] at e2
          obtain ⟨an, cn, ak, ck, rfl, rfl, _⟩ := hin2.forms
          have HYA := Lib.hid (e2.kept ((Chg.refl (fun _ => False) w2).alloc (.cells #[.int .u8 x.kind, .int .i64 x.n, .string x.text, .slice an x.names.length cn, .slice ak x.kids.length ck] 25)) (fun _ _ h => h))
          have HYB := Lib.hid (news5 (new_atN w2 (.cells #[.int .u8 x.kind, .int .i64 x.n, .string x.text, .slice an x.names.length cn, .slice ak x.kids.length ck] 25) w2.heap.size rfl))
          have HYC := Lib.hid (one5 (x.kind : Int) x.n x.text an ak x.names.length cn x.kids.length ck)
          have HYD : Hid (ln + 1 ≤ maxLen ∧ (ln + 1) * 80 ≤ 140737488355328) := Lib.hid (by unfold maxLen; omega)
          have HE1 := Lib.hid e1
          have HE2 := Lib.hid e2
          have HP2 := Lib.hid hp2
          have HIN2 := Lib.hid hin2
          have HC2 := Lib.hid hC2
          have HWR := Lib.hid hI.out.2.2.2.size
          clear hp2 hin2 hC2 e1 e2 HV hres
          unfold ndV
          go_wp2_with (at_builtin; refine wpList_append_row _ rfl _ _ 23 rfl 25 iN _ 5 80 twN hk0 hk1 hk2 hk3 rfl (by decide) (.slice ad ln cap) ln (ps.flatMap ndC5) rfl HYA.out ⟨w2.heap.size, 0, none⟩ 1 1 [.int .u8 x.kind, .int .i64 x.n, .string x.text, .slice an x.names.length cn, .slice ak x.kids.length ck] rfl rfl HYB.out HYC.out (by decide) HYD.out.1 HYD.out.2 _ rfl ?_)
          clear HYA HYB HYC HYD
          intro gg off2 cap2 w3 hrow3 hgrow3 hat3 hlt3
          have HQ := Lib.hid (row_more (v0 := 0) (v := v) HB.out hI.out.1 hI.out.2.2.1 HC2.out HWR.out HIN2.out HE1.out HE2.out hrow3 hgrow3 hat3 hI.out.2.2.2)
          have HKL : Hid ((ks ++ [x]).length = ln + 1) := Lib.hid (by rw [List.length_append, hI.out.1]; rfl)
          clear hrow3 hgrow3 hat3 hlt3
          go_wp2_with fail
          go_roundg gk'
          case measure => omega
          case rel => exact ⟨ks ++ [x], i', n', k, ln + 1, _, _, rfl, by omega, by omega, by omega, by omega, HRN, Lib.hid ⟨HKL.out, HQ.out.2.2 _ _ _ _ HP2.out, HQ.out.1, HQ.out.2.1⟩⟩
      · have h3i : ¬ (ln : Int) = 0 := by omega
        have h3b : ((ln : Int) == 0) = false := beq_eq_false_iff_ne.2 h3i
        cases hi : L[i]? with
        | none =>
          have HRE : Hid (R = .error (fin, 11)) := Lib.hid (by rw [hRK.out]; exact parts_error (by unfold moreP; rw [hI.out.1, if_neg h1, if_pos h2, if_neg h3, hi]))
          have H := Lib.hid (peek_err hI.out.2.1 (HA.out.later hI.out.2.2.2).tok hi)
          clear hi
          go_wp2_with fail
          refine H.out.mono ?_
          rintro e' w2 ⟨rfl, hC2⟩
          go_wp2_with fail
          rw [HRE.out]
          exact ⟨rfl, rfl, hI.out.2.2.2.trans (chgb hC2)⟩
        | some t =>
          have H := Lib.hid (peek_ok hI.out.2.1 (HA.out.later hI.out.2.2.2).tok hi)
          obtain ⟨kd, hkd⟩ : ∃ kd, t.kind = kd := ⟨_, rfl⟩
          unfold tokV at H
          rw [hkd] at H
          by_cases hk2' : kd = 2
          · have HRE : Hid (R = .ok (ks, i, n)) := Lib.hid (by rw [hRK.out]; exact parts_false (by unfold moreP; rw [hI.out.1, if_neg h1, if_pos h2, if_neg h3, hi]; simp only []; rw [hkd, hk2']; rfl))
            subst hk2'
            clear hi hkd
            go_wp2_with fail
            refine H.out.mono ?_
            rintro e' w2 ⟨rfl, hC2⟩
            have HI2 := Lib.hid hC2
            clear hC2 H
            go_wp2_with fail
            go_ret
            rw [HRE.out]
            exact ⟨_, rfl, hI.out.2.1.chg HI2.out (fun e => e), hI.out.2.2.1.later HI2.out (fun k e => e.elim), hI.out.2.2.2.trans (chgb HI2.out)⟩
          · have HMR : Hid (moreP L fin many ks.length i = .ok true) := Lib.hid (by unfold moreP; rw [hI.out.1, if_neg h1, if_pos h2, if_neg h3, hi]; simp only []; rw [hkd, decide_eq_true hk2'])
            have hkb : ((kd : Int) != 2) = true := bne_iff_ne.2 (by omega)
            clear hi hkd
            go_wp2_with fail
            refine H.out.mono ?_
            rintro e' w1 ⟨rfl, hC1⟩
            have hI' : Hid (ks.length = ln ∧ Psr b v i fin n w1 ∧ NRow w1 w.heap.size (.slice ad ln cap) ks ∧ Chg (· = b) w w1) := Lib.hid ⟨hI.out.1, hI.out.2.1.chg hC1 (fun e => e), hI.out.2.2.1.later hC1 (fun k e => e.elim), hI.out.2.2.2.trans (chgb hC1)⟩
            clear hC1 H hI
            have hI := hI'
            clear hI'
            have HV := Lib.hid (HVAL.out i n w1 hI.out.2.1 (HA.out.later hI.out.2.2.2) hn4)
            rw [hdc] at HV
            have hbW := HB.out
            go_wp2_with fail
            cases hres : val i n with
            | error pq =>
              obtain ⟨p, q⟩ := pq
              have HRE : Hid (R = .error (p, q)) := Lib.hid (by rw [hRK.out, parts_true HMR.out, hres])
              rw [hres] at HV
              refine HV.out.mono ?_
              rintro e' w2 ⟨rfl, hC2⟩
              go_wp2_with fail
              rw [HRE.out]
              exact ⟨rfl, rfl, hI.out.2.2.2.trans hC2⟩
            | ok xr =>
              obtain ⟨x, i', n'⟩ := xr
              have hcnt := HCN.out i n x i' n' hres hn4
              have HRN : Hid (R = partsP L fin val many k (ks ++ [x]) i' n') := Lib.hid (by rw [hRK.out, parts_true HMR.out, hres])
              rw [hres] at HV
              refine HV.out.mono ?_
              rintro e' w2 ⟨nv, kv, rfl, hp2, hin2, hC2⟩
              obtain ⟨ps, e1, e2, _⟩ := (hI.out.2.2.1.later hC2 (fun k (e : k = b) => by have := HB.out; omega)).ex
              have hpl : ps.length = ln := by rw [← hI.out.1, ← e1, List.length_map]
              rw [hpl] at e2
              obtain ⟨an, cn, ak, ck, rfl, rfl, _⟩ := hin2.forms
              have HYA := Lib.hid (e2.kept ((Chg.refl (fun _ => False) w2).alloc (.cells #[.int .u8 x.kind, .int .i64 x.n, .string x.text, .slice an x.names.length cn, .slice ak x.kids.length ck] 25)) (fun _ _ h => h))
              have HYB := Lib.hid (news5 (new_atN w2 (.cells #[.int .u8 x.kind, .int .i64 x.n, .string x.text, .slice an x.names.length cn, .slice ak x.kids.length ck] 25) w2.heap.size rfl))
              have HYC := Lib.hid (one5 (x.kind : Int) x.n x.text an ak x.names.length cn x.kids.length ck)
              have HYD : Hid (ln + 1 ≤ maxLen ∧ (ln + 1) * 80 ≤ 140737488355328) := Lib.hid (by unfold maxLen; omega)
              have HE1 := Lib.hid e1
              have HE2 := Lib.hid e2
              have HP2 := Lib.hid hp2
              have HIN2 := Lib.hid hin2
              have HC2 := Lib.hid hC2
              have HWR := Lib.hid hI.out.2.2.2.size
              clear hp2 hin2 hC2 e1 e2 HV hres
              unfold ndV
              go_wp2_with (at_builtin; refine wpList_append_row _ rfl _ _ 23 rfl 25 iN _ 5 80 twN hk0 hk1 hk2 hk3 rfl (by decide) (.slice ad ln cap) ln (ps.flatMap ndC5) rfl HYA.out ⟨w2.heap.size, 0, none⟩ 1 1 [.int .u8 x.kind, .int .i64 x.n, .string x.text, .slice an x.names.length cn, .slice ak x.kids.length ck] rfl rfl HYB.out HYC.out (by decide) HYD.out.1 HYD.out.2 _ rfl ?_)
              clear HYA HYB HYC HYD
              intro gg off2 cap2 w3 hrow3 hgrow3 hat3 hlt3
              have HQ := Lib.hid (row_more (v0 := 0) (v := v) HB.out hI.out.1 hI.out.2.2.1 HC2.out HWR.out HIN2.out HE1.out HE2.out hrow3 hgrow3 hat3 hI.out.2.2.2)
              have HKL : Hid ((ks ++ [x]).length = ln + 1) := Lib.hid (by rw [List.length_append, hI.out.1]; rfl)
              clear hrow3 hgrow3 hat3 hlt3
              go_wp2_with fail
              go_roundg gk'
              case measure => omega
              case rel => exact ⟨ks ++ [x], i', n', k, ln + 1, _, _, rfl, by omega, by omega, by omega, by omega, HRN, Lib.hid ⟨HKL.out, HQ.out.2.2 _ _ _ _ HP2.out, HQ.out.1, HQ.out.2.1⟩⟩
    · have HRE : Hid (R = .ok (ks, i, n)) := Lib.hid (by rw [hRK.out]; exact parts_false (by unfold moreP; rw [hI.out.1, if_neg h1, if_neg h2]))
      go_wp2_with fail
      go_ret
      rw [HRE.out]
      exact ⟨_, rfl, hI.out.2.1, hI.out.2.2.1, hI.out.2.2.2⟩
end Go.Proofs.YtaklmocjaokkpaaGreatDoor.Tr
