/- The parser whole: value at each depth, and Parse with what it defers, walked: they come to what the plain parser has. Condition: the library's variables hold what Gm says. · Parse, walked: it comes to what the plain parser has. Condition: the library's variables hold what Gm says. · The document's example of the parser, walked: it comes to true. Condition: the library's variables hold what Gm says. -/
import Derived.Test.YtaklmocjaokkpaaGreatDoorParseClauses
import Derived.Test.YtaklmocjaokkpaaGreatDoorParseA
import Derived.Test.YtaklmocjaokkpaaGreatDoorLexC
import Derived.Defers
import Derived.Recover
namespace Go.Proofs.YtaklmocjaokkpaaGreatDoor.Tr
set_option linter.unusedVariables false
set_option linter.unusedSimpArgs false
open Go.RowKit Go.Shelf Go.Proofs.YtaklmocjaokkpaaGreatDoor.Mem

theorem dummy_counts : Counts (fun _ _ => .error (0, 0)) := fun i n x i' n' h => by cases h
theorem valueD_counts {L : List Lx.Tok} {fin : Nat} (hl : LexFine L) (d : Nat) (hd : d ≤ 61) : Counts (valueD L fin d) := fun i n x i' n' h hn => by
  have h1 := value_good hl d (61 - d) (by omega) i n x i' n' h hn
  have := size_pos x
  obtain ⟨_, _, h3, h4, _⟩ := h1
  omega
theorem clD_counts {L : List Lx.Tok} {fin : Nat} (hl : LexFine L) (d : Nat) (hd : d ≤ 60) : CountsL (clD L fin d) := fun i n ks i' n' h hn => by
  cases d with
  | zero =>
    have := clauses_count dummy_counts _ _ _ _ _ _ _ _ _ h hn
    simpa using this
  | succ d =>
    have := clauses_count (valueD_counts hl d (by omega)) _ _ _ _ _ _ _ _ _ h hn
    simpa using this
theorem value_ok {b fin : Nat} {v : Value} {L : List Lx.Tok} (hf : TokFine L) (hl : LexFine L) : ∀ d deep, deep + d = 61 → ValOk b v fin L deep (valueD L fin d) := by
  intro d
  induction d using Nat.strongRecOn with
  | ind d ih =>
    intro deep hd
    cases d with
    | zero =>
      obtain rfl : deep = 61 := by omega
      exact value_calls hf 61 (by decide) (fun _ _ => .error (0, 0)) (fun e => absurd e (by decide))
    | succ d =>
      have hcl : ClOk b v fin L (deep + 1) (clD L fin d) := by
        cases d with
        | zero =>
          obtain rfl : deep = 60 := by omega
          exact clauses_calls hf 61 (by decide) (fun _ _ => .error (0, 0)) (fun e => absurd e (by decide)) dummy_counts
        | succ d2 =>
          have := clauses_calls (b := b) (fin := fin) (v := v) hf (deep + 1) (by omega) (valueD L fin d2) (fun _ => ih d2 (by omega) (deep + 1 + 1) (by omega)) (valueD_counts hl d2 (by omega))
          rw [decide_eq_true (show deep + 1 ≤ 60 by omega)] at this
          exact this
      have hbr : BrOk b v fin L deep (bracketP L fin (valueD L fin d) (clD L fin d)) := bracket_calls hf deep (by omega) (valueD L fin d) (ih d (by omega) (deep + 1) (by omega)) (valueD_counts hl d (by omega)) (clD L fin d) hcl (clD_counts hl d (by omega))
      have := value_calls hf deep (by omega) _ (fun _ => hbr)
      rw [decide_eq_true (show deep ≤ 60 by omega)] at this
      rw [valueD_succ]
      exact this
theorem tok_fine {L : List Lx.Tok} (hl : LexFine L) (h : L.length ≤ 1048576) : TokFine L := ⟨h, fun t ht => by
  obtain ⟨h3, h4, h5, h1, h2, k1, k2⟩ := hl t ht
  have hsz : (ba t.s).size = t.s.length := by simp [ba, ByteArray.size]
  rw [hsz]
  have hk : t.kind = 1 ∨ t.kind = 2 ∨ t.kind = 3 ∨ t.kind = 4 ∨ t.kind = 5 := by omega
  rcases hk with k | k | k | k | k
  · have := h1 k; rw [this.1, this.2]; exact ⟨by decide, by simp⟩
  · have := h2 k; rw [this.1, this.2]; exact ⟨by decide, by simp⟩
  · have := h3 k
    rw [this.2]
    have h6 := this.1
    unfold Lx.wordB at h6
    simp only [Bool.and_eq_true, decide_eq_true_eq] at h6
    exact ⟨by decide, by omega⟩
  · have := h4 k; rw [this.1]; exact ⟨this.2, by simp⟩
  · have := h5 k; rw [this.1]; exact ⟨by decide, by omega⟩⟩
theorem tok_in {w : World} {base : Nat} {v : Value} {L : List Lx.Tok} (h : w.ownsRow base 104 4 v L.length (L.flatMap Lx.tokCells)) : TokIn w v L := by
  rcases h.2 with ⟨rfl, h0⟩ | ⟨g, cap, cur, rfl, hb, hg, hc1, hc2, hc3, hc4⟩
  · have hL : L = [] := List.length_eq_zero_iff.1 h0
    subst hL
    exact ⟨none, 0, rfl, Nat.le_refl _, Nat.zero_le _, fun i t ht => by simp at ht⟩
  · refine ⟨some ⟨g, 0, none⟩, cap, rfl, hc1, hc2, fun i t ht => ?_⟩
    obtain ⟨hlt, he⟩ := List.getElem?_eq_some_iff.1 ht
    have hcell := fun j (hj : j < 4) => Lx.row_cell h rfl i j hlt hj
    rw [he] at hcell
    refine ⟨g, 0, rfl, lt_of_block hg, ?_, ?_, ?_, ?_⟩
    · rw [Nat.zero_add]; exact hcell 0 (by decide)
    · rw [Nat.zero_add]; exact hcell 1 (by decide)
    · rw [Nat.zero_add]; exact hcell 2 (by decide)
    · rw [Nat.zero_add]; exact hcell 3 (by decide)
theorem keep_new {b : Nat} {w W : World} (hc : Chg (fun _ => False) w W) (hb : w.heap.size ≤ b) : Keep w (off (fun k => k = b) W) := ⟨by rw [off_size]; exact hc.size, fun q i u hu => by
  have hq : q < w.heap.size := World.block_lt_of_cell? w _ hu
  rw [off_out (fun k => k = b) W q i (fun (e : q = b) => by omega)]
  exact hc.cell hu (fun e => e)⟩
theorem set7 {W1 : World} {B : Nat} {c0 c1 c2 c3 c4 v2 v3 : Value} (b1 : W1.heap[B]? = some (.cells #[c0, c1, c2, c3, c4] 25 (0, 0))) (b2 : W1.heap[B + 1]? = some (.cells #[v2] 3 (0, 0))) (b3 : W1.heap[B + 2]? = some (.cells #[v3] 33 (0, 0))) (x0 x1 x2 x3 x4 y z : Value) :
    (((((((W1.setCell ⟨B, 0, none⟩ x0).setCell ⟨B, 1, none⟩ x1).setCell ⟨B, 2, none⟩ x2).setCell ⟨B, 3, none⟩ x3).setCell ⟨B, 4, none⟩ x4).setCell ⟨B + 1, 0, none⟩ y).setCell ⟨B + 2, 0, none⟩ z).heap[B]? = some (.cells #[x0, x1, x2, x3, x4] 25 (0, 0)) ∧
    (((((((W1.setCell ⟨B, 0, none⟩ x0).setCell ⟨B, 1, none⟩ x1).setCell ⟨B, 2, none⟩ x2).setCell ⟨B, 3, none⟩ x3).setCell ⟨B, 4, none⟩ x4).setCell ⟨B + 1, 0, none⟩ y).setCell ⟨B + 2, 0, none⟩ z).heap[B + 1]? = some (.cells #[y] 3 (0, 0)) ∧
    (((((((W1.setCell ⟨B, 0, none⟩ x0).setCell ⟨B, 1, none⟩ x1).setCell ⟨B, 2, none⟩ x2).setCell ⟨B, 3, none⟩ x3).setCell ⟨B, 4, none⟩ x4).setCell ⟨B + 1, 0, none⟩ y).setCell ⟨B + 2, 0, none⟩ z).heap[B + 2]? = some (.cells #[z] 33 (0, 0)) ∧
    Chg (fun k => B ≤ k ∧ k < B + 3) W1 (((((((W1.setCell ⟨B, 0, none⟩ x0).setCell ⟨B, 1, none⟩ x1).setCell ⟨B, 2, none⟩ x2).setCell ⟨B, 3, none⟩ x3).setCell ⟨B, 4, none⟩ x4).setCell ⟨B + 1, 0, none⟩ y).setCell ⟨B + 2, 0, none⟩ z) := by
  have s5 := end5 b1 x0 x1 x2 x3 x4
  have g5 := chg5 (F := fun k => k = B) (B := B) (Chg.refl _ W1) (fun _ => rfl) x0 x1 x2 x3 x4
  have k2 := g5.blk b2 (fun e => by omega)
  have k3 := g5.blk b3 (fun e => by omega)
  refine ⟨blk_set_other (blk_set_other s5 (show B ≠ B + 1 by omega) _) (show B ≠ B + 2 by omega) _, blk_set_other ((blk_set k2 0 _).trans rfl) (show B + 1 ≠ B + 2 by omega) _, (blk_set (blk_set_other k3 (show B + 2 ≠ B + 1 by omega) _) 0 _).trans rfl, ?_⟩
  exact ((g5.mono (fun k _ e => ⟨by omega, by omega⟩)).set (p := ⟨B + 1, 0, none⟩) (fun _ => ⟨Nat.le_succ _, show B + 1 < B + 3 by omega⟩) _).set (p := ⟨B + 2, 0, none⟩) (fun _ => ⟨show B ≤ B + 2 by omega, show B + 2 < B + 3 by omega⟩) _
set_option maxRecDepth 100000 in
set_option maxHeartbeats 2000000 in
theorem pcatch_idle (B : Nat) (w : World) :
    CallsD Tryz.prog 48 #[.pointer (some ⟨B, 0, none⟩), .pointer (some ⟨B + 1, 0, none⟩), .pointer (some ⟨B + 2, 0, none⟩)] .returning w fun e u' w' => e = .returned (.tuple #[]) ∧ u' = .returning ∧ w' = w := by
  refine callsD_of_wpS Tryz.func48 rfl fun c₀ cs hu => ?_
  apply wpS_seq
  apply wpS_region
  simp [wpOpsS, go_sem, recoverD, hu, Tryz.ntmps48, Exit.thenS]
  refine wpS_of_wp ?_
  go_wp2
  cases c₀
  simp_all [bodyPostS, results, Tryz.results48]
theorem drew_heap (w : World) : w.drew.heap = w.heap := rfl
abbrev iObj (x : Int) : Obj := .cells #[.int .i64 x] 3
abbrev eObj (x : Int) : Obj := .cells #[.int .i64 x] 33
set_option maxRecDepth 100000 in
set_option maxHeartbeats 4000000 in
theorem pcatch_fault (B : Nat) (c0 c1 c2 c3 c4 v2 v3 : Value) (p n : Nat) (w : World) (h1 : w.heap[B]? = some (.cells #[c0, c1, c2, c3, c4] 25 (0, 0))) (h2 : w.heap[B + 1]? = some (.cells #[v2] 3 (0, 0))) (h3 : w.heap[B + 2]? = some (.cells #[v3] 33 (0, 0))) :
    CallsD Tryz.prog 48 #[.pointer (some ⟨B, 0, none⟩), .pointer (some ⟨B + 1, 0, none⟩), .pointer (some ⟨B + 2, 0, none⟩)] (.panicking (pfault p n)) w fun e u' w' =>
      e = .returned (.tuple #[]) ∧ u' = .panicking [{ v := .iface 70 (.agg #[.int .i64 p, .int .i64 n]), recovered := true }] ∧
      w'.heap[B]? = some zNd ∧ w'.heap[B + 1]? = some (iObj p) ∧ w'.heap[B + 2]? = some (eObj n) ∧ Chg (fun k => B ≤ k) w w' := by
  refine callsD_of_wpS Tryz.func48 rfl fun c₀ cs hu => ?_
  unfold pfault at hu
  have hta : ∀ w, (Instr.typeAssert (.iface 70 (.agg #[.int .i64 p, .int .i64 n])) 20 70 true).run Tryz.prog w = .ok (.tuple #[.agg #[.int .i64 p, .int .i64 n], .bool true]) w := fun _ => by kernel_rfl
  simp only [Tryz.ntmps48, List.size_toArray, List.length_cons, List.length_nil, Nat.reduceAdd, Nat.reduceSub, Array.replicate_succ, Array.replicate_zero, List.push_toArray, List.append_toArray, List.nil_append, List.cons_append]
  apply wpS_seq
  apply wpS_region
  simp [wpOpsS, go_sem, recoverD, hu, Exit.thenS]
  refine wpS_of_wp ?_
  obtain ⟨W1, hW1⟩ : ∃ W1, w.alloc (.cells #[.int .i64 p, .int .i64 n] 70) = W1 := ⟨_, rfl⟩
  have hC : Chg (fun _ => False) w W1 := by rw [← hW1]; exact (Chg.refl _ w).alloc _
  have hF : W1.heap[w.heap.size]? = some (.cells #[.int .i64 p, .int .i64 n] 70) := by rw [← hW1]; exact blk_new w _
  obtain ⟨m, hm⟩ : ∃ m, w.heap.size = m := ⟨_, rfl⟩
  rw [hm] at hF
  have b1 := hC.blk h1 (fun e => e)
  have b2 := hC.blk h2 (fun e => e)
  have b3 := hC.blk h3 (fun e => e)
  have h0 : B + 2 < m := by rw [← hm]; exact lt_of_block h3
  have B1 := Lib.hid b1
  have B2 := Lib.hid b2
  have B3 := Lib.hid b3
  have HC := Lib.hid hC
  have q0 := cell_of b1 0
  have q1 := cell_of b1 1
  have q2 := cell_of b1 2
  have q3 := cell_of b1 3
  have q4 := cell_of b1 4
  have f0 := free_of b1 0
  have f1 := free_of b1 1
  have f2 := free_of b1 2
  have f3 := free_of b1 3
  have f4 := free_of b1 4
  have r2 := cell_of b2 0
  have g2 := free_of b2 0
  have r3 := cell_of b3 0
  have g3 := free_of b3 0
  have s0 := cell_of hF 0
  have s1 := cell_of hF 1
  have n1 : ¬ B = m := by omega
  have n2 : ¬ B + 1 = m := by omega
  have n3 : ¬ B + 2 = m := by omega
  have n4 : ¬ m = B := by omega
  have n5 : ¬ m = B + 1 := by omega
  have n6 : ¬ m = B + 2 := by omega
  clear h1 h2 h3 hC hF b1 b2 b3 h0
  go_wp2_with fail
  go_region
  go_wp2_with fail
  clear hta
  cases c₀
  simp only [bodyPostS, results, Tryz.results48]
  have hS := set7 B1.out B2.out B3.out (.int .u8 0) (.int .i64 0) (.string ⟨#[]⟩) (.slice none 0 0) (.slice none 0 0) (.int .i64 p) (.int .i64 n)
  refine ⟨trivial, _, rfl, .tuple #[], by simp [go_sem], rfl, rfl, ?_, ?_, ?_, ?_⟩
  · rw [drew_heap]; exact hS.1
  · rw [drew_heap]; exact hS.2.1
  · rw [drew_heap]; exact hS.2.2.1
  exact ((HC.out.mono (fun k _ e => e.elim)).trans (hS.2.2.2.mono (fun k _ e => e.1))).drew
end Go.Proofs.YtaklmocjaokkpaaGreatDoor.Tr
namespace Go.Proofs.YtaklmocjaokkpaaGreatDoor.Tr
set_option linter.unusedVariables false
set_option linter.unusedSimpArgs false
open Go.RowKit Go.Shelf Go.Proofs.YtaklmocjaokkpaaGreatDoor.Mem

/-- How Parse ends: a node lies in new memory. -/
def ParseEnds (w : World) (r : Except (Nat × Nat) Nd) (e : Ending) (w' : World) : Prop :=
  match r with
  | .ok x => ∃ nv kv, e = .returned (.tuple #[ndV x nv kv, .int .i64 0, .int .i64 0]) ∧ NdIn (off (fun k => k < w.heap.size) w') nv kv x ∧ Chg (fun _ => False) w w'
  | .error (p, q) => e = .returned (.tuple #[.agg #[.int .u8 0, .int .i64 0, .string ⟨#[]⟩, .slice none 0 0, .slice none 0 0], .int .i64 p, .int .i64 q]) ∧ Chg (fun _ => False) w w'
theorem results3 {fn : Func} (h : fn.results = #[.cell 2 25, .cell 3 3, .cell 4 33]) {tmps : Array Value} {w : World} {B : Nat} {c0 c1 c2 c3 c4 y z : Value}
    (hp0 : tmps.getD 2 undef = .pointer (some ⟨B, 0, none⟩)) (hp1 : tmps.getD 3 undef = .pointer (some ⟨B + 1, 0, none⟩)) (hp2 : tmps.getD 4 undef = .pointer (some ⟨B + 2, 0, none⟩))
    (h0 : w.heap[B]? = some (.cells #[c0, c1, c2, c3, c4] 25 (0, 0))) (h1 : w.cell? ⟨B + 1, 0, none⟩ = some y) (h2 : w.cell? ⟨B + 2, 0, none⟩ = some z) : (results fn tmps).run Tryz.prog w = .ok (.tuple #[.agg #[c0, c1, c2, c3, c4], y, z]) w := by
  have q0 := cell_of h0 0
  have q1 := cell_of h0 1
  have q2 := cell_of h0 2
  have q3 := cell_of h0 3
  have q4 := cell_of h0 4
  have hp0' : tmps[2]?.getD undef = .pointer (some ⟨B, 0, none⟩) := by simpa using hp0
  have hp1' : tmps[3]?.getD undef = .pointer (some ⟨B + 1, 0, none⟩) := by simpa using hp1
  have hp2' : tmps[4]?.getD undef = .pointer (some ⟨B + 2, 0, none⟩) := by simpa using hp2
  simp [results, h, hp0', hp1', hp2', asAddr, go_sem, h1, h2, q0, q1, q2, q3, q4]
theorem bl_len' (s : ByteArray) : (bl s).length = s.size := by
  show s.data.toList.length = s.data.size
  exact Array.length_toList
theorem chg_new {F : Nat → Prop} {w w' : World} (h : Chg F w w') (hF : ∀ k, F k → w.heap.size ≤ k) : Chg (fun _ => False) w w' := h.mono (fun k hk e => by have := hF k e; omega)
/-- The parser's own block, and the results' three. -/
abbrev F3 (B b : Nat) : Nat → Prop := fun k => k = b ∨ (B ≤ k ∧ k < B + 3)
theorem tok_new {B b : Nat} {w4 w7 : World} {v : Value} {L : List Lx.Tok} (ho : w4.ownsRow (B + 3) 104 4 v L.length (L.flatMap Lx.tokCells)) (hb : w4.heap.size ≤ b) (hC : Chg (fun k => B ≤ k ∧ k < B + 3) w4 w7) : TokIn (off (F3 B b) w7) v L := by
  obtain ⟨ad, cap, e1, e2, e3, e4⟩ := tok_in ho
  refine ⟨ad, cap, e1, e2, e3, fun i t hit => ?_⟩
  obtain ⟨bb, oo, z1, z2, z3, z4, z5, z6⟩ := e4 i t hit
  have hbase : B + 3 ≤ bb := by
    rcases ho.2 with ⟨h1, _⟩ | ⟨g, cap', cur, h1, h2, _⟩
    · rw [e1, z1] at h1; cases h1
    · rw [e1, z1] at h1; cases h1; exact h2
  have hn : ¬ F3 B b bb := fun e => by
    rcases e with e | e
    · omega
    · omega
  have hcc : ∀ j u, w4.cell? ⟨bb, j, none⟩ = some u → (off (F3 B b) w7).cell? ⟨bb, j, none⟩ = some u := fun j u hu => by
    rw [off_out (F3 B b) w7 bb j hn]
    exact hC.cell hu (fun e => hn (.inr e))
  exact ⟨bb, oo, z1, by rw [off_size]; exact Nat.lt_of_lt_of_le z2 hC.size, hcc _ _ z3, hcc _ _ z4, hcc _ _ z5, hcc _ _ z6⟩
theorem gm_new {B b : Nat} {w w7 : World} (hg : Gm w) (hB : w.heap.size = B) (hC : Chg (fun k => B ≤ k) w w7) (hb : B ≤ b) : Gm (off (F3 B b) w7) := hg.keep ⟨by rw [off_size]; exact hC.size, fun q i u hu => by
  have hq : q < w.heap.size := World.block_lt_of_cell? w _ hu
  rw [off_out (F3 B b) w7 q i (fun e => by rcases e with e | e <;> omega)]
  exact hC.cell hu (fun e => by have e2 : B ≤ q := e; omega)⟩
theorem amb_of {B b : Nat} {v : Value} {L : List Lx.Tok} {w7 W : World} (h1 : TokIn (off (F3 B b) w7) v L) (h2 : Gm (off (F3 B b) w7)) (hC : Chg (F3 B b) w7 W) : Amb b v L W :=
  ⟨h1.keep (keep_offs hC (fun q _ g1 g2 => g1 (.inl g2))), h2.keep (keep_offs hC (fun q _ g1 g2 => g1 (.inl g2)))⟩
set_option maxRecDepth 100000 in
set_option maxHeartbeats 8000000 in
theorem parse_calls (s : ByteArray) (w : World) (hg : Gm w) : Calls Tryz.prog 29 #[.string s] w (ParseEnds w (parseP (bl s))) := by
  have hmf : ∀ (fn : Fn) (first cap : Array Value) (w : World), (Instr.makeFunc fn first cap).run Tryz.prog w = .ok (.func fn first cap) w := fun _ _ _ _ => rfl
  obtain ⟨w1, hw1⟩ : ∃ w1, w.alloc zNd = w1 := ⟨_, rfl⟩
  obtain ⟨w2, hw2⟩ : ∃ w2, w1.alloc (iObj 0) = w2 := ⟨_, rfl⟩
  obtain ⟨w3, hw3⟩ : ∃ w3, w2.alloc (eObj 0) = w3 := ⟨_, rfl⟩
  have hC3 : Chg (fun _ => False) w w3 := by rw [← hw3, ← hw2, ← hw1]; exact (((Chg.refl _ w).alloc _).alloc _).alloc _
  obtain ⟨B, hB⟩ : ∃ B, w.heap.size = B := ⟨_, rfl⟩
  have hz1 : w1.heap.size = B + 1 := by rw [← hw1, ← hB]; simp
  have hz2 : w2.heap.size = B + 2 := by rw [← hw2]; simp [hz1]
  have hz3 : w3.heap.size = B + 3 := by rw [← hw3]; simp [hz2]
  have k1 : w3.heap[B]? = some zNd := by rw [← hw3, ← hw2, ← hw1, ← hB]; exact blk_alloc (blk_alloc (blk_new w _) _) _
  have k2 : w3.heap[B + 1]? = some (iObj 0) := by rw [← hw3, ← hw2, ← hz1]; exact blk_alloc (blk_new w1 _) _
  have k3 : w3.heap[B + 2]? = some (eObj 0) := by rw [← hw3, ← hz2]; exact blk_new w2 _
  have HC3 := Lib.hid hC3
  have HB := Lib.hid hB
  have HZ3 := Lib.hid hz3
  have HK : Hid (w3.heap[B]? = some (.cells #[.int .u8 0, .int .i64 0, .string ⟨#[]⟩, .slice none 0 0, .slice none 0 0] 25 (0, 0)) ∧ w3.heap[B + 1]? = some (.cells #[.int .i64 0] 3 (0, 0)) ∧ w3.heap[B + 2]? = some (.cells #[.int .i64 0] 33 (0, 0))) := Lib.hid ⟨k1, k2, k3⟩
  have HG3 := Lib.hid (hg.later hC3)
  have HGW := Lib.hid hg
  unfold zNd at hw1
  unfold iObj at hw2
  unfold eObj at hw3
  clear hC3 k1 k2 k3 hg hz3
  cases ht : Lx.tokens (bl s) with
  | error q =>
    obtain ⟨p, n⟩ := q
    have hpn := tokens_place ht
    have HR : Hid (parseP (bl s) = .error (p, n)) := Lib.hid (by unfold parseP; rw [ht])
    have HT := Lib.hid (Lx.tokens_err s w3 HG3.out.1 p n ht)
    have hn0 : ((n : Int) != 0) = true := bne_iff_ne.2 (by have := hpn.2; omega)
    clear ht hpn
    go_enter_defers Tryz.func29, Tryz.ntmps29
    go_wp2_with fail
    refine HT.out.mono ?_
    rintro e w4 ⟨rfl, hb4⟩
    have hC4 := (Chg.refl (fun _ => False) w3).callee hb4
    have hk4 : w4.heap[B]? = some (.cells #[.int .u8 0, .int .i64 0, .string ⟨#[]⟩, .slice none 0 0, .slice none 0 0] 25 (0, 0)) ∧ w4.heap[B + 1]? = some (.cells #[.int .i64 0] 3 (0, 0)) ∧ w4.heap[B + 2]? = some (.cells #[.int .i64 0] 33 (0, 0)) := ⟨hC4.blk HK.out.1 (fun e => e), hC4.blk HK.out.2.1 (fun e => e), hC4.blk HK.out.2.2 (fun e => e)⟩
    have q0 := cell_of hk4.1 0
    have q1 := cell_of hk4.1 1
    have q2 := cell_of hk4.1 2
    have q3 := cell_of hk4.1 3
    have q4 := cell_of hk4.1 4
    have f0 := free_of hk4.1 0
    have f1 := free_of hk4.1 1
    have f2 := free_of hk4.1 2
    have f3 := free_of hk4.1 3
    have f4 := free_of hk4.1 4
    have r2 := cell_of hk4.2.1 0
    have g2 := free_of hk4.2.1 0
    have r3 := cell_of hk4.2.2 0
    have g3 := free_of hk4.2.2 0
    obtain ⟨w6, hw6⟩ : ∃ w6, (w4.setCell ⟨B + 1, 0, none⟩ (.int .i64 p)).setCell ⟨B + 2, 0, none⟩ (.int .i64 n) = w6 := ⟨_, rfl⟩
    have hk6 : w6.heap[B]? = some (.cells #[.int .u8 0, .int .i64 0, .string ⟨#[]⟩, .slice none 0 0, .slice none 0 0] 25 (0, 0)) ∧ w6.heap[B + 1]? = some (.cells #[.int .i64 p] 3 (0, 0)) ∧ w6.heap[B + 2]? = some (.cells #[.int .i64 n] 33 (0, 0)) := by
      rw [← hw6]
      exact ⟨blk_set_other (blk_set_other hk4.1 (show B ≠ B + 1 by omega) _) (show B ≠ B + 2 by omega) _, blk_set_other ((blk_set hk4.2.1 0 _).trans rfl) (show B + 1 ≠ B + 2 by omega) _, (blk_set (blk_set_other hk4.2.2 (show B + 2 ≠ B + 1 by omega) _) 0 _).trans rfl⟩
    have HC6 : Hid (Chg (fun k => B ≤ k) w w6) := Lib.hid (by
      rw [← hw6]
      exact ((((HC3.out.trans hC4).mono (fun k _ e => e.elim)).set (p := ⟨B + 1, 0, none⟩) (fun _ => Nat.le_succ _) _).set (p := ⟨B + 2, 0, none⟩) (fun _ => show B ≤ B + 2 by omega) _))
    have HK6 := Lib.hid hk6
    clear hC4 hb4 HT
    have p0 := cell_of hk6.1 0
    have p1 := cell_of hk6.1 1
    have p2 := cell_of hk6.1 2
    have p3 := cell_of hk6.1 3
    have p4 := cell_of hk6.1 4
    have p5 := cell_of hk6.2.1 0
    have p6 := cell_of hk6.2.2 0
    have d0 := free_of hk6.1 0
    have d1 := free_of hk6.1 1
    have d2 := free_of hk6.1 2
    have d3 := free_of hk6.1 3
    have d4 := free_of hk6.1 4
    have d5 := free_of hk6.2.1 0
    have d6 := free_of hk6.2.2 0
    clear hk4 hk6
    go_wp2_with fail
    go_region
    go_wp2_with fail
    have hS := set7 (W1 := w6) HK6.out.1 HK6.out.2.1 HK6.out.2.2 (.int .u8 0) (.int .i64 0) (.string ⟨#[]⟩) (.slice none 0 0) (.slice none 0 0) (.int .i64 p) (.int .i64 n)
    rw [HR.out]
    generalize World.setCell _ (⟨B + 2, 0, none⟩ : Addr) _ = W at hS ⊢
    show Leaves _ _ _ _ [] .returning _
    refine ⟨_, results3 (w := W.drew) rfl rfl rfl rfl hS.1 (cell_of hS.2.1 0) (cell_of hS.2.2.1 0), rfl, ?_⟩
    exact chg_new (F := fun k => B ≤ k) (HC6.out.trans (hS.2.2.2.mono (fun k _ e => e.1))).drew (fun k e => by rw [HB.out]; exact e)
  | ok L =>
    have hfin := tokens_fine ht
    have hle := tokens_le ht
    have hlen : (bl s).length = s.size := bl_len' s
    have hl := hfin.1
    have hLL : L.length ≤ 65536 := by omega
    have hf : TokFine L := tok_fine hl (by omega)
    have HT := Lib.hid (Lx.tokens_ok s w3 HG3.out.1 L ht)
    have hR : parseP (bl s) = match valueD L s.size 60 0 0 with | .error q => .error q | .ok (x, i, _) => match L[i]? with | none => .ok x | some t => .error (t.at_, 12) := by unfold parseP; rw [ht, ← hlen]; rfl
    have HR := Lib.hid hR
    have HF := Lib.hid hf
    have HL := Lib.hid hl
    clear ht hfin hR hf hl hlen hle
    go_enter_defers Tryz.func29, Tryz.ntmps29
    go_wp2_with fail
    refine HT.out.mono ?_
    rintro e w4 ⟨⟨v, rfl, ho⟩, hb4⟩
    rw [HZ3.out] at ho
    have hti := tok_in ho
    have hC4 := (Chg.refl (fun _ => False) w3).callee hb4
    have hk4 : w4.heap[B]? = some (.cells #[.int .u8 0, .int .i64 0, .string ⟨#[]⟩, .slice none 0 0, .slice none 0 0] 25 (0, 0)) ∧ w4.heap[B + 1]? = some (.cells #[.int .i64 0] 3 (0, 0)) ∧ w4.heap[B + 2]? = some (.cells #[.int .i64 0] 33 (0, 0)) := ⟨hC4.blk HK.out.1 (fun e => e), hC4.blk HK.out.2.1 (fun e => e), hC4.blk HK.out.2.2 (fun e => e)⟩
    have q0 := cell_of hk4.1 0
    have q1 := cell_of hk4.1 1
    have q2 := cell_of hk4.1 2
    have q3 := cell_of hk4.1 3
    have q4 := cell_of hk4.1 4
    have f0 := free_of hk4.1 0
    have f1 := free_of hk4.1 1
    have f2 := free_of hk4.1 2
    have f3 := free_of hk4.1 3
    have f4 := free_of hk4.1 4
    have r2 := cell_of hk4.2.1 0
    have g2 := free_of hk4.2.1 0
    have r3 := cell_of hk4.2.2 0
    have g3 := free_of hk4.2.2 0
    obtain ⟨w6, hw6⟩ : ∃ w6, (w4.setCell ⟨B + 1, 0, none⟩ (.int .i64 0)).setCell ⟨B + 2, 0, none⟩ (.int .i64 0) = w6 := ⟨_, rfl⟩
    have hk6 : w6.heap[B]? = some (.cells #[.int .u8 0, .int .i64 0, .string ⟨#[]⟩, .slice none 0 0, .slice none 0 0] 25 (0, 0)) ∧ w6.heap[B + 1]? = some (.cells #[.int .i64 0] 3 (0, 0)) ∧ w6.heap[B + 2]? = some (.cells #[.int .i64 0] 33 (0, 0)) := by
      rw [← hw6]
      exact ⟨blk_set_other (blk_set_other hk4.1 (show B ≠ B + 1 by omega) _) (show B ≠ B + 2 by omega) _, blk_set_other ((blk_set hk4.2.1 0 _).trans rfl) (show B + 1 ≠ B + 2 by omega) _, (blk_set (blk_set_other hk4.2.2 (show B + 2 ≠ B + 1 by omega) _) 0 _).trans rfl⟩
    have hC46 : Chg (fun k => B ≤ k ∧ k < B + 3) w4 w6 := by
      rw [← hw6]
      exact ((Chg.refl (fun k => B ≤ k ∧ k < B + 3) w4).set (p := ⟨B + 1, 0, none⟩) (fun _ => ⟨Nat.le_succ _, show B + 1 < B + 3 by omega⟩) _).set (p := ⟨B + 2, 0, none⟩) (fun _ => ⟨show B ≤ B + 2 by omega, show B + 2 < B + 3 by omega⟩) _
    have p5 := cell_of hk6.2.2 0
    obtain ⟨w7, hw7⟩ : ∃ w7, w6.alloc (.cells #[v, .int .i64 0, .int .i64 s.size, .int .i64 0] 73) = w7 := ⟨_, rfl⟩
    obtain ⟨b, hb⟩ : ∃ b, w6.heap.size = b := ⟨_, rfl⟩
    have hC67 : Chg (fun _ => False) w6 w7 := by rw [← hw7]; exact (Chg.refl _ w6).alloc _
    have hp7 : Psr b v 0 s.size 0 w7 := by rw [← hw7, ← hb]; exact blk_new w6 _
    have hk7 : w7.heap[B]? = some (.cells #[.int .u8 0, .int .i64 0, .string ⟨#[]⟩, .slice none 0 0, .slice none 0 0] 25 (0, 0)) ∧ w7.heap[B + 1]? = some (.cells #[.int .i64 0] 3 (0, 0)) ∧ w7.heap[B + 2]? = some (.cells #[.int .i64 0] 33 (0, 0)) := ⟨hC67.blk hk6.1 (fun e => e), hC67.blk hk6.2.1 (fun e => e), hC67.blk hk6.2.2 (fun e => e)⟩
    have hbB : B + 3 ≤ b := by rw [← hb, ← HZ3.out]; exact Nat.le_trans hC4.size hC46.size
    have hC47 := hC46.trans (hC67.mono (fun k _ e => e.elim))
    have hsz4 : w4.heap.size ≤ b := by rw [← hb]; exact hC46.size
    have hC7 : Chg (fun k => B ≤ k) w w7 := ((HC3.out.trans hC4).mono (fun k _ e => e.elim)).trans (hC47.mono (fun k _ e => e.1))
    have HT7 := Lib.hid (tok_new ho hsz4 hC47)
    have HG7 := Lib.hid (gm_new HGW.out HB.out hC7 (Nat.le_trans (Nat.le_add_right B 3) hbB))
    have hA7 : Amb b v L w7 := amb_of HT7.out HG7.out (Chg.refl _ _)
    obtain ⟨ad, cap, rfl, hlc, hcm, _⟩ := hti
    obtain ⟨LL, hLe⟩ : ∃ LL, L.length = LL := ⟨_, rfl⟩
    have HLe := Lib.hid hLe
    have HV : Hid (Calls Tryz.prog 49 #[.pointer (some ⟨b, 0, none⟩), .int .i64 1] w7 (NodeEnds b (.slice ad L.length cap) s.size w7 (valueD L s.size 60 0 0))) := Lib.hid (value_ok HF.out HL.out 60 1 rfl 0 0 w7 hp7 hA7 (Nat.zero_le _))
    have HP7 := Lib.hid hp7
    have HK7 := Lib.hid hk7
    have HC7 := Lib.hid hC7
    have HBB := Lib.hid hbB
    have HS7 : Hid (w7.heap.size = b + 1) := Lib.hid (by rw [← hw7, ← hb]; simp)
    rw [hLe] at HV hw7 HP7 HT7 hlc hLL ⊢
    clear hC4 hb4 HT ho hk4 hk6 hC46 hC67 hp7 hk7 hC47 hsz4 hA7 hcm hLe hC7
    go_wp2_with fail
    cases hv : valueD L s.size 60 0 0 with
    | error q =>
      obtain ⟨p, n⟩ := q
      have HR2 : Hid (parseP (bl s) = .error (p, n)) := Lib.hid (by rw [HR.out, hv])
      rw [hv] at HV
      clear hv
      refine HV.out.mono ?_
      rintro e w8 ⟨rfl, hC8⟩
      have D1 := hC8.blk HK7.out.1 (fun e => by have := HBB.out; omega)
      have D2 := hC8.blk HK7.out.2.1 (fun e => by have := HBB.out; omega)
      have D3 := hC8.blk HK7.out.2.2 (fun e => by have := HBB.out; omega)
      have HC8 := Lib.hid hC8
      clear hC8
      go_wp2_with fail
      refine leaves_cons (f := 48) (args := #[.pointer (some ⟨B, 0, none⟩), .pointer (some ⟨B + 1, 0, none⟩), .pointer (some ⟨B + 2, 0, none⟩)]) (by simp) (by simp [go_sem]) ?_
      refine (pcatch_fault B _ _ _ _ _ _ _ _ _ _ D1 D2 D3).mono ?_
      rintro e u' w11 ⟨rfl, rfl, t1, t2, t3, t4⟩
      rw [HR2.out]
      show Leaves _ _ _ _ [] .returning _
      refine ⟨_, results3 rfl rfl rfl rfl t1 (cell_of t2 0) (cell_of t3 0), rfl, ?_⟩
      exact chg_new (F := fun k => B ≤ k) ((HC7.out.andThen HC8.out (fun k hk (e : k = b) => by have := HBB.out; omega)).trans t4) (fun k e => by rw [HB.out]; exact e)
    | ok xr =>
      obtain ⟨x, i, n⟩ := xr
      rw [hv] at HV
      have hR2 : parseP (bl s) = match L[i]? with | none => .ok x | some t => .error (t.at_, 12) := by rw [HR.out, hv]
      clear hv
      refine HV.out.mono ?_
      rintro e w8 ⟨nv, kv, rfl, hp8, hin8, hC8⟩
      obtain ⟨an, cn, ak, ck, rfl, rfl, _⟩ := hin8.forms
      have hk8 : w8.heap[B]? = some (.cells #[.int .u8 0, .int .i64 0, .string ⟨#[]⟩, .slice none 0 0, .slice none 0 0] 25 (0, 0)) ∧ w8.heap[B + 1]? = some (.cells #[.int .i64 0] 3 (0, 0)) ∧ w8.heap[B + 2]? = some (.cells #[.int .i64 0] 33 (0, 0)) := ⟨hC8.blk HK7.out.1 (fun e => by have := HBB.out; omega), hC8.blk HK7.out.2.1 (fun e => by have := HBB.out; omega), hC8.blk HK7.out.2.2 (fun e => by have := HBB.out; omega)⟩
      have q0 := cell_of hk8.1 0
      have q1 := cell_of hk8.1 1
      have q2 := cell_of hk8.1 2
      have q3 := cell_of hk8.1 3
      have q4 := cell_of hk8.1 4
      have f0 := free_of hk8.1 0
      have f1 := free_of hk8.1 1
      have f2 := free_of hk8.1 2
      have f3 := free_of hk8.1 3
      have f4 := free_of hk8.1 4
      have r2 := cell_of hk8.2.1 0
      have g2 := free_of hk8.2.1 0
      have r3 := cell_of hk8.2.2 0
      have g3 := free_of hk8.2.2 0
      unfold ndV
      have HIN := Lib.hid hin8
      have HC8 := Lib.hid hC8
      obtain ⟨w9, hw9⟩ : ∃ w9, ((((w8.setCell ⟨B, 0, none⟩ (.int .u8 x.kind)).setCell ⟨B, 1, none⟩ (.int .i64 x.n)).setCell ⟨B, 2, none⟩ (.string x.text)).setCell ⟨B, 3, none⟩ (.slice an x.names.length cn)).setCell ⟨B, 4, none⟩ (.slice ak x.kids.length ck) = w9 := ⟨_, rfl⟩
      have hC9 : Chg (fun k => k = B) w8 w9 := by rw [← hw9]; exact chg5 (F := fun k => k = B) (B := B) (Chg.refl _ w8) (fun _ => rfl) _ _ _ _ _
      have hk9 : w9.heap[B]? = some (.cells #[.int .u8 x.kind, .int .i64 x.n, .string x.text, .slice an x.names.length cn, .slice ak x.kids.length ck] 25 (0, 0)) ∧ w9.heap[B + 1]? = some (.cells #[.int .i64 0] 3 (0, 0)) ∧ w9.heap[B + 2]? = some (.cells #[.int .i64 0] 33 (0, 0)) := ⟨by rw [← hw9]; exact end5 hk8.1 _ _ _ _ _, hC9.blk hk8.2.1 (fun e => by omega), hC9.blk hk8.2.2 (fun e => by omega)⟩
      have hp9 := hp8.chg hC9 (fun (e : b = B) => by have := HBB.out; omega)
      have a0 := cell_of hp9 1
      have HK9 := Lib.hid hk9
      have HC9 := Lib.hid hC9
      have HP9 := Lib.hid hp9
      cases hi : L[i]? with
      | some t =>
        have hib : (i : Int) < (LL : Int) := by have := (List.getElem?_eq_some_iff.1 hi).1; have := HLe.out; omega
        have HR3 : Hid (parseP (bl s) = .error (t.at_, 12)) := Lib.hid (by rw [hR2, hi])
        have hw12 : wrongP L s.size i 12 = (t.at_, 12) := by unfold wrongP; rw [hi]
        have HC79 : Hid (Chg (F3 B b) w7 w9) := Lib.hid ((HC8.out.mono (fun k _ e => .inl e)).trans (hC9.mono (fun k _ (e : k = B) => .inr ⟨by omega, by omega⟩)))
        have HW := Lib.hid (wrong_calls hp9 (amb_of HT7.out HG7.out HC79.out).tok 12)
        rw [hw12] at HW
        clear hi hw12 hC9 hk9 hp9 hk8 hp8 hin8 hR2 hw7 hw6
        go_wp2_with fail
        refine HW.out.mono ?_
        rintro e w10 ⟨rfl, hCa⟩
        have D1 := hCa.blk HK9.out.1 (fun e => e)
        have D2 := hCa.blk HK9.out.2.1 (fun e => e)
        have D3 := hCa.blk HK9.out.2.2 (fun e => e)
        have HCA := Lib.hid hCa
        clear hCa
        go_wp2_with fail
        refine leaves_cons (f := 48) (args := #[.pointer (some ⟨B, 0, none⟩), .pointer (some ⟨B + 1, 0, none⟩), .pointer (some ⟨B + 2, 0, none⟩)]) (by simp) (by simp [go_sem]) ?_
        refine (pcatch_fault B _ _ _ _ _ _ _ _ _ _ D1 D2 D3).mono ?_
        rintro e u' w11 ⟨rfl, rfl, t1, t2, t3, t4⟩
        rw [HR3.out]
        show Leaves _ _ _ _ [] .returning _
        refine ⟨_, results3 rfl rfl rfl rfl t1 (cell_of t2 0) (cell_of t3 0), rfl, ?_⟩
        exact chg_new (F := fun k => B ≤ k) ((((HC7.out.andThen HC8.out (fun k hk (e : k = b) => by have := HBB.out; omega)).trans (HC9.out.mono (fun k _ (e : k = B) => by omega))).trans (HCA.out.mono (fun k _ e => e.elim))).trans t4) (fun k e => by rw [HB.out]; exact e)
      | none =>
        have hib : ¬ (i : Int) < (LL : Int) := by have := List.getElem?_eq_none_iff.1 hi; have := HLe.out; omega
        have HR3 : Hid (parseP (bl s) = .ok x) := Lib.hid (by rw [hR2, hi])
        clear hi hC9 hk8 hp8 hin8 hR2 hw7 hw6
        have q0n := cell_of hk9.1 0
        have q1n := cell_of hk9.1 1
        have q2n := cell_of hk9.1 2
        have q3n := cell_of hk9.1 3
        have q4n := cell_of hk9.1 4
        have f0n := free_of hk9.1 0
        have f1n := free_of hk9.1 1
        have f2n := free_of hk9.1 2
        have f3n := free_of hk9.1 3
        have f4n := free_of hk9.1 4
        have r2n := cell_of hk9.2.1 0
        have g2n := free_of hk9.2.1 0
        have r3n := cell_of hk9.2.2 0
        have g3n := free_of hk9.2.2 0
        clear hk9 hp9
        go_wp2_with fail
        refine leaves_cons (f := 48) (args := #[.pointer (some ⟨B, 0, none⟩), .pointer (some ⟨B + 1, 0, none⟩), .pointer (some ⟨B + 2, 0, none⟩)]) (by simp) (by simp [go_sem]) ?_
        refine (pcatch_idle B _).mono ?_
        rintro e u' w11 ⟨rfl, rfl, rfl⟩
        rw [HR3.out]
        have hS := set7 HK9.out.1 HK9.out.2.1 HK9.out.2.2 (.int .u8 x.kind) (.int .i64 x.n) (.string x.text) (.slice an x.names.length cn) (.slice ak x.kids.length ck) (.int .i64 0) (.int .i64 0)
        generalize World.setCell _ (⟨B + 2, 0, none⟩ : Addr) _ = W at hS ⊢
        show Leaves _ _ _ _ [] .returning _
        refine ⟨_, results3 rfl rfl rfl rfl hS.1 (cell_of hS.2.1 0) (cell_of hS.2.2.1 0), _, _, rfl, ?_, ?_⟩
        · refine NdIn.keep (keep_offs (F := fun k => k < w7.heap.size) ((HC9.out.mono (fun k _ (e : k = B) => ?_)).trans (hS.2.2.2.mono (fun k _ e => ?_))) (fun q _ h1 h2 => h1 ?_)) _ _ _ HIN.out
          · show k < w7.heap.size; have := HS7.out; have := HBB.out; omega
          · show k < w7.heap.size; have := HS7.out; have := HBB.out; have := e.2; omega
          · show q < w7.heap.size; have h2' : q < w.heap.size := h2; have := HC7.out.size; omega
        · exact chg_new (F := fun k => B ≤ k) (((HC7.out.andThen HC8.out (fun k hk (e : k = b) => by have := HBB.out; omega)).trans (HC9.out.mono (fun k _ (e : k = B) => by omega))).trans (hS.2.2.2.mono (fun k _ e => e.1))) (fun k e => by rw [HB.out]; exact e)
end Go.Proofs.YtaklmocjaokkpaaGreatDoor.Tr
namespace Go.Proofs.YtaklmocjaokkpaaGreatDoor.Tr
set_option linter.unusedVariables false
set_option linter.unusedSimpArgs false
open Go.RowKit Go.Shelf Go.Proofs.YtaklmocjaokkpaaGreatDoor.Mem

theorem awake1 : parseP (bl ⟨#[40, 43, 32, 49, 41]⟩) = .error (4, 12) := by kernel_rfl
theorem awake2 : parseP (bl ⟨#[40, 43, 32, 49, 32, 50, 41]⟩) = .ok (.mk 11 0 ⟨#[43]⟩ [] [.mk 1 1 ⟨#[]⟩ [] [], .mk 1 2 ⟨#[]⟩ [] []]) := by kernel_rfl
set_option maxRecDepth 100000 in
set_option maxHeartbeats 2000000 in
theorem pawake_calls (w : World) (hg : Gm w) : Calls Tryz.prog 28 #[] w fun e w' => e = .returned (.bool true) ∧ Chg (fun _ => False) w w' := by
  have H1 := Lib.hid (parse_calls ⟨#[40, 43, 32, 49, 41]⟩ w hg)
  rw [awake1] at H1
  have H2 := Lib.hid (fun W (hW : Chg (fun _ => False) w W) => parse_calls ⟨#[40, 43, 32, 49, 32, 50, 41]⟩ W (hg.later hW))
  simp only [awake2] at H2
  clear hg
  go_enter Tryz.func28, Tryz.ntmps28
  go_wp2_with fail
  refine H1.out.mono ?_
  rintro e w1 ⟨rfl, hC1⟩
  have HC1 := Lib.hid hC1
  clear hC1
  go_wp2_with fail
  refine (H2.out _ (HC1.out.alloc _)).mono ?_
  rintro e w2 ⟨nv, kv, rfl, hin, hC2⟩
  obtain ⟨an, cn, ak, ck, rfl, rfl, _⟩ := hin.forms
  have HC2 := Lib.hid ((HC1.out.alloc _).trans hC2)
  clear hC2 hin
  unfold ndV
  simp only [Nd.kind, Nd.n, Nd.text, Nd.names, Nd.kids, List.length_nil, List.length_cons]
  go_wp2_with fail
  go_ret
  exact ⟨rfl, HC2.out.alloc _⟩
end Go.Proofs.YtaklmocjaokkpaaGreatDoor.Tr
