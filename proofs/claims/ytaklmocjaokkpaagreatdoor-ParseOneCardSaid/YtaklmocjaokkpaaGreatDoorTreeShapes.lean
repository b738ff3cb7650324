/- The program's shapes: what each kind of a node has, walked; no condition. -/
import Derived.Test.YtaklmocjaokkpaaGreatDoorTreeMap
import Derived.Laws.EntriesVeiled
import Derived.Laws.ResultCell
namespace Go.Proofs.YtaklmocjaokkpaaGreatDoor.Tr
set_option linter.unusedVariables false
set_option linter.unusedSimpArgs false
open Go.RowKit Go.Shelf Go.Proofs.YtaklmocjaokkpaaGreatDoor.Mem

def fnV (f : Nat) : Value := .func (.func f) #[] #[]
def shV (names least most : Int) (f : Nat) : Value := .agg #[.int .i64 names, .int .i64 least, .int .i64 most, fnV f]
abbrev fBlank : Nat := 84
abbrev fNamed : Nat := 87
abbrev fBool : Nat := 85
abbrev fStr : Nat := 86
abbrev fPrim : Nat := 88
/-- The table. -/
def shapeL : List (Int × Value) := [(1, shV 0 0 0 fBlank), (2, shV 0 0 0 fBool), (3, shV 0 0 0 fStr), (4, shV 0 0 0 fBlank), (5, shV 0 0 0 fNamed), (6, shV (-1) 1 1 fNamed), (7, shV 0 1 4000 fBlank), (8, shV 0 2 2 fNamed), (9, shV 0 3 3 fBlank), (10, shV 0 1 4000 fBlank),
  (11, shV 0 0 2 fPrim), (12, shV 0 1 1 fNamed), (13, shV 0 1 4000 fBlank), (14, shV 0 2 2 fBlank), (15, shV 0 2 2 fBlank), (16, shV 0 3 3 fBlank), (17, shV 1 1 1 fBlank), (18, shV 2 1 1 fNamed), (19, shV 0 1 1 fBlank)]
theorem zeroShape (w : World) : (zeroValue 90).run Tryz.prog w = .ok (.agg #[.int .i64 0, .int .i64 0, .int .i64 0, .nilFunc]) w := by kernel_rfl
theorem old_cells {w : World} {b : Nat} {cs : Array Value} {t : TypeId} (h : w.heap[b]? = some (.cells cs t (0, 0))) (o : Obj) (i : Nat) (v : Value) (hv : cs[i]? = some v) : (w.alloc o).cell? ⟨b, i, none⟩ = some v ∧ (w.alloc o).frozen? ⟨b, i, none⟩ = false := by
  have hk : (w.alloc o).heap[b]? = some (.cells cs t (0, 0)) := (Below.heap_alloc _ _ _ (lt_of_block h)).trans h
  exact ⟨by simp [World.cell?, hk, hv], free_of hk i⟩
theorem results_cr {P : Program} {fn : Func} {p u : Tmp} {ty : TypeId} (h : fn.results = #[.cell p ty, .tmp u]) (tmps : Array Value) (w : World) (g : Nat) (t : TypeId) (cs : Array Value) (fr : Nat × Nat) (d : TypeDesc)
    (hp : tmps.getD p undef = .pointer (some ⟨g, 0, none⟩)) (hg : w.heap[g]? = some (.cells cs t fr)) (hu : P.underlying ty = some d) (hd : (match d with | .struct _ | .array _ _ => true | _ => false) = true) (hi : (P.info? ty).map (·.size) = some cs.size) :
    (results fn tmps).run P w = .ok (.tuple #[.agg cs, tmps.getD u undef]) w := by
  rw [results_cell_tmp h, hp]
  simp [asAddr, run_loadVar_row w g t ty cs fr d hg hu hd hi]
theorem shape_end {w : World} {b : Nat} {v0 v1 v2 v3 : Value} {t : TypeId} (h : w.heap[b]? = some (.cells #[v0, v1, v2, v3] t (0, 0))) (o : Obj) (x0 x1 x2 x3 : Value) :
    (((((w.alloc o).setCell ⟨b, 0, none⟩ x0).setCell ⟨b, 1, none⟩ x1).setCell ⟨b, 2, none⟩ x2).setCell ⟨b, 3, none⟩ x3).heap[b]? = some (.cells #[x0, x1, x2, x3] t (0, 0)) := by
  have hk : (w.alloc o).heap[b]? = some (.cells #[v0, v1, v2, v3] t (0, 0)) := (Below.heap_alloc _ _ _ (lt_of_block h)).trans h
  exact (blk_set (blk_set (blk_set (blk_set hk 0 _) 1 _) 2 _) 3 _).trans rfl
set_option maxRecDepth 100000 in
set_option maxHeartbeats 8000000 in
theorem shapes_some (kind : Int) (a b c : Int) (f : Nat) (w : World) (hr : (lookN shapeL kind).getD (.agg #[.int .i64 0, .int .i64 0, .int .i64 0, .nilFunc]) = (.agg #[.int .i64 a, .int .i64 b, .int .i64 c, .func (.func f) #[] #[]]) ∧ (lookN shapeL kind).isSome = true) :
    Calls Tryz.prog 64 #[.int .u8 kind] w fun e w' => e = .returned (.tuple #[(.agg #[.int .i64 a, .int .i64 b, .int .i64 c, .func (.func f) #[] #[]]), .bool true]) ∧ Chg (fun _ => False) w w' := by
  have HR := Lib.hid hr
  clear hr
  go_enter Tryz.func64, Tryz.ntmps64
  go_wp2_with (first
    | (refine wpList_makeMap _ rfl _ rfl ?_; intro M w1 hMM hm hc; have HMM : Hid (w.heap.size < M) := Lib.hid (by rw [hMM]; simp); have HB : Hid (w1.heap[w.heap.size]? = some (.cells #[.int .i64 0, .int .i64 0, .int .i64 0, .nilFunc] 90)) := Lib.hid ((hc.block _ (by simp) (fun e => e)).trans (blk_new w _)); have HM : Hid (MapIs w1 M (shapeL.take 0)) := hm; have HCC : Hid (Chg (fun _ => False) w w1) := Lib.hid (((Chg.refl _ w).alloc _).trans hc); clear hm hc hMM)
    | (refine wpList_insert_tab _ rfl _ _ _ _ rfl 5 90 Tryz.underlying115 Tryz.underlying5 M _ shapeL HM.out _ _ rfl (by rfl) rfl rfl rfl ?_; clear HM; intro w2 hm hc; have HM := Lib.hid hm; have HBD : Hid (w2.heap[w.heap.size]? = some (.cells #[.int .i64 0, .int .i64 0, .int .i64 0, .nilFunc] 90)) := Lib.hid ((hc.block _ (lt_of_block HB.out) (fun e => by have h := HMM.out; omega)).trans HB.out); clear HB; have HB := HBD; clear HBD; have HCD : Hid (Chg (fun _ => False) w w2) := Lib.hid (HCC.out.andThen hc (fun j hj e => absurd hj (by have h := HMM.out; omega))); clear HCC hm hc; have HCC := HCD; clear HCD)
    | (refine wpList_lookup_u8 _ rfl _ _ _ rfl 5 90 Tryz.underlying115 Tryz.underlying5 _ (zeroShape _) M kind shapeL rfl rfl HM.out _ _ HR.out ?_; have ⟨b0, e0⟩ := old_cells HB.out (.cells #[.int .i64 a, .int .i64 b, .int .i64 c, .func (.func f) #[] #[]] 90) 0 _ rfl; have ⟨b1, e1⟩ := old_cells HB.out (.cells #[.int .i64 a, .int .i64 b, .int .i64 c, .func (.func f) #[] #[]] 90) 1 _ rfl; have ⟨b2, e2⟩ := old_cells HB.out (.cells #[.int .i64 a, .int .i64 b, .int .i64 c, .func (.func f) #[] #[]] 90) 2 _ rfl; have ⟨b3, e3⟩ := old_cells HB.out (.cells #[.int .i64 a, .int .i64 b, .int .i64 c, .func (.func f) #[] #[]] 90) 3 _ rfl))
  refine bodyPost_ret (results_cr rfl _ _ w.heap.size 90 _ (0, 0) _ rfl (shape_end HB.out _ _ _ _ _) Tryz.underlying90 rfl (by kernel_rfl)) rfl ?_
  exact ⟨rfl, ((((HCC.out.alloc _).set (fun h => absurd h (by simp)) _).set (fun h => absurd h (by simp)) _).set (fun h => absurd h (by simp)) _).set (fun h => absurd h (by simp)) _⟩
set_option maxRecDepth 100000 in
set_option maxHeartbeats 8000000 in
theorem shapes_none (kind : Int) (w : World) (hr : (lookN shapeL kind).getD (.agg #[.int .i64 0, .int .i64 0, .int .i64 0, .nilFunc]) = (.agg #[.int .i64 0, .int .i64 0, .int .i64 0, .nilFunc]) ∧ (lookN shapeL kind).isSome = false) :
    Calls Tryz.prog 64 #[.int .u8 kind] w fun e w' => e = .returned (.tuple #[(.agg #[.int .i64 0, .int .i64 0, .int .i64 0, .nilFunc]), .bool false]) ∧ Chg (fun _ => False) w w' := by
  have HR := Lib.hid hr
  clear hr
  go_enter Tryz.func64, Tryz.ntmps64
  go_wp2_with (first
    | (refine wpList_makeMap _ rfl _ rfl ?_; intro M w1 hMM hm hc; have HMM : Hid (w.heap.size < M) := Lib.hid (by rw [hMM]; simp); have HB : Hid (w1.heap[w.heap.size]? = some (.cells #[.int .i64 0, .int .i64 0, .int .i64 0, .nilFunc] 90)) := Lib.hid ((hc.block _ (by simp) (fun e => e)).trans (blk_new w _)); have HM : Hid (MapIs w1 M (shapeL.take 0)) := hm; have HCC : Hid (Chg (fun _ => False) w w1) := Lib.hid (((Chg.refl _ w).alloc _).trans hc); clear hm hc hMM)
    | (refine wpList_insert_tab _ rfl _ _ _ _ rfl 5 90 Tryz.underlying115 Tryz.underlying5 M _ shapeL HM.out _ _ rfl (by rfl) rfl rfl rfl ?_; clear HM; intro w2 hm hc; have HM := Lib.hid hm; have HBD : Hid (w2.heap[w.heap.size]? = some (.cells #[.int .i64 0, .int .i64 0, .int .i64 0, .nilFunc] 90)) := Lib.hid ((hc.block _ (lt_of_block HB.out) (fun e => by have h := HMM.out; omega)).trans HB.out); clear HB; have HB := HBD; clear HBD; have HCD : Hid (Chg (fun _ => False) w w2) := Lib.hid (HCC.out.andThen hc (fun j hj e => absurd hj (by have h := HMM.out; omega))); clear HCC hm hc; have HCC := HCD; clear HCD)
    | (refine wpList_lookup_u8 _ rfl _ _ _ rfl 5 90 Tryz.underlying115 Tryz.underlying5 _ (zeroShape _) M kind shapeL rfl rfl HM.out _ _ HR.out ?_; have ⟨b0, e0⟩ := old_cells HB.out (.cells #[.int .i64 0, .int .i64 0, .int .i64 0, .nilFunc] 90) 0 _ rfl; have ⟨b1, e1⟩ := old_cells HB.out (.cells #[.int .i64 0, .int .i64 0, .int .i64 0, .nilFunc] 90) 1 _ rfl; have ⟨b2, e2⟩ := old_cells HB.out (.cells #[.int .i64 0, .int .i64 0, .int .i64 0, .nilFunc] 90) 2 _ rfl; have ⟨b3, e3⟩ := old_cells HB.out (.cells #[.int .i64 0, .int .i64 0, .int .i64 0, .nilFunc] 90) 3 _ rfl))
  refine bodyPost_ret (results_cr rfl _ _ w.heap.size 90 _ (0, 0) _ rfl (shape_end HB.out _ _ _ _ _) Tryz.underlying90 rfl (by kernel_rfl)) rfl ?_
  exact ⟨rfl, ((((HCC.out.alloc _).set (fun h => absurd h (by simp)) _).set (fun h => absurd h (by simp)) _).set (fun h => absurd h (by simp)) _).set (fun h => absurd h (by simp)) _⟩
/-- The function that looks at a kind's text. -/
def textF (kind : Nat) : Nat := if kind = 2 then fBool else if kind = 3 then fStr else if kind = 5 ∨ kind = 6 ∨ kind = 8 ∨ kind = 12 ∨ kind = 18 then fNamed else if kind = 11 then fPrim else fBlank
def manyI : Option Nat → Int
  | none => -1
  | some m => m
theorem lookN_none (kind : Nat) (h : kind = 0 ∨ 19 < kind) : lookN shapeL (kind : Int) = none := by
  unfold shapeL
  simp only [lookN]
  repeat rw [if_neg (by omega)]
theorem shapeOf_none (kind : Nat) (h : kind = 0 ∨ 19 < kind) : shapeOf kind = none := by
  unfold shapeOf
  split <;> first | rfl | omega
theorem shapes_calls (kind : Nat) (w : World) :
    Calls Tryz.prog 64 #[.int .u8 kind] w fun e w' => Chg (fun _ => False) w w' ∧
      ((shapeOf kind = none ∧ e = .returned (.tuple #[.agg #[.int .i64 0, .int .i64 0, .int .i64 0, .nilFunc], .bool false])) ∨
        ∃ many least most, shapeOf kind = some (many, least, most) ∧ e = .returned (.tuple #[.agg #[.int .i64 (manyI many), .int .i64 (least : Nat), .int .i64 (most : Nat), .func (.func (textF kind)) #[] #[]], .bool true])) := by
  by_cases h : kind = 0 ∨ 19 < kind
  · refine (shapes_none (kind : Int) w ⟨by rw [lookN_none kind h]; rfl, by rw [lookN_none kind h]; rfl⟩).mono ?_
    rintro e w' ⟨rfl, hc⟩
    exact ⟨hc, .inl ⟨shapeOf_none kind h, rfl⟩⟩
  · have h1 : 1 ≤ kind ∧ kind ≤ 19 := by omega
    have key : ∀ k : Nat, (1 ≤ k ∧ k ≤ 19) → ∃ many least most, shapeOf k = some (many, least, most) ∧ lookN shapeL (k : Int) = some (.agg #[.int .i64 (manyI many), .int .i64 (least : Nat), .int .i64 (most : Nat), .func (.func (textF k)) #[] #[]]) := by
      intro k hk
      obtain ⟨a, b⟩ := hk
      have : k = 1 ∨ k = 2 ∨ k = 3 ∨ k = 4 ∨ k = 5 ∨ k = 6 ∨ k = 7 ∨ k = 8 ∨ k = 9 ∨ k = 10 ∨ k = 11 ∨ k = 12 ∨ k = 13 ∨ k = 14 ∨ k = 15 ∨ k = 16 ∨ k = 17 ∨ k = 18 ∨ k = 19 := by omega
      rcases this with h | h | h | h | h | h | h | h | h | h | h | h | h | h | h | h | h | h | h <;> subst h <;> exact ⟨_, _, _, rfl, rfl⟩
    obtain ⟨many, least, most, k1, k2⟩ := key kind h1
    refine (shapes_some (kind : Int) _ _ _ _ w ⟨by rw [k2]; rfl, by rw [k2]; rfl⟩).mono ?_
    rintro e w' ⟨rfl, hc⟩
    exact ⟨hc, .inr ⟨many, least, most, k1, rfl⟩⟩
end Go.Proofs.YtaklmocjaokkpaaGreatDoor.Tr
