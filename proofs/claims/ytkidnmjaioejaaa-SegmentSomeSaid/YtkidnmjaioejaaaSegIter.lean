/- slices.Backward at a row of numbers and at a row of parts: what its values give, one round after the other; for any loop body that keeps what lay below a block. -/
import Derived.RangeFuncNested
import Derived.RangeFuncBound
import Derived.RangeFuncCalls
import Derived.RangeFuncLeaves
import Derived.RangeFuncBox
import Derived.Shelf.Abstract
import Derived.Shelf.RegionOpen
import Derived.WalkKit
import Derived.OwnWalkIn
import Derived.TacticsInMore
import Derived.LoopNIn
import Derived.LoopIn
import Derived.Maps.AppendAt
import Derived.Test.YtkidnmjaioejaaaSegCut
namespace Go.Proofs.Ytkidnmjaioejaaa.Sg
set_option linter.unusedVariables false
set_option linter.unusedSimpArgs false
open Go.RowKit Go.Shelf Go.Proofs.Ytkidnmjaioejaaa.Mem
attribute [local go_sem] Oper.semAt_some

/-- What has come when r are still to come, from the last one on. -/
def bw {α : Type} (f : Nat → α) (len r : Nat) : List α := (List.range' r (len - r)).reverse.map f
theorem bw_start {α : Type} (f : Nat → α) (len : Nat) : bw f len len = [] := by simp [bw]
theorem bw_step {α : Type} (f : Nat → α) (len q : Nat) (h : q < len) : bw f len q = bw f len (q + 1) ++ [f q] := by
  unfold bw
  obtain ⟨d, hd⟩ : ∃ d, len - q = d + 1 := ⟨len - q - 1, by omega⟩
  rw [hd, show len - (q + 1) = d by omega, List.range'_succ]
  simp
theorem bw_len {α : Type} (f : Nat → α) (len r : Nat) : (bw f len r).length = len - r := by simp [bw]

def p0 : Part := ⟨0, .slice none 0 0, []⟩
set_option maxRecDepth 100000 in
set_option maxHeartbeats 2000000 in
theorem backI1_in (F : Fence) (n : Nat) (h7 : F.fn 63) (hro : F.round = none) (hn : 1 ≤ n) (l Bs b off len cap : Nat) (G : Nat → Prop) (zs : List Int) (hreach : len ≤ 100000) (hb : ¬ G b) (J Jx : List (Int × Int) → World → Prop)
    (hY : ∀ pre x W, J pre W → pre.length < len → YieldAt F (n - 1) Try.prog l #[.int .i64 x.1, .int .i64 x.2] W fun e W' =>
      (e = .returned (.bool true) ∧ J (pre ++ [x]) W' ∧ Chg G W W') ∨ (e = .returned (.bool false) ∧ Jx (pre ++ [x]) W'))
    (W : World) (hBs : W.cell? ⟨Bs, 0, none⟩ = some (.slice (some ⟨b, off, none⟩) len cap)) (hBn : ¬ G Bs) (hc : ∀ j, j < len → W.cell? ⟨b, off + j, none⟩ = some (.int .i64 (zs[j]?.getD 0))) (h0 : J [] W) :
    CallsIn F n Try.prog 63 #[.func (.yield l) #[] #[], .pointer (some ⟨Bs, 0, none⟩)] W fun e W' => (∃ v, e = .returned v) ∧
      ((∃ ys, ys = bw (fun j : Nat => ((j : Int), zs[j]?.getD 0)) len 0 ∧ J ys W') ∨ (∃ pre, True ∧ Jx pre W')) := by
  refine callsIn_of_wp Try.func63 rfl h7 ?_ hro
  simp only [Try.ntmps63, List.size_toArray, List.length_cons, List.length_nil, Nat.reduceAdd, Nat.reduceSub, Array.replicate_succ, Array.replicate_zero, List.push_toArray, List.append_toArray, List.nil_append, List.cons_append]
  gi_wp2
  gi_loopw [3] (fun i wr => ∃ r : Nat, r ≤ len ∧ i = .int .i64 ((r : Int) - 1) ∧ J (bw (fun j : Nat => ((j : Int), zs[j]?.getD 0)) len r) wr ∧ Chg G W wr)
    (fun i _ => (intOf i + 1).toNat)
  case atStart => exact ⟨len, Nat.le_refl _, rfl, by rw [bw_start]; exact h0, Chg.refl _ _⟩
  case round =>
    obtain ⟨r, hr, rfl, hJs, hnx⟩ := hrel
    have hsx : wr.cell? ⟨Bs, 0, none⟩ = some (.slice (some ⟨b, off, none⟩) len cap) := hnx.cell hBs hBn
    by_cases hlt : 0 < r
    · obtain ⟨q, rfl⟩ : ∃ q, r = q + 1 := ⟨r - 1, by omega⟩
      have hcx : wr.cell? ⟨b, off + q, none⟩ = some (.int .i64 (zs[q]?.getD 0)) := hnx.cell (hc q (by omega)) hb
      have hq0 : (0 : Int) ≤ (q : Int) := by omega
      have hq1 : (q : Int) < (len : Int) := by omega
      have e1 : ((q + 1 : Nat) : Int) - 1 = (q : Int) := by omega
      rw [e1]
      obtain ⟨fn, tmps, assign, body, hy, hR⟩ := hY _ ((q : Int), zs[q]?.getD 0) wr hJs (by rw [bw_len]; omega)
      dsimp only at hy
      have hst := bw_step (fun j : Nat => ((j : Int), zs[j]?.getD 0)) len q (by omega)
      gi_wp2
      refine hR.mono ?_
      rintro e W3 (⟨rfl, hJ3, hk3⟩ | ⟨rfl, hJx3⟩)
      · gi_wp2
        go_roundw
        case rel => exact ⟨q, by omega, rfl, by rw [hst]; exact hJ3, hnx.trans hk3⟩
        case measure => simp [intOf]
      · gi_wp2
        refine bodyPost_ret (results_none rfl _ _ _) rfl ?_
        exact ⟨⟨_, rfl⟩, .inr ⟨_, trivial, hJx3⟩⟩
    · obtain rfl : r = 0 := by omega
      gi_wp2
      go_end0
      exact ⟨⟨_, rfl⟩, .inl ⟨_, rfl, hJs⟩⟩
set_option maxRecDepth 100000 in
set_option maxHeartbeats 2000000 in
theorem backP1_in {α : Type} (f : Nat → α) (encs : α → Array Value) (F : Fence) (n : Nat) (h7 : F.fn 62) (hro : F.round = none) (hn : 1 ≤ n) (l Bs b off len cap : Nat) (G : Nat → Prop) (zs : List Part) (henc : ∀ j, j < len → encs (f j) = #[.int .i64 (j : Int), .agg #[.int .i64 (zs[j]?.getD p0).m, (zs[j]?.getD p0).v]]) (hreach : len ≤ 100000) (hb : ¬ G b) (J Jx : List α → World → Prop)
    (hY : ∀ pre x W, J pre W → pre.length < len → YieldAt F (n - 1) Try.prog l (encs x) W fun e W' =>
      (e = .returned (.bool true) ∧ J (pre ++ [x]) W' ∧ Chg G W W') ∨ (e = .returned (.bool false) ∧ Jx (pre ++ [x]) W'))
    (W : World) (hBs : W.cell? ⟨Bs, 0, none⟩ = some (.slice (some ⟨b, off, none⟩) len cap)) (hBn : ¬ G Bs) (hc : ∀ j, j < len → W.cell? ⟨b, off + j * 2, none⟩ = some (.int .i64 (zs[j]?.getD p0).m) ∧ W.cell? ⟨b, off + j * 2 + 1, none⟩ = some (zs[j]?.getD p0).v) (h0 : J [] W) :
    CallsIn F n Try.prog 62 #[.func (.yield l) #[] #[], .pointer (some ⟨Bs, 0, none⟩)] W fun e W' => (∃ v, e = .returned v) ∧
      ((∃ ys, ys = bw (f) len 0 ∧ J ys W') ∨ (∃ pre, True ∧ Jx pre W')) := by
  refine callsIn_of_wp Try.func62 rfl h7 ?_ hro
  simp only [Try.ntmps62, List.size_toArray, List.length_cons, List.length_nil, Nat.reduceAdd, Nat.reduceSub, Array.replicate_succ, Array.replicate_zero, List.push_toArray, List.append_toArray, List.nil_append, List.cons_append]
  gi_wp2
  gi_loopw [3] (fun i wr => ∃ r : Nat, r ≤ len ∧ i = .int .i64 ((r : Int) - 1) ∧ J (bw (f) len r) wr ∧ Chg G W wr)
    (fun i _ => (intOf i + 1).toNat)
  case atStart => exact ⟨len, Nat.le_refl _, rfl, by rw [bw_start]; exact h0, Chg.refl _ _⟩
  case round =>
    obtain ⟨r, hr, rfl, hJs, hnx⟩ := hrel
    have hsx : wr.cell? ⟨Bs, 0, none⟩ = some (.slice (some ⟨b, off, none⟩) len cap) := hnx.cell hBs hBn
    by_cases hlt : 0 < r
    · obtain ⟨q, rfl⟩ : ∃ q, r = q + 1 := ⟨r - 1, by omega⟩
      have hcx : wr.cell? ⟨b, off + q * 2, none⟩ = some (.int .i64 (zs[q]?.getD p0).m) := hnx.cell (hc q (by omega)).1 hb
      have hcx2 : wr.cell? ⟨b, off + q * 2 + 1, none⟩ = some (zs[q]?.getD p0).v := hnx.cell (hc q (by omega)).2 hb
      have hq0 : (0 : Int) ≤ (q : Int) := by omega
      have hq1 : (q : Int) < (len : Int) := by omega
      have e1 : ((q + 1 : Nat) : Int) - 1 = (q : Int) := by omega
      rw [e1]
      obtain ⟨fn, tmps, assign, body, hy, hR⟩ := hY _ (f q) wr hJs (by rw [bw_len]; omega)
      rw [henc q (by omega)] at hy
      have hst := bw_step (f) len q (by omega)
      gi_wp2
      refine hR.mono ?_
      rintro e W3 (⟨rfl, hJ3, hk3⟩ | ⟨rfl, hJx3⟩)
      · gi_wp2
        go_roundw
        case rel => exact ⟨q, by omega, rfl, by rw [hst]; exact hJ3, hnx.trans hk3⟩
        case measure => simp [intOf]
      · gi_wp2
        refine bodyPost_ret (results_none rfl _ _ _) rfl ?_
        exact ⟨⟨_, rfl⟩, .inr ⟨_, trivial, hJx3⟩⟩
    · obtain rfl : r = 0 := by omega
      gi_wp2
      go_end0
      exact ⟨⟨_, rfl⟩, .inl ⟨_, rfl, hJs⟩⟩
set_option maxRecDepth 100000 in
set_option maxHeartbeats 1000000 in
theorem backI0_in (F : Fence) (n : Nat) (h7 : F.fn 63) (hro : F.round = none) (l Bs cap : Nat) (ad : Option Addr) (J : List (Int × Int) → World → Prop) (W : World) (hBs : W.cell? ⟨Bs, 0, none⟩ = some (.slice ad 0 cap)) (h0 : J [] W) :
    CallsIn F n Try.prog 63 #[.func (.yield l) #[] #[], .pointer (some ⟨Bs, 0, none⟩)] W fun e W' => (∃ v, e = .returned v) ∧ J [] W' := by
  refine callsIn_of_wp Try.func63 rfl h7 ?_ hro
  simp only [Try.ntmps63, List.size_toArray, List.length_cons, List.length_nil, Nat.reduceAdd, Nat.reduceSub, Array.replicate_succ, Array.replicate_zero, List.push_toArray, List.append_toArray, List.nil_append, List.cons_append]
  gi_wp2
  gi_loopw [3] (fun i wr => i = .int .i64 (-1) ∧ J [] wr) (fun _ _ => 0)
  case atStart => exact ⟨rfl, h0⟩
  case round =>
    obtain ⟨rfl, hJs⟩ := hrel
    gi_wp2
    go_end0
    exact ⟨⟨_, rfl⟩, hJs⟩
set_option maxHeartbeats 1000000 in
/-- slices.Backward of numbers: the row is boxed; the function value captures the box. -/
theorem backI_in (F : Fence) (n : Nat) (h5 : F.fn 57) (hro : F.round = none) (a : Option Addr) (len cap : Nat) (w : World) :
    CallsIn F n Try.prog 57 #[.slice a len cap] w fun e w' => e = .returned (.func (.func 63) #[] #[.pointer (some ⟨w.heap.size, 0, none⟩)]) ∧ w' = w.alloc (.cells #[.slice a len cap] 49) := by
  refine callsIn_of_wp Try.func57 rfl h5 ?_ hro
  simp only [Try.ntmps57, List.size_toArray, List.length_cons, List.length_nil, Nat.reduceAdd, Nat.reduceSub, Array.replicate_succ, Array.replicate_zero, List.push_toArray, List.append_toArray, List.nil_append, List.cons_append]
  gi_wp2
  go_ret
  exact ⟨rfl, rfl⟩
set_option maxHeartbeats 1000000 in
theorem backP_in (F : Fence) (n : Nat) (h5 : F.fn 56) (hro : F.round = none) (a : Option Addr) (len cap : Nat) (w : World) :
    CallsIn F n Try.prog 56 #[.slice a len cap] w fun e w' => e = .returned (.func (.func 62) #[] #[.pointer (some ⟨w.heap.size, 0, none⟩)]) ∧ w' = w.alloc (.cells #[.slice a len cap] 98) := by
  refine callsIn_of_wp Try.func56 rfl h5 ?_ hro
  simp only [Try.ntmps56, List.size_toArray, List.length_cons, List.length_nil, Nat.reduceAdd, Nat.reduceSub, Array.replicate_succ, Array.replicate_zero, List.push_toArray, List.append_toArray, List.nil_append, List.cons_append]
  gi_wp2
  go_ret
  exact ⟨rfl, rfl⟩
/-- What Backward of numbers gives. -/
theorem backI_stops (F : Fence) (n : Nat) (h7 : F.fn 63) (hro : F.round = none) (hn : 1 ≤ n) (Bs : Nat) (G : Nat → Prop) (v : Value) (zs : List Int) (hreach : zs.length ≤ 100000) (w : World)
    (hBs : w.heap[Bs]? = some (.cells #[v] 49 (0, 0))) (hr : IRow w v zs) (hGs : ¬ G Bs) (hGv : ∀ j, v.ownBlock = some j → ¬ G j) :
    SeqStopsK F n Try.prog 63 #[.pointer (some ⟨Bs, 0, none⟩)] (fun x : Int × Int => #[.int .i64 x.1, .int .i64 x.2]) (Chg G) (fun ys => ys = bw (fun j : Nat => ((j : Int), zs[j]?.getD 0)) zs.length 0) (fun _ => True) zs.length w := fun l J Jx W hW _ _ hY h0 => by
  have hC : Chg (fun _ => False) w W := (Chg.refl _ w).callee hW
  have hbs : W.cell? ⟨Bs, 0, none⟩ = some v := cell_of (hC.blk hBs (fun h => h)) 0
  have hrW := hr.kept hC (fun _ _ h => h)
  rcases Nat.eq_zero_or_pos zs.length with h00 | hpos
  · obtain ⟨ad, cap, rfl, _⟩ := hr.form
    have hz : zs = [] := List.length_eq_zero_iff.1 h00
    subst hz
    exact (backI0_in F n h7 hro l Bs cap ad J W hbs h0).mono fun e W' ⟨he, hj⟩ => ⟨he, .inl ⟨[], rfl, hj⟩⟩
  · obtain ⟨b, off, cap, rfl, _⟩ := hrW.formS hpos
    refine (backI1_in F n h7 hro hn l Bs b off zs.length cap G zs hreach (hGv b rfl) J Jx hY W hbs hGs (fun j hj => ?_) h0).mono fun e W' h => h
    rw [hrW.cell j (by omega)]
    simp [hj]
theorem backP_stops (F : Fence) (n : Nat) (h7 : F.fn 62) (hro : F.round = none) (hn : 1 ≤ n) (Bs : Nat) (G : Nat → Prop) (v : Value) (L : List Part) (hreach : L.length ≤ 100000) (hpos : 0 < L.length) (w : World)
    (hBs : w.heap[Bs]? = some (.cells #[v] 98 (0, 0))) (hr : RowAt w 104 2 v L.length (L.flatMap pcells)) (hGs : ¬ G Bs) (hGv : ∀ j, v.ownBlock = some j → ¬ G j) :
    SeqStopsK F n Try.prog 62 #[.pointer (some ⟨Bs, 0, none⟩)] (fun x : Fin L.length => #[.int .i64 (x.val : Int), .agg #[.int .i64 L[x].m, L[x].v]]) (Chg G) (fun ys => ys = bw (fun j : Nat => if h : j < L.length then (⟨j, h⟩ : Fin L.length) else ⟨0, hpos⟩) L.length 0) (fun _ => True) L.length w := fun l J Jx W hW _ _ hY h0 => by
  have hC : Chg (fun _ => False) w W := (Chg.refl _ w).callee hW
  have hbs : W.cell? ⟨Bs, 0, none⟩ = some v := cell_of (hC.blk hBs (fun h => h)) 0
  have hrW := hr.kept hC (fun _ _ h => h)
  obtain ⟨b, off, cap, rfl, _⟩ := hrW.formS hpos
  refine (backP1_in (fun j : Nat => if h : j < L.length then (⟨j, h⟩ : Fin L.length) else ⟨0, hpos⟩) (fun x : Fin L.length => #[.int .i64 (x.val : Int), .agg #[.int .i64 L[x].m, L[x].v]]) F n h7 hro hn l Bs b off L.length cap G L (fun j hj => by simp [hj]) hreach (hGv b rfl) J Jx hY W hbs hGs (fun j hj => ?_) h0).mono fun e W' h => h
  have e1 : L[j]?.getD p0 = L[j] := by simp [hj]
  rw [e1]
  refine ⟨?_, ?_⟩
  · have := hrW.cell (j * 2 + 0) (by omega)
    rw [pcells_get L j 0 hj (by omega)] at this
    exact this
  · rw [Nat.add_assoc, hrW.cell (j * 2 + 1) (by omega), pcells_get L j 1 hj (by omega)]
    rfl
end Go.Proofs.Ytkidnmjaioejaaa.Sg
