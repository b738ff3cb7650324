/- The acts that come in as an argument: what the row's reading gives of their cells; and read again behind the call. No condition. -/
import Derived.Test.YtkidnmjaioejaaaPlayRun
import Derived.Deep.Slices
import Derived.Deep.Strs
import Derived.ReadAgain
import Derived.ChangeBook
import Derived.ChangeOld
import Derived.WideShapes
import Derived.Below
namespace Go.Proofs.Ytkidnmjaioejaaa.Sg
set_option linter.unusedVariables false
set_option linter.unusedSimpArgs false
open Go.RowKit Go.Proofs.Ytkidnmjaioejaaa.Mem Go.ChangeShapes Go.WideShapes Go.Deep

instance : Inhabited Act := ⟨a0⟩
section
variable {H : Type} {enc : TypeId × Value → H}
theorem cellsI : Try.prog.cellsOf 3 = 1 := by kernel_rfl
theorem cellsA : Try.prog.cellsOf 64 = 2 := by kernel_rfl
theorem recA : Try.prog.readableRec 52 = true := by kernel_rfl
theorem rowA : (52 : TypeId) < Try.prog.types.size := of_decide_eq_true (by kernel_rfl)
theorem laidOut : laidOutB Try.prog = true := by kernel_rfl
set_option maxRecDepth 100000 in
theorem slicesFull : ((List.range Try.prog.types.size).all fun t => match Try.prog.underlying t with | some (.slice e) => decide (0 < Try.prog.cellsOf e) | _ => true) = true := by kernel_rfl

set_option maxRecDepth 100000 in
/-- An argument of any readable type, read again behind a call that turned nothing that was there. -/
theorem arg_again {t : TypeId} (hr : Try.prog.readableRec t = true) (hrow : t < Try.prog.types.size) {W W' : World} (hb : Below W.heap.size W W') {v : Value} {d : DataW H} {ps : List MemPlace} (h : DataW.Trod enc Try.prog W 0 (fun _ => true) true t v d ps) (hlt : ∀ p ∈ ps, p.block < W.heap.size) :
    DataW.Trod enc Try.prog W' 0 (fun b => decide (b < W.heap.size)) true t v d ps := by
  obtain ⟨n, hn⟩ := h
  have h2 : DataW.Trod enc Try.prog W' 0 (fun _ => true) true t v d ps := ⟨n, DataW.trod_carry n _ _ _ hn (fun p hp => hb.same (hlt p hp))⟩
  exact h2.respare (kids_book laidOut hr) (fun t e ht hu => slices_full_of Try.prog slicesFull t e ht.1 hu) ⟨hrow, book_self t⟩ (fun p hp => decide_eq_true (hlt p hp))

theorem int_le {x : Int} (h : (Lit.int .i64 x).wf = true) : x ≤ 9223372036854775807 := by
  simp [Lit.wf, IntKind.wrap_i64] at h
  omega
set_option maxRecDepth 100000 in
/-- One act's cells. -/
theorem open_act {W : World} {fuel : Nat} {cs : List Value} {x : DataW H × List MemPlace} (h : DataW.trod enc Try.prog W 0 (fun _ => true) true fuel 64 cs = some x) : ∃ a : Act, cs = acells a ∧ a.ok := by
  obtain ⟨y0, y1, n, _, hl, h0, h1⟩ := trod_struct2 Try.underlying64 h
  rw [cellsA] at hl
  match cs, hl with
  | [c0, c1], _ =>
    simp only [cellsI] at h0 h1
    obtain ⟨m0, e0, _, w0⟩ := DataW.trod_int Try.underlying3 h0
    obtain ⟨m1, e1, _, w1⟩ := DataW.trod_int Try.underlying3 h1
    simp at e0 e1
    subst e0 e1
    have hw : m1 ≤ 9223372036854775807 := int_le w1
    exact ⟨⟨m0, m1⟩, rfl, hw⟩

set_option maxRecDepth 100000 in
theorem open_acts {W : World} {base : Nat} {v : Value} {d : DataW H} {ps : List MemPlace} (hval : Value.okWide Try.prog W .any base 52 v) (h : DataW.Trod enc Try.prog W 0 (fun _ => true) true 52 v d ps) :
    ∃ acts, ActsAt W v acts := by
  obtain ⟨ad, n, cap, rfl⟩ := WideShapes.okWide_slice Try.underlying52 hval
  obtain ⟨fuel, hn⟩ := h
  rcases Deep.open_slice Try.underlying52 hn with ⟨e, _⟩ | ⟨a, len, cap', m, n', D, Pl, e, _, hlc, hcm, hm, _, hx⟩
  · have e2 : Value.slice ad n cap = .slice none 0 0 := by simpa [Value.cells] using e
    cases e2
    exact ⟨[], none, 0, rfl, ⟨fun a ha => absurd ha (by simp), fun j hj => absurd hj (by simp)⟩⟩
  · have e2 : Value.slice ad n cap = .slice (some a) len cap' := by simpa [Value.cells] using e
    cases e2
    simp only [if_true] at hm
    have hA := Deep.choose_lt (α := Act) (n := n) (p := fun i act => W.cells? 0 (a.add (i * 2)) 2 = some (acells act) ∧ act.ok) (fun i hi => by
      obtain ⟨cs', h1, h2⟩ := hx i (by omega)
      rw [cellsA] at h1
      obtain ⟨act, rfl, hok⟩ := open_act h2
      exact ⟨act, h1, hok⟩)
    obtain ⟨f, hf⟩ := hA
    refine ⟨(List.range n).map f, some a, cap, by simp, fun act ha => ?_, fun j hj => ?_⟩
    · obtain ⟨i, hi, rfl⟩ := List.mem_map.1 ha
      exact (hf i (List.mem_range.1 hi)).2
    · have hj' : j < n := by simpa using hj
      obtain ⟨h1, _⟩ := hf j hj'
      obtain ⟨_, _, h3⟩ := World.cells?_some h1
      have h4 := h3 0 (by omega)
      obtain ⟨h01, _⟩ := hf 0 (by omega)
      obtain ⟨_, _, h03⟩ := World.cells?_some h01
      obtain ⟨b, off, spot⟩ := a
      have hspot : spot = none := by
        have h5 : W.cell? (((⟨b, off, spot⟩ : Addr).add (0 * 2)).add 0) = some (.int .i64 (f 0).kind) := h03 0 (by omega)
        have := World.cell?_spot h5
        simpa [Addr.add] using this
      subst hspot
      have hadd : ∀ i, ((⟨b, off, none⟩ : Addr).add (j * 2)).add i = ⟨b, off + j * 2 + i, none⟩ := fun i => by rw [Addr.add_lit, Addr.add_lit]
      refine ⟨b, off, rfl, ?_, fun i hi => ?_⟩
      · have h5 : W.cell? ⟨b, off + j * 2 + 0, none⟩ = some (.int .i64 (f j).kind) := by rw [← hadd]; exact h4
        exact World.block_lt_of_cell? W _ h5
      · have := h3 i hi
        rw [hadd] at this
        rw [this]
        have e3 : ((List.range n).map f).getD j a0 = f j := by simp [hj']
        rw [e3]
end
end Go.Proofs.Ytkidnmjaioejaaa.Sg
