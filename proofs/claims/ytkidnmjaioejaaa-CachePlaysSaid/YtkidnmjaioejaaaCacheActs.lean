/- The acts that come in as an argument: what the row's reading gives of their cells; and read again behind the call. No condition. -/
import Derived.Test.YtkidnmjaioejaaaCachePlaysLaw
import Derived.Deep.Slices
import Derived.Deep.Strs
import Derived.Laws.IdiomArrays
import Derived.ReadAgain
import Derived.ChangeBook
import Derived.ChangeOld
import Derived.WideShapes
import Derived.Below
namespace Go.Proofs.Ytkidnmjaioejaaa.Cx
set_option linter.unusedVariables false
set_option linter.unusedSimpArgs false
open Go.RowKit Go.Proofs.Ytkidnmjaioejaaa.Mem Go.Maps Go.ChangeShapes Go.WideShapes Go.Deep

instance : Inhabited Act := ⟨a0⟩
section
variable {H : Type} {enc : TypeId × Value → H}
theorem cellsA : Try.prog.cellsOf 45 = 7 := by kernel_rfl
theorem recA : Try.prog.readableRec 40 = true := by kernel_rfl
theorem rowA : (40 : TypeId) < Try.prog.types.size := of_decide_eq_true (by kernel_rfl)
set_option maxRecDepth 100000 in
theorem slicesFull : ((List.range Try.prog.types.size).all fun t => match Try.prog.underlying t with | some (.slice e) => decide (0 < Try.prog.cellsOf e) | _ => true) = true := by kernel_rfl

set_option maxRecDepth 100000 in
/-- An argument of any readable type, read again behind a call that turned nothing that was there. -/
theorem arg_again {t : TypeId} (hr : Try.prog.readableRec t = true) (hrow : t < Try.prog.types.size) {W W' : World} (hb : Below W.heap.size W W') {v : Value} {d : DataW H} {ps : List MemPlace} (h : DataW.Trod enc Try.prog W 0 (fun _ => true) true t v d ps) (hlt : ∀ p ∈ ps, p.block < W.heap.size) :
    DataW.Trod enc Try.prog W' 0 (fun b => decide (b < W.heap.size)) true t v d ps := by
  obtain ⟨n, hn⟩ := h
  have h2 : DataW.Trod enc Try.prog W' 0 (fun _ => true) true t v d ps := ⟨n, DataW.trod_carry n _ _ _ hn (fun p hp => hb.same (hlt p hp))⟩
  exact h2.respare (kids_book laidOut hr) (fun t e ht hu => slices_full_of Try.prog slicesFull t e ht.1 hu) ⟨hrow, book_self t⟩ (fun p hp => decide_eq_true (hlt p hp))

set_option maxRecDepth 100000 in
/-- One act's cells. -/
theorem open_act {W : World} {fuel : Nat} {cs : List Value} {x : DataW H × List MemPlace} (h : DataW.trod enc Try.prog W 0 (fun _ => true) true fuel 45 cs = some x) : ∃ a : Act, cs = acells a ∧ a.ok := by
  have hA := Try.underlying45
  obtain ⟨y0, y1, y2, n, _, hl, h0, h1, h2⟩ := trod_struct3 hA h
  rw [cellsA] at hl
  match cs, hl with
  | [c0, c1, c2, c3, c4, c5, c6], _ =>
    simp only [cells3, cellsK] at h0 h1 h2
    obtain ⟨m0, e0, _, w0⟩ := DataW.trod_int Try.underlying3 h0
    obtain ⟨m1, e1, _, w1⟩ := DataW.trod_int Try.underlying3 h1
    have hK := Try.underlying34
    obtain ⟨z0, z1, n2, _, hl2, g0, g1⟩ := trod_struct2 hK h2
    simp only [cells3, cells4] at g0 g1
    obtain ⟨m2, e2, _, w2⟩ := DataW.trod_int Try.underlying3 g0
    obtain ⟨u0, u1, u2, u3, n3, _, k0, k1, k2, k3⟩ := trod_array4 Try.underlying32 cells3 g1
    obtain ⟨m3, e3, _, w3⟩ := DataW.trod_int Try.underlying3 k0
    obtain ⟨m4, e4, _, w4⟩ := DataW.trod_int Try.underlying3 k1
    obtain ⟨m5, e5, _, w5⟩ := DataW.trod_int Try.underlying3 k2
    obtain ⟨m6, e6, _, w6⟩ := DataW.trod_int Try.underlying3 k3
    simp at e0 e1 e2 e3 e4 e5 e6
    subst e0 e1 e2 e3 e4 e5 e6
    exact ⟨⟨m0, m1, ⟨m2, m3, m4, m5, m6⟩⟩, rfl, w0, w1, w2, w3, w4, w5, w6⟩

set_option maxRecDepth 100000 in
theorem open_acts {W : World} {base : Nat} {v : Value} {d : DataW H} {ps : List MemPlace} (hval : Value.okWide Try.prog W .any base 40 v) (h : DataW.Trod enc Try.prog W 0 (fun _ => true) true 40 v d ps) :
    ∃ acts, ActsAt W v acts := by
  obtain ⟨ad, n, cap, rfl⟩ := WideShapes.okWide_slice Try.underlying40 hval
  obtain ⟨fuel, hn⟩ := h
  rcases Deep.open_slice Try.underlying40 hn with ⟨e, _⟩ | ⟨a, len, cap', m, n', D, Pl, e, _, hlc, hcm, hm, _, hx⟩
  · have e2 : Value.slice ad n cap = .slice none 0 0 := by simpa [Value.cells] using e
    cases e2
    exact ⟨[], none, 0, rfl, ⟨fun a ha => absurd ha (by simp), fun j hj => absurd hj (by simp)⟩⟩
  · have e2 : Value.slice ad n cap = .slice (some a) len cap' := by simpa [Value.cells] using e
    cases e2
    simp only [if_true] at hm
    have hA := Deep.choose_lt (α := Act) (n := n) (p := fun i act => W.cells? 0 (a.add (i * 7)) 7 = some (acells act) ∧ act.ok) (fun i hi => by
      obtain ⟨cs', h1, h2⟩ := hx i (by omega)
      rw [cellsA] at h1
      obtain ⟨act, rfl, hok⟩ := open_act h2
      exact ⟨act, h1, hok⟩)
    obtain ⟨f, hf⟩ := hA
    refine ⟨(List.range n).map f, some a, cap, by simp, fun act ha => ?_, fun j hj => ?_⟩
    · obtain ⟨i, hi, rfl⟩ := List.mem_map.1 ha
      exact (hf i (List.mem_range.1 hi)).2
    · have hj' : j < n := by simpa using hj
      obtain ⟨h1, _⟩ := hf j hj'
      obtain ⟨_, _, h3⟩ := World.cells?_some h1
      have h4 := h3 0 (by omega)
      obtain ⟨h01, _⟩ := hf 0 (by omega)
      obtain ⟨_, _, h03⟩ := World.cells?_some h01
      obtain ⟨b, off, spot⟩ := a
      have hspot : spot = none := by
        have h5 : W.cell? (((⟨b, off, spot⟩ : Addr).add (0 * 7)).add 0) = some (.int .i64 (f 0).kind) := h03 0 (by omega)
        have := World.cell?_spot h5
        simpa [Addr.add] using this
      subst hspot
      have hadd : ∀ i, ((⟨b, off, none⟩ : Addr).add (j * 7)).add i = ⟨b, off + j * 7 + i, none⟩ := fun i => by rw [Addr.add_lit, Addr.add_lit]
      refine ⟨b, off, rfl, ?_, fun i hi => ?_⟩
      · have h5 : W.cell? ⟨b, off + j * 7 + 0, none⟩ = some (.int .i64 (f j).kind) := by rw [← hadd]; exact h4
        exact World.block_lt_of_cell? W _ h5
      · have := h3 i hi
        rw [hadd] at this
        rw [this]
        have e3 : ((List.range n).map f).getD j a0 = f j := by simp [hj']
        rw [e3]
end
end Go.Proofs.Ytkidnmjaioejaaa.Cx
