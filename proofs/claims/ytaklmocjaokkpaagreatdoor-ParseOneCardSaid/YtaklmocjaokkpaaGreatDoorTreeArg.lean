/- A node that comes in as an argument: what the row's reading gives of its cells, and of its bulk; and read again behind the call. No condition. · A node as an argument: its value's form, and read again behind a call that turned nothing. No condition. -/
import Derived.Test.YtaklmocjaokkpaaGreatDoorTreeRParts
import Derived.Test.YtaklmocjaokkpaaGreatDoorTreeRight
import Derived.Test.YtaklmocjaokkpaaGreatDoorRows
import Derived.Deep.Slices
import Derived.Deep.Strs
import Derived.ReadAgain
import Derived.ChangeBook
import Derived.ChangeOld
import Derived.WideShapes
import Derived.Below
namespace Go.Proofs.YtaklmocjaokkpaaGreatDoor.Tr
set_option linter.unusedVariables false
set_option linter.unusedSimpArgs false
open Go.RowKit Go.Proofs.YtaklmocjaokkpaaGreatDoor.Mem Go.ChangeShapes Go.WideShapes Go.Deep

mutual
/-- How much a node weighs. -/
def wt : Nd → Nat
  | .mk _ _ t ns ks => t.size + wns ns + wts ks + 1
def wts : List Nd → Nat
  | [] => 0
  | x :: l => wt x + wts l
def wns : List ByteArray → Nat
  | [] => 0
  | s :: l => s.size + 1 + wns l
end
theorem wt_is (x : Nd) : wt x = x.text.size + wns x.names + wts x.kids + 1 := by cases x; rw [wt]; rfl
theorem wts_mem {l : List Nd} {y : Nd} (h : y ∈ l) : wt y ≤ wts l := by
  induction l with
  | nil => cases h
  | cons x l ih =>
    rw [wts]
    rcases List.mem_cons.1 h with rfl | h
    · omega
    · have := ih h; omega
theorem wns_mem {l : List ByteArray} {s : ByteArray} (h : s ∈ l) : s.size + 1 ≤ wns l := by
  induction l with
  | nil => cases h
  | cons x l ih =>
    rw [wns]
    rcases List.mem_cons.1 h with rfl | h
    · omega
    · have := ih h; omega
theorem wns_len (l : List ByteArray) : l.length ≤ wns l := by
  induction l with
  | nil => simp
  | cons x l ih => rw [wns, List.length_cons]; omega
theorem wt_pos (x : Nd) : 1 ≤ wt x := by rw [wt_is]; omega
theorem wts_len (l : List Nd) : l.length ≤ wts l := by
  induction l with
  | nil => simp
  | cons x l ih => rw [wts, List.length_cons]; have := wt_pos x; omega
theorem size_wt : ∀ x : Nd, sizeN x ≤ wt x := by
  intro x
  induction x using Nd.ind with
  | h x ih =>
    rw [sizeN_is, wt_is]
    have : ∀ l : List Nd, (∀ y ∈ l, sizeN y ≤ wt y) → sizesN l ≤ wts l := by
      intro l
      induction l with
      | nil => intro _; simp [sizesN]
      | cons y l ih2 =>
        intro h
        rw [sizesN, wts]
        have h1 := h y List.mem_cons_self
        have h2 := ih2 (fun z hz => h z (List.mem_cons_of_mem _ hz))
        omega
    have := this x.kids ih
    omega
theorem Fines.mk : ∀ {l : List Nd}, (∀ y ∈ l, Fine y) → Fines l
  | [], _ => by unfold Fines; trivial
  | x :: l, h => by unfold Fines; exact ⟨h x List.mem_cons_self, Fines.mk (fun y hy => h y (List.mem_cons_of_mem _ hy))⟩
theorem Smalls.mk : ∀ {l : List Nd}, (∀ y ∈ l, Small y) → Smalls l
  | [], _ => by unfold Smalls; trivial
  | x :: l, h => by unfold Smalls; exact ⟨h x List.mem_cons_self, Smalls.mk (fun y hy => h y (List.mem_cons_of_mem _ hy))⟩
theorem Fine.mk' {x : Nd} (h1 : x.text.size ≤ 1048576) (h2 : ∀ s ∈ x.names, s.size ≤ 1048576) (h3 : x.names.length ≤ 1048576) (h4 : x.kids.length ≤ 1048576) (h5 : Fines x.kids) : Fine x := by cases x; unfold Fine; exact ⟨h1, h2, h3, h4, h5⟩
theorem Small.mk' {x : Nd} (h1 : x.text.size ≤ 1048576) (h4 : x.kids.length ≤ 1048576) (h5 : Smalls x.kids) : Small x := by cases x; unfold Small; exact ⟨h1, h4, h5⟩
theorem fine_wt : ∀ x : Nd, wt x ≤ 1048576 → Fine x ∧ Small x := by
  intro x
  induction x using Nd.ind with
  | h x ih =>
    intro h
    rw [wt_is] at h
    have h1 := wns_len x.names
    have h2 := wts_len x.kids
    have h3 : ∀ y ∈ x.kids, Fine y ∧ Small y := fun y hy => ih y hy (by have := wts_mem hy; omega)
    exact ⟨Fine.mk' (by omega) (fun s hs => by have := wns_mem hs; omega) (by omega) (by omega) (Fines.mk fun y hy => (h3 y hy).1), Small.mk' (by omega) (by omega) (Smalls.mk fun y hy => (h3 y hy).2)⟩
section
variable {H : Type} {enc : TypeId × Value → H}
theorem wts_le : ∀ (ks : List Nd) (ds : List (DataW H)), ks.length = ds.length → (∀ (i : Nat) (k : Nd) (d : DataW H), ks[i]? = some k → ds[i]? = some d → wt k ≤ Rows.uptoBulk d) → wts ks ≤ Rows.uptoBulkAll ds
  | [], [], _, _ => by simp [wts, Rows.uptoBulkAll]
  | [], _ :: _, h, _ => by simp at h
  | _ :: _, [], h, _ => by simp at h
  | k :: ks, d :: ds, h, hp => by
    rw [wts, Rows.uptoBulkAll]
    have h1 := hp 0 k d rfl rfl
    have h2 := wts_le ks ds (by simpa using h) (fun i k d hk hd => hp (i + 1) k d (by simpa using hk) (by simpa using hd))
    omega
theorem wns_le : ∀ (ks : List ByteArray) (ds : List (DataW H)), ks.length = ds.length → (∀ (i : Nat) (k : ByteArray) (d : DataW H), ks[i]? = some k → ds[i]? = some d → k.size + 1 ≤ Rows.uptoBulk d) → wns ks ≤ Rows.uptoBulkAll ds
  | [], [], _, _ => by simp [wns, Rows.uptoBulkAll]
  | [], _ :: _, h, _ => by simp at h
  | _ :: _, [], h, _ => by simp at h
  | k :: ks, d :: ds, h, hp => by
    rw [wns, Rows.uptoBulkAll]
    have h1 := hp 0 k d rfl rfl
    have h2 := wns_le ks ds (by simpa using h) (fun i k d hk hd => hp (i + 1) k d (by simpa using hk) (by simpa using hd))
    omega
theorem cells2 : Tryz.prog.cellsOf 2 = 1 := by kernel_rfl
theorem cells5 : Tryz.prog.cellsOf 5 = 1 := by kernel_rfl
theorem cells9 : Tryz.prog.cellsOf 9 = 1 := by kernel_rfl
theorem cells22 : Tryz.prog.cellsOf 22 = 1 := by kernel_rfl
theorem cells23 : Tryz.prog.cellsOf 23 = 1 := by kernel_rfl
theorem cells25 : Tryz.prog.cellsOf 25 = 5 := by kernel_rfl
theorem lit_u8 {x : Int} (h : (Lit.int .u8 x).wf = true) : 0 ≤ x ∧ x < 256 := by
  simp [Lit.wf, IntKind.min, IntKind.max, IntKind.signed, IntKind.bits] at h; omega
theorem lit_i64 {x : Int} (h : (Lit.int .i64 x).wf = true) : -9223372036854775808 ≤ x ∧ x ≤ 9223372036854775807 := by
  simp [Lit.wf, IntKind.min, IntKind.max, IntKind.signed, IntKind.bits] at h; omega
theorem trod_struct5 {P : Program} {w : World} {base : Nat} {spare : Nat → Bool} {held : Bool} {t : TypeId} {f0 f1 f2 f3 f4 : Field} {fuel : Nat} {cs : List Value} {x : DataW H × List MemPlace} (ht : P.underlying t = some (.struct #[f0, f1, f2, f3, f4])) (h : DataW.trod enc P w base spare held fuel t cs = some x) :
    ∃ y0 y1 y2 y3 y4 n, fuel = n + 1 ∧ x.1 = .agg [y0.1, y1.1, y2.1, y3.1, y4.1] ∧ cs.length = P.cellsOf t ∧ DataW.trod enc P w base spare held n f0.type ((cs.drop f0.offset).take (P.cellsOf f0.type)) = some y0 ∧
      DataW.trod enc P w base spare held n f1.type ((cs.drop f1.offset).take (P.cellsOf f1.type)) = some y1 ∧ DataW.trod enc P w base spare held n f2.type ((cs.drop f2.offset).take (P.cellsOf f2.type)) = some y2 ∧
      DataW.trod enc P w base spare held n f3.type ((cs.drop f3.offset).take (P.cellsOf f3.type)) = some y3 ∧ DataW.trod enc P w base spare held n f4.type ((cs.drop f4.offset).take (P.cellsOf f4.type)) = some y4 := by
  obtain ⟨xs, n, hn, rfl, hl, hlen, hf⟩ := DataW.trod_struct ht h
  match xs, hlen with
  | [y0, y1, y2, y3, y4], _ => exact ⟨y0, y1, y2, y3, y4, n, hn, by simp, hl, by simpa using hf 0 f0 rfl, by simpa using hf 1 f1 rfl, by simpa using hf 2 f2 rfl, by simpa using hf 3 f3 rfl, by simpa using hf 4 f4 rfl⟩
set_option maxRecDepth 100000 in
/-- A row of texts. -/
theorem open_names {W : World} {fuel : Nat} {v : Value} {x : DataW H × List MemPlace} (h : DataW.trod enc Tryz.prog W 0 (fun _ => true) true fuel 22 [v] = some x) : ∃ ns, StrsIn W v ns ∧ wns ns ≤ Rows.uptoBulk x.1 := by
  rcases Deep.open_slice1 Tryz.underlying22 cells9 h with ⟨e, rfl⟩ | ⟨a, len, cap, m, n, V, D, Pl, e, _, hlc, hcm, hm, rfl, hx⟩
  · obtain rfl : v = .slice none 0 0 := by simpa using e
    exact ⟨[], ⟨none, 0, rfl, Nat.le_refl _, Nat.zero_le _, fun i s h => by cases h⟩, by simp [wns]⟩
  · obtain rfl : v = .slice (some a) len cap := by simpa using e
    simp only [if_true] at hm
    subst hm
    have hS : ∀ i, i < len → ∃ s : ByteArray, V i = .string s ∧ D i = .lit (.string s.data.toList) := fun i hi => by
      obtain ⟨s, e1, e2, _⟩ := DataW.trod_string Tryz.underlying9 (hx i (by omega)).2
      simp only [Prod.mk.injEq] at e2
      exact ⟨s, by simpa using e1, e2.1⟩
    obtain ⟨f, hf⟩ := Deep.choose_lt (α := ByteArray) (n := len) (p := fun i s => V i = .string s ∧ D i = .lit (.string s.data.toList)) hS
    refine ⟨(List.range len).map f, ⟨some a, _, by simp, by simpa using hlc, hcm, fun i s hi => ?_⟩, ?_⟩
    · have hlt : i < len := by
        rcases Nat.lt_or_ge i len with h | h
        · exact h
        · rw [List.getElem?_eq_none (by simpa using h)] at hi; cases hi
      have hs : f i = s := by simpa [hlt] using hi
      have hc := (hx i (by omega)).1
      rw [(hf i hlt).1, hs] at hc
      obtain ⟨b, off, spot⟩ := a
      have hspot : spot = none := by
        have hc0 := (hx 0 (by omega)).1
        have := World.cell?_spot hc0
        simpa [Addr.add] using this
      subst hspot
      rw [Addr.add_lit] at hc
      exact ⟨b, off, rfl, World.block_lt_of_cell? W _ hc, hc⟩
    · refine Nat.le_trans (wns_le _ ((List.range len).map D) (by simp) fun i k d hk hd => ?_) (by simp only [Rows.uptoBulk]; omega)
      have hlt : i < len := by
        rcases Nat.lt_or_ge i len with h | h
        · exact h
        · rw [List.getElem?_eq_none (by simpa using h)] at hk; cases hk
      have e1 : f i = k := by simpa [hlt] using hk
      have e2 : D i = d := by simpa [hlt] using hd
      rw [← e2, (hf i hlt).2, ← e1]
      simp only [Rows.uptoBulk]
      exact Nat.le_refl _
instance : Inhabited Nd := ⟨.mk 0 0 ⟨#[]⟩ [] []⟩
set_option maxRecDepth 100000 in
/-- A node. -/
theorem open_node {W : World} : ∀ (fuel : Nat) (cs : List Value) (x : DataW H × List MemPlace), DataW.trod enc Tryz.prog W 0 (fun _ => true) true fuel 25 cs = some x →
    ∃ (nd : Nd) (nv kv : Value), cs = [.int .u8 nd.kind, .int .i64 nd.n, .string nd.text, nv, kv] ∧ NdIn W nv kv nd ∧ wt nd ≤ Rows.uptoBulk x.1 := by
  intro fuel
  induction fuel using Nat.strongRecOn with
  | ind fuel ih =>
    intro cs x h
    obtain ⟨y0, y1, y2, y3, y4, n, hfu, hx, hl, h0, h1, h2, h3, h4⟩ := trod_struct5 Tryz.underlying25 h
    rw [cells25] at hl
    match cs, hl with
    | [c0, c1, c2, c3, c4], _ =>
      simp only [cells5, cells2, cells9, cells22, cells23] at h0 h1 h2 h3 h4
      obtain ⟨m0, e0, x0, w0⟩ := DataW.trod_int Tryz.underlying5 h0
      obtain ⟨m1, e1, x1, w1⟩ := DataW.trod_int Tryz.underlying2 h1
      obtain ⟨s2, e2, x2, w2⟩ := DataW.trod_string Tryz.underlying9 h2
      obtain rfl : c0 = .int .u8 m0 := by simpa using e0
      obtain rfl : c1 = .int .i64 m1 := by simpa using e1
      obtain rfl : c2 = .string s2 := by simpa using e2
      obtain ⟨b0l, b0u⟩ := lit_u8 w0
      have b1 := lit_i64 w1
      obtain ⟨ns, hns, wn⟩ := open_names (v := c3) (by simpa using h3)
      have h4' : DataW.trod enc Tryz.prog W 0 (fun _ => true) true n 23 [c4] = some y4 := by simpa using h4
      have hk : ∃ ks ad cap, c4 = .slice ad ks.length cap ∧ ks.length ≤ cap ∧ cap ≤ maxLen ∧ KidsIn W ad 0 ks ∧ wts ks ≤ Rows.uptoBulk y4.1 := by
        rcases DataW.trod_slice Tryz.underlying23 h4' with ⟨e, rfl⟩ | ⟨a, len, cap, elems, rest, n', hn', e, rfl, _, hlc, hcm, hel, hx, _, _⟩
        · obtain rfl : c4 = .slice none 0 0 := by simpa using e
          exact ⟨[], none, 0, rfl, Nat.le_refl _, Nat.zero_le _, KidsIn.of [] 0 (fun j y hy => by cases hy), by simp [wts]⟩
        · obtain rfl : c4 = .slice (some a) len cap := by simpa using e
          have hA : ∀ i, i < len → ∃ q : Nd × Value × Value, W.cells? 0 (a.add (i * 5)) 5 = some [.int .u8 q.1.kind, .int .i64 q.1.n, .string q.1.text, q.2.1, q.2.2] ∧ NdIn W q.2.1 q.2.2 q.1 ∧ ∀ d, elems[i]? = some d → wt q.1 ≤ Rows.uptoBulk d.1 := fun i hi => by
            have hxi := hx i hi
            rw [cells25] at hxi
            obtain ⟨d, hd⟩ : ∃ d, elems[i]? = some d := ⟨_, List.getElem?_eq_getElem (by omega)⟩
            rw [hd] at hxi
            obtain ⟨cs', g1, g2⟩ := Option.bind_eq_some_iff.1 hxi
            obtain ⟨nd, nv, kv, rfl, g3, g4⟩ := ih n' (by omega) cs' d g2
            exact ⟨(nd, nv, kv), g1, g3, fun d' hd' => by rw [hd] at hd'; cases hd'; exact g4⟩
          obtain ⟨f, hf⟩ := Deep.choose_lt (α := Nd × Value × Value) (n := len) (p := fun i q => W.cells? 0 (a.add (i * 5)) 5 = some [.int .u8 q.1.kind, .int .i64 q.1.n, .string q.1.text, q.2.1, q.2.2] ∧ NdIn W q.2.1 q.2.2 q.1 ∧ ∀ d, elems[i]? = some d → wt q.1 ≤ Rows.uptoBulk d.1) hA
          refine ⟨(List.range len).map fun i => (f i).1, some a, cap, by simp, by simpa using hlc, hcm, KidsIn.of _ _ fun j y hy => ?_, ?_⟩
          · have hlt : j < len := by
              rcases Nat.lt_or_ge j len with h | h
              · exact h
              · rw [List.getElem?_eq_none (by simpa using h)] at hy; cases hy
            have hy2 : (f j).1 = y := by simpa [hlt] using hy
            obtain ⟨g1, g2, _⟩ := hf j hlt
            obtain ⟨_, _, g3⟩ := World.cells?_some g1
            obtain ⟨b, off, spot⟩ := a
            have hspot : spot = none := by
              obtain ⟨_, _, g03⟩ := World.cells?_some (hf 0 (by omega)).1
              have h5 : W.cell? (((⟨b, off, spot⟩ : Addr).add (0 * 5)).add 0) = some (.int .u8 (f 0).1.kind) := by simpa using g03 0 (by omega)
              have := World.cell?_spot h5
              simpa [Addr.add] using this
            subst hspot
            have hadd : ∀ i, ((⟨b, off, none⟩ : Addr).add (j * 5)).add i = ⟨b, off + j * 5 + i, none⟩ := fun i => by rw [Addr.add_lit, Addr.add_lit]
            have k0 := g3 0 (by omega)
            have k1 := g3 1 (by omega)
            have k2 := g3 2 (by omega)
            have k3 := g3 3 (by omega)
            have k4 := g3 4 (by omega)
            rw [hadd] at k0 k1 k2 k3 k4
            rw [← hy2]
            rw [Nat.zero_add]
            exact ⟨b, off, (f j).2.1, (f j).2.2, rfl, World.block_lt_of_cell? W _ (u := .int .u8 (f j).1.kind) (by simpa using k0), by simpa using k0, by simpa using k1, by simpa using k2, by simpa using k3, by simpa using k4, g2⟩
          · refine Nat.le_trans (wts_le _ (elems.map (·.1)) (by simpa using hel.symm) fun i k d hk hd => ?_) (by simp only [Rows.uptoBulk]; omega)
            have hlt : i < len := by
              rcases Nat.lt_or_ge i len with h | h
              · exact h
              · rw [List.getElem?_eq_none (by simpa using h)] at hk; cases hk
            have e1 : (f i).1 = k := by simpa [hlt] using hk
            obtain ⟨d', hd', rfl⟩ : ∃ d', elems[i]? = some d' ∧ d'.1 = d := by
              rw [List.getElem?_map] at hd
              cases he : elems[i]? with
              | none => rw [he] at hd; cases hd
              | some d' => rw [he] at hd; exact ⟨d', rfl, by simpa using hd⟩
            rw [← e1]
            exact (hf i hlt).2.2 d' hd'
      obtain ⟨ks, ad, cap, rfl, hk1, hk2, hk3, hk4⟩ := hk
      refine ⟨.mk m0.toNat m1 s2 ns ks, c3, .slice ad ks.length cap, ?_, NdIn.of (show m0.toNat < 256 by omega) b1 hns ⟨ad, cap, rfl, hk1, hk2, hk3⟩, ?_⟩
      · show _ = [Value.int .u8 ((m0.toNat : Nat) : Int), .int .i64 m1, .string s2, c3, _]
        rw [Int.toNat_of_nonneg b0l]
      · rw [hx]
        simp only [Rows.uptoBulk, Rows.uptoBulkAll]
        have e2b : Rows.uptoBulk y2.1 = s2.size + 1 := by
          simp only [Prod.ext_iff] at x2
          rw [x2.1]
          simp only [Rows.uptoBulk]
          rfl
        show wt (.mk m0.toNat m1 s2 ns ks) ≤ _
        rw [wt, e2b]
        omega
end
end Go.Proofs.YtaklmocjaokkpaaGreatDoor.Tr
namespace Go.Proofs.YtaklmocjaokkpaaGreatDoor.Tr
set_option linter.unusedVariables false
set_option linter.unusedSimpArgs false
open Go.RowKit Go.Proofs.YtaklmocjaokkpaaGreatDoor.Mem Go.ChangeShapes Go.WideShapes Go.Deep

section
variable {H : Type} {enc : TypeId × Value → H}
set_option maxRecDepth 100000 in
theorem recN : Tryz.prog.readableRec 25 = true := by kernel_rfl
theorem rowN : (25 : TypeId) < Tryz.prog.types.size := of_decide_eq_true (by kernel_rfl)
set_option maxRecDepth 100000 in
theorem laidOut : laidOutB Tryz.prog = true := by kernel_rfl
set_option maxRecDepth 100000 in
theorem slicesFull : ((List.range Tryz.prog.types.size).all fun t => match Tryz.prog.underlying t with | some (.slice e) => decide (0 < Tryz.prog.cellsOf e) | _ => true) = true := by kernel_rfl
set_option maxRecDepth 100000 in
/-- An argument of any readable type, read again behind a call that turned nothing that was there. -/
theorem arg_again {t : TypeId} (hr : Tryz.prog.readableRec t = true) (hrow : t < Tryz.prog.types.size) {W W' : World} (hb : Below W.heap.size W W') {v : Value} {d : DataW H} {ps : List MemPlace} (h : DataW.Trod enc Tryz.prog W 0 (fun _ => true) true t v d ps) (hlt : ∀ p ∈ ps, p.block < W.heap.size) :
    DataW.Trod enc Tryz.prog W' 0 (fun b => decide (b < W.heap.size)) true t v d ps := by
  obtain ⟨n, hn⟩ := h
  have h2 : DataW.Trod enc Tryz.prog W' 0 (fun _ => true) true t v d ps := ⟨n, DataW.trod_carry n _ _ _ hn (fun p hp => hb.same (hlt p hp))⟩
  exact h2.respare (kids_book laidOut hr) (fun t e ht hu => slices_full_of Tryz.prog slicesFull t e ht.1 hu) ⟨hrow, book_self t⟩ (fun p hp => decide_eq_true (hlt p hp))
set_option maxRecDepth 100000 in
/-- A node that came in. -/
theorem open_arg {W : World} {base : Nat} {v : Value} {d : DataW H} {ps : List MemPlace} (hval : Value.okWide Tryz.prog W .any base 25 v) (h : DataW.Trod enc Tryz.prog W 0 (fun _ => true) true 25 v d ps) :
    ∃ (nd : Nd) (nv kv : Value), v = ndV nd nv kv ∧ NdIn W nv kv nd ∧ wt nd ≤ Rows.uptoBulk d := by
  obtain ⟨cs, rfl, _⟩ := okWide_struct Tryz.underlying25 hval
  obtain ⟨fuel, hf⟩ := h
  obtain ⟨nd, nv, kv, hc, h1, h2⟩ := open_node fuel _ _ hf
  refine ⟨nd, nv, kv, ?_, h1, h2⟩
  unfold ndV
  congr 1
  apply Array.ext'
  simpa [Value.cells] using hc
end
end Go.Proofs.YtaklmocjaokkpaaGreatDoor.Tr
