/- Nodes: what a node is, and how it lies in memory; no condition. -/
import Derived.Test.YtaklmocjaokkpaaDoorBase
import Derived.Test.YtaklmocjaokkpaaDoorProg
namespace Go.Proofs.YtaklmocjaokkpaaDoor.Tr
set_option linter.unusedVariables false
set_option linter.unusedSimpArgs false
open Go.RowKit Go.Proofs.YtaklmocjaokkpaaDoor.Mem

inductive Nd where
  | mk (kind : Nat) (n : Int) (text : ByteArray) (names : List ByteArray) (kids : List Nd)
namespace Nd
def kind : Nd → Nat | mk k _ _ _ _ => k
def n : Nd → Int | mk _ n _ _ _ => n
def text : Nd → ByteArray | mk _ _ t _ _ => t
def names : Nd → List ByteArray | mk _ _ _ l _ => l
def kids : Nd → List Nd | mk _ _ _ _ l => l
theorem ind {P : Nd → Prop} (h : ∀ x : Nd, (∀ y ∈ x.kids, P y) → P x) : ∀ x, P x
  | mk k n t ns ks => h (mk k n t ns ks) (fun y hy => ind h y)
termination_by x => SizeOf.sizeOf x
decreasing_by
  have h1 : SizeOf.sizeOf y < SizeOf.sizeOf ks := List.sizeOf_lt_of_mem hy
  simp
  omega
end Nd
/-- A row of texts. -/
def StrsIn (w : World) (v : Value) (l : List ByteArray) : Prop :=
  ∃ ad cap, v = .slice ad l.length cap ∧ l.length ≤ cap ∧ cap ≤ maxLen ∧ ∀ i s, l[i]? = some s → ∃ b off, ad = some ⟨b, off, none⟩ ∧ b < w.heap.size ∧ w.cell? ⟨b, off + i, none⟩ = some (.string s)
mutual
/-- A node's names and parts, where its two slices are nv and kv. -/
def NdIn (w : World) (nv kv : Value) : Nd → Prop
  | .mk k n t ns ks => k < 256 ∧ (-9223372036854775808 ≤ n ∧ n ≤ 9223372036854775807) ∧ StrsIn w nv ns ∧ ∃ ad cap, kv = .slice ad ks.length cap ∧ ks.length ≤ cap ∧ cap ≤ maxLen ∧ KidsIn w ad 0 ks
/-- Nodes in a row, from number i on. -/
def KidsIn (w : World) (ad : Option Addr) : Nat → List Nd → Prop
  | _, [] => True
  | i, x :: l => (∃ b off nv kv, ad = some ⟨b, off, none⟩ ∧ b < w.heap.size ∧ w.cell? ⟨b, off + i * 5, none⟩ = some (.int .u8 x.kind) ∧ w.cell? ⟨b, off + i * 5 + 1, none⟩ = some (.int .i64 x.n) ∧ w.cell? ⟨b, off + i * 5 + 2, none⟩ = some (.string x.text) ∧
      w.cell? ⟨b, off + i * 5 + 3, none⟩ = some nv ∧ w.cell? ⟨b, off + i * 5 + 4, none⟩ = some kv ∧ NdIn w nv kv x) ∧ KidsIn w ad (i + 1) l
end
theorem NdIn.kids {w : World} {nv kv : Value} {x : Nd} (h : NdIn w nv kv x) : ∃ ad cap, kv = .slice ad x.kids.length cap ∧ x.kids.length ≤ cap ∧ cap ≤ maxLen ∧ KidsIn w ad 0 x.kids := by
  cases x; unfold NdIn at h; exact h.2.2.2
theorem NdIn.names {w : World} {nv kv : Value} {x : Nd} (h : NdIn w nv kv x) : StrsIn w nv x.names := by
  cases x; unfold NdIn at h; exact h.2.2.1
theorem NdIn.kind {w : World} {nv kv : Value} {x : Nd} (h : NdIn w nv kv x) : x.kind < 256 := by
  cases x; unfold NdIn at h; exact h.1
theorem NdIn.n {w : World} {nv kv : Value} {x : Nd} (h : NdIn w nv kv x) : -9223372036854775808 ≤ x.n ∧ x.n ≤ 9223372036854775807 := by
  cases x; unfold NdIn at h; exact h.2.1
theorem NdIn.of {w : World} {nv kv : Value} {x : Nd} (h1 : x.kind < 256) (h2 : -9223372036854775808 ≤ x.n ∧ x.n ≤ 9223372036854775807) (h3 : StrsIn w nv x.names) (h4 : ∃ ad cap, kv = .slice ad x.kids.length cap ∧ x.kids.length ≤ cap ∧ cap ≤ maxLen ∧ KidsIn w ad 0 x.kids) : NdIn w nv kv x := by
  cases x; unfold NdIn; exact ⟨h1, h2, h3, h4⟩
theorem KidsIn.at_ {w : World} {ad : Option Addr} : ∀ {l : List Nd} {i : Nat} (h : KidsIn w ad i l) (j : Nat) (x : Nd), l[j]? = some x → ∃ b off nv kv, ad = some ⟨b, off, none⟩ ∧ b < w.heap.size ∧ w.cell? ⟨b, off + (i + j) * 5, none⟩ = some (.int .u8 x.kind) ∧ w.cell? ⟨b, off + (i + j) * 5 + 1, none⟩ = some (.int .i64 x.n) ∧
    w.cell? ⟨b, off + (i + j) * 5 + 2, none⟩ = some (.string x.text) ∧ w.cell? ⟨b, off + (i + j) * 5 + 3, none⟩ = some nv ∧ w.cell? ⟨b, off + (i + j) * 5 + 4, none⟩ = some kv ∧ NdIn w nv kv x
  | [], _, _, _, _, hx => by simp at hx
  | y :: l, i, h, 0, x, hx => by
    unfold KidsIn at h
    have e : y = x := by simpa using hx
    subst e
    exact h.1
  | y :: l, i, h, j + 1, x, hx => by
    unfold KidsIn at h
    have := KidsIn.at_ h.2 j x (by simpa using hx)
    rw [show i + 1 + j = i + (j + 1) by omega] at this
    exact this
theorem KidsIn.of {w : World} {ad : Option Addr} : ∀ (l : List Nd) (i : Nat), (∀ j x, l[j]? = some x → ∃ b off nv kv, ad = some ⟨b, off, none⟩ ∧ b < w.heap.size ∧ w.cell? ⟨b, off + (i + j) * 5, none⟩ = some (.int .u8 x.kind) ∧ w.cell? ⟨b, off + (i + j) * 5 + 1, none⟩ = some (.int .i64 x.n) ∧
    w.cell? ⟨b, off + (i + j) * 5 + 2, none⟩ = some (.string x.text) ∧ w.cell? ⟨b, off + (i + j) * 5 + 3, none⟩ = some nv ∧ w.cell? ⟨b, off + (i + j) * 5 + 4, none⟩ = some kv ∧ NdIn w nv kv x) → KidsIn w ad i l
  | [], _, _ => by unfold KidsIn; trivial
  | y :: l, i, h => by
    unfold KidsIn
    refine ⟨h 0 y rfl, KidsIn.of l (i + 1) fun j x hx => ?_⟩
    have := h (j + 1) x (by simpa using hx)
    rw [show i + (j + 1) = i + 1 + j by omega] at this
    exact this
theorem StrsIn.kept {w w' : World} {v : Value} {l : List ByteArray} (h : StrsIn w v l) (hc : Chg (fun _ => False) w w') : StrsIn w' v l := by
  obtain ⟨ad, cap, h1, h2, h3, h4⟩ := h
  refine ⟨ad, cap, h1, h2, h3, fun i s hi => ?_⟩
  obtain ⟨b, off, e1, e2, e3⟩ := h4 i s hi
  exact ⟨b, off, e1, Nat.lt_of_lt_of_le e2 hc.size, hc.cell e3 (fun e => e)⟩
theorem NdIn.kept {w w' : World} (hc : Chg (fun _ => False) w w') : ∀ (x : Nd) (nv kv : Value), NdIn w nv kv x → NdIn w' nv kv x := by
  intro x
  induction x using Nd.ind with
  | h x ih =>
    intro nv kv h
    obtain ⟨ad, cap, e1, e2, e3, e4⟩ := h.kids
    refine NdIn.of h.kind h.n (h.names.kept hc) ⟨ad, cap, e1, e2, e3, KidsIn.of _ _ fun j y hy => ?_⟩
    obtain ⟨b, off, nv', kv', f1, f2, f3, f4, f5, f6, f7, f8⟩ := e4.at_ j y hy
    exact ⟨b, off, nv', kv', f1, Nat.lt_of_lt_of_le f2 hc.size, hc.cell f3 (fun e => e), hc.cell f4 (fun e => e), hc.cell f5 (fun e => e), hc.cell f6 (fun e => e), hc.cell f7 (fun e => e), ih y (List.mem_of_getElem? hy) nv' kv' f8⟩
theorem KidsIn.kept {w w' : World} {ad : Option Addr} {i : Nat} {l : List Nd} (h : KidsIn w ad i l) (hc : Chg (fun _ => False) w w') : KidsIn w' ad i l :=
  KidsIn.of _ _ fun j y hy => by
    obtain ⟨b, off, nv', kv', f1, f2, f3, f4, f5, f6, f7, f8⟩ := h.at_ j y hy
    exact ⟨b, off, nv', kv', f1, Nat.lt_of_lt_of_le f2 hc.size, hc.cell f3 (fun e => e), hc.cell f4 (fun e => e), hc.cell f5 (fun e => e), hc.cell f6 (fun e => e), hc.cell f7 (fun e => e), f8.kept hc⟩
/-- A node as a value. -/
def ndV (x : Nd) (nv kv : Value) : Value := .agg #[.int .u8 x.kind, .int .i64 x.n, .string x.text, nv, kv]
/-- A node as a function's own variable. -/
def ndBox (x : Nd) (nv kv : Value) : Obj := .cells #[.int .u8 x.kind, .int .i64 x.n, .string x.text, nv, kv] 26
mutual
/-- How many nodes. -/
def sizeN : Nd → Nat
  | .mk _ _ _ _ ks => 1 + sizesN ks
def sizesN : List Nd → Nat
  | [] => 0
  | x :: l => sizeN x + sizesN l
end
theorem sizeN_is (x : Nd) : sizeN x = 1 + sizesN x.kids := by
  cases x; rw [sizeN]; rfl
theorem sizesN_take (l : List Nd) (k : Nat) (x : Nd) (h : l[k]? = some x) : sizesN (l.take (k + 1)) = sizesN (l.take k) + sizeN x := by
  induction l generalizing k with
  | nil => simp at h
  | cons y l ih =>
    cases k with
    | zero =>
      have e : y = x := by simpa using h
      subst e
      simp [sizesN]
    | succ k =>
      have := ih k (by simpa using h)
      rw [List.take_succ_cons, List.take_succ_cons, sizesN, sizesN, this]
      omega
theorem sizeN_pos (x : Nd) : 1 ≤ sizeN x := by rw [sizeN_is]; omega
end Go.Proofs.YtaklmocjaokkpaaDoor.Tr
