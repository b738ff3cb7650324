/- The play in memory: the stack, its pieces, and the document's row beside; what abides behind a step. No condition. -/
import Derived.Test.YtkidnmjaioejaaaSegSame
namespace Go.Proofs.Ytkidnmjaioejaaa.Sg
set_option linter.unusedVariables false
set_option linter.unusedSimpArgs false
open Go.RowKit Go.Proofs.Ytkidnmjaioejaaa.Mem

/-- Block j holds cells of type t. -/
def tag (w : World) (j : Nat) (t : TypeId) : Prop := ∃ cs, w.heap[j]? = some (.cells cs t (0, 0))
theorem tag_ne {w : World} {j k : Nat} {t t' : TypeId} (h : tag w j t) (h' : tag w k t') (hne : t ≠ t') : j ≠ k := by
  rintro rfl
  obtain ⟨cs, h⟩ := h
  obtain ⟨cs', h'⟩ := h'
  rw [h] at h'
  cases h'
  exact hne rfl
theorem row_tag {w : World} {e : TypeId} {size : Nat} {v : Value} {k : Nat} {xs : List Value} (h : RowAt w e size v k xs) {g : Nat} (hg : g ∈ own v) : tag w g e := row_not h (mem_own.1 hg)
def stackTags : List TypeId := [100, 3, 104]
def pieceTags : List TypeId := [106, 3, 104]
theorem SA.tag {w : World} {s : Nat} {l : Row} {F : List Nat} (h : SA w s l F) : ∀ j ∈ F, ∃ t ∈ stackTags, tag w j t := by
  obtain ⟨bv, pv, base, L, h1, h2, rfl⟩ := h
  intro j hj
  simp only [foot, List.mem_cons, List.mem_append] at hj
  rcases hj with rfl | e | e | e
  · exact ⟨_, by simp [stackTags], _, h1.blk⟩
  · exact ⟨3, by simp [stackTags], row_tag h1.bas e⟩
  · exact ⟨_, by simp [stackTags], row_tag h1.parts.row e⟩
  · obtain ⟨y, hy, e⟩ := mem_blocks.1 e
    exact ⟨3, by simp [stackTags], row_tag (h1.parts.frames y hy) (mem_own.2 e)⟩
theorem PA.tag {w : World} {p : Nat} {c : Row} {u : Bool} {F : List Nat} (h : PA w p c u F) : ∀ j ∈ F, ∃ t ∈ pieceTags, tag w j t := by
  obtain ⟨qv, L, h1, h2, h3, rfl⟩ := h
  intro j hj
  simp only [pfoot, List.mem_cons, List.mem_append] at hj
  rcases hj with rfl | e | e
  · exact ⟨_, by simp [pieceTags], _, h1.blk⟩
  · exact ⟨_, by simp [pieceTags], row_tag h1.parts.row e⟩
  · obtain ⟨y, hy, e⟩ := mem_blocks.1 e
    exact ⟨3, by simp [pieceTags], row_tag (h1.parts.frames y hy) (mem_own.2 e)⟩
theorem SA.not {w : World} {s : Nat} {l : Row} {F : List Nat} (h : SA w s l F) {j : Nat} {t : TypeId} (hj : Go.Proofs.Ytkidnmjaioejaaa.Sg.tag w j t) (ht : t ∉ stackTags) : j ∉ F := fun e => by
  obtain ⟨t', h1, h2⟩ := h.tag j e
  exact tag_ne hj h2 (fun e => ht (e ▸ h1)) rfl
theorem PA.not {w : World} {p : Nat} {c : Row} {u : Bool} {F : List Nat} (h : PA w p c u F) {j : Nat} {t : TypeId} (hj : Go.Proofs.Ytkidnmjaioejaaa.Sg.tag w j t) (ht : t ∉ pieceTags) : j ∉ F := fun e => by
  obtain ⟨t', h1, h2⟩ := h.tag j e
  exact tag_ne hj h2 (fun e => ht (e ▸ h1)) rfl
theorem PA.mem {w : World} {p : Nat} {c : Row} {u : Bool} {F : List Nat} (h : PA w p c u F) : p ∈ F := by
  obtain ⟨qv, L, h1, h2, h3, rfl⟩ := h
  simp [pfoot]

/-- A piece of the play: its block, what it was, whether it is used, the document's row of it, its blocks. -/
structure Pc where
  p : Nat
  c : Row
  u : Bool
  v : Value
  F : List Nat
def ptr (b : Nat) : Value := .pointer (some ⟨b, 0, none⟩)
/-- The play in block P: the stack is the row l1, the document's row l. -/
structure PlayAt (w : World) (P s : Nat) (l1 l : Row) (lv pv cv uv : Value) (F : List Nat) (pcs : List Pc) (B0 : Nat) : Prop where
  blk : w.heap[P]? = some (.cells #[ptr s, lv, pv, cv, uv] 61 (0, 0))
  st : SA w s l1 F
  row : RRow w lv l
  prow : RowAt w 67 1 pv pcs.length (pcs.map fun x => ptr x.p)
  crow : RowAt w 56 1 cv pcs.length (pcs.map fun x => x.v)
  urow : RowAt w 4 1 uv pcs.length (pcs.map fun x => .bool x.u)
  pc : ∀ x ∈ pcs, PA w x.p x.c x.u x.F
  pr : ∀ x ∈ pcs, RRow w x.v x.c
  apart : (F ++ pcs.flatMap (fun x => x.F)).Nodup
  lo : B0 ≤ P ∧ (∀ j ∈ F, B0 ≤ j) ∧ (∀ j ∈ own pv ++ (own cv ++ own uv), B0 ≤ j) ∧ ∀ x ∈ pcs, ∀ j ∈ x.F, B0 ≤ j
theorem PlayAt.tagP {w : World} {P s : Nat} {l1 l : Row} {lv pv cv uv : Value} {F : List Nat} {pcs : List Pc} {B0 : Nat} (h : PlayAt w P s l1 l lv pv cv uv F pcs B0) : tag w P 61 := ⟨_, h.blk⟩
theorem PlayAt.far {w : World} {P s : Nat} {l1 l : Row} {lv pv cv uv : Value} {F : List Nat} {pcs : List Pc} {B0 : Nat} (h : PlayAt w P s l1 l lv pv cv uv F pcs B0) (x : Pc) (hx : x ∈ pcs) : ∀ j ∈ x.F, j ∉ F := fun j hj e => by
  have := h.apart
  rw [List.nodup_append] at this
  exact this.2.2 j e j (List.mem_flatMap.2 ⟨x, hx, hj⟩) rfl
/-- The play abides where none of its blocks has turned. -/
theorem PlayAt.kept {w w' : World} {P s : Nat} {l1 l : Row} {lv pv cv uv : Value} {F : List Nat} {pcs : List Pc} {B0 : Nat} (h : PlayAt w P s l1 l lv pv cv uv F pcs B0) (hc : Chg (fun _ => False) w w') : PlayAt w' P s l1 l lv pv cv uv F pcs B0 :=
  ⟨hc.blk h.blk (fun h => h), h.st.chg hc (fun _ _ h => h), h.row.kept hc (fun _ _ h => h), h.prow.kept hc (fun _ _ h => h), h.crow.kept hc (fun _ _ h => h), h.urow.kept hc (fun _ _ h => h),
    fun x hx => (h.pc x hx).chg hc (fun _ _ h => h), fun x hx => (h.pr x hx).kept hc (fun _ _ h => h), h.apart, h.lo⟩
/-- The stack has done something. -/
theorem PlayAt.stack {w w' : World} {P s : Nat} {l1 l l1' : Row} {lv pv cv uv : Value} {F F' : List Nat} {pcs : List Pc} {B0 : Nat} (h : PlayAt w P s l1 l lv pv cv uv F pcs B0) (hs : SA w' s l1' F') (ha : Chg (fun j => j ∈ F) w w') (hn : ∀ k ∈ F', k ∈ F ∨ w.heap.size ≤ k) :
    PlayAt w' P s l1' l lv pv cv uv F' pcs B0 := by
  have hlP := lt_of_block h.blk
  have hlo := h.lo
  refine ⟨ha.blk h.blk (h.st.not h.tagP (by decide)), hs, h.row.kept ha (fun j hj => h.st.not (row_tag h.row (mem_own.2 hj)) (by decide)), h.prow.kept ha (fun j hj => h.st.not (row_tag h.prow (mem_own.2 hj)) (by decide)),
    h.crow.kept ha (fun j hj => h.st.not (row_tag h.crow (mem_own.2 hj)) (by decide)), h.urow.kept ha (fun j hj => h.st.not (row_tag h.urow (mem_own.2 hj)) (by decide)), fun x hx => (h.pc x hx).chg ha (h.far x hx),
    fun x hx => (h.pr x hx).kept ha (fun j hj => h.st.not (row_tag (h.pr x hx) (mem_own.2 hj)) (by decide)), ?_, hlo.1, fun j hj => ?_, hlo.2.2⟩
  · have hap := h.apart
    rw [List.nodup_append] at hap ⊢
    refine ⟨hs.nodup, hap.2.1, fun j hj k hk e => ?_⟩
    subst e
    obtain ⟨x, hx, hjx⟩ := List.mem_flatMap.1 hk
    rcases hn j hj with h1 | h1
    · exact h.far x hx j hjx h1
    · have := (h.pc x hx).lt j hjx
      omega
  · rcases hn j hj with h1 | h1
    · exact hlo.2.1 j h1
    · have := hlo.1
      omega
/-- The document's row is another one. -/
theorem PlayAt.newRow {w w' : World} {P s : Nat} {l1 l l' : Row} {lv lv' pv cv uv : Value} {F : List Nat} {pcs : List Pc} {B0 : Nat} (h : PlayAt w P s l1 l lv pv cv uv F pcs B0) (hc : Chg (fun j => j = P) w w')
    (hb : w'.heap[P]? = some (.cells #[ptr s, lv', pv, cv, uv] 61 (0, 0))) (hr : RRow w' lv' l') : PlayAt w' P s l1 l' lv' pv cv uv F pcs B0 :=
  ⟨hb, h.st.chg hc (fun j hj e => h.st.not h.tagP (by decide) (e ▸ hj)), hr, h.prow.kept hc (fun j hj e => tag_ne (row_tag h.prow (mem_own.2 hj)) h.tagP (by decide) e), h.crow.kept hc (fun j hj e => tag_ne (row_tag h.crow (mem_own.2 hj)) h.tagP (by decide) e),
    h.urow.kept hc (fun j hj e => tag_ne (row_tag h.urow (mem_own.2 hj)) h.tagP (by decide) e), fun x hx => (h.pc x hx).chg hc (fun j hj e => (h.pc x hx).not h.tagP (by decide) (e ▸ hj)),
    fun x hx => (h.pr x hx).kept hc (fun j hj e => tag_ne (row_tag (h.pr x hx) (mem_own.2 hj)) h.tagP (by decide) e), h.apart, h.lo⟩
end Go.Proofs.Ytkidnmjaioejaaa.Sg
