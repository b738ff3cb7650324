/- The stack and its pieces as rows of frames and marks, as the document has them; what the operations leave, in these words. Condition: the row is shorter than 100000. -/
import Derived.Test.YtkidnmjaioejaaaSegItems
namespace Go.Proofs.Ytkidnmjaioejaaa.Sg
set_option linter.unusedVariables false
set_option linter.unusedSimpArgs false
open Go.RowKit Go.Proofs.Ytkidnmjaioejaaa.Mem

abbrev Row := List (Bool × Int)
def fr (f : Int) : Bool × Int := (false, f)
def mk (m : Int) : Bool × Int := (true, m)
def flatP (L : List Part) : Row := L.flatMap fun e => mk e.m :: e.fs.map fr
def flat (base : List Int) (L : List Part) : Row := base.map fr ++ flatP L
def SA (w : World) (s : Nat) (l : Row) (F : List Nat) : Prop := ∃ bv pv base L, StackAt w s bv pv base L ∧ flat base L = l ∧ F = foot s bv pv L
def PA (w : World) (p : Nat) (c : Row) (used : Bool) (F : List Nat) : Prop := ∃ qv L, PieceAt w p qv L used ∧ 0 < L.length ∧ flatP L = c ∧ F = pfoot p qv L
theorem flatP_append (a b : List Part) : flatP (a ++ b) = flatP a ++ flatP b := by simp [flatP]
theorem flat_append (base : List Int) (a b : List Part) : flat base (a ++ b) = flat base a ++ flatP b := by simp [flat, flatP]
theorem flatP_len (L : List Part) : (flatP L).length = many L + L.length := by
  induction L with
  | nil => rfl
  | cons e L ih =>
    have : many (e :: L) = e.fs.length + many L := by simp [many]
    have h2 : flatP (e :: L) = (mk e.m :: e.fs.map fr) ++ flatP L := rfl
    rw [h2, List.length_append, ih, this]
    simp
    omega
theorem flat_len (base : List Int) (L : List Part) : (flat base L).length = count base L + L.length := by
  have : count base L = base.length + many L := rfl
  rw [flat, List.length_append, flatP_len, this, List.length_map]; omega
theorem flatP_marks (L : List Part) : (flatP L).countP (fun x => x.1) = L.length := by
  induction L with
  | nil => rfl
  | cons e L ih =>
    have h2 : flatP (e :: L) = (mk e.m :: e.fs.map fr) ++ flatP L := rfl
    have h3 : (e.fs.map fr).countP (fun x => x.1) = 0 := by rw [List.countP_eq_zero]; intro a ha; obtain ⟨f, _, rfl⟩ := List.mem_map.1 ha; simp [fr]
    rw [h2, List.countP_append, ih, List.countP_cons, h3]
    simp [mk]
    omega
theorem flat_marks (base : List Int) (L : List Part) : (flat base L).countP (fun x => x.1) = L.length := by
  have h3 : (base.map fr).countP (fun x => x.1) = 0 := by rw [List.countP_eq_zero]; intro a ha; obtain ⟨f, _, rfl⟩ := List.mem_map.1 ha; simp [fr]
  rw [flat, List.countP_append, flatP_marks, h3]; omega
theorem flat_frames (base : List Int) (L : List Part) : (flat base L).countP (fun x => !x.1) = count base L := by
  have h := List.length_eq_countP_add_countP (fun x : Bool × Int => x.1) (l := flat base L)
  have h2 : (flat base L).countP (fun x => !x.1) = (flat base L).countP (fun x => decide ¬(x.1 = true)) := by congr 1; funext x; cases x.1 <;> rfl
  rw [flat_len, flat_marks] at h
  omega
theorem SA.chg {G : Nat → Prop} {w w' : World} {s : Nat} {l : Row} {F : List Nat} (h : SA w s l F) (hc : Chg G w w') (hf : ∀ j ∈ F, ¬ G j) : SA w' s l F := by
  obtain ⟨bv, pv, base, L, h1, h2, rfl⟩ := h
  exact ⟨bv, pv, base, L, h1.chg hc hf, h2, rfl⟩
theorem SA.lt {w : World} {s : Nat} {l : Row} {F : List Nat} (h : SA w s l F) : ∀ j ∈ F, j < w.heap.size := by
  obtain ⟨bv, pv, base, L, h1, h2, rfl⟩ := h
  exact h1.lt
theorem SA.nodup {w : World} {s : Nat} {l : Row} {F : List Nat} (h : SA w s l F) : F.Nodup := by
  obtain ⟨bv, pv, base, L, h1, h2, rfl⟩ := h
  exact h1.apart
theorem SA.mem {w : World} {s : Nat} {l : Row} {F : List Nat} (h : SA w s l F) : s ∈ F := by
  obtain ⟨bv, pv, base, L, h1, h2, rfl⟩ := h
  simp [foot]
theorem PA.chg {G : Nat → Prop} {w w' : World} {p : Nat} {c : Row} {u : Bool} {F : List Nat} (h : PA w p c u F) (hc : Chg G w w') (hf : ∀ j ∈ F, ¬ G j) : PA w' p c u F := by
  obtain ⟨qv, L, h1, h2, h3, rfl⟩ := h
  refine ⟨qv, L, ⟨hc.blk h1.blk (hf p (by simp [pfoot])), h1.parts.chg hc (fun j hj => hf j (List.mem_cons_of_mem _ hj)), h1.apart, h1.small⟩, h2, h3, rfl⟩
theorem PA.lt {w : World} {p : Nat} {c : Row} {u : Bool} {F : List Nat} (h : PA w p c u F) : ∀ j ∈ F, j < w.heap.size := by
  obtain ⟨qv, L, h1, h2, h3, rfl⟩ := h
  intro j hj
  rcases List.mem_cons.1 hj with rfl | hj
  · exact lt_of_block h1.blk
  · exact h1.parts.lt j hj
theorem PA.nodup {w : World} {p : Nat} {c : Row} {u : Bool} {F : List Nat} (h : PA w p c u F) : F.Nodup := by
  obtain ⟨qv, L, h1, h2, h3, rfl⟩ := h
  exact h1.apart
theorem SA.small {w : World} {s : Nat} {bv pv : Value} {base : List Int} {L : List Part} {l : Row} (h : flat base L = l) (hl : l.length < 100000) : count base L < 100000 ∧ L.length < 100000 := by
  have := flat_len base L
  rw [h] at this
  omega
theorem new_abs (w : World) : Calls Try.prog 25 #[] w fun e w' => e = .returned (.pointer (some ⟨w.heap.size, 0, none⟩)) ∧ SA w' w.heap.size [] [w.heap.size] ∧ Chg (fun _ => False) w w' :=
  (new_calls w).mono fun e w' ⟨h1, h2, h3⟩ => ⟨h1, ⟨_, _, _, _, h2, rfl, rfl⟩, h3⟩
theorem push_abs {w : World} {s : Nat} {l : Row} {F : List Nat} (h : SA w s l F) (f : Int) (hl : l.length < 100000) :
    Calls Try.prog 33 #[.pointer (some ⟨s, 0, none⟩), .int .i64 f] w fun e w' => (∃ u, e = .returned u) ∧ ∃ F', SA w' s (l ++ [fr f]) F' ∧ After w w' F F' := by
  obtain ⟨bv, pv, base, L, h1, h2, rfl⟩ := h
  have hsm := SA.small (bv := bv) (pv := pv) (w := w) (s := s) h2 hl
  subst h2
  rcases L.eq_nil_or_concat with rfl | ⟨L0, e, rfl⟩
  · refine (push_base h1 f hsm.1).mono fun e w' ⟨q1, bv', q2, q3⟩ => ⟨q1, _, ⟨bv', pv, _, _, q2, by simp [flat, flatP], rfl⟩, q3⟩
  · rw [List.concat_eq_append] at *
    refine (push_part h1 f hsm.1).mono fun e' w' ⟨q1, v', q2, q3⟩ => ⟨q1, _, ⟨bv, pv, _, _, q2, by simp [flat, flatP], rfl⟩, q3⟩
theorem mark_abs {w : World} {s : Nat} {l : Row} {F : List Nat} (h : SA w s l F) (m : Int) (hl : l.length < 100000) :
    Calls Try.prog 34 #[.pointer (some ⟨s, 0, none⟩), .int .i64 m] w fun e w' => (∃ u, e = .returned u) ∧ ∃ F', SA w' s (l ++ [mk m]) F' ∧ After w w' F F' := by
  obtain ⟨bv, pv, base, L, h1, h2, rfl⟩ := h
  have hsm := SA.small (bv := bv) (pv := pv) (w := w) (s := s) h2 hl
  subst h2
  exact (mark_calls h1 m hsm.2).mono fun e w' ⟨q1, pv', q2, q3⟩ => ⟨q1, _, ⟨bv, pv', _, _, q2, by simp [flat, flatP], rfl⟩, q3⟩
/-- What is on top. -/
def topOf (l : Row) : Value := match l.getLast? with
  | some (false, f) => .tuple #[.int .i64 f, .bool true]
  | _ => .tuple #[.int .i64 0, .bool false]
theorem topOf_frames (l : Row) (hl : ∀ x ∈ l.getLast?, x.1 = true) (fs : List Int) : topOf (l ++ fs.map fr) = lastOf fs := by
  rcases fs.eq_nil_or_concat with rfl | ⟨f0, f, rfl⟩
  · unfold topOf lastOf
    simp only [List.map_nil, List.append_nil, List.getLast?_nil, Option.getD_none, Option.isSome_none]
    cases h : l.getLast? with
    | none => rfl
    | some x =>
      obtain ⟨b, n⟩ := x
      obtain rfl : b = true := hl (b, n) (by rw [h]; rfl)
      rfl
  · unfold topOf lastOf
    simp [fr]
theorem top_abs {w : World} {s : Nat} {l : Row} {F : List Nat} (h : SA w s l F) : Calls Try.prog 36 #[.pointer (some ⟨s, 0, none⟩)] w fun e w' => e = .returned (topOf l) ∧ ∃ m, w' = w.drewN m := by
  obtain ⟨bv, pv, base, L, h1, h2, rfl⟩ := h
  subst h2
  rcases L.eq_nil_or_concat with rfl | ⟨L0, e, rfl⟩
  · refine (topOf_base h1).mono fun e w' ⟨q1, q2⟩ => ⟨?_, q2⟩
    rw [q1]
    have := topOf_frames [] (by simp) base
    simp [flat, flatP] at this ⊢
    exact this.symm
  · rw [List.concat_eq_append] at *
    refine (topOf_part h1).mono fun e' w' ⟨q1, q2⟩ => ⟨?_, q2⟩
    rw [q1]
    have := topOf_frames (flat base L0 ++ [mk e.m]) (by simp [mk]) e.fs
    rw [← this]
    simp [flat, flatP]
/-- The place of the mark number i from the top, in a row that is turned about. -/
def fromTop : Row → Nat → Option Nat
  | [], _ => none
  | (true, _) :: r, 0 => some r.length
  | (true, _) :: r, i + 1 => fromTop r i
  | (false, _) :: r, i => fromTop r i
theorem fromTop_frames (fs : List Int) (r : Row) (i : Nat) : fromTop (fs.map fr ++ r) i = fromTop r i := by
  induction fs with
  | nil => rfl
  | cons f fs ih => exact ih
theorem fromTop_flat (base : List Int) (L0 L1 : List Part) (h1 : 0 < L1.length) : fromTop (flat base (L0 ++ L1)).reverse (L1.length - 1) = some (flat base L0).length := by
  obtain ⟨n, hn⟩ : ∃ n, L1.length = n := ⟨_, rfl⟩
  induction n generalizing L1 with
  | zero => omega
  | succ n ih =>
    rcases L1.eq_nil_or_concat with rfl | ⟨L2, e, rfl⟩
    · simp at hn
    · rw [List.concat_eq_append] at *
      have hl : L2.length = n := by simpa using hn
      have e1 : (flat base (L0 ++ (L2 ++ [e]))).reverse = e.fs.reverse.map fr ++ (mk e.m :: (flat base (L0 ++ L2)).reverse) := by simp [flat, flatP]
      rw [e1, fromTop_frames, List.length_append, hl]
      show fromTop (mk e.m :: _) (n + 1 - 1) = _
      rw [Nat.add_sub_cancel]
      cases n with
      | zero =>
        obtain rfl : L2 = [] := List.length_eq_zero_iff.1 hl
        simp [mk, fromTop]
      | succ n =>
        show fromTop ((true, e.m) :: _) (n + 1) = _
        have := ih L2 (by omega) hl
        rw [hl, Nat.add_sub_cancel] at this
        exact this
theorem fromTop_over (r : Row) (i : Nat) (h : r.countP (fun x => x.1) ≤ i) : fromTop r i = none := by
  induction r generalizing i with
  | nil => rfl
  | cons x r ih =>
    obtain ⟨b, n⟩ := x
    cases b with
    | false => exact ih i (by simpa using h)
    | true =>
      have h2 : r.countP (fun x => x.1) + 1 ≤ i := by simpa using h
      cases i with
      | zero => omega
      | succ i => exact ih i (by omega)
/-- The place of the mark number i from the top. -/
def markAt (l : Row) (i : Int) : Option Nat := if i < 0 then none else fromTop l.reverse i.toNat
theorem markAt_split (base : List Int) (L : List Part) (i : Int) (at_ : Nat) (h : markAt (flat base L) i = some at_) : ∃ L0 L1, L = L0 ++ L1 ∧ i = (L1.length : Int) - 1 ∧ 0 < L1.length ∧ at_ = (flat base L0).length := by
  unfold markAt at h
  split at h
  · cases h
  · rename_i hi
    rcases Nat.lt_or_ge i.toNat L.length with h1 | h1
    · refine ⟨L.take (L.length - (i.toNat + 1)), L.drop (L.length - (i.toNat + 1)), by simp, ?_, ?_, ?_⟩
      · rw [List.length_drop]; omega
      · rw [List.length_drop]; omega
      · have := fromTop_flat base (L.take (L.length - (i.toNat + 1))) (L.drop (L.length - (i.toNat + 1))) (by rw [List.length_drop]; omega)
        rw [List.take_append_drop, List.length_drop, show L.length - (L.length - (i.toNat + 1)) - 1 = i.toNat by omega] at this
        rw [this] at h
        simpa using h.symm
    · rw [fromTop_over] at h
      · cases h
      · rw [List.countP_reverse, flat_marks]; exact h1
theorem markAt_none (base : List Int) (L : List Part) (i : Int) (h : markAt (flat base L) i = none) : i < 0 ∨ (L.length : Int) ≤ i := by
  unfold markAt at h
  split at h
  · left; assumption
  · right
    rename_i hi
    rcases Nat.lt_or_ge i.toNat L.length with h1 | h1
    · exfalso
      have := fromTop_flat base (L.take (L.length - (i.toNat + 1))) (L.drop (L.length - (i.toNat + 1))) (by rw [List.length_drop]; omega)
      rw [List.take_append_drop, List.length_drop, show L.length - (L.length - (i.toNat + 1)) - 1 = i.toNat by omega] at this
      rw [this] at h
      cases h
    · omega
theorem cut_abs {w : World} {s : Nat} {l : Row} {F : List Nat} (h : SA w s l F) (i : Int) (at_ : Nat) (hat : markAt l i = some at_) :
    Calls Try.prog 30 #[.pointer (some ⟨s, 0, none⟩), .int .i64 i] w fun e w' => ∃ p F' Fp, e = .returned (.tuple #[.pointer (some ⟨p, 0, none⟩), .bool true]) ∧ SA w' s (l.take at_) F' ∧ PA w' p (l.drop at_) false Fp ∧ (F' ++ Fp).Nodup ∧ After w w' F (F' ++ Fp) := by
  obtain ⟨bv, pv, base, L, h1, h2, rfl⟩ := h
  subst h2
  obtain ⟨L0, L1, rfl, hi, hp, rfl⟩ := markAt_split base L i at_ hat
  refine (cut_walk h1 hp i hi).mono fun e w' ⟨p, pv', qv, q1, q2, q3, q4, q5⟩ => ⟨p, _, _, q1, ⟨bv, pv', base, L0, q2, ?_, rfl⟩, ⟨qv, L1, q3, hp, ?_, rfl⟩, q4, q5⟩
  · rw [flat_append, List.take_left]
  · rw [flat_append, List.drop_left]
def toItem (x : Bool × Int) : Item := if x.1 then markItem x.2 else frameItem x.2
theorem items_flat (L : List Part) : items L = (flatP L).reverse.map toItem := by
  induction L with
  | nil => rfl
  | cons e L ih =>
    have h2 : flatP (e :: L) = (mk e.m :: e.fs.map fr) ++ flatP L := rfl
    have h3 : items (e :: L) = items L ++ partItems e := by simp [items]
    have h4 : (List.map toItem (List.map fr e.fs.reverse)) = e.fs.reverse.map frameItem := by rw [List.map_map]; rfl
    rw [h2, h3, ih]
    simp only [List.reverse_append, List.map_append, List.reverse_cons, List.map_cons, List.map_nil, partItems, ← List.map_reverse, h4]
    rfl
theorem items_abs {w : World} {p : Nat} {c : Row} {u : Bool} {F : List Nat} (h : PA w p c u F) :
    Calls Try.prog 41 #[.pointer (some ⟨p, 0, none⟩)] w fun e w' => ∃ v, e = .returned v ∧ ItRow w' v (c.reverse.map toItem) ∧ Chg (fun _ => False) w w' ∧ ∀ j, v.ownBlock = some j → w.heap.size ≤ j := by
  obtain ⟨qv, L, h1, h2, h3, rfl⟩ := h
  rw [← h3, ← items_flat]
  exact (callsIn_wide (n := 6)).1 (items_in Fence.wide 6 trivial trivial trivial trivial trivial rfl (Nat.le_refl _) p qv L u w h1 h2)
end Go.Proofs.Ytkidnmjaioejaaa.Sg
