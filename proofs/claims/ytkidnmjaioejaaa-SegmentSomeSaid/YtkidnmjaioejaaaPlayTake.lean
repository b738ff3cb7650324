/- What the laws take off the play at their end; a piece that is cut off and put back. Condition: the play is known. -/
import Derived.Test.YtkidnmjaioejaaaPlayRun
namespace Go.Proofs.Ytkidnmjaioejaaa.Sg
set_option linter.unusedVariables false
set_option linter.unusedSimpArgs false
open Go.RowKit Go.Proofs.Ytkidnmjaioejaaa.Mem

/-- The play, m of its row left. -/
def Takes (w wr : World) (P s m : Nat) : Prop := ∃ l lv pv cv uv F pcs, PlayAt wr P s l l lv pv cv uv F pcs w.heap.size ∧ l.length = m ∧ m ≤ 100000 ∧ Below w.heap.size w wr
theorem Takes.kept {w wr w' : World} {P s m : Nat} (h : Takes w wr P s m) (hC : Chg (fun _ => False) wr w') : Takes w w' P s m := by
  obtain ⟨l, lv, pv, cv, uv, F, pcs, h1, h2, h3, h4⟩ := h
  exact ⟨l, lv, pv, cv, uv, F, pcs, h1.kept hC, h2, h3, h4.trans (hC.toBelow h4.size (fun _ _ e => e.elim))⟩
theorem Takes.below {w wr : World} {P s m : Nat} (h : Takes w wr P s m) : Below w.heap.size w wr := by
  obtain ⟨l, lv, pv, cv, uv, F, pcs, h1, h2, h3, h4⟩ := h
  exact h4
theorem Takes.parts {w wr : World} {P s m : Nat} (h : Takes w wr P s m) : (m = 0 ∧ ∃ ad cap, wr.cell? ⟨P, 1, none⟩ = some (.slice ad 0 cap)) ∨
    ∃ k b g off cap, m = k + 1 ∧ k < 100000 ∧ wr.cell? ⟨P, 1, none⟩ = some (.slice (some ⟨g, off, none⟩) (k + 1) cap) ∧ wr.cell? ⟨g, off + k * 2, none⟩ = some (.bool b) ∧
      Hid (∀ W, Chg (fun _ => False) wr W → Calls Try.prog 29 #[.pointer (some ⟨P, 0, none⟩), .bool b] W fun e w' => e = .returned (.bool true) ∧ Takes w w' P s k) := by
  obtain ⟨l, lv, pv, cv, uv, F, pcs, h1, h2, h3, h4⟩ := h
  have hrow := h1.row
  rcases l.eq_nil_or_concat with rfl | ⟨l0, ⟨b, n⟩, rfl⟩
  · left
    obtain ⟨ad, cap, rfl, _, _⟩ := hrow.form
    exact ⟨by simpa using h2.symm, ad, cap, cell_of h1.blk 1⟩
  · right
    rw [List.concat_eq_append] at *
    have hlen : (l0 ++ [(b, n)]).length = l0.length + 1 := by simp
    unfold RRow at hrow
    rw [hlen] at hrow
    obtain ⟨g, off, cap, rfl, hcap⟩ := hrow.formS (by omega)
    obtain ⟨d0, d1⟩ := RRow.at hrow hlen l0.length b n (by simp)
    refine ⟨l0.length, b, g, off, cap, by omega, by omega, cell_of h1.blk 1, d0, fun W hW => ?_⟩
    refine (takes_calls (h1.kept hW) (by omega) b).mono ?_
    rintro e w' ⟨q1, lv', F', q2, q3⟩
    rw [takeRow_last] at q2
    have hW2 := h4.trans (hW.toBelow h4.size (fun _ _ e => e.elim))
    exact ⟨q1, l0, lv', pv, cv, uv, F', pcs, q2, rfl, by omega, hW2.trans (q3.toBelow (Nat.le_trans h4.size hW.size) (fun j _ e => e))⟩
theorem Takes.looks {w wr : World} {P s m : Nat} (h : Takes w wr P s m) (n : Int) (hn : n ≤ 9223372036854775807) :
    Calls Try.prog 27 #[.pointer (some ⟨P, 0, none⟩), .int .i64 n] wr fun e w' => e = .returned (.bool true) ∧ ∃ m, w' = wr.drewN m := by
  obtain ⟨l, lv, pv, cv, uv, F, pcs, h1, h2, h3, h4⟩ := h
  exact looks_calls h1 (by omega) n hn
theorem PA.len {w : World} {p : Nat} {c : Row} {u : Bool} {F : List Nat} (h : PA w p c u F) : c.length ≤ 200000 := by
  obtain ⟨qv, L, h1, h2, h3, rfl⟩ := h
  have := h1.small
  rw [← h3, flatP_len]
  omega
/-- The stack tells what it has. -/
theorem Live.looks {w wr : World} {P s k : Nat} (h : Live w wr P s k) (hk : k ≤ 200) (n : Int) (hn : n ≤ 9223372036854775807) :
    Calls Try.prog 27 #[.pointer (some ⟨P, 0, none⟩), .int .i64 n] wr fun e w' => e = .returned (.bool true) ∧ ∃ m, w' = wr.drewN m := by
  obtain ⟨l, lv, pv, cv, uv, F, pcs, h1, h2, h3, h4⟩ := h
  exact looks_calls h1 (by unfold weight at h2; omega) n hn
theorem Live.takes {w wr : World} {P s k : Nat} (h : Live w wr P s k) (hk : k ≤ 200) : ∃ m, m < 100001 ∧ Takes w wr P s m := by
  obtain ⟨l, lv, pv, cv, uv, F, pcs, h1, h2, h3, h4⟩ := h
  exact ⟨l.length, by unfold weight at h2; omega, l, lv, pv, cv, uv, F, pcs, h1, rfl, by unfold weight at h2; omega, h4⟩
theorem Live.below {w wr : World} {P s k : Nat} (h : Live w wr P s k) : Below w.heap.size w wr := by
  obtain ⟨l, lv, pv, cv, uv, F, pcs, h1, h2, h3, h4⟩ := h
  exact h4
/-- Its pieces, one by one. -/
theorem Live.pieces {w wr : World} {P s k : Nat} (h : Live w wr P s k) (hk : k ≤ 200) : ∃ np adp capp adc capc, np ≤ 200 ∧ wr.cell? ⟨P, 2, none⟩ = some (.slice adp np capp) ∧ wr.cell? ⟨P, 3, none⟩ = some (.slice adc np capc) ∧
    ∀ i, i < np → ∃ gp offp gc offc p v, adp = some ⟨gp, offp, none⟩ ∧ adc = some ⟨gc, offc, none⟩ ∧ ∀ W, Chg (fun _ => False) wr W → W.cell? ⟨gp, offp + i, none⟩ = some (.pointer (some ⟨p, 0, none⟩)) ∧ W.cell? ⟨gc, offc + i, none⟩ = some v ∧
      Hid (Calls Try.prog 41 #[.pointer (some ⟨p, 0, none⟩)] W fun e w' => ∃ n ad cap, e = .returned (.slice ad n cap) ∧ n ≤ 200000 ∧ Chg (fun _ => False) W w' ∧ (0 < n → ∃ g off cur, ad = some ⟨g, off, none⟩ ∧ W.heap.size ≤ g ∧ w'.heap[g]? = some (.cells cur 83 (0, 0)) ∧ off + n * 3 ≤ cur.size ∧ ∀ j, j < n → ∃ b, cur[off + j * 3]? = some (.bool b))) ∧
      Hid (Calls Try.prog 28 #[.pointer (some ⟨p, 0, none⟩), v] W fun e w' => e = .returned (.bool true) ∧ Chg (fun _ => False) W w') := by
  obtain ⟨l, lv, pv, cv, uv, F, pcs, h1, h2, h3, h4⟩ := h
  obtain ⟨adp, capp, hp, _, _⟩ := h1.prow.form
  obtain ⟨adc, capc, hc, _, _⟩ := h1.crow.form
  subst hp hc
  refine ⟨pcs.length, adp, capp, adc, capc, by omega, cell_of h1.blk 2, cell_of h1.blk 3, fun i hi => ?_⟩
  obtain ⟨x, hx⟩ : ∃ x, pcs[i]? = some x := ⟨_, List.getElem?_eq_getElem hi⟩
  have hxm : x ∈ pcs := List.mem_of_getElem? hx
  obtain ⟨gp, offp, capp', hp, _⟩ := h1.prow.formS (by omega)
  cases hp
  obtain ⟨gc, offc, capc', hc, _⟩ := h1.crow.formS (by omega)
  cases hc
  refine ⟨gp, offp, gc, offc, x.p, x.v, rfl, rfl, fun W hW => ?_⟩
  have hk := h1.kept hW
  have hpa := hk.pc x hxm
  refine ⟨one_cell hk.prow i _ (by rw [List.getElem?_map, hx]; rfl), one_cell hk.crow i _ (by rw [List.getElem?_map, hx]; rfl), (items_abs hpa).mono ?_, same_calls hpa (hk.pr x hxm) hpa.len⟩
  rintro e w' ⟨v, q1, q2, q3, q4⟩
  have hlen : (x.c.reverse.map toItem).length = x.c.length := by simp
  have q5 := q2
  unfold ItRow at q5
  obtain ⟨ad, cap, rfl, _, _⟩ := q5.form
  refine ⟨(x.c.reverse.map toItem).length, ad, cap, q1, by rw [hlen]; exact hpa.len, q3, fun hn => ?_⟩
  obtain ⟨g, off, cap', hv, _⟩ := q5.formS hn
  cases hv
  have q6 := q5
  obtain ⟨_, h7⟩ := q6
  rcases h7 with ⟨e, _⟩ | ⟨g', off', cap', cur, e, hg, h3, h4, h5, h6⟩
  · cases e
  · cases e
    refine ⟨g, off, cur, rfl, q4 g rfl, hg, by omega, fun j hj => ?_⟩
    obtain ⟨d0, _, _⟩ := item_at q5 rfl j _ (List.getElem?_eq_getElem hj)
    rw [cell_of hg] at d0
    exact ⟨_, d0⟩
/-- What SegmentBack does behind its acts. -/
theorem Live.back {w wr : World} {P s k : Nat} (h : Live w wr P s k) (n : Int) (hn : n ≤ 9223372036854775807) (hk : k ≤ 200) :
    wr.cell? ⟨P, 0, none⟩ = some (.pointer (some ⟨s, 0, none⟩)) ∧ True ∧
    ((∃ lv, wr.cell? ⟨P, 1, none⟩ = some lv ∧ Hid (Calls Try.prog 30 #[.pointer (some ⟨s, 0, none⟩), .int .i64 n] wr fun e w' => e = .returned (.tuple #[.pointer none, .bool false]) ∧ w' = wr) ∧
      Hid (Calls Try.prog 31 #[lv, .int .i64 n] wr fun e w' => e = .returned (.int .i64 (-1)) ∧ w' = wr) ∧
      Hid (Calls Try.prog 27 #[.pointer (some ⟨P, 0, none⟩), .int .i64 n] wr fun e w' => e = .returned (.bool true) ∧ ∃ m, w' = wr.drewN m) ∧
      Hid (∃ m : Nat, m < 100001 ∧ Takes w wr P s m)) ∨
    ∃ (lv : Value) (at_ : Nat), wr.cell? ⟨P, 1, none⟩ = some lv ∧ Hid (Calls Try.prog 30 #[.pointer (some ⟨s, 0, none⟩), .int .i64 n] wr fun e w2 => ∃ p, e = .returned (.tuple #[.pointer (some ⟨p, 0, none⟩), .bool true]) ∧
      w2.cell? ⟨P, 0, none⟩ = some (.pointer (some ⟨s, 0, none⟩)) ∧ w2.cell? ⟨P, 1, none⟩ = some lv ∧
      Hid (Calls Try.prog 31 #[lv, .int .i64 n] w2 fun e w' => e = .returned (.int .i64 (at_ : Int)) ∧ w' = w2) ∧
      Hid (Calls Try.prog 32 #[.pointer (some ⟨s, 0, none⟩), .pointer (some ⟨p, 0, none⟩)] w2 fun e w3 => e = .returned (.bool true) ∧
        Hid (Calls Try.prog 27 #[.pointer (some ⟨P, 0, none⟩), .int .i64 n] w3 fun e w' => e = .returned (.bool true) ∧ ∃ m, w' = w3.drewN m) ∧
        Hid (∃ m : Nat, m < 100001 ∧ Takes w w3 P s m)))) := by
  obtain ⟨l, lv, pv, cv, uv, F, pcs, h1, h2, h3, h4⟩ := h
  have hll : l.length ≤ 200 := by unfold weight at h2; omega
  refine ⟨cell_of h1.blk 0, trivial, ?_⟩
  cases hat : markAt l n with
  | none =>
    left
    refine ⟨lv, cell_of h1.blk 1, cut_none h1.st n hat, ?_, looks_calls h1 (by omega) n hn, l.length, by omega, l, lv, pv, cv, uv, F, pcs, h1, rfl, by omega, h4⟩
    refine Lib.hid ?_
    have := mark_ref h1.row (by omega) n hn
    simpa [placeOf, hat] using this
  | some at_ =>
    right
    refine ⟨lv, at_, cell_of h1.blk 1, (cut_abs h1.st n at_ hat).mono ?_⟩
    rintro e w2 ⟨p, F', Fp, q1, q2, q3, q4, q5⟩
    have h5 := h1.stack q2 q5.chg (fun k hk => q5.new k (List.mem_append_left _ hk))
    refine ⟨p, q1, cell_of h5.blk 0, cell_of h5.blk 1, ?_, ?_⟩
    · refine Lib.hid ?_
      have := mark_ref h5.row (by omega) n hn
      simpa [placeOf, hat] using this
    · have hd : ∀ j ∈ F', ∀ k ∈ Fp, j ≠ k := by
        rw [List.nodup_append] at q4
        exact q4.2.2
      have hlt : (l.take at_).length + (l.drop at_).length ≤ 100000 := by
        rw [List.length_take, List.length_drop]; omega
      refine (join_abs q2 q3 hd hlt).mono ?_
      rintro e w3 ⟨r1, F3, r2, r3, r4, r5⟩
      rw [List.take_append_drop] at r2
      have hp := q3.mem
      have hC3 : Chg (fun j => j ∈ F) wr w3 := q5.chg.andThen r4 (fun j hj e => by
        rcases e with e | rfl
        · rcases q5.new j (List.mem_append_left _ e) with h6 | h6
          · exact h6
          · omega
        · rcases q5.new _ (List.mem_append_right _ hp) with h6 | h6
          · exact h6
          · omega)
      have h6 := h1.stack r2 hC3 (fun k hk => by
        rcases r5 k hk with e | e
        · exact q5.new k (List.mem_append_left _ e)
        · right
          have := q5.chg.size
          omega)
      exact ⟨r1, looks_calls h6 (by omega) n hn, l.length, by omega, l, lv, pv, cv, uv, F3, pcs, h6, rfl, by omega, h4.trans (hC3.toBelow h4.size (fun j _ e => h1.lo.2.1 j e))⟩
end Go.Proofs.Ytkidnmjaioejaaa.Sg
