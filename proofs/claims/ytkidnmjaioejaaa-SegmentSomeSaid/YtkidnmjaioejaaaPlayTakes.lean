/- takes, walked: Pop or Unmark, beside the document's row. Condition: the play is known. -/
import Derived.Test.YtkidnmjaioejaaaPlayBase
namespace Go.Proofs.Ytkidnmjaioejaaa.Sg
set_option linter.unusedVariables false
set_option linter.unusedSimpArgs false
open Go.RowKit Go.Proofs.Ytkidnmjaioejaaa.Mem

abbrev takeF (mark : Bool) : FuncId := if mark then 37 else 35
theorem takes_empty {w : World} {P s cap : Nat} {ad : Option Addr} (mark : Bool) (c0 : w.cell? ⟨P, 0, none⟩ = some (.pointer (some ⟨s, 0, none⟩))) (c1 : w.cell? ⟨P, 1, none⟩ = some (.slice ad 0 cap))
    (hop : Calls Try.prog (takeF mark) #[.pointer (some ⟨s, 0, none⟩)] w fun e w' => e = .returned (.tuple #[.int .i64 0, .bool false]) ∧ Chg (fun _ => False) w w') :
    Calls Try.prog 29 #[.pointer (some ⟨P, 0, none⟩), .bool mark] w fun e w' => e = .returned (.bool true) ∧ Chg (fun _ => False) w w' := by
  have HOP := Lib.hid hop
  clear hop
  cases mark with
  | true =>
    simp only [takeF, if_true] at HOP
    go_enter Try.func29, Try.ntmps29
    go_wp2_with fail
    refine HOP.out.mono ?_
    rintro e w1 ⟨rfl, hC1⟩
    have HC1 := Lib.hid hC1
    clear hC1
    go_wp2_with fail
    go_ret
    exact ⟨rfl, HC1.out⟩
  | false =>
    simp only [takeF, if_false, Bool.false_eq_true] at HOP
    go_enter Try.func29, Try.ntmps29
    go_wp2_with fail
    refine HOP.out.mono ?_
    rintro e w1 ⟨rfl, hC1⟩
    have HC1 := Lib.hid hC1
    clear hC1
    go_wp2_with fail
    go_ret
    exact ⟨rfl, HC1.out⟩
theorem takes_no {w : World} {P s k g off cap : Nat} (mark : Bool) (hk : k < 100000) (c0 : w.cell? ⟨P, 0, none⟩ = some (.pointer (some ⟨s, 0, none⟩))) (c1 : w.cell? ⟨P, 1, none⟩ = some (.slice (some ⟨g, off, none⟩) (k + 1) cap))
    (c2 : w.cell? ⟨g, off + k * 2, none⟩ = some (.bool (!mark))) (hop : Calls Try.prog (takeF mark) #[.pointer (some ⟨s, 0, none⟩)] w fun e w' => e = .returned (.tuple #[.int .i64 0, .bool false]) ∧ Chg (fun _ => False) w w') :
    Calls Try.prog 29 #[.pointer (some ⟨P, 0, none⟩), .bool mark] w fun e w' => e = .returned (.bool true) ∧ Chg (fun _ => False) w w' := by
  have HOP := Lib.hid hop
  have k0 : (0 : Int) ≤ (k : Int) := by omega
  clear hop
  cases mark with
  | true =>
    simp only [takeF, if_true, Bool.not_true] at HOP c2
    go_enter Try.func29, Try.ntmps29
    go_wp2_with fail
    refine HOP.out.mono ?_
    rintro e w1 ⟨rfl, hC1⟩
    have HC1 := Lib.hid hC1
    clear hC1
    go_wp2_with fail
    go_ret
    exact ⟨rfl, HC1.out⟩
  | false =>
    simp only [takeF, if_false, Bool.false_eq_true, Bool.not_false] at HOP c2
    go_enter Try.func29, Try.ntmps29
    go_wp2_with fail
    refine HOP.out.mono ?_
    rintro e w1 ⟨rfl, hC1⟩
    have HC1 := Lib.hid hC1
    clear hC1
    go_wp2_with fail
    go_ret
    exact ⟨rfl, HC1.out⟩
theorem takes_yes {w : World} {P s k g off cap : Nat} {m : Int} {X : World → Prop} (mark : Bool) (hk : k < 100000) (hkc : k + 1 ≤ cap) (c0 : w.cell? ⟨P, 0, none⟩ = some (.pointer (some ⟨s, 0, none⟩))) (c1 : w.cell? ⟨P, 1, none⟩ = some (.slice (some ⟨g, off, none⟩) (k + 1) cap))
    (c2 : w.cell? ⟨g, off + k * 2, none⟩ = some (.bool mark)) (hop : Calls Try.prog (takeF mark) #[.pointer (some ⟨s, 0, none⟩)] w fun e w' => e = .returned (.tuple #[.int .i64 m, .bool true]) ∧ X w')
    (hX : ∀ w', X w' → w'.cell? ⟨P, 1, none⟩ = some (.slice (some ⟨g, off, none⟩) (k + 1) cap) ∧ w'.frozen? ⟨P, 1, none⟩ = false ∧ w'.cell? ⟨g, off + k * 2 + 1, none⟩ = some (.int .i64 m)) :
    Calls Try.prog 29 #[.pointer (some ⟨P, 0, none⟩), .bool mark] w fun e w' => e = .returned (.bool true) ∧ ∃ w1, X w1 ∧ w' = w1.setCell ⟨P, 1, none⟩ (.slice (some ⟨g, off, none⟩) k cap) := by
  have HOP := Lib.hid hop
  have HX := Lib.hid hX
  have k0 : (0 : Int) ≤ (k : Int) := by omega
  clear hop hX
  cases mark with
  | true =>
    simp only [takeF, if_true] at HOP
    go_enter Try.func29, Try.ntmps29
    go_wp2_with fail
    refine HOP.out.mono ?_
    rintro e w1 ⟨rfl, hX1⟩
    obtain ⟨d0, d1, d2⟩ := HX.out w1 hX1
    have HX1 := Lib.hid hX1
    clear hX1
    go_wp2_with fail
    go_ret
    exact ⟨rfl, w1, HX1.out, rfl⟩
  | false =>
    simp only [takeF, if_false, Bool.false_eq_true] at HOP
    go_enter Try.func29, Try.ntmps29
    go_wp2_with fail
    refine HOP.out.mono ?_
    rintro e w1 ⟨rfl, hX1⟩
    obtain ⟨d0, d1, d2⟩ := HX.out w1 hX1
    have HX1 := Lib.hid hX1
    clear hX1
    go_wp2_with fail
    go_ret
    exact ⟨rfl, w1, HX1.out, rfl⟩
/-- The row behind takes. -/
def takeRow (l : Row) (mark : Bool) : Row := match l.getLast? with
  | some x => if x.1 = mark then l.dropLast else l
  | none => l
theorem take_none {w : World} {s : Nat} {l : Row} {F : List Nat} (h : SA w s l F) (mark : Bool) (hl : ∀ x ∈ l.getLast?, x.1 ≠ mark) :
    Calls Try.prog (takeF mark) #[.pointer (some ⟨s, 0, none⟩)] w fun e w' => e = .returned (.tuple #[.int .i64 0, .bool false]) ∧ Chg (fun _ => False) w w' := by
  cases mark with
  | true => exact (unmark_none h (fun x hx => by have := hl x hx; simpa using this)).mono fun e w' ⟨q1, q2⟩ => ⟨q1, drewN_chg q2⟩
  | false =>
    refine pop_none ((top_abs h).mono fun e w' ⟨q1, q2⟩ => ⟨?_, drewN_chg q2⟩)
    rw [q1]
    unfold topOf
    cases hg : l.getLast? with
    | none => rfl
    | some x =>
      obtain ⟨b, n⟩ := x
      have : b = true := by have := hl (b, n) (by rw [hg]; rfl); simpa using this
      subst this
      rfl
theorem take_some {w : World} {s : Nat} {l0 : Row} {F : List Nat} (mark : Bool) (m : Int) (h : SA w s (l0 ++ [(mark, m)]) F) :
    Calls Try.prog (takeF mark) #[.pointer (some ⟨s, 0, none⟩)] w fun e w' => e = .returned (.tuple #[.int .i64 m, .bool true]) ∧ ∃ F', SA w' s l0 F' ∧ After w w' F F' := by
  cases mark with
  | true => exact unmark_abs h
  | false => exact pop_abs h
theorem rcells_take (l : Row) (k : Nat) : (l.flatMap rcells).take (k * 2) = (l.take k).flatMap rcells := by
  induction l generalizing k with
  | nil => simp
  | cons x l ih =>
    cases k with
    | zero => simp
    | succ k =>
      rw [List.take_succ_cons, List.flatMap_cons, List.flatMap_cons, ← ih k]
      have : (k + 1) * 2 = (rcells x).length + k * 2 := by show _ = 2 + _; omega
      rw [this, List.take_length_add_append]
theorem RRow.take {w : World} {l : Row} {ad : Option Addr} {n cap : Nat} (h : RowAt w 70 2 (.slice ad n cap) n (l.flatMap rcells)) (hn : l.length = n) (k : Nat) (hk : k ≤ n) : RRow w (.slice ad k cap) (l.take k) := by
  have h2 := h.take k hk _ _ rfl
  rw [rcells_take] at h2
  have : (l.take k).length = k := by rw [List.length_take]; omega
  unfold RRow
  rw [this]
  exact h2
theorem chg_lo {w w' : World} {F : List Nat} {B0 : Nat} (h : Chg (fun j => j ∈ F) w w') (hlo : ∀ j ∈ F, B0 ≤ j) : Chg (fun j => B0 ≤ j) w w' := h.mono fun j _ e => hlo j e
theorem takes_calls {w : World} {P s : Nat} {l : Row} {lv pv cv uv : Value} {F : List Nat} {pcs : List Pc} {B0 : Nat} (h : PlayAt w P s l l lv pv cv uv F pcs B0) (hl : l.length ≤ 100000) (mark : Bool) :
    Calls Try.prog 29 #[.pointer (some ⟨P, 0, none⟩), .bool mark] w fun e w' => e = .returned (.bool true) ∧ ∃ lv' F', PlayAt w' P s (takeRow l mark) (takeRow l mark) lv' pv cv uv F' pcs B0 ∧ Chg (fun j => B0 ≤ j) w w' := by
  have c0 := cell_of h.blk 0
  have c1 := cell_of h.blk 1
  have hrow := h.row
  rcases l.eq_nil_or_concat with rfl | ⟨l0, ⟨b, m⟩, rfl⟩
  · obtain ⟨ad, cap, rfl, _, _⟩ := hrow.form
    refine (takes_empty mark c0 c1 (take_none h.st mark (by simp))).mono fun e w' ⟨q1, q2⟩ => ⟨q1, _, F, h.kept q2, q2.mono (fun _ _ e => e.elim)⟩
  · rw [List.concat_eq_append] at *
    have hlen : (l0 ++ [(b, m)]).length = l0.length + 1 := by simp
    unfold RRow at hrow
    rw [hlen] at hrow hl
    obtain ⟨g, off, cap, rfl, hcap⟩ := hrow.formS (by omega)
    obtain ⟨d0, d1⟩ := RRow.at hrow hlen l0.length b m (by simp)
    by_cases hb : b = mark
    · subst hb
      have hrow1 : takeRow (l0 ++ [(b, m)]) b = l0 := by simp [takeRow]
      rw [hrow1]
      refine (takes_yes (X := fun w' => ∃ F', SA w' s l0 F' ∧ After w w' F F') b (by omega) hcap c0 c1 d0 (take_some b m h.st) (fun w' ⟨F', hs, ha⟩ => ?_)).mono ?_
      · have h2 := h.stack hs ha.chg ha.new
        have hrow2 := h2.row
        unfold RRow at hrow2
        rw [hlen] at hrow2
        exact ⟨cell_of h2.blk 1, free_of h2.blk 1, (RRow.at hrow2 hlen l0.length b m (by simp)).2⟩
      · rintro e w' ⟨q1, w1, ⟨F', hs, ha⟩, rfl⟩
        have h2 := h.stack hs ha.chg ha.new
        have hS : Chg (fun j => j = P) w1 (w1.setCell ⟨P, 1, none⟩ (.slice (some ⟨g, off, none⟩) l0.length cap)) := Chg.set (p := ⟨P, 1, none⟩) (F := fun j => j = P) (Chg.refl _ w1) (fun _ => rfl) _
        have hrow2 := h2.row
        unfold RRow at hrow2
        rw [hlen] at hrow2
        have hr3 := RRow.take hrow2 hlen l0.length (by omega)
        rw [List.take_left] at hr3
        refine ⟨q1, _, F', h2.newRow hS ?_ (hr3.kept hS (fun j hj e => tag_ne (row_tag hr3 (mem_own.2 hj)) h2.tagP (by decide) e)), ?_⟩
        · have := blk_set h2.blk 1 (.slice (some ⟨g, off, none⟩) l0.length cap)
          simpa using this
        · exact (chg_lo ha.chg h.lo.2.1).andThen hS (fun j _ e => by rw [e]; exact h.lo.1)
    · have hrow1 : takeRow (l0 ++ [(b, m)]) mark = l0 ++ [(b, m)] := by simp [takeRow, hb]
      rw [hrow1]
      have hbn : b = !mark := by cases b <;> cases mark <;> simp_all
      rw [hbn] at d0
      refine (takes_no mark (by omega) c0 c1 d0 (take_none h.st mark (by simp [hb]))).mono fun e w' ⟨q1, q2⟩ => ⟨q1, _, F, h.kept q2, q2.mono (fun _ _ e => e.elim)⟩
end Go.Proofs.Ytkidnmjaioejaaa.Sg
