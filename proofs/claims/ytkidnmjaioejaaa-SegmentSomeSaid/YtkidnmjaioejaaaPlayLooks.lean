/- looks, walked: the stack tells what it has. Condition: the play is known. -/
import Derived.Test.YtkidnmjaioejaaaPlayTakes
namespace Go.Proofs.Ytkidnmjaioejaaa.Sg
set_option linter.unusedVariables false
set_option linter.unusedSimpArgs false
open Go.RowKit Go.Proofs.Ytkidnmjaioejaaa.Mem

theorem quiet3 {P : Program} {f : FuncId} {args : Array Value} {w : World} {a n : Nat} {v : Value} (h : Calls P f args (w.drewN (a + n)) fun e w' => e = .returned v ∧ w' = w.drewN (a + n)) :
    Calls P f args (w.drewN (a + n)) fun e w'' => e = .returned v ∧ ∃ m, w'' = w.drewN (a + m) :=
  h.mono fun _ _ ⟨he, hm⟩ => ⟨he, n, hm⟩
set_option maxRecDepth 100000 in
set_option maxHeartbeats 8000000 in
theorem looks_walk {w : World} {P s n cap : Nat} {ad : Option Addr} {CM CF : Nat} {i f m pl : Int} {ok has : Bool} (hn : n ≤ 100000) (c0 : w.cell? ⟨P, 0, none⟩ = some (.pointer (some ⟨s, 0, none⟩))) (c1 : w.cell? ⟨P, 1, none⟩ = some (.slice ad n cap))
    (hT : Calls Try.prog 36 #[.pointer (some ⟨s, 0, none⟩)] w fun e w' => e = .returned (.tuple #[.int .i64 f, .bool ok]) ∧ ∃ m, w' = w.drewN m)
    (hL : ∀ k, Calls Try.prog 38 #[.pointer (some ⟨s, 0, none⟩), .int .i64 i] (w.drewN k) fun e w' => e = .returned (.tuple #[.int .i64 m, .bool has]) ∧ ∃ m, w' = (w.drewN k).drewN m)
    (hM : ∀ k, Calls Try.prog 31 #[.slice ad n cap, .int .i64 i] (w.drewN k) fun e w' => e = .returned (.int .i64 pl) ∧ w' = w.drewN k)
    (hMs : ∀ k, Calls Try.prog 39 #[.pointer (some ⟨s, 0, none⟩)] (w.drewN k) fun e w' => e = .returned (.int .i64 (CM : Int)) ∧ w' = w.drewN k)
    (hLn : ∀ k, Calls Try.prog 40 #[.pointer (some ⟨s, 0, none⟩)] (w.drewN k) fun e w' => e = .returned (.int .i64 (CF : Int)) ∧ w' = w.drewN k)
    (hCt : ∀ k, Calls Try.prog 52 #[.slice ad n cap, .bool true] (w.drewN k) fun e w' => e = .returned (.int .i64 (CM : Int)) ∧ w' = w.drewN k)
    (hCf : ∀ k, Calls Try.prog 52 #[.slice ad n cap, .bool false] (w.drewN k) fun e w' => e = .returned (.int .i64 (CF : Int)) ∧ w' = w.drewN k)
    (hlast : (n = 0 ∧ ok = false ∧ f = 0) ∨ (∃ g off k, ad = some ⟨g, off, none⟩ ∧ n = k + 1 ∧ w.cell? ⟨g, off + k * 2, none⟩ = some (.bool true) ∧ ok = false ∧ f = 0) ∨
      ∃ g off k, ad = some ⟨g, off, none⟩ ∧ n = k + 1 ∧ w.cell? ⟨g, off + k * 2, none⟩ = some (.bool false) ∧ w.cell? ⟨g, off + k * 2 + 1, none⟩ = some (.int .i64 f) ∧ ok = true)
    (hplace : (pl = -1 ∧ m = 0 ∧ has = false) ∨ ∃ g off a, ad = some ⟨g, off, none⟩ ∧ (a : Nat) < n ∧ pl = (a : Int) ∧ w.cell? ⟨g, off + a * 2 + 1, none⟩ = some (.int .i64 m) ∧ has = true) :
    Calls Try.prog 27 #[.pointer (some ⟨P, 0, none⟩), .int .i64 i] w fun e w' => e = .returned (.bool true) ∧ ∃ m, w' = w.drewN m := by
  have HT := Lib.hid hT
  have HL := fun k => Lib.hid (hL k)
  have HM := fun k => Lib.hid (hM k)
  have HMs := fun k => Lib.hid (hMs k)
  have HLn := fun k => Lib.hid (hLn k)
  have HCt := fun k => Lib.hid (hCt k)
  have HCf := fun k => Lib.hid (hCf k)
  clear hT hL hM hMs hLn hCt hCf
  rcases hlast with ⟨rfl, rfl, rfl⟩ | ⟨g, off, k, rfl, rfl, d0, rfl, rfl⟩ | ⟨g, off, k, rfl, rfl, d0, d1, rfl⟩
  all_goals
    rcases hplace with ⟨rfl, rfl, rfl⟩ | ⟨g', off', a, hga, ha, rfl, e1, rfl⟩
  all_goals try (exfalso; omega)
  all_goals try cases hga
  all_goals try have k0 : (0 : Int) ≤ (k : Int) := by omega
  all_goals try have a0 : (0 : Int) ≤ (a : Int) := by omega
  all_goals try have a1 : (a : Int) < ((k + 1 : Nat) : Int) := by omega
  all_goals try have a3 : (a : Int) < (k : Int) + 1 := by omega
  all_goals try have a2 : decide ((a : Int) < 0) = false := decide_eq_false (by omega)
  all_goals
    go_enter Try.func27, Try.ntmps27
    go_wp2_with fail
    refine HT.out.mono ?_
    rintro e w1 ⟨rfl, md, rfl⟩
    go_wp2_with fail
  all_goals
    refine (HL _).out.mono ?_
    rintro e w1 ⟨rfl, md2, rfl⟩
    go_wp2_with fail
  all_goals
    refine (HM _).out.mono ?_
    rintro e w1 ⟨rfl, rfl⟩
    go_wp2_with fail
  all_goals
    go_quiet (first
      | (go_at_call 39; exact quiet3 (HMs _).out)
      | (go_at_call 40; exact quiet3 (HLn _).out)
      | (go_at_call_of 52 (Value.bool true); exact quiet3 (HCt _).out)
      | (go_at_call_of 52 (Value.bool false); exact quiet3 (HCf _).out))
  all_goals
    go_wp2_with fail
    go_ret
    exact ⟨rfl, _, World.drewN_drewN _ _ _⟩
theorem markAt_get (base : List Int) (L : List Part) (i : Int) (a : Nat) (h : markAt (flat base L) i = some a) : ∃ m, (flat base L)[a]? = some (true, m) := by
  obtain ⟨L0, L1, rfl, hi, hp, rfl⟩ := markAt_split base L i a h
  cases L1 with
  | nil => simp at hp
  | cons e L1 =>
    refine ⟨e.m, ?_⟩
    rw [flat_append, List.getElem?_append_right (Nat.le_refl _), Nat.sub_self]
    rfl
theorem looks_calls {w : World} {P s : Nat} {l : Row} {lv pv cv uv : Value} {F : List Nat} {pcs : List Pc} {B0 : Nat} (h : PlayAt w P s l l lv pv cv uv F pcs B0) (hl : l.length ≤ 100000) (i : Int) (hi : i ≤ 9223372036854775807) :
    Calls Try.prog 27 #[.pointer (some ⟨P, 0, none⟩), .int .i64 i] w fun e w' => e = .returned (.bool true) ∧ ∃ m, w' = w.drewN m := by
  have c0 := cell_of h.blk 0
  have c1 := cell_of h.blk 1
  have hk : ∀ k, PlayAt (w.drewN k) P s l l lv pv cv uv F pcs B0 := fun k => h.kept ((Chg.refl _ w).drewN k)
  have hrow := h.row
  obtain ⟨n, hn⟩ : ∃ n, l.length = n := ⟨_, rfl⟩
  unfold RRow at hrow
  rw [hn] at hrow
  obtain ⟨ad, cap, rfl, _, _⟩ := hrow.form
  have hCt : ∀ k, Calls Try.prog 52 #[.slice ad n cap, .bool true] (w.drewN k) fun e w' => e = .returned (.int .i64 (l.countP (fun x => x.1) : Nat)) ∧ w' = w.drewN k := fun k => by
    have := count_ref (hk k).row hl true
    have e : l.countP (fun x => x.1 == true) = l.countP (fun x => x.1) := by congr 1; funext x; cases x.1 <;> rfl
    rw [e] at this
    exact this
  have hCf : ∀ k, Calls Try.prog 52 #[.slice ad n cap, .bool false] (w.drewN k) fun e w' => e = .returned (.int .i64 (l.countP (fun x => !x.1) : Nat)) ∧ w' = w.drewN k := fun k => by
    have := count_ref (hk k).row hl false
    have e : l.countP (fun x => x.1 == false) = l.countP (fun x => !x.1) := by congr 1; funext x; cases x.1 <;> rfl
    rw [e] at this
    exact this
  obtain ⟨f, ok, hf, hlast⟩ : ∃ f ok, topOf l = .tuple #[.int .i64 f, .bool ok] ∧ ((n = 0 ∧ ok = false ∧ f = 0) ∨ (∃ g off k, ad = some ⟨g, off, none⟩ ∧ n = k + 1 ∧ w.cell? ⟨g, off + k * 2, none⟩ = some (.bool true) ∧ ok = false ∧ f = 0) ∨
      ∃ g off k, ad = some ⟨g, off, none⟩ ∧ n = k + 1 ∧ w.cell? ⟨g, off + k * 2, none⟩ = some (.bool false) ∧ w.cell? ⟨g, off + k * 2 + 1, none⟩ = some (.int .i64 f) ∧ ok = true) := by
    rcases l.eq_nil_or_concat with rfl | ⟨l0, ⟨b, m⟩, rfl⟩
    · exact ⟨0, false, rfl, .inl ⟨by simpa using hn.symm, rfl, rfl⟩⟩
    · rw [List.concat_eq_append] at *
      have hn2 : n = l0.length + 1 := by rw [← hn]; simp
      obtain ⟨g, off, cp, hv, _⟩ := hrow.formS (by omega)
      cases hv
      obtain ⟨d0, d1⟩ := RRow.at hrow hn l0.length b m (by simp)
      cases b with
      | true => exact ⟨0, false, by simp [topOf], .inr (.inl ⟨g, off, l0.length, rfl, hn2, d0, rfl, rfl⟩)⟩
      | false => exact ⟨m, true, by simp [topOf], .inr (.inr ⟨g, off, l0.length, rfl, hn2, d0, d1, rfl⟩)⟩
  obtain ⟨m, has, hm, hplace⟩ : ∃ m has, labelOf l i = .tuple #[.int .i64 m, .bool has] ∧ ((placeOf l i = -1 ∧ m = 0 ∧ has = false) ∨ ∃ g off a, ad = some ⟨g, off, none⟩ ∧ (a : Nat) < n ∧ placeOf l i = (a : Int) ∧ w.cell? ⟨g, off + a * 2 + 1, none⟩ = some (.int .i64 m) ∧ has = true) := by
    cases hat : markAt l i with
    | none => exact ⟨0, false, by simp [labelOf, hat], .inl ⟨by simp [placeOf, hat], rfl, rfl⟩⟩
    | some a =>
      obtain ⟨m, hx⟩ : ∃ m, l[a]? = some (true, m) := by
        obtain ⟨bv, pv', base, L, h1, h2, h3⟩ := h.st
        rw [← h2]
        exact markAt_get base L i a (by rw [h2]; exact hat)
      have hal : a < n := by rw [← hn]; exact (List.getElem?_eq_some_iff.1 hx).1
      obtain ⟨g, off, cp, hv, _⟩ := hrow.formS (by omega)
      cases hv
      obtain ⟨d0, d1⟩ := RRow.at hrow hn a true m hx
      exact ⟨m, true, by simp [labelOf, hat, hx], .inr ⟨g, off, a, rfl, hal, by simp [placeOf, hat], d1, rfl⟩⟩
  have hT := top_abs h.st
  rw [hf] at hT
  have hL := fun k => label_abs (hk k).st i
  rw [hm] at hL
  exact looks_walk (by omega) c0 c1 hT hL (fun k => mark_ref (hk k).row hl i hi) (fun k => marks_abs (hk k).st) (fun k => len_abs (hk k).st) hCt hCf hlast hplace
end Go.Proofs.Ytkidnmjaioejaaa.Sg
