/- The lexer's method next, walked. Conditions: the lexer's block is known, and its tokens; the two errors of strconv hold interface values. · The deferred function of the lexer's Tokens, walked, for a call that returns and for one that throws a fault. Condition: the three results' cells are known. · The lexer's Tokens, walked: for every source its tokens, or the place and the error. Condition: the two errors of strconv hold interface values. · The lexer's Tokens, walked: for every source its tokens, or the place and the error. Condition: the two errors of strconv hold interface values. · The program's Tokens, as the plain tokens have it: its list, or its error. Condition: the two errors of strconv hold interface values. -/
import Derived.Test.YtaklmocjaokkpaaGreatDoorLexB
import Derived.Defers
import Derived.Recover
namespace Go.Proofs.YtaklmocjaokkpaaGreatDoor.Lx
open Go.RowKit Go.Proofs.YtaklmocjaokkpaaGreatDoor.Mem

def nextR (s : List UInt8) (p : Nat) : Except (Nat × Nat) (List Tok × Nat) := match next s p with | .ok (t, q) => .ok (t.toList, q) | .error x => .error x

theorem next_blank {s : List UInt8} {p : Nat} {c : UInt8} (h : s[p]? = some c) (hb : blank c = true) : nextR s p = .ok ([], p + 1) := by
  unfold nextR next; rw [h]; simp only [hb, if_true]; rfl
theorem next_note {s : List UInt8} {p : Nat} (h : s[p]? = some 59) : nextR s p = .ok ([], noteEnd s p) := by
  unfold nextR next; rw [h]; rfl
theorem next_open {s : List UInt8} {p : Nat} (h : s[p]? = some 40) : nextR s p = .ok ([⟨1, [], 0, p⟩], p + 1) := by
  unfold nextR next; rw [h]; rfl
theorem next_close {s : List UInt8} {p : Nat} (h : s[p]? = some 41) : nextR s p = .ok ([⟨2, [], 0, p⟩], p + 1) := by
  unfold nextR next; rw [h]; rfl
theorem next_text {s : List UInt8} {p : Nat} (h : s[p]? = some 34) : nextR s p = textR s p := by
  unfold nextR next textR; rw [h]
  have h1 : blank 34 = false := by decide
  simp only [h1, Bool.false_eq_true, if_false, if_true, show (34 : UInt8) ≠ 59 by decide, show (34 : UInt8) ≠ 40 by decide, show (34 : UInt8) ≠ 41 by decide]
  rcases text s (s.length + 1) (p + 1) [] with x | ⟨o, q⟩ <;> rfl
theorem next_word {s : List UInt8} {p : Nat} {c : UInt8} (h : s[p]? = some c) (h1 : blank c = false) (h2 : c ≠ 59) (h3 : c ≠ 40) (h4 : c ≠ 41) (h5 : c ≠ 34) : nextR s p = wordR s p := by
  unfold nextR next wordR; rw [h]
  simp only [h1, Bool.false_eq_true, if_false, if_neg h2, if_neg h3, if_neg h4, if_neg h5]
  rcases wordEnd s (s.length + 1) p with x | q
  · rfl
  · simp only []
    rcases wordTok ((s.drop p).take (q - p)) p with x | t <;> rfl
theorem indexByte_lt (l : List UInt8) (c : UInt8) : Lib.indexByte l c < l.length := by
  induction l with
  | nil => simp [Lib.indexByte]
  | cons a l ih =>
    rw [Lib.indexByte]
    have := Lib.indexByte_ge l c
    split
    · simp
    · split
      · simp; omega
      · simp; omega

theorem quiet2 {P : Program} {f : FuncId} {args : Array Value} {w : World} {a n : Nat} {v : Value} (h : Calls P f args (w.drewN (a + n)) fun e w' => e = .returned v ∧ w' = w.drewN (a + n)) :
    Calls P f args (w.drewN (a + n)) fun e w'' => e = .returned v ∧ ∃ m, w'' = w.drewN (a + m) :=
  h.mono fun _ _ ⟨he, hm⟩ => ⟨he, n, hm⟩
theorem owns_adN {w : World} {base : Nat} {e : TypeId} {size : Nat} {v : Value} {n : Nat} {xs : List Value} (h : w.ownsRow base e size v n xs) (o : Obj) (m : Nat) : ((w.alloc o).drewN m).ownsRow base e size v n xs := World.ownsRow.alloc h o
theorem new_adN (w : World) (o : Obj) (m : Nat) : ((w.alloc o).drewN m).heap[w.heap.size]? = some o := blk_new w o
theorem cell_adN {w : World} {a : Addr} {v : Value} (o : Obj) (m : Nat) (h : w.cell? a = some v) : ((w.alloc o).drewN m).cell? a = some v := blk_alloc_cell o h
theorem free_adN {w : World} {a : Addr} {v : Value} (o : Obj) (m : Nat) (h : w.cell? a = some v) (hf : w.frozen? a = false) : ((w.alloc o).drewN m).frozen? a = false := blk_alloc_free o h hf

theorem undrew {B n : Nat} {w w' : World} (h : Below B (w.drewN n) w') : Below B w w' := ⟨h.os, h.tape, h.output, h.size, h.block⟩

theorem slice_from {P : Program} (t : TypeId) (ht : P.underlying t = some .string) (s : ByteArray) (i : Nat) (h1 : i ≤ s.size) (w : World) :
    (Instr.slice t (.string s) (some (.int .i64 (i : Int))) none none).run P w = .ok (.string ⟨(s.data.toList.drop i).toArray⟩) w := by
  have e1 : ((i : Int)).toNat = i := by omega
  have e2 : s.extract i s.size = ⟨(s.data.toList.drop i).toArray⟩ := by
    rw [← of_list (s.extract i s.size), extract_list, List.take_of_length_le (by rw [List.length_drop, len_is]; omega)]
  rw [← e2]
  have := run_slice_string_l (P := P) w t s ht .i64 (i : Int) (by omega) (by omega)
  rwa [e1] at this

set_option maxRecDepth 100000 in
set_option maxHeartbeats 4000000 in
theorem next_calls (s : ByteArray) (i b : Nat) (v : Value) (toks : List Tok) (w : World) (hs : s.size ≤ 65536) (hi : i < s.size) (hL : Lexer b s i v w) (hT : Toks b v toks w) (hn : toks.length ≤ 70000) (hg : Glob w) (hb1 : 4 ≠ b) (hb2 : 5 ≠ b) (hbb : b + 1 ≤ w.heap.size) :
    Calls Tryz.prog 72 #[.pointer (some ⟨b, 0, none⟩)] w (TokEnds b s toks w (nextR s.data.toList i)) := by
  obtain ⟨iT, hj0, hy0, hy1, hy2⟩ := info_parts infoT
  have HB := Lib.hid (And.intro hb1 hb2)
  clear hb1 hb2
  have c0 := hL.c0
  have c1 := hL.c1
  have c2 := hL.c2
  have f1 := hL.f 1
  have f2 := hL.f 2
  have HL := Lib.hid hL
  have HT := Lib.hid hT
  have HG := Lib.hid hg
  clear hL hT hg
  have hat := at_get s i hi
  obtain ⟨c, hc⟩ : ∃ c, s[i] = c := ⟨_, rfl⟩
  rw [hc] at hat
  have i0 : (0 : Int) ≤ (i : Int) := by omega
  have i1 : (i : Int) < (s.size : Int) := by omega
  by_cases hq : c = 32
  · have HR := Lib.hid (next_blank hat (by subst hq; decide))
    have n1 : 32 ≤ c.toNat ∧ c.toNat ≤ 32 := by subst hq; decide
    clear hat hq
    go_enter Tryz.func72, Tryz.ntmps72
    go_wp2_with fail
    go_quiet (fail)
    go_wp2_with fail
    go_end0
    rw [HR.out]
    exact ⟨rfl, ⟨v, Lexer.set1 (w := w.drewN _) HL.out (by omega), by rw [List.append_nil]; exact HT.out.chg (Chg.set (F := (· = b)) (p := ⟨b, 1, none⟩) ((Chg.refl _ w).drewN _) (fun _ => rfl) _)⟩, (Chg.set (F := (· = b)) (p := ⟨b, 1, none⟩) ((Chg.refl _ w).drewN _) (fun _ => rfl) _).toBelow (by omega) (fun k _ h => Nat.le_of_eq h.symm)⟩
  have m32 : c.toNat ≠ 32 := fun h => hq (UInt8.toNat_inj.1 h)
  have q32 := hq
  clear hq
  by_cases hq : c = 9
  · have HR := Lib.hid (next_blank hat (by subst hq; decide))
    have n1 : 9 ≤ c.toNat ∧ c.toNat ≤ 9 := by subst hq; decide
    clear hat hq
    go_enter Tryz.func72, Tryz.ntmps72
    go_wp2_with fail
    go_quiet (fail)
    go_wp2_with fail
    go_end0
    rw [HR.out]
    exact ⟨rfl, ⟨v, Lexer.set1 (w := w.drewN _) HL.out (by omega), by rw [List.append_nil]; exact HT.out.chg (Chg.set (F := (· = b)) (p := ⟨b, 1, none⟩) ((Chg.refl _ w).drewN _) (fun _ => rfl) _)⟩, (Chg.set (F := (· = b)) (p := ⟨b, 1, none⟩) ((Chg.refl _ w).drewN _) (fun _ => rfl) _).toBelow (by omega) (fun k _ h => Nat.le_of_eq h.symm)⟩
  have m9 : c.toNat ≠ 9 := fun h => hq (UInt8.toNat_inj.1 h)
  have q9 := hq
  clear hq
  by_cases hq : c = 10
  · have HR := Lib.hid (next_blank hat (by subst hq; decide))
    have n1 : 10 ≤ c.toNat ∧ c.toNat ≤ 10 := by subst hq; decide
    clear hat hq
    go_enter Tryz.func72, Tryz.ntmps72
    go_wp2_with fail
    go_quiet (fail)
    go_wp2_with fail
    go_end0
    rw [HR.out]
    exact ⟨rfl, ⟨v, Lexer.set1 (w := w.drewN _) HL.out (by omega), by rw [List.append_nil]; exact HT.out.chg (Chg.set (F := (· = b)) (p := ⟨b, 1, none⟩) ((Chg.refl _ w).drewN _) (fun _ => rfl) _)⟩, (Chg.set (F := (· = b)) (p := ⟨b, 1, none⟩) ((Chg.refl _ w).drewN _) (fun _ => rfl) _).toBelow (by omega) (fun k _ h => Nat.le_of_eq h.symm)⟩
  have m10 : c.toNat ≠ 10 := fun h => hq (UInt8.toNat_inj.1 h)
  have q10 := hq
  clear hq
  by_cases hq : c = 13
  · have HR := Lib.hid (next_blank hat (by subst hq; decide))
    have n1 : 13 ≤ c.toNat ∧ c.toNat ≤ 13 := by subst hq; decide
    clear hat hq
    go_enter Tryz.func72, Tryz.ntmps72
    go_wp2_with fail
    go_quiet (fail)
    go_wp2_with fail
    go_end0
    rw [HR.out]
    exact ⟨rfl, ⟨v, Lexer.set1 (w := w.drewN _) HL.out (by omega), by rw [List.append_nil]; exact HT.out.chg (Chg.set (F := (· = b)) (p := ⟨b, 1, none⟩) ((Chg.refl _ w).drewN _) (fun _ => rfl) _)⟩, (Chg.set (F := (· = b)) (p := ⟨b, 1, none⟩) ((Chg.refl _ w).drewN _) (fun _ => rfl) _).toBelow (by omega) (fun k _ h => Nat.le_of_eq h.symm)⟩
  have m13 : c.toNat ≠ 13 := fun h => hq (UInt8.toNat_inj.1 h)
  have q13 := hq
  clear hq
  by_cases hq : c = 59
  · have HR := Lib.hid (next_note (hq ▸ hat))
    obtain ⟨j, hj⟩ : ∃ j, Lib.indexByte (s.data.toList.drop i) 10 = j := ⟨_, rfl⟩
    have j0 := Lib.indexByte_ge (s.data.toList.drop i) 10
    have j1 := indexByte_lt (s.data.toList.drop i) 10
    rw [List.length_drop, len_is] at j1
    have HC : Hid (∀ w, Calls Tryz.prog 92 #[.string ⟨(s.data.toList.drop i).toArray⟩, .int .u8 10] w fun e w' => e = .returned (.int .i64 j) ∧ w' = w) := fun w => by
      have := Tryz.strings_IndexByte ⟨(s.data.toList.drop i).toArray⟩ 10 w
      rw [← hj]; exact this
    rw [hj] at j0 j1
    have HN : Hid (noteEnd s.data.toList i = if 0 ≤ j then i + j.toNat else s.size) := by
      unfold noteEnd; rw [hj, len_is]; rfl
    have hsr : ∀ w, (Instr.slice 9 (.string s) (some (.int .i64 i)) none none).run Tryz.prog w = .ok (.string ⟨(s.data.toList.drop i).toArray⟩) w := fun w => slice_from 9 Tryz.underlying9 s i (by omega) w
    have n1 : 59 ≤ c.toNat ∧ c.toNat ≤ 59 := by subst hq; decide
    clear hat hq hj
    by_cases hjn : 0 ≤ j
    · have HN2 : Hid (noteEnd s.data.toList i = i + j.toNat) := by rw [HN.out, if_pos hjn]; rfl
      go_enter Tryz.func72, Tryz.ntmps72
      go_wp2_with fail
      go_quiet (fail)
      go_wp2_with fail
      go_quiet ((go_at_call 92; exact quiet2 (HC.out _)))
      go_wp2_with fail
      go_end0
      rw [HR.out, HN2.out]
      exact ⟨rfl, ⟨v, Lexer.set1 (w := w.drewN _) HL.out (by omega), by rw [List.append_nil]; exact HT.out.chg (Chg.set (F := (· = b)) (p := ⟨b, 1, none⟩) ((Chg.refl _ w).drewN _) (fun _ => rfl) _)⟩, (Chg.set (F := (· = b)) (p := ⟨b, 1, none⟩) ((Chg.refl _ w).drewN _) (fun _ => rfl) _).toBelow (by omega) (fun k _ h => Nat.le_of_eq h.symm)⟩
    · have HN2 : Hid (noteEnd s.data.toList i = s.size) := by rw [HN.out, if_neg hjn]; rfl
      go_enter Tryz.func72, Tryz.ntmps72
      go_wp2_with fail
      go_quiet (fail)
      go_wp2_with fail
      go_quiet ((go_at_call 92; exact quiet2 (HC.out _)))
      go_wp2_with fail
      go_end0
      rw [HR.out, HN2.out]
      exact ⟨rfl, ⟨v, Lexer.set1 (w := w.drewN _) HL.out (by omega), by rw [List.append_nil]; exact HT.out.chg (Chg.set (F := (· = b)) (p := ⟨b, 1, none⟩) ((Chg.refl _ w).drewN _) (fun _ => rfl) _)⟩, (Chg.set (F := (· = b)) (p := ⟨b, 1, none⟩) ((Chg.refl _ w).drewN _) (fun _ => rfl) _).toBelow (by omega) (fun k _ h => Nat.le_of_eq h.symm)⟩
  have m59 : c.toNat ≠ 59 := fun h => hq (UInt8.toNat_inj.1 h)
  have q59 := hq
  clear hq
  by_cases hq : c = 40
  · have HR := Lib.hid (next_open (hq ▸ hat))
    have n1 : 40 ≤ c.toNat ∧ c.toNat ≤ 40 := by subst hq; decide
    clear hat hq
    have NV := Lib.hid (NE HT.out)
    have C2d : ∀ n, (w.drewN n).cell? ⟨b, 2, none⟩ = some v := fun n => c2
    have F2d : ∀ n, (w.drewN n).frozen? ⟨b, 2, none⟩ = false := fun n => f2
    have F1d : ∀ n, (w.drewN n).frozen? ⟨b, 1, none⟩ = false := fun n => f1
    have T1 : ∀ n, Hid (Toks b v toks (w.drewN n)) := fun n => HT.out
    have C2a : ∀ n o, ((w.drewN n).alloc o).cell? ⟨b, 2, none⟩ = some v := fun n o => blk_alloc_cell o c2
    have C1a : ∀ n o, ((w.drewN n).alloc o).cell? ⟨b, 1, none⟩ = some (.int .i64 i) := fun n o => blk_alloc_cell o c1
    have C1d : ∀ n, (w.drewN n).cell? ⟨b, 1, none⟩ = some (.int .i64 i) := fun n => c1
    go_enter Tryz.func72, Tryz.ntmps72
    go_wp2_with fail
    go_quiet (fail)
    go_wp2_with fail
    go_region_law ((refine step_append_lies _ (by rfl) _ _ _ (by rfl) (b + 1) 104 iT _ 4 40 Tryz.underlying66 hj0 hy0 hy1 hy2 rfl (by omega) v toks.length (toks.flatMap tokCells) (by rfl) (World.ownsRow.alloc (T1 _).out _) ⟨w.heap.size, 0, none⟩ 1 1 (tokCells ⟨1, [], 0, i⟩) (by rfl) (by rfl) (by exact World.news_of_block (blk_new _ _)) (by simp [Value.oneCell', tokCells]) (by omega) (by unfold maxLen; omega) (by omega) (by simp; omega) _ (by rfl) ?_; intro gg cap w1 hown1 hgrow hat hlt; have q2 := hgrow.cell (blk_alloc_cell _ (C2d _)) NV.out; have q3 := grown_frozen hgrow (blk_alloc_cell _ (C2d _)) (blk_alloc_free _ (C2d _) (F2d _)) NV.out; have q4 := hgrow.cell (blk_alloc_cell _ (C1d _)) NV.out; have q5 := grown_frozen hgrow (blk_alloc_cell _ (C1d _)) (blk_alloc_free _ (C1d _) (F1d _)) NV.out))
    all_goals
      go_wp2_with fail
      go_end0
      rw [HR.out]
      obtain ⟨e1, e2, e3⟩ := push_end' (w := w) (t := ⟨1, [], 0, i⟩) ((Chg.refl (b ≤ ·) w).drewN _) (by exact HL.out) (T1 _).out hgrow hown1
      exact ⟨rfl, ⟨_, e1.set1 (by omega), e2.chg (Chg.set (F := (· = b)) (p := ⟨b, 1, none⟩) (Chg.refl _ _) (fun _ => rfl) _)⟩, (e3.set (p := ⟨b, 1, none⟩) (fun _ => Nat.le_refl _) _).toBelow (by omega) (fun k _ h => h)⟩
  have m40 : c.toNat ≠ 40 := fun h => hq (UInt8.toNat_inj.1 h)
  have q40 := hq
  clear hq
  by_cases hq : c = 41
  · have HR := Lib.hid (next_close (hq ▸ hat))
    have n1 : 41 ≤ c.toNat ∧ c.toNat ≤ 41 := by subst hq; decide
    clear hat hq
    have NV := Lib.hid (NE HT.out)
    have C2d : ∀ n, (w.drewN n).cell? ⟨b, 2, none⟩ = some v := fun n => c2
    have F2d : ∀ n, (w.drewN n).frozen? ⟨b, 2, none⟩ = false := fun n => f2
    have F1d : ∀ n, (w.drewN n).frozen? ⟨b, 1, none⟩ = false := fun n => f1
    have T1 : ∀ n, Hid (Toks b v toks (w.drewN n)) := fun n => HT.out
    have C2a : ∀ n o, ((w.drewN n).alloc o).cell? ⟨b, 2, none⟩ = some v := fun n o => blk_alloc_cell o c2
    have C1a : ∀ n o, ((w.drewN n).alloc o).cell? ⟨b, 1, none⟩ = some (.int .i64 i) := fun n o => blk_alloc_cell o c1
    have C1d : ∀ n, (w.drewN n).cell? ⟨b, 1, none⟩ = some (.int .i64 i) := fun n => c1
    go_enter Tryz.func72, Tryz.ntmps72
    go_wp2_with fail
    go_quiet (fail)
    go_wp2_with fail
    go_region_law ((refine step_append_lies _ (by rfl) _ _ _ (by rfl) (b + 1) 104 iT _ 4 40 Tryz.underlying66 hj0 hy0 hy1 hy2 rfl (by omega) v toks.length (toks.flatMap tokCells) (by rfl) (World.ownsRow.alloc (T1 _).out _) ⟨w.heap.size, 0, none⟩ 1 1 (tokCells ⟨2, [], 0, i⟩) (by rfl) (by rfl) (by exact World.news_of_block (blk_new _ _)) (by simp [Value.oneCell', tokCells]) (by omega) (by unfold maxLen; omega) (by omega) (by simp; omega) _ (by rfl) ?_; intro gg cap w1 hown1 hgrow hat hlt; have q2 := hgrow.cell (blk_alloc_cell _ (C2d _)) NV.out; have q3 := grown_frozen hgrow (blk_alloc_cell _ (C2d _)) (blk_alloc_free _ (C2d _) (F2d _)) NV.out; have q4 := hgrow.cell (blk_alloc_cell _ (C1d _)) NV.out; have q5 := grown_frozen hgrow (blk_alloc_cell _ (C1d _)) (blk_alloc_free _ (C1d _) (F1d _)) NV.out))
    all_goals
      go_wp2_with fail
      go_end0
      rw [HR.out]
      obtain ⟨e1, e2, e3⟩ := push_end' (w := w) (t := ⟨2, [], 0, i⟩) ((Chg.refl (b ≤ ·) w).drewN _) (by exact HL.out) (T1 _).out hgrow hown1
      exact ⟨rfl, ⟨_, e1.set1 (by omega), e2.chg (Chg.set (F := (· = b)) (p := ⟨b, 1, none⟩) (Chg.refl _ _) (fun _ => rfl) _)⟩, (e3.set (p := ⟨b, 1, none⟩) (fun _ => Nat.le_refl _) _).toBelow (by omega) (fun k _ h => h)⟩
  have m41 : c.toNat ≠ 41 := fun h => hq (UInt8.toNat_inj.1 h)
  have q41 := hq
  clear hq
  by_cases hq : c = 34
  · have HR := Lib.hid (next_text (hq ▸ hat))
    have n1 : 34 ≤ c.toNat ∧ c.toNat ≤ 34 := by subst hq; decide
    clear hat hq
    go_enter Tryz.func72, Tryz.ntmps72
    go_wp2_with fail
    go_quiet (fail)
    go_wp2_with fail
    refine (text_calls s i b v toks _ hs hi (by exact HL.out) (by exact HT.out) hn (by exact HG.out) HB.out.1 HB.out.2 (by exact hbb)).mono ?_
    rintro e w1 h1
    rw [← HR.out] at h1
    rcases hr : nextR s.data.toList i with ⟨x, n⟩ | ⟨l, q⟩
    · rw [hr] at h1
      obtain ⟨rfl, hb⟩ := h1
      have HK := Lib.hid hb
      clear hb
      go_wp2_with fail
      exact ⟨rfl, rfl, undrew HK.out⟩
    · rw [hr] at h1
      obtain ⟨rfl, hv, hb⟩ := h1
      have HK := Lib.hid (And.intro hv hb)
      clear hb hv
      go_wp2_with fail
      go_end0
      rw [hr]
      exact ⟨rfl, HK.out.1, undrew HK.out.2⟩
  have m34 : c.toNat ≠ 34 := fun h => hq (UInt8.toNat_inj.1 h)
  have HR := Lib.hid (next_word hat (by unfold blank; simp [q32, q9, q10, q13]) q59 q40 q41 hq)
  clear hat hq q32 q9 q10 q13 q59 q40 q41
  go_enter Tryz.func72, Tryz.ntmps72
  go_wp2_with fail
  go_quiet (fail)
  go_wp2_with fail
  refine (word_calls s i b v toks _ hs hi (by exact HL.out) (by exact HT.out) hn (by exact HG.out) HB.out.1 HB.out.2 (by exact hbb)).mono ?_
  rintro e w1 h1
  rw [← HR.out] at h1
  rcases hr : nextR s.data.toList i with ⟨x, n⟩ | ⟨l, q⟩
  · rw [hr] at h1
    obtain ⟨rfl, hb⟩ := h1
    have HK := Lib.hid hb
    clear hb
    go_wp2_with fail
    exact ⟨rfl, rfl, undrew HK.out⟩
  · rw [hr] at h1
    obtain ⟨rfl, hv, hb⟩ := h1
    have HK := Lib.hid (And.intro hv hb)
    clear hb hv
    go_wp2_with fail
    go_end0
    rw [hr]
    exact ⟨rfl, HK.out.1, undrew HK.out.2⟩
end Go.Proofs.YtaklmocjaokkpaaGreatDoor.Lx
namespace Go.Proofs.YtaklmocjaokkpaaGreatDoor.Lx
open Go.RowKit Go.Proofs.YtaklmocjaokkpaaGreatDoor.Mem

set_option maxRecDepth 100000 in
theorem catch_idle (B : Nat) (w : World) :
    CallsD Tryz.prog 71 #[.pointer (some ⟨B, 0, none⟩), .pointer (some ⟨B + 1, 0, none⟩), .pointer (some ⟨B + 2, 0, none⟩)] .returning w fun e u' w' => e = .returned (.tuple #[]) ∧ u' = .returning ∧ w' = w := by
  refine callsD_of_wpS Tryz.func71 rfl fun c₀ cs hu => ?_
  apply wpS_seq
  apply wpS_region
  simp [wpOpsS, go_sem, recoverD, hu, Tryz.ntmps71, Exit.thenS]
  refine wpS_of_wp ?_
  go_wp2
  cases c₀
  simp_all [bodyPostS, results, Tryz.results71]

set_option maxRecDepth 100000 in
set_option maxHeartbeats 1000000 in
theorem catch_fault (B : Nat) (v1 v2 v3 : Value) (p n : Nat) (w : World) (h1 : w.cell? ⟨B, 0, none⟩ = some v1) (h2 : w.cell? ⟨B + 1, 0, none⟩ = some v2) (h3 : w.cell? ⟨B + 2, 0, none⟩ = some v3)
    (f1 : w.frozen? ⟨B, 0, none⟩ = false) (f2 : w.frozen? ⟨B + 1, 0, none⟩ = false) (f3 : w.frozen? ⟨B + 2, 0, none⟩ = false) :
    CallsD Tryz.prog 71 #[.pointer (some ⟨B, 0, none⟩), .pointer (some ⟨B + 1, 0, none⟩), .pointer (some ⟨B + 2, 0, none⟩)] (.panicking (fault p n)) w fun e u' w' =>
      e = .returned (.tuple #[]) ∧ u' = .panicking [{ v := .iface 99 (.agg #[.int .i64 p, .int .i64 n]), recovered := true }] ∧
      w'.cell? ⟨B, 0, none⟩ = some (.slice none 0 0) ∧ w'.cell? ⟨B + 1, 0, none⟩ = some (.int .i64 p) ∧ w'.cell? ⟨B + 2, 0, none⟩ = some (.int .i64 n) ∧ Below B w w' := by
  refine callsD_of_wpS Tryz.func71 rfl fun c₀ cs hu => ?_
  unfold fault at hu
  have hta : ∀ w, (Instr.typeAssert (.iface 99 (.agg #[.int .i64 p, .int .i64 n])) 20 99 true).run Tryz.prog w = .ok (.tuple #[.agg #[.int .i64 p, .int .i64 n], .bool true]) w := fun _ => by kernel_rfl
  simp only [Tryz.ntmps71, List.size_toArray, List.length_cons, List.length_nil, Nat.reduceAdd, Nat.reduceSub, Array.replicate_succ, Array.replicate_zero, List.push_toArray, List.append_toArray, List.nil_append, List.cons_append]
  apply wpS_seq
  apply wpS_region
  simp [wpOpsS, go_sem, recoverD, hu, Exit.thenS]
  refine wpS_of_wp ?_
  have g1 := World.block_lt_of_cell? w _ h1
  have g2 := World.block_lt_of_cell? w _ h2
  have g3 := World.block_lt_of_cell? w _ h3
  have m1 : Below w.heap.size w (w.alloc (.cells #[.int .i64 p, .int .i64 n] 99)) := (Below.refl _ _).alloc (Nat.le_refl _) _
  have m2 := blk_new w (.cells #[.int .i64 p, .int .i64 n] 99)
  go_wp2
  generalize w.alloc (.cells #[.int .i64 p, .int .i64 n] 99) = W1 at *
  obtain ⟨m, hm⟩ : ∃ m, m = w.heap.size := ⟨_, rfl⟩
  rw [← hm] at g1 g2 g3 m1 m2 ⊢
  replace h1 := (m1.cell (p := ⟨B, 0, none⟩) g1).trans h1
  replace h2 := (m1.cell (p := ⟨B + 1, 0, none⟩) g2).trans h2
  replace h3 := (m1.cell (p := ⟨B + 2, 0, none⟩) g3).trans h3
  replace f1 := (m1.frozen (p := ⟨B, 0, none⟩) g1).trans f1
  replace f2 := (m1.frozen (p := ⟨B + 1, 0, none⟩) g2).trans f2
  replace f3 := (m1.frozen (p := ⟨B + 2, 0, none⟩) g3).trans f3
  have h4 : W1.cell? ⟨m, 0, none⟩ = some (.int .i64 p) := cell_of m2 0
  have h5 : W1.cell? ⟨m, 1, none⟩ = some (.int .i64 n) := cell_of m2 1
  have n1 : ¬ B = m := by omega
  have n2 : ¬ B + 1 = m := by omega
  have n3 : ¬ B + 2 = m := by omega
  have n4 : ¬ m = B := by omega
  have n5 : ¬ m = B + 1 := by omega
  have n6 : ¬ m = B + 2 := by omega
  have HM := Lib.hid m1
  have HB := Lib.hid hm
  clear m1 hm m2
  go_region
  go_wp2
  clear hta
  cases c₀
  simp only [bodyPostS, results, Tryz.results71]
  have r1 : (((W1.setCell ⟨B, 0, none⟩ (.slice none 0 0)).setCell ⟨B + 1, 0, none⟩ (.int .i64 p)).setCell ⟨B + 2, 0, none⟩ (.int .i64 n)).drew.cell? ⟨B, 0, none⟩ = some (.slice none 0 0) := by simp [go_sem, h1]
  have r2 : (((W1.setCell ⟨B, 0, none⟩ (.slice none 0 0)).setCell ⟨B + 1, 0, none⟩ (.int .i64 p)).setCell ⟨B + 2, 0, none⟩ (.int .i64 n)).drew.cell? ⟨B + 1, 0, none⟩ = some (.int .i64 p) := by simp [go_sem, h2]
  have r3 : (((W1.setCell ⟨B, 0, none⟩ (.slice none 0 0)).setCell ⟨B + 1, 0, none⟩ (.int .i64 p)).setCell ⟨B + 2, 0, none⟩ (.int .i64 n)).drew.cell? ⟨B + 2, 0, none⟩ = some (.int .i64 n) := by simp [go_sem, h3]
  refine ⟨trivial, _, rfl, .tuple #[], by simp [go_sem], rfl, rfl, r1, r2, r3, ?_⟩
  have := HM.out.mono (B' := B) (by omega)
  exact (((this.setCell (p := ⟨B, 0, none⟩) (Nat.le_refl _) _).setCell (p := ⟨B + 1, 0, none⟩) (Nat.le_succ _) _).setCell (p := ⟨B + 2, 0, none⟩) (by simp) _).drew
end Go.Proofs.YtaklmocjaokkpaaGreatDoor.Lx
namespace Go.Proofs.YtaklmocjaokkpaaGreatDoor.Lx
open Go.RowKit Go.Proofs.YtaklmocjaokkpaaGreatDoor.Mem

theorem text_lt {s : List UInt8} : ∀ {k p q : Nat} {out o : List UInt8}, text s k p out = .ok (o, q) → p < q ∧ q ≤ s.length := by
  intro k
  induction k with
  | zero => intro p q out o h; cases h
  | succ k ih =>
    intro p q out o h
    rw [text] at h
    rcases hc : s[p]? with _ | c
    · rw [hc] at h; cases h
    · have hp : p < s.length := by
        rcases Nat.lt_or_ge p s.length with h1 | h1
        · exact h1
        · rw [List.getElem?_eq_none h1] at hc; cases hc
      rw [hc] at h
      simp only [] at h
      split at h
      · cases h; omega
      · split at h
        · rcases he : esc s (p + 1) with x | ⟨b, r⟩
          · rw [he] at h; cases h
          · rw [he] at h
            have := esc_lt he
            have := ih h
            omega
        · have := ih h; omega
theorem wend_le {s : List UInt8} : ∀ {k p q : Nat}, p ≤ s.length → wordEnd s k p = .ok q → p ≤ q ∧ q ≤ s.length := by
  intro k
  induction k with
  | zero => intro p q hp h; cases h; omega
  | succ k ih =>
    intro p q hp h
    rw [wordEnd] at h
    rcases hc : s[p]? with _ | c
    · rw [hc] at h; cases h; omega
    · have hp : p < s.length := by
        rcases Nat.lt_or_ge p s.length with h1 | h1
        · exact h1
        · rw [List.getElem?_eq_none h1] at hc; cases hc
      rw [hc] at h
      simp only [] at h
      split at h
      · cases h; omega
      · split at h
        · cases h
        · have := ih (by omega) h; omega
theorem wend_lt {s : List UInt8} {k p q : Nat} {c : UInt8} (hc : s[p]? = some c) (h1 : ends c = false) (h : wordEnd s (k + 1) p = .ok q) : p < q ∧ q ≤ s.length := by
  have hp : p < s.length := by
    rcases Nat.lt_or_ge p s.length with h1 | h1
    · exact h1
    · rw [List.getElem?_eq_none h1] at hc; cases hc
  rw [wordEnd, hc] at h
  simp only [h1, Bool.false_eq_true, if_false] at h
  split at h
  · cases h
  · have := wend_le (by omega) h; omega
theorem note_lt {s : List UInt8} {p : Nat} (h : s[p]? = some 59) : p < noteEnd s p ∧ noteEnd s p ≤ s.length := by
  have hp : p < s.length := by
    rcases Nat.lt_or_ge p s.length with h1 | h1
    · exact h1
    · rw [List.getElem?_eq_none h1] at h; cases h
  have hd : s.drop p = 59 :: s.drop (p + 1) := by
    rw [List.drop_eq_getElem_cons hp]
    rw [List.getElem?_eq_getElem hp] at h
    rw [Option.some.inj h]
  have h1 := indexByte_lt (s.drop p) 10
  rw [List.length_drop] at h1
  have h2 : Lib.indexByte (s.drop p) 10 ≠ 0 := by
    rw [hd, Lib.indexByte]
    have := Lib.indexByte_ge (s.drop (p + 1)) 10
    rw [if_neg (by decide)]
    split
    · decide
    · rename_i h3; simp at h3; omega
  unfold noteEnd
  simp only []
  split <;> omega

theorem next_lt {s : List UInt8} {p q : Nat} {l : List Tok} (hp : p < s.length) (h : nextR s p = .ok (l, q)) : p < q ∧ q ≤ s.length ∧ l.length ≤ 1 := by
  have hc := List.getElem?_eq_getElem hp
  generalize s[p] = c at hc
  by_cases h1 : blank c = true
  · rw [next_blank hc h1] at h; cases h; simp; omega
  · by_cases h2 : c = 59
    · subst h2; rw [next_note hc] at h; cases h; have := note_lt hc; simp; omega
    · by_cases h3 : c = 40
      · subst h3; rw [next_open hc] at h; cases h; simp; omega
      · by_cases h4 : c = 41
        · subst h4; rw [next_close hc] at h; cases h; simp; omega
        · by_cases h5 : c = 34
          · subst h5; rw [next_text hc] at h
            unfold textR at h
            rcases ht : text s (s.length + 1) (p + 1) [] with x | ⟨o, r⟩
            · rw [ht] at h; cases h
            · rw [ht] at h; cases h; have := text_lt ht; simp; omega
          · have hb : blank c = false := by simpa using h1
            rw [next_word hc hb h2 h3 h4 h5] at h
            unfold wordR at h
            rcases ht : wordEnd s (s.length + 1) p with x | r
            · rw [ht] at h; cases h
            · rw [ht] at h
              simp only [] at h
              have := wend_lt hc (by unfold ends; simp [hb, h2, h3, h4, h5]) ht
              rcases hw : wordTok ((s.drop p).take (r - p)) p with x | t
              · rw [hw] at h; cases h
              · rw [hw] at h; cases h; simp; omega

theorem toks_step {s : List UInt8} {k p q : Nat} {l t : List Tok} (hp : p < s.length) (h : nextR s p = .ok (t, q)) : toks s (k + 1) p l = toks s k q (l ++ t) := by
  rw [toks, if_pos hp]
  unfold nextR at h
  rcases hn : next s p with x | ⟨u, r⟩
  · rw [hn] at h; cases h
  · rw [hn] at h; cases h; rfl
theorem toks_err {s : List UInt8} {k p : Nat} {l : List Tok} {x : Nat × Nat} (hp : p < s.length) (h : nextR s p = .error x) : toks s (k + 1) p l = .error x := by
  rw [toks, if_pos hp]
  unfold nextR at h
  rcases hn : next s p with x | ⟨u, r⟩
  · rw [hn] at h; cases h; rfl
  · rw [hn] at h; cases h
theorem toks_end {s : List UInt8} {k p : Nat} {l : List Tok} (hp : ¬ p < s.length) : toks s k p l = .ok l := by
  cases k with
  | zero => rfl
  | succ k => rw [toks, if_neg hp]
end Go.Proofs.YtaklmocjaokkpaaGreatDoor.Lx
namespace Go.Proofs.YtaklmocjaokkpaaGreatDoor.Lx
open Go.RowKit Go.Proofs.YtaklmocjaokkpaaGreatDoor.Mem

/-- How Tokens ends. -/
def SrcEnds (s : ByteArray) (w : World) (r : Except (Nat × Nat) (List Tok)) (e : Ending) (w' : World) : Prop :=
  match r with
  | .ok l => (∃ v, e = .returned (.tuple #[v, .int .i64 0, .int .i64 0]) ∧ w'.ownsRow w.heap.size 104 4 v l.length (l.flatMap tokCells) ∧ l.length ≤ s.size) ∧ Below w.heap.size w w'
  | .error (p, n) => e = .returned (.tuple #[.slice none 0 0, .int .i64 p, .int .i64 n]) ∧ Below w.heap.size w w'

theorem owns_mono {w : World} {base base' : Nat} {e : TypeId} {size : Nat} {v : Value} {n : Nat} {xs : List Value} (h : w.ownsRow base e size v n xs) (hb : base' ≤ base) : w.ownsRow base' e size v n xs := by
  obtain ⟨h1, h2⟩ := h
  refine ⟨h1, ?_⟩
  rcases h2 with h2 | ⟨g, cap, cur, hv, hg, r⟩
  · exact .inl h2
  · exact .inr ⟨g, cap, cur, hv, by omega, r⟩
theorem Toks.form {b : Nat} {v : Value} {l : List Tok} {w : World} (h : Toks b v l w) : ∃ a n c, v = .slice a n c := by
  rcases h.2 with ⟨rfl, _⟩ | ⟨g, cap, cur, rfl, _⟩
  · exact ⟨_, _, _, rfl⟩
  · exact ⟨_, _, _, rfl⟩

set_option maxRecDepth 100000 in
set_option maxHeartbeats 4000000 in
theorem tokens_calls (s : ByteArray) (w : World) (hg : Glob w) :
    Calls Tryz.prog 47 #[.string s] w (SrcEnds s w (tokens s.data.toList)) := by
  have hmf : ∀ (fn : Fn) (first cap : Array Value) (w : World), (Instr.makeFunc fn first cap).run Tryz.prog w = .ok (.func fn first cap) w := fun _ _ _ _ => rfl
  obtain ⟨te, pe, hv⟩ := hg.1
  obtain ⟨te2, pe2, hv2⟩ := hg.2
  have s1 := World.block_lt_of_cell? w _ hv
  have s2 := World.block_lt_of_cell? w _ hv2
  have HG := Lib.hid hg
  clear hg hv hv2
  by_cases hlong : 65536 < s.size
  · have HR : Hid (tokens s.data.toList = .error (65536, 13)) := by
      unfold tokens; rw [len_is, if_pos hlong]; rfl
    go_enter_defers Tryz.func47, Tryz.ntmps47
    go_wp2_with fail
    refine leaves_cons (f := 71) (args := #[.pointer (some ⟨w.heap.size, 0, none⟩), .pointer (some ⟨w.heap.size + 1, 0, none⟩), .pointer (some ⟨w.heap.size + 2, 0, none⟩)]) (by simp) (by simp [go_sem]) ?_
    refine (catch_idle w.heap.size _).mono ?_
    rintro e u' w'' ⟨rfl, rfl, rfl⟩
    rw [HR.out]
    have fin : Below w.heap.size w (((w.alloc (.cells #[.slice none 0 0] 66)).alloc (.cells #[.int .i64 65536] 3)).alloc (.cells #[.int .i64 13] 33)) :=
      (((Below.refl _ _).alloc (Nat.le_refl _) _).alloc (by simp) _).alloc (by simp; omega) _
    simp [Leaves, settle, results, Tryz.results47, go_sem, SrcEnds, fin]
  · have HR : Hid (tokens s.data.toList = toks s.data.toList (s.size + 1) 0 []) := by
      unfold tokens; rw [len_is, if_neg hlong]; rfl
    obtain ⟨R, hR⟩ : ∃ R, R = toks s.data.toList (s.size + 1) 0 [] := ⟨_, rfl⟩
    rw [← hR] at HR
    have HE := Lib.hid hR
    clear hR
    have hs : s.size ≤ 65536 := by omega
    go_enter_defers Tryz.func47, Tryz.ntmps47
    go_wp2_with fail
    have b0 : Below w.heap.size w ((((w.alloc (.cells #[.slice none 0 0] 66)).alloc (.cells #[.int .i64 0] 3)).alloc (.cells #[.int .i64 0] 33)).alloc (.cells #[.string s, .int .i64 0, .slice none 0 0] 102)) :=
      ((((Below.refl _ _).alloc (Nat.le_refl _) _).alloc (by simp) _).alloc (by simp; omega) _).alloc (by simp; omega) _
    have b1 := blk_alloc (blk_alloc (blk_alloc (blk_new w (.cells #[.slice none 0 0] 66)) (.cells #[.int .i64 0] 3)) (.cells #[.int .i64 0] 33)) (.cells #[.string s, .int .i64 0, .slice none 0 0] 102)
    have b2 := blk_alloc (blk_alloc (blk_new (w.alloc (.cells #[.slice none 0 0] 66)) (.cells #[.int .i64 0] 3)) (.cells #[.int .i64 0] 33)) (.cells #[.string s, .int .i64 0, .slice none 0 0] 102)
    have b3 := blk_alloc (blk_new ((w.alloc (.cells #[.slice none 0 0] 66)).alloc (.cells #[.int .i64 0] 3)) (.cells #[.int .i64 0] 33)) (.cells #[.string s, .int .i64 0, .slice none 0 0] 102)
    have b4 := blk_new (((w.alloc (.cells #[.slice none 0 0] 66)).alloc (.cells #[.int .i64 0] 3)).alloc (.cells #[.int .i64 0] 33)) (.cells #[.string s, .int .i64 0, .slice none 0 0] 102)
    have z0 : ((((w.alloc (.cells #[.slice none 0 0] 66)).alloc (.cells #[.int .i64 0] 3)).alloc (.cells #[.int .i64 0] 33)).alloc (.cells #[.string s, .int .i64 0, .slice none 0 0] 102)).heap.size = w.heap.size + 4 := by simp
    simp only [World.size_alloc] at b2 b3 b4
    generalize ((((w.alloc (.cells #[.slice none 0 0] 66)).alloc (.cells #[.int .i64 0] 3)).alloc (.cells #[.int .i64 0] 33)).alloc (.cells #[.string s, .int .i64 0, .slice none 0 0] 102)) = W0 at *
    obtain ⟨B, hB⟩ : ∃ B, B = w.heap.size := ⟨_, rfl⟩
    rw [← hB] at b0 b1 b2 b3 b4 z0 s1 s2 ⊢
    have B0 := Lib.hid b0
    have B1 := Lib.hid b1
    have B2 := Lib.hid b2
    have B3 := Lib.hid b3
    have BL : Hid (Lexer (B + 3) s 0 (.slice none 0 0) W0) := b4
    have z1 : B + 4 ≤ W0.heap.size := by omega
    have HW := Lib.hid hB
    clear b0 b1 b2 b3 b4 z0 hB
    go_loopg [13] (s.size + 1) (fun k _ wr => ∃ p v l, Hid (R = toks s.data.toList k p l) ∧ p ≤ s.size ∧ s.size < k + p ∧ l.length ≤ p ∧ Hid (Lexer (B + 3) s p v wr) ∧ Hid (Toks (B + 3) v l wr) ∧ Hid (Below (B + 3) W0 wr))
    case atStart => exact ⟨0, _, [], HE, by omega, by omega, by simp, BL.out, World.ownsRow_nil _ _ _ _, Below.refl _ _⟩
    case round =>
      obtain ⟨p, v, l, hE, hp, hk, hl, hL, hT, hC⟩ := hrel
      obtain ⟨ad, nn, cp, rfl⟩ := hT.out.form
      have c0 := hL.out.c0
      have c1 := hL.out.c1
      have c2 := hL.out.c2
      have q1 := blk_below hC.out B1.out (by omega)
      have q2 := blk_below hC.out B2.out (by omega)
      have q3 := blk_below hC.out B3.out (by omega)
      have r1 := cell_of_one q1
      have r2 := cell_of_one q2
      have r3 := cell_of_one q3
      have g1 := free_of_one q1
      have g2 := free_of_one q2
      have g3 := free_of_one q3
      have Q1 := Lib.hid q1
      have Q2 := Lib.hid q2
      have Q3 := Lib.hid q3
      clear q1 q2 q3
      by_cases hlt : p < s.size
      · obtain ⟨k, rfl⟩ : ∃ m, gk = m + 1 := ⟨gk - 1, by omega⟩
        have G1 : Hid (Glob wr) := HG.out.chg (F := fun k => B ≤ k) ⟨hC.out.os.trans B0.out.os, hC.out.tape.trans B0.out.tape, hC.out.output.trans B0.out.output, Nat.le_trans B0.out.size hC.out.size, fun k hk hf => (hC.out.block k (by omega)).trans (B0.out.block k (by omega))⟩ (by omega) (by omega)
        have S1 : B + 3 + 1 ≤ wr.heap.size := Nat.le_trans z1 hC.out.size
        go_wp2_with fail
        refine (next_calls s p (B + 3) _ l _ hs hlt hL.out hT.out (by omega) G1.out (by omega) (by omega) S1).mono ?_
        rintro e w1 h1
        rcases hn : nextR s.data.toList p with ⟨x, n⟩ | ⟨t, q⟩
        · rw [hn] at h1
          obtain ⟨rfl, hb⟩ := h1
          have HX : Hid (R = .error (x, n)) := by rw [hE.out]; exact toks_err (by rw [len_is]; exact hlt) hn
          go_wp2_with fail
          have D1 := blk_below hb Q1.out (by omega)
          have D2 := blk_below hb Q2.out (by omega)
          have D3 := blk_below hb Q3.out (by omega)
          refine leaves_cons (f := 71) (args := #[.pointer (some ⟨B, 0, none⟩), .pointer (some ⟨B + 1, 0, none⟩), .pointer (some ⟨B + 2, 0, none⟩)]) (by simp) (by simp [go_sem]) ?_
          refine (catch_fault B _ _ _ x n _ (cell_of_one D1) (cell_of_one D2) (cell_of_one D3) (free_of_one D1) (free_of_one D2) (free_of_one D3)).mono ?_
          rintro e u' w2 ⟨rfl, rfl, t1, t2, t3, t4⟩
          rw [HR.out, HX.out]
          have fin : Below w.heap.size w w2 := by
            rw [← HW.out]
            exact ((B0.out.trans (hC.out.mono (by omega))).trans (hb.mono (by omega))).trans t4
          simp [Leaves, settle, results, Tryz.results47, go_sem, SrcEnds, fin, t1, t2, t3]
        · rw [hn] at h1
          obtain ⟨rfl, ⟨v', hL', hT'⟩, hb⟩ := h1
          have HX : Hid (R = toks s.data.toList k q (l ++ t)) := by rw [hE.out]; exact toks_step (by rw [len_is]; exact hlt) hn
          have hq := next_lt (by rw [len_is]; exact hlt) hn
          rw [len_is] at hq
          have HL := Lib.hid hL'
          have HT := Lib.hid hT'
          have HC := Lib.hid (hC.out.trans hb)
          clear hn hL' hT' hb r1 r2 r3 g1 g2 g3 c0 c1 c2
          go_wp2_with fail
          go_roundg k
          case measure => omega
          case rel => exact ⟨q, v', l ++ t, HX, by omega, by omega, by simp; omega, HL, HT, HC⟩
      · have HX : Hid (R = .ok l) := by rw [hE.out]; exact toks_end (by rw [len_is]; exact hlt)
        go_wp2_with fail
        refine leaves_cons (f := 71) (args := #[.pointer (some ⟨B, 0, none⟩), .pointer (some ⟨B + 1, 0, none⟩), .pointer (some ⟨B + 2, 0, none⟩)]) (by simp) (by simp [go_sem]) ?_
        refine (catch_idle B _).mono ?_
        rintro e u' w2 ⟨rfl, rfl, rfl⟩
        rw [HR.out, HX.out]
        simp [Leaves, settle, results, Tryz.results47, go_sem, SrcEnds, r1, r2, r3]
        have o1 := ownsRow_setCell_below (ownsRow_setCell_below (ownsRow_setCell_below hT.out (a := ⟨B, 0, none⟩) (show B < B + 3 + 1 by omega) (.slice ad nn cp)) (a := ⟨B + 1, 0, none⟩) (show B + 1 < B + 3 + 1 by omega) (.int .i64 0)) (a := ⟨B + 2, 0, none⟩) (show B + 2 < B + 3 + 1 by omega) (.int .i64 0)
        have fin : Below B w _ := ((((B0.out.trans (hC.out.mono (by omega))).setCell (p := ⟨B, 0, none⟩) (Nat.le_refl _) (.slice ad nn cp)).setCell (p := ⟨B + 1, 0, none⟩) (Nat.le_succ _) (.int .i64 0)).setCell (p := ⟨B + 2, 0, none⟩) (show B ≤ B + 2 by omega) (.int .i64 0))
        rw [← HW.out]
        exact ⟨⟨owns_mono o1 (by omega), by omega⟩, fin⟩
end Go.Proofs.YtaklmocjaokkpaaGreatDoor.Lx
namespace Go.Proofs.YtaklmocjaokkpaaGreatDoor.Lx
open Go.RowKit Go.Proofs.YtaklmocjaokkpaaGreatDoor.Mem

theorem tokens_ok (s : ByteArray) (w : World) (hg : Glob w) (l : List Tok) (h : tokens s.data.toList = .ok l) :
    Calls Tryz.prog 47 #[.string s] w fun e w' => (∃ v, e = .returned (.tuple #[v, .int .i64 0, .int .i64 0]) ∧ w'.ownsRow w.heap.size 104 4 v l.length (l.flatMap tokCells)) ∧ Below w.heap.size w w' := by
  have := tokens_calls s w hg
  rw [h] at this
  exact this.mono fun e w' ⟨⟨v, h1, h2, h3⟩, h4⟩ => ⟨⟨v, h1, h2⟩, h4⟩
theorem tokens_err (s : ByteArray) (w : World) (hg : Glob w) (p n : Nat) (h : tokens s.data.toList = .error (p, n)) :
    Calls Tryz.prog 47 #[.string s] w fun e w' => e = .returned (.tuple #[.slice none 0 0, .int .i64 p, .int .i64 n]) ∧ Below w.heap.size w w' := by
  have := tokens_calls s w hg
  rw [h] at this
  exact this
theorem tokens_len (s : ByteArray) (l : List Tok) (h : tokens s.data.toList = .ok l) : s.size ≤ 65536 := by
  unfold tokens at h
  rw [len_is] at h
  split at h
  · cases h
  · omega
theorem Glob.below {B : Nat} {w w' : World} (h : Glob w) (hb : Below B w w') (h1 : 4 < B) (h2 : 5 < B) : Glob w' :=
  ⟨h.1.imp fun _ ⟨p, hp⟩ => ⟨p, (hb.cell (p := ⟨4, 0, none⟩) h1).trans hp⟩, h.2.imp fun _ ⟨p, hp⟩ => ⟨p, (hb.cell (p := ⟨5, 0, none⟩) h2).trans hp⟩⟩
theorem Glob.lt {w : World} (h : Glob w) : 4 < w.heap.size ∧ 5 < w.heap.size := by
  obtain ⟨⟨_, _, h1⟩, ⟨_, _, h2⟩⟩ := h
  exact ⟨World.block_lt_of_cell? w _ h1, World.block_lt_of_cell? w _ h2⟩
theorem Glob.later {w w' : World} (h : Glob w) (hb : Below w.heap.size w w') : Glob w' := h.below hb h.lt.1 h.lt.2

theorem flat_get (l : List Tok) (k i : Nat) (hk : k < l.length) (hi : i < 4) : (l.flatMap tokCells)[k * 4 + i]? = (tokCells l[k])[i]? := by
  induction l generalizing k with
  | nil => simp at hk
  | cons t l ih =>
    rw [List.flatMap_cons]
    cases k with
    | zero =>
      rw [List.getElem?_append_left (by show 0 * 4 + i < 4; omega), Nat.zero_mul, Nat.zero_add]
      rfl
    | succ k =>
      rw [List.getElem?_append_right (by show 4 ≤ (k + 1) * 4 + i; omega)]
      show (l.flatMap tokCells)[(k + 1) * 4 + i - 4]? = _
      rw [show (k + 1) * 4 + i - 4 = k * 4 + i by omega, ih k (by simpa using hk)]
      rfl

theorem row_cell {w : World} {base g n cap : Nat} {e : TypeId} {l : List Tok} (h : w.ownsRow base e 4 (.slice (some ⟨g, 0, none⟩) n cap) n (l.flatMap tokCells)) (hn : n = l.length) (k i : Nat) (hk : k < l.length) (hi : i < 4) :
    w.cell? ⟨g, k * 4 + i, none⟩ = (tokCells l[k])[i]? := by
  rw [h.cellAt (k * 4 + i) (by omega), flat_get l k i hk hi]

theorem zero_form {w : World} {base : Nat} {e : TypeId} {size : Nat} {v : Value} {xs : List Value} (h : w.ownsRow base e size v 0 xs) : ∃ a c, v = .slice a 0 c := by
  rcases h.2 with ⟨rfl, _⟩ | ⟨g, cap, cur, rfl, _⟩
  · exact ⟨_, _, rfl⟩
  · exact ⟨_, _, rfl⟩

theorem esc_err {s : List UInt8} {p x n : Nat} (h : esc s p = .error (x, n)) : n = 10 ∨ n = 11 := by
  have hx : ∀ {q x n : Nat}, hexAt s q = .error (x, n) → n = 10 ∨ n = 11 := by
    intro q x n h
    unfold hexAt at h
    rcases hc : s[q]? with _ | c
    · rw [hc] at h; cases h; exact .inr rfl
    · rw [hc] at h
      simp only [] at h
      rcases hd : hexv c.toNat with _ | d
      · rw [hd] at h; cases h; exact .inl rfl
      · rw [hd] at h; cases h
  unfold esc at h
  rcases hc : s[p]? with _ | c
  · rw [hc] at h; cases h; exact .inr rfl
  · rw [hc] at h
    simp only [] at h
    split at h
    · cases h
    · split at h
      · cases h
      · split at h
        · rcases h1 : hexAt s (p + 1) with ⟨x1, n1⟩ | x1
          · rw [h1] at h; cases h; exact hx h1
          · rw [h1] at h
            simp only [] at h
            rcases h2 : hexAt s (p + 2) with ⟨x2, n2⟩ | x2
            · rw [h2] at h; cases h; exact hx h2
            · rw [h2] at h; cases h
        · cases h; exact .inl rfl
theorem text_err {s : List UInt8} : ∀ {k p x n : Nat} {out : List UInt8}, text s k p out = .error (x, n) → n = 10 ∨ n = 11 := by
  intro k
  induction k with
  | zero => intro p x n out h; cases h; exact .inr rfl
  | succ k ih =>
    intro p x n out h
    rw [text] at h
    rcases hc : s[p]? with _ | c
    · rw [hc] at h; cases h; exact .inr rfl
    · rw [hc] at h
      simp only [] at h
      split at h
      · cases h
      · split at h
        · rcases he : esc s (p + 1) with ⟨x1, n1⟩ | ⟨b, q⟩
          · rw [he] at h; cases h; exact esc_err he
          · rw [he] at h; exact ih h
        · exact ih h
theorem wend_err {s : List UInt8} : ∀ {k p x n : Nat}, wordEnd s k p = .error (x, n) → n = 10 := by
  intro k
  induction k with
  | zero => intro p x n h; cases h
  | succ k ih =>
    intro p x n h
    rw [wordEnd] at h
    rcases hc : s[p]? with _ | c
    · rw [hc] at h; cases h
    · rw [hc] at h
      simp only [] at h
      split at h
      · cases h
      · split at h
        · cases h; rfl
        · exact ih h
theorem wtok_err {w : List UInt8} {p x n : Nat} (h : wordTok w p = .error (x, n)) : n = 10 := by
  unfold wordTok at h
  split at h
  · split at h
    · cases h
    · cases h; rfl
  · cases h
theorem next_err {s : List UInt8} {p x n : Nat} (h : nextR s p = .error (x, n)) : ((n : Int) == 0) = false := by
  have : n = 10 ∨ n = 11 := by
    unfold nextR next at h
    rcases hc : s[p]? with _ | c
    · rw [hc] at h; cases h
    · rw [hc] at h
      simp only [] at h
      split at h
      · first
          | (cases h; done)
          | (rename_i h1; repeat' (first | (cases h1; done) | (cases h; done) | split at h1))
      · rename_i h1
        cases h
        split at h1 <;> try cases h1
        split at h1 <;> try cases h1
        split at h1 <;> try cases h1
        split at h1 <;> try cases h1
        split at h1
        · rcases ht : text s (s.length + 1) (p + 1) [] with ⟨x1, n1⟩ | ⟨o, q⟩
          · rw [ht] at h1; cases h1; exact text_err ht
          · rw [ht] at h1; cases h1
        · rcases ht : wordEnd s (s.length + 1) p with ⟨x1, n1⟩ | q
          · rw [ht] at h1; cases h1; exact .inl (wend_err ht)
          · rw [ht] at h1
            simp only [] at h1
            rcases hw : wordTok ((s.drop p).take (q - p)) p with ⟨x1, n1⟩ | t
            · rw [hw] at h1; cases h1; exact .inl (wtok_err hw)
            · rw [hw] at h1; cases h1
  rw [beq_eq_false_iff_ne]; omega
end Go.Proofs.YtaklmocjaokkpaaGreatDoor.Lx
