/- The lexer's method next, walked. Conditions: the lexer's block is known, and its tokens; the two errors of strconv hold interface values. -/
import Derived.Test.YtaklmocjaokkpaaGreatDoorLexWalk6
namespace Go.Proofs.YtaklmocjaokkpaaGreatDoor.Lx
open Go.RowKit Go.Proofs.YtaklmocjaokkpaaGreatDoor.Mem

def nextR (s : List UInt8) (p : Nat) : Except (Nat × Nat) (List Tok × Nat) := match next s p with | .ok (t, q) => .ok (t.toList, q) | .error x => .error x

theorem next_blank {s : List UInt8} {p : Nat} {c : UInt8} (h : s[p]? = some c) (hb : blank c = true) : nextR s p = .ok ([], p + 1) := by
  unfold nextR next; rw [h]; simp only [hb, if_true]; rfl
theorem next_note {s : List UInt8} {p : Nat} (h : s[p]? = some 59) : nextR s p = .ok ([], noteEnd s p) := by
  unfold nextR next; rw [h]; rfl
theorem next_open {s : List UInt8} {p : Nat} (h : s[p]? = some 40) : nextR s p = .ok ([⟨1, [], 0, p⟩], p + 1) := by
  unfold nextR next; rw [h]; rfl
theorem next_close {s : List UInt8} {p : Nat} (h : s[p]? = some 41) : nextR s p = .ok ([⟨2, [], 0, p⟩], p + 1) := by
  unfold nextR next; rw [h]; rfl
theorem next_text {s : List UInt8} {p : Nat} (h : s[p]? = some 34) : nextR s p = textR s p := by
  unfold nextR next textR; rw [h]
  have h1 : blank 34 = false := by decide
  simp only [h1, Bool.false_eq_true, if_false, if_true, show (34 : UInt8) ≠ 59 by decide, show (34 : UInt8) ≠ 40 by decide, show (34 : UInt8) ≠ 41 by decide]
  rcases text s (s.length + 1) (p + 1) [] with x | ⟨o, q⟩ <;> rfl
theorem next_word {s : List UInt8} {p : Nat} {c : UInt8} (h : s[p]? = some c) (h1 : blank c = false) (h2 : c ≠ 59) (h3 : c ≠ 40) (h4 : c ≠ 41) (h5 : c ≠ 34) : nextR s p = wordR s p := by
  unfold nextR next wordR; rw [h]
  simp only [h1, Bool.false_eq_true, if_false, if_neg h2, if_neg h3, if_neg h4, if_neg h5]
  rcases wordEnd s (s.length + 1) p with x | q
  · rfl
  · simp only []
    rcases wordTok ((s.drop p).take (q - p)) p with x | t <;> rfl
theorem indexByte_lt (l : List UInt8) (c : UInt8) : Lib.indexByte l c < l.length := by
  induction l with
  | nil => simp [Lib.indexByte]
  | cons a l ih =>
    rw [Lib.indexByte]
    have := Lib.indexByte_ge l c
    split
    · simp
    · split
      · simp; omega
      · simp; omega

theorem quiet2 {P : Program} {f : FuncId} {args : Array Value} {w : World} {a n : Nat} {v : Value} (h : Calls P f args (w.drewN (a + n)) fun e w' => e = .returned v ∧ w' = w.drewN (a + n)) :
    Calls P f args (w.drewN (a + n)) fun e w'' => e = .returned v ∧ ∃ m, w'' = w.drewN (a + m) :=
  h.mono fun _ _ ⟨he, hm⟩ => ⟨he, n, hm⟩
theorem owns_adN {w : World} {base : Nat} {e : TypeId} {size : Nat} {v : Value} {n : Nat} {xs : List Value} (h : w.ownsRow base e size v n xs) (o : Obj) (m : Nat) : ((w.alloc o).drewN m).ownsRow base e size v n xs := World.ownsRow.alloc h o
theorem new_adN (w : World) (o : Obj) (m : Nat) : ((w.alloc o).drewN m).heap[w.heap.size]? = some o := blk_new w o
theorem cell_adN {w : World} {a : Addr} {v : Value} (o : Obj) (m : Nat) (h : w.cell? a = some v) : ((w.alloc o).drewN m).cell? a = some v := blk_alloc_cell o h
theorem free_adN {w : World} {a : Addr} {v : Value} (o : Obj) (m : Nat) (h : w.cell? a = some v) (hf : w.frozen? a = false) : ((w.alloc o).drewN m).frozen? a = false := blk_alloc_free o h hf

theorem undrew {B n : Nat} {w w' : World} (h : Below B (w.drewN n) w') : Below B w w' := ⟨h.os, h.tape, h.output, h.size, h.block⟩

theorem slice_from {P : Program} (t : TypeId) (ht : P.underlying t = some .string) (s : ByteArray) (i : Nat) (h1 : i ≤ s.size) (w : World) :
    (Instr.slice t (.string s) (some (.int .i64 (i : Int))) none none).run P w = .ok (.string ⟨(s.data.toList.drop i).toArray⟩) w := by
  have e1 : ((i : Int)).toNat = i := by omega
  have e2 : s.extract i s.size = ⟨(s.data.toList.drop i).toArray⟩ := by
    rw [← of_list (s.extract i s.size), extract_list, List.take_of_length_le (by rw [List.length_drop, len_is]; omega)]
  rw [← e2]
  have := run_slice_string_l (P := P) w t s ht .i64 (i : Int) (by omega) (by omega)
  rwa [e1] at this

set_option maxRecDepth 100000 in
set_option maxHeartbeats 4000000 in
theorem next_calls (s : ByteArray) (i b : Nat) (v : Value) (toks : List Tok) (w : World) (hs : s.size ≤ 65536) (hi : i < s.size) (hL : Lexer b s i v w) (hT : Toks b v toks w) (hn : toks.length ≤ 70000) (hg : Glob w) (hb1 : 4 ≠ b) (hb2 : 5 ≠ b) (hbb : b + 1 ≤ w.heap.size) :
    Calls Tryz.prog 72 #[.pointer (some ⟨b, 0, none⟩)] w (TokEnds b s toks w (nextR s.data.toList i)) := by
  obtain ⟨iT, hj0, hy0, hy1, hy2⟩ := info_parts infoT
  have HB := Lib.hid (And.intro hb1 hb2)
  clear hb1 hb2
  have c0 := hL.c0
  have c1 := hL.c1
  have c2 := hL.c2
  have f1 := hL.f 1
  have f2 := hL.f 2
  have HL := Lib.hid hL
  have HT := Lib.hid hT
  have HG := Lib.hid hg
  clear hL hT hg
  have hat := at_get s i hi
  obtain ⟨c, hc⟩ : ∃ c, s[i] = c := ⟨_, rfl⟩
  rw [hc] at hat
  have i0 : (0 : Int) ≤ (i : Int) := by omega
  have i1 : (i : Int) < (s.size : Int) := by omega
  by_cases hq : c = 32
  · have HR := Lib.hid (next_blank hat (by subst hq; decide))
    have n1 : 32 ≤ c.toNat ∧ c.toNat ≤ 32 := by subst hq; decide
    clear hat hq
    go_enter Tryz.func72, Tryz.ntmps72
    go_wp2_with fail
    go_quiet (fail)
    go_wp2_with fail
    go_end0
    rw [HR.out]
    exact ⟨rfl, ⟨v, Lexer.set1 (w := w.drewN _) HL.out (by omega), by rw [List.append_nil]; exact HT.out.chg (Chg.set (F := (· = b)) (p := ⟨b, 1, none⟩) ((Chg.refl _ w).drewN _) (fun _ => rfl) _)⟩, (Chg.set (F := (· = b)) (p := ⟨b, 1, none⟩) ((Chg.refl _ w).drewN _) (fun _ => rfl) _).toBelow (by omega) (fun k _ h => Nat.le_of_eq h.symm)⟩
  have m32 : c.toNat ≠ 32 := fun h => hq (UInt8.toNat_inj.1 h)
  have q32 := hq
  clear hq
  by_cases hq : c = 9
  · have HR := Lib.hid (next_blank hat (by subst hq; decide))
    have n1 : 9 ≤ c.toNat ∧ c.toNat ≤ 9 := by subst hq; decide
    clear hat hq
    go_enter Tryz.func72, Tryz.ntmps72
    go_wp2_with fail
    go_quiet (fail)
    go_wp2_with fail
    go_end0
    rw [HR.out]
    exact ⟨rfl, ⟨v, Lexer.set1 (w := w.drewN _) HL.out (by omega), by rw [List.append_nil]; exact HT.out.chg (Chg.set (F := (· = b)) (p := ⟨b, 1, none⟩) ((Chg.refl _ w).drewN _) (fun _ => rfl) _)⟩, (Chg.set (F := (· = b)) (p := ⟨b, 1, none⟩) ((Chg.refl _ w).drewN _) (fun _ => rfl) _).toBelow (by omega) (fun k _ h => Nat.le_of_eq h.symm)⟩
  have m9 : c.toNat ≠ 9 := fun h => hq (UInt8.toNat_inj.1 h)
  have q9 := hq
  clear hq
  by_cases hq : c = 10
  · have HR := Lib.hid (next_blank hat (by subst hq; decide))
    have n1 : 10 ≤ c.toNat ∧ c.toNat ≤ 10 := by subst hq; decide
    clear hat hq
    go_enter Tryz.func72, Tryz.ntmps72
    go_wp2_with fail
    go_quiet (fail)
    go_wp2_with fail
    go_end0
    rw [HR.out]
    exact ⟨rfl, ⟨v, Lexer.set1 (w := w.drewN _) HL.out (by omega), by rw [List.append_nil]; exact HT.out.chg (Chg.set (F := (· = b)) (p := ⟨b, 1, none⟩) ((Chg.refl _ w).drewN _) (fun _ => rfl) _)⟩, (Chg.set (F := (· = b)) (p := ⟨b, 1, none⟩) ((Chg.refl _ w).drewN _) (fun _ => rfl) _).toBelow (by omega) (fun k _ h => Nat.le_of_eq h.symm)⟩
  have m10 : c.toNat ≠ 10 := fun h => hq (UInt8.toNat_inj.1 h)
  have q10 := hq
  clear hq
  by_cases hq : c = 13
  · have HR := Lib.hid (next_blank hat (by subst hq; decide))
    have n1 : 13 ≤ c.toNat ∧ c.toNat ≤ 13 := by subst hq; decide
    clear hat hq
    go_enter Tryz.func72, Tryz.ntmps72
    go_wp2_with fail
    go_quiet (fail)
    go_wp2_with fail
    go_end0
    rw [HR.out]
    exact ⟨rfl, ⟨v, Lexer.set1 (w := w.drewN _) HL.out (by omega), by rw [List.append_nil]; exact HT.out.chg (Chg.set (F := (· = b)) (p := ⟨b, 1, none⟩) ((Chg.refl _ w).drewN _) (fun _ => rfl) _)⟩, (Chg.set (F := (· = b)) (p := ⟨b, 1, none⟩) ((Chg.refl _ w).drewN _) (fun _ => rfl) _).toBelow (by omega) (fun k _ h => Nat.le_of_eq h.symm)⟩
  have m13 : c.toNat ≠ 13 := fun h => hq (UInt8.toNat_inj.1 h)
  have q13 := hq
  clear hq
  by_cases hq : c = 59
  · have HR := Lib.hid (next_note (hq ▸ hat))
    obtain ⟨j, hj⟩ : ∃ j, Lib.indexByte (s.data.toList.drop i) 10 = j := ⟨_, rfl⟩
    have j0 := Lib.indexByte_ge (s.data.toList.drop i) 10
    have j1 := indexByte_lt (s.data.toList.drop i) 10
    rw [List.length_drop, len_is] at j1
    have HC : Hid (∀ w, Calls Tryz.prog 92 #[.string ⟨(s.data.toList.drop i).toArray⟩, .int .u8 10] w fun e w' => e = .returned (.int .i64 j) ∧ w' = w) := fun w => by
      have := Tryz.strings_IndexByte ⟨(s.data.toList.drop i).toArray⟩ 10 w
      rw [← hj]; exact this
    rw [hj] at j0 j1
    have HN : Hid (noteEnd s.data.toList i = if 0 ≤ j then i + j.toNat else s.size) := by
      unfold noteEnd; rw [hj, len_is]; rfl
    have hsr : ∀ w, (Instr.slice 9 (.string s) (some (.int .i64 i)) none none).run Tryz.prog w = .ok (.string ⟨(s.data.toList.drop i).toArray⟩) w := fun w => slice_from 9 Tryz.underlying9 s i (by omega) w
    have n1 : 59 ≤ c.toNat ∧ c.toNat ≤ 59 := by subst hq; decide
    clear hat hq hj
    by_cases hjn : 0 ≤ j
    · have HN2 : Hid (noteEnd s.data.toList i = i + j.toNat) := by rw [HN.out, if_pos hjn]; rfl
      go_enter Tryz.func72, Tryz.ntmps72
      go_wp2_with fail
      go_quiet (fail)
      go_wp2_with fail
      go_quiet ((go_at_call 92; exact quiet2 (HC.out _)))
      go_wp2_with fail
      go_end0
      rw [HR.out, HN2.out]
      exact ⟨rfl, ⟨v, Lexer.set1 (w := w.drewN _) HL.out (by omega), by rw [List.append_nil]; exact HT.out.chg (Chg.set (F := (· = b)) (p := ⟨b, 1, none⟩) ((Chg.refl _ w).drewN _) (fun _ => rfl) _)⟩, (Chg.set (F := (· = b)) (p := ⟨b, 1, none⟩) ((Chg.refl _ w).drewN _) (fun _ => rfl) _).toBelow (by omega) (fun k _ h => Nat.le_of_eq h.symm)⟩
    · have HN2 : Hid (noteEnd s.data.toList i = s.size) := by rw [HN.out, if_neg hjn]; rfl
      go_enter Tryz.func72, Tryz.ntmps72
      go_wp2_with fail
      go_quiet (fail)
      go_wp2_with fail
      go_quiet ((go_at_call 92; exact quiet2 (HC.out _)))
      go_wp2_with fail
      go_end0
      rw [HR.out, HN2.out]
      exact ⟨rfl, ⟨v, Lexer.set1 (w := w.drewN _) HL.out (by omega), by rw [List.append_nil]; exact HT.out.chg (Chg.set (F := (· = b)) (p := ⟨b, 1, none⟩) ((Chg.refl _ w).drewN _) (fun _ => rfl) _)⟩, (Chg.set (F := (· = b)) (p := ⟨b, 1, none⟩) ((Chg.refl _ w).drewN _) (fun _ => rfl) _).toBelow (by omega) (fun k _ h => Nat.le_of_eq h.symm)⟩
  have m59 : c.toNat ≠ 59 := fun h => hq (UInt8.toNat_inj.1 h)
  have q59 := hq
  clear hq
  by_cases hq : c = 40
  · have HR := Lib.hid (next_open (hq ▸ hat))
    have n1 : 40 ≤ c.toNat ∧ c.toNat ≤ 40 := by subst hq; decide
    clear hat hq
    have NV := Lib.hid (NE HT.out)
    have C2d : ∀ n, (w.drewN n).cell? ⟨b, 2, none⟩ = some v := fun n => c2
    have F2d : ∀ n, (w.drewN n).frozen? ⟨b, 2, none⟩ = false := fun n => f2
    have F1d : ∀ n, (w.drewN n).frozen? ⟨b, 1, none⟩ = false := fun n => f1
    have T1 : ∀ n, Hid (Toks b v toks (w.drewN n)) := fun n => HT.out
    have C2a : ∀ n o, ((w.drewN n).alloc o).cell? ⟨b, 2, none⟩ = some v := fun n o => blk_alloc_cell o c2
    have C1a : ∀ n o, ((w.drewN n).alloc o).cell? ⟨b, 1, none⟩ = some (.int .i64 i) := fun n o => blk_alloc_cell o c1
    have C1d : ∀ n, (w.drewN n).cell? ⟨b, 1, none⟩ = some (.int .i64 i) := fun n => c1
    go_enter Tryz.func72, Tryz.ntmps72
    go_wp2_with fail
    go_quiet (fail)
    go_wp2_with fail
    go_region_law ((refine step_append_lies _ (by rfl) _ _ _ (by rfl) (b + 1) 104 iT _ 4 40 Tryz.underlying66 hj0 hy0 hy1 hy2 rfl (by omega) v toks.length (toks.flatMap tokCells) (by rfl) (World.ownsRow.alloc (T1 _).out _) ⟨w.heap.size, 0, none⟩ 1 1 (tokCells ⟨1, [], 0, i⟩) (by rfl) (by rfl) (by exact World.news_of_block (blk_new _ _)) (by simp [Value.oneCell', tokCells]) (by omega) (by unfold maxLen; omega) (by omega) (by simp; omega) _ (by rfl) ?_; intro gg cap w1 hown1 hgrow hat hlt; have q2 := hgrow.cell (blk_alloc_cell _ (C2d _)) NV.out; have q3 := grown_frozen hgrow (blk_alloc_cell _ (C2d _)) (blk_alloc_free _ (C2d _) (F2d _)) NV.out; have q4 := hgrow.cell (blk_alloc_cell _ (C1d _)) NV.out; have q5 := grown_frozen hgrow (blk_alloc_cell _ (C1d _)) (blk_alloc_free _ (C1d _) (F1d _)) NV.out))
    all_goals
      go_wp2_with fail
      go_end0
      rw [HR.out]
      obtain ⟨e1, e2, e3⟩ := push_end' (w := w) (t := ⟨1, [], 0, i⟩) ((Chg.refl (b ≤ ·) w).drewN _) (by exact HL.out) (T1 _).out hgrow hown1
      exact ⟨rfl, ⟨_, e1.set1 (by omega), e2.chg (Chg.set (F := (· = b)) (p := ⟨b, 1, none⟩) (Chg.refl _ _) (fun _ => rfl) _)⟩, (e3.set (p := ⟨b, 1, none⟩) (fun _ => Nat.le_refl _) _).toBelow (by omega) (fun k _ h => h)⟩
  have m40 : c.toNat ≠ 40 := fun h => hq (UInt8.toNat_inj.1 h)
  have q40 := hq
  clear hq
  by_cases hq : c = 41
  · have HR := Lib.hid (next_close (hq ▸ hat))
    have n1 : 41 ≤ c.toNat ∧ c.toNat ≤ 41 := by subst hq; decide
    clear hat hq
    have NV := Lib.hid (NE HT.out)
    have C2d : ∀ n, (w.drewN n).cell? ⟨b, 2, none⟩ = some v := fun n => c2
    have F2d : ∀ n, (w.drewN n).frozen? ⟨b, 2, none⟩ = false := fun n => f2
    have F1d : ∀ n, (w.drewN n).frozen? ⟨b, 1, none⟩ = false := fun n => f1
    have T1 : ∀ n, Hid (Toks b v toks (w.drewN n)) := fun n => HT.out
    have C2a : ∀ n o, ((w.drewN n).alloc o).cell? ⟨b, 2, none⟩ = some v := fun n o => blk_alloc_cell o c2
    have C1a : ∀ n o, ((w.drewN n).alloc o).cell? ⟨b, 1, none⟩ = some (.int .i64 i) := fun n o => blk_alloc_cell o c1
    have C1d : ∀ n, (w.drewN n).cell? ⟨b, 1, none⟩ = some (.int .i64 i) := fun n => c1
    go_enter Tryz.func72, Tryz.ntmps72
    go_wp2_with fail
    go_quiet (fail)
    go_wp2_with fail
    go_region_law ((refine step_append_lies _ (by rfl) _ _ _ (by rfl) (b + 1) 104 iT _ 4 40 Tryz.underlying66 hj0 hy0 hy1 hy2 rfl (by omega) v toks.length (toks.flatMap tokCells) (by rfl) (World.ownsRow.alloc (T1 _).out _) ⟨w.heap.size, 0, none⟩ 1 1 (tokCells ⟨2, [], 0, i⟩) (by rfl) (by rfl) (by exact World.news_of_block (blk_new _ _)) (by simp [Value.oneCell', tokCells]) (by omega) (by unfold maxLen; omega) (by omega) (by simp; omega) _ (by rfl) ?_; intro gg cap w1 hown1 hgrow hat hlt; have q2 := hgrow.cell (blk_alloc_cell _ (C2d _)) NV.out; have q3 := grown_frozen hgrow (blk_alloc_cell _ (C2d _)) (blk_alloc_free _ (C2d _) (F2d _)) NV.out; have q4 := hgrow.cell (blk_alloc_cell _ (C1d _)) NV.out; have q5 := grown_frozen hgrow (blk_alloc_cell _ (C1d _)) (blk_alloc_free _ (C1d _) (F1d _)) NV.out))
    all_goals
      go_wp2_with fail
      go_end0
      rw [HR.out]
      obtain ⟨e1, e2, e3⟩ := push_end' (w := w) (t := ⟨2, [], 0, i⟩) ((Chg.refl (b ≤ ·) w).drewN _) (by exact HL.out) (T1 _).out hgrow hown1
      exact ⟨rfl, ⟨_, e1.set1 (by omega), e2.chg (Chg.set (F := (· = b)) (p := ⟨b, 1, none⟩) (Chg.refl _ _) (fun _ => rfl) _)⟩, (e3.set (p := ⟨b, 1, none⟩) (fun _ => Nat.le_refl _) _).toBelow (by omega) (fun k _ h => h)⟩
  have m41 : c.toNat ≠ 41 := fun h => hq (UInt8.toNat_inj.1 h)
  have q41 := hq
  clear hq
  by_cases hq : c = 34
  · have HR := Lib.hid (next_text (hq ▸ hat))
    have n1 : 34 ≤ c.toNat ∧ c.toNat ≤ 34 := by subst hq; decide
    clear hat hq
    go_enter Tryz.func72, Tryz.ntmps72
    go_wp2_with fail
    go_quiet (fail)
    go_wp2_with fail
    refine (text_calls s i b v toks _ hs hi (by exact HL.out) (by exact HT.out) hn (by exact HG.out) HB.out.1 HB.out.2 (by exact hbb)).mono ?_
    rintro e w1 h1
    rw [← HR.out] at h1
    rcases hr : nextR s.data.toList i with ⟨x, n⟩ | ⟨l, q⟩
    · rw [hr] at h1
      obtain ⟨rfl, hb⟩ := h1
      have HK := Lib.hid hb
      clear hb
      go_wp2_with fail
      exact ⟨rfl, rfl, undrew HK.out⟩
    · rw [hr] at h1
      obtain ⟨rfl, hv, hb⟩ := h1
      have HK := Lib.hid (And.intro hv hb)
      clear hb hv
      go_wp2_with fail
      go_end0
      rw [hr]
      exact ⟨rfl, HK.out.1, undrew HK.out.2⟩
  have m34 : c.toNat ≠ 34 := fun h => hq (UInt8.toNat_inj.1 h)
  have HR := Lib.hid (next_word hat (by unfold blank; simp [q32, q9, q10, q13]) q59 q40 q41 hq)
  clear hat hq q32 q9 q10 q13 q59 q40 q41
  go_enter Tryz.func72, Tryz.ntmps72
  go_wp2_with fail
  go_quiet (fail)
  go_wp2_with fail
  refine (word_calls s i b v toks _ hs hi (by exact HL.out) (by exact HT.out) hn (by exact HG.out) HB.out.1 HB.out.2 (by exact hbb)).mono ?_
  rintro e w1 h1
  rw [← HR.out] at h1
  rcases hr : nextR s.data.toList i with ⟨x, n⟩ | ⟨l, q⟩
  · rw [hr] at h1
    obtain ⟨rfl, hb⟩ := h1
    have HK := Lib.hid hb
    clear hb
    go_wp2_with fail
    exact ⟨rfl, rfl, undrew HK.out⟩
  · rw [hr] at h1
    obtain ⟨rfl, hv, hb⟩ := h1
    have HK := Lib.hid (And.intro hv hb)
    clear hb hv
    go_wp2_with fail
    go_end0
    rw [hr]
    exact ⟨rfl, HK.out.1, undrew HK.out.2⟩
end Go.Proofs.YtaklmocjaokkpaaGreatDoor.Lx
