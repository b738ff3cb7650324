/- The lexer's method word, walked. Conditions: the lexer's block is known, and its tokens; the two errors of strconv hold interface values. -/
import Derived.Test.YtaklmocjaokkpaaGreatDoorLexWalk5
namespace Go.Proofs.YtaklmocjaokkpaaGreatDoor.Lx
open Go.RowKit Go.Proofs.YtaklmocjaokkpaaGreatDoor.Mem

theorem wend_none {s : List UInt8} {k p : Nat} (h : s[p]? = none) : wordEnd s k p = .ok p := by
  cases k with
  | zero => rfl
  | succ k => rw [wordEnd, h]
theorem wend_ends {s : List UInt8} {k p : Nat} {c : UInt8} (h : s[p]? = some c) (he : ends c = true) : wordEnd s k p = .ok p := by
  cases k with
  | zero => rfl
  | succ k => rw [wordEnd, h]; simp only [he, if_true]
theorem wend_bad {s : List UInt8} {k p : Nat} {c : UInt8} (h : s[p]? = some c) (he : ends c = false) (hb : c.toNat < 33 ∨ 126 < c.toNat) : wordEnd s (k + 1) p = .error (p, 10) := by
  rw [wordEnd, h]; simp only [he, if_pos hb]; rfl
theorem wend_go {s : List UInt8} {k p : Nat} {c : UInt8} (h : s[p]? = some c) (he : ends c = false) (hb : ¬ (c.toNat < 33 ∨ 126 < c.toNat)) : wordEnd s (k + 1) p = wordEnd s k (p + 1) := by
  rw [wordEnd, h]; simp only [he, if_neg hb]; rfl

theorem blk_alloc_cell {w : World} {a : Addr} {v : Value} (o : Obj) (h : w.cell? a = some v) : (w.alloc o).cell? a = some v :=
  (World.cell?_of_block (w := w) (w' := w.alloc o) (Below.heap_alloc _ _ _ (World.block_lt_of_cell? w _ h))).trans h
theorem blk_alloc_free {w : World} {a : Addr} {v : Value} (o : Obj) (h : w.cell? a = some v) (hf : w.frozen? a = false) : (w.alloc o).frozen? a = false :=
  (World.frozen?_of_block (w := w) (w' := w.alloc o) (Below.heap_alloc _ _ _ (World.block_lt_of_cell? w _ h))).trans hf
theorem NE {b : Nat} {v : Value} {toks : List Tok} {w : World} (h : Toks b v toks w) : some b ≠ v.ownBlock := fun e => by have := (h.lt b e.symm).1; omega
theorem push_end' {b j gg cap : Nat} {s : ByteArray} {v : Value} {toks : List Tok} {t : Tok} {w W w1 : World} {o : Obj} (K0 : Chg (b ≤ ·) w W) (L0 : Lexer b s j v W) (T0 : Toks b v toks W) (hg : (W.alloc o).grownBy w1 v.ownBlock)
    (ho : w1.ownsRow (b + 1) 104 4 (.slice (some ⟨gg, 0, none⟩) (toks.length + 1) cap) (toks.length + 1) (toks.flatMap tokCells ++ tokCells t)) :
    Lexer b s j (.slice (some ⟨gg, 0, none⟩) (toks.length + 1) cap) (w1.setCell ⟨b, 2, none⟩ (.slice (some ⟨gg, 0, none⟩) (toks.length + 1) cap)) ∧
      Toks b (.slice (some ⟨gg, 0, none⟩) (toks.length + 1) cap) (toks ++ [t]) (w1.setCell ⟨b, 2, none⟩ (.slice (some ⟨gg, 0, none⟩) (toks.length + 1) cap)) ∧
      Chg (b ≤ ·) w (w1.setCell ⟨b, 2, none⟩ (.slice (some ⟨gg, 0, none⟩) (toks.length + 1) cap)) :=
  push_end K0 L0 T0 (by exact ⟨hg.os, hg.tape, hg.output, hg.size, hg.block⟩) ho

def wordR (s : List UInt8) (p : Nat) : Except (Nat × Nat) (List Tok × Nat) :=
  match wordEnd s (s.length + 1) p with
  | .error x => .error x
  | .ok q => match wordTok ((s.drop p).take (q - p)) p with
    | .error x => .error x
    | .ok t => .ok ([t], q)

theorem extract_list (s : ByteArray) (i j : Nat) : (s.extract i j).data.toList = (s.data.toList.drop i).take (j - i) := by
  rw [ByteArray.data_extract, Array.toList_extract]
theorem parse_ok (wl : List UInt8) (hl : wl.length ≤ 65536) (x : Int) (h : Lib.parseIntB 64 wl = .ok x) (w : World) :
    Calls Tryz.prog 116 #[.string ⟨wl.toArray⟩, .int .i64 10, .int .i64 64] w fun e w' => e = .returned (.tuple #[.int .i64 x, .nilIface]) ∧ Below w.heap.size w w' := by
  refine (Tryz.strconv_ParseInt_10_at64_ok ⟨wl.toArray⟩ (by show wl.toArray.size ≤ _; simp; omega) x h w).mono ?_
  rintro e w' ⟨rfl, h | ⟨t, h⟩⟩
  · subst h; exact ⟨rfl, Below.refl _ _⟩
  · subst h; exact ⟨rfl, bytes_below _ _ _⟩
theorem parse_bad (wl : List UInt8) (hl : wl.length ≤ 65536) (h : ∀ x, Lib.parseIntB 64 wl ≠ .ok x) (w : World) (hg : Glob w) :
    Calls Tryz.prog 116 #[.string ⟨wl.toArray⟩, .int .i64 10, .int .i64 64] w fun e w' => ∃ x N, e = .returned (.tuple #[.int .i64 x, .iface 161 (.pointer (some ⟨N, 0, none⟩))]) ∧ Below w.heap.size w w' := by
  obtain ⟨te, pe, hv⟩ := hg.1
  obtain ⟨te2, pe2, hv2⟩ := hg.2
  have hl2 : (⟨wl.toArray⟩ : ByteArray).size ≤ 281474976710656 := by show wl.toArray.size ≤ _; simp; omega
  rcases hp : Lib.parseIntB 64 wl with x | _ | _
  · exact absurd hp (h x)
  · refine (Tryz.strconv_ParseInt_10_at64_syntax ⟨wl.toArray⟩ hl2 (by show Lib.parseIntB 64 wl ≠ _; rw [hp]; exact fun h => by cases h) (fun v => by show Lib.parseIntB 64 wl ≠ _; rw [hp]; exact fun h => by cases h) _ w hv (.inr ⟨te, pe, rfl⟩)).mono ?_
    rintro e w' ⟨N, rfl, _, _, hb⟩
    exact ⟨_, N, rfl, hb⟩
  · refine (Tryz.strconv_ParseInt_10_at64_range ⟨wl.toArray⟩ hl2 hp _ w hv2 (.inr ⟨te2, pe2, rfl⟩)).mono ?_
    rintro e w' ⟨N, rfl, _, _, hb⟩
    exact ⟨_, N, rfl, hb⟩
theorem of_list (s : ByteArray) : (⟨s.data.toList.toArray⟩ : ByteArray) = s := by cases s; rfl

set_option maxRecDepth 100000 in
set_option maxHeartbeats 4000000 in
theorem word_calls (s : ByteArray) (i b : Nat) (v : Value) (toks : List Tok) (w : World) (hs : s.size ≤ 65536) (hi : i < s.size) (hL : Lexer b s i v w) (hT : Toks b v toks w) (hn : toks.length ≤ 70000) (hg : Glob w) (hb1 : 4 ≠ b) (hb2 : 5 ≠ b) (hbb : b + 1 ≤ w.heap.size) :
    Calls Tryz.prog 94 #[.pointer (some ⟨b, 0, none⟩)] w (TokEnds b s toks w (wordR s.data.toList i)) := by
  obtain ⟨iT, hj0, hy0, hy1, hy2⟩ := info_parts infoT
  have HB := Lib.hid (And.intro hb1 hb2)
  clear hb1 hb2
  have c1 := hL.c1
  have HL := Lib.hid hL
  have HT := Lib.hid hT
  have HG := Lib.hid hg
  clear hL hT hg
  have HR : Hid (wordR s.data.toList i = match wordEnd s.data.toList (s.size + 1) i with
      | .error x => .error x
      | .ok q => match wordTok ((s.data.toList.drop i).take (q - i)) i with
        | .error x => .error x
        | .ok t => .ok ([t], q)) := by
    unfold wordR; rw [len_is]; rfl
  obtain ⟨r, hr⟩ : ∃ r, r = wordEnd s.data.toList (s.size + 1) i := ⟨_, rfl⟩
  rw [← hr] at HR
  have HE := Lib.hid hr
  clear hr
  go_enter Tryz.func94, Tryz.ntmps94
  go_wp2_with fail
  go_loopg [3] (s.size + 1) (fun k vo wr => ∃ p, Hid (r = wordEnd s.data.toList k p) ∧ i ≤ p ∧ p ≤ s.size ∧ s.size < k + p ∧ Hid (Lexer b s p v wr) ∧ Hid (Toks b v toks wr) ∧ Hid (Chg (· = b) w wr))
  case atStart =>
    exact ⟨i, HE, by omega, by omega, by omega, HL.out, HT.out, Chg.refl _ _⟩
  case round =>
    obtain ⟨p, hE, hip, hp, hk, hL, hT, hC⟩ := hrel
    have c0 := hL.out.c0
    have c1 := hL.out.c1
    have c2 := hL.out.c2
    have f1 := hL.out.f 1
    have f2 := hL.out.f 2
    by_cases hlt : p < s.size
    · have hat := at_get s p hlt
      obtain ⟨k, rfl⟩ : ∃ m, gk = m + 1 := ⟨gk - 1, by omega⟩
      obtain ⟨c, hc⟩ : ∃ c, s[p] = c := ⟨_, rfl⟩
      rw [hc] at hat
      have i0 : (0 : Int) ≤ (p : Int) := by omega
      have i1 : (p : Int) < (s.size : Int) := by omega
      have i2 : ¬ s.size ≤ p := by omega
      cases he : ends c with
      | true =>
        have HC : Hid (∀ w, Calls Tryz.prog 114 #[.int .u8 c.toNat] w fun e w' => e = .returned (.bool true) ∧ w' = w) := fun w => by
          have := ends_calls c w; rw [he] at this; exact this
        have HX : Hid (r = .ok p) := by rw [hE.out]; exact wend_ends hat he
        clear hat he
        obtain ⟨wl, hwl⟩ : ∃ wl, (s.data.toList.drop i).take (p - i) = wl := ⟨_, rfl⟩
        have hsr : ∀ w, (Instr.slice 9 (.string s) (some (.int .i64 i)) (some (.int .i64 p)) none).run Tryz.prog w = .ok (.string ⟨wl.toArray⟩) w := fun w => by
          rw [slice_run 9 Tryz.underlying9 s i p (by omega) (by omega) w _ _ rfl rfl, ← hwl, ← extract_list, of_list]
        have hl : wl.length ≤ 65536 := by rw [← hwl, ← extract_list, len_is, ByteArray.size_extract]; omega
        have hl' : (⟨wl.toArray⟩ : ByteArray).size ≤ 65536 := by show wl.toArray.size ≤ _; simpa using hl
        have HWL := Lib.hid hwl
        clear hwl
        cases hN : isNum wl with
        | false =>
          have HD : Hid (∀ w, Calls Tryz.prog 115 #[.string ⟨wl.toArray⟩] w fun e w' => e = .returned (.bool false) ∧ Below w.heap.size w w') := fun w => by
            have := digits_calls ⟨wl.toArray⟩ w hl'
            rw [show (⟨wl.toArray⟩ : ByteArray).data.toList = wl from rfl, hN] at this; exact this
          have HQ : Hid (wordTok wl i = .ok ⟨3, wl, 0, i⟩) := by unfold wordTok; rw [hN]; rfl
          clear hN
          go_wp2_with fail
          go_quiet ((go_at_call 114; exact Calls.quiet_of_same (HC.out _)))
          go_wp2_with fail
          go_quiet (fail)
          go_wp2_with fail
          refine (HD.out _).mono ?_
          rintro e w1 ⟨rfl, hb⟩
          have K1 : Hid (Chg (· = b) w w1) := (hC.out.drewN _).callee hb
          have L1 : Hid (Lexer b s p v w1) := hL.out.chg (F := fun _ => False) (((Chg.refl _ wr).drewN _).callee hb) (fun h => h)
          have T1 : Hid (Toks b v toks w1) := hT.out.chg (((Chg.refl _ wr).drewN _).callee hb)
          clear c0 c1 c2 f1 f2 hb
          have q2 := L1.out.c2
          have f2 := L1.out.f 2
          have sz : b + 1 ≤ w1.heap.size := Nat.le_trans hbb K1.out.size
          go_wp2_with (at_builtin; refine wpList_append_lies _ rfl _ _ _ rfl (b + 1) 104 iT _ 4 40 Tryz.underlying66 hj0 hy0 hy1 hy2 rfl (by omega) v toks.length (toks.flatMap tokCells) (by rfl) (by exact World.ownsRow.alloc T1.out _) ⟨w1.heap.size, 0, none⟩ 1 1 (tokCells ⟨3, wl, 0, i⟩) (by rfl) (by rfl) (by exact World.news_of_block (blk_new _ _)) (by simp [Value.oneCell', tokCells]) (by omega) (by unfold maxLen; omega) (by omega) (by simp; omega) _ (by rfl) ?_; intro gg cap w9 hown1 hgrow hat hlt; have q3 := hgrow.cell (blk_alloc_cell _ L1.out.c2) (NE T1.out); have q4 := grown_frozen hgrow (blk_alloc_cell _ L1.out.c2) (blk_alloc_free _ L1.out.c2 (L1.out.f 2)) (NE T1.out))
          refine bodyPost_ret (results_none rfl _ _ _) rfl ?_
          rw [HR.out, HX.out]
          simp only [HWL.out, HQ.out]
          obtain ⟨e1, e2, e3⟩ := push_end' (w := w) (t := ⟨3, wl, 0, i⟩) (K1.out.mono (fun j _ h => Nat.le_of_eq h.symm)) L1.out T1.out hgrow hown1
          exact ⟨rfl, ⟨_, e1, e2⟩, e3.toBelow (by omega) (fun k _ h => h)⟩
        | true =>
          have HD : Hid (∀ w, Calls Tryz.prog 115 #[.string ⟨wl.toArray⟩] w fun e w' => e = .returned (.bool true) ∧ Below w.heap.size w w') := fun w => by
            have := digits_calls ⟨wl.toArray⟩ w hl'
            rw [show (⟨wl.toArray⟩ : ByteArray).data.toList = wl from rfl, hN] at this; exact this
          by_cases hP : ∃ x, Lib.parseIntB 64 wl = .ok x
          · obtain ⟨x, hP⟩ := hP
            have HQ : Hid (wordTok wl i = .ok ⟨4, [], x, i⟩) := by unfold wordTok; rw [hN, hP]; rfl
            have HP := Lib.hid (parse_ok wl hl x hP)
            clear hN hP
            go_wp2_with fail
            go_quiet ((go_at_call 114; exact Calls.quiet_of_same (HC.out _)))
            go_wp2_with fail
            go_quiet (fail)
            go_wp2_with fail
            refine (HD.out _).mono ?_
            rintro e w1 ⟨rfl, hb⟩
            have K1 : Hid (Chg (· = b) w w1) := (hC.out.drewN _).callee hb
            have L1 : Hid (Lexer b s p v w1) := hL.out.chg (F := fun _ => False) (((Chg.refl _ wr).drewN _).callee hb) (fun h => h)
            have T1 : Hid (Toks b v toks w1) := hT.out.chg (((Chg.refl _ wr).drewN _).callee hb)
            clear c0 c1 c2 f1 f2 hb
            go_wp2_with fail
            refine (HP.out _).mono ?_
            rintro e w2 ⟨rfl, hb⟩
            have K2 : Hid (Chg (· = b) w w2) := K1.out.callee hb
            have L2 : Hid (Lexer b s p v w2) := L1.out.chg (F := fun _ => False) ((Chg.refl _ w1).callee hb) (fun h => h)
            have T2 : Hid (Toks b v toks w2) := T1.out.chg ((Chg.refl _ w1).callee hb)
            clear hb
            have q2 := L2.out.c2
            have f2 := L2.out.f 2
            have sz : b + 1 ≤ w2.heap.size := Nat.le_trans hbb K2.out.size
            go_wp2_with (at_builtin; refine wpList_append_lies _ rfl _ _ _ rfl (b + 1) 104 iT _ 4 40 Tryz.underlying66 hj0 hy0 hy1 hy2 rfl (by omega) v toks.length (toks.flatMap tokCells) (by rfl) (by exact World.ownsRow.alloc T2.out _) ⟨w2.heap.size, 0, none⟩ 1 1 (tokCells ⟨4, [], x, i⟩) (by rfl) (by rfl) (by exact World.news_of_block (blk_new _ _)) (by simp [Value.oneCell', tokCells]) (by omega) (by unfold maxLen; omega) (by omega) (by simp; omega) _ (by rfl) ?_; intro gg cap w9 hown1 hgrow hat hlt; have q3 := hgrow.cell (blk_alloc_cell _ L2.out.c2) (NE T2.out); have q4 := grown_frozen hgrow (blk_alloc_cell _ L2.out.c2) (blk_alloc_free _ L2.out.c2 (L2.out.f 2)) (NE T2.out))
            refine bodyPost_ret (results_none rfl _ _ _) rfl ?_
            rw [HR.out, HX.out]
            simp only [HWL.out, HQ.out]
            obtain ⟨e1, e2, e3⟩ := push_end' (w := w) (t := ⟨4, [], x, i⟩) (K2.out.mono (fun j _ h => Nat.le_of_eq h.symm)) L2.out T2.out hgrow hown1
            exact ⟨rfl, ⟨_, e1, e2⟩, e3.toBelow (by omega) (fun k _ h => h)⟩
          · have HQ : Hid (wordTok wl i = .error (i, 10)) := by
              unfold wordTok; rw [hN]
              rcases h : Lib.parseIntB 64 wl with x | _ | _
              · exact absurd ⟨x, h⟩ hP
              · rfl
              · rfl
            have HP := Lib.hid (parse_bad wl hl (fun x h => hP ⟨x, h⟩))
            clear hN hP
            go_wp2_with fail
            go_quiet ((go_at_call 114; exact Calls.quiet_of_same (HC.out _)))
            go_wp2_with fail
            go_quiet (fail)
            go_wp2_with fail
            refine (HD.out _).mono ?_
            rintro e w1 ⟨rfl, hb⟩
            have K1 : Hid (Chg (· = b) w w1) := (hC.out.drewN _).callee hb
            have L1 : Hid (Lexer b s p v w1) := hL.out.chg (F := fun _ => False) (((Chg.refl _ wr).drewN _).callee hb) (fun h => h)
            have T1 : Hid (Toks b v toks w1) := hT.out.chg (((Chg.refl _ wr).drewN _).callee hb)
            clear c0 c1 c2 f1 f2 hb
            go_wp2_with fail
            refine (HP.out _ (HG.out.chg K1.out HB.out.1 HB.out.2)).mono ?_
            rintro e w2 ⟨x, N, rfl, hb⟩
            have K2 : Hid (Chg (· = b) w w2) := K1.out.callee hb
            clear hb
            go_wp2_with fail
            rw [HR.out, HX.out]
            simp only [HWL.out, HQ.out]
            exact ⟨rfl, rfl, K2.out.toBelow (by omega) (fun k _ h => Nat.le_of_eq h.symm)⟩
      | false =>
        have HC : Hid (∀ w, Calls Tryz.prog 114 #[.int .u8 c.toNat] w fun e w' => e = .returned (.bool false) ∧ w' = w) := fun w => by
          have := ends_calls c w; rw [he] at this; exact this
        by_cases hbad : c.toNat < 33 ∨ 126 < c.toNat
        · have HX : Hid (r = .error (p, 10)) := by rw [hE.out]; exact wend_bad hat he hbad
          clear hat he
          rcases hbad with hbad | hbad
          all_goals
            go_wp2_with fail
            go_quiet ((go_at_call 114; exact Calls.quiet_of_same (HC.out _)))
            go_wp2_with fail
            go_quiet (fail)
            go_wp2_with fail
            rw [HR.out, HX.out]
            exact ⟨rfl, rfl, (hC.out.drewN _).toBelow (by omega) (fun k _ h => Nat.le_of_eq h.symm)⟩
        · have HX : Hid (r = wordEnd s.data.toList k (p + 1)) := by rw [hE.out]; exact wend_go hat he hbad
          have n1 : 33 ≤ c.toNat ∧ c.toNat ≤ 126 := by omega
          clear hat he hbad
          go_wp2_with fail
          go_quiet ((go_at_call 114; exact Calls.quiet_of_same (HC.out _)))
          go_wp2_with fail
          go_quiet (fail)
          go_wp2_with fail
          go_roundg k
          case measure => omega
          case rel => exact ⟨p + 1, HX, by omega, by omega, by omega, Lexer.set1 (w := wr.drewN _) hL.out (by omega), hT.out.chg (Chg.set (F := (· = b)) (p := ⟨b, 1, none⟩) ((Chg.refl _ wr).drewN _) (fun _ => rfl) _), Chg.set (p := ⟨b, 1, none⟩) (hC.out.drewN _) (fun _ => rfl) _⟩
    · have HX : Hid (r = .ok p) := by rw [hE.out]; exact wend_none (at_none s p (by omega))
      have hd : decide (p < s.size) = false := decide_eq_false hlt
      obtain ⟨wl, hwl⟩ : ∃ wl, (s.data.toList.drop i).take (p - i) = wl := ⟨_, rfl⟩
      have hsr : ∀ w, (Instr.slice 9 (.string s) (some (.int .i64 i)) (some (.int .i64 p)) none).run Tryz.prog w = .ok (.string ⟨wl.toArray⟩) w := fun w => by
        rw [slice_run 9 Tryz.underlying9 s i p (by omega) (by omega) w _ _ rfl rfl, ← hwl, ← extract_list, of_list]
      have hl : wl.length ≤ 65536 := by rw [← hwl, ← extract_list, len_is, ByteArray.size_extract]; omega
      have hl' : (⟨wl.toArray⟩ : ByteArray).size ≤ 65536 := by show wl.toArray.size ≤ _; simpa using hl
      have HWL := Lib.hid hwl
      clear hwl
      cases hN : isNum wl with
      | false =>
        have HD : Hid (∀ w, Calls Tryz.prog 115 #[.string ⟨wl.toArray⟩] w fun e w' => e = .returned (.bool false) ∧ Below w.heap.size w w') := fun w => by
          have := digits_calls ⟨wl.toArray⟩ w hl'
          rw [show (⟨wl.toArray⟩ : ByteArray).data.toList = wl from rfl, hN] at this; exact this
        have HQ : Hid (wordTok wl i = .ok ⟨3, wl, 0, i⟩) := by unfold wordTok; rw [hN]; rfl
        clear hN
        go_wp2_with fail
        go_quiet (fail)
        go_wp2_with fail
        go_quiet (fail)
        go_wp2_with fail
        refine (HD.out _).mono ?_
        rintro e w1 ⟨rfl, hb⟩
        have K1 : Hid (Chg (· = b) w w1) := (hC.out.drewN _).callee hb
        have L1 : Hid (Lexer b s p v w1) := hL.out.chg (F := fun _ => False) (((Chg.refl _ wr).drewN _).callee hb) (fun h => h)
        have T1 : Hid (Toks b v toks w1) := hT.out.chg (((Chg.refl _ wr).drewN _).callee hb)
        clear c0 c1 c2 f1 f2 hb
        have q2 := L1.out.c2
        have f2 := L1.out.f 2
        have sz : b + 1 ≤ w1.heap.size := Nat.le_trans hbb K1.out.size
        go_wp2_with (at_builtin; refine wpList_append_lies _ rfl _ _ _ rfl (b + 1) 104 iT _ 4 40 Tryz.underlying66 hj0 hy0 hy1 hy2 rfl (by omega) v toks.length (toks.flatMap tokCells) (by rfl) (by exact World.ownsRow.alloc T1.out _) ⟨w1.heap.size, 0, none⟩ 1 1 (tokCells ⟨3, wl, 0, i⟩) (by rfl) (by rfl) (by exact World.news_of_block (blk_new _ _)) (by simp [Value.oneCell', tokCells]) (by omega) (by unfold maxLen; omega) (by omega) (by simp; omega) _ (by rfl) ?_; intro gg cap w9 hown1 hgrow hat hlt; have q3 := hgrow.cell (blk_alloc_cell _ L1.out.c2) (NE T1.out); have q4 := grown_frozen hgrow (blk_alloc_cell _ L1.out.c2) (blk_alloc_free _ L1.out.c2 (L1.out.f 2)) (NE T1.out))
        refine bodyPost_ret (results_none rfl _ _ _) rfl ?_
        rw [HR.out, HX.out]
        simp only [HWL.out, HQ.out]
        obtain ⟨e1, e2, e3⟩ := push_end' (w := w) (t := ⟨3, wl, 0, i⟩) (K1.out.mono (fun j _ h => Nat.le_of_eq h.symm)) L1.out T1.out hgrow hown1
        exact ⟨rfl, ⟨_, e1, e2⟩, e3.toBelow (by omega) (fun k _ h => h)⟩
      | true =>
        have HD : Hid (∀ w, Calls Tryz.prog 115 #[.string ⟨wl.toArray⟩] w fun e w' => e = .returned (.bool true) ∧ Below w.heap.size w w') := fun w => by
          have := digits_calls ⟨wl.toArray⟩ w hl'
          rw [show (⟨wl.toArray⟩ : ByteArray).data.toList = wl from rfl, hN] at this; exact this
        by_cases hP : ∃ x, Lib.parseIntB 64 wl = .ok x
        · obtain ⟨x, hP⟩ := hP
          have HQ : Hid (wordTok wl i = .ok ⟨4, [], x, i⟩) := by unfold wordTok; rw [hN, hP]; rfl
          have HP := Lib.hid (parse_ok wl hl x hP)
          clear hN hP
          go_wp2_with fail
          go_quiet (fail)
          go_wp2_with fail
          go_quiet (fail)
          go_wp2_with fail
          refine (HD.out _).mono ?_
          rintro e w1 ⟨rfl, hb⟩
          have K1 : Hid (Chg (· = b) w w1) := (hC.out.drewN _).callee hb
          have L1 : Hid (Lexer b s p v w1) := hL.out.chg (F := fun _ => False) (((Chg.refl _ wr).drewN _).callee hb) (fun h => h)
          have T1 : Hid (Toks b v toks w1) := hT.out.chg (((Chg.refl _ wr).drewN _).callee hb)
          clear c0 c1 c2 f1 f2 hb
          go_wp2_with fail
          refine (HP.out _).mono ?_
          rintro e w2 ⟨rfl, hb⟩
          have K2 : Hid (Chg (· = b) w w2) := K1.out.callee hb
          have L2 : Hid (Lexer b s p v w2) := L1.out.chg (F := fun _ => False) ((Chg.refl _ w1).callee hb) (fun h => h)
          have T2 : Hid (Toks b v toks w2) := T1.out.chg ((Chg.refl _ w1).callee hb)
          clear hb
          have q2 := L2.out.c2
          have f2 := L2.out.f 2
          have sz : b + 1 ≤ w2.heap.size := Nat.le_trans hbb K2.out.size
          go_wp2_with (at_builtin; refine wpList_append_lies _ rfl _ _ _ rfl (b + 1) 104 iT _ 4 40 Tryz.underlying66 hj0 hy0 hy1 hy2 rfl (by omega) v toks.length (toks.flatMap tokCells) (by rfl) (by exact World.ownsRow.alloc T2.out _) ⟨w2.heap.size, 0, none⟩ 1 1 (tokCells ⟨4, [], x, i⟩) (by rfl) (by rfl) (by exact World.news_of_block (blk_new _ _)) (by simp [Value.oneCell', tokCells]) (by omega) (by unfold maxLen; omega) (by omega) (by simp; omega) _ (by rfl) ?_; intro gg cap w9 hown1 hgrow hat hlt; have q3 := hgrow.cell (blk_alloc_cell _ L2.out.c2) (NE T2.out); have q4 := grown_frozen hgrow (blk_alloc_cell _ L2.out.c2) (blk_alloc_free _ L2.out.c2 (L2.out.f 2)) (NE T2.out))
          refine bodyPost_ret (results_none rfl _ _ _) rfl ?_
          rw [HR.out, HX.out]
          simp only [HWL.out, HQ.out]
          obtain ⟨e1, e2, e3⟩ := push_end' (w := w) (t := ⟨4, [], x, i⟩) (K2.out.mono (fun j _ h => Nat.le_of_eq h.symm)) L2.out T2.out hgrow hown1
          exact ⟨rfl, ⟨_, e1, e2⟩, e3.toBelow (by omega) (fun k _ h => h)⟩
        · have HQ : Hid (wordTok wl i = .error (i, 10)) := by
            unfold wordTok; rw [hN]
            rcases h : Lib.parseIntB 64 wl with x | _ | _
            · exact absurd ⟨x, h⟩ hP
            · rfl
            · rfl
          have HP := Lib.hid (parse_bad wl hl (fun x h => hP ⟨x, h⟩))
          clear hN hP
          go_wp2_with fail
          go_quiet (fail)
          go_wp2_with fail
          go_quiet (fail)
          go_wp2_with fail
          refine (HD.out _).mono ?_
          rintro e w1 ⟨rfl, hb⟩
          have K1 : Hid (Chg (· = b) w w1) := (hC.out.drewN _).callee hb
          have L1 : Hid (Lexer b s p v w1) := hL.out.chg (F := fun _ => False) (((Chg.refl _ wr).drewN _).callee hb) (fun h => h)
          have T1 : Hid (Toks b v toks w1) := hT.out.chg (((Chg.refl _ wr).drewN _).callee hb)
          clear c0 c1 c2 f1 f2 hb
          go_wp2_with fail
          refine (HP.out _ (HG.out.chg K1.out HB.out.1 HB.out.2)).mono ?_
          rintro e w2 ⟨x, N, rfl, hb⟩
          have K2 : Hid (Chg (· = b) w w2) := K1.out.callee hb
          clear hb
          go_wp2_with fail
          rw [HR.out, HX.out]
          simp only [HWL.out, HQ.out]
          exact ⟨rfl, rfl, K2.out.toBelow (by omega) (fun k _ h => Nat.le_of_eq h.symm)⟩
end Go.Proofs.YtaklmocjaokkpaaGreatDoor.Lx
