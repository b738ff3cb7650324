/- The lexer's Tokens, walked: for every source its tokens, or the place and the error. Condition: the two errors of strconv hold interface values. -/
import Derived.Test.YtaklmocjaokkpaaGreatDoorLexWalk9
namespace Go.Proofs.YtaklmocjaokkpaaGreatDoor.Lx
open Go.RowKit Go.Proofs.YtaklmocjaokkpaaGreatDoor.Mem

/-- How Tokens ends. -/
def SrcEnds (s : ByteArray) (w : World) (r : Except (Nat × Nat) (List Tok)) (e : Ending) (w' : World) : Prop :=
  match r with
  | .ok l => (∃ v, e = .returned (.tuple #[v, .int .i64 0, .int .i64 0]) ∧ w'.ownsRow w.heap.size 104 4 v l.length (l.flatMap tokCells) ∧ l.length ≤ s.size) ∧ Below w.heap.size w w'
  | .error (p, n) => e = .returned (.tuple #[.slice none 0 0, .int .i64 p, .int .i64 n]) ∧ Below w.heap.size w w'

theorem owns_mono {w : World} {base base' : Nat} {e : TypeId} {size : Nat} {v : Value} {n : Nat} {xs : List Value} (h : w.ownsRow base e size v n xs) (hb : base' ≤ base) : w.ownsRow base' e size v n xs := by
  obtain ⟨h1, h2⟩ := h
  refine ⟨h1, ?_⟩
  rcases h2 with h2 | ⟨g, cap, cur, hv, hg, r⟩
  · exact .inl h2
  · exact .inr ⟨g, cap, cur, hv, by omega, r⟩
theorem Toks.form {b : Nat} {v : Value} {l : List Tok} {w : World} (h : Toks b v l w) : ∃ a n c, v = .slice a n c := by
  rcases h.2 with ⟨rfl, _⟩ | ⟨g, cap, cur, rfl, _⟩
  · exact ⟨_, _, _, rfl⟩
  · exact ⟨_, _, _, rfl⟩

set_option maxRecDepth 100000 in
set_option maxHeartbeats 4000000 in
theorem tokens_calls (s : ByteArray) (w : World) (hg : Glob w) :
    Calls Tryz.prog 47 #[.string s] w (SrcEnds s w (tokens s.data.toList)) := by
  have hmf : ∀ (fn : Fn) (first cap : Array Value) (w : World), (Instr.makeFunc fn first cap).run Tryz.prog w = .ok (.func fn first cap) w := fun _ _ _ _ => rfl
  obtain ⟨te, pe, hv⟩ := hg.1
  obtain ⟨te2, pe2, hv2⟩ := hg.2
  have s1 := World.block_lt_of_cell? w _ hv
  have s2 := World.block_lt_of_cell? w _ hv2
  have HG := Lib.hid hg
  clear hg hv hv2
  by_cases hlong : 65536 < s.size
  · have HR : Hid (tokens s.data.toList = .error (65536, 13)) := by
      unfold tokens; rw [len_is, if_pos hlong]; rfl
    go_enter_defers Tryz.func47, Tryz.ntmps47
    go_wp2_with fail
    refine leaves_cons (f := 71) (args := #[.pointer (some ⟨w.heap.size, 0, none⟩), .pointer (some ⟨w.heap.size + 1, 0, none⟩), .pointer (some ⟨w.heap.size + 2, 0, none⟩)]) (by simp) (by simp [go_sem]) ?_
    refine (catch_idle w.heap.size _).mono ?_
    rintro e u' w'' ⟨rfl, rfl, rfl⟩
    rw [HR.out]
    have fin : Below w.heap.size w (((w.alloc (.cells #[.slice none 0 0] 66)).alloc (.cells #[.int .i64 65536] 3)).alloc (.cells #[.int .i64 13] 33)) :=
      (((Below.refl _ _).alloc (Nat.le_refl _) _).alloc (by simp) _).alloc (by simp; omega) _
    simp [Leaves, settle, results, Tryz.results47, go_sem, SrcEnds, fin]
  · have HR : Hid (tokens s.data.toList = toks s.data.toList (s.size + 1) 0 []) := by
      unfold tokens; rw [len_is, if_neg hlong]; rfl
    obtain ⟨R, hR⟩ : ∃ R, R = toks s.data.toList (s.size + 1) 0 [] := ⟨_, rfl⟩
    rw [← hR] at HR
    have HE := Lib.hid hR
    clear hR
    have hs : s.size ≤ 65536 := by omega
    go_enter_defers Tryz.func47, Tryz.ntmps47
    go_wp2_with fail
    have b0 : Below w.heap.size w ((((w.alloc (.cells #[.slice none 0 0] 66)).alloc (.cells #[.int .i64 0] 3)).alloc (.cells #[.int .i64 0] 33)).alloc (.cells #[.string s, .int .i64 0, .slice none 0 0] 102)) :=
      ((((Below.refl _ _).alloc (Nat.le_refl _) _).alloc (by simp) _).alloc (by simp; omega) _).alloc (by simp; omega) _
    have b1 := blk_alloc (blk_alloc (blk_alloc (blk_new w (.cells #[.slice none 0 0] 66)) (.cells #[.int .i64 0] 3)) (.cells #[.int .i64 0] 33)) (.cells #[.string s, .int .i64 0, .slice none 0 0] 102)
    have b2 := blk_alloc (blk_alloc (blk_new (w.alloc (.cells #[.slice none 0 0] 66)) (.cells #[.int .i64 0] 3)) (.cells #[.int .i64 0] 33)) (.cells #[.string s, .int .i64 0, .slice none 0 0] 102)
    have b3 := blk_alloc (blk_new ((w.alloc (.cells #[.slice none 0 0] 66)).alloc (.cells #[.int .i64 0] 3)) (.cells #[.int .i64 0] 33)) (.cells #[.string s, .int .i64 0, .slice none 0 0] 102)
    have b4 := blk_new (((w.alloc (.cells #[.slice none 0 0] 66)).alloc (.cells #[.int .i64 0] 3)).alloc (.cells #[.int .i64 0] 33)) (.cells #[.string s, .int .i64 0, .slice none 0 0] 102)
    have z0 : ((((w.alloc (.cells #[.slice none 0 0] 66)).alloc (.cells #[.int .i64 0] 3)).alloc (.cells #[.int .i64 0] 33)).alloc (.cells #[.string s, .int .i64 0, .slice none 0 0] 102)).heap.size = w.heap.size + 4 := by simp
    simp only [World.size_alloc] at b2 b3 b4
    generalize ((((w.alloc (.cells #[.slice none 0 0] 66)).alloc (.cells #[.int .i64 0] 3)).alloc (.cells #[.int .i64 0] 33)).alloc (.cells #[.string s, .int .i64 0, .slice none 0 0] 102)) = W0 at *
    obtain ⟨B, hB⟩ : ∃ B, B = w.heap.size := ⟨_, rfl⟩
    rw [← hB] at b0 b1 b2 b3 b4 z0 s1 s2 ⊢
    have B0 := Lib.hid b0
    have B1 := Lib.hid b1
    have B2 := Lib.hid b2
    have B3 := Lib.hid b3
    have BL : Hid (Lexer (B + 3) s 0 (.slice none 0 0) W0) := b4
    have z1 : B + 4 ≤ W0.heap.size := by omega
    have HW := Lib.hid hB
    clear b0 b1 b2 b3 b4 z0 hB
    go_loopg [13] (s.size + 1) (fun k _ wr => ∃ p v l, Hid (R = toks s.data.toList k p l) ∧ p ≤ s.size ∧ s.size < k + p ∧ l.length ≤ p ∧ Hid (Lexer (B + 3) s p v wr) ∧ Hid (Toks (B + 3) v l wr) ∧ Hid (Below (B + 3) W0 wr))
    case atStart => exact ⟨0, _, [], HE, by omega, by omega, by simp, BL.out, World.ownsRow_nil _ _ _ _, Below.refl _ _⟩
    case round =>
      obtain ⟨p, v, l, hE, hp, hk, hl, hL, hT, hC⟩ := hrel
      obtain ⟨ad, nn, cp, rfl⟩ := hT.out.form
      have c0 := hL.out.c0
      have c1 := hL.out.c1
      have c2 := hL.out.c2
      have q1 := blk_below hC.out B1.out (by omega)
      have q2 := blk_below hC.out B2.out (by omega)
      have q3 := blk_below hC.out B3.out (by omega)
      have r1 := cell_of_one q1
      have r2 := cell_of_one q2
      have r3 := cell_of_one q3
      have g1 := free_of_one q1
      have g2 := free_of_one q2
      have g3 := free_of_one q3
      have Q1 := Lib.hid q1
      have Q2 := Lib.hid q2
      have Q3 := Lib.hid q3
      clear q1 q2 q3
      by_cases hlt : p < s.size
      · obtain ⟨k, rfl⟩ : ∃ m, gk = m + 1 := ⟨gk - 1, by omega⟩
        have G1 : Hid (Glob wr) := HG.out.chg (F := fun k => B ≤ k) ⟨hC.out.os.trans B0.out.os, hC.out.tape.trans B0.out.tape, hC.out.output.trans B0.out.output, Nat.le_trans B0.out.size hC.out.size, fun k hk hf => (hC.out.block k (by omega)).trans (B0.out.block k (by omega))⟩ (by omega) (by omega)
        have S1 : B + 3 + 1 ≤ wr.heap.size := Nat.le_trans z1 hC.out.size
        go_wp2_with fail
        refine (next_calls s p (B + 3) _ l _ hs hlt hL.out hT.out (by omega) G1.out (by omega) (by omega) S1).mono ?_
        rintro e w1 h1
        rcases hn : nextR s.data.toList p with ⟨x, n⟩ | ⟨t, q⟩
        · rw [hn] at h1
          obtain ⟨rfl, hb⟩ := h1
          have HX : Hid (R = .error (x, n)) := by rw [hE.out]; exact toks_err (by rw [len_is]; exact hlt) hn
          go_wp2_with fail
          have D1 := blk_below hb Q1.out (by omega)
          have D2 := blk_below hb Q2.out (by omega)
          have D3 := blk_below hb Q3.out (by omega)
          refine leaves_cons (f := 71) (args := #[.pointer (some ⟨B, 0, none⟩), .pointer (some ⟨B + 1, 0, none⟩), .pointer (some ⟨B + 2, 0, none⟩)]) (by simp) (by simp [go_sem]) ?_
          refine (catch_fault B _ _ _ x n _ (cell_of_one D1) (cell_of_one D2) (cell_of_one D3) (free_of_one D1) (free_of_one D2) (free_of_one D3)).mono ?_
          rintro e u' w2 ⟨rfl, rfl, t1, t2, t3, t4⟩
          rw [HR.out, HX.out]
          have fin : Below w.heap.size w w2 := by
            rw [← HW.out]
            exact ((B0.out.trans (hC.out.mono (by omega))).trans (hb.mono (by omega))).trans t4
          simp [Leaves, settle, results, Tryz.results47, go_sem, SrcEnds, fin, t1, t2, t3]
        · rw [hn] at h1
          obtain ⟨rfl, ⟨v', hL', hT'⟩, hb⟩ := h1
          have HX : Hid (R = toks s.data.toList k q (l ++ t)) := by rw [hE.out]; exact toks_step (by rw [len_is]; exact hlt) hn
          have hq := next_lt (by rw [len_is]; exact hlt) hn
          rw [len_is] at hq
          have HL := Lib.hid hL'
          have HT := Lib.hid hT'
          have HC := Lib.hid (hC.out.trans hb)
          clear hn hL' hT' hb r1 r2 r3 g1 g2 g3 c0 c1 c2
          go_wp2_with fail
          go_roundg k
          case measure => omega
          case rel => exact ⟨q, v', l ++ t, HX, by omega, by omega, by simp; omega, HL, HT, HC⟩
      · have HX : Hid (R = .ok l) := by rw [hE.out]; exact toks_end (by rw [len_is]; exact hlt)
        go_wp2_with fail
        refine leaves_cons (f := 71) (args := #[.pointer (some ⟨B, 0, none⟩), .pointer (some ⟨B + 1, 0, none⟩), .pointer (some ⟨B + 2, 0, none⟩)]) (by simp) (by simp [go_sem]) ?_
        refine (catch_idle B _).mono ?_
        rintro e u' w2 ⟨rfl, rfl, rfl⟩
        rw [HR.out, HX.out]
        simp [Leaves, settle, results, Tryz.results47, go_sem, SrcEnds, r1, r2, r3]
        have o1 := ownsRow_setCell_below (ownsRow_setCell_below (ownsRow_setCell_below hT.out (a := ⟨B, 0, none⟩) (show B < B + 3 + 1 by omega) (.slice ad nn cp)) (a := ⟨B + 1, 0, none⟩) (show B + 1 < B + 3 + 1 by omega) (.int .i64 0)) (a := ⟨B + 2, 0, none⟩) (show B + 2 < B + 3 + 1 by omega) (.int .i64 0)
        have fin : Below B w _ := ((((B0.out.trans (hC.out.mono (by omega))).setCell (p := ⟨B, 0, none⟩) (Nat.le_refl _) (.slice ad nn cp)).setCell (p := ⟨B + 1, 0, none⟩) (Nat.le_succ _) (.int .i64 0)).setCell (p := ⟨B + 2, 0, none⟩) (show B ≤ B + 2 by omega) (.int .i64 0))
        rw [← HW.out]
        exact ⟨⟨owns_mono o1 (by omega), by omega⟩, fin⟩
end Go.Proofs.YtaklmocjaokkpaaGreatDoor.Lx
