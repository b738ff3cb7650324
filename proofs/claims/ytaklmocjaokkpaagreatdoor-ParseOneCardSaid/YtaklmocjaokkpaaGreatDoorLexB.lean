/- The lexer's method text, walked. Conditions: the lexer's block is known, and its tokens; the two errors of strconv hold interface values. · The reference's Number: its letters, and its walk. No condition. · The reference's Number, walked: for every int64 its letters. · The lexer's function digits, walked: is a word a number's? No condition but a string's size. · The lexer's method word, walked. Conditions: the lexer's block is known, and its tokens; the two errors of strconv hold interface values. -/
import Derived.Test.YtaklmocjaokkpaaGreatDoorLexA
import Derived.Lib.BufferRead
import Derived.Deep.LoopGhost
import Derived.Laws.IdiomStrings
import Derived.Deep.RegionLaw
import Derived.BigRegion
import Derived.Deep.RegionWith
import Derived.Shelf.Strings.SlTrimAscii
namespace Go.Proofs.YtaklmocjaokkpaaGreatDoor.Lx
open Go.RowKit Go.Proofs.YtaklmocjaokkpaaGreatDoor.Mem

theorem infoB : (Tryz.prog.info? 5).map (fun i => (i.zero, i.size, i.bytes)) = some (some (.int .u8 0), 1, 1) := by kernel_rfl
theorem infoT : (Tryz.prog.info? 104).map (fun i => (i.zero, i.size, i.bytes)) = some (some (.agg #[.int .u8 0, .string ⟨#[]⟩, .int .i64 0, .int .i64 0]), 4, 40) := by kernel_rfl

def OutRow (base : Nat) (v : Value) (l : List UInt8) (w : World) : Prop := w.ownsRow base 5 1 v l.length (l.map fun c => .int .u8 c.toNat)
def tokCells (t : Tok) : List Value := [.int .u8 t.kind, .string ⟨t.s.toArray⟩, .int .i64 t.n, .int .i64 t.at_]
/-- The tokens that the lexer has. -/
def Toks (b : Nat) (v : Value) (l : List Tok) (w : World) : Prop := w.ownsRow (b + 1) 104 4 v l.length (l.flatMap tokCells)

theorem OutRow.conv {base : Nat} {v : Value} {l : List UInt8} {w : World} (h : OutRow base v l w) : (convert 50 9 v).run Tryz.prog w = .ok (.string ⟨l.toArray⟩) w := by
  have hc := h
  obtain ⟨h1, h2⟩ := h
  rcases h2 with ⟨rfl, h0⟩ | ⟨g, cap, cur, rfl, hb, hg, r⟩
  · obtain rfl : l = [] := List.length_eq_zero_iff.1 h0
    exact Lib.run_convert_nil_bytes w _ _ 5 0 Tryz.underlying50 Tryz.underlying5 Tryz.underlying9
  · refine run_convert_bytes_back w _ _ 5 _ cap l Tryz.underlying50 Tryz.underlying5 Tryz.underlying9 ?_
    intro j hj
    have := World.ownsRow.cells hc (g := g) rfl j (.int .u8 (l[j].toNat : Int)) (by simp [hj])
    exact this

theorem Toks.lt {b : Nat} {v : Value} {l : List Tok} {w : World} (h : Toks b v l w) (k : Nat) (hk : v.ownBlock = some k) : b < k ∧ k < w.heap.size := World.ownsRow.lt h k hk
theorem Toks.chg {b : Nat} {v : Value} {l : List Tok} {w w' : World} (h : Toks b v l w) (hc : Chg (· = b) w w') : Toks b v l w' :=
  hc.owns h (fun k hk e => by have := (h.lt k hk).1; omega)
theorem OutRow.chg {base : Nat} {v : Value} {l : List UInt8} {F : Nat → Prop} {w w' : World} (h : OutRow base v l w) (hc : Chg F w w') (hf : ∀ k, base ≤ k → ¬ F k) : OutRow base v l w' :=
  hc.owns h (fun k hk => hf k (World.ownsRow.lt h k hk).1)

theorem cell_ad {w : World} {a : Addr} {v : Value} (o : Obj) (h : w.cell? a = some v) : (w.alloc o).drew.cell? a = some v :=
  (World.cell?_of_block (w := w) (w' := (w.alloc o).drew) (Below.heap_alloc _ _ _ (World.block_lt_of_cell? w _ h))).trans h
theorem frozen_ad {w : World} {a : Addr} {v : Value} (o : Obj) (h : w.cell? a = some v) (hf : w.frozen? a = false) : (w.alloc o).drew.frozen? a = false :=
  (World.frozen?_of_block (w := w) (w' := (w.alloc o).drew) (Below.heap_alloc _ _ _ (World.block_lt_of_cell? w _ h))).trans hf
theorem grown_frozen {w w' : World} {row : Option Nat} (hg : w.grownBy w' row) {a : Addr} {v : Value} (h : w.cell? a = some v) (hf : w.frozen? a = false) (hne : some a.block ≠ row) : w'.frozen? a = false :=
  (hg.frozen_far a (World.block_lt_of_cell? w _ h) hne).trans hf
theorem ownsRow_ad {w : World} {base : Nat} {e : TypeId} {size : Nat} {v : Value} {n : Nat} {xs : List Value} (h : w.ownsRow base e size v n xs) (o : Obj) : (w.alloc o).drew.ownsRow base e size v n xs := World.ownsRow.alloc h o
theorem new_ad (w : World) (o : Obj) (B : Nat) (h : w.heap.size = B) : (w.alloc o).drew.heap[B]? = some o := by
  subst h
  exact blk_new w o
theorem OutRow.ad {base : Nat} {v : Value} {l : List UInt8} {w : World} (h : OutRow base v l w) (o : Obj) : OutRow base v l (w.alloc o).drew := World.ownsRow.alloc h o
theorem OutRow.grown {base : Nat} {v : Value} {l : List UInt8} {w w' : World} {row : Option Nat} (h : OutRow base v l w) (hg : w.grownBy w' row) (hr : ∀ k, row = some k → k < base) : OutRow base v l w' :=
  World.ownsRow.kept h hg (by
    rcases hv : v.ownBlock with _ | k
    · exact .inl rfl
    · exact .inr (fun e => by have := (World.ownsRow.lt h k hv).1; have := hr k e.symm; omega))
theorem text_q {s : List UInt8} {k p : Nat} {out : List UInt8} (h : s[p]? = some 34) : text s (k + 1) p out = .ok (out, p + 1) := by
  rw [text, h]; rfl
theorem text_b {s : List UInt8} {k p q : Nat} {out : List UInt8} {c : UInt8} (h : s[p]? = some 92) (he : esc s (p + 1) = .ok (c, q)) : text s (k + 1) p out = text s k q (out ++ [c]) := by
  rw [text, h]; simp only [he]; rfl
theorem text_be {s : List UInt8} {k p : Nat} {out : List UInt8} {x : Nat × Nat} (h : s[p]? = some 92) (he : esc s (p + 1) = .error x) : text s (k + 1) p out = .error x := by
  rw [text, h]; simp only [he]; rfl
theorem text_c {s : List UInt8} {k p : Nat} {out : List UInt8} {c : UInt8} (h : s[p]? = some c) (h1 : ¬ c = 34) (h2 : ¬ c = 92) : text s (k + 1) p out = text s k (p + 1) (out ++ [c]) := by
  rw [text, h]; simp only [if_neg h1, if_neg h2]
theorem text_none {s : List UInt8} {k p : Nat} {out : List UInt8} (h : s[p]? = none) : text s k p out = .error (s.length, 11) := by
  cases k with
  | zero => rfl
  | succ k => rw [text, h]

theorem esc_lt {s : List UInt8} {p q : Nat} {c : UInt8} (h : esc s p = .ok (c, q)) : p < q ∧ q ≤ s.length := by
  unfold esc at h
  rcases hc : s[p]? with _ | a
  · rw [hc] at h; cases h
  · have hp : p < s.length := by
      rcases Nat.lt_or_ge p s.length with h1 | h1
      · exact h1
      · rw [List.getElem?_eq_none h1] at hc; cases hc
    rw [hc] at h
    simp only [] at h
    split at h
    · cases h; omega
    · split at h
      · cases h; omega
      · split at h
        · rcases hx : hexAt s (p + 1) with x | x
          · rw [hx] at h; cases h
          · rw [hx] at h
            simp only [] at h
            rcases hy : hexAt s (p + 2) with y | y
            · rw [hy] at h; cases h
            · rw [hy] at h
              have := (hexAt_lt hy).1
              cases h; omega
        · cases h

theorem escaped_ok (s : ByteArray) (i b : Nat) (v : Value) (w : World) (hs : s.size ≤ 65536) (hi : i ≤ s.size) (hL : Lexer b s i v w) (hg : Glob w) (hb1 : 4 ≠ b) (hb2 : 5 ≠ b) (c : UInt8) (q : Nat) (h : esc s.data.toList i = .ok (c, q)) :
    Calls Tryz.prog 113 #[.pointer (some ⟨b, 0, none⟩)] w fun e w' => e = .returned (.int .u8 c.toNat) ∧ Lexer b s q v w' ∧ Chg (· = b) w w' := by
  have := escaped_calls s i b v w hs hi hL hg hb1 hb2
  unfold escR at this
  rw [h] at this
  exact this
theorem escaped_err (s : ByteArray) (i b : Nat) (v : Value) (w : World) (hs : s.size ≤ 65536) (hi : i ≤ s.size) (hL : Lexer b s i v w) (hg : Glob w) (hb1 : 4 ≠ b) (hb2 : 5 ≠ b) (p n : Nat) (h : esc s.data.toList i = .error (p, n)) :
    Calls Tryz.prog 113 #[.pointer (some ⟨b, 0, none⟩)] w fun e w' => e = .panicked (fault p n) ∧ Chg (· = b) w w' := by
  have := escaped_calls s i b v w hs hi hL hg hb1 hb2
  unfold escR at this
  rw [h] at this
  exact this

theorem push_byte {b j : Nat} {s : ByteArray} {v vo : Value} {toks : List Tok} {out : List UInt8} {w W w1 : World} {o : Obj} (hB : b + 1 ≤ w.heap.size) (T : Toks b v toks w) (K0 : Chg (· = b) w W) (L0 : Lexer b s j v W) (T0 : Toks b v toks W) (O0 : OutRow w.heap.size vo out W)
    (hg : (W.alloc o).grownBy w1 vo.ownBlock) : Lexer b s j v w1 ∧ Toks b v toks w1 ∧ Chg (· = b) w w1 := by
  have h1 : ∀ k, vo.ownBlock = some k → w.heap.size ≤ k := fun k hk => (World.ownsRow.lt O0 k hk).1
  refine ⟨blk_grown hg (blk_alloc L0 o) (fun e => ?_), World.ownsRow.kept (World.ownsRow.alloc T0 o) hg ?_, (K0.alloc o).grown hg (fun k hk e => ?_)⟩
  · have := h1 b e.symm; omega
  · rcases hv : v.ownBlock with _ | k
    · exact .inl rfl
    · exact .inr (fun e => by have := (T.lt k hv).2; have := h1 k e.symm; omega)
  · have := h1 k e; omega

theorem push_end {b j gg cap : Nat} {s : ByteArray} {v : Value} {toks : List Tok} {t : Tok} {w W w1 : World} {o : Obj} (K0 : Chg (b ≤ ·) w W) (L0 : Lexer b s j v W) (T0 : Toks b v toks W) (hg : (W.alloc o).drew.grownBy w1 v.ownBlock)
    (ho : w1.ownsRow (b + 1) 104 4 (.slice (some ⟨gg, 0, none⟩) (toks.length + 1) cap) (toks.length + 1) (toks.flatMap tokCells ++ tokCells t)) :
    Lexer b s j (.slice (some ⟨gg, 0, none⟩) (toks.length + 1) cap) (w1.setCell ⟨b, 2, none⟩ (.slice (some ⟨gg, 0, none⟩) (toks.length + 1) cap)) ∧
      Toks b (.slice (some ⟨gg, 0, none⟩) (toks.length + 1) cap) (toks ++ [t]) (w1.setCell ⟨b, 2, none⟩ (.slice (some ⟨gg, 0, none⟩) (toks.length + 1) cap)) ∧
      Chg (b ≤ ·) w (w1.setCell ⟨b, 2, none⟩ (.slice (some ⟨gg, 0, none⟩) (toks.length + 1) cap)) := by
  have k1 : Chg (b ≤ ·) w w1 := ((K0.alloc o).drew).grown hg (fun k _ e => Nat.le_of_lt (T0.lt k e).1)
  have ll : Lexer b s j v w1 := by
    refine blk_grown hg (show (W.alloc o).drew.heap[b]? = _ from blk_alloc L0 o) (fun e => ?_)
    have := (T0.lt b e.symm).1; omega
  refine ⟨ll.set2, ?_, k1.set (fun _ => Nat.le_refl _) _⟩
  have := ownsRow_setCell_below ho (a := ⟨b, 2, none⟩) (Nat.lt_succ_self b) (.slice (some ⟨gg, 0, none⟩) (toks.length + 1) cap)
  unfold Toks
  rw [List.length_append, List.flatMap_append]
  simpa using this

/-- How text, word end. -/
def TokEnds (b : Nat) (s : ByteArray) (toks : List Tok) (w : World) (r : Except (Nat × Nat) (List Tok × Nat)) (e : Ending) (w' : World) : Prop :=
  match r with
  | .ok (l, q) => e = .returned (.tuple #[]) ∧ (∃ v', Lexer b s q v' w' ∧ Toks b v' (toks ++ l) w') ∧ Below b w w'
  | .error (p, n) => e = .panicked (fault p n) ∧ Below b w w'

def textR (s : List UInt8) (p : Nat) : Except (Nat × Nat) (List Tok × Nat) := match text s (s.length + 1) (p + 1) [] with | .ok (out, q) => .ok ([⟨5, out, 0, p⟩], q) | .error x => .error x

set_option maxRecDepth 100000 in
set_option maxHeartbeats 4000000 in
theorem text_calls (s : ByteArray) (i b : Nat) (v : Value) (toks : List Tok) (w : World) (hs : s.size ≤ 65536) (hi : i < s.size) (hL : Lexer b s i v w) (hT : Toks b v toks w) (hn : toks.length ≤ 70000) (hg : Glob w) (hb1 : 4 ≠ b) (hb2 : 5 ≠ b) (hbb : b + 1 ≤ w.heap.size) :
    Calls Tryz.prog 93 #[.pointer (some ⟨b, 0, none⟩)] w (TokEnds b s toks w (textR s.data.toList i)) := by
  obtain ⟨iB, hi0, hz0, hz1, hz2⟩ := info_parts infoB
  obtain ⟨iT, hj0, hy0, hy1, hy2⟩ := info_parts infoT
  have HB := Lib.hid (And.intro hb1 hb2)
  clear hb1 hb2
  have c1 := hL.c1
  have f1 := hL.f 1
  have HL := Lib.hid hL
  have HT := Lib.hid hT
  have HG := Lib.hid hg
  clear hL hT hg
  have HR : Hid (textR s.data.toList i = match text s.data.toList (s.size + 1) (i + 1) [] with | .ok (out, q) => .ok ([⟨5, out, 0, i⟩], q) | .error x => .error x) := by
    unfold textR; rw [len_is]; rfl
  obtain ⟨r, hr⟩ : ∃ r, r = text s.data.toList (s.size + 1) (i + 1) [] := ⟨_, rfl⟩
  rw [← hr] at HR
  have HE := Lib.hid hr
  clear hr
  go_enter Tryz.func93, Tryz.ntmps93
  go_wp2_with fail
  go_loopg [3] (s.size + 1) (fun k vo wr => ∃ p out x, x = vo ∧ Hid (r = text s.data.toList k p out) ∧ p ≤ s.size ∧ s.size < k + p ∧ Hid (OutRow w.heap.size vo out wr) ∧ out.length ≤ p ∧ Hid (Lexer b s p v wr) ∧ Hid (Toks b v toks wr) ∧ Hid (Chg (· = b) w wr))
  case atStart =>
    exact ⟨i + 1, [], _, rfl, HE, by omega, by omega, World.ownsRow_nil _ _ _ _, by simp, HL.out.set1 (by omega), HT.out.chg (Chg.set (F := (· = b)) (Chg.refl _ w) (fun _ => rfl) _), Chg.set (F := (· = b)) (Chg.refl _ _) (fun _ => rfl) _⟩
  case round =>
    obtain ⟨p, out, vo, rfl, hE, hp, hk, hO, hol, hL, hT, hC⟩ := hrel
    have c0 := hL.out.c0
    have c1 := hL.out.c1
    have c2 := hL.out.c2
    have f1 := hL.out.f 1
    have f2 := hL.out.f 2
    by_cases hlt : p < s.size
    · have hat := at_get s p hlt
      obtain ⟨k, rfl⟩ : ∃ m, gk = m + 1 := ⟨gk - 1, by omega⟩
      obtain ⟨c, hc⟩ : ∃ c, s[p] = c := ⟨_, rfl⟩
      rw [hc] at hat
      have i0 : (0 : Int) ≤ (p : Int) := by omega
      have i1 : (p : Int) < (s.size : Int) := by omega
      have i2 : ¬ s.size ≤ p := by omega
      by_cases k1 : c = 34
      · have HX : Hid (r = .ok (out, p + 1)) := by rw [hE.out]; exact text_q (by rw [hat, k1])
        have n1 : 34 ≤ c.toNat ∧ c.toNat ≤ 34 := by subst k1; decide
        clear hat k1
        go_wp2_with fail
        go_quiet (fail)
        go_wp2_with fail
        go_quiet (fail)
        go_wp2_with fail
        have O1 := fun n => Lib.hid (OutRow.chg (F := (· = b)) hO.out (Chg.set (F := (· = b)) ((Chg.refl _ wr).drewN n) (fun _ => rfl) (Value.int .i64 ((p : Int) + 1)) (p := ⟨b, 1, none⟩)) (fun k h1 h2 => by omega))
        have T1 := fun n => Lib.hid (hT.out.chg (Chg.set (F := (· = b)) ((Chg.refl _ wr).drewN n) (fun _ => rfl) (Value.int .i64 ((p : Int) + 1)) (p := ⟨b, 1, none⟩)))
        have C2 := fun n => Lib.hid (Lexer.c2 (Lexer.set1 (w := wr.drewN n) hL.out (show (p : Int) + 1 = (p + 1 : Nat) by omega)))
        have F2 := fun n => Lib.hid (Lexer.f (Lexer.set1 (w := wr.drewN n) hL.out (show (p : Int) + 1 = (p + 1 : Nat) by omega)) 2)
        have F2d : ∀ n, ((wr.drewN n).setCell ⟨b, 1, none⟩ (.int .i64 ((p : Int) + 1))).drew.frozen? ⟨b, 2, none⟩ = false := fun n => (F2 n).out
        have C2d : ∀ n, ((wr.drewN n).setCell ⟨b, 1, none⟩ (.int .i64 ((p : Int) + 1))).drew.cell? ⟨b, 2, none⟩ = some v := fun n => (C2 n).out
        have O1d : ∀ n, (convert 50 9 vo).run Tryz.prog ((wr.drewN n).setCell ⟨b, 1, none⟩ (.int .i64 ((p : Int) + 1))).drew = .ok (.string ⟨out.toArray⟩) ((wr.drewN n).setCell ⟨b, 1, none⟩ (.int .i64 ((p : Int) + 1))).drew := fun n => OutRow.conv (by exact (O1 n).out)
        have HS : b + 1 ≤ wr.heap.size := Nat.le_trans hbb hC.out.size
        have NE : Hid (some b ≠ v.ownBlock) := fun h => by have := (hT.out.lt b h.symm).1; omega
        have NO : Hid (∀ k, v.ownBlock = some k → k < w.heap.size) := fun k h => (HT.out.lt k h).2
        have C2a : ∀ n o, (((wr.drewN n).setCell ⟨b, 1, none⟩ (.int .i64 ((p : Int) + 1))).alloc o).drew.cell? ⟨b, 2, none⟩ = some v := fun n o => cell_ad o (C2 n).out
        have O1a : ∀ n o, (convert 50 9 vo).run Tryz.prog (((wr.drewN n).setCell ⟨b, 1, none⟩ (.int .i64 ((p : Int) + 1))).alloc o).drew = .ok (.string ⟨out.toArray⟩) (((wr.drewN n).setCell ⟨b, 1, none⟩ (.int .i64 ((p : Int) + 1))).alloc o).drew := fun n o => ((O1 n).out.ad o).conv
        go_region_law ((refine step_append_lies _ (by rfl) _ _ _ (by rfl) (b + 1) 104 iT _ 4 40 Tryz.underlying66 hj0 hy0 hy1 hy2 rfl (by omega) v toks.length (toks.flatMap tokCells) (by rfl) (by exact ownsRow_ad (T1 _).out _) ⟨wr.heap.size, 0, none⟩ 1 1 (tokCells ⟨5, out, 0, i⟩) (by rfl) (by rfl) (by exact World.news_of_block (new_ad _ _ _ (by simp [World.setCell]))) (by simp [Value.oneCell', tokCells]) (by omega) (by unfold maxLen; omega) (by omega) (by simp [World.setCell]; omega) _ (by rfl) ?_; intro gg cap w1 hown1 hgrow hat hlt; have q2 := hgrow.cell (cell_ad _ (C2 _).out) NE.out; have q3 := grown_frozen hgrow (cell_ad _ (C2 _).out) (frozen_ad _ (C2 _).out (F2 _).out) NE.out))
        all_goals
          go_wp2_with fail
          refine bodyPost_ret (results_none rfl _ _ _) rfl ?_
          rw [HR.out, HX.out]
          obtain ⟨e1, e2, e3⟩ := push_end (w := w) (t := ⟨5, out, 0, i⟩) (Chg.set (p := ⟨b, 1, none⟩) ((hC.out.mono (fun j _ h => Nat.le_of_eq h.symm)).drewN _) (fun _ => Nat.le_refl _) _) (Lexer.set1 (w := wr.drewN _) hL.out (show (p : Int) + 1 = (p + 1 : Nat) by omega)) (T1 _).out hgrow hown1
          exact ⟨rfl, ⟨_, e1, e2⟩, e3.toBelow (by omega) (fun k _ h => h)⟩
      · by_cases k2 : c = 92
        · have n1 : 92 ≤ c.toNat ∧ c.toNat ≤ 92 := by subst k2; decide
          rw [k2] at hat
          have KW := fun n => Lib.hid (Chg.set (F := (· = b)) ((Chg.refl _ wr).drewN n) (fun _ => rfl) (Value.int .i64 ((p : Int) + 1)) (p := ⟨b, 1, none⟩))
          have LW := fun n => Lib.hid (Lexer.set1 (w := wr.drewN n) hL.out (show (p : Int) + 1 = (p + 1 : Nat) by omega))
          have GW := fun n => Lib.hid (HG.out.chg (hC.out.trans (KW n).out) HB.out.1 HB.out.2)
          rcases he : esc s.data.toList (p + 1) with ⟨x, n⟩ | ⟨cb, q⟩
          · have HX : Hid (r = .error (x, n)) := by rw [hE.out]; exact text_be hat he
            have HQ := Lib.hid he
            clear hat k1 k2 he
            go_wp2_with fail
            go_quiet (fail)
            go_wp2_with fail
            go_quiet (fail)
            go_wp2_with fail
            refine (escaped_err s (p + 1) b v _ hs (by omega) (LW _).out (GW _).out HB.out.1 HB.out.2 x n HQ.out).mono ?_
            rintro e w1 ⟨rfl, h1⟩
            go_wp2_with fail
            rw [HR.out, HX.out]
            exact ⟨rfl, rfl, ((hC.out.trans (KW _).out).trans h1).toBelow (by omega) (fun k _ h => Nat.le_of_eq h.symm)⟩
          · have HX : Hid (r = text s.data.toList k q (out ++ [cb])) := by rw [hE.out]; exact text_b hat he
            have HQ := Lib.hid he
            have hq := esc_lt he
            rw [len_is] at hq
            clear hat k1 k2 he
            go_wp2_with fail
            go_quiet (fail)
            go_wp2_with fail
            go_quiet (fail)
            go_wp2_with fail
            refine (escaped_ok s (p + 1) b v _ hs (by omega) (LW _).out (GW _).out HB.out.1 HB.out.2 cb q HQ.out).mono ?_
            rintro e w1 ⟨rfl, h1, h2⟩
            have L1 := Lib.hid h1
            have K1 := Lib.hid ((hC.out.trans (KW _).out).trans h2)
            have T1 := Lib.hid (hT.out.chg ((KW _).out.trans h2))
            have O1 := Lib.hid (hO.out.chg ((KW _).out.trans h2) (fun k h1 h2 => by omega))
            clear h1 h2
            go_wp2_with (at_builtin; refine wpList_append_own _ rfl _ _ 50 rfl w.heap.size 5 iB (.int .u8 0) 1 1 Tryz.underlying50 hi0 hz0 hz1 hz2 rfl (by decide) _ _ _ rfl (World.ownsRow.alloc O1.out _) ⟨w1.heap.size, 0, none⟩ 1 1 [.int .u8 cb.toNat] rfl rfl ?d1 ?d2 ?d3 ?d4 ?d5 ?_)
            case d1 => exact World.news_of_block (blk_new _ _)
            case d2 => intro u hu; simp at hu; subst hu; rfl
            case d3 => unfold maxLen; omega
            case d4 => omega
            case d5 => have := K1.out.size; simp; omega
            intro v' w2 hown' hgrow _
            obtain ⟨g1, g2, g3⟩ := push_byte hbb HT.out K1.out L1.out T1.out O1.out hgrow
            have G1 := Lib.hid g1
            have G2 := Lib.hid g2
            have G3 := Lib.hid g3
            have G4 : Hid (OutRow w.heap.size v' (out ++ [cb]) w2) := by
              unfold OutRow
              rw [List.length_append, List.map_append]
              exact hown'
            clear g1 g2 g3 hown' hgrow
            go_wp2_with fail
            go_roundg k
            case measure => omega
            case rel => exact ⟨q, out ++ [cb], v', rfl, HX, by omega, by omega, G4, by simp; omega, G1, G2, G3⟩
        · have HX : Hid (r = text s.data.toList k (p + 1) (out ++ [c])) := by rw [hE.out]; exact text_c hat k1 k2
          have n1 : c.toNat ≠ 34 := fun h => k1 (UInt8.toNat_inj.1 h)
          have n2 : c.toNat ≠ 92 := fun h => k2 (UInt8.toNat_inj.1 h)
          have O1 := fun n => Lib.hid (OutRow.chg (F := (· = b)) hO.out (Chg.set (F := (· = b)) ((Chg.refl _ wr).drewN n) (fun _ => rfl) (Value.int .i64 ((p : Int) + 1)) (p := ⟨b, 1, none⟩)) (fun k h1 h2 => by omega))
          clear hat k1 k2
          go_wp2_with fail
          go_quiet (fail)
          go_wp2_with fail
          go_quiet (fail)
          go_wp2_with (at_builtin; refine wpList_append_own _ rfl _ _ 50 rfl w.heap.size 5 iB (.int .u8 0) 1 1 Tryz.underlying50 hi0 hz0 hz1 hz2 rfl (by decide) _ _ _ rfl (World.ownsRow.alloc (O1 _).out _) ⟨wr.heap.size, 0, none⟩ 1 1 [.int .u8 c.toNat] rfl rfl ?c1 ?c2 ?c3 ?c4 ?c5 ?_)
          case c1 => exact World.news_of_block (by rw [show wr.heap.size = ((wr.drewN _).setCell ⟨b, 1, none⟩ (.int .i64 ((p : Int) + 1))).heap.size by simp [World.setCell]]; exact blk_new _ _)
          case c2 => intro u hu; simp at hu; subst hu; rfl
          case c3 => unfold maxLen; omega
          case c4 => omega
          case c5 => have := hC.out.size; simp [World.setCell]; omega
          intro v' w1 hown' hgrow _
          obtain ⟨g1, g2, g3⟩ := push_byte hbb HT.out (Chg.set (p := ⟨b, 1, none⟩) (hC.out.drewN _) (fun _ => rfl) _) (Lexer.set1 (w := wr.drewN _) hL.out (show (p : Int) + 1 = (p + 1 : Nat) by omega)) (hT.out.chg (Chg.set (F := (· = b)) ((Chg.refl _ wr).drewN _) (fun _ => rfl) (Value.int .i64 ((p : Int) + 1)) (p := ⟨b, 1, none⟩))) (O1 _).out hgrow
          have G1 := Lib.hid g1
          have G2 := Lib.hid g2
          have G3 := Lib.hid g3
          have G4 : Hid (OutRow w.heap.size v' (out ++ [c]) w1) := by
            unfold OutRow
            rw [List.length_append, List.map_append]
            exact hown'
          clear g1 g2 g3 hown' hgrow
          go_wp2_with fail
          go_roundg k
          case measure => omega
          case rel => exact ⟨p + 1, out ++ [c], v', rfl, HX, by omega, by omega, G4, by simp; omega, G1, G2, G3⟩
    · have HX : Hid (r = .error (s.size, 11)) := by rw [hE.out, ← len_is]; exact text_none (at_none s p (by omega))
      have h2 : ¬ p < s.size := by omega
      go_wp2_with fail
      go_quiet (fail)
      go_wp2_with fail
      rw [HR.out, HX.out]
      exact ⟨rfl, rfl, (hC.out.drewN _).toBelow (by omega) (fun k _ h => by omega)⟩
end Go.Proofs.YtaklmocjaokkpaaGreatDoor.Lx
namespace Go.Proofs.YtaklmocjaokkpaaGreatDoor.Lx
set_option linter.unusedVariables false
set_option linter.unusedSimpArgs false
open Go.RowKit Go.Proofs.YtaklmocjaokkpaaGreatDoor.Mem

/-- A number's digits, from 0 on. -/
def digs (n : Nat) : List UInt8 := if n < 10 then [UInt8.ofNat (48 + n)] else digs (n / 10) ++ [UInt8.ofNat (48 + n % 10)]
termination_by n
/-- Any number's letters. -/
def numb (n : Int) : List UInt8 := if n < 0 then 45 :: digs n.natAbs else digs n.natAbs

theorem digs_len_pow : ∀ (k n : Nat), n < 10 ^ (k + 1) → (digs n).length ≤ k + 1 := by
  intro k
  induction k with
  | zero => intro n h; unfold digs; rw [if_pos (by omega)]; simp
  | succ k ih =>
    intro n h
    unfold digs
    split
    · simp
    · have := ih (n / 10) (by rw [Nat.pow_succ] at h; omega)
      simp; omega
theorem digs_len (n : Nat) (h : n < 18446744073709551616) : (digs n).length ≤ 100 := by
  have := digs_len_pow 20 n (by omega); omega
theorem str_app (l m : List UInt8) : (⟨l.toArray⟩ : ByteArray) ++ ⟨m.toArray⟩ = ⟨(l ++ m).toArray⟩ := by
  apply ByteArray.ext; simp
theorem conv_one (W : World) (x : Nat) (hx : x < 256) : (convert 50 9 (.slice (some ⟨W.heap.size, 0, none⟩) 1 1)).run Tryz.prog (W.alloc (.cells #[.int .u8 (x : Int)] 5)) = .ok (.string ⟨#[UInt8.ofNat x]⟩) (W.alloc (.cells #[.int .u8 (x : Int)] 5)) := by
  have h1 : (UInt8.ofNat x).toNat = x := by simp; omega
  have h2 : OutRow 0 (.slice (some ⟨W.heap.size, 0, none⟩) 1 1) [UInt8.ofNat x] (W.alloc (.cells #[.int .u8 (x : Int)] 5)) := by
    have := World.ownsRow_lit (base := 0) (e := 5) (size := 1) W #[.int .u8 (x : Int)] 1 (Nat.zero_le _) (by decide) rfl
    unfold OutRow
    simp only [List.length_singleton, List.map_cons, List.map_nil, h1]
    exact this
  exact h2.conv

theorem conv_later {W1 w1 : World} {b : Nat} (x : Nat) (hx : x < 256) (hblk : W1.heap[b]? = some (.cells #[.int .u8 (x : Int)] 5 (0, 0))) (hb : Below W1.heap.size W1 w1) :
    (convert 50 9 (.slice (some ⟨b, 0, none⟩) 1 1)).run Tryz.prog w1 = .ok (.string ⟨#[UInt8.ofNat x]⟩) w1 := by
  have h1 : (UInt8.ofNat x).toNat = x := by simp; omega
  have hl : b < W1.heap.size := by
    rcases Nat.lt_or_ge b W1.heap.size with h | h
    · exact h
    · rw [Array.getElem?_eq_none h] at hblk; cases hblk
  have h2 : OutRow 0 (.slice (some ⟨b, 0, none⟩) 1 1) [UInt8.ofNat x] w1 := by
    unfold OutRow
    simp only [List.length_singleton, List.map_cons, List.map_nil, h1]
    exact ⟨by simp, .inr ⟨b, 1, _, rfl, Nat.zero_le _, (hb.block b hl).trans hblk, Nat.le_refl _, by decide, rfl, rfl⟩⟩
  exact h2.conv

set_option maxRecDepth 100000 in
set_option maxHeartbeats 2000000 in
theorem rdigits_small (n : Nat) (w : World) (h : n < 10) :
    Calls Tryz.prog 69 #[.int .u64 (n : Int)] w fun e w' => e = .returned (.string ⟨(digs n).toArray⟩) ∧ Below w.heap.size w w' := by
  have h3 : (n : Int) < 10 := by omega
  have h4 : IntKind.u8.wrap (n : Int) = (n : Int) := by simp [IntKind.wrap, IntKind.signed, IntKind.bits]; omega
  have h5 : IntKind.u8.wrap (48 + (n : Int)) = 48 + (n : Int) := by simp [IntKind.wrap, IntKind.signed, IntKind.bits]; omega
  have hcv := fun W => conv_one W (48 + n) (by omega)
  rw [show ((48 + n : Nat) : Int) = 48 + (n : Int) by push_cast; rfl] at hcv
  have HD : digs n = [UInt8.ofNat (48 + n)] := by unfold digs; rw [if_pos h]
  obtain ⟨c, hc⟩ : ∃ c, UInt8.ofNat (48 + n) = c := ⟨_, rfl⟩
  rw [HD]
  simp only [hc] at hcv ⊢
  clear hc HD
  go_enter Tryz.func69, Tryz.ntmps69
  go_wp2_with fail
  go_ret
  exact ⟨rfl, (Below.refl _ _).alloc (Nat.le_refl _) _⟩

set_option maxRecDepth 100000 in
set_option maxHeartbeats 2000000 in
theorem rdigits_calls : ∀ (k n : Nat) (w : World), n < 10 ^ (k + 1) → n < 18446744073709551616 →
    Calls Tryz.prog 69 #[.int .u64 (n : Int)] w fun e w' => e = .returned (.string ⟨(digs n).toArray⟩) ∧ Below w.heap.size w w' := by
  intro k
  induction k with
  | zero => intro n w h h2; exact rdigits_small n w (by omega)
  | succ k ih =>
    intro n w h h2
    by_cases h3 : n < 10
    · exact rdigits_small n w h3
    · have h3' : ¬ (n : Int) < 10 := by omega
      have HD : digs n = digs (n / 10) ++ [UInt8.ofNat (48 + n % 10)] := by
        conv => lhs; unfold digs
        rw [if_neg h3]
      obtain ⟨x, hx⟩ : ∃ x, x = n / 10 := ⟨_, rfl⟩
      obtain ⟨y, hy⟩ : ∃ y, y = n % 10 := ⟨_, rfl⟩
      rw [← hx, ← hy] at HD
      have q1 : IntKind.u64.wrap ((n : Int) / 10) = (x : Int) := by simp [IntKind.wrap, IntKind.signed, IntKind.bits]; omega
      have q2 : (n : Int).tmod 10 = (y : Int) := by rw [Int.tmod_eq_emod_of_nonneg (by omega)]; omega
      have q3 : IntKind.u8.wrap (y : Int) = (y : Int) := by simp [IntKind.wrap, IntKind.signed, IntKind.bits]; omega
      have q4 : IntKind.u8.wrap (48 + (y : Int)) = 48 + (y : Int) := by simp [IntKind.wrap, IntKind.signed, IntKind.bits]; omega
      have hcv := fun W => conv_one W (48 + y) (by omega)
      rw [show ((48 + y : Nat) : Int) = 48 + (y : Int) by push_cast; rfl] at hcv
      have hcl := fun (W1 w1 : World) (b : Nat) => @conv_later W1 w1 b (48 + y) (by omega)
      rw [show ((48 + y : Nat) : Int) = 48 + (y : Int) by push_cast; rfl] at hcl
      obtain ⟨c, hc⟩ : ∃ c, UInt8.ofNat (48 + y) = c := ⟨_, rfl⟩
      simp only [hc] at hcv hcl HD
      have HDD := Lib.hid HD
      clear HD
      have HCL := Lib.hid hcl
      have hcd : ∀ W : World, (convert 50 9 (.slice (some ⟨W.heap.size, 0, none⟩) 1 1)).run Tryz.prog (W.alloc (.cells #[.int .u8 (48 + (y : Int))] 5)).drew = .ok (.string ⟨#[c]⟩) (W.alloc (.cells #[.int .u8 (48 + (y : Int))] 5)).drew := fun W => hcv W.drew
      clear hc hcl
      have IH := fun w => Lib.hid (ih x w (by rw [Nat.pow_succ] at h; omega) (by omega))
      have hxl : (digs x).length ≤ 100 := digs_len x (by omega)
      clear ih hx hy
      go_enter Tryz.func69, Tryz.ntmps69
      go_wp2_with fail
      go_region_with (go_at_call 69; refine (IH _).out.mono ?_; rintro e w1 ⟨rfl, hb1⟩; try (have hcw := HCL.out _ _ _ (new_ad _ _ _ rfl) hb1); try (have hcw := HCL.out _ _ _ (blk_new _ _) hb1))
      all_goals try go_wp2_with fail
      all_goals
        go_ret
        rw [HDD.out]
        refine ⟨congrArg (fun b => Ending.returned (Value.string b)) (str_app (digs x) [c]), ?_⟩
        clear HDD HCL hcd hcv IH
        have z : w.heap.size ≤ w.heap.size := Nat.le_refl _
        first
          | exact (((Below.refl _ w).alloc z _).drew).trans (hb1.mono (by simp))
          | exact ((Below.refl _ w).drew.alloc z _).trans (hb1.mono (by simp))
          | exact ((Below.refl _ w).drew.trans hb1).alloc hb1.size _
          | exact (((Below.refl _ w).drew.trans hb1).alloc hb1.size _).drew
end Go.Proofs.YtaklmocjaokkpaaGreatDoor.Lx
namespace Go.Proofs.YtaklmocjaokkpaaGreatDoor.Lx
set_option linter.unusedVariables false
set_option linter.unusedSimpArgs false
open Go.RowKit Go.Proofs.YtaklmocjaokkpaaGreatDoor.Mem

set_option maxRecDepth 100000 in
set_option maxHeartbeats 2000000 in
theorem numb_calls (n : Int) (w : World) (h1 : -9223372036854775808 ≤ n) (h2 : n ≤ 9223372036854775807) :
    Calls Tryz.prog 37 #[.int .i64 n] w fun e w' => e = .returned (.string ⟨(numb n).toArray⟩) ∧ Below w.heap.size w w' := by
  obtain ⟨m, hm⟩ : ∃ m, m = n.natAbs := ⟨_, rfl⟩
  have H := Lib.hid (fun w => rdigits_calls 20 m w (by omega) (by omega))
  by_cases hn : n < 0
  · have q1 : IntKind.i64.wrap (n + 1) = n + 1 := by simp [IntKind.wrap, IntKind.signed, IntKind.bits]; omega
    have q2 : IntKind.i64.wrap (-(n + 1)) = -(n + 1) := by simp [IntKind.wrap, IntKind.signed, IntKind.bits]; omega
    have q3 : IntKind.u64.wrap (-(n + 1)) = -(n + 1) := by simp [IntKind.wrap, IntKind.signed, IntKind.bits]; omega
    have q4 : IntKind.u64.wrap (-(n + 1) + 1) = (m : Int) := by simp [IntKind.wrap, IntKind.signed, IntKind.bits]; omega
    have HN : Hid (numb n = 45 :: digs m) := Lib.hid (by unfold numb; rw [if_pos hn, hm])
    have hl : (digs m).length ≤ 100 := digs_len m (by omega)
    clear hm
    go_enter Tryz.func37, Tryz.ntmps37
    go_wp2_with fail
    refine (H.out _).mono ?_
    rintro e w1 ⟨rfl, hb⟩
    have HB := Lib.hid hb
    clear hb
    go_wp2_with fail
    go_ret
    rw [HN.out]
    exact ⟨congrArg (fun b => Ending.returned (Value.string b)) (str_app [45] (digs m)), HB.out⟩
  · have q3 : IntKind.u64.wrap n = (m : Int) := by simp [IntKind.wrap, IntKind.signed, IntKind.bits]; omega
    have HN : Hid (numb n = digs m) := Lib.hid (by unfold numb; rw [if_neg hn, hm])
    clear hm
    go_enter Tryz.func37, Tryz.ntmps37
    go_wp2_with fail
    refine (H.out _).mono ?_
    rintro e w1 ⟨rfl, hb⟩
    have HB := Lib.hid hb
    clear hb
    go_wp2_with fail
    go_ret
    rw [HN.out]
    exact ⟨rfl, HB.out⟩
end Go.Proofs.YtaklmocjaokkpaaGreatDoor.Lx
namespace Go.Proofs.YtaklmocjaokkpaaGreatDoor.Lx
open Go.RowKit Go.Proofs.YtaklmocjaokkpaaGreatDoor.Mem

theorem dropWhile_nil {p : UInt8 → Bool} {l : List UInt8} : l.dropWhile p = [] ↔ l.all p = true := by
  induction l with
  | nil => simp
  | cons a l ih =>
    rw [List.dropWhile_cons]
    cases h : p a with
    | true => simp [h, ih]
    | false => simp [h]
theorem trim_all (l cs : List UInt8) : (Lib.trimS l cs).isEmpty = l.all (cs.contains ·) := by
  have h : Lib.trimS l cs = [] ↔ l.all (cs.contains ·) = true := by
    unfold Lib.trimS Lib.trimLeftS Lib.trimRightS
    rw [dropWhile_nil, List.all_reverse]
    constructor
    · intro h
      rcases hd : l.reverse.dropWhile (cs.contains ·) with _ | ⟨a, r⟩
      · have := dropWhile_nil.1 hd
        rwa [List.all_reverse] at this
      · have h2 : (l.reverse.dropWhile (cs.contains ·)).head? = some a := by rw [hd]; rfl
        have h3 := List.head?_dropWhile_not (fun x => cs.contains x) l.reverse
        rw [h2] at h3
        rw [hd] at h
        simp at h h3
        exact absurd h.1 h3
    · intro h
      have := (dropWhile_nil (l := l.reverse) (p := (cs.contains ·))).2 (by rwa [List.all_reverse])
      rw [this]; rfl
  cases h2 : l.all (cs.contains ·) with
  | true => rw [h.2 h2]; rfl
  | false =>
    cases h3 : Lib.trimS l cs with
    | nil => rw [h.1 h3] at h2; cases h2
    | cons a r => rfl
theorem digit_set (c : UInt8) : ([48, 49, 50, 51, 52, 53, 54, 55, 56, 57] : List UInt8).contains c = isDigit c := by
  have : ∀ n : Fin 256, ([48, 49, 50, 51, 52, 53, 54, 55, 56, 57] : List UInt8).contains (UInt8.ofNat n.val) = isDigit (UInt8.ofNat n.val) := by decide +kernel
  have h := this ⟨c.toNat, c.toNat_lt⟩
  simpa using h
theorem prefix_minus (l : List UInt8) : Lib.trimPrefix l [45] = if l.head? = some 45 then l.tail else l := by
  unfold Lib.trimPrefix Lib.hasPrefix
  cases l with
  | nil => rfl
  | cons a r =>
    by_cases h : a = 45
    · subst h; simp [List.isPrefixOf]
    · simp [List.isPrefixOf, h, Ne.symm h]

set_option maxHeartbeats 1000000 in
theorem digits_calls (s : ByteArray) (w : World) (hs : s.size ≤ 65536) :
    Calls Tryz.prog 115 #[.string s] w fun e w' => e = .returned (.bool (isNum s.data.toList)) ∧ Below w.heap.size w w' := by
  obtain ⟨d, hd⟩ : ∃ d, d = Lib.trimPrefix s.data.toList [45] := ⟨_, rfl⟩
  have H1 : Hid (Calls Tryz.prog 127 #[.string s, .string ⟨#[45]⟩] w fun e w' => e = .returned (.string ⟨d.toArray⟩) ∧ w' = w) := by
    rw [hd]; exact Tryz.strings_TrimPrefix s ⟨#[45]⟩ w
  have hN : Hid (isNum s.data.toList = (!d.isEmpty && d.all isDigit)) := by
    rw [hd, prefix_minus]; rfl
  have hl : d.length ≤ s.size := by
    rw [hd, prefix_minus, ← len_is]
    split <;> simp
  have H2 : Hid (∀ w, Calls Tryz.prog 128 #[.string ⟨d.toArray⟩, .string ⟨#[48, 49, 50, 51, 52, 53, 54, 55, 56, 57]⟩] w fun e w' => e = .returned (.string ⟨(Lib.trimS d [48, 49, 50, 51, 52, 53, 54, 55, 56, 57]).toArray⟩) ∧ Below w.heap.size w w') := fun w => by
    have := Any.strings_Trim_laid Tryz.lays160 (by kernel_rfl) ⟨d.toArray⟩ ⟨#[48, 49, 50, 51, 52, 53, 54, 55, 56, 57]⟩ w (by show d.toArray.size ≤ _; simp; omega) (by decide) (ascii_of_all (by decide))
    exact this
  obtain ⟨t, ht⟩ : ∃ t, t = Lib.trimS d [48, 49, 50, 51, 52, 53, 54, 55, 56, 57] := ⟨_, rfl⟩
  rw [← ht] at H2
  have hT : Hid (t.isEmpty = d.all isDigit) := by
    rw [ht, trim_all]
    congr 1
    funext c
    exact digit_set c
  clear hd ht hl
  cases h : d.isEmpty with
  | true =>
    have HE := Lib.hid h
    have h1 : (!d.isEmpty) = false := by rw [h]; rfl
    go_enter Tryz.func115, Tryz.ntmps115
    go_wp2_with fail
    refine H1.out.mono ?_
    rintro e w1 ⟨rfl, rfl⟩
    go_wp2_with fail
    go_ret
    rw [hN.out, HE.out]
    exact ⟨rfl, Below.refl _ _⟩
  | false =>
    have HE := Lib.hid h
    have h1 : (!d.isEmpty) = true := by rw [h]; rfl
    go_enter Tryz.func115, Tryz.ntmps115
    go_wp2_with fail
    refine H1.out.mono ?_
    rintro e w1 ⟨rfl, rfl⟩
    go_wp2_with fail
    refine (H2.out _).mono ?_
    rintro e w1 ⟨rfl, hb⟩
    go_wp2_with fail
    go_ret
    rw [hN.out, HE.out, ← hT.out]
    exact ⟨rfl, hb⟩
end Go.Proofs.YtaklmocjaokkpaaGreatDoor.Lx
namespace Go.Proofs.YtaklmocjaokkpaaGreatDoor.Lx
open Go.RowKit Go.Proofs.YtaklmocjaokkpaaGreatDoor.Mem

theorem wend_none {s : List UInt8} {k p : Nat} (h : s[p]? = none) : wordEnd s k p = .ok p := by
  cases k with
  | zero => rfl
  | succ k => rw [wordEnd, h]
theorem wend_ends {s : List UInt8} {k p : Nat} {c : UInt8} (h : s[p]? = some c) (he : ends c = true) : wordEnd s k p = .ok p := by
  cases k with
  | zero => rfl
  | succ k => rw [wordEnd, h]; simp only [he, if_true]
theorem wend_bad {s : List UInt8} {k p : Nat} {c : UInt8} (h : s[p]? = some c) (he : ends c = false) (hb : c.toNat < 33 ∨ 126 < c.toNat) : wordEnd s (k + 1) p = .error (p, 10) := by
  rw [wordEnd, h]; simp only [he, if_pos hb]; rfl
theorem wend_go {s : List UInt8} {k p : Nat} {c : UInt8} (h : s[p]? = some c) (he : ends c = false) (hb : ¬ (c.toNat < 33 ∨ 126 < c.toNat)) : wordEnd s (k + 1) p = wordEnd s k (p + 1) := by
  rw [wordEnd, h]; simp only [he, if_neg hb]; rfl

theorem blk_alloc_cell {w : World} {a : Addr} {v : Value} (o : Obj) (h : w.cell? a = some v) : (w.alloc o).cell? a = some v :=
  (World.cell?_of_block (w := w) (w' := w.alloc o) (Below.heap_alloc _ _ _ (World.block_lt_of_cell? w _ h))).trans h
theorem blk_alloc_free {w : World} {a : Addr} {v : Value} (o : Obj) (h : w.cell? a = some v) (hf : w.frozen? a = false) : (w.alloc o).frozen? a = false :=
  (World.frozen?_of_block (w := w) (w' := w.alloc o) (Below.heap_alloc _ _ _ (World.block_lt_of_cell? w _ h))).trans hf
theorem NE {b : Nat} {v : Value} {toks : List Tok} {w : World} (h : Toks b v toks w) : some b ≠ v.ownBlock := fun e => by have := (h.lt b e.symm).1; omega
theorem push_end' {b j gg cap : Nat} {s : ByteArray} {v : Value} {toks : List Tok} {t : Tok} {w W w1 : World} {o : Obj} (K0 : Chg (b ≤ ·) w W) (L0 : Lexer b s j v W) (T0 : Toks b v toks W) (hg : (W.alloc o).grownBy w1 v.ownBlock)
    (ho : w1.ownsRow (b + 1) 104 4 (.slice (some ⟨gg, 0, none⟩) (toks.length + 1) cap) (toks.length + 1) (toks.flatMap tokCells ++ tokCells t)) :
    Lexer b s j (.slice (some ⟨gg, 0, none⟩) (toks.length + 1) cap) (w1.setCell ⟨b, 2, none⟩ (.slice (some ⟨gg, 0, none⟩) (toks.length + 1) cap)) ∧
      Toks b (.slice (some ⟨gg, 0, none⟩) (toks.length + 1) cap) (toks ++ [t]) (w1.setCell ⟨b, 2, none⟩ (.slice (some ⟨gg, 0, none⟩) (toks.length + 1) cap)) ∧
      Chg (b ≤ ·) w (w1.setCell ⟨b, 2, none⟩ (.slice (some ⟨gg, 0, none⟩) (toks.length + 1) cap)) :=
  push_end K0 L0 T0 (by exact ⟨hg.os, hg.tape, hg.output, hg.size, hg.block⟩) ho

def wordR (s : List UInt8) (p : Nat) : Except (Nat × Nat) (List Tok × Nat) :=
  match wordEnd s (s.length + 1) p with
  | .error x => .error x
  | .ok q => match wordTok ((s.drop p).take (q - p)) p with
    | .error x => .error x
    | .ok t => .ok ([t], q)

theorem extract_list (s : ByteArray) (i j : Nat) : (s.extract i j).data.toList = (s.data.toList.drop i).take (j - i) := by
  rw [ByteArray.data_extract, Array.toList_extract]
theorem parse_ok (wl : List UInt8) (hl : wl.length ≤ 65536) (x : Int) (h : Lib.parseIntB 64 wl = .ok x) (w : World) :
    Calls Tryz.prog 116 #[.string ⟨wl.toArray⟩, .int .i64 10, .int .i64 64] w fun e w' => e = .returned (.tuple #[.int .i64 x, .nilIface]) ∧ Below w.heap.size w w' := by
  refine (Tryz.strconv_ParseInt_10_at64_ok ⟨wl.toArray⟩ (by show wl.toArray.size ≤ _; simp; omega) x h w).mono ?_
  rintro e w' ⟨rfl, h | ⟨t, h⟩⟩
  · subst h; exact ⟨rfl, Below.refl _ _⟩
  · subst h; exact ⟨rfl, bytes_below _ _ _⟩
theorem parse_bad (wl : List UInt8) (hl : wl.length ≤ 65536) (h : ∀ x, Lib.parseIntB 64 wl ≠ .ok x) (w : World) (hg : Glob w) :
    Calls Tryz.prog 116 #[.string ⟨wl.toArray⟩, .int .i64 10, .int .i64 64] w fun e w' => ∃ x N, e = .returned (.tuple #[.int .i64 x, .iface 161 (.pointer (some ⟨N, 0, none⟩))]) ∧ Below w.heap.size w w' := by
  obtain ⟨te, pe, hv⟩ := hg.1
  obtain ⟨te2, pe2, hv2⟩ := hg.2
  have hl2 : (⟨wl.toArray⟩ : ByteArray).size ≤ 281474976710656 := by show wl.toArray.size ≤ _; simp; omega
  rcases hp : Lib.parseIntB 64 wl with x | _ | _
  · exact absurd hp (h x)
  · refine (Tryz.strconv_ParseInt_10_at64_syntax ⟨wl.toArray⟩ hl2 (by show Lib.parseIntB 64 wl ≠ _; rw [hp]; exact fun h => by cases h) (fun v => by show Lib.parseIntB 64 wl ≠ _; rw [hp]; exact fun h => by cases h) _ w hv (.inr ⟨te, pe, rfl⟩)).mono ?_
    rintro e w' ⟨N, rfl, _, _, hb⟩
    exact ⟨_, N, rfl, hb⟩
  · refine (Tryz.strconv_ParseInt_10_at64_range ⟨wl.toArray⟩ hl2 hp _ w hv2 (.inr ⟨te2, pe2, rfl⟩)).mono ?_
    rintro e w' ⟨N, rfl, _, _, hb⟩
    exact ⟨_, N, rfl, hb⟩
theorem of_list (s : ByteArray) : (⟨s.data.toList.toArray⟩ : ByteArray) = s := by cases s; rfl

set_option maxRecDepth 100000 in
set_option maxHeartbeats 4000000 in
theorem word_calls (s : ByteArray) (i b : Nat) (v : Value) (toks : List Tok) (w : World) (hs : s.size ≤ 65536) (hi : i < s.size) (hL : Lexer b s i v w) (hT : Toks b v toks w) (hn : toks.length ≤ 70000) (hg : Glob w) (hb1 : 4 ≠ b) (hb2 : 5 ≠ b) (hbb : b + 1 ≤ w.heap.size) :
    Calls Tryz.prog 94 #[.pointer (some ⟨b, 0, none⟩)] w (TokEnds b s toks w (wordR s.data.toList i)) := by
  obtain ⟨iT, hj0, hy0, hy1, hy2⟩ := info_parts infoT
  have HB := Lib.hid (And.intro hb1 hb2)
  clear hb1 hb2
  have c1 := hL.c1
  have HL := Lib.hid hL
  have HT := Lib.hid hT
  have HG := Lib.hid hg
  clear hL hT hg
  have HR : Hid (wordR s.data.toList i = match wordEnd s.data.toList (s.size + 1) i with
      | .error x => .error x
      | .ok q => match wordTok ((s.data.toList.drop i).take (q - i)) i with
        | .error x => .error x
        | .ok t => .ok ([t], q)) := by
    unfold wordR; rw [len_is]; rfl
  obtain ⟨r, hr⟩ : ∃ r, r = wordEnd s.data.toList (s.size + 1) i := ⟨_, rfl⟩
  rw [← hr] at HR
  have HE := Lib.hid hr
  clear hr
  go_enter Tryz.func94, Tryz.ntmps94
  go_wp2_with fail
  go_loopg [3] (s.size + 1) (fun k vo wr => ∃ p, Hid (r = wordEnd s.data.toList k p) ∧ i ≤ p ∧ p ≤ s.size ∧ s.size < k + p ∧ Hid (Lexer b s p v wr) ∧ Hid (Toks b v toks wr) ∧ Hid (Chg (· = b) w wr))
  case atStart =>
    exact ⟨i, HE, by omega, by omega, by omega, HL.out, HT.out, Chg.refl _ _⟩
  case round =>
    obtain ⟨p, hE, hip, hp, hk, hL, hT, hC⟩ := hrel
    have c0 := hL.out.c0
    have c1 := hL.out.c1
    have c2 := hL.out.c2
    have f1 := hL.out.f 1
    have f2 := hL.out.f 2
    by_cases hlt : p < s.size
    · have hat := at_get s p hlt
      obtain ⟨k, rfl⟩ : ∃ m, gk = m + 1 := ⟨gk - 1, by omega⟩
      obtain ⟨c, hc⟩ : ∃ c, s[p] = c := ⟨_, rfl⟩
      rw [hc] at hat
      have i0 : (0 : Int) ≤ (p : Int) := by omega
      have i1 : (p : Int) < (s.size : Int) := by omega
      have i2 : ¬ s.size ≤ p := by omega
      cases he : ends c with
      | true =>
        have HC : Hid (∀ w, Calls Tryz.prog 114 #[.int .u8 c.toNat] w fun e w' => e = .returned (.bool true) ∧ w' = w) := fun w => by
          have := ends_calls c w; rw [he] at this; exact this
        have HX : Hid (r = .ok p) := by rw [hE.out]; exact wend_ends hat he
        clear hat he
        obtain ⟨wl, hwl⟩ : ∃ wl, (s.data.toList.drop i).take (p - i) = wl := ⟨_, rfl⟩
        have hsr : ∀ w, (Instr.slice 9 (.string s) (some (.int .i64 i)) (some (.int .i64 p)) none).run Tryz.prog w = .ok (.string ⟨wl.toArray⟩) w := fun w => by
          rw [slice_run 9 Tryz.underlying9 s i p (by omega) (by omega) w _ _ rfl rfl, ← hwl, ← extract_list, of_list]
        have hl : wl.length ≤ 65536 := by rw [← hwl, ← extract_list, len_is, ByteArray.size_extract]; omega
        have hl' : (⟨wl.toArray⟩ : ByteArray).size ≤ 65536 := by show wl.toArray.size ≤ _; simpa using hl
        have HWL := Lib.hid hwl
        clear hwl
        cases hN : isNum wl with
        | false =>
          have HD : Hid (∀ w, Calls Tryz.prog 115 #[.string ⟨wl.toArray⟩] w fun e w' => e = .returned (.bool false) ∧ Below w.heap.size w w') := fun w => by
            have := digits_calls ⟨wl.toArray⟩ w hl'
            rw [show (⟨wl.toArray⟩ : ByteArray).data.toList = wl from rfl, hN] at this; exact this
          have HQ : Hid (wordTok wl i = .ok ⟨3, wl, 0, i⟩) := by unfold wordTok; rw [hN]; rfl
          clear hN
          go_wp2_with fail
          go_quiet ((go_at_call 114; exact Calls.quiet_of_same (HC.out _)))
          go_wp2_with fail
          go_quiet (fail)
          go_wp2_with fail
          refine (HD.out _).mono ?_
          rintro e w1 ⟨rfl, hb⟩
          have K1 : Hid (Chg (· = b) w w1) := (hC.out.drewN _).callee hb
          have L1 : Hid (Lexer b s p v w1) := hL.out.chg (F := fun _ => False) (((Chg.refl _ wr).drewN _).callee hb) (fun h => h)
          have T1 : Hid (Toks b v toks w1) := hT.out.chg (((Chg.refl _ wr).drewN _).callee hb)
          clear c0 c1 c2 f1 f2 hb
          have q2 := L1.out.c2
          have f2 := L1.out.f 2
          have sz : b + 1 ≤ w1.heap.size := Nat.le_trans hbb K1.out.size
          go_wp2_with (at_builtin; refine wpList_append_lies _ rfl _ _ _ rfl (b + 1) 104 iT _ 4 40 Tryz.underlying66 hj0 hy0 hy1 hy2 rfl (by omega) v toks.length (toks.flatMap tokCells) (by rfl) (by exact World.ownsRow.alloc T1.out _) ⟨w1.heap.size, 0, none⟩ 1 1 (tokCells ⟨3, wl, 0, i⟩) (by rfl) (by rfl) (by exact World.news_of_block (blk_new _ _)) (by simp [Value.oneCell', tokCells]) (by omega) (by unfold maxLen; omega) (by omega) (by simp; omega) _ (by rfl) ?_; intro gg cap w9 hown1 hgrow hat hlt; have q3 := hgrow.cell (blk_alloc_cell _ L1.out.c2) (NE T1.out); have q4 := grown_frozen hgrow (blk_alloc_cell _ L1.out.c2) (blk_alloc_free _ L1.out.c2 (L1.out.f 2)) (NE T1.out))
          refine bodyPost_ret (results_none rfl _ _ _) rfl ?_
          rw [HR.out, HX.out]
          simp only [HWL.out, HQ.out]
          obtain ⟨e1, e2, e3⟩ := push_end' (w := w) (t := ⟨3, wl, 0, i⟩) (K1.out.mono (fun j _ h => Nat.le_of_eq h.symm)) L1.out T1.out hgrow hown1
          exact ⟨rfl, ⟨_, e1, e2⟩, e3.toBelow (by omega) (fun k _ h => h)⟩
        | true =>
          have HD : Hid (∀ w, Calls Tryz.prog 115 #[.string ⟨wl.toArray⟩] w fun e w' => e = .returned (.bool true) ∧ Below w.heap.size w w') := fun w => by
            have := digits_calls ⟨wl.toArray⟩ w hl'
            rw [show (⟨wl.toArray⟩ : ByteArray).data.toList = wl from rfl, hN] at this; exact this
          by_cases hP : ∃ x, Lib.parseIntB 64 wl = .ok x
          · obtain ⟨x, hP⟩ := hP
            have HQ : Hid (wordTok wl i = .ok ⟨4, [], x, i⟩) := by unfold wordTok; rw [hN, hP]; rfl
            have HP := Lib.hid (parse_ok wl hl x hP)
            clear hN hP
            go_wp2_with fail
            go_quiet ((go_at_call 114; exact Calls.quiet_of_same (HC.out _)))
            go_wp2_with fail
            go_quiet (fail)
            go_wp2_with fail
            refine (HD.out _).mono ?_
            rintro e w1 ⟨rfl, hb⟩
            have K1 : Hid (Chg (· = b) w w1) := (hC.out.drewN _).callee hb
            have L1 : Hid (Lexer b s p v w1) := hL.out.chg (F := fun _ => False) (((Chg.refl _ wr).drewN _).callee hb) (fun h => h)
            have T1 : Hid (Toks b v toks w1) := hT.out.chg (((Chg.refl _ wr).drewN _).callee hb)
            clear c0 c1 c2 f1 f2 hb
            go_wp2_with fail
            refine (HP.out _).mono ?_
            rintro e w2 ⟨rfl, hb⟩
            have K2 : Hid (Chg (· = b) w w2) := K1.out.callee hb
            have L2 : Hid (Lexer b s p v w2) := L1.out.chg (F := fun _ => False) ((Chg.refl _ w1).callee hb) (fun h => h)
            have T2 : Hid (Toks b v toks w2) := T1.out.chg ((Chg.refl _ w1).callee hb)
            clear hb
            have q2 := L2.out.c2
            have f2 := L2.out.f 2
            have sz : b + 1 ≤ w2.heap.size := Nat.le_trans hbb K2.out.size
            go_wp2_with (at_builtin; refine wpList_append_lies _ rfl _ _ _ rfl (b + 1) 104 iT _ 4 40 Tryz.underlying66 hj0 hy0 hy1 hy2 rfl (by omega) v toks.length (toks.flatMap tokCells) (by rfl) (by exact World.ownsRow.alloc T2.out _) ⟨w2.heap.size, 0, none⟩ 1 1 (tokCells ⟨4, [], x, i⟩) (by rfl) (by rfl) (by exact World.news_of_block (blk_new _ _)) (by simp [Value.oneCell', tokCells]) (by omega) (by unfold maxLen; omega) (by omega) (by simp; omega) _ (by rfl) ?_; intro gg cap w9 hown1 hgrow hat hlt; have q3 := hgrow.cell (blk_alloc_cell _ L2.out.c2) (NE T2.out); have q4 := grown_frozen hgrow (blk_alloc_cell _ L2.out.c2) (blk_alloc_free _ L2.out.c2 (L2.out.f 2)) (NE T2.out))
            refine bodyPost_ret (results_none rfl _ _ _) rfl ?_
            rw [HR.out, HX.out]
            simp only [HWL.out, HQ.out]
            obtain ⟨e1, e2, e3⟩ := push_end' (w := w) (t := ⟨4, [], x, i⟩) (K2.out.mono (fun j _ h => Nat.le_of_eq h.symm)) L2.out T2.out hgrow hown1
            exact ⟨rfl, ⟨_, e1, e2⟩, e3.toBelow (by omega) (fun k _ h => h)⟩
          · have HQ : Hid (wordTok wl i = .error (i, 10)) := by
              unfold wordTok; rw [hN]
              rcases h : Lib.parseIntB 64 wl with x | _ | _
              · exact absurd ⟨x, h⟩ hP
              · rfl
              · rfl
            have HP := Lib.hid (parse_bad wl hl (fun x h => hP ⟨x, h⟩))
            clear hN hP
            go_wp2_with fail
            go_quiet ((go_at_call 114; exact Calls.quiet_of_same (HC.out _)))
            go_wp2_with fail
            go_quiet (fail)
            go_wp2_with fail
            refine (HD.out _).mono ?_
            rintro e w1 ⟨rfl, hb⟩
            have K1 : Hid (Chg (· = b) w w1) := (hC.out.drewN _).callee hb
            have L1 : Hid (Lexer b s p v w1) := hL.out.chg (F := fun _ => False) (((Chg.refl _ wr).drewN _).callee hb) (fun h => h)
            have T1 : Hid (Toks b v toks w1) := hT.out.chg (((Chg.refl _ wr).drewN _).callee hb)
            clear c0 c1 c2 f1 f2 hb
            go_wp2_with fail
            refine (HP.out _ (HG.out.chg K1.out HB.out.1 HB.out.2)).mono ?_
            rintro e w2 ⟨x, N, rfl, hb⟩
            have K2 : Hid (Chg (· = b) w w2) := K1.out.callee hb
            clear hb
            go_wp2_with fail
            rw [HR.out, HX.out]
            simp only [HWL.out, HQ.out]
            exact ⟨rfl, rfl, K2.out.toBelow (by omega) (fun k _ h => Nat.le_of_eq h.symm)⟩
      | false =>
        have HC : Hid (∀ w, Calls Tryz.prog 114 #[.int .u8 c.toNat] w fun e w' => e = .returned (.bool false) ∧ w' = w) := fun w => by
          have := ends_calls c w; rw [he] at this; exact this
        by_cases hbad : c.toNat < 33 ∨ 126 < c.toNat
        · have HX : Hid (r = .error (p, 10)) := by rw [hE.out]; exact wend_bad hat he hbad
          clear hat he
          rcases hbad with hbad | hbad
          all_goals
            go_wp2_with fail
            go_quiet ((go_at_call 114; exact Calls.quiet_of_same (HC.out _)))
            go_wp2_with fail
            go_quiet (fail)
            go_wp2_with fail
            rw [HR.out, HX.out]
            exact ⟨rfl, rfl, (hC.out.drewN _).toBelow (by omega) (fun k _ h => Nat.le_of_eq h.symm)⟩
        · have HX : Hid (r = wordEnd s.data.toList k (p + 1)) := by rw [hE.out]; exact wend_go hat he hbad
          have n1 : 33 ≤ c.toNat ∧ c.toNat ≤ 126 := by omega
          clear hat he hbad
          go_wp2_with fail
          go_quiet ((go_at_call 114; exact Calls.quiet_of_same (HC.out _)))
          go_wp2_with fail
          go_quiet (fail)
          go_wp2_with fail
          go_roundg k
          case measure => omega
          case rel => exact ⟨p + 1, HX, by omega, by omega, by omega, Lexer.set1 (w := wr.drewN _) hL.out (by omega), hT.out.chg (Chg.set (F := (· = b)) (p := ⟨b, 1, none⟩) ((Chg.refl _ wr).drewN _) (fun _ => rfl) _), Chg.set (p := ⟨b, 1, none⟩) (hC.out.drewN _) (fun _ => rfl) _⟩
    · have HX : Hid (r = .ok p) := by rw [hE.out]; exact wend_none (at_none s p (by omega))
      have hd : decide (p < s.size) = false := decide_eq_false hlt
      obtain ⟨wl, hwl⟩ : ∃ wl, (s.data.toList.drop i).take (p - i) = wl := ⟨_, rfl⟩
      have hsr : ∀ w, (Instr.slice 9 (.string s) (some (.int .i64 i)) (some (.int .i64 p)) none).run Tryz.prog w = .ok (.string ⟨wl.toArray⟩) w := fun w => by
        rw [slice_run 9 Tryz.underlying9 s i p (by omega) (by omega) w _ _ rfl rfl, ← hwl, ← extract_list, of_list]
      have hl : wl.length ≤ 65536 := by rw [← hwl, ← extract_list, len_is, ByteArray.size_extract]; omega
      have hl' : (⟨wl.toArray⟩ : ByteArray).size ≤ 65536 := by show wl.toArray.size ≤ _; simpa using hl
      have HWL := Lib.hid hwl
      clear hwl
      cases hN : isNum wl with
      | false =>
        have HD : Hid (∀ w, Calls Tryz.prog 115 #[.string ⟨wl.toArray⟩] w fun e w' => e = .returned (.bool false) ∧ Below w.heap.size w w') := fun w => by
          have := digits_calls ⟨wl.toArray⟩ w hl'
          rw [show (⟨wl.toArray⟩ : ByteArray).data.toList = wl from rfl, hN] at this; exact this
        have HQ : Hid (wordTok wl i = .ok ⟨3, wl, 0, i⟩) := by unfold wordTok; rw [hN]; rfl
        clear hN
        go_wp2_with fail
        go_quiet (fail)
        go_wp2_with fail
        go_quiet (fail)
        go_wp2_with fail
        refine (HD.out _).mono ?_
        rintro e w1 ⟨rfl, hb⟩
        have K1 : Hid (Chg (· = b) w w1) := (hC.out.drewN _).callee hb
        have L1 : Hid (Lexer b s p v w1) := hL.out.chg (F := fun _ => False) (((Chg.refl _ wr).drewN _).callee hb) (fun h => h)
        have T1 : Hid (Toks b v toks w1) := hT.out.chg (((Chg.refl _ wr).drewN _).callee hb)
        clear c0 c1 c2 f1 f2 hb
        have q2 := L1.out.c2
        have f2 := L1.out.f 2
        have sz : b + 1 ≤ w1.heap.size := Nat.le_trans hbb K1.out.size
        go_wp2_with (at_builtin; refine wpList_append_lies _ rfl _ _ _ rfl (b + 1) 104 iT _ 4 40 Tryz.underlying66 hj0 hy0 hy1 hy2 rfl (by omega) v toks.length (toks.flatMap tokCells) (by rfl) (by exact World.ownsRow.alloc T1.out _) ⟨w1.heap.size, 0, none⟩ 1 1 (tokCells ⟨3, wl, 0, i⟩) (by rfl) (by rfl) (by exact World.news_of_block (blk_new _ _)) (by simp [Value.oneCell', tokCells]) (by omega) (by unfold maxLen; omega) (by omega) (by simp; omega) _ (by rfl) ?_; intro gg cap w9 hown1 hgrow hat hlt; have q3 := hgrow.cell (blk_alloc_cell _ L1.out.c2) (NE T1.out); have q4 := grown_frozen hgrow (blk_alloc_cell _ L1.out.c2) (blk_alloc_free _ L1.out.c2 (L1.out.f 2)) (NE T1.out))
        refine bodyPost_ret (results_none rfl _ _ _) rfl ?_
        rw [HR.out, HX.out]
        simp only [HWL.out, HQ.out]
        obtain ⟨e1, e2, e3⟩ := push_end' (w := w) (t := ⟨3, wl, 0, i⟩) (K1.out.mono (fun j _ h => Nat.le_of_eq h.symm)) L1.out T1.out hgrow hown1
        exact ⟨rfl, ⟨_, e1, e2⟩, e3.toBelow (by omega) (fun k _ h => h)⟩
      | true =>
        have HD : Hid (∀ w, Calls Tryz.prog 115 #[.string ⟨wl.toArray⟩] w fun e w' => e = .returned (.bool true) ∧ Below w.heap.size w w') := fun w => by
          have := digits_calls ⟨wl.toArray⟩ w hl'
          rw [show (⟨wl.toArray⟩ : ByteArray).data.toList = wl from rfl, hN] at this; exact this
        by_cases hP : ∃ x, Lib.parseIntB 64 wl = .ok x
        · obtain ⟨x, hP⟩ := hP
          have HQ : Hid (wordTok wl i = .ok ⟨4, [], x, i⟩) := by unfold wordTok; rw [hN, hP]; rfl
          have HP := Lib.hid (parse_ok wl hl x hP)
          clear hN hP
          go_wp2_with fail
          go_quiet (fail)
          go_wp2_with fail
          go_quiet (fail)
          go_wp2_with fail
          refine (HD.out _).mono ?_
          rintro e w1 ⟨rfl, hb⟩
          have K1 : Hid (Chg (· = b) w w1) := (hC.out.drewN _).callee hb
          have L1 : Hid (Lexer b s p v w1) := hL.out.chg (F := fun _ => False) (((Chg.refl _ wr).drewN _).callee hb) (fun h => h)
          have T1 : Hid (Toks b v toks w1) := hT.out.chg (((Chg.refl _ wr).drewN _).callee hb)
          clear c0 c1 c2 f1 f2 hb
          go_wp2_with fail
          refine (HP.out _).mono ?_
          rintro e w2 ⟨rfl, hb⟩
          have K2 : Hid (Chg (· = b) w w2) := K1.out.callee hb
          have L2 : Hid (Lexer b s p v w2) := L1.out.chg (F := fun _ => False) ((Chg.refl _ w1).callee hb) (fun h => h)
          have T2 : Hid (Toks b v toks w2) := T1.out.chg ((Chg.refl _ w1).callee hb)
          clear hb
          have q2 := L2.out.c2
          have f2 := L2.out.f 2
          have sz : b + 1 ≤ w2.heap.size := Nat.le_trans hbb K2.out.size
          go_wp2_with (at_builtin; refine wpList_append_lies _ rfl _ _ _ rfl (b + 1) 104 iT _ 4 40 Tryz.underlying66 hj0 hy0 hy1 hy2 rfl (by omega) v toks.length (toks.flatMap tokCells) (by rfl) (by exact World.ownsRow.alloc T2.out _) ⟨w2.heap.size, 0, none⟩ 1 1 (tokCells ⟨4, [], x, i⟩) (by rfl) (by rfl) (by exact World.news_of_block (blk_new _ _)) (by simp [Value.oneCell', tokCells]) (by omega) (by unfold maxLen; omega) (by omega) (by simp; omega) _ (by rfl) ?_; intro gg cap w9 hown1 hgrow hat hlt; have q3 := hgrow.cell (blk_alloc_cell _ L2.out.c2) (NE T2.out); have q4 := grown_frozen hgrow (blk_alloc_cell _ L2.out.c2) (blk_alloc_free _ L2.out.c2 (L2.out.f 2)) (NE T2.out))
          refine bodyPost_ret (results_none rfl _ _ _) rfl ?_
          rw [HR.out, HX.out]
          simp only [HWL.out, HQ.out]
          obtain ⟨e1, e2, e3⟩ := push_end' (w := w) (t := ⟨4, [], x, i⟩) (K2.out.mono (fun j _ h => Nat.le_of_eq h.symm)) L2.out T2.out hgrow hown1
          exact ⟨rfl, ⟨_, e1, e2⟩, e3.toBelow (by omega) (fun k _ h => h)⟩
        · have HQ : Hid (wordTok wl i = .error (i, 10)) := by
            unfold wordTok; rw [hN]
            rcases h : Lib.parseIntB 64 wl with x | _ | _
            · exact absurd ⟨x, h⟩ hP
            · rfl
            · rfl
          have HP := Lib.hid (parse_bad wl hl (fun x h => hP ⟨x, h⟩))
          clear hN hP
          go_wp2_with fail
          go_quiet (fail)
          go_wp2_with fail
          go_quiet (fail)
          go_wp2_with fail
          refine (HD.out _).mono ?_
          rintro e w1 ⟨rfl, hb⟩
          have K1 : Hid (Chg (· = b) w w1) := (hC.out.drewN _).callee hb
          have L1 : Hid (Lexer b s p v w1) := hL.out.chg (F := fun _ => False) (((Chg.refl _ wr).drewN _).callee hb) (fun h => h)
          have T1 : Hid (Toks b v toks w1) := hT.out.chg (((Chg.refl _ wr).drewN _).callee hb)
          clear c0 c1 c2 f1 f2 hb
          go_wp2_with fail
          refine (HP.out _ (HG.out.chg K1.out HB.out.1 HB.out.2)).mono ?_
          rintro e w2 ⟨x, N, rfl, hb⟩
          have K2 : Hid (Chg (· = b) w w2) := K1.out.callee hb
          clear hb
          go_wp2_with fail
          rw [HR.out, HX.out]
          simp only [HWL.out, HQ.out]
          exact ⟨rfl, rfl, K2.out.toBelow (by omega) (fun k _ h => Nat.le_of_eq h.symm)⟩
end Go.Proofs.YtaklmocjaokkpaaGreatDoor.Lx
