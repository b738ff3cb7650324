/- The lexer's method text, walked. Conditions: the lexer's block is known, and its tokens; the two errors of strconv hold interface values. -/
import Derived.Test.YtaklmocjaokkpaaGreatDoorLexWalk3
import Derived.Lib.BufferRead
import Derived.Deep.LoopGhost
import Derived.Laws.IdiomStrings
import Derived.Deep.RegionLaw
import Derived.BigRegion
namespace Go.Proofs.YtaklmocjaokkpaaGreatDoor.Lx
open Go.RowKit Go.Proofs.YtaklmocjaokkpaaGreatDoor.Mem

theorem infoB : (Tryz.prog.info? 5).map (fun i => (i.zero, i.size, i.bytes)) = some (some (.int .u8 0), 1, 1) := by kernel_rfl
theorem infoT : (Tryz.prog.info? 104).map (fun i => (i.zero, i.size, i.bytes)) = some (some (.agg #[.int .u8 0, .string ⟨#[]⟩, .int .i64 0, .int .i64 0]), 4, 40) := by kernel_rfl

def OutRow (base : Nat) (v : Value) (l : List UInt8) (w : World) : Prop := w.ownsRow base 5 1 v l.length (l.map fun c => .int .u8 c.toNat)
def tokCells (t : Tok) : List Value := [.int .u8 t.kind, .string ⟨t.s.toArray⟩, .int .i64 t.n, .int .i64 t.at_]
/-- The tokens that the lexer has. -/
def Toks (b : Nat) (v : Value) (l : List Tok) (w : World) : Prop := w.ownsRow (b + 1) 104 4 v l.length (l.flatMap tokCells)

theorem OutRow.conv {base : Nat} {v : Value} {l : List UInt8} {w : World} (h : OutRow base v l w) : (convert 50 9 v).run Tryz.prog w = .ok (.string ⟨l.toArray⟩) w := by
  have hc := h
  obtain ⟨h1, h2⟩ := h
  rcases h2 with ⟨rfl, h0⟩ | ⟨g, cap, cur, rfl, hb, hg, r⟩
  · obtain rfl : l = [] := List.length_eq_zero_iff.1 h0
    exact Lib.run_convert_nil_bytes w _ _ 5 0 Tryz.underlying50 Tryz.underlying5 Tryz.underlying9
  · refine run_convert_bytes_back w _ _ 5 _ cap l Tryz.underlying50 Tryz.underlying5 Tryz.underlying9 ?_
    intro j hj
    have := World.ownsRow.cells hc (g := g) rfl j (.int .u8 (l[j].toNat : Int)) (by simp [hj])
    exact this

theorem Toks.lt {b : Nat} {v : Value} {l : List Tok} {w : World} (h : Toks b v l w) (k : Nat) (hk : v.ownBlock = some k) : b < k ∧ k < w.heap.size := World.ownsRow.lt h k hk
theorem Toks.chg {b : Nat} {v : Value} {l : List Tok} {w w' : World} (h : Toks b v l w) (hc : Chg (· = b) w w') : Toks b v l w' :=
  hc.owns h (fun k hk e => by have := (h.lt k hk).1; omega)
theorem OutRow.chg {base : Nat} {v : Value} {l : List UInt8} {F : Nat → Prop} {w w' : World} (h : OutRow base v l w) (hc : Chg F w w') (hf : ∀ k, base ≤ k → ¬ F k) : OutRow base v l w' :=
  hc.owns h (fun k hk => hf k (World.ownsRow.lt h k hk).1)

theorem cell_ad {w : World} {a : Addr} {v : Value} (o : Obj) (h : w.cell? a = some v) : (w.alloc o).drew.cell? a = some v :=
  (World.cell?_of_block (w := w) (w' := (w.alloc o).drew) (Below.heap_alloc _ _ _ (World.block_lt_of_cell? w _ h))).trans h
theorem frozen_ad {w : World} {a : Addr} {v : Value} (o : Obj) (h : w.cell? a = some v) (hf : w.frozen? a = false) : (w.alloc o).drew.frozen? a = false :=
  (World.frozen?_of_block (w := w) (w' := (w.alloc o).drew) (Below.heap_alloc _ _ _ (World.block_lt_of_cell? w _ h))).trans hf
theorem grown_frozen {w w' : World} {row : Option Nat} (hg : w.grownBy w' row) {a : Addr} {v : Value} (h : w.cell? a = some v) (hf : w.frozen? a = false) (hne : some a.block ≠ row) : w'.frozen? a = false :=
  (hg.frozen_far a (World.block_lt_of_cell? w _ h) hne).trans hf
theorem ownsRow_ad {w : World} {base : Nat} {e : TypeId} {size : Nat} {v : Value} {n : Nat} {xs : List Value} (h : w.ownsRow base e size v n xs) (o : Obj) : (w.alloc o).drew.ownsRow base e size v n xs := World.ownsRow.alloc h o
theorem new_ad (w : World) (o : Obj) (B : Nat) (h : w.heap.size = B) : (w.alloc o).drew.heap[B]? = some o := by
  subst h
  exact blk_new w o
theorem OutRow.ad {base : Nat} {v : Value} {l : List UInt8} {w : World} (h : OutRow base v l w) (o : Obj) : OutRow base v l (w.alloc o).drew := World.ownsRow.alloc h o
theorem OutRow.grown {base : Nat} {v : Value} {l : List UInt8} {w w' : World} {row : Option Nat} (h : OutRow base v l w) (hg : w.grownBy w' row) (hr : ∀ k, row = some k → k < base) : OutRow base v l w' :=
  World.ownsRow.kept h hg (by
    rcases hv : v.ownBlock with _ | k
    · exact .inl rfl
    · exact .inr (fun e => by have := (World.ownsRow.lt h k hv).1; have := hr k e.symm; omega))
theorem text_q {s : List UInt8} {k p : Nat} {out : List UInt8} (h : s[p]? = some 34) : text s (k + 1) p out = .ok (out, p + 1) := by
  rw [text, h]; rfl
theorem text_b {s : List UInt8} {k p q : Nat} {out : List UInt8} {c : UInt8} (h : s[p]? = some 92) (he : esc s (p + 1) = .ok (c, q)) : text s (k + 1) p out = text s k q (out ++ [c]) := by
  rw [text, h]; simp only [he]; rfl
theorem text_be {s : List UInt8} {k p : Nat} {out : List UInt8} {x : Nat × Nat} (h : s[p]? = some 92) (he : esc s (p + 1) = .error x) : text s (k + 1) p out = .error x := by
  rw [text, h]; simp only [he]; rfl
theorem text_c {s : List UInt8} {k p : Nat} {out : List UInt8} {c : UInt8} (h : s[p]? = some c) (h1 : ¬ c = 34) (h2 : ¬ c = 92) : text s (k + 1) p out = text s k (p + 1) (out ++ [c]) := by
  rw [text, h]; simp only [if_neg h1, if_neg h2]
theorem text_none {s : List UInt8} {k p : Nat} {out : List UInt8} (h : s[p]? = none) : text s k p out = .error (s.length, 11) := by
  cases k with
  | zero => rfl
  | succ k => rw [text, h]

theorem esc_lt {s : List UInt8} {p q : Nat} {c : UInt8} (h : esc s p = .ok (c, q)) : p < q ∧ q ≤ s.length := by
  unfold esc at h
  rcases hc : s[p]? with _ | a
  · rw [hc] at h; cases h
  · have hp : p < s.length := by
      rcases Nat.lt_or_ge p s.length with h1 | h1
      · exact h1
      · rw [List.getElem?_eq_none h1] at hc; cases hc
    rw [hc] at h
    simp only [] at h
    split at h
    · cases h; omega
    · split at h
      · cases h; omega
      · split at h
        · rcases hx : hexAt s (p + 1) with x | x
          · rw [hx] at h; cases h
          · rw [hx] at h
            simp only [] at h
            rcases hy : hexAt s (p + 2) with y | y
            · rw [hy] at h; cases h
            · rw [hy] at h
              have := (hexAt_lt hy).1
              cases h; omega
        · cases h

theorem escaped_ok (s : ByteArray) (i b : Nat) (v : Value) (w : World) (hs : s.size ≤ 65536) (hi : i ≤ s.size) (hL : Lexer b s i v w) (hg : Glob w) (hb1 : 4 ≠ b) (hb2 : 5 ≠ b) (c : UInt8) (q : Nat) (h : esc s.data.toList i = .ok (c, q)) :
    Calls Tryz.prog 113 #[.pointer (some ⟨b, 0, none⟩)] w fun e w' => e = .returned (.int .u8 c.toNat) ∧ Lexer b s q v w' ∧ Chg (· = b) w w' := by
  have := escaped_calls s i b v w hs hi hL hg hb1 hb2
  unfold escR at this
  rw [h] at this
  exact this
theorem escaped_err (s : ByteArray) (i b : Nat) (v : Value) (w : World) (hs : s.size ≤ 65536) (hi : i ≤ s.size) (hL : Lexer b s i v w) (hg : Glob w) (hb1 : 4 ≠ b) (hb2 : 5 ≠ b) (p n : Nat) (h : esc s.data.toList i = .error (p, n)) :
    Calls Tryz.prog 113 #[.pointer (some ⟨b, 0, none⟩)] w fun e w' => e = .panicked (fault p n) ∧ Chg (· = b) w w' := by
  have := escaped_calls s i b v w hs hi hL hg hb1 hb2
  unfold escR at this
  rw [h] at this
  exact this

theorem push_byte {b j : Nat} {s : ByteArray} {v vo : Value} {toks : List Tok} {out : List UInt8} {w W w1 : World} {o : Obj} (hB : b + 1 ≤ w.heap.size) (T : Toks b v toks w) (K0 : Chg (· = b) w W) (L0 : Lexer b s j v W) (T0 : Toks b v toks W) (O0 : OutRow w.heap.size vo out W)
    (hg : (W.alloc o).grownBy w1 vo.ownBlock) : Lexer b s j v w1 ∧ Toks b v toks w1 ∧ Chg (· = b) w w1 := by
  have h1 : ∀ k, vo.ownBlock = some k → w.heap.size ≤ k := fun k hk => (World.ownsRow.lt O0 k hk).1
  refine ⟨blk_grown hg (blk_alloc L0 o) (fun e => ?_), World.ownsRow.kept (World.ownsRow.alloc T0 o) hg ?_, (K0.alloc o).grown hg (fun k hk e => ?_)⟩
  · have := h1 b e.symm; omega
  · rcases hv : v.ownBlock with _ | k
    · exact .inl rfl
    · exact .inr (fun e => by have := (T.lt k hv).2; have := h1 k e.symm; omega)
  · have := h1 k e; omega

theorem push_end {b j gg cap : Nat} {s : ByteArray} {v : Value} {toks : List Tok} {t : Tok} {w W w1 : World} {o : Obj} (K0 : Chg (b ≤ ·) w W) (L0 : Lexer b s j v W) (T0 : Toks b v toks W) (hg : (W.alloc o).drew.grownBy w1 v.ownBlock)
    (ho : w1.ownsRow (b + 1) 104 4 (.slice (some ⟨gg, 0, none⟩) (toks.length + 1) cap) (toks.length + 1) (toks.flatMap tokCells ++ tokCells t)) :
    Lexer b s j (.slice (some ⟨gg, 0, none⟩) (toks.length + 1) cap) (w1.setCell ⟨b, 2, none⟩ (.slice (some ⟨gg, 0, none⟩) (toks.length + 1) cap)) ∧
      Toks b (.slice (some ⟨gg, 0, none⟩) (toks.length + 1) cap) (toks ++ [t]) (w1.setCell ⟨b, 2, none⟩ (.slice (some ⟨gg, 0, none⟩) (toks.length + 1) cap)) ∧
      Chg (b ≤ ·) w (w1.setCell ⟨b, 2, none⟩ (.slice (some ⟨gg, 0, none⟩) (toks.length + 1) cap)) := by
  have k1 : Chg (b ≤ ·) w w1 := ((K0.alloc o).drew).grown hg (fun k _ e => Nat.le_of_lt (T0.lt k e).1)
  have ll : Lexer b s j v w1 := by
    refine blk_grown hg (show (W.alloc o).drew.heap[b]? = _ from blk_alloc L0 o) (fun e => ?_)
    have := (T0.lt b e.symm).1; omega
  refine ⟨ll.set2, ?_, k1.set (fun _ => Nat.le_refl _) _⟩
  have := ownsRow_setCell_below ho (a := ⟨b, 2, none⟩) (Nat.lt_succ_self b) (.slice (some ⟨gg, 0, none⟩) (toks.length + 1) cap)
  unfold Toks
  rw [List.length_append, List.flatMap_append]
  simpa using this

/-- How text, word end. -/
def TokEnds (b : Nat) (s : ByteArray) (toks : List Tok) (w : World) (r : Except (Nat × Nat) (List Tok × Nat)) (e : Ending) (w' : World) : Prop :=
  match r with
  | .ok (l, q) => e = .returned (.tuple #[]) ∧ (∃ v', Lexer b s q v' w' ∧ Toks b v' (toks ++ l) w') ∧ Below b w w'
  | .error (p, n) => e = .panicked (fault p n) ∧ Below b w w'

def textR (s : List UInt8) (p : Nat) : Except (Nat × Nat) (List Tok × Nat) := match text s (s.length + 1) (p + 1) [] with | .ok (out, q) => .ok ([⟨5, out, 0, p⟩], q) | .error x => .error x

set_option maxRecDepth 100000 in
set_option maxHeartbeats 4000000 in
theorem text_calls (s : ByteArray) (i b : Nat) (v : Value) (toks : List Tok) (w : World) (hs : s.size ≤ 65536) (hi : i < s.size) (hL : Lexer b s i v w) (hT : Toks b v toks w) (hn : toks.length ≤ 70000) (hg : Glob w) (hb1 : 4 ≠ b) (hb2 : 5 ≠ b) (hbb : b + 1 ≤ w.heap.size) :
    Calls Tryz.prog 93 #[.pointer (some ⟨b, 0, none⟩)] w (TokEnds b s toks w (textR s.data.toList i)) := by
  obtain ⟨iB, hi0, hz0, hz1, hz2⟩ := info_parts infoB
  obtain ⟨iT, hj0, hy0, hy1, hy2⟩ := info_parts infoT
  have HB := Lib.hid (And.intro hb1 hb2)
  clear hb1 hb2
  have c1 := hL.c1
  have f1 := hL.f 1
  have HL := Lib.hid hL
  have HT := Lib.hid hT
  have HG := Lib.hid hg
  clear hL hT hg
  have HR : Hid (textR s.data.toList i = match text s.data.toList (s.size + 1) (i + 1) [] with | .ok (out, q) => .ok ([⟨5, out, 0, i⟩], q) | .error x => .error x) := by
    unfold textR; rw [len_is]; rfl
  obtain ⟨r, hr⟩ : ∃ r, r = text s.data.toList (s.size + 1) (i + 1) [] := ⟨_, rfl⟩
  rw [← hr] at HR
  have HE := Lib.hid hr
  clear hr
  go_enter Tryz.func93, Tryz.ntmps93
  go_wp2_with fail
  go_loopg [3] (s.size + 1) (fun k vo wr => ∃ p out x, x = vo ∧ Hid (r = text s.data.toList k p out) ∧ p ≤ s.size ∧ s.size < k + p ∧ Hid (OutRow w.heap.size vo out wr) ∧ out.length ≤ p ∧ Hid (Lexer b s p v wr) ∧ Hid (Toks b v toks wr) ∧ Hid (Chg (· = b) w wr))
  case atStart =>
    exact ⟨i + 1, [], _, rfl, HE, by omega, by omega, World.ownsRow_nil _ _ _ _, by simp, HL.out.set1 (by omega), HT.out.chg (Chg.set (F := (· = b)) (Chg.refl _ w) (fun _ => rfl) _), Chg.set (F := (· = b)) (Chg.refl _ _) (fun _ => rfl) _⟩
  case round =>
    obtain ⟨p, out, vo, rfl, hE, hp, hk, hO, hol, hL, hT, hC⟩ := hrel
    have c0 := hL.out.c0
    have c1 := hL.out.c1
    have c2 := hL.out.c2
    have f1 := hL.out.f 1
    have f2 := hL.out.f 2
    by_cases hlt : p < s.size
    · have hat := at_get s p hlt
      obtain ⟨k, rfl⟩ : ∃ m, gk = m + 1 := ⟨gk - 1, by omega⟩
      obtain ⟨c, hc⟩ : ∃ c, s[p] = c := ⟨_, rfl⟩
      rw [hc] at hat
      have i0 : (0 : Int) ≤ (p : Int) := by omega
      have i1 : (p : Int) < (s.size : Int) := by omega
      have i2 : ¬ s.size ≤ p := by omega
      by_cases k1 : c = 34
      · have HX : Hid (r = .ok (out, p + 1)) := by rw [hE.out]; exact text_q (by rw [hat, k1])
        have n1 : 34 ≤ c.toNat ∧ c.toNat ≤ 34 := by subst k1; decide
        clear hat k1
        go_wp2_with fail
        go_quiet (fail)
        go_wp2_with fail
        go_quiet (fail)
        go_wp2_with fail
        have O1 := fun n => Lib.hid (OutRow.chg (F := (· = b)) hO.out (Chg.set (F := (· = b)) ((Chg.refl _ wr).drewN n) (fun _ => rfl) (Value.int .i64 ((p : Int) + 1)) (p := ⟨b, 1, none⟩)) (fun k h1 h2 => by omega))
        have T1 := fun n => Lib.hid (hT.out.chg (Chg.set (F := (· = b)) ((Chg.refl _ wr).drewN n) (fun _ => rfl) (Value.int .i64 ((p : Int) + 1)) (p := ⟨b, 1, none⟩)))
        have C2 := fun n => Lib.hid (Lexer.c2 (Lexer.set1 (w := wr.drewN n) hL.out (show (p : Int) + 1 = (p + 1 : Nat) by omega)))
        have F2 := fun n => Lib.hid (Lexer.f (Lexer.set1 (w := wr.drewN n) hL.out (show (p : Int) + 1 = (p + 1 : Nat) by omega)) 2)
        have F2d : ∀ n, ((wr.drewN n).setCell ⟨b, 1, none⟩ (.int .i64 ((p : Int) + 1))).drew.frozen? ⟨b, 2, none⟩ = false := fun n => (F2 n).out
        have C2d : ∀ n, ((wr.drewN n).setCell ⟨b, 1, none⟩ (.int .i64 ((p : Int) + 1))).drew.cell? ⟨b, 2, none⟩ = some v := fun n => (C2 n).out
        have O1d : ∀ n, (convert 50 9 vo).run Tryz.prog ((wr.drewN n).setCell ⟨b, 1, none⟩ (.int .i64 ((p : Int) + 1))).drew = .ok (.string ⟨out.toArray⟩) ((wr.drewN n).setCell ⟨b, 1, none⟩ (.int .i64 ((p : Int) + 1))).drew := fun n => OutRow.conv (by exact (O1 n).out)
        have HS : b + 1 ≤ wr.heap.size := Nat.le_trans hbb hC.out.size
        have NE : Hid (some b ≠ v.ownBlock) := fun h => by have := (hT.out.lt b h.symm).1; omega
        have NO : Hid (∀ k, v.ownBlock = some k → k < w.heap.size) := fun k h => (HT.out.lt k h).2
        have C2a : ∀ n o, (((wr.drewN n).setCell ⟨b, 1, none⟩ (.int .i64 ((p : Int) + 1))).alloc o).drew.cell? ⟨b, 2, none⟩ = some v := fun n o => cell_ad o (C2 n).out
        have O1a : ∀ n o, (convert 50 9 vo).run Tryz.prog (((wr.drewN n).setCell ⟨b, 1, none⟩ (.int .i64 ((p : Int) + 1))).alloc o).drew = .ok (.string ⟨out.toArray⟩) (((wr.drewN n).setCell ⟨b, 1, none⟩ (.int .i64 ((p : Int) + 1))).alloc o).drew := fun n o => ((O1 n).out.ad o).conv
        go_region_law ((refine step_append_lies _ (by rfl) _ _ _ (by rfl) (b + 1) 104 iT _ 4 40 Tryz.underlying66 hj0 hy0 hy1 hy2 rfl (by omega) v toks.length (toks.flatMap tokCells) (by rfl) (by exact ownsRow_ad (T1 _).out _) ⟨wr.heap.size, 0, none⟩ 1 1 (tokCells ⟨5, out, 0, i⟩) (by rfl) (by rfl) (by exact World.news_of_block (new_ad _ _ _ (by simp [World.setCell]))) (by simp [Value.oneCell', tokCells]) (by omega) (by unfold maxLen; omega) (by omega) (by simp [World.setCell]; omega) _ (by rfl) ?_; intro gg cap w1 hown1 hgrow hat hlt; have q2 := hgrow.cell (cell_ad _ (C2 _).out) NE.out; have q3 := grown_frozen hgrow (cell_ad _ (C2 _).out) (frozen_ad _ (C2 _).out (F2 _).out) NE.out))
        all_goals
          go_wp2_with fail
          refine bodyPost_ret (results_none rfl _ _ _) rfl ?_
          rw [HR.out, HX.out]
          obtain ⟨e1, e2, e3⟩ := push_end (w := w) (t := ⟨5, out, 0, i⟩) (Chg.set (p := ⟨b, 1, none⟩) ((hC.out.mono (fun j _ h => Nat.le_of_eq h.symm)).drewN _) (fun _ => Nat.le_refl _) _) (Lexer.set1 (w := wr.drewN _) hL.out (show (p : Int) + 1 = (p + 1 : Nat) by omega)) (T1 _).out hgrow hown1
          exact ⟨rfl, ⟨_, e1, e2⟩, e3.toBelow (by omega) (fun k _ h => h)⟩
      · by_cases k2 : c = 92
        · have n1 : 92 ≤ c.toNat ∧ c.toNat ≤ 92 := by subst k2; decide
          rw [k2] at hat
          have KW := fun n => Lib.hid (Chg.set (F := (· = b)) ((Chg.refl _ wr).drewN n) (fun _ => rfl) (Value.int .i64 ((p : Int) + 1)) (p := ⟨b, 1, none⟩))
          have LW := fun n => Lib.hid (Lexer.set1 (w := wr.drewN n) hL.out (show (p : Int) + 1 = (p + 1 : Nat) by omega))
          have GW := fun n => Lib.hid (HG.out.chg (hC.out.trans (KW n).out) HB.out.1 HB.out.2)
          rcases he : esc s.data.toList (p + 1) with ⟨x, n⟩ | ⟨cb, q⟩
          · have HX : Hid (r = .error (x, n)) := by rw [hE.out]; exact text_be hat he
            have HQ := Lib.hid he
            clear hat k1 k2 he
            go_wp2_with fail
            go_quiet (fail)
            go_wp2_with fail
            go_quiet (fail)
            go_wp2_with fail
            refine (escaped_err s (p + 1) b v _ hs (by omega) (LW _).out (GW _).out HB.out.1 HB.out.2 x n HQ.out).mono ?_
            rintro e w1 ⟨rfl, h1⟩
            go_wp2_with fail
            rw [HR.out, HX.out]
            exact ⟨rfl, rfl, ((hC.out.trans (KW _).out).trans h1).toBelow (by omega) (fun k _ h => Nat.le_of_eq h.symm)⟩
          · have HX : Hid (r = text s.data.toList k q (out ++ [cb])) := by rw [hE.out]; exact text_b hat he
            have HQ := Lib.hid he
            have hq := esc_lt he
            rw [len_is] at hq
            clear hat k1 k2 he
            go_wp2_with fail
            go_quiet (fail)
            go_wp2_with fail
            go_quiet (fail)
            go_wp2_with fail
            refine (escaped_ok s (p + 1) b v _ hs (by omega) (LW _).out (GW _).out HB.out.1 HB.out.2 cb q HQ.out).mono ?_
            rintro e w1 ⟨rfl, h1, h2⟩
            have L1 := Lib.hid h1
            have K1 := Lib.hid ((hC.out.trans (KW _).out).trans h2)
            have T1 := Lib.hid (hT.out.chg ((KW _).out.trans h2))
            have O1 := Lib.hid (hO.out.chg ((KW _).out.trans h2) (fun k h1 h2 => by omega))
            clear h1 h2
            go_wp2_with (at_builtin; refine wpList_append_own _ rfl _ _ 50 rfl w.heap.size 5 iB (.int .u8 0) 1 1 Tryz.underlying50 hi0 hz0 hz1 hz2 rfl (by decide) _ _ _ rfl (World.ownsRow.alloc O1.out _) ⟨w1.heap.size, 0, none⟩ 1 1 [.int .u8 cb.toNat] rfl rfl ?d1 ?d2 ?d3 ?d4 ?d5 ?_)
            case d1 => exact World.news_of_block (blk_new _ _)
            case d2 => intro u hu; simp at hu; subst hu; rfl
            case d3 => unfold maxLen; omega
            case d4 => omega
            case d5 => have := K1.out.size; simp; omega
            intro v' w2 hown' hgrow _
            obtain ⟨g1, g2, g3⟩ := push_byte hbb HT.out K1.out L1.out T1.out O1.out hgrow
            have G1 := Lib.hid g1
            have G2 := Lib.hid g2
            have G3 := Lib.hid g3
            have G4 : Hid (OutRow w.heap.size v' (out ++ [cb]) w2) := by
              unfold OutRow
              rw [List.length_append, List.map_append]
              exact hown'
            clear g1 g2 g3 hown' hgrow
            go_wp2_with fail
            go_roundg k
            case measure => omega
            case rel => exact ⟨q, out ++ [cb], v', rfl, HX, by omega, by omega, G4, by simp; omega, G1, G2, G3⟩
        · have HX : Hid (r = text s.data.toList k (p + 1) (out ++ [c])) := by rw [hE.out]; exact text_c hat k1 k2
          have n1 : c.toNat ≠ 34 := fun h => k1 (UInt8.toNat_inj.1 h)
          have n2 : c.toNat ≠ 92 := fun h => k2 (UInt8.toNat_inj.1 h)
          have O1 := fun n => Lib.hid (OutRow.chg (F := (· = b)) hO.out (Chg.set (F := (· = b)) ((Chg.refl _ wr).drewN n) (fun _ => rfl) (Value.int .i64 ((p : Int) + 1)) (p := ⟨b, 1, none⟩)) (fun k h1 h2 => by omega))
          clear hat k1 k2
          go_wp2_with fail
          go_quiet (fail)
          go_wp2_with fail
          go_quiet (fail)
          go_wp2_with (at_builtin; refine wpList_append_own _ rfl _ _ 50 rfl w.heap.size 5 iB (.int .u8 0) 1 1 Tryz.underlying50 hi0 hz0 hz1 hz2 rfl (by decide) _ _ _ rfl (World.ownsRow.alloc (O1 _).out _) ⟨wr.heap.size, 0, none⟩ 1 1 [.int .u8 c.toNat] rfl rfl ?c1 ?c2 ?c3 ?c4 ?c5 ?_)
          case c1 => exact World.news_of_block (by rw [show wr.heap.size = ((wr.drewN _).setCell ⟨b, 1, none⟩ (.int .i64 ((p : Int) + 1))).heap.size by simp [World.setCell]]; exact blk_new _ _)
          case c2 => intro u hu; simp at hu; subst hu; rfl
          case c3 => unfold maxLen; omega
          case c4 => omega
          case c5 => have := hC.out.size; simp [World.setCell]; omega
          intro v' w1 hown' hgrow _
          obtain ⟨g1, g2, g3⟩ := push_byte hbb HT.out (Chg.set (p := ⟨b, 1, none⟩) (hC.out.drewN _) (fun _ => rfl) _) (Lexer.set1 (w := wr.drewN _) hL.out (show (p : Int) + 1 = (p + 1 : Nat) by omega)) (hT.out.chg (Chg.set (F := (· = b)) ((Chg.refl _ wr).drewN _) (fun _ => rfl) (Value.int .i64 ((p : Int) + 1)) (p := ⟨b, 1, none⟩))) (O1 _).out hgrow
          have G1 := Lib.hid g1
          have G2 := Lib.hid g2
          have G3 := Lib.hid g3
          have G4 : Hid (OutRow w.heap.size v' (out ++ [c]) w1) := by
            unfold OutRow
            rw [List.length_append, List.map_append]
            exact hown'
          clear g1 g2 g3 hown' hgrow
          go_wp2_with fail
          go_roundg k
          case measure => omega
          case rel => exact ⟨p + 1, out ++ [c], v', rfl, HX, by omega, by omega, G4, by simp; omega, G1, G2, G3⟩
    · have HX : Hid (r = .error (s.size, 11)) := by rw [hE.out, ← len_is]; exact text_none (at_none s p (by omega))
      have h2 : ¬ p < s.size := by omega
      go_wp2_with fail
      go_quiet (fail)
      go_wp2_with fail
      rw [HR.out, HX.out]
      exact ⟨rfl, rfl, (hC.out.drewN _).toBelow (by omega) (fun k _ h => by omega)⟩
end Go.Proofs.YtaklmocjaokkpaaGreatDoor.Lx
