/- show's Quote, walked: a text as it is shown. Condition: a text of at most 70000 bytes. -/
import Derived.Test.YtaklmocjaokkpaaGreatDoorTreeShow3
import Derived.Test.YtaklmocjaokkpaaGreatDoorLexQuote
import Derived.Laws.IdiomStrings
import Derived.Deep.RegionWith
namespace Go.Proofs.YtaklmocjaokkpaaGreatDoor.Tr
set_option linter.unusedVariables false
set_option linter.unusedSimpArgs false
open Go.RowKit Go.Shelf Go.Proofs.YtaklmocjaokkpaaGreatDoor.Mem

theorem chg_freeze (w : World) (g n : Nat) : Chg (fun k => k = g) w (w.freeze ⟨g, 0, none⟩ n) := by
  unfold World.freeze
  split
  · exact Chg.refl _ w
  · refine ⟨rfl, rfl, rfl, by simp, fun k hk hne => ?_⟩
    simp only [Array.getElem?_modify]
    rw [if_neg (fun e => hne e.symm)]
set_option maxRecDepth 100000 in
set_option maxHeartbeats 1000000 in
theorem fstr_calls (b : Nat) (v : Value) (l : List UInt8) (w : World) (h : BF b v l w) (h0 : l ≠ []) :
    Calls Tryz.prog 34 #[.pointer (some ⟨b, 1, none⟩)] w fun e w' => e = .returned (.string ⟨l.toArray⟩) ∧ Chg (fun k => v.ownBlock = some k) w w' := by
  obtain ⟨⟨p, hp, hb⟩, hrw, hne⟩ := h
  rcases hrw with ⟨_, e⟩ | ⟨g, cap, cur, rfl, hg, h1, h2, h3, h4⟩
  · exact absurd e h0
  have hl0 : l.length ≠ 0 := by simpa using h0
  have c2 := cell_of hb 2
  have hSD : ∀ ty, (Builtin.unsafeSliceData_ #[50] ty #[.slice (some ⟨g, 0, none⟩) l.length cap]).run Tryz.prog w.drew = .ok (.pointer (some ⟨g, 0, none⟩)) w.drew := fun ty =>
    Lib.run_unsafeSliceData_row _ _ _ _ _ _ (by omega)
  have hUS : ∀ ty, (Builtin.unsafeString_ #[88, 3] ty #[.pointer (some ⟨g, 0, none⟩), .int .i64 l.length]).run Tryz.prog w.drew = .ok (.string ⟨l.toArray⟩) (w.drew.freeze ⟨g, 0, none⟩ l.length) := fun ty => by
    have hg' : w.drew.heap[g]? = some (.cells cur 5 (0, 0)) := hg
    refine Lib.run_unsafeString_row w.drew 88 3 ty 5 Tryz.underlying88 (by kernel_rfl) g cur.size (by simp [World.shape?, hg']) l h0 (by omega) (by unfold maxLen at h2; omega) ?_
    intro j x hx
    have hj : j < l.length := (List.getElem?_eq_some_iff.1 hx).1
    have hadd : (⟨g, 0, none⟩ : Addr).add j = ⟨g, j, none⟩ := by unfold Addr.add; split <;> simp_all
    have h5 : (Lib.byteCells l)[j]? = some (.int .u8 x.toNat) := by simp [Lib.byteCells, hx]
    rw [hadd, cell_of hg', ← Array.getElem?_toList, ← h5, ← h4, List.getElem?_take, if_pos hj]
  have hfin : Chg (fun k => (Value.slice (some ⟨g, 0, none⟩) l.length cap).ownBlock = some k) w (w.drew.freeze ⟨g, 0, none⟩ l.length) :=
    ((Chg.refl _ w).drew).trans ((chg_freeze w.drew g l.length).mono (fun k _ e => by rw [e]; rfl))
  have HFIN := Lib.hid hfin
  clear hb hg h4 hfin
  go_enter Tryz.func34, Tryz.ntmps34
  go_wp2
  go_region
  all_goals (go_wp2; go_ret; exact ⟨rfl, HFIN.out⟩)
theorem own_some2 {g off n cap b : Nat} (h : (Value.slice (some ⟨g, off, none⟩) n cap).ownBlock = some b) : g = b := by simpa [Value.ownBlock] using h
/-- The loop's state. -/
def St (b q : Nat) (w W : World) (v : Value) (l : List UInt8) (wr : World) : Prop := BF b v l wr ∧ (∀ k, v.ownBlock = some k → b ≤ k ∧ k ≠ q) ∧ Chg (fun k => b ≤ k) w wr ∧ Chg (fun k => k ≠ q) W wr
theorem St.step {b q : Nat} {w W wr w' : World} {v v' : Value} {l l' : List UInt8} (h : St b q w W v l wr) (hb : b < w.heap.size) (hqb : b ≠ q) (hqW : q < W.heap.size) (hbf : BF b v' l' w') (hst : Stp b v v' wr w') : St b q w W v' l' w' :=
  ⟨hbf, fun k hk => (hst.2 k hk).elim (h.2.1 k) (fun e => ⟨by have := h.2.2.1.size; omega, by have := h.2.2.2.size; omega⟩), h.2.2.1.andThen hst.1 (fun k hk e => e.elim (fun e => by omega) (fun e => (h.2.1 k e).1)), h.2.2.2.andThen hst.1 (fun k hk e => e.elim (fun e => by rw [e]; exact hqb) (fun e => (h.2.1 k e).2))⟩
theorem St.drew {b q : Nat} {w W wr : World} {v : Value} {l : List UInt8} (h : St b q w W v l wr) : St b q w W v l wr.drew := ⟨h.1, h.2.1, h.2.2.1.drew, h.2.2.2.drew⟩
theorem and15_all : ∀ n : Fin 256, bits BinOp.and IntKind.u8 (n.val : Int) 15 = ((n.val % 16 : Nat) : Int) := by decide +kernel
theorem and15 (c : UInt8) : bits BinOp.and IntKind.u8 (c.toNat : Int) 15 = ((c.toNat % 16 : Nat) : Int) := and15_all ⟨c.toNat, c.toNat_lt⟩
theorem quo16' (c : UInt8) : ((c.toNat / 16 : Nat) : Int) = (c.toNat : Int) / 16 := by omega
set_option maxRecDepth 100000 in
set_option maxHeartbeats 2000000 in
theorem squote_calls (b : Nat) (s : ByteArray) (w : World) (h : BF b (.slice none 0 0) [] w) (hs : s.size ≤ 70000) :
    Calls Tryz.prog 82 #[.pointer (some ⟨b, 0, none⟩), .string s] w fun e w' => e = .returned (.tuple #[]) ∧ ∃ v, BF b v (Lx.quote (bl s)) w' ∧ Chg (fun k => b ≤ k) w w' ∧ ∀ k, v.ownBlock = some k → b ≤ k := by
  have HW1 := Lib.hid (wb_calls b _ [] 34 w h (by simp))
  have hbw : b < w.heap.size := by obtain ⟨⟨p, _, hb⟩, _⟩ := h; exact lt_of_block hb
  have HQ := Lx.quote_len (bl s)
  rw [bl_len] at HQ
  clear h
  go_enter Tryz.func82, Tryz.ntmps82
  go_wp2_with fail
  refine HW1.out.mono ?_
  rintro e w1 ⟨rfl, v1, hbf1, hst1⟩
  obtain ⟨W, hW⟩ : ∃ W, w1.drew.alloc (.cells (bytesRow s (grownCap w1 s.size 0 5)) 5 ((bytesRow s (grownCap w1 s.size 0 5)).size, (bytesRow s (grownCap w1 s.size 0 5)).size + 1)) = W := ⟨_, rfl⟩
  have hcv : (convert 9 50 (.string s)).run Tryz.prog w1 = .ok (.slice (some ⟨w1.heap.size, 0, none⟩) s.size (grownCap w1 s.size 0 5)) W := by
    rw [← hW]
    exact run_bytes_of_string w1 9 50 5 s Tryz.underlying9 Tryz.underlying50 Tryz.underlying5
  have hCW : Chg (fun _ => False) w1 W := by rw [← hW]; exact (Chg.refl _ w1).drew.alloc _
  have hq : W.heap[w1.heap.size]? = some (.cells (bytesRow s (grownCap w1 s.size 0 5)) 5 ((bytesRow s (grownCap w1 s.size 0 5)).size, (bytesRow s (grownCap w1 s.size 0 5)).size + 1)) := by rw [← hW]; exact heap_alloc_new w1.drew _
  have hcell : ∀ j c, (bl s)[j]? = some c → W.cell? ⟨w1.heap.size, j, none⟩ = some (.int .u8 (c.toNat : Int)) := fun j c hc => by
    have hj : j < s.data.size := by
      have := (List.getElem?_eq_some_iff.1 hc).1
      rwa [bl_len] at this
    have := bytesRow_at s (grownCap w1 s.size 0 5) j hj
    rw [cell_of hq, this]
    have e : s.data[j] = c := by
      have h2 : (bl s)[j]? = some s.data[j] := by unfold bl; simp [hj]
      rw [hc] at h2
      exact (Option.some.inj h2).symm
    rw [e]
  have hcap := grownCap_ge w1 s.size 0 5
  obtain ⟨cp, hcp⟩ : ∃ cp, grownCap w1 s.size 0 5 = cp := ⟨_, rfl⟩
  rw [hcp] at hcv hcap
  have hs1 := hst1.1.size
  have hqW : w1.heap.size < W.heap.size := lt_of_block hq
  have hqb : b ≠ w1.heap.size := by omega
  obtain ⟨q, hqe⟩ : ∃ q, w1.heap.size = q := ⟨_, rfl⟩
  have HST : Hid (St b w1.heap.size w W v1 (34 :: ((bl s).take 0).flatMap Lx.qb) W) := Lib.hid ⟨by
      refine ⟨?_, hbf1.2.1.kept hCW (fun _ _ e => e), hbf1.2.2⟩
      obtain ⟨p, hp, hb⟩ := hbf1.1
      exact ⟨p, hp, hCW.blk hb (fun e => e)⟩, fun k hk => by
      rcases hst1.2 k hk with e | e
      · cases e
      · have : k < w1.heap.size := by
          rcases hbf1.2.1 with ⟨e1, _⟩ | ⟨g, cap, cur, e1, hg, _⟩
          · rw [e1] at hk; cases hk
          · rw [e1] at hk
            have := own_some2 hk
            rw [← this]
            exact lt_of_block hg
        exact ⟨by omega, by omega⟩, (hst1.1.mono (fun k _ e => e.elim (fun e => by omega) (fun e => by simp [Value.ownBlock] at e))).trans (hCW.mono (fun _ _ e => e.elim)), Chg.refl _ W⟩
  rw [hqe] at hcv hcell hqW hqb HST
  have HCE := Lib.hid hcell
  clear hW hCW hq hcell hcp HW1 hst1 hbf1 hs1
  go_wp2_with fail
  go_loopg [13] (s.size + 1) (fun g vi wr => ∃ (j : Nat) (v : Value), vi = .int .i64 j ∧ j ≤ s.size ∧ s.size < g + j ∧ Hid (St b q w W v (34 :: ((bl s).take j).flatMap Lx.qb) wr))
  case atStart => exact ⟨0, v1, rfl, by omega, by omega, HST⟩
  case round =>
    obtain ⟨j, v, rfl, hj, hg, hS⟩ := hrel
    by_cases hlt : j < s.size
    · obtain ⟨gk', rfl⟩ : ∃ q, gk = q + 1 := ⟨gk - 1, by omega⟩
      obtain ⟨c, hc⟩ : ∃ c, (bl s)[j]? = some c := ⟨_, List.getElem?_eq_getElem (by rw [bl_len]; exact hlt)⟩
      have c0 := hS.out.2.2.2.cell (HCE.out j c hc) (fun e => e rfl)
      have hst := Lx.take_step (bl s) j c hc
      obtain ⟨l, hl⟩ : ∃ l, 34 :: ((bl s).take j).flatMap Lx.qb = l := ⟨_, rfl⟩
      have HNX : Hid (34 :: ((bl s).take (j + 1)).flatMap Lx.qb = l ++ Lx.qb c) := Lib.hid (by rw [hst, ← hl]; rfl)
      have hll : l.length ≤ 300000 := by
        have h1 := Lx.quote_len ((bl s).take j)
        unfold Lx.quote at h1
        rw [List.length_take, bl_len] at h1
        simp only [List.length_cons, List.length_append, List.length_nil] at h1
        rw [← hl, List.length_cons]
        omega
      rw [hl] at hS
      have hlne : l ≠ [] := by rw [← hl]; simp
      have HLNE := Lib.hid hlne
      have i0 : (0 : Int) ≤ (j : Int) := by omega
      have i1 : (j : Int) < (s.size : Int) := by omega
      have hc8 := c.toNat_lt
      clear hc hst hl hlne
      by_cases k1 : c = 34 ∨ c = 92
      · have hq : Lx.qb c = [92, c] := by unfold Lx.qb; rw [if_pos k1]
        have key : ((c.toNat : Int) == 34) = true ∨ (((c.toNat : Int) == 34) = false ∧ ((c.toNat : Int) == 92) = true) := by
          rcases k1 with e | e
          · left; subst e; decide
          · right; subst e; decide
        rw [hq] at HNX
        clear k1 hq
        rcases key with t1 | ⟨t1, t2⟩
        all_goals
          go_wp2_with fail
          refine (wb_calls b v l 92 wr hS.out.1 (by omega)).mono ?_
          rintro e w5 ⟨rfl, v5, hbf5, hst5⟩
          have HS5 := Lib.hid (hS.out.step hbw hqb hqW hbf5 hst5)
          clear hbf5 hst5 c0
          go_wp2_with fail
          refine (wb_calls b v5 (l ++ [92]) c w5 HS5.out.1 (by rw [List.length_append]; simp; omega)).mono ?_
          rintro e w6 ⟨rfl, v6, hbf6, hst6⟩
          have HS6 := Lib.hid (HS5.out.step hbw hqb hqW hbf6 hst6)
          clear hbf6 hst6
          go_wp2_with fail
          go_roundg gk'
          case measure => omega
          case rel => exact ⟨j + 1, v6, by go_num, by omega, by omega, Lib.hid (by rw [HNX.out]; simpa using HS6.out)⟩
      · have t1 : ((c.toNat : Int) == 34) = false := Lx.not34 c (fun e => k1 (.inl e))
        have t2 : ((c.toNat : Int) == 92) = false := Lx.not92 c (fun e => k1 (.inr e))
        by_cases k2 : 32 ≤ c.toNat ∧ c.toNat ≤ 126
        · have hq : Lx.qb c = [c] := by unfold Lx.qb; rw [if_neg k1, if_pos k2]
          have t3 : (32 : Int) ≤ (c.toNat : Int) := by omega
          have t4 : (c.toNat : Int) ≤ 126 := by omega
          rw [hq] at HNX
          clear k1 k2 hq
          go_wp2_with fail
          refine (wb_calls b v l c wr hS.out.1 (by omega)).mono ?_
          rintro e w5 ⟨rfl, v5, hbf5, hst5⟩
          have HS5 := Lib.hid (hS.out.step hbw hqb hqW hbf5 hst5)
          clear hbf5 hst5 c0
          go_wp2_with fail
          go_roundg gk'
          case measure => omega
          case rel => exact ⟨j + 1, v5, by go_num, by omega, by omega, Lib.hid (by rw [HNX.out]; exact HS5.out)⟩
        · have hq : Lx.qb c = [92, 120, Lx.hexd (c.toNat / 16), Lx.hexd (c.toNat % 16)] := by unfold Lx.qb; rw [if_neg k1, if_neg k2]
          rw [hq] at HNX
          obtain ⟨x, hx⟩ : ∃ x, x = c.toNat / 16 := ⟨_, rfl⟩
          obtain ⟨y, hy⟩ : ∃ y, y = c.toNat % 16 := ⟨_, rfl⟩
          have r1 : (c.toNat : Int) / 16 = (x : Int) := by omega
          have r3 := Lx.hex_at x
          have r4 := Lx.hex_at y
          rw [← hx, ← hy] at HNX
          have x1 : x < 16 := by omega
          have y1 : y < 16 := by omega
          have x2 : (x : Int) < 16 := by omega
          have y2 : (y : Int) < 16 := by omega
          have x3 : (0 : Int) ≤ (x : Int) := by omega
          have y3 : (0 : Int) ≤ (y : Int) := by omega
          have r5 : IntKind.u8.wrap ((c.toNat : Int) / 16) = (x : Int) := by rw [r1]; simp [IntKind.wrap, IntKind.signed, IntKind.bits]; omega
          have r6 : bits BinOp.and IntKind.u8 (c.toNat : Int) 15 = (y : Int) := by rw [hy]; exact and15 c
          have key : ¬ (32 : Int) ≤ (c.toNat : Int) ∨ ((32 : Int) ≤ (c.toNat : Int) ∧ ¬ (c.toNat : Int) ≤ 126) := by omega
          clear k1 k2 hq hx hy
          rcases key with t3 | ⟨t3, t4⟩
          all_goals
            go_wp2_with fail
            refine (ws_calls b v l ⟨#[92, 120]⟩ wr hS.out.1 HLNE.out (by show l.length + 2 ≤ _; omega)).mono ?_
            rintro e w5 ⟨rfl, v5, hbf5, hst5⟩
            have HS5 := Lib.hid (hS.out.step hbw hqb hqW hbf5 hst5)
            clear hbf5 hst5 c0
            go_wp2_with fail
            have HB5 := Lib.hid (wb_calls b v5 _ (Lx.hexd x) w5.drew HS5.out.drew.1 (by rw [List.length_append, bl_len]; show l.length + 2 + 1 ≤ _; omega))
            first
              | go_region_with (go_at_call 63; refine HB5.out.mono ?_; rintro e w6 ⟨rfl, v6, hbf6, hst6⟩)
              | fail
            have HS6 := Lib.hid (HS5.out.drew.step hbw hqb hqW hbf6 hst6)
            clear hbf6 hst6 HB5
            have HB6 := Lib.hid (wb_calls b v6 _ (Lx.hexd y) w6.drew HS6.out.drew.1 (by rw [List.length_append, List.length_append, bl_len]; show l.length + 2 + 1 + 1 ≤ _; omega))
            go_wp2_with fail
            first
              | go_region_with (go_at_call 63; refine HB6.out.mono ?_; rintro e w7 ⟨rfl, v7, hbf7, hst7⟩)
              | fail
            have HS7 := Lib.hid (HS6.out.drew.step hbw hqb hqW hbf7 hst7)
            clear hbf7 hst7 HB6
            go_wp2_with fail
            go_roundg gk'
            case measure => omega
            case rel => exact ⟨j + 1, v7, by go_num, by omega, by omega, Lib.hid (by rw [HNX.out]; simpa [bl] using HS7.out)⟩
    · obtain rfl : j = s.size := by omega
      have hkk : ¬ ((s.size : Nat) : Int) < ((s.size : Nat) : Int) := by omega
      have hall : (bl s).take s.size = bl s := List.take_of_length_le (by rw [bl_len]; exact Nat.le_refl _)
      rw [hall] at hS
      clear hall
      go_wp2_with fail
      refine (wb_calls b v (34 :: (bl s).flatMap Lx.qb) 34 wr hS.out.1 (by unfold Lx.quote at HQ; simp only [List.length_cons, List.length_append, List.length_nil] at HQ ⊢; omega)).mono ?_
      rintro e w5 ⟨rfl, v5, hbf5, hst5⟩
      have HS5 := Lib.hid (hS.out.step hbw hqb hqW hbf5 hst5)
      clear hbf5 hst5
      go_wp2_with fail
      go_end0
      exact ⟨rfl, v5, HS5.out.1, HS5.out.2.2.1, fun k hk => (HS5.out.2.1 k hk).1⟩
end Go.Proofs.YtaklmocjaokkpaaGreatDoor.Tr
