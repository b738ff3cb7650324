/- A text as the document shows it: what it is, and the walk of the reference's Quote. No condition but a text's size. -/
import Derived.Test.YtaklmocjaokkpaaGreatDoorLexB
import Derived.Test.YtaklmocjaokkpaaGreatDoorLexD
import Derived.Deep.AppendLies
namespace Go.Proofs.YtaklmocjaokkpaaGreatDoor.Lx
set_option linter.unusedVariables false
set_option linter.unusedSimpArgs false
open Go.RowKit Go.Proofs.YtaklmocjaokkpaaGreatDoor.Mem

theorem push_row {B : Nat} {vo : Value} {out : List UInt8} {W w1 : World} {o : Obj} (hz : B ≤ W.heap.size) (O0 : OutRow B vo out W) (hg : (W.alloc o).grownBy w1 vo.ownBlock) : Chg (B ≤ ·) W w1 ∧ B ≤ w1.heap.size := by
  have h1 : ∀ k, vo.ownBlock = some k → B ≤ k := fun k hk => (World.ownsRow.lt O0 k hk).1
  have h2 : Chg (B ≤ ·) W w1 := ((Chg.refl _ W).alloc o).grown hg (fun k hk e => h1 k e)
  exact ⟨h2, Nat.le_trans hz h2.size⟩

theorem push_row_d {B : Nat} {vo : Value} {out : List UInt8} {W w1 : World} {o : Obj} (hz : B ≤ W.heap.size) (O0 : OutRow B vo out W) (hg : (W.alloc o).drew.grownBy w1 vo.ownBlock) : Chg (B ≤ ·) W w1 ∧ B ≤ w1.heap.size :=
  push_row (o := o) hz O0 ⟨hg.os, hg.tape, hg.output, hg.size, hg.block⟩
theorem quo16 (c : UInt8) : IntKind.u8.wrap ((c.toNat : Int) / 16) = ((c.toNat / 16 : Nat) : Int) := by
  have h := c.toNat_lt
  simp [IntKind.wrap, IntKind.signed, IntKind.bits]
  omega
theorem rem16 (c : UInt8) : (c.toNat : Int).tmod 16 = ((c.toNat % 16 : Nat) : Int) := by
  rw [Int.tmod_eq_emod_of_nonneg (by omega)]; omega
theorem hexs_at : ∀ x, x < 16 → (⟨#[48, 49, 50, 51, 52, 53, 54, 55, 56, 57, 97, 98, 99, 100, 101, 102]⟩ : ByteArray)[x]! = hexd x := by decide
theorem hex_at (x : Nat) (h : x < (⟨#[48, 49, 50, 51, 52, 53, 54, 55, 56, 57, 97, 98, 99, 100, 101, 102]⟩ : ByteArray).size) : (⟨#[48, 49, 50, 51, 52, 53, 54, 55, 56, 57, 97, 98, 99, 100, 101, 102]⟩ : ByteArray)[x]'h = hexd x := by
  rw [← hexs_at x h]; exact (getElem!_pos (⟨#[48, 49, 50, 51, 52, 53, 54, 55, 56, 57, 97, 98, 99, 100, 101, 102]⟩ : ByteArray) x h).symm
theorem not34 (c : UInt8) (h : ¬ c = 34) : ((c.toNat : Int) == 34) = false := by
  rw [beq_eq_false_iff_ne]; intro e; apply h; apply UInt8.toNat_inj.1; show c.toNat = 34; omega
theorem not92 (c : UInt8) (h : ¬ c = 92) : ((c.toNat : Int) == 92) = false := by
  rw [beq_eq_false_iff_ne]; intro e; apply h; apply UInt8.toNat_inj.1; show c.toNat = 92; omega

set_option maxRecDepth 100000 in
set_option maxHeartbeats 8000000 in
theorem quote_calls (s : ByteArray) (w : World) (hs : s.size ≤ 70000) :
    Calls Tryz.prog 38 #[.string s] w fun e w' => e = .returned (.string ⟨(quote s.data.toList).toArray⟩) ∧ Below w.heap.size w w' := by
  obtain ⟨iB, hi0, hz0, hz1, hz2⟩ := info_parts infoB
  have HQ : ∀ k, (quote s.data.toList).length = k → k ≤ 280002 := fun k h => by have := quote_len s.data.toList; rw [len_is] at this; omega
  go_enter Tryz.func38, Tryz.ntmps38
  go_wp2_with fail
  have b0 : Below w.heap.size w (w.alloc (.cells #[.int .u8 34] 5)) := (Below.refl _ _).alloc (Nat.le_refl _) _
  have b2 : OutRow w.heap.size (.slice (some ⟨w.heap.size, 0, none⟩) 1 1) [34] (w.alloc (.cells #[.int .u8 34] 5)) :=
    World.ownsRow_lit (base := w.heap.size) (e := 5) (size := 1) w #[.int .u8 34] 1 (by simp) (by decide) rfl
  have z0 : w.heap.size ≤ (w.alloc (.cells #[.int .u8 34] 5)).heap.size := by simp
  generalize (w.alloc (.cells #[.int .u8 34] 5)) = W0 at *
  obtain ⟨B, hB⟩ : ∃ B, B = w.heap.size := ⟨_, rfl⟩
  rw [← hB] at b0 b2 z0 ⊢
  have B0 := Lib.hid b0
  have B2 := Lib.hid b2
  have HB := Lib.hid hB
  clear b0 b2 hB
  go_loopg [4, 5] (s.size + 1) (fun k vo vi wr => ∃ p out x, x = vo ∧ vi = .int .i64 ((p : Nat) : Int) ∧ Hid (out = 34 :: (s.data.toList.take p).flatMap qb) ∧ p ≤ s.size ∧ s.size < k + p ∧ Hid (OutRow B x out wr) ∧ out.length ≤ 4 * p + 1 ∧ Hid (Below B w wr) ∧ B ≤ wr.heap.size)
  case atStart => exact ⟨0, [34], _, rfl, rfl, rfl, by omega, by omega, B2, by simp, B0, z0⟩
  case round =>
    obtain ⟨p, out, vo, rfl, rfl, hE, hp, hk, hO, hol, hC, hz⟩ := hrel
    by_cases hlt : p < s.size
    · have hat := at_get s p hlt
      obtain ⟨k, rfl⟩ : ∃ m, gk = m + 1 := ⟨gk - 1, by omega⟩
      obtain ⟨c, hc⟩ : ∃ c, s[p] = c := ⟨_, rfl⟩
      rw [hc] at hat
      have HN : Hid (out ++ qb c = 34 :: (s.data.toList.take (p + 1)).flatMap qb) := by rw [hE.out, take_step _ _ _ hat]; rfl
      have HL : (out ++ qb c).length ≤ 4 * (p + 1) + 1 := by have := qb_len c; rw [List.length_append]; omega
      have i0 : (0 : Int) ≤ (p : Int) := by omega
      have i1 : (p : Int) < (s.size : Int) := by omega
      clear hat
      by_cases k1 : c = 34 ∨ c = 92
      · have hq : qb c = [92, c] := by unfold qb; rw [if_pos k1]
        rcases k1 with k1 | k1
        · have t1 : ((c.toNat : Int) == 34) = true := by subst k1; decide
          clear k1
          go_wp2_with (at_builtin; refine wpList_append_own _ rfl _ _ 50 rfl B 5 iB (.int .u8 0) 1 1 Tryz.underlying50 hi0 hz0 hz1 hz2 rfl (by decide) _ _ _ rfl (World.ownsRow.alloc hO.out _) ⟨wr.heap.size, 0, none⟩ 2 2 [.int .u8 92, .int .u8 c.toNat] rfl rfl ?xa1 ?xa2 ?xa3 ?xa4 ?xa5 ?_)
          case xa1 => exact World.news_of_block (blk_new _ _)
          case xa2 => intro u hu; simp at hu; rcases hu with rfl | rfl <;> rfl
          case xa3 => unfold maxLen; omega
          case xa4 => omega
          case xa5 => simp; omega
          intro v' w1 hown' hgrow _
          obtain ⟨g1, g2⟩ := push_row hz hO.out hgrow
          have G2 : Hid (Below B w w1) := hC.out.trans (g1.toBelow (by omega) (fun k _ h => by omega))
          have G4 : Hid (OutRow B v' (out ++ qb c) w1) := by
            rw [hq]
            unfold OutRow
            rw [List.length_append, List.map_append]
            exact hown'
          clear g1 hown' hgrow

          go_wp2_with fail
          go_roundg k
          case measure => omega
          case rel => exact ⟨p + 1, out ++ qb c, v', rfl, by go_num, HN, by omega, by omega, G4, HL, G2, g2⟩
        · have t1 : ((c.toNat : Int) == 34) = false := by subst k1; decide
          have t2 : ((c.toNat : Int) == 92) = true := by subst k1; decide
          clear k1
          go_wp2_with (at_builtin; refine wpList_append_own _ rfl _ _ 50 rfl B 5 iB (.int .u8 0) 1 1 Tryz.underlying50 hi0 hz0 hz1 hz2 rfl (by decide) _ _ _ rfl (World.ownsRow.alloc hO.out _) ⟨wr.heap.size, 0, none⟩ 2 2 [.int .u8 92, .int .u8 c.toNat] rfl rfl ?xb1 ?xb2 ?xb3 ?xb4 ?xb5 ?_)
          case xb1 => exact World.news_of_block (blk_new _ _)
          case xb2 => intro u hu; simp at hu; rcases hu with rfl | rfl <;> rfl
          case xb3 => unfold maxLen; omega
          case xb4 => omega
          case xb5 => simp; omega
          intro v' w1 hown' hgrow _
          obtain ⟨g1, g2⟩ := push_row hz hO.out hgrow
          have G2 : Hid (Below B w w1) := hC.out.trans (g1.toBelow (by omega) (fun k _ h => by omega))
          have G4 : Hid (OutRow B v' (out ++ qb c) w1) := by
            rw [hq]
            unfold OutRow
            rw [List.length_append, List.map_append]
            exact hown'
          clear g1 hown' hgrow

          go_wp2_with fail
          go_roundg k
          case measure => omega
          case rel => exact ⟨p + 1, out ++ qb c, v', rfl, by go_num, HN, by omega, by omega, G4, HL, G2, g2⟩
      · have t1 : ((c.toNat : Int) == 34) = false := not34 c (fun e => k1 (.inl e))
        have t2 : ((c.toNat : Int) == 92) = false := not92 c (fun e => k1 (.inr e))
        by_cases k2 : 32 ≤ c.toNat ∧ c.toNat ≤ 126
        · have hq : qb c = [c] := by unfold qb; rw [if_neg k1, if_pos k2]
          have t3 : (32 : Int) ≤ (c.toNat : Int) := by omega
          have t4 : (c.toNat : Int) ≤ 126 := by omega
          clear k1 k2
          go_wp2_with (at_builtin; refine wpList_append_own _ rfl _ _ 50 rfl B 5 iB (.int .u8 0) 1 1 Tryz.underlying50 hi0 hz0 hz1 hz2 rfl (by decide) _ _ _ rfl (World.ownsRow.alloc hO.out _) ⟨wr.heap.size, 0, none⟩ 1 1 [.int .u8 c.toNat] rfl rfl ?xc1 ?xc2 ?xc3 ?xc4 ?xc5 ?_)
          case xc1 => exact World.news_of_block (blk_new _ _)
          case xc2 => intro u hu; simp at hu; subst hu <;> rfl
          case xc3 => unfold maxLen; omega
          case xc4 => omega
          case xc5 => simp; omega
          intro v' w1 hown' hgrow _
          obtain ⟨g1, g2⟩ := push_row hz hO.out hgrow
          have G2 : Hid (Below B w w1) := hC.out.trans (g1.toBelow (by omega) (fun k _ h => by omega))
          have G4 : Hid (OutRow B v' (out ++ qb c) w1) := by
            rw [hq]
            unfold OutRow
            rw [List.length_append, List.map_append]
            exact hown'
          clear g1 hown' hgrow

          go_wp2_with fail
          go_roundg k
          case measure => omega
          case rel => exact ⟨p + 1, out ++ qb c, v', rfl, by go_num, HN, by omega, by omega, G4, HL, G2, g2⟩
        · have hq : qb c = [92, 120, hexd (c.toNat / 16), hexd (c.toNat % 16)] := by unfold qb; rw [if_neg k1, if_neg k2]
          have hc8 := c.toNat_lt
          obtain ⟨x, hx⟩ : ∃ x, x = c.toNat / 16 := ⟨_, rfl⟩
          obtain ⟨y, hy⟩ : ∃ y, y = c.toNat % 16 := ⟨_, rfl⟩
          have r1 : IntKind.u8.wrap ((c.toNat : Int) / 16) = (x : Int) := by rw [hx]; exact quo16 c
          have r2 : (c.toNat : Int).tmod 16 = (y : Int) := by rw [hy]; exact rem16 c
          have r3 := hex_at x
          have r4 := hex_at y
          have b1 : (x : Int) < 16 := by omega
          have b2 : (y : Int) < 16 := by omega
          rw [← hx, ← hy] at hq
          clear hx hy k1
          rcases (show c.toNat < 32 ∨ (32 ≤ c.toNat ∧ 126 < c.toNat) by omega) with k3 | ⟨k3, k4⟩
          · have t3 : ¬ (32 : Int) ≤ (c.toNat : Int) := by omega
            clear k2
            go_wp2_with fail
            go_region_law ((refine step_append_lies _ (by rfl) _ _ _ (by rfl) B 5 iB _ 1 1 Tryz.underlying50 hi0 hz0 hz1 hz2 rfl (by omega) vo out.length (out.map fun c => .int .u8 c.toNat) (by rfl) (by exact hO.out.ad _) ⟨wr.heap.size, 0, none⟩ 4 4 [.int .u8 92, .int .u8 120, .int .u8 (hexd x).toNat, .int .u8 (hexd y).toNat] (by rfl) (by rfl) (by exact World.news_of_block (new_ad _ _ _ rfl)) (by simp [Value.oneCell']) (by omega) (by unfold maxLen; omega) (by omega) (by simp; omega) _ (by rfl) ?_; intro gg cap w1 hown1 hgrow hat hlt))
            all_goals
              obtain ⟨g1, g2⟩ := push_row_d (by exact hz) (by exact hO.out) hgrow
              have G2 : Hid (Below B w w1) := hC.out.trans (g1.toBelow (by omega) (fun k _ h => by omega))
              have G4 : Hid (OutRow B (.slice (some ⟨gg, 0, none⟩) (out.length + 4) cap) (out ++ qb c) w1) := by
                rw [hq]
                unfold OutRow
                rw [List.length_append, List.map_append]
                exact hown1
              clear g1 hown1 hgrow
              go_wp2_with fail
              go_roundg k
              case measure => omega
              case rel => exact ⟨p + 1, out ++ qb c, _, rfl, by go_num, HN, by omega, by omega, G4, HL, G2, g2⟩
          · have t3 : (32 : Int) ≤ (c.toNat : Int) := by omega
            have t4 : ¬ (c.toNat : Int) ≤ 126 := by omega
            clear k2
            go_wp2_with fail
            go_region_law ((refine step_append_lies _ (by rfl) _ _ _ (by rfl) B 5 iB _ 1 1 Tryz.underlying50 hi0 hz0 hz1 hz2 rfl (by omega) vo out.length (out.map fun c => .int .u8 c.toNat) (by rfl) (by exact hO.out.ad _) ⟨wr.heap.size, 0, none⟩ 4 4 [.int .u8 92, .int .u8 120, .int .u8 (hexd x).toNat, .int .u8 (hexd y).toNat] (by rfl) (by rfl) (by exact World.news_of_block (new_ad _ _ _ rfl)) (by simp [Value.oneCell']) (by omega) (by unfold maxLen; omega) (by omega) (by simp; omega) _ (by rfl) ?_; intro gg cap w1 hown1 hgrow hat hlt))
            all_goals
              obtain ⟨g1, g2⟩ := push_row_d (by exact hz) (by exact hO.out) hgrow
              have G2 : Hid (Below B w w1) := hC.out.trans (g1.toBelow (by omega) (fun k _ h => by omega))
              have G4 : Hid (OutRow B (.slice (some ⟨gg, 0, none⟩) (out.length + 4) cap) (out ++ qb c) w1) := by
                rw [hq]
                unfold OutRow
                rw [List.length_append, List.map_append]
                exact hown1
              clear g1 hown1 hgrow
              go_wp2_with fail
              go_roundg k
              case measure => omega
              case rel => exact ⟨p + 1, out ++ qb c, _, rfl, by go_num, HN, by omega, by omega, G4, HL, G2, g2⟩
    · have hpe : p = s.size := by omega
      have i1 : ¬ (p : Int) < (s.size : Int) := by omega
      have HF : Hid (out ++ [34] = quote s.data.toList) := by
        rw [hE.out, hpe, ← len_is, List.take_length]; rfl
      go_wp2_with (at_builtin; refine wpList_append_own _ rfl _ _ 50 rfl B 5 iB (.int .u8 0) 1 1 Tryz.underlying50 hi0 hz0 hz1 hz2 rfl (by decide) _ _ _ rfl (World.ownsRow.alloc hO.out _) ⟨wr.heap.size, 0, none⟩ 1 1 [.int .u8 34] rfl rfl ?xe1 ?xe2 ?xe3 ?xe4 ?xe5 ?_)
      case xe2 => rfl
      case xe3 => unfold maxLen; omega
      case xe4 => omega
      case xe5 => omega
      intro v' w1 hown' hgrow _
      obtain ⟨g1, g2⟩ := push_row hz hO.out hgrow
      have G2 : Hid (Below B w w1) := hC.out.trans (g1.toBelow (by omega) (fun k _ h => by omega))
      have hO2 : OutRow B v' (out ++ [34]) w1 := by
        unfold OutRow
        rw [List.length_append, List.map_append]
        exact hown'
      rw [HF.out] at hO2
      have hcv : (convert 50 9 v').run Tryz.prog w1 = .ok (.string ⟨(quote s.data.toList).toArray⟩) w1 := hO2.conv
      clear g1 hown' hgrow
      go_wp2_with fail
      go_ret
      exact ⟨rfl, HB.out ▸ G2.out⟩
end Go.Proofs.YtaklmocjaokkpaaGreatDoor.Lx
