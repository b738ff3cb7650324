/- The reference's text of the lexer, walked. No condition but a source's size. -/
import Derived.Test.YtkidnmjaioejaabDoorLexRef1
namespace Go.Proofs.YtkidnmjaioejaabDoor.Lx
open Go.RowKit Go.Proofs.YtkidnmjaioejaabDoor.Mem

/-- What the reference's text, word hand back: a token and the place behind it; or an error and its place. -/
def refV : Except (Nat × Nat) (Tok × Nat) → Value
  | .ok (t, q) => .agg #[.int .u8 t.kind, .string ⟨t.s.toArray⟩, .int .i64 t.n, .int .i64 t.at_, .int .i64 q, .int .i64 0]
  | .error (p, n) => .agg #[.int .u8 0, .string ⟨#[]⟩, .int .i64 0, .int .i64 0, .int .i64 p, .int .i64 n]
def refOf (p : Nat) : Except (Nat × Nat) (List UInt8 × Nat) → Except (Nat × Nat) (Tok × Nat) | .ok (out, q) => .ok (⟨5, out, 0, p⟩, q) | .error x => .error x
def refT (s : List UInt8) (p : Nat) : Except (Nat × Nat) (Tok × Nat) := refOf p (text s (s.length + 1) (p + 1) [])

def zeroR : Array Value := #[.int .u8 0, .string ⟨#[]⟩, .int .i64 0, .int .i64 0, .int .i64 0, .int .i64 0]

theorem push_own {B : Nat} {vo : Value} {out : List UInt8} {W w1 : World} {o : Obj} {cs : Array Value} {t : TypeId} (hb : W.heap[B]? = some (.cells cs t (0, 0))) (O0 : OutRow (B + 1) vo out W)
    (hg : (W.alloc o).grownBy w1 vo.ownBlock) : w1.heap[B]? = some (.cells cs t (0, 0)) ∧ Chg (B < ·) W w1 := by
  have h1 : ∀ k, vo.ownBlock = some k → B < k := fun k hk => (World.ownsRow.lt O0 k hk).1
  refine ⟨blk_grown hg (blk_alloc hb o) (fun e => ?_), ((Chg.refl _ _).alloc o).grown hg (fun k hk e => h1 k e)⟩
  have := h1 B e.symm; omega

theorem endR {B : Nat} {W : World} {t : TypeId} (hb : W.heap[B]? = some (.cells zeroR t (0, 0))) (x0 x1 x2 x3 x4 x5 : Value) :
    ((((((W.setCell ⟨B, 0, none⟩ x0).setCell ⟨B, 1, none⟩ x1).setCell ⟨B, 2, none⟩ x2).setCell ⟨B, 3, none⟩ x3).setCell ⟨B, 4, none⟩ x4).setCell ⟨B, 5, none⟩ x5).heap[B]? = some (.cells #[x0, x1, x2, x3, x4, x5] t (0, 0)) :=
  blk_set (blk_set (blk_set (blk_set (blk_set (blk_set hb 0 x0) 1 x1) 2 x2) 3 x3) 4 x4) 5 x5
theorem belowR {B : Nat} {w W : World} (h : Below B w W) (x0 x1 x2 x3 x4 x5 : Value) :
    Below B w ((((((W.setCell ⟨B, 0, none⟩ x0).setCell ⟨B, 1, none⟩ x1).setCell ⟨B, 2, none⟩ x2).setCell ⟨B, 3, none⟩ x3).setCell ⟨B, 4, none⟩ x4).setCell ⟨B, 5, none⟩ x5) :=
  (((((h.setCell (p := ⟨B, 0, none⟩) (Nat.le_refl _) _).setCell (p := ⟨B, 1, none⟩) (Nat.le_refl _) _).setCell (p := ⟨B, 2, none⟩) (Nat.le_refl _) _).setCell (p := ⟨B, 3, none⟩) (Nat.le_refl _) _).setCell (p := ⟨B, 4, none⟩) (Nat.le_refl _) _).setCell (p := ⟨B, 5, none⟩) (Nat.le_refl _) _

set_option maxRecDepth 100000 in
set_option maxHeartbeats 8000000 in
theorem rtext_calls (s : ByteArray) (i : Nat) (w : World) (hs : s.size ≤ 65536) (hi : i < s.size) :
    Calls Tryd.prog 20 #[.string s, .int .i64 i] w fun e w' => e = .returned (refV (refT s.data.toList i)) ∧ Below w.heap.size w w' := by
  obtain ⟨iB, hi0, hz0, hz1, hz2⟩ := info_parts infoB
  obtain ⟨r, hr⟩ : ∃ r, r = text s.data.toList (s.size + 1) (i + 1) [] := ⟨_, rfl⟩
  have HR : Hid (refT s.data.toList i = refOf i r) := by
    rw [hr]; unfold refT; rw [len_is]; rfl
  have HE := Lib.hid hr
  clear hr
  have HH : Hid (∀ (c : UInt8) w, Calls Tryd.prog 28 #[.int .u8 c.toNat] w fun e w' => e = .returned (.tuple #[.int .u8 ((hexv c.toNat).getD 0 : Nat), .bool (hexv c.toNat).isSome]) ∧ w' = w) := fun c w => rhex_calls c.toNat c.toNat_lt w
  go_enter Tryd.func20, Tryd.ntmps20
  go_wp2_with fail
  have b1 := blk_alloc (blk_new w (.cells zeroR 45)) (.cells #[] 5)
  have b0 : Below w.heap.size w ((w.alloc (.cells zeroR 45)).alloc (.cells #[] 5)) := ((Below.refl _ _).alloc (Nat.le_refl _) _).alloc (by simp) _
  have b2 : OutRow (w.heap.size + 1) (.slice (some ⟨w.heap.size + 1, 0, none⟩) 0 0) [] ((w.alloc (.cells zeroR 45)).alloc (.cells #[] 5)) := by
    have := World.ownsRow_made (base := w.heap.size + 1) (e := 5) (size := 1) (w.alloc (.cells zeroR 45)) #[] 0 (by simp) (by decide) rfl
    unfold OutRow
    simpa using this
  have z0 : w.heap.size + 1 ≤ ((w.alloc (.cells zeroR 45)).alloc (.cells #[] 5)).heap.size := by simp
  unfold zeroR at b0 b1 b2 z0
  generalize ((w.alloc (.cells #[.int .u8 0, .string ⟨#[]⟩, .int .i64 0, .int .i64 0, .int .i64 0, .int .i64 0] 45)).alloc (.cells #[] 5)) = W0 at *
  obtain ⟨B, hB⟩ : ∃ B, B = w.heap.size := ⟨_, rfl⟩
  rw [← hB] at b0 b1 b2 z0 ⊢
  have B0 := Lib.hid b0
  have B1 : Hid (W0.heap[B]? = some (.cells zeroR 45 (0, 0))) := b1
  have B2 := Lib.hid b2
  have HW := Lib.hid hB
  clear b0 b1 b2 hB
  go_loopg [5, 6] (s.size + 1) (fun k vo va wr => ∃ p out x, x = vo ∧ va = .int .i64 ((p : Nat) : Int) ∧ Hid (r = text s.data.toList k p out) ∧ p ≤ s.size ∧ s.size < k + p ∧ Hid (OutRow (B + 1) x out wr) ∧ out.length ≤ p ∧ Hid (wr.heap[B]? = some (.cells zeroR 45 (0, 0))) ∧ Hid (Below B w wr) ∧ B + 1 ≤ wr.heap.size)
  case atStart => exact ⟨i + 1, [], _, rfl, by go_num, HE, by omega, by omega, B2, by simp, B1, B0, z0⟩
  case round =>
    obtain ⟨p, out, vo, rfl, rfl, hE, hp, hk, hO, hol, hZ, hC, hz⟩ := hrel
    have c0 := cell_of hZ.out 0
    have c1 := cell_of hZ.out 1
    have c2 := cell_of hZ.out 2
    have c3 := cell_of hZ.out 3
    have c4 := cell_of hZ.out 4
    have c5 := cell_of hZ.out 5
    have f0 := free_of hZ.out 0
    have f1 := free_of hZ.out 1
    have f2 := free_of hZ.out 2
    have f3 := free_of hZ.out 3
    have f4 := free_of hZ.out 4
    have f5 := free_of hZ.out 5
    simp only [zeroR, List.getElem?_toArray, List.getElem?_cons_zero, List.getElem?_cons_succ] at c0 c1 c2 c3 c4 c5
    by_cases hlt : p < s.size
    · have hat := at_get s p hlt
      obtain ⟨k, rfl⟩ : ∃ m, gk = m + 1 := ⟨gk - 1, by omega⟩
      obtain ⟨c, hc⟩ : ∃ c, s[p] = c := ⟨_, rfl⟩
      rw [hc] at hat
      have i0 : (0 : Int) ≤ (p : Int) := by omega
      have i1 : (p : Int) < (s.size : Int) := by omega
      have hcv : (convert 47 9 vo).run Tryd.prog wr = .ok (.string ⟨out.toArray⟩) wr := hO.out.conv
      by_cases k1 : c = 34
      · have HX : Hid (r = .ok (out, p + 1)) := by rw [hE.out]; exact text_q (by rw [hat, k1])
        have n1 : 34 ≤ c.toNat ∧ c.toNat ≤ 34 := by subst k1; decide
        clear hat k1
        go_wp2_with fail
        rw [HR.out, HX.out]
        refine bodyPost_ret (results_cell_row rfl _ _ B 45 #[.int .u8 5, .string ⟨out.toArray⟩, .int .i64 0, .int .i64 i, .int .i64 ((p : Int) + 1), .int .i64 0] (0, 0) _ rfl (endR hZ.out _ _ _ _ _ _) Tryd.underlying45 rfl (by kernel_rfl)) rfl ⟨?_, ?_⟩
        · simp only [refOf, refV]; first | rfl | (congr 4 <;> omega)
        · rw [← HW.out]; exact belowR hC.out _ _ _ _ _ _
      · by_cases k2 : c = 92
        · have n1 : 92 ≤ c.toNat ∧ c.toNat ≤ 92 := by subst k2; decide
          rw [k2] at hat
          by_cases hlt2 : p + 1 < s.size
          · have hat2 := at_get s (p + 1) hlt2
            obtain ⟨c2', hc2⟩ : ∃ c, s[p + 1] = c := ⟨_, rfl⟩
            rw [hc2] at hat2
            have i2 : (p : Int) + 1 < (s.size : Int) := by omega
            have i3 : (0 : Int) ≤ (p : Int) + 1 := by omega
            have i4 : ((p : Int) + 1).toNat = p + 1 := by omega
            by_cases ea : c2' = 34
            · have HQ : esc s.data.toList (p + 1) = .ok (c2', p + 2) := by
                unfold esc; rw [hat2]; simp only [ea]; rfl
              have HX : Hid (r = text s.data.toList k (p + 2) (out ++ [c2'])) := by rw [hE.out]; exact text_b hat HQ
              have n2 : 34 ≤ c2'.toNat ∧ c2'.toNat ≤ 34 := by subst ea; decide
              clear hat hat2 k1 k2 HQ ea
              go_wp2_with (at_builtin; refine wpList_append_own _ rfl _ _ 47 rfl (B + 1) 5 iB (.int .u8 0) 1 1 Tryd.underlying47 hi0 hz0 hz1 hz2 rfl (by decide) _ _ _ rfl (World.ownsRow.alloc hO.out _) ⟨wr.heap.size, 0, none⟩ 1 1 [.int .u8 c2'.toNat] rfl rfl ?xa1 ?xa2 ?xa3 ?xa4 ?xa5 ?_)
              case xa1 => exact World.news_of_block (blk_new _ _)
              case xa2 => intro u hu; simp at hu; subst hu; rfl
              case xa3 => unfold maxLen; omega
              case xa4 => omega
              case xa5 => simp; omega
              intro v' w1 hown' hgrow _
              obtain ⟨g1, g2⟩ := push_own hZ.out hO.out hgrow
              have G1 := Lib.hid g1
              have G2 : Hid (Below B w w1) := hC.out.trans (g2.toBelow (by omega) (fun k _ h => by omega))
              have G3 : B + 1 ≤ w1.heap.size := Nat.le_trans hz g2.size
              have G4 : Hid (OutRow (B + 1) v' (out ++ [c2']) w1) := by
                unfold OutRow
                rw [List.length_append, List.map_append]
                exact hown'
              clear g1 g2 hown' hgrow c0 c1 c2 c3 c4 c5 f0 f1 f2 f3 f4 f5 hcv
              go_wp2_with fail
              go_roundg k
              case measure => omega
              case rel => exact ⟨p + 2, out ++ [c2'], v', rfl, by go_num, HX, by omega, by omega, G4, by simp; omega, G1, G2, G3⟩
            by_cases eb : c2' = 92
            · have HQ : esc s.data.toList (p + 1) = .ok (c2', p + 2) := by
                unfold esc; rw [hat2]; simp only [eb]; rfl
              have HX : Hid (r = text s.data.toList k (p + 2) (out ++ [c2'])) := by rw [hE.out]; exact text_b hat HQ
              have n2 : 92 ≤ c2'.toNat ∧ c2'.toNat ≤ 92 := by subst eb; decide
              clear hat hat2 k1 k2 HQ eb
              go_wp2_with (at_builtin; refine wpList_append_own _ rfl _ _ 47 rfl (B + 1) 5 iB (.int .u8 0) 1 1 Tryd.underlying47 hi0 hz0 hz1 hz2 rfl (by decide) _ _ _ rfl (World.ownsRow.alloc hO.out _) ⟨wr.heap.size, 0, none⟩ 1 1 [.int .u8 c2'.toNat] rfl rfl ?xb1 ?xb2 ?xb3 ?xb4 ?xb5 ?_)
              case xb1 => exact World.news_of_block (blk_new _ _)
              case xb2 => intro u hu; simp at hu; subst hu; rfl
              case xb3 => unfold maxLen; omega
              case xb4 => omega
              case xb5 => simp; omega
              intro v' w1 hown' hgrow _
              obtain ⟨g1, g2⟩ := push_own hZ.out hO.out hgrow
              have G1 := Lib.hid g1
              have G2 : Hid (Below B w w1) := hC.out.trans (g2.toBelow (by omega) (fun k _ h => by omega))
              have G3 : B + 1 ≤ w1.heap.size := Nat.le_trans hz g2.size
              have G4 : Hid (OutRow (B + 1) v' (out ++ [c2']) w1) := by
                unfold OutRow
                rw [List.length_append, List.map_append]
                exact hown'
              clear g1 g2 hown' hgrow c0 c1 c2 c3 c4 c5 f0 f1 f2 f3 f4 f5 hcv
              go_wp2_with fail
              go_roundg k
              case measure => omega
              case rel => exact ⟨p + 2, out ++ [c2'], v', rfl, by go_num, HX, by omega, by omega, G4, by simp; omega, G1, G2, G3⟩
            by_cases en : c2' = 110
            · have HQ : esc s.data.toList (p + 1) = .ok (10, p + 2) := by
                unfold esc; rw [hat2]; simp only [en]; rfl
              have HX : Hid (r = text s.data.toList k (p + 2) (out ++ [10])) := by rw [hE.out]; exact text_b hat HQ
              have n2 : 110 ≤ c2'.toNat ∧ c2'.toNat ≤ 110 := by subst en; decide
              clear hat hat2 k1 k2 HQ en
              go_wp2_with (at_builtin; refine wpList_append_own _ rfl _ _ 47 rfl (B + 1) 5 iB (.int .u8 0) 1 1 Tryd.underlying47 hi0 hz0 hz1 hz2 rfl (by decide) _ _ _ rfl (World.ownsRow.alloc hO.out _) ⟨wr.heap.size, 0, none⟩ 1 1 [.int .u8 10] rfl rfl ?xn1 ?xn2 ?xn3 ?xn4 ?xn5 ?_)
              case xn1 => exact World.news_of_block (blk_new _ _)
              case xn2 => intro u hu; simp at hu; subst hu; rfl
              case xn3 => unfold maxLen; omega
              case xn4 => omega
              case xn5 => simp; omega
              intro v' w1 hown' hgrow _
              obtain ⟨g1, g2⟩ := push_own hZ.out hO.out hgrow
              have G1 := Lib.hid g1
              have G2 : Hid (Below B w w1) := hC.out.trans (g2.toBelow (by omega) (fun k _ h => by omega))
              have G3 : B + 1 ≤ w1.heap.size := Nat.le_trans hz g2.size
              have G4 : Hid (OutRow (B + 1) v' (out ++ [10]) w1) := by
                unfold OutRow
                rw [List.length_append, List.map_append]
                exact hown'
              clear g1 g2 hown' hgrow c0 c1 c2 c3 c4 c5 f0 f1 f2 f3 f4 f5 hcv
              go_wp2_with fail
              go_roundg k
              case measure => omega
              case rel => exact ⟨p + 2, out ++ [10], v', rfl, by go_num, HX, by omega, by omega, G4, by simp; omega, G1, G2, G3⟩
            by_cases ex : c2' = 120
            · have n2 : 120 ≤ c2'.toNat ∧ c2'.toNat ≤ 120 := by subst ex; decide
              have hesc : ∀ r', (match hexAt s.data.toList (p + 1 + 1) with | .error x => .error x | .ok x => match hexAt s.data.toList (p + 1 + 2) with | .error x => .error x | .ok y => (.ok (UInt8.ofNat (16 * x + y), p + 1 + 3) : Except (Nat × Nat) (UInt8 × Nat))) = r' → esc s.data.toList (p + 1) = r' := by
                intro r' hr'
                unfold esc; rw [hat2, ← hr']; simp only [ex]; rfl
              clear ea eb en ex k1 k2 hat2
              by_cases hl3 : p + 2 < s.size
              · have hat3 := at_get s (p + 2) hl3
                obtain ⟨a, ha⟩ : ∃ c, s[p + 2] = c := ⟨_, rfl⟩
                rw [ha] at hat3
                have j2 : (p : Int) + 2 < (s.size : Int) := by omega
                have j3 : (0 : Int) ≤ (p : Int) + 2 := by omega
                have j4 : ((p : Int) + 2).toNat = p + 2 := by omega
                rcases hva : hexv a.toNat with _ | x
                · have HA : Hid (∀ w, Calls Tryd.prog 28 #[.int .u8 a.toNat] w fun e w' => e = .returned (.tuple #[.int .u8 0, .bool false]) ∧ w' = w) := fun w => by
                    have := HH.out a w; rw [hva] at this; exact this
                  have hx : hexAt s.data.toList (p + 1 + 1) = .error (p + 2, 10) := by unfold hexAt; rw [hat3]; simp only [hva]
                  have HX : Hid (r = .error (p + 2, 10)) := by rw [hE.out]; exact text_be hat (hesc _ (by rw [hx]))
                  clear hat hat3 hesc hx hva HH
                  go_wp2_with fail
                  refine wp_loop_rounds 3 ?_
                  rw [rounds_succ]
                  go_wp2_with (go_at_call 28; refine (HA.out _).mono ?_; rintro e wr ⟨rfl, rfl⟩)
                  rw [HR.out, HX.out]
                  refine bodyPost_ret (results_cell_row rfl _ _ B 45 #[.int .u8 0, .string ⟨#[]⟩, .int .i64 0, .int .i64 0, .int .i64 ((p : Int) + 2), .int .i64 10] (0, 0) _ rfl (endR hZ.out _ _ _ _ _ _) Tryd.underlying45 rfl (by kernel_rfl)) rfl ⟨?_, ?_⟩
                  · simp only [refOf, refV]; first | rfl | (congr 4 <;> omega)
                  · rw [← HW.out]; exact belowR hC.out _ _ _ _ _ _
                · have hx : hexAt s.data.toList (p + 1 + 1) = .ok x := by unfold hexAt; rw [hat3]; simp only [hva]
                  have hx16 := hexv_lt hva
                  have HA : Hid (∀ w, Calls Tryd.prog 28 #[.int .u8 a.toNat] w fun e w' => e = .returned (.tuple #[.int .u8 x, .bool true]) ∧ w' = w) := fun w => by
                    have := HH.out a w; rw [hva] at this; exact this
                  by_cases hl4 : p + 3 < s.size
                  · have hat4 := at_get s (p + 3) hl4
                    obtain ⟨b, hb⟩ : ∃ c, s[p + 3] = c := ⟨_, rfl⟩
                    rw [hb] at hat4
                    have j5 : (p : Int) + 3 < (s.size : Int) := by omega
                    have j6 : (0 : Int) ≤ (p : Int) + 3 := by omega
                    have j7 : ((p : Int) + 3).toNat = p + 3 := by omega
                    rcases hvb : hexv b.toNat with _ | y
                    · have HB : Hid (∀ w, Calls Tryd.prog 28 #[.int .u8 b.toNat] w fun e w' => e = .returned (.tuple #[.int .u8 0, .bool false]) ∧ w' = w) := fun w => by
                        have := HH.out b w; rw [hvb] at this; exact this
                      have hy : hexAt s.data.toList (p + 1 + 2) = .error (p + 3, 10) := by unfold hexAt; rw [hat4]; simp only [hvb]
                      have HX : Hid (r = .error (p + 3, 10)) := by rw [hE.out]; exact text_be hat (hesc _ (by rw [hx, hy]))
                      clear hat hat3 hat4 hesc hx hy hva hvb HH
                      go_wp2_with fail
                      refine wp_loop_rounds 3 ?_
                      rw [rounds_succ]
                      go_wp2_with fail
                      refine (HA.out _).mono ?_
                      rintro e wr ⟨rfl, rfl⟩
                      go_wp2_with fail
                      rw [rounds_succ]
                      go_wp2_with fail
                      refine (HB.out _).mono ?_
                      rintro e wr ⟨rfl, rfl⟩
                      go_wp2_with fail
                      rw [HR.out, HX.out]
                      refine bodyPost_ret (results_cell_row rfl _ _ B 45 #[.int .u8 0, .string ⟨#[]⟩, .int .i64 0, .int .i64 0, .int .i64 ((p : Int) + 3), .int .i64 10] (0, 0) _ rfl (endR hZ.out _ _ _ _ _ _) Tryd.underlying45 rfl (by kernel_rfl)) rfl ⟨?_, ?_⟩
                      · simp only [refOf, refV]; first | rfl | (congr 4 <;> omega)
                      · rw [← HW.out]; exact belowR hC.out _ _ _ _ _ _
                    · have hy : hexAt s.data.toList (p + 1 + 2) = .ok y := by unfold hexAt; rw [hat4]; simp only [hvb]
                      have hy16 := hexv_lt hvb
                      have HB : Hid (∀ w, Calls Tryd.prog 28 #[.int .u8 b.toNat] w fun e w' => e = .returned (.tuple #[.int .u8 y, .bool true]) ∧ w' = w) := fun w => by
                        have := HH.out b w; rw [hvb] at this; exact this
                      have HX : Hid (r = text s.data.toList k (p + 4) (out ++ [UInt8.ofNat (16 * x + y)])) := by rw [hE.out]; exact text_b hat (hesc _ (by rw [hx, hy]))
                      clear hat hat3 hat4 hesc hx hy hva hvb HH
                      go_wp2_with fail
                      refine wp_loop_rounds 3 ?_
                      rw [rounds_succ]
                      go_wp2_with fail
                      refine (HA.out _).mono ?_
                      rintro e wr ⟨rfl, rfl⟩
                      go_wp2_with fail
                      rw [rounds_succ]
                      go_wp2_with fail
                      refine (HB.out _).mono ?_
                      rintro e wr ⟨rfl, rfl⟩
                      go_wp2_with fail
                      rw [rounds_succ]
                      go_wp2_with (at_builtin; refine wpList_append_own _ rfl _ _ 47 rfl (B + 1) 5 iB (.int .u8 0) 1 1 Tryd.underlying47 hi0 hz0 hz1 hz2 rfl (by decide) _ _ _ rfl (World.ownsRow.alloc hO.out _) ⟨wr.heap.size, 0, none⟩ 1 1 [.int .u8 (16 * (x : Int) + y)] rfl rfl ?xx1 ?xx2 ?xx3 ?xx4 ?xx5 ?_)
                      case xx1 => exact World.news_of_block (blk_new _ _)
                      case xx2 => intro u hu; simp at hu; subst hu; rfl
                      case xx3 => unfold maxLen; omega
                      case xx4 => omega
                      case xx5 => simp; omega
                      intro v' w1 hown' hgrow _
                      obtain ⟨g1, g2⟩ := push_own hZ.out hO.out hgrow
                      have G1 := Lib.hid g1
                      have G2 : Hid (Below B w w1) := hC.out.trans (g2.toBelow (by omega) (fun k _ h => by omega))
                      have G3 : B + 1 ≤ w1.heap.size := Nat.le_trans hz g2.size
                      have G4 : Hid (OutRow (B + 1) v' (out ++ [UInt8.ofNat (16 * x + y)]) w1) := by
                        unfold OutRow
                        rw [List.length_append, List.map_append]
                        have e1 : ((UInt8.ofNat (16 * x + y)).toNat : Int) = 16 * (x : Int) + y := by rw [UInt8.toNat_ofNat']; omega
                        simp only [List.map_cons, List.map_nil, e1]
                        exact hown'
                      clear g1 g2 hown' hgrow c0 c1 c2 c3 c4 c5 f0 f1 f2 f3 f4 f5 hcv
                      go_wp2_with fail
                      go_roundg k
                      case measure => omega
                      case rel => exact ⟨p + 4, out ++ [UInt8.ofNat (16 * x + y)], v', rfl, by go_num, HX, by omega, by omega, G4, by simp; omega, G1, G2, G3⟩
                  · have hy : hexAt s.data.toList (p + 1 + 2) = .error (s.size, 11) := by unfold hexAt; rw [at_none s (p + 1 + 2) (by omega), len_is]
                    have HX : Hid (r = .error (s.size, 11)) := by rw [hE.out]; exact text_be hat (hesc _ (by rw [hx, hy]))
                    have j5 : ¬ (p : Int) + 3 < (s.size : Int) := by omega
                    clear hat hat3 hesc hx hy hva HH
                    go_wp2_with fail
                    refine wp_loop_rounds 3 ?_
                    rw [rounds_succ]
                    go_wp2_with fail
                    refine (HA.out _).mono ?_
                    rintro e wr ⟨rfl, rfl⟩
                    go_wp2_with fail
                    rw [rounds_succ]
                    go_wp2_with fail
                    rw [HR.out, HX.out]
                    refine bodyPost_ret (results_cell_row rfl _ _ B 45 #[.int .u8 0, .string ⟨#[]⟩, .int .i64 0, .int .i64 0, .int .i64 s.size, .int .i64 11] (0, 0) _ rfl (endR hZ.out _ _ _ _ _ _) Tryd.underlying45 rfl (by kernel_rfl)) rfl ⟨?_, ?_⟩
                    · simp only [refOf, refV]; first | rfl | (congr 4 <;> omega)
                    · rw [← HW.out]; exact belowR hC.out _ _ _ _ _ _
              · have hx : hexAt s.data.toList (p + 1 + 1) = .error (s.size, 11) := by unfold hexAt; rw [at_none s (p + 1 + 1) (by omega), len_is]
                have HX : Hid (r = .error (s.size, 11)) := by rw [hE.out]; exact text_be hat (hesc _ (by rw [hx]))
                have j5 : ¬ (p : Int) + 2 < (s.size : Int) := by omega
                clear hat hesc hx HH
                go_wp2_with fail
                refine wp_loop_rounds 3 ?_
                rw [rounds_succ]
                go_wp2_with fail
                rw [HR.out, HX.out]
                refine bodyPost_ret (results_cell_row rfl _ _ B 45 #[.int .u8 0, .string ⟨#[]⟩, .int .i64 0, .int .i64 0, .int .i64 s.size, .int .i64 11] (0, 0) _ rfl (endR hZ.out _ _ _ _ _ _) Tryd.underlying45 rfl (by kernel_rfl)) rfl ⟨?_, ?_⟩
                · simp only [refOf, refV]; first | rfl | (congr 4 <;> omega)
                · rw [← HW.out]; exact belowR hC.out _ _ _ _ _ _
            · have HQ : esc s.data.toList (p + 1) = .error (p + 1, 10) := by
                unfold esc; rw [hat2]; simp only []; rw [if_neg (by simp [ea, eb]), if_neg en, if_neg ex]
              have HX : Hid (r = .error (p + 1, 10)) := by rw [hE.out]; exact text_be hat HQ
              have m1 : c2'.toNat ≠ 34 := fun h => ea (UInt8.toNat_inj.1 h)
              have m2 : c2'.toNat ≠ 92 := fun h => eb (UInt8.toNat_inj.1 h)
              have m3 : c2'.toNat ≠ 110 := fun h => en (UInt8.toNat_inj.1 h)
              have m4 : c2'.toNat ≠ 120 := fun h => ex (UInt8.toNat_inj.1 h)
              clear hat hat2 k1 k2 HQ ea eb en ex
              go_wp2_with fail
              rw [HR.out, HX.out]
              refine bodyPost_ret (results_cell_row rfl _ _ B 45 #[.int .u8 0, .string ⟨#[]⟩, .int .i64 0, .int .i64 0, .int .i64 ((p : Int) + 1), .int .i64 10] (0, 0) _ rfl (endR hZ.out _ _ _ _ _ _) Tryd.underlying45 rfl (by kernel_rfl)) rfl ⟨?_, ?_⟩
              · simp only [refOf, refV]; first | rfl | (congr 4 <;> omega)
              · rw [← HW.out]; exact belowR hC.out _ _ _ _ _ _
          · have HQ : esc s.data.toList (p + 1) = .error (s.size, 11) := by
              unfold esc; rw [at_none s (p + 1) (by omega), len_is]
            have HX : Hid (r = .error (s.size, 11)) := by rw [hE.out]; exact text_be hat HQ
            have i2 : ¬ (p : Int) + 1 < (s.size : Int) := by omega
            clear hat k1 k2 HQ
            go_wp2_with fail
            rw [HR.out, HX.out]
            refine bodyPost_ret (results_cell_row rfl _ _ B 45 #[.int .u8 0, .string ⟨#[]⟩, .int .i64 0, .int .i64 0, .int .i64 s.size, .int .i64 11] (0, 0) _ rfl (endR hZ.out _ _ _ _ _ _) Tryd.underlying45 rfl (by kernel_rfl)) rfl ⟨?_, ?_⟩
            · simp only [refOf, refV]; first | rfl | (congr 4 <;> omega)
            · rw [← HW.out]; exact belowR hC.out _ _ _ _ _ _
        · have HX : Hid (r = text s.data.toList k (p + 1) (out ++ [c])) := by rw [hE.out]; exact text_c hat k1 k2
          have n1 : c.toNat ≠ 34 := fun h => k1 (UInt8.toNat_inj.1 h)
          have n2 : c.toNat ≠ 92 := fun h => k2 (UInt8.toNat_inj.1 h)
          clear hat k1 k2
          go_wp2_with (at_builtin; refine wpList_append_own _ rfl _ _ 47 rfl (B + 1) 5 iB (.int .u8 0) 1 1 Tryd.underlying47 hi0 hz0 hz1 hz2 rfl (by decide) _ _ _ rfl (World.ownsRow.alloc hO.out _) ⟨wr.heap.size, 0, none⟩ 1 1 [.int .u8 c.toNat] rfl rfl ?y1 ?y2 ?y3 ?y4 ?y5 ?_)
          case y1 => exact World.news_of_block (blk_new _ _)
          case y2 => intro u hu; simp at hu; subst hu; rfl
          case y3 => unfold maxLen; omega
          case y4 => omega
          case y5 => simp; omega
          intro v' w1 hown' hgrow _
          obtain ⟨g1, g2⟩ := push_own hZ.out hO.out hgrow
          have G1 := Lib.hid g1
          have G2 : Hid (Below B w w1) := hC.out.trans (g2.toBelow (by omega) (fun k _ h => by omega))
          have G3 : B + 1 ≤ w1.heap.size := Nat.le_trans hz g2.size
          have G4 : Hid (OutRow (B + 1) v' (out ++ [c]) w1) := by
            unfold OutRow
            rw [List.length_append, List.map_append]
            exact hown'
          clear g1 g2 hown' hgrow c0 c1 c2 c3 c4 c5 f0 f1 f2 f3 f4 f5 hcv
          go_wp2_with fail
          go_roundg k
          case measure => omega
          case rel => exact ⟨p + 1, out ++ [c], v', rfl, by go_num, HX, by omega, by omega, G4, by simp; omega, G1, G2, G3⟩
    · have HX : Hid (r = .error (s.size, 11)) := by rw [hE.out, ← len_is]; exact text_none (at_none s p (by omega))
      have h2 : ¬ p < s.size := by omega
      go_wp2_with fail
      rw [HR.out, HX.out]
      refine bodyPost_ret (results_cell_row rfl _ _ B 45 #[.int .u8 0, .string ⟨#[]⟩, .int .i64 0, .int .i64 0, .int .i64 s.size, .int .i64 11] (0, 0) _ rfl (endR hZ.out _ _ _ _ _ _) Tryd.underlying45 rfl (by kernel_rfl)) rfl ⟨?_, ?_⟩
      · simp only [refOf, refV]; first | rfl | (congr 4 <;> omega)
      · rw [← HW.out]; exact belowR hC.out _ _ _ _ _ _
end Go.Proofs.YtkidnmjaioejaabDoor.Lx
