/- A strings.Builder that lies in another struct's field: a byte, a text, and what it holds, walked. Condition: at most 2^46 bytes. -/
import Derived.Test.YtaklmocjaokkpaaGreatDoorTreeShow2
namespace Go.Proofs.YtaklmocjaokkpaaGreatDoor.Tr
set_option linter.unusedVariables false
set_option linter.unusedSimpArgs false
open Go.RowKit Go.Shelf Go.Proofs.YtaklmocjaokkpaaGreatDoor.Mem

/-- The end of a write. -/
theorem bf_put {b : Nat} {v v' : Value} {l l' : List UInt8} {w w1 wa w2 : World} (h : BF b v l w) (hb1 : w1.heap[b]? = some (.cells #[.nilIface, .pointer (some ⟨b, 1, none⟩), v] 112 (0, 0))) (hc1 : Chg (fun k => k = b) w w1)
    (hca : Chg (fun _ => False) w1 wa) (ha : AppOk wa w2 v v' l') : w2.heap[b]? = some (.cells #[.nilIface, .pointer (some ⟨b, 1, none⟩), v] 112 (0, 0)) ∧
    BF b v' l' (w2.setCell ⟨b, 2, none⟩ v') ∧ Stp b v v' w (w2.setCell ⟨b, 2, none⟩ v') := by
  obtain ⟨hrw, hg, ho⟩ := ha
  have hba := hca.blk hb1 (fun e => e)
  have hb2 : w2.heap[b]? = some (.cells #[.nilIface, .pointer (some ⟨b, 1, none⟩), v] 112 (0, 0)) := blk_grown hg hba (fun e => h.2.2 e.symm)
  have hsz : w.heap.size ≤ wa.heap.size := Nat.le_trans hc1.size hca.size
  have hne : v'.ownBlock ≠ some b := fun e => by
    rcases ho b e with e1 | e1
    · exact h.2.2 e1
    · have := lt_of_block hba; omega
  have hA : Chg (fun k => k = b ∨ v.ownBlock = some k) w w2 := ((hc1.mono (fun _ _ e => .inl e)).trans (hca.mono (fun _ _ e => e.elim))).grown hg (fun k _ e => .inr e)
  refine ⟨hb2, ⟨⟨_, .inr rfl, by simpa using blk_set hb2 2 v'⟩, hrw.kept (Chg.set (F := fun k => k = b) (p := ⟨b, 2, none⟩) (Chg.refl _ w2) (fun _ => rfl) v') (fun k hk e => hne (by rw [hk, e])), hne⟩, hA.set (p := ⟨b, 2, none⟩) (fun _ => .inl rfl) v', fun k hk => ?_⟩
  rcases ho k hk with e | e
  · exact .inl e
  · exact .inr (by omega)
set_option maxRecDepth 100000 in
set_option maxHeartbeats 1000000 in
theorem wb_calls (b : Nat) (v : Value) (l : List UInt8) (c : UInt8) (w : World) (h : BF b v l w) (hl : l.length + 1 ≤ 70368744177664) :
    Calls Tryz.prog 63 #[.pointer (some ⟨b, 1, none⟩), .int .u8 (c.toNat : Int)] w fun e w' => e = .returned .nilIface ∧ ∃ v', BF b v' (l ++ [c]) w' ∧ Stp b v v' w w' := by
  have HCC := Lib.hid (cc_calls b v l w h)
  have HBF := Lib.hid h
  obtain ⟨ad, cap, hvf⟩ := h.2.1.form
  obtain ⟨n, hn⟩ : ∃ n : Int, (c.toNat : Int) = n := ⟨_, rfl⟩
  have HN := Lib.hid hn
  rw [hn]
  clear h hn
  go_enter Tryz.func63, Tryz.ntmps63
  go_wp2_with fail
  refine HCC.out.mono ?_
  rintro e w1 ⟨rfl, hb1, hC1⟩
  have HB1 := Lib.hid hb1
  have HC1 := Lib.hid hC1
  have c2 := cell_of hb1 2
  have hrw1 : Rw w1 v l := HBF.out.2.1.kept hC1 (fun k hk e => HBF.out.2.2 (by rw [hk, e]))
  obtain ⟨wa, hwa⟩ : ∃ wa, w1.alloc (.cells #[.int .u8 n] 5) = wa := ⟨_, rfl⟩
  have hca : Chg (fun _ => False) w1 wa := by rw [← hwa]; exact (Chg.refl _ w1).alloc _
  have hcell : wa.cell? ⟨w1.heap.size, 0, none⟩ = some (.int .u8 c.toNat) := by rw [← hwa, HN.out]; exact cell_of (blk_new w1 _) 0
  obtain ⟨v', w2, hr, hap⟩ : ∃ v' w2, (∀ ty, (Builtin.append_ #[50, 50] ty #[v, .slice (some ⟨w1.heap.size, 0, none⟩) 1 1]).run Tryz.prog wa = .ok v' w2) ∧ AppOk wa w2 v v' (l ++ [c]) := by
    obtain ⟨v', w2, h1, h2⟩ := run_byte wa 0 v l c ⟨w1.heap.size, 0, none⟩ 1 (hrw1.kept hca (fun _ _ e => e)) hcell hl
    exact ⟨v', w2, fun ty => h1, h2⟩
  obtain ⟨hb2, hbf, hst⟩ := bf_put HBF.out hb1 hC1 hca hap
  obtain ⟨ad', n', cap', rfl⟩ : ∃ ad n cap, v' = .slice ad n cap := by
    obtain ⟨ad, cap, e⟩ := hap.1.form
    exact ⟨_, _, _, e⟩
  have d2 := cell_of hb2 2
  have f2 := free_of hb2 2
  have HBF2 := Lib.hid hbf
  have HST := Lib.hid hst
  subst hvf
  clear hb1 hC1 hrw1 hca hcell hap hb2 hbf hst HCC
  go_wp2_with (at_builtin; refine wpList_app _ rfl _ _ _ _ rfl _ _ rfl rfl _ _ hr ?_)
  go_wp2_with fail
  go_ret
  exact ⟨rfl, _, HBF2.out, HST.out⟩
set_option maxRecDepth 100000 in
set_option maxHeartbeats 1000000 in
theorem ws_calls (b : Nat) (v : Value) (l : List UInt8) (s : ByteArray) (w : World) (h : BF b v l w) (hne : l ≠ []) (hl : l.length + s.size ≤ 70368744177664) :
    Calls Tryz.prog 58 #[.pointer (some ⟨b, 1, none⟩), .string s] w fun e w' => e = .returned (.tuple #[.int .i64 s.size, .nilIface]) ∧ ∃ v', BF b v' (l ++ bl s) w' ∧ Stp b v v' w w' := by
  have HCC := Lib.hid (cc_calls b v l w h)
  have HBF := Lib.hid h
  obtain ⟨ad, cap, hvf⟩ := h.2.1.form
  clear h
  go_enter Tryz.func58, Tryz.ntmps58
  go_wp2_with fail
  refine HCC.out.mono ?_
  rintro e w1 ⟨rfl, hb1, hC1⟩
  have c2 := cell_of hb1 2
  have hrw1 : Rw w1 v l := HBF.out.2.1.kept hC1 (fun k hk e => HBF.out.2.2 (by rw [hk, e]))
  obtain ⟨v', w2, hr, hap⟩ : ∃ v' w2, (∀ ty, (Builtin.append_ #[50, 9] ty #[v, .string s]).run Tryz.prog w1 = .ok v' w2) ∧ AppOk w1 w2 v v' (l ++ bl s) := by
    obtain ⟨v', w2, h1, h2⟩ := run_str w1 0 v l s hrw1 hne hl
    exact ⟨v', w2, fun ty => h1, h2⟩
  obtain ⟨hb2, hbf, hst⟩ := bf_put HBF.out hb1 hC1 (Chg.refl _ w1) hap
  obtain ⟨ad', n', cap', rfl⟩ : ∃ ad n cap, v' = .slice ad n cap := by
    obtain ⟨ad, cap, e⟩ := hap.1.form
    exact ⟨_, _, _, e⟩
  have d2 := cell_of hb2 2
  have f2 := free_of hb2 2
  have HBF2 := Lib.hid hbf
  have HST := Lib.hid hst
  subst hvf
  clear hb1 hC1 hrw1 hap hb2 hbf hst HCC hne
  go_wp2_with (at_builtin; refine wpList_app _ rfl _ _ _ _ rfl _ _ rfl rfl _ _ hr ?_)
  go_wp2_with fail
  go_ret2
  exact ⟨rfl, _, HBF2.out, HST.out⟩
end Go.Proofs.YtaklmocjaokkpaaGreatDoor.Tr
