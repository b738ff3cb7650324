/- A node that is bound in a let by its one free name has none but those of what is bound: the statement, walked. Condition: nodes of weight at most 2^20; what XTreeText's functions want of the library's variables. -/
import Derived.Test.YtaklmocjaokkpaaGreatDoorScopeFree
import Derived.Test.YtaklmocjaokkpaaGreatDoorScopeLaws
import Derived.Test.YtaklmocjaokkpaaGreatDoorTreeDeepLaw
import Derived.Test.YtaklmocjaokkpaaGreatDoorTreeRMay
import Derived.Test.YtaklmocjaokkpaaGreatDoorTreeGreat
import Derived.Test.YtaklmocjaokkpaaGreatDoorTreeArg
namespace Go.Proofs.YtaklmocjaokkpaaGreatDoor.Tr
set_option linter.unusedVariables false
set_option linter.unusedSimpArgs false
open Go.RowKit Go.Shelf Go.Proofs.YtaklmocjaokkpaaGreatDoor.Mem

/-- An unbound name is a text of the node. -/
theorem occ_size : ∀ (x : Nd), Fine x → ∀ s ∈ occN x, s.size ≤ 1048576 := by
  intro x
  induction x using Nd.ind with
  | h x ih =>
    intro hf s hs
    have hk : ∀ s ∈ (x.kids.map occN).flatten, s.size ≤ 1048576 := fun s hs => by
      obtain ⟨l, hl, h2⟩ := List.mem_flatten.1 hs
      obtain ⟨y, hy, rfl⟩ := List.mem_map.1 hl
      exact ih y hy (hf.kid y hy) s h2
    have hk1 : ∀ s ∈ ((x.kids.map occN).take 1).flatten, s ∈ (x.kids.map occN).flatten := fun s hs => by
      obtain ⟨l, hl, h2⟩ := List.mem_flatten.1 hs
      exact List.mem_flatten.2 ⟨l, List.mem_of_mem_take hl, h2⟩
    have hk2 : ∀ s ∈ ((x.kids.map occN).drop 1).flatten, s ∈ (x.kids.map occN).flatten := fun s hs => by
      obtain ⟨l, hl, h2⟩ := List.mem_flatten.1 hs
      exact List.mem_flatten.2 ⟨l, List.mem_of_mem_drop hl, h2⟩
    rw [occN_is] at hs
    unfold comb at hs
    split at hs
    · obtain rfl : s = x.text := by simpa using hs
      exact hf.text
    split at hs
    · exact hk s (List.mem_filter.1 hs).1
    split at hs
    · rcases List.mem_append.1 hs with h | h
      · exact hk s (hk1 s h)
      · exact hk s (hk2 s (List.mem_filter.1 h).1)
    split at hs
    · exact hk s (List.mem_filter.1 hs).1
    · exact hk s hs
theorem letN_ok {a x : Nd} {s : ByteArray} (ha : Fine a ∧ Small a) (hx : Fine x ∧ Small x) (hs : s.size ≤ 1048576) : Fine (letN s a x) ∧ Small (letN s a x) := by
  have hm : ∀ y ∈ (letN s a x).kids, Fine y ∧ Small y := fun y hy => by
    have : y = a ∨ y = x := by simpa [letN, Nd.kids] using hy
    rcases this with rfl | rfl
    · exact ha
    · exact hx
  exact ⟨Fine.mk' hs (fun s h => by cases h) (Nat.zero_le _) (show (2 : Nat) ≤ 1048576 by omega) (Fines.mk fun y hy => (hm y hy).1), Small.mk' hs (show (2 : Nat) ≤ 1048576 by omega) (Smalls.mk fun y hy => (hm y hy).2)⟩
/-- A node that lies as two others side by side. -/
theorem two_in {w : World} {a x : Nd} {nva kva nvx kvx : Value} {b : Nat} (h : w.heap[b]? = some (.cells #[.int .u8 a.kind, .int .i64 a.n, .string a.text, nva, kva, .int .u8 x.kind, .int .i64 x.n, .string x.text, nvx, kvx] 25)) (ha : NdIn w nva kva a) (hx : NdIn w nvx kvx x) : KidsIn w (some ⟨b, 0, none⟩) 0 [a, x] :=
  kids_two h rfl rfl rfl ha rfl rfl rfl hx
theorem letN_in {w : World} {a x : Nd} {nva kva nvx kvx : Value} {b : Nat} (s : ByteArray) (h : w.heap[b]? = some (.cells #[.int .u8 a.kind, .int .i64 a.n, .string a.text, nva, kva, .int .u8 x.kind, .int .i64 x.n, .string x.text, nvx, kvx] 25)) (ha : NdIn w nva kva a) (hx : NdIn w nvx kvx x) :
    NdIn w (.slice none 0 0) (.slice (some ⟨b, 0, none⟩) 2 2) (letN s a x) :=
  node_in w 8 0 s [a, x] b 2 rfl (by decide) (by decide) (by decide) (two_in h ha hx)
def zero5 : Obj := .cells #[.int .u8 0, .int .i64 0, .string ⟨#[]⟩, .slice none 0 0, .slice none 0 0] 25
theorem mem_at {l : List ByteArray} {i : Nat} {s : ByteArray} (h : l[i]? = some s) : s ∈ l := List.mem_of_getElem? h
theorem cons_at {l : List ByteArray} {s : ByteArray} (h : l[0]? = some s) : l = s :: l.drop 1 := by
  cases l with
  | nil => cases h
  | cons x l => simp at h; rw [h]; rfl
theorem toList_ne {u y : ByteArray} (h : ¬ u = y) : (u.toList == y.toList) = false := by
  rw [beq_eq_false_iff_ne]
  intro e
  rw [ByteArray.toList_eq, ByteArray.toList_eq] at e
  exact h (ByteArray.ext (Array.toList_inj.1 e))
theorem ndV_is (x : Nd) (nv kv : Value) : ndV x nv kv = .agg #[.int .u8 x.kind, .int .i64 x.n, .string x.text, nv, kv] := rfl
set_option maxRecDepth 100000 in
set_option maxHeartbeats 6000000 in
theorem scopeBinds_calls (x : Nd) (nv kv : Value) (a : Nd) (nva kva : Value) (w : World) (h : NdIn w nv kv x) (h' : NdIn w nva kva a) (hwt : wt x ≤ 1048576) (hwa : wt a ≤ 1048576) (hg : Gm w) :
    Calls Tryz.prog 3 #[ndV x nv kv, ndV a nva kva] w fun e w' => e = .returned (.bool true) ∧ Chg (fun _ => False) w w' := by
  have hox := fine_wt x hwt
  have hoa := fine_wt a hwa
  have hsx := size_wt x
  have hsa := size_wt a
  have HA := Lib.hid (fun W (hW : Chg (fun _ => False) w W) => sawake_calls W (hg.later hW))
  have HG := Lib.hid hg
  have HIN := Lib.hid h
  have HINA := Lib.hid h'
  have HOX := Lib.hid hox
  have HOA := Lib.hid hoa
  have HSS := Lib.hid (⟨hsx, hsa, hwt, hwa⟩ : sizeN x ≤ wt x ∧ sizeN a ≤ wt a ∧ wt x ≤ 1048576 ∧ wt a ≤ 1048576)
  have HGRX := Lib.hid (fun W (hW : Chg (fun _ => False) w W) => great_calls x nv kv 0 W (h.kept hW) (by omega) (by omega))
  have HGRA := Lib.hid (fun W (hW : Chg (fun _ => False) w W) => great_calls a nva kva 0 W (h'.kept hW) (by omega) (by omega))
  have HRMX := Lib.hid (fun W (hW : Chg (fun _ => False) w W) => rmay_calls x nv kv W (h.kept hW) hox.1 (by omega))
  have HRMA := Lib.hid (fun W (hW : Chg (fun _ => False) w W) => rmay_calls a nva kva W (h'.kept hW) hoa.1 (by omega))
  have HFRX := Lib.hid (fun W (hW : Chg (fun _ => False) w W) => free_calls x nv kv W (h.kept hW) (hg.later hW) hox.2 hox.1)
  have HFRA := Lib.hid (fun W (hW : Chg (fun _ => False) w W) => free_calls a nva kva W (h'.kept hW) (hg.later hW) hoa.2 hoa.1)
  obtain ⟨gx, hgx⟩ : ∃ gx, greatB x 0 = gx := ⟨_, rfl⟩
  obtain ⟨ga, hga⟩ : ∃ ga, greatB a 0 = ga := ⟨_, rfl⟩
  obtain ⟨mx, hmx⟩ : ∃ mx, mayB x = mx := ⟨_, rfl⟩
  obtain ⟨ma, hma⟩ : ∃ ma, mayB a = ma := ⟨_, rfl⟩
  simp only [hgx] at HGRX
  simp only [hga] at HGRA
  simp only [hmx] at HRMX
  simp only [hma] at HRMA
  have HMX := Lib.hid hmx
  have HMA := Lib.hid hma
  obtain ⟨w1, hw1⟩ : ∃ w1, w.alloc (ndBox x nv kv) = w1 := ⟨_, rfl⟩
  obtain ⟨w2, hw2⟩ : ∃ w2, w1.alloc (ndBox a nva kva) = w2 := ⟨_, rfl⟩
  have hC1 : Chg (fun _ => False) w w1 := by rw [← hw1]; exact (Chg.refl _ w).alloc _
  have hC2 : Chg (fun _ => False) w1 w2 := by rw [← hw2]; exact (Chg.refl _ w1).alloc _
  have HBN := Lib.hid (hC2.blk (show w1.heap[w.heap.size]? = some (ndBox x nv kv) by rw [← hw1]; exact blk_new w _) (fun e => e))
  have HBA := Lib.hid (show w2.heap[w1.heap.size]? = some (ndBox a nva kva) by rw [← hw2]; exact blk_new w1 _)
  have HC2 := Lib.hid (hC1.trans hC2)
  obtain ⟨an, cn, ak, ck, rfl, rfl, _⟩ := h.forms
  obtain ⟨an', cn', ak', ck', rfl, rfl, _⟩ := h'.forms
  unfold ndBox at HBN HBA hw1 hw2
  simp only [ndV_is] at HGRX HGRA HRMX HRMA HFRX HFRA
  rw [ndV_is, ndV_is]
  have n0 := cell_of HBN.out 0
  have a0 := cell_of HBA.out 0
  have n1 := cell_of HBN.out 1
  have a1 := cell_of HBA.out 1
  have n2 := cell_of HBN.out 2
  have a2 := cell_of HBA.out 2
  have n3 := cell_of HBN.out 3
  have a3 := cell_of HBA.out 3
  have n4 := cell_of HBN.out 4
  have a4 := cell_of HBA.out 4
  clear h h' hox hoa hsx hsa hwt hwa hg hC1 hC2 hgx hga hmx hma
  go_enter Tryz.func3, Tryz.ntmps3
  go_wp2_with fail
  refine (HGRX.out _ HC2.out).mono ?_
  rintro e w3 ⟨rfl, hCw3⟩
  have HCw3 := Lib.hid (HC2.out.trans hCw3)
  have hq := hCw3.blk HBN.out (fun e => e)
  clear n0 n1 n2 n3 n4
  have HBN' := Lib.hid hq
  clear HBN
  have HBN := HBN'
  clear HBN'
  have n0 := cell_of hq 0
  have n1 := cell_of hq 1
  have n2 := cell_of hq 2
  have n3 := cell_of hq 3
  have n4 := cell_of hq 4
  clear hq
  have hq := hCw3.blk HBA.out (fun e => e)
  clear a0 a1 a2 a3 a4
  have HBA' := Lib.hid hq
  clear HBA
  have HBA := HBA'
  clear HBA'
  have a0 := cell_of hq 0
  have a1 := cell_of hq 1
  have a2 := cell_of hq 2
  have a3 := cell_of hq 3
  have a4 := cell_of hq 4
  clear hq
  clear hCw3
  clear hw1 hw2 HGRX
  cases gx with
  | true =>
    go_wp2_with fail
    refine (HA.out _ HCw3.out).mono ?_
    rintro e w4 ⟨rfl, hCw4⟩
    have HCw4 := Lib.hid (HCw3.out.trans hCw4)
    clear hCw4 HA
    go_wp2_with fail
    go_ret
    exact ⟨rfl, HCw4.out⟩
  | false =>
  go_wp2_with fail
  refine (HGRA.out _ HCw3.out).mono ?_
  rintro e w4 ⟨rfl, hCw4⟩
  have HCw4 := Lib.hid (HCw3.out.trans hCw4)
  have hq := hCw4.blk HBN.out (fun e => e)
  clear n0 n1 n2 n3 n4
  have HBN' := Lib.hid hq
  clear HBN
  have HBN := HBN'
  clear HBN'
  have n0 := cell_of hq 0
  have n1 := cell_of hq 1
  have n2 := cell_of hq 2
  have n3 := cell_of hq 3
  have n4 := cell_of hq 4
  clear hq
  have hq := hCw4.blk HBA.out (fun e => e)
  clear a0 a1 a2 a3 a4
  have HBA' := Lib.hid hq
  clear HBA
  have HBA := HBA'
  clear HBA'
  have a0 := cell_of hq 0
  have a1 := cell_of hq 1
  have a2 := cell_of hq 2
  have a3 := cell_of hq 3
  have a4 := cell_of hq 4
  clear hq
  clear hCw4
  clear HGRA
  cases ga with
  | true =>
    go_wp2_with fail
    refine (HA.out _ HCw4.out).mono ?_
    rintro e w5 ⟨rfl, hCw5⟩
    have HCw5 := Lib.hid (HCw4.out.trans hCw5)
    clear hCw5 HA
    go_wp2_with fail
    go_ret
    exact ⟨rfl, HCw5.out⟩
  | false =>
  go_wp2_with fail
  refine (HRMX.out _ HCw4.out).mono ?_
  rintro e w5 ⟨rfl, hCw5⟩
  have HCw5 := Lib.hid (HCw4.out.trans hCw5)
  have hq := hCw5.blk HBN.out (fun e => e)
  clear n0 n1 n2 n3 n4
  have HBN' := Lib.hid hq
  clear HBN
  have HBN := HBN'
  clear HBN'
  have n0 := cell_of hq 0
  have n1 := cell_of hq 1
  have n2 := cell_of hq 2
  have n3 := cell_of hq 3
  have n4 := cell_of hq 4
  clear hq
  have hq := hCw5.blk HBA.out (fun e => e)
  clear a0 a1 a2 a3 a4
  have HBA' := Lib.hid hq
  clear HBA
  have HBA := HBA'
  clear HBA'
  have a0 := cell_of hq 0
  have a1 := cell_of hq 1
  have a2 := cell_of hq 2
  have a3 := cell_of hq 3
  have a4 := cell_of hq 4
  clear hq
  clear hCw5
  clear HRMX
  cases mx with
  | false =>
    go_wp2_with fail
    refine (HA.out _ HCw5.out).mono ?_
    rintro e w6 ⟨rfl, hCw6⟩
    have HCw6 := Lib.hid (HCw5.out.trans hCw6)
    clear hCw6 HA
    go_wp2_with fail
    go_ret
    exact ⟨rfl, HCw6.out⟩
  | true =>
  go_wp2_with fail
  refine (HRMA.out _ HCw5.out).mono ?_
  rintro e w6 ⟨rfl, hCw6⟩
  have HCw6 := Lib.hid (HCw5.out.trans hCw6)
  have hq := hCw6.blk HBN.out (fun e => e)
  clear n0 n1 n2 n3 n4
  have HBN' := Lib.hid hq
  clear HBN
  have HBN := HBN'
  clear HBN'
  have n0 := cell_of hq 0
  have n1 := cell_of hq 1
  have n2 := cell_of hq 2
  have n3 := cell_of hq 3
  have n4 := cell_of hq 4
  clear hq
  have hq := hCw6.blk HBA.out (fun e => e)
  clear a0 a1 a2 a3 a4
  have HBA' := Lib.hid hq
  clear HBA
  have HBA := HBA'
  clear HBA'
  have a0 := cell_of hq 0
  have a1 := cell_of hq 1
  have a2 := cell_of hq 2
  have a3 := cell_of hq 3
  have a4 := cell_of hq 4
  clear hq
  clear hCw6
  clear HRMA
  cases ma with
  | false =>
    go_wp2_with fail
    refine (HA.out _ HCw6.out).mono ?_
    rintro e w7 ⟨rfl, hCw7⟩
    have HCw7 := Lib.hid (HCw6.out.trans hCw7)
    clear hCw7 HA
    go_wp2_with fail
    go_ret
    exact ⟨rfl, HCw7.out⟩
  | true =>
  go_wp2_with fail
  have HFX := Lib.hid (HFRX.out _ HCw6.out)
  rw [show freeP x = freeB x from if_pos HMX.out] at HFX
  simp only [show freeP a = freeB a from if_pos HMA.out] at HFRA
  obtain ⟨l, hl⟩ : ∃ l, freeB x = l := ⟨_, rfl⟩
  obtain ⟨lo, hlo⟩ : ∃ lo, freeB a = lo := ⟨_, rfl⟩
  have HL := Lib.hid hl
  have HLO := Lib.hid hlo
  rw [hl] at HFX
  simp only [hlo] at HFRA
  clear hl hlo HFRX
  refine HFX.out.mono ?_
  rintro e w7 ⟨vl, rfl, hsl, hC7⟩
  have HCw7 := Lib.hid (HCw6.out.trans hC7)
  have hqn := hC7.blk HBN.out (fun e => e)
  have hqa := hC7.blk HBA.out (fun e => e)
  clear n0 n1 n2 n3 n4 a0 a1 a2 a3 a4 HBN HBA HFX hC7
  have n0 := cell_of hqn 0
  have a0 := cell_of hqa 0
  have n1 := cell_of hqn 1
  have a1 := cell_of hqa 1
  have n2 := cell_of hqn 2
  have a2 := cell_of hqa 2
  have n3 := cell_of hqn 3
  have a3 := cell_of hqa 3
  have n4 := cell_of hqn 4
  have a4 := cell_of hqa 4
  have HBN := Lib.hid hqn
  have HBA := Lib.hid hqa
  clear hqn hqa
  have HSL := Lib.hid hsl
  obtain ⟨adl, capl, rfl, hlel, hcml, hell⟩ := hsl
  have hcml2 : capl ≤ 9223372036854775807 := by unfold maxLen at hcml; omega
  obtain ⟨ln, hln⟩ : ∃ ln, l.length = ln := ⟨_, rfl⟩
  have HLN := Lib.hid hln
  rw [hln] at hlel HSL ⊢
  by_cases h0 : ln = 0
  · have h0i : (ln : Int) = 0 := by omega
    have h0b : ((ln : Int) == 0) = true := by rw [h0i]; rfl
    clear hell hcml hln
    go_wp2_with fail
    refine (HA.out _ HCw7.out).mono ?_
    rintro e w8 ⟨rfl, hCw8⟩
    have HCw8 := Lib.hid (HCw7.out.trans hCw8)
    clear hCw8 HA
    go_wp2_with fail
    go_ret
    exact ⟨rfl, HCw8.out⟩
  have h0i : ¬ (ln : Int) = 0 := by omega
  have h0b : ((ln : Int) == 0) = false := beq_eq_false_iff_ne.2 h0i
  have h0p : (0 : Int) < (ln : Int) := by omega
  have h0n : 0 < ln := by omega
  obtain ⟨s0, hs0⟩ : ∃ s0, l[0]? = some s0 := ⟨_, List.getElem?_eq_getElem (by omega)⟩
  obtain ⟨bl0, off0, rfl, _, g0⟩ := hell 0 s0 hs0
  rw [Nat.add_zero] at g0
  have HS0 := Lib.hid hs0
  have HS0S : Hid (s0.size ≤ 1048576) := Lib.hid (occ_size x HOX.out.1 s0 (mem_free.1 (by rw [HL.out]; exact mem_at hs0)))
  clear hell hcml hln hs0
  go_wp2_with fail
  refine wp_region_T (S := fun W => W.cell? ⟨bl0, off0, none⟩ = some (.string s0) ∧ W.cell? ⟨w1.heap.size, 0, none⟩ = some (.int .u8 a.kind) ∧ W.cell? ⟨w1.heap.size, 1, none⟩ = some (.int .i64 a.n) ∧ W.cell? ⟨w1.heap.size, 2, none⟩ = some (.string a.text) ∧ W.cell? ⟨w1.heap.size, 3, none⟩ = some (.slice an' a.names.length cn') ∧ W.cell? ⟨w1.heap.size, 4, none⟩ = some (.slice ak' a.kids.length ck') ∧ W.cell? ⟨w.heap.size, 0, none⟩ = some (.int .u8 x.kind) ∧ W.cell? ⟨w.heap.size, 1, none⟩ = some (.int .i64 x.n) ∧ W.cell? ⟨w.heap.size, 2, none⟩ = some (.string x.text) ∧ W.cell? ⟨w.heap.size, 3, none⟩ = some (.slice an x.names.length cn) ∧ W.cell? ⟨w.heap.size, 4, none⟩ = some (.slice ak x.kids.length ck)) 8 1 rfl (by kernel_rfl) ?_ (fun hHeld => ?_)
  · exact ⟨by assumption, by assumption, by assumption, by assumption, by assumption, by assumption, by assumption, by assumption, by assumption, by assumption, by assumption⟩
  refine wpAnyT_take (i := 0) (v := ?tv1) rfl (by kernel_rfl) (by decide) (by kernel_rfl) (by kernel_rfl) (fun _ _ _ h => h) (Or.inl ⟨by rfl, ?ty1⟩) (by assumption) ?tr1
  case ty1 => intro w hSw; (try dsimp only at hSw); go_simp; (try with_reducible rfl)
  try simp only [Act.put, List.setIfInBounds_toArray, List.set_cons_zero, List.set_cons_succ, List.getElem_toArray, List.getElem_cons_zero, List.getElem_cons_succ, Nat.zero_add]
  refine wpAnyT_take (i := 1) (v := ?tv2) rfl (by kernel_rfl) (by decide) (by kernel_rfl) (by kernel_rfl) (fun _ _ _ h => h) (Or.inl ⟨by rfl, ?ty2⟩) (by assumption) ?tr2
  case ty2 => intro w hSw; (try dsimp only at hSw); go_simp; (try with_reducible rfl)
  try simp only [Act.put, List.setIfInBounds_toArray, List.set_cons_zero, List.set_cons_succ, List.getElem_toArray, List.getElem_cons_zero, List.getElem_cons_succ, Nat.zero_add]
  refine wpAnyT_take (i := 2) (v := ?tv3) rfl (by kernel_rfl) (by decide) (by kernel_rfl) (by kernel_rfl) (fun _ _ _ h => h) (Or.inl ⟨by rfl, ?ty3⟩) (by assumption) ?tr3
  case ty3 => intro w hSw; (try dsimp only at hSw); go_simp; (try with_reducible rfl)
  try simp only [Act.put, List.setIfInBounds_toArray, List.set_cons_zero, List.set_cons_succ, List.getElem_toArray, List.getElem_cons_zero, List.getElem_cons_succ, Nat.zero_add]
  refine wpAnyT_take (i := 3) (v := ?tv4) rfl (by kernel_rfl) (by decide) (by kernel_rfl) (by kernel_rfl) (fun _ _ _ h => h) (Or.inl ⟨by rfl, ?ty4⟩) (by assumption) ?tr4
  case ty4 => intro w hSw; (try dsimp only at hSw); go_simp; (try with_reducible rfl)
  try simp only [Act.put, List.setIfInBounds_toArray, List.set_cons_zero, List.set_cons_succ, List.getElem_toArray, List.getElem_cons_zero, List.getElem_cons_succ, Nat.zero_add]
  refine wpAnyT_take (i := 4) (v := ?tv5) rfl (by kernel_rfl) (by decide) (by kernel_rfl) (by kernel_rfl) (fun _ _ _ h => h) (Or.inl ⟨by rfl, ?ty5⟩) (by assumption) ?tr5
  case ty5 => intro w hSw; (try dsimp only at hSw); go_simp; (try with_reducible rfl)
  try simp only [Act.put, List.setIfInBounds_toArray, List.set_cons_zero, List.set_cons_succ, List.getElem_toArray, List.getElem_cons_zero, List.getElem_cons_succ, Nat.zero_add]
  refine wpAnyT_ready (rs := [5, 7]) (by kernel_rfl) (by kernel_rfl) ?_
  refine AllReadyT.cons rfl (fun K hK => ?_) ?_
  · go_simp
    refine hK.out _ _ ?_ (fun hHeld => ?_)
    · first | exact ⟨by assumption, by assumption, by assumption, by assumption, by assumption, by assumption, by assumption, by assumption, by assumption, by assumption, by assumption⟩ | exact ⟨cell_alS _ hHeld.1, cell_alS _ hHeld.2.1, cell_alS _ hHeld.2.2.1, cell_alS _ hHeld.2.2.2.1, cell_alS _ hHeld.2.2.2.2.1, cell_alS _ hHeld.2.2.2.2.2.1, cell_alS _ hHeld.2.2.2.2.2.2.1, cell_alS _ hHeld.2.2.2.2.2.2.2.1, cell_alS _ hHeld.2.2.2.2.2.2.2.2.1, cell_alS _ hHeld.2.2.2.2.2.2.2.2.2.1, cell_alS _ hHeld.2.2.2.2.2.2.2.2.2.2⟩
    clear hK K
    try simp only [Act.put, List.setIfInBounds_toArray, List.set_cons_zero, List.set_cons_succ, List.getElem_toArray, List.getElem_cons_zero, List.getElem_cons_succ, Nat.zero_add]
    refine wpAnyT_take (i := 6) (v := ?tv6) rfl (by kernel_rfl) (by decide) (by kernel_rfl) (by kernel_rfl) (fun _ _ _ h => h) (Or.inl ⟨by rfl, ?ty6⟩) (by assumption) ?tr6
    case ty6 => intro w hSw; (try dsimp only at hSw); go_simp; (try with_reducible rfl)
    try simp only [Act.put, List.setIfInBounds_toArray, List.set_cons_zero, List.set_cons_succ, List.getElem_toArray, List.getElem_cons_zero, List.getElem_cons_succ, Nat.zero_add]
    refine wpAnyT_ready (rs := [7]) (by kernel_rfl) (by kernel_rfl) ?_
    refine AllReadyT.cons rfl (fun K hK => ?_) ?_
    · go_simp
      refine hK.out _ _ ?_ (fun hHeld => ?_)
      · first | exact ⟨by assumption, by assumption, by assumption, by assumption, by assumption, by assumption, by assumption, by assumption, by assumption, by assumption, by assumption⟩ | exact ⟨cell_alS _ hHeld.1, cell_alS _ hHeld.2.1, cell_alS _ hHeld.2.2.1, cell_alS _ hHeld.2.2.2.1, cell_alS _ hHeld.2.2.2.2.1, cell_alS _ hHeld.2.2.2.2.2.1, cell_alS _ hHeld.2.2.2.2.2.2.1, cell_alS _ hHeld.2.2.2.2.2.2.2.1, cell_alS _ hHeld.2.2.2.2.2.2.2.2.1, cell_alS _ hHeld.2.2.2.2.2.2.2.2.2.1, cell_alS _ hHeld.2.2.2.2.2.2.2.2.2.2⟩
      clear hK K
      try simp only [Act.put, List.setIfInBounds_toArray, List.set_cons_zero, List.set_cons_succ, List.getElem_toArray, List.getElem_cons_zero, List.getElem_cons_succ, Nat.zero_add]
      refine wpAnyT_done (by kernel_rfl) ?_
      simp only [List.drop_succ_cons, List.drop_zero]
      obtain ⟨W, hW⟩ : ∃ W, ((w7.alloc (.cells #[.int .u8 a.kind, .int .i64 a.n, .string a.text, .slice an' a.names.length cn', .slice ak' a.kids.length ck', .int .u8 x.kind, .int .i64 x.n, .string x.text, .slice an x.names.length cn, .slice ak x.kids.length ck] 25)).alloc (.cells #[.int .u8 0, .int .i64 0, .string ⟨#[]⟩, .slice none 0 0, .slice none 0 0] 25)).drew = W := ⟨_, rfl⟩
      have hz : W.heap[(w7.heap.size + 1)]? = some (.cells #[.int .u8 0, .int .i64 0, .string ⟨#[]⟩, .slice none 0 0, .slice none 0 0] 25) := by rw [← hW]; exact new_atS _ _ _ (by simp)
      have hs : W.heap[w7.heap.size]? = some (.cells #[.int .u8 a.kind, .int .i64 a.n, .string a.text, .slice an' a.names.length cn', .slice ak' a.kids.length ck', .int .u8 x.kind, .int .i64 x.n, .string x.text, .slice an x.names.length cn, .slice ak x.kids.length ck] 25) := by rw [← hW]; exact blk_alloc (new_atS _ _ _ (by simp)) _
      have hCW : Chg (fun _ => False) w7 W := by rw [← hW]; exact (((Chg.refl _ w7).alloc _).alloc _).drew
      have hsw7 : w7.heap.size ≤ W.heap.size := hCW.size
      have hCP : Chg (fun _ => False) w7 (put5 W (w7.heap.size + 1) (.int .u8 8) (.int .i64 0) (.string s0) (.slice none 0 0) (.slice (some ⟨w7.heap.size, 0, none⟩) 2 2)) := hCW.andThen (put5_chg _ _ _ _ _ _ _) (fun j hj e => by omega)
      have hbp := put5_blk hz (.int .u8 8) (.int .i64 0) (.string s0) (.slice none 0 0) (.slice (some ⟨w7.heap.size, 0, none⟩) 2 2)
      have hbs := (put5_chg W (w7.heap.size + 1) (.int .u8 8) (.int .i64 0) (.string s0) (.slice none 0 0) (.slice (some ⟨w7.heap.size, 0, none⟩) 2 2)).blk hs (by omega)
      have hCPw := HCw7.out.trans hCP
      have hin9 := letN_in s0 hbs (HINA.out.kept hCPw) (HIN.out.kept hCPw)
      have hok9 := letN_ok (s := s0) HOA.out HOX.out HS0S.out
      have HRML := Lib.hid (rmay_calls (letN s0 a x) _ _ _ hin9 hok9.1 (by have := HSS.out; rw [letN, sizeN, sizesN, sizesN, sizesN]; omega))
      have HFRL := Lib.hid (fun V (hV : Chg (fun _ => False) (put5 W (w7.heap.size + 1) (.int .u8 8) (.int .i64 0) (.string s0) (.slice none 0 0) (.slice (some ⟨w7.heap.size, 0, none⟩) 2 2)) V) => free_calls (letN s0 a x) _ _ V (hin9.kept hV) (HG.out.later (hCPw.trans hV)) hok9.2 hok9.1)
      simp only [ndV_is] at HRML HFRL
      simp only [show (letN s0 a x).kind = 8 from rfl, show (letN s0 a x).n = 0 from rfl, show (letN s0 a x).text = s0 from rfl, show ((8 : Nat) : Int) = 8 from rfl] at HRML HFRL
      have HCP := Lib.hid hCPw
      have HBP := Lib.hid hbp
      have HBNP := Lib.hid (hCP.blk HBN.out (fun e => e))
      have HBAP := Lib.hid (hCP.blk HBA.out (fun e => e))
      have HCPP := Lib.hid hCP
      unfold put5 at HRML HFRL HCP HBP HBNP HBAP HCPP
      have z0 := cell_of hz 0
      have z1 := cell_of hz 1
      have z2 := cell_of hz 2
      have z3 := cell_of hz 3
      have z4 := cell_of hz 4
      have f0 := free_of hz 0
      have f1 := free_of hz 1
      have f2 := free_of hz 2
      have f3 := free_of hz 3
      have f4 := free_of hz 4
      obtain ⟨mp, hmp⟩ : ∃ mp, mayB (letN s0 a x) = mp := ⟨_, rfl⟩
      have HMP := Lib.hid hmp
      rw [hmp] at HRML
      rw [hW]
      clear hz hs hCW hsw7 hCP hbp hbs hCPw hin9 hok9 hmp hW n0 n1 n2 n3 n4 a0 a1 a2 a3 a4 g0 HBN HBA hHeld
      go_wp2_with fail
      refine HRML.out.mono ?_
      rintro e w10 ⟨rfl, hC10⟩
      have HC10 := Lib.hid hC10
      have HCT := Lib.hid (HCP.out.trans hC10)
      have HC710 := Lib.hid (HCPP.out.trans hC10)
      have hp10 := hC10.blk HBP.out (fun e => e)
      have p0 := cell_of hp10 0
      have p1 := cell_of hp10 1
      have p2 := cell_of hp10 2
      have p3 := cell_of hp10 3
      have p4 := cell_of hp10 4
      clear z0 z1 z2 z3 z4 f0 f1 f2 f3 f4 hp10 HRML
      cases mp with
      | false =>
        go_wp2_with fail
        refine (HA.out _ HCT.out).mono ?_
        rintro e w11 ⟨rfl, hCw11⟩
        have HCw11 := Lib.hid (HCT.out.trans hCw11)
        clear hCw11 HA
        go_wp2_with fail
        go_ret
        exact ⟨rfl, HCw11.out⟩
      | true =>
      go_wp2_with fail
      have HFL := Lib.hid (HFRL.out _ HC10.out)
      rw [show freeP (letN s0 a x) = freeB (letN s0 a x) from if_pos HMP.out] at HFL
      refine HFL.out.mono ?_
      rintro e w11 ⟨vm, rfl, hsm, hC11⟩
      have HC711 := Lib.hid (HC710.out.trans hC11)
      have HCT11 := Lib.hid (HCT.out.trans hC11)
      have hba := (HC10.out.trans hC11).blk HBAP.out (fun e => e)
      have a0 := cell_of hba 0
      have a1 := cell_of hba 1
      have a2 := cell_of hba 2
      have a3 := cell_of hba 3
      have a4 := cell_of hba 4
      have HSM := Lib.hid hsm
      clear hba hC11 HFL HFRL p0 p1 p2 p3 p4 hC10
      obtain ⟨m, hm⟩ : ∃ m, freeB (letN s0 a x) = m := ⟨_, rfl⟩
      have HMM := Lib.hid hm
      rw [hm] at hsm HSM
      obtain ⟨adm, capm, rfl, hlem, hcmm, _⟩ := hsm
      have hcmm2 : capm ≤ 9223372036854775807 := by unfold maxLen at hcmm; omega
      obtain ⟨mn, hmn⟩ : ∃ mn, m.length = mn := ⟨_, rfl⟩
      have HMN := Lib.hid hmn
      rw [hmn] at hlem HSM ⊢
      clear hm hmn hcmm
      go_wp2_with fail
      refine (HFRA.out _ HCT11.out).mono ?_
      rintro e w12 ⟨vo, rfl, hso, hC12⟩
      have HC712 := Lib.hid (HC711.out.trans hC12)
      have HCT12 := Lib.hid (HCT11.out.trans hC12)
      have HSO := Lib.hid hso
      have HSM12 := Lib.hid (HSM.out.kept hC12)
      have HSL12 := Lib.hid (HSL.out.kept HC712.out)
      obtain ⟨ado, capo, rfl, hleo, hcmo, _⟩ := hso
      have hcmo2 : capo ≤ 9223372036854775807 := by unfold maxLen at hcmo; omega
      obtain ⟨on, hon⟩ : ∃ on, lo.length = on := ⟨_, rfl⟩
      have HON := Lib.hid hon
      rw [hon] at hleo HSO ⊢
      clear hon hcmo a0 a1 a2 a3 a4 hC12 HFRA HSM HSL HSS HBP HBNP HBAP HCPP HC710 HC711 HCT HCT11 HCP HC10 HOX HOA HIN HINA HG
      go_wp2_with fail
      go_loopg [9] (mn + 1) (fun g vi wr => ∃ (i : Nat), vi = .int .i64 i ∧ i ≤ mn ∧ mn < g + i ∧ Hid (Chg (fun _ => False) w12 wr))
      case atStart => exact ⟨0, rfl, by omega, by omega, Lib.hid (Chg.refl _ _)⟩
      case round =>
        obtain ⟨i, rfl, hi, hg, hCI⟩ := hrel
        by_cases hlt : i < mn
        · obtain ⟨gk', rfl⟩ : ∃ q, gk = q + 1 := ⟨gk - 1, by omega⟩
          obtain ⟨y, hy⟩ : ∃ y, m[i]? = some y := ⟨_, List.getElem?_eq_getElem (by rw [HMN.out]; exact hlt)⟩
          have HFIN : Hid ((memB y lo || memB y (l.drop 1)) = true) := Lib.hid (by
            have h1 := free_binds (a := a) (n := x) (s := s0) (m := y) (by rw [HL.out]; exact HS0.out) (by rw [HMM.out]; exact mem_at hy)
            rw [HL.out, HLO.out] at h1
            rcases h1 with h1 | h1
            · rw [memB_mem.2 h1]; rfl
            · rw [memB_mem.2 h1, Bool.or_true])
          have HY : Hid (∀ V, Chg (fun _ => False) w12 V → ∃ b off, adm = some ⟨b, off, none⟩ ∧ V.cell? ⟨b, off + i, none⟩ = some (.string y)) := Lib.hid fun V hV => by
            obtain ⟨ad, cap, e, _, _, h4⟩ := HSM12.out.kept hV
            simp only [Value.slice.injEq] at e
            obtain ⟨rfl, _, rfl⟩ := e
            obtain ⟨b, off, e1, _, e3⟩ := h4 i y hy
            exact ⟨b, off, e1, e3⟩
          have i0 : (0 : Int) ≤ (i : Int) := by omega
          have i1 : (i : Int) < (mn : Int) := by omega
          clear hy
          go_wp2_with fail
          go_loopg [10, 11] (on + 1) (fun g fv kv wr => ∃ (k : Nat) (f : Bool), fv = .bool f ∧ kv = .int .i64 k ∧ k ≤ on ∧ on < g + k ∧ Hid (f = memB y (lo.take k)) ∧ Hid (Chg (fun _ => False) w12 wr))
          case atStart => exact ⟨0, false, rfl, rfl, by omega, by omega, Lib.hid rfl, hCI⟩
          case round =>
            obtain ⟨k, f, rfl, rfl, hk, hg2, hf, hCK⟩ := hrel
            by_cases hlt2 : k < on
            · obtain ⟨gk', rfl⟩ : ∃ q, gk = q + 1 := ⟨gk - 1, by omega⟩
              obtain ⟨u, hu⟩ : ∃ u, lo[k]? = some u := ⟨_, List.getElem?_eq_getElem (by rw [HON.out]; exact hlt2)⟩
              have hnx := memB_take y u lo k hu
              rw [← hf.out] at hnx
              have HNX := Lib.hid hnx
              have k0 : (0 : Int) ≤ (k : Int) := by omega
              have k1 : (k : Int) < (on : Int) := by omega
              obtain ⟨b, off, rfl, cy⟩ := HY.out _ hCK.out
              obtain ⟨ad, cap, e, _, _, h4⟩ := HSO.out.kept hCK.out
              simp only [Value.slice.injEq] at e
              obtain ⟨rfl, _, rfl⟩ := e
              obtain ⟨b2, off2, rfl, _, cu⟩ := h4 k u hu
              clear h4 hu hnx hf
              cases f with
              | true =>
                go_wp2_with fail
                go_quiet (fail)
                go_wp2_with fail
                go_roundg gk'
                case measure => omega
                case rel => exact ⟨k + 1, true, rfl, by go_num, by omega, by omega, Lib.hid (by rw [HNX.out]; rfl), Lib.hid (hCK.out.drewN _)⟩
              | false =>
                by_cases hxs : u = y
                · have hxb : (u.toList == y.toList) = true := by rw [hxs]; exact beq_self_eq_true _
                  go_wp2_with fail
                  go_quiet (fail)
                  go_wp2_with fail
                  go_roundg gk'
                  case measure => omega
                  case rel => exact ⟨k + 1, true, rfl, by go_num, by omega, by omega, Lib.hid (by rw [HNX.out, decide_eq_true hxs]; rfl), Lib.hid (hCK.out.drewN _)⟩
                · have hxb : (u.toList == y.toList) = false := toList_ne hxs
                  go_wp2_with fail
                  go_quiet (fail)
                  go_wp2_with fail
                  go_roundg gk'
                  case measure => omega
                  case rel => exact ⟨k + 1, false, rfl, by go_num, by omega, by omega, Lib.hid (by rw [HNX.out, decide_eq_false hxs]; rfl), Lib.hid (hCK.out.drewN _)⟩
            · obtain rfl : k = on := by omega
              have hkk : ¬ ((k : Nat) : Int) < ((k : Nat) : Int) := by omega
              have hall : lo.take k = lo := List.take_of_length_le (by rw [HON.out]; exact Nat.le_refl _)
              rw [hall] at hf
              clear hall
              go_wp2_with fail
              go_loopg [10, 12] (ln + 1) (fun g fv kv wr => ∃ (j : Nat) (f2 : Bool), fv = .bool f2 ∧ kv = .int .i64 ((j : Int) + 1) ∧ j + 1 ≤ ln ∧ ln < g + j + 1 ∧ Hid (f2 = (memB y lo || memB y ((l.drop 1).take j))) ∧ Hid (Chg (fun _ => False) w12 wr))
              case atStart => exact ⟨0, f, rfl, rfl, by omega, by omega, Lib.hid (by rw [hf.out]; simp [memB]), hCK⟩
              case round =>
                obtain ⟨j, f2, rfl, rfl, hj, hg3, hf2, hCJ⟩ := hrel
                by_cases hlt3 : j + 1 < ln
                · obtain ⟨gk', rfl⟩ : ∃ q, gk = q + 1 := ⟨gk - 1, by omega⟩
                  obtain ⟨u, hu⟩ : ∃ u, l[j + 1]? = some u := ⟨_, List.getElem?_eq_getElem (by rw [HLN.out]; exact hlt3)⟩
                  have hu2 : (l.drop 1)[j]? = some u := by rw [List.getElem?_drop, Nat.add_comm]; exact hu
                  have hnx : (memB y lo || memB y ((l.drop 1).take (j + 1))) = (f2 || decide (u = y)) := by rw [memB_take y u (l.drop 1) j hu2, hf2.out, Bool.or_assoc]
                  have HNX := Lib.hid hnx
                  have k0 : (0 : Int) ≤ (j : Int) + 1 := by omega
                  have k1 : (j : Int) + 1 < (ln : Int) := by omega
                  obtain ⟨b, off, rfl, cy⟩ := HY.out _ hCJ.out
                  obtain ⟨ad, cap, e, _, _, h4⟩ := HSL12.out.kept hCJ.out
                  simp only [Value.slice.injEq] at e
                  obtain ⟨e1, _, rfl⟩ := e
                  obtain ⟨b2, off2, e2, _, cu⟩ := h4 (j + 1) u hu
                  rw [← e1] at e2
                  simp only [Option.some.injEq, Addr.mk.injEq, and_true] at e2
                  obtain ⟨rfl, rfl⟩ := e2
                  clear h4 hu hnx hf2 hu2 e1
                  cases f2 with
                  | true =>
                    go_wp2_with fail
                    go_quiet (fail)
                    go_wp2_with fail
                    go_roundg gk'
                    case measure => omega
                    case rel => exact ⟨j + 1, true, rfl, by go_num, by omega, by omega, Lib.hid (by rw [HNX.out]; rfl), Lib.hid (hCJ.out.drewN _)⟩
                  | false =>
                    by_cases hxs : u = y
                    · have hxb : (u.toList == y.toList) = true := by rw [hxs]; exact beq_self_eq_true _
                      go_wp2_with fail
                      go_quiet (fail)
                      go_wp2_with fail
                      go_roundg gk'
                      case measure => omega
                      case rel => exact ⟨j + 1, true, rfl, by go_num, by omega, by omega, Lib.hid (by rw [HNX.out, decide_eq_true hxs]; rfl), Lib.hid (hCJ.out.drewN _)⟩
                    · have hxb : (u.toList == y.toList) = false := toList_ne hxs
                      go_wp2_with fail
                      go_quiet (fail)
                      go_wp2_with fail
                      go_roundg gk'
                      case measure => omega
                      case rel => exact ⟨j + 1, false, rfl, by go_num, by omega, by omega, Lib.hid (by rw [HNX.out, decide_eq_false hxs]; rfl), Lib.hid (hCJ.out.drewN _)⟩
                · obtain rfl : ln = j + 1 := by omega
                  have hkk2 : ¬ ((j : Int) + 1) < (((j + 1 : Nat)) : Int) := by omega
                  have hall : (l.drop 1).take j = l.drop 1 := List.take_of_length_le (by rw [List.length_drop, HLN.out]; omega)
                  rw [hall, HFIN.out] at hf2
                  obtain rfl : f2 = true := hf2.out
                  clear hall hf2
                  go_wp2_with fail
                  go_roundg gk'
                  case measure => omega
                  case rel => exact ⟨i + 1, by go_num, by omega, by omega, hCJ⟩
        · obtain rfl : i = mn := by omega
          have hkk3 : ¬ ((i : Nat) : Int) < ((i : Nat) : Int) := by omega
          have HCE := Lib.hid (HCT12.out.trans hCI.out)
          go_wp2_with fail
          refine (HA.out _ HCE.out).mono ?_
          rintro e w13 ⟨rfl, hCw13⟩
          have HCw13 := Lib.hid (HCE.out.trans hCw13)
          clear hCw13 HA
          go_wp2_with fail
          go_ret
          exact ⟨rfl, HCw13.out⟩
    exact AllReadyT.nil
  refine AllReadyT.cons rfl (fun K hK => ?_) ?_
  · go_simp
    refine hK.out _ _ ?_ (fun hHeld => ?_)
    · first | exact ⟨by assumption, by assumption, by assumption, by assumption, by assumption, by assumption, by assumption, by assumption, by assumption, by assumption, by assumption⟩ | exact ⟨cell_alS _ hHeld.1, cell_alS _ hHeld.2.1, cell_alS _ hHeld.2.2.1, cell_alS _ hHeld.2.2.2.1, cell_alS _ hHeld.2.2.2.2.1, cell_alS _ hHeld.2.2.2.2.2.1, cell_alS _ hHeld.2.2.2.2.2.2.1, cell_alS _ hHeld.2.2.2.2.2.2.2.1, cell_alS _ hHeld.2.2.2.2.2.2.2.2.1, cell_alS _ hHeld.2.2.2.2.2.2.2.2.2.1, cell_alS _ hHeld.2.2.2.2.2.2.2.2.2.2⟩
    clear hK K
    try simp only [Act.put, List.setIfInBounds_toArray, List.set_cons_zero, List.set_cons_succ, List.getElem_toArray, List.getElem_cons_zero, List.getElem_cons_succ, Nat.zero_add]
    refine wpAnyT_ready (rs := [5]) (by kernel_rfl) (by kernel_rfl) ?_
    refine AllReadyT.cons rfl (fun K hK => ?_) ?_
    · go_simp
      refine hK.out _ _ ?_ (fun hHeld => ?_)
      · first | exact ⟨by assumption, by assumption, by assumption, by assumption, by assumption, by assumption, by assumption, by assumption, by assumption, by assumption, by assumption⟩ | exact ⟨cell_alS _ hHeld.1, cell_alS _ hHeld.2.1, cell_alS _ hHeld.2.2.1, cell_alS _ hHeld.2.2.2.1, cell_alS _ hHeld.2.2.2.2.1, cell_alS _ hHeld.2.2.2.2.2.1, cell_alS _ hHeld.2.2.2.2.2.2.1, cell_alS _ hHeld.2.2.2.2.2.2.2.1, cell_alS _ hHeld.2.2.2.2.2.2.2.2.1, cell_alS _ hHeld.2.2.2.2.2.2.2.2.2.1, cell_alS _ hHeld.2.2.2.2.2.2.2.2.2.2⟩
      clear hK K
      try simp only [Act.put, List.setIfInBounds_toArray, List.set_cons_zero, List.set_cons_succ, List.getElem_toArray, List.getElem_cons_zero, List.getElem_cons_succ, Nat.zero_add]
      refine wpAnyT_take (i := 6) (v := ?tv7) rfl (by kernel_rfl) (by decide) (by kernel_rfl) (by kernel_rfl) (fun _ _ _ h => h) (Or.inl ⟨by rfl, ?ty7⟩) (by assumption) ?tr7
      case ty7 => intro w hSw; (try dsimp only at hSw); go_simp; (try with_reducible rfl)
      try simp only [Act.put, List.setIfInBounds_toArray, List.set_cons_zero, List.set_cons_succ, List.getElem_toArray, List.getElem_cons_zero, List.getElem_cons_succ, Nat.zero_add]
      refine wpAnyT_done (by kernel_rfl) ?_
      simp only [List.drop_succ_cons, List.drop_zero]
      obtain ⟨W, hW⟩ : ∃ W, ((w7.alloc (.cells #[.int .u8 0, .int .i64 0, .string ⟨#[]⟩, .slice none 0 0, .slice none 0 0] 25)).alloc (.cells #[.int .u8 a.kind, .int .i64 a.n, .string a.text, .slice an' a.names.length cn', .slice ak' a.kids.length ck', .int .u8 x.kind, .int .i64 x.n, .string x.text, .slice an x.names.length cn, .slice ak x.kids.length ck] 25)).drew = W := ⟨_, rfl⟩
      have hz : W.heap[w7.heap.size]? = some (.cells #[.int .u8 0, .int .i64 0, .string ⟨#[]⟩, .slice none 0 0, .slice none 0 0] 25) := by rw [← hW]; exact blk_alloc (new_atS _ _ _ (by simp)) _
      have hs : W.heap[(w7.heap.size + 1)]? = some (.cells #[.int .u8 a.kind, .int .i64 a.n, .string a.text, .slice an' a.names.length cn', .slice ak' a.kids.length ck', .int .u8 x.kind, .int .i64 x.n, .string x.text, .slice an x.names.length cn, .slice ak x.kids.length ck] 25) := by rw [← hW]; exact new_atS _ _ _ (by simp)
      have hCW : Chg (fun _ => False) w7 W := by rw [← hW]; exact (((Chg.refl _ w7).alloc _).alloc _).drew
      have hsw7 : w7.heap.size ≤ W.heap.size := hCW.size
      have hCP : Chg (fun _ => False) w7 (put5 W w7.heap.size (.int .u8 8) (.int .i64 0) (.string s0) (.slice none 0 0) (.slice (some ⟨(w7.heap.size + 1), 0, none⟩) 2 2)) := hCW.andThen (put5_chg _ _ _ _ _ _ _) (fun j hj e => by omega)
      have hbp := put5_blk hz (.int .u8 8) (.int .i64 0) (.string s0) (.slice none 0 0) (.slice (some ⟨(w7.heap.size + 1), 0, none⟩) 2 2)
      have hbs := (put5_chg W w7.heap.size (.int .u8 8) (.int .i64 0) (.string s0) (.slice none 0 0) (.slice (some ⟨(w7.heap.size + 1), 0, none⟩) 2 2)).blk hs (by omega)
      have hCPw := HCw7.out.trans hCP
      have hin9 := letN_in s0 hbs (HINA.out.kept hCPw) (HIN.out.kept hCPw)
      have hok9 := letN_ok (s := s0) HOA.out HOX.out HS0S.out
      have HRML := Lib.hid (rmay_calls (letN s0 a x) _ _ _ hin9 hok9.1 (by have := HSS.out; rw [letN, sizeN, sizesN, sizesN, sizesN]; omega))
      have HFRL := Lib.hid (fun V (hV : Chg (fun _ => False) (put5 W w7.heap.size (.int .u8 8) (.int .i64 0) (.string s0) (.slice none 0 0) (.slice (some ⟨(w7.heap.size + 1), 0, none⟩) 2 2)) V) => free_calls (letN s0 a x) _ _ V (hin9.kept hV) (HG.out.later (hCPw.trans hV)) hok9.2 hok9.1)
      simp only [ndV_is] at HRML HFRL
      simp only [show (letN s0 a x).kind = 8 from rfl, show (letN s0 a x).n = 0 from rfl, show (letN s0 a x).text = s0 from rfl, show ((8 : Nat) : Int) = 8 from rfl] at HRML HFRL
      have HCP := Lib.hid hCPw
      have HBP := Lib.hid hbp
      have HBNP := Lib.hid (hCP.blk HBN.out (fun e => e))
      have HBAP := Lib.hid (hCP.blk HBA.out (fun e => e))
      have HCPP := Lib.hid hCP
      unfold put5 at HRML HFRL HCP HBP HBNP HBAP HCPP
      have z0 := cell_of hz 0
      have z1 := cell_of hz 1
      have z2 := cell_of hz 2
      have z3 := cell_of hz 3
      have z4 := cell_of hz 4
      have f0 := free_of hz 0
      have f1 := free_of hz 1
      have f2 := free_of hz 2
      have f3 := free_of hz 3
      have f4 := free_of hz 4
      obtain ⟨mp, hmp⟩ : ∃ mp, mayB (letN s0 a x) = mp := ⟨_, rfl⟩
      have HMP := Lib.hid hmp
      rw [hmp] at HRML
      rw [hW]
      clear hz hs hCW hsw7 hCP hbp hbs hCPw hin9 hok9 hmp hW n0 n1 n2 n3 n4 a0 a1 a2 a3 a4 g0 HBN HBA hHeld
      go_wp2_with fail
      refine HRML.out.mono ?_
      rintro e w10 ⟨rfl, hC10⟩
      have HC10 := Lib.hid hC10
      have HCT := Lib.hid (HCP.out.trans hC10)
      have HC710 := Lib.hid (HCPP.out.trans hC10)
      have hp10 := hC10.blk HBP.out (fun e => e)
      have p0 := cell_of hp10 0
      have p1 := cell_of hp10 1
      have p2 := cell_of hp10 2
      have p3 := cell_of hp10 3
      have p4 := cell_of hp10 4
      clear z0 z1 z2 z3 z4 f0 f1 f2 f3 f4 hp10 HRML
      cases mp with
      | false =>
        go_wp2_with fail
        refine (HA.out _ HCT.out).mono ?_
        rintro e w11 ⟨rfl, hCw11⟩
        have HCw11 := Lib.hid (HCT.out.trans hCw11)
        clear hCw11 HA
        go_wp2_with fail
        go_ret
        exact ⟨rfl, HCw11.out⟩
      | true =>
      go_wp2_with fail
      have HFL := Lib.hid (HFRL.out _ HC10.out)
      rw [show freeP (letN s0 a x) = freeB (letN s0 a x) from if_pos HMP.out] at HFL
      refine HFL.out.mono ?_
      rintro e w11 ⟨vm, rfl, hsm, hC11⟩
      have HC711 := Lib.hid (HC710.out.trans hC11)
      have HCT11 := Lib.hid (HCT.out.trans hC11)
      have hba := (HC10.out.trans hC11).blk HBAP.out (fun e => e)
      have a0 := cell_of hba 0
      have a1 := cell_of hba 1
      have a2 := cell_of hba 2
      have a3 := cell_of hba 3
      have a4 := cell_of hba 4
      have HSM := Lib.hid hsm
      clear hba hC11 HFL HFRL p0 p1 p2 p3 p4 hC10
      obtain ⟨m, hm⟩ : ∃ m, freeB (letN s0 a x) = m := ⟨_, rfl⟩
      have HMM := Lib.hid hm
      rw [hm] at hsm HSM
      obtain ⟨adm, capm, rfl, hlem, hcmm, _⟩ := hsm
      have hcmm2 : capm ≤ 9223372036854775807 := by unfold maxLen at hcmm; omega
      obtain ⟨mn, hmn⟩ : ∃ mn, m.length = mn := ⟨_, rfl⟩
      have HMN := Lib.hid hmn
      rw [hmn] at hlem HSM ⊢
      clear hm hmn hcmm
      go_wp2_with fail
      refine (HFRA.out _ HCT11.out).mono ?_
      rintro e w12 ⟨vo, rfl, hso, hC12⟩
      have HC712 := Lib.hid (HC711.out.trans hC12)
      have HCT12 := Lib.hid (HCT11.out.trans hC12)
      have HSO := Lib.hid hso
      have HSM12 := Lib.hid (HSM.out.kept hC12)
      have HSL12 := Lib.hid (HSL.out.kept HC712.out)
      obtain ⟨ado, capo, rfl, hleo, hcmo, _⟩ := hso
      have hcmo2 : capo ≤ 9223372036854775807 := by unfold maxLen at hcmo; omega
      obtain ⟨on, hon⟩ : ∃ on, lo.length = on := ⟨_, rfl⟩
      have HON := Lib.hid hon
      rw [hon] at hleo HSO ⊢
      clear hon hcmo a0 a1 a2 a3 a4 hC12 HFRA HSM HSL HSS HBP HBNP HBAP HCPP HC710 HC711 HCT HCT11 HCP HC10 HOX HOA HIN HINA HG
      go_wp2_with fail
      go_loopg [9] (mn + 1) (fun g vi wr => ∃ (i : Nat), vi = .int .i64 i ∧ i ≤ mn ∧ mn < g + i ∧ Hid (Chg (fun _ => False) w12 wr))
      case atStart => exact ⟨0, rfl, by omega, by omega, Lib.hid (Chg.refl _ _)⟩
      case round =>
        obtain ⟨i, rfl, hi, hg, hCI⟩ := hrel
        by_cases hlt : i < mn
        · obtain ⟨gk', rfl⟩ : ∃ q, gk = q + 1 := ⟨gk - 1, by omega⟩
          obtain ⟨y, hy⟩ : ∃ y, m[i]? = some y := ⟨_, List.getElem?_eq_getElem (by rw [HMN.out]; exact hlt)⟩
          have HFIN : Hid ((memB y lo || memB y (l.drop 1)) = true) := Lib.hid (by
            have h1 := free_binds (a := a) (n := x) (s := s0) (m := y) (by rw [HL.out]; exact HS0.out) (by rw [HMM.out]; exact mem_at hy)
            rw [HL.out, HLO.out] at h1
            rcases h1 with h1 | h1
            · rw [memB_mem.2 h1]; rfl
            · rw [memB_mem.2 h1, Bool.or_true])
          have HY : Hid (∀ V, Chg (fun _ => False) w12 V → ∃ b off, adm = some ⟨b, off, none⟩ ∧ V.cell? ⟨b, off + i, none⟩ = some (.string y)) := Lib.hid fun V hV => by
            obtain ⟨ad, cap, e, _, _, h4⟩ := HSM12.out.kept hV
            simp only [Value.slice.injEq] at e
            obtain ⟨rfl, _, rfl⟩ := e
            obtain ⟨b, off, e1, _, e3⟩ := h4 i y hy
            exact ⟨b, off, e1, e3⟩
          have i0 : (0 : Int) ≤ (i : Int) := by omega
          have i1 : (i : Int) < (mn : Int) := by omega
          clear hy
          go_wp2_with fail
          go_loopg [10, 11] (on + 1) (fun g fv kv wr => ∃ (k : Nat) (f : Bool), fv = .bool f ∧ kv = .int .i64 k ∧ k ≤ on ∧ on < g + k ∧ Hid (f = memB y (lo.take k)) ∧ Hid (Chg (fun _ => False) w12 wr))
          case atStart => exact ⟨0, false, rfl, rfl, by omega, by omega, Lib.hid rfl, hCI⟩
          case round =>
            obtain ⟨k, f, rfl, rfl, hk, hg2, hf, hCK⟩ := hrel
            by_cases hlt2 : k < on
            · obtain ⟨gk', rfl⟩ : ∃ q, gk = q + 1 := ⟨gk - 1, by omega⟩
              obtain ⟨u, hu⟩ : ∃ u, lo[k]? = some u := ⟨_, List.getElem?_eq_getElem (by rw [HON.out]; exact hlt2)⟩
              have hnx := memB_take y u lo k hu
              rw [← hf.out] at hnx
              have HNX := Lib.hid hnx
              have k0 : (0 : Int) ≤ (k : Int) := by omega
              have k1 : (k : Int) < (on : Int) := by omega
              obtain ⟨b, off, rfl, cy⟩ := HY.out _ hCK.out
              obtain ⟨ad, cap, e, _, _, h4⟩ := HSO.out.kept hCK.out
              simp only [Value.slice.injEq] at e
              obtain ⟨rfl, _, rfl⟩ := e
              obtain ⟨b2, off2, rfl, _, cu⟩ := h4 k u hu
              clear h4 hu hnx hf
              cases f with
              | true =>
                go_wp2_with fail
                go_quiet (fail)
                go_wp2_with fail
                go_roundg gk'
                case measure => omega
                case rel => exact ⟨k + 1, true, rfl, by go_num, by omega, by omega, Lib.hid (by rw [HNX.out]; rfl), Lib.hid (hCK.out.drewN _)⟩
              | false =>
                by_cases hxs : u = y
                · have hxb : (u.toList == y.toList) = true := by rw [hxs]; exact beq_self_eq_true _
                  go_wp2_with fail
                  go_quiet (fail)
                  go_wp2_with fail
                  go_roundg gk'
                  case measure => omega
                  case rel => exact ⟨k + 1, true, rfl, by go_num, by omega, by omega, Lib.hid (by rw [HNX.out, decide_eq_true hxs]; rfl), Lib.hid (hCK.out.drewN _)⟩
                · have hxb : (u.toList == y.toList) = false := toList_ne hxs
                  go_wp2_with fail
                  go_quiet (fail)
                  go_wp2_with fail
                  go_roundg gk'
                  case measure => omega
                  case rel => exact ⟨k + 1, false, rfl, by go_num, by omega, by omega, Lib.hid (by rw [HNX.out, decide_eq_false hxs]; rfl), Lib.hid (hCK.out.drewN _)⟩
            · obtain rfl : k = on := by omega
              have hkk : ¬ ((k : Nat) : Int) < ((k : Nat) : Int) := by omega
              have hall : lo.take k = lo := List.take_of_length_le (by rw [HON.out]; exact Nat.le_refl _)
              rw [hall] at hf
              clear hall
              go_wp2_with fail
              go_loopg [10, 12] (ln + 1) (fun g fv kv wr => ∃ (j : Nat) (f2 : Bool), fv = .bool f2 ∧ kv = .int .i64 ((j : Int) + 1) ∧ j + 1 ≤ ln ∧ ln < g + j + 1 ∧ Hid (f2 = (memB y lo || memB y ((l.drop 1).take j))) ∧ Hid (Chg (fun _ => False) w12 wr))
              case atStart => exact ⟨0, f, rfl, rfl, by omega, by omega, Lib.hid (by rw [hf.out]; simp [memB]), hCK⟩
              case round =>
                obtain ⟨j, f2, rfl, rfl, hj, hg3, hf2, hCJ⟩ := hrel
                by_cases hlt3 : j + 1 < ln
                · obtain ⟨gk', rfl⟩ : ∃ q, gk = q + 1 := ⟨gk - 1, by omega⟩
                  obtain ⟨u, hu⟩ : ∃ u, l[j + 1]? = some u := ⟨_, List.getElem?_eq_getElem (by rw [HLN.out]; exact hlt3)⟩
                  have hu2 : (l.drop 1)[j]? = some u := by rw [List.getElem?_drop, Nat.add_comm]; exact hu
                  have hnx : (memB y lo || memB y ((l.drop 1).take (j + 1))) = (f2 || decide (u = y)) := by rw [memB_take y u (l.drop 1) j hu2, hf2.out, Bool.or_assoc]
                  have HNX := Lib.hid hnx
                  have k0 : (0 : Int) ≤ (j : Int) + 1 := by omega
                  have k1 : (j : Int) + 1 < (ln : Int) := by omega
                  obtain ⟨b, off, rfl, cy⟩ := HY.out _ hCJ.out
                  obtain ⟨ad, cap, e, _, _, h4⟩ := HSL12.out.kept hCJ.out
                  simp only [Value.slice.injEq] at e
                  obtain ⟨e1, _, rfl⟩ := e
                  obtain ⟨b2, off2, e2, _, cu⟩ := h4 (j + 1) u hu
                  rw [← e1] at e2
                  simp only [Option.some.injEq, Addr.mk.injEq, and_true] at e2
                  obtain ⟨rfl, rfl⟩ := e2
                  clear h4 hu hnx hf2 hu2 e1
                  cases f2 with
                  | true =>
                    go_wp2_with fail
                    go_quiet (fail)
                    go_wp2_with fail
                    go_roundg gk'
                    case measure => omega
                    case rel => exact ⟨j + 1, true, rfl, by go_num, by omega, by omega, Lib.hid (by rw [HNX.out]; rfl), Lib.hid (hCJ.out.drewN _)⟩
                  | false =>
                    by_cases hxs : u = y
                    · have hxb : (u.toList == y.toList) = true := by rw [hxs]; exact beq_self_eq_true _
                      go_wp2_with fail
                      go_quiet (fail)
                      go_wp2_with fail
                      go_roundg gk'
                      case measure => omega
                      case rel => exact ⟨j + 1, true, rfl, by go_num, by omega, by omega, Lib.hid (by rw [HNX.out, decide_eq_true hxs]; rfl), Lib.hid (hCJ.out.drewN _)⟩
                    · have hxb : (u.toList == y.toList) = false := toList_ne hxs
                      go_wp2_with fail
                      go_quiet (fail)
                      go_wp2_with fail
                      go_roundg gk'
                      case measure => omega
                      case rel => exact ⟨j + 1, false, rfl, by go_num, by omega, by omega, Lib.hid (by rw [HNX.out, decide_eq_false hxs]; rfl), Lib.hid (hCJ.out.drewN _)⟩
                · obtain rfl : ln = j + 1 := by omega
                  have hkk2 : ¬ ((j : Int) + 1) < (((j + 1 : Nat)) : Int) := by omega
                  have hall : (l.drop 1).take j = l.drop 1 := List.take_of_length_le (by rw [List.length_drop, HLN.out]; omega)
                  rw [hall, HFIN.out] at hf2
                  obtain rfl : f2 = true := hf2.out
                  clear hall hf2
                  go_wp2_with fail
                  go_roundg gk'
                  case measure => omega
                  case rel => exact ⟨i + 1, by go_num, by omega, by omega, hCJ⟩
        · obtain rfl : i = mn := by omega
          have hkk3 : ¬ ((i : Nat) : Int) < ((i : Nat) : Int) := by omega
          have HCE := Lib.hid (HCT12.out.trans hCI.out)
          go_wp2_with fail
          refine (HA.out _ HCE.out).mono ?_
          rintro e w13 ⟨rfl, hCw13⟩
          have HCw13 := Lib.hid (HCE.out.trans hCw13)
          clear hCw13 HA
          go_wp2_with fail
          go_ret
          exact ⟨rfl, HCw13.out⟩
    exact AllReadyT.nil
  exact AllReadyT.nil
end Go.Proofs.YtaklmocjaokkpaaGreatDoor.Tr
