/- A node's text that is cut off isn't a program's, unless it is a word or a number: the statement, walked. Condition: a node of weight at most 2^20; what XTreeText's functions want of the library's variables; what is printed of numbers and of texts in quotes. -/
import Derived.Test.YtaklmocjaokkpaaGreatDoorTreePrintsLaw
import Derived.Test.YtaklmocjaokkpaaGreatDoorTreeSame
import Derived.Test.YtaklmocjaokkpaaGreatDoorParseA
import Derived.Test.YtaklmocjaokkpaaGreatDoorParseC
namespace Go.Proofs.YtaklmocjaokkpaaGreatDoor.Tr
set_option linter.unusedVariables false
set_option linter.unusedSimpArgs false
open Go.RowKit Go.Shelf Go.Proofs.YtaklmocjaokkpaaGreatDoor.Mem

theorem slice_to {P : Program} (t : TypeId) (ht : P.underlying t = some .string) (s : ByteArray) (j : Nat) (h2 : j ≤ s.size) (w : World) :
    (Instr.slice t (.string s) none (some (.int .i64 (j : Int))) none).run P w = .ok (.string (s.extract 0 j)) w := by
  have e2 : ((j : Int)).toNat = j := by omega
  simp [Instr.slice, run_underlying ht, Instr.sliceBounds, run_sliceBound, *]
theorem cut_is {x : Nd} {px : ByteArray} (hp : (⟨(printL x).toArray⟩ : ByteArray) = px) (j : Nat) : bl (px.extract 0 j) = (printL x).take j := by
  show (px.extract 0 j).data.toList = _
  rw [Lx.extract_list, ← hp]
  simp
/-- What is parsed of a text that is cut off. -/
theorem cut_ends {x : Nd} (hx : mayB x = true) (hl : Lits inR okQ x) {px : ByteArray} (hp : (⟨(printL x).toArray⟩ : ByteArray) = px) {j : Nat} (hj : j < px.size) {c : UInt8} (hc : px.data.toList[0]? = some c) :
    (∀ p q, parseP (bl (px.extract 0 j)) = .error (p, q) → p ≤ j ∧ q ≠ 0) ∧ (∀ y, parseP (bl (px.extract 0 j)) = .ok y → c ≠ 40 ∧ c ≠ 34) := by
  have hsz : px.size = (printL x).length := by rw [← hp, mk_size]
  refine ⟨fun p q h => ?_, fun y h => ?_⟩
  · have h1 := parse_errs h
    rw [cut_is hp, List.length_take] at h1
    exact ⟨by omega, h1.2⟩
  · rw [cut_is hp] at h
    have hh : (printL x).head? = some c := by
      rw [← hc, ← hp]
      cases printL x <;> rfl
    have hn := fun hh2 => cuts_not (y := y) hx (hl.weak (fun _ h => h) (fun _ _ => trivial)) (cut := j) (by omega) hh2 h
    exact ⟨fun e => hn (.inl (by rw [hh, e])), fun e => hn (.inr (by rw [hh, e]))⟩
set_option maxRecDepth 100000 in
set_option maxHeartbeats 8000000 in
theorem parseCuts_calls (x : Nd) (nv kv : Value) (cut : Int) (w : World) (h : NdIn w nv kv x) (hwt : wt x ≤ 1048576) (hcut : -9223372036854775808 ≤ cut ∧ cut ≤ 9223372036854775807) (hg : Gm w) (hF : FmtOk inR w) (hQ : QuoOk okQ w) :
    Calls Tryz.prog 12 #[ndV x nv kv, .int .i64 cut] w fun e w' => e = .returned (.bool true) ∧ Chg (fun _ => False) w w' := by
  obtain ⟨hfx, hsx⟩ := fine_wt x hwt
  have hzx := size_wt x
  have HA := Lib.hid (fun W (hW : Chg (fun _ => False) w W) => pawake_calls W (hg.later hW))
  have HGX := Lib.hid (fun W (hW : Chg (fun _ => False) w W) => great_calls x nv kv 0 W (h.kept hW) (by omega) (by omega))
  have HMX := Lib.hid (fun W (hW : Chg (fun _ => False) w W) => rmay_calls x nv kv W (h.kept hW) hfx (by omega))
  have HPX : greatB x 0 = false → Hid (∀ W, Chg (fun _ => False) w W → Calls Tryz.prog 19 #[ndV x nv kv] W fun e w' => e = .returned (.tuple #[.string (printR x).1, .int .i64 (printR x).2]) ∧ Chg (fun _ => False) W w') := fun hgr => Lib.hid fun W hW => by
    have hl := great_lits x nv kv 0 h hgr
    exact print_calls x nv kv W (h.kept hW) (hg.later hW) hsx (hF.later hW) (hQ.later hW) hl (fun _ => by have := print_len x hl; omega)
  obtain ⟨px, hpx⟩ : ∃ px : ByteArray, (⟨(printL x).toArray⟩ : ByteArray) = px := ⟨_, rfl⟩
  have HPP := Lib.hid (fun t W (hW : Chg (fun _ => False) w W) => parse_calls t W (hg.later hW))
  have HEN : greatB x 0 = false → mayB x = true → ∀ j, j < px.size → ∀ c, px.data.toList[0]? = some c → (∀ p q, parseP (bl (px.extract 0 j)) = .error (p, q) → p ≤ j ∧ q ≠ 0) ∧ (∀ y, parseP (bl (px.extract 0 j)) = .ok y → c ≠ 40 ∧ c ≠ 34) := fun g1 g2 j hj c hc => cut_ends g2 (great_lits x nv kv 0 h g1) hpx hj hc
  obtain ⟨gx, hgx⟩ : ∃ gx, greatB x 0 = gx := ⟨_, rfl⟩
  obtain ⟨mx, hmx⟩ : ∃ mx, mayB x = mx := ⟨_, rfl⟩
  have hprx : printR x = if mx = true then (px, 0) else (⟨#[]⟩, 12) := by unfold printR; rw [hmx, hpx]
  simp only [hgx] at HGX
  simp only [hmx] at HMX
  rw [hgx, hprx] at HPX
  rw [hgx, hmx] at HEN
  have HSL := Lib.hid (fun j (hj : j ≤ px.size) W => slice_to (P := Tryz.prog) 9 Tryz.underlying9 px j hj W)
  obtain ⟨w1, hw1⟩ : ∃ w1, w.alloc (ndBox x nv kv) = w1 := ⟨_, rfl⟩
  have hC1 : Chg (fun _ => False) w w1 := by rw [← hw1]; exact (Chg.refl _ w).alloc _
  have hbx : w1.heap[w.heap.size]? = some (ndBox x nv kv) := by rw [← hw1]; exact blk_new w _
  have HC1 := Lib.hid hC1
  have HD1 := Lib.hid (Chg.refl (fun _ => False) w1)
  obtain ⟨an, can, ak, cak, rfl, rfl, _⟩ := h.forms
  unfold ndBox at hbx hw1
  unfold ndV at HGX HMX HPX ⊢
  have HB : Hid (∀ W, Chg (fun _ => False) w1 W → W.heap[w.heap.size]? = some (.cells #[.int .u8 x.kind, .int .i64 x.n, .string x.text, .slice an x.names.length can, .slice ak x.kids.length cak] 25)) := Lib.hid fun W hW => hW.blk hbx (fun e => e)
  have a0 := cell_of hbx 0
  have a1 := cell_of hbx 1
  have a2 := cell_of hbx 2
  have a3 := cell_of hbx 3
  have a4 := cell_of hbx 4
  clear h hwt hg hF hQ hfx hsx hzx hgx hmx hpx hprx hC1 hbx
  go_enter Tryz.func12, Tryz.ntmps12
  go_wp2_with fail
  refine (HGX.out _ HC1.out).mono ?_
  rintro e w2 ⟨rfl, hC2⟩
  have HD2 := Lib.hid (HD1.out.trans hC2)
  have HC2 := Lib.hid (HC1.out.trans hC2)
  have hq := HB.out _ HD2.out
  clear a0 a1 a2 a3 a4 hC2 hw1
  have a0 := cell_of hq 0
  have a1 := cell_of hq 1
  have a2 := cell_of hq 2
  have a3 := cell_of hq 3
  have a4 := cell_of hq 4
  clear hq
  cases gx with
  | true =>
    go_wp2_with fail
    refine (HA.out _ HC2.out).mono ?_
    rintro e wz ⟨rfl, hCz⟩
    have HCZ := Lib.hid ((HC2.out).trans hCz)
    clear hCz HA
    go_wp2_with fail
    go_ret
    exact ⟨rfl, HCZ.out⟩
  | false =>
  have HPX2 := HPX (by first | rfl | trivial)
  have HEN2 := HEN (by first | rfl | trivial)
  clear HPX HEN
  go_wp2_with fail
  refine (HMX.out _ HC2.out).mono ?_
  rintro e w3 ⟨rfl, hC3⟩
  have HD3 := Lib.hid (HD2.out.trans hC3)
  have HC3 := Lib.hid (HC2.out.trans hC3)
  have hq := HB.out _ HD3.out
  clear a0 a1 a2 a3 a4 hC3 HGX
  have a0 := cell_of hq 0
  have a1 := cell_of hq 1
  have a2 := cell_of hq 2
  have a3 := cell_of hq 3
  have a4 := cell_of hq 4
  clear hq
  cases mx with
  | false =>
    go_wp2_with fail
    refine (HA.out _ HC3.out).mono ?_
    rintro e wz ⟨rfl, hCz⟩
    have HCZ := Lib.hid ((HC3.out).trans hCz)
    clear hCz HA
    go_wp2_with fail
    go_ret
    exact ⟨rfl, HCZ.out⟩
  | true =>
  have HEN3 := Lib.hid (HEN2 (by first | rfl | trivial))
  clear HEN2
  simp only [if_true] at HPX2
  go_wp2_with fail
  refine (HPX2.out _ HC3.out).mono ?_
  rintro e w4 ⟨rfl, hC4⟩
  have HD4 := Lib.hid (HD3.out.trans hC4)
  have HC4 := Lib.hid (HC3.out.trans hC4)
  have hq := HB.out _ HD4.out
  clear a0 a1 a2 a3 a4 hC4 HMX
  have a0 := cell_of hq 0
  have a1 := cell_of hq 1
  have a2 := cell_of hq 2
  have a3 := cell_of hq 3
  have a4 := cell_of hq 4
  clear hq
  clear a0 a1 a2 a3 a4
  by_cases hneg : cut < 0
  · go_wp2_with fail
    refine (HA.out _ HC4.out).mono ?_
    rintro e wz ⟨rfl, hCz⟩
    have HCZ := Lib.hid ((HC4.out).trans hCz)
    clear hCz HA
    go_wp2_with fail
    go_ret
    exact ⟨rfl, HCZ.out⟩
  obtain ⟨j, hj⟩ : ∃ j : Nat, cut = (j : Int) := ⟨cut.toNat, by omega⟩
  subst hj
  by_cases hbig : (px.size : Int) ≤ (j : Int)
  · go_wp2_with fail
    refine (HA.out _ HC4.out).mono ?_
    rintro e wz ⟨rfl, hCz⟩
    have HCZ := Lib.hid ((HC4.out).trans hCz)
    clear hCz HA
    go_wp2_with fail
    go_ret
    exact ⟨rfl, HCZ.out⟩
  have hjs : j < px.size := by omega
  have h0 : 0 < px.size := by omega
  have hji : (j : Int) ≤ (px.size : Int) := by omega
  have hj0 : (0 : Int) ≤ (j : Int) := by omega
  have h0i : (0 : Int) < (px.size : Int) := by omega
  have hc0 := Lx.at_get px 0 h0
  obtain ⟨c, hc⟩ : ∃ c, px[0] = c := ⟨_, rfl⟩
  rw [hc] at hc0
  have HE := Lib.hid (HEN3.out j hjs c hc0)
  have hsl := HSL.out j (by omega)
  obtain ⟨sub, hsub⟩ : ∃ sub, px.extract 0 j = sub := ⟨_, rfl⟩
  rw [hsub] at HE
  simp only [hsub] at hsl
  clear hc0 HEN3 HSL hsub hneg
  go_wp2_with fail
  refine (HPP.out sub _ HC4.out).mono ?_
  cases hr : parseP (bl sub) with
  | error pq =>
    obtain ⟨p, q⟩ := pq
    obtain ⟨e1, e2⟩ := HE.out.1 p q hr
    have hq0 : ((q : Int) != 0) = true := bne_iff_ne.2 (by omega)
    have hp0 : (0 : Int) ≤ (p : Int) := by omega
    have hpc : (p : Int) ≤ (j : Int) := by omega
    rintro e w5 ⟨rfl, hC5⟩
    have HC5 := Lib.hid ((HC4.out.trans hC5).alloc (.cells #[.int .u8 0, .int .i64 0, .string ⟨#[]⟩, .slice none 0 0, .slice none 0 0] 25))
    clear hC5 hr e1 e2 HPP HE
    by_cases hc40 : c = 40
    · subst hc40
      have u1 : (40 : UInt8).toNat = 40 := rfl
      go_wp2_with fail
      refine (HA.out _ HC5.out).mono ?_
      rintro e wz ⟨rfl, hCz⟩
      have HCZ := Lib.hid ((HC5.out).trans hCz)
      clear hCz HA
      go_wp2_with fail
      go_ret
      exact ⟨rfl, HCZ.out⟩
    have n40 : ¬ c.toNat = 40 := fun e => hc40 (UInt8.toNat_inj.1 e)
    have n40i : ((c.toNat : Int) == 40) = false := beq_eq_false_iff_ne.2 (by omega)
    by_cases hc34 : c = 34
    · subst hc34
      have u1 : (34 : UInt8).toNat = 34 := rfl
      clear n40 hc40
      go_wp2_with fail
      refine (HA.out _ HC5.out).mono ?_
      rintro e wz ⟨rfl, hCz⟩
      have HCZ := Lib.hid ((HC5.out).trans hCz)
      clear hCz HA
      go_wp2_with fail
      go_ret
      exact ⟨rfl, HCZ.out⟩
    have n34 : ¬ c.toNat = 34 := fun e => hc34 (UInt8.toNat_inj.1 e)
    have n34i : ((c.toNat : Int) == 34) = false := beq_eq_false_iff_ne.2 (by omega)
    clear hc40 hc34 n40 n34
    go_wp2_with fail
    refine (HA.out _ HC5.out).mono ?_
    rintro e wz ⟨rfl, hCz⟩
    have HCZ := Lib.hid ((HC5.out).trans hCz)
    clear hCz HA
    go_wp2_with fail
    go_ret
    exact ⟨rfl, HCZ.out⟩
  | ok y =>
    obtain ⟨e1, e2⟩ := HE.out.2 y hr
    rintro e w5 ⟨nv', kv', rfl, hin5, hC5⟩
    obtain ⟨bn, cbn, bk, cbk, rfl, rfl, _⟩ := hin5.forms
    unfold ndV
    have HC5 := Lib.hid ((HC4.out.trans hC5).alloc (.cells #[.int .u8 y.kind, .int .i64 y.n, .string y.text, .slice bn y.names.length cbn, .slice bk y.kids.length cbk] 25))
    have n40 : ¬ c.toNat = 40 := fun e => e1 (UInt8.toNat_inj.1 e)
    have n40i : ((c.toNat : Int) == 40) = false := beq_eq_false_iff_ne.2 (by omega)
    have n34 : ¬ c.toNat = 34 := fun e => e2 (UInt8.toNat_inj.1 e)
    have n34i : ((c.toNat : Int) == 34) = false := beq_eq_false_iff_ne.2 (by omega)
    clear hC5 hr e1 e2 HPP HE n40 n34 hin5
    go_wp2_with fail
    refine (HA.out _ HC5.out).mono ?_
    rintro e wz ⟨rfl, hCz⟩
    have HCZ := Lib.hid ((HC5.out).trans hCz)
    clear hCz HA
    go_wp2_with fail
    go_ret
    exact ⟨rfl, HCZ.out⟩
end Go.Proofs.YtaklmocjaokkpaaGreatDoor.Tr
