/- The parser's bracket, walked: it comes to what the plain parser has. Condition: value's and clauses' contracts. -/
import Derived.Test.YtaklmocjaokkpaaDoorParseB
namespace Go.Proofs.YtaklmocjaokkpaaDoor.Tr
set_option linter.unusedVariables false
set_option linter.unusedSimpArgs false
open Go.RowKit Go.Shelf Go.Proofs.YtaklmocjaokkpaaDoor.Mem

theorem parts_count {L : List Lx.Tok} {fin : Nat} {val : Nat → Nat → PRes Nd} (hv : Counts val) {many : Int} : ∀ (k : Nat) (acc ks : List Nd) (i n i' n' : Nat), partsP L fin val many k acc i n = .ok (ks, i', n') → n ≤ 4000 → n' ≤ 4000 ∧ ks.length + n ≤ n' + acc.length := by
  intro k
  induction k with
  | zero => intro acc ks i n i' n' h hn; cases h; exact ⟨hn, by omega⟩
  | succ k ih =>
    intro acc ks i n i' n' h hn
    unfold partsP at h
    split at h
    · cases h
    · cases h; exact ⟨hn, by omega⟩
    · split at h
      · cases h
      · rename_i x i1 n1 hx
        have h1 := hv _ _ _ _ _ hx hn
        have h2 := ih _ _ _ _ _ _ h h1.2
        rw [List.length_append, List.length_singleton] at h2
        exact ⟨h2.1, by omega⟩
theorem kinds_range (s : ByteArray) : (kindsP s).1 < 17 ∧ 5 < (kindsP s).1 ∧ -1 ≤ (kindsP s).2 ∧ (kindsP s).2 ≤ 3 := by
  unfold kindsP
  repeat' split
  all_goals (first | decide | skip)
  refine ⟨by show 11 < 17; decide, by show 5 < 11; decide, ?_, ?_⟩
  · show -1 ≤ takes s
    unfold takes takesL
    split
    · omega
    split
    · omega
    split <;> omega
  · show takes s ≤ 3
    unfold takes takesL
    split
    · omega
    split
    · omega
    split <;> omega
/-- The bracket's node, whole. -/
theorem node_make {w W : World} {B : Nat} {k : Nat} {tx : ByteArray} {nsv kv : Value} {ns : List ByteArray} {ks : List Nd} (hk : k < 256) (hs : SRow W B nsv ns) (hr : NRow W B kv ks) (hB : w.heap.size < B) : NdIn (off (fun q => q < w.heap.size ∨ q = w.heap.size) W) nsv kv (.mk k 0 tx ns ks) := by
  have hkeep : Keep (off (fun q => q < B) W) (off (fun q => q < w.heap.size ∨ q = w.heap.size) W) := keep_offs (Chg.refl _ W) (fun q _ h1 h2 => by
    have h1' : ¬ q < B := h1
    rcases h2 with h2 | h2 <;> omega)
  obtain ⟨ad, cap, e, h1, h2, h3⟩ := hr.kids
  refine NdIn.of hk (show (-9223372036854775808 : Int) ≤ 0 ∧ (0 : Int) ≤ 9223372036854775807 by decide) (hs.names.keep hkeep) ⟨ad, cap, e, h1, h2, KidsIn.of _ _ fun j y hy => ?_⟩
  obtain ⟨b, o, nv', kv', f1, f2, f3, f4, f5, f6, f7, f8⟩ := h3.at_ j y hy
  exact ⟨b, o, nv', kv', f1, Nat.lt_of_lt_of_le f2 hkeep.1, hkeep.2 _ _ _ f3, hkeep.2 _ _ _ f4, hkeep.2 _ _ _ f5, hkeep.2 _ _ _ f6, hkeep.2 _ _ _ f7, NdIn.keep hkeep _ _ _ f8⟩
theorem NRow.wide {w : World} {B B' : Nat} {v : Value} {ks : List Nd} (h : NRow w B v ks) (hB : B' ≤ B) : NRow w B' v ks := by
  obtain ⟨ps, h1, h2, h3⟩ := h.ex
  exact ⟨⟨ps, h1, h2, fun p hp => NdIn.keep (keep_offs (F := fun k => k < B ∨ v.ownBlock = some k) (Chg.refl _ w) (fun q _ g1 g2 => by
    rcases g2 with g2 | g2
    · exact g1 (.inl (by omega))
    · exact g1 (.inr g2))) _ _ _ (h3 p hp)⟩, fun k hk => by have := h.new k hk; omega⟩
theorem amb_set {b N : Nat} {v : Value} {L : List Lx.Tok} {w wa wb : World} (h : Amb b v L w) (hc : Chg (· = b) w wa) (hs : Chg (fun q => q = N) wa wb) (hN : w.heap.size ≤ N) : Amb b v L wb := by
  have hk : Keep (off (fun k => k = b) w) (off (fun k => k = b) wb) := ⟨by rw [off_size, off_size]; exact Nat.le_trans hc.size hs.size, fun q i u hu => by
    by_cases e : q = b
    · rw [off_in (fun k => k = b) w q i e] at hu; cases hu
    · rw [off_out (fun k => k = b) w q i e] at hu
      have hq := World.block_lt_of_cell? w _ hu
      rw [off_out (fun k => k = b) wb q i e]
      exact hs.cell (hc.cell hu e) (fun (e2 : q = N) => by
        have hq' : q < w.heap.size := hq
        omega)⟩
  exact ⟨h.tok.keep hk, h.gm.keep hk⟩
abbrev ClOk (b : Nat) (v : Value) (fin : Nat) (L : List Lx.Tok) (deep : Nat) (cl : Nat → Nat → PRes (List Nd)) : Prop := ∀ (i n : Nat) (w : World), Psr b v i fin n w → Amb b v L w → n ≤ 4000 →
  Calls Tryd.prog 23 #[.pointer (some ⟨b, 0, none⟩), .int .i64 deep] w (KidsEnds b v fin w (cl i n))
def CountsL (cl : Nat → Nat → PRes (List Nd)) : Prop := ∀ i n ks i' n', cl i n = .ok (ks, i', n') → n ≤ 4000 → n' ≤ 4000 ∧ ks.length + n ≤ n'
theorem ones5 {W : World} {qs : List (Nd × Value × Value)} (h : ∀ p ∈ qs, NdIn W p.2.1 p.2.2 p.1) : ∀ u ∈ qs.flatMap ndC5, u.oneCell' = true := fun u hu => by
  obtain ⟨p, hp, hu⟩ := List.mem_flatMap.1 hu
  obtain ⟨an, cn, ak, ck, e1, e2, _⟩ := (h p hp).forms
  unfold ndC5 at hu
  rw [e1, e2] at hu
  exact one5 _ _ _ _ _ _ _ _ _ u hu
theorem rows_join {w w' : World} {B B2 H : Nat} {v v' v2 : Value} {ps qs : List (Nd × Value × Value)} (p3 : ∀ p ∈ ps, NdIn (off (fun k => k < B ∨ v.ownBlock = some k) w) p.2.1 p.2.2 p.1) (q3 : ∀ p ∈ qs, NdIn (off (fun k => k < B2 ∨ v2.ownBlock = some k) w) p.2.1 p.2.2 p.1)
    (hnew : ∀ k, v.ownBlock = some k → B ≤ k) (hBB : B ≤ B2) (hv : ∀ k, v.ownBlock = some k → k < B2) (hr : RowAt w' 26 5 v' (ps.length + qs.length) (ps.flatMap ndC5 ++ qs.flatMap ndC5))
    (hc : Chg (fun k => v.ownBlock = some k) w w') (ho : ∀ g, v'.ownBlock = some g → v.ownBlock = some g ∨ g = H) (hH : w.heap.size ≤ H) (hB : B2 ≤ w.heap.size) : NRow w' B v' (ps.map (fun p => p.1) ++ qs.map (fun p => p.1)) := by
  refine ⟨⟨ps ++ qs, by simp, ?_, fun p hp => ?_⟩, fun k hk => ?_⟩
  · rw [List.length_append, List.flatMap_append]
    exact hr
  · rcases List.mem_append.1 hp with hp | hp
    · refine NdIn.keep (keep_offs (hc.mono (fun k _ e => .inr e)) (fun q hq h1 h2 => ?_)) _ _ _ (p3 p hp)
      rcases h2 with h2 | h2
      · exact h1 (.inl h2)
      · rcases ho q h2 with e | e
        · exact h1 (.inr e)
        · omega
    · refine NdIn.keep (keep_offs (F := fun k => k < B2 ∨ v2.ownBlock = some k) (hc.mono (fun k _ e => .inl (hv k e))) (fun q hq h1 h2 => ?_)) _ _ _ (q3 p hp)
      have h1' : ¬ q < B2 := fun e => h1 (.inl e)
      rcases h2 with h2 | h2
      · omega
      · rcases ho q h2 with e | e
        · exact h1' (hv q e)
        · omega
  · rcases ho k hk with e | e
    · exact hnew k e
    · omega
set_option maxRecDepth 100000 in
set_option maxHeartbeats 8000000 in
theorem bracket_calls {b fin : Nat} {v : Value} {L : List Lx.Tok} (hf : TokFine L) (deep : Nat) (hd : deep ≤ 60) (val : Nat → Nat → PRes Nd) (hv : ValOk b v fin L (deep + 1) val) (hvn : Counts val) (cl : Nat → Nat → PRes (List Nd)) (hcl : ClOk b v fin L (deep + 1) cl) (hcn : CountsL cl) : BrOk b v fin L deep (bracketP L fin val cl) := by
  intro i n w hp ha hn
  obtain ⟨RR, hR⟩ : ∃ R, bracketP L fin val cl i n = R := ⟨_, rfl⟩
  rw [hR]
  have HB := Lib.hid hp.lt
  have HVAL := Lib.hid hv
  have HVN := Lib.hid hvn
  have HCL := Lib.hid hcl
  have HCN := Lib.hid hcn
  obtain ⟨iN, hk0, hk1, hk2, hk3⟩ := info_parts infoN
  have hdc : ((deep + 1 : Nat) : Int) = (deep : Int) + 1 := by push_cast; rfl
  have hd0 : (0 : Int) ≤ (deep : Int) := by omega
  have hd1 : (deep : Int) ≤ 60 := by omega
  have hfl := run_fld0
  obtain ⟨w1, hw1⟩ : ∃ w1, w.alloc zNd = w1 := ⟨_, rfl⟩
  have hC1 : Chg (fun _ => False) w w1 := by rw [← hw1]; exact (Chg.refl _ w).alloc _
  have hz1 : w1.heap[w.heap.size]? = some zNd := by rw [← hw1]; exact blk_new w _
  have hs1 : w.heap.size < w1.heap.size := lt_of_block hz1
  have hp1 := hp.chg hC1 (fun e => e)
  have ha1 := ha.later (chgb hC1)
  have HC1 := Lib.hid hC1
  cases hi : L[i]? with
  | none =>
    have H := Lib.hid (peek_err hp1 ha1.tok hi)
    have HRV : Hid (RR = .error (fin, 11)) := Lib.hid (by rw [← hR]; unfold bracketP; rw [hi])
    unfold zNd at hw1
    clear hp ha hi hp1 ha1 hC1 hz1 hs1 hv hvn hcl hcn hR
    go_enter Tryd.func15, Tryd.ntmps15
    go_wp2_with fail
    refine H.out.mono ?_
    rintro e' w2 ⟨rfl, hC⟩
    go_wp2_with fail
    rw [HRV.out]
    exact ⟨rfl, rfl, chgb (HC1.out.trans hC)⟩
  | some t =>
    have H := Lib.hid (peek_ok hp1 ha1.tok hi)
    have hft := hf.2 t (List.mem_of_getElem? hi)
    have hilt := (List.getElem?_eq_some_iff.1 hi).1
    have hlen := hf.1
    have HFT := Lib.hid hft
    have HLEN := Lib.hid hf.1
    have HP1 := Lib.hid hp1
    have HA1 := Lib.hid ha1
    have HZ1 := Lib.hid hz1
    have HS1 := Lib.hid hs1
    have hw12 : wrongP L fin i 12 = (t.at_, 12) := by unfold wrongP; rw [hi]
    have HW12 := Lib.hid hw12
    obtain ⟨s, hs⟩ : ∃ s, ba t.s = s := ⟨_, rfl⟩
    obtain ⟨kd, hkd⟩ : ∃ kd, t.kind = kd := ⟨_, rfl⟩
    obtain ⟨⟨k, m⟩, hkm⟩ : ∃ q, kindsP s = q := ⟨_, rfl⟩
    have hrg := kinds_range s
    rw [hkm] at hrg
    have hr : RR = if kd ≠ 3 ∨ (k = 11 ∧ m < 0) then .error (t.at_, 12) else
      match headP L fin k s (i + 1) with
      | .error e => .error e
      | .ok (tx, ns, i1) =>
        match partsP L fin val m 4002 [] i1 n with
        | .error e => .error e
        | .ok (ks, i2, n2) =>
          match moreKids cl k ks i2 n2 with
          | .error e => .error e
          | .ok (ks', i3, n3) => closeP L fin k tx ns ks' i3 n3 := by
      rw [← hR]
      unfold bracketP
      rw [hi]
      simp only []
      rw [hs, hkm, hkd]
      rfl
    have HR := Lib.hid hr
    have HKD := Lib.hid (fun W (hW : Amb b v L W) => kinds_calls s W (by rw [← hs]; exact hft.2) (hW.gm.keep (keep_off _ _)))
    simp only [hkm] at HKD
    unfold tokV at H
    rw [hs, hkd] at H
    obtain ⟨z, hz⟩ : ∃ z : Int, (kd : Int) = z := ⟨_, rfl⟩
    rw [hz] at H
    have HZ := Lib.hid hz
    have HRG := Lib.hid hrg
    unfold zNd at hw1 HZ1
    clear hp ha hi hr hp1 ha1 hC1 hz1 hs1 hv hvn hcl hcn hft hw12 hs hkd hz hR hkm
    go_enter Tryd.func15, Tryd.ntmps15
    go_wp2_with fail
    refine H.out.mono ?_
    rintro e' w2 ⟨rfl, hC2⟩
    obtain ⟨w3, hw3⟩ : ∃ w3, w2.alloc (.cells #[.int .u8 z, .string s, .int .i64 t.n, .int .i64 t.at_] 48) = w3 := ⟨_, rfl⟩
    have hC3 : Chg (fun _ => False) w2 w3 := by rw [← hw3]; exact (Chg.refl _ w2).alloc _
    have hb3 : w3.heap[w2.heap.size]? = some (.cells #[.int .u8 z, .string s, .int .i64 t.n, .int .i64 t.at_] 48) := by rw [← hw3]; exact blk_new w2 _
    have HC13 := Lib.hid (hC2.trans hC3)
    have HA3 := Lib.hid (HA1.out.later (chgb HC13.out))
    have HS2 := Lib.hid hC2.size
    have HB3 := Lib.hid hb3
    have HKD3 := Lib.hid (HKD.out w3 HA3.out)
    have g0 := cell_of hb3 0
    have g1 := cell_of hb3 1
    have g2 := cell_of hb3 2
    have g3 := cell_of hb3 3
    clear H hC2 hC3 hb3 HKD
    go_wp2_with fail
    refine HKD3.out.mono ?_
    rintro e' w4 ⟨rfl, hC4⟩
    have HC14 := Lib.hid (HC13.out.trans hC4)
    have hb4 := hC4.blk HB3.out (fun e => e)
    have HB4 := Lib.hid hb4
    have HA4 := Lib.hid (HA3.out.later (chgb hC4))
    have hp4 := HP1.out.chg HC14.out (fun e => e)
    have HP4 := Lib.hid hp4
    have HS4 := Lib.hid hC4.size
    clear g0 g1 g2 g3 hw3 hC4 HKD3
    have g0 := cell_of hb4 0
    have g1 := cell_of hb4 1
    have g2 := cell_of hb4 2
    have g3 := cell_of hb4 3
    clear hb4
    have HW := Lib.hid (wrong_calls hp4 HA4.out.tok 12)
    rw [HW12.out] at HW
    by_cases k3 : kd = 3
    case neg =>
      have HRV : Hid (RR = .error (t.at_, 12)) := Lib.hid (by rw [HR.out, if_pos (.inl k3)])
      have hz3 : ¬ z = 3 := by have := HZ.out; omega
      have hz4 : (z != 3) = true := bne_iff_ne.2 hz3
      clear k3 hp4
      go_wp2_with fail
      refine HW.out.mono ?_
      rintro e' w5 ⟨rfl, hC5⟩
      go_wp2_with fail
      rw [HRV.out]
      exact ⟨rfl, rfl, chgb ((HC1.out.trans HC14.out).trans hC5)⟩
    obtain rfl : z = 3 := by rw [← HZ.out, k3]; rfl
    by_cases km : k = 11 ∧ m < 0
    case pos =>
      have HRV : Hid (RR = .error (t.at_, 12)) := Lib.hid (by rw [HR.out, if_pos (.inr km)])
      obtain ⟨rfl, km2⟩ := km
      clear k3 hp4
      go_wp2_with fail
      refine HW.out.mono ?_
      rintro e' w5 ⟨rfl, hC5⟩
      go_wp2_with fail
      rw [HRV.out]
      exact ⟨rfl, rfl, chgb ((HC1.out.trans HC14.out).trans hC5)⟩
    have HR2 := Lib.hid HR.out
    rw [if_neg (fun h => by
      rcases h with h | h
      · exact h k3
      · exact km h)] at HR2
    obtain ⟨w5, hw5⟩ : ∃ w5, w4.setCell ⟨b, 1, none⟩ (.int .i64 ((i : Int) + 1)) = w5 := ⟨_, rfl⟩
    have hC45 : Chg (fun k => k = b) w4 w5 := by rw [← hw5]; exact (Chg.refl (fun k => k = b) w4).set (p := ⟨b, 1, none⟩) (fun _ => rfl) _
    have hp5 : Psr b v (i + 1) fin n w5 := by rw [← hw5]; exact hp4.at_
    have c1 := cell_of hp4 1
    have f1 := free_of hp4 1
    have hib : (i : Int) ≤ 1048576 := by omega
    obtain ⟨w6, hw6⟩ : ∃ w6, w5.alloc (.cells #[.int .u8 k, .int .i64 0, .string ⟨#[]⟩, .slice none 0 0, .slice none 0 0] 26) = w6 := ⟨_, rfl⟩
    have hC56 : Chg (fun _ => False) w5 w6 := by rw [← hw6]; exact (Chg.refl _ w5).alloc _
    have hN6 : w6.heap[w5.heap.size]? = some (.cells #[.int .u8 k, .int .i64 0, .string ⟨#[]⟩, .slice none 0 0, .slice none 0 0] 26) := by rw [← hw6]; exact blk_new w5 _
    have hC46 := hC45.trans (chgb hC56)
    have hlb := HB.out
    have hls1 := HS1.out
    have hls2 := HS2.out
    have hls4 := HS4.out
    have hls3 : w2.heap.size < w3.heap.size := lt_of_block HB3.out
    have hls5 := hC45.size
    have HORD : Hid (b < w.heap.size ∧ w.heap.size < w1.heap.size ∧ w1.heap.size ≤ w2.heap.size ∧ w2.heap.size < w5.heap.size) := Lib.hid ⟨hlb, hls1, hls2, by omega⟩
    have HTB := Lib.hid (hC46.blk HB4.out (fun e => by omega))
    have HRB := Lib.hid (hC46.blk ((HC14.out.blk HZ1.out (fun e => e))) (fun e => by omega))
    have HNB := Lib.hid hN6
    have HPW := Lib.hid (hp5.chg hC56 (fun e => e))
    have HAW := Lib.hid (HA4.out.later hC46)
    have HA5 := Lib.hid (HA4.out.later hC45)
    have HC5W := Lib.hid (chgb (b := b) hC56)
    have HCW := Lib.hid ((chgb (HC1.out.trans HC14.out)).trans hC46)
    have y0 := cell_of HTB.out 0
    have y1 := cell_of HTB.out 1
    have y2 := cell_of HTB.out 2
    have y3 := cell_of HTB.out 3
    have x0 := cell_of hN6 0
    have x1 := cell_of hN6 1
    have x2 := cell_of hN6 2
    have x3 := cell_of hN6 3
    have x4 := cell_of hN6 4
    have u2 := free_of hN6 2
    have u3 := free_of hN6 3
    have u4 := free_of hN6 4
    clear hC45 hp5 hC56 hN6 hC46 hlb hls1 hls2 hls4 hls3 hls5 hp4 k3 hilt hlen hrg HR HW HB3 HB4 HA3 HA4 HP4 HP1 HA1
    have e11 : ¬ k = 11 ∨ k = 11 := by omega
    by_cases d11 : k = 11
    · have HD := Lib.hid d11
      have H13 : Hid (¬ k = 13) := Lib.hid (by omega)
      have b11 : ((k : Int) == 11) = true := by rw [d11]; rfl
      have hm0 : ¬ m < 0 := fun e => km ⟨d11, e⟩
      clear e11 d11 km
      subst hw6
      obtain ⟨w7, hw7⟩ : ∃ w7, (w5.alloc (.cells #[.int .u8 k, .int .i64 0, .string ⟨#[]⟩, .slice none 0 0, .slice none 0 0] 26)).setCell ⟨w5.heap.size, 2, none⟩ (.string s) = w7 := ⟨_, rfl⟩
      have hC7 : Chg (fun q => q = w5.heap.size) (w5.alloc (.cells #[.int .u8 k, .int .i64 0, .string ⟨#[]⟩, .slice none 0 0, .slice none 0 0] 26)) w7 := by rw [← hw7]; exact (Chg.refl (fun q => q = w5.heap.size) _).set (p := ⟨w5.heap.size, 2, none⟩) (fun _ => rfl) _
      have hN7 : w7.heap[w5.heap.size]? = some (.cells #[.int .u8 k, .int .i64 0, .string s, .slice none 0 0, .slice none 0 0] 26) := by rw [← hw7]; exact (blk_set HNB.out 2 _).trans rfl
      have hc57 := HC5W.out.andThen hC7 (fun q hq (e : q = w5.heap.size) => by omega)
      have HP7 := Lib.hid (HPW.out.chg hC7 (fun e => by have := HORD.out; omega))
      have HR7 := Lib.hid (hC7.blk HRB.out (fun e => by have := HORD.out; omega))
      have HCW7 := Lib.hid (HCW.out.andThen hC7 (fun q hq (e : q = w5.heap.size) => by have := HORD.out; omega))
      have HC57 := Lib.hid hc57
      have HAW7 := Lib.hid (HA5.out.later hc57)
      have HNB7 := Lib.hid hN7
      clear HPW HRB HCW HC5W HAW HNB hc57 hN7 hC7
      have HPW := HP7
      have HRB := HR7
      have HCW := HCW7
      have HC5W := HC57
      have HAW := HAW7
      have HNB := HNB7
      clear HP7 HR7 HCW7 HC57 HAW7 HNB7
      obtain ⟨ns, hns⟩ : ∃ ns : List ByteArray, ([] : List ByteArray) = ns := ⟨_, rfl⟩
      obtain ⟨j, hj⟩ : ∃ j, i + 1 = j := ⟨_, rfl⟩
      have HSR : Hid (SRow w7 (w5.heap.size + 1) (.slice none 0 0) ns) := Lib.hid (by rw [← hns]; exact SRow.nil _ _)
      have HHD : Hid (headP L fin k s (i + 1) = .ok (s, ns, j)) := Lib.hid (by rw [← hns, ← hj]; unfold headP; rw [if_pos HD.out])
      rw [hj] at HPW
      clear hns hj HD
      have HPT := Lib.hid (parts_calls deep (by omega) m ⟨HRG.out.2.2.1, HRG.out.2.2.2⟩ val HVAL.out HVN.out j n w7 HPW.out HAW.out hn)
      go_wp2_with fail
      cases hpt : partsP L fin val m 4002 [] j n with
      | error pq =>
        obtain ⟨p, q⟩ := pq
        have HRE : Hid (RR = .error (p, q)) := Lib.hid (by rw [HR2.out, HHD.out]; simp only []; rw [hpt])
        rw [hpt] at HPT
        refine HPT.out.mono ?_
        rintro e' wa ⟨rfl, hCa⟩
        go_wp2_with fail
        rw [HRE.out]
        exact ⟨rfl, rfl, HCW.out.trans hCa⟩
      | ok xr =>
        obtain ⟨ks, i2, n2⟩ := xr
        have hcnt : n2 ≤ 4000 ∧ ks.length + n ≤ n2 := parts_count HVN.out _ _ _ _ _ _ _ hpt hn
        have HRP : Hid (RR = match moreKids cl k ks i2 n2 with | .error e => .error e | .ok (ks', i3, n3) => closeP L fin k s ns ks' i3 n3) := Lib.hid (by rw [HR2.out, HHD.out]; simp only []; rw [hpt])
        rw [hpt] at HPT
        refine HPT.out.mono ?_
        rintro e' wa ⟨kv, rfl, hpa, hra, hCa⟩
        have hNlt : w5.heap.size < w7.heap.size := lt_of_block HNB.out
        have hra2 := hra.wide (B' := w5.heap.size + 1) (by omega)
        obtain ⟨ak, ck, rfl, hkc, hkm⟩ := hra.form
        obtain ⟨nk, hnk⟩ : ∃ nk, ks.length = nk := ⟨_, rfl⟩
        have HNK := Lib.hid hnk
        rw [hnk] at hra2 hkc hcnt ⊢
        have hck2 : ck ≤ 9223372036854775807 := by unfold maxLen at hkm; omega
        have hNa := hCa.blk HNB.out (fun e => by have := HORD.out; omega)
        have hRa := hCa.blk HRB.out (fun e => by have := HORD.out; omega)
        have m0 := cell_of hNa 0
        have m1 := cell_of hNa 1
        have m2 := cell_of hNa 2
        have m3 := cell_of hNa 3
        have m4 := cell_of hNa 4
        have u4 := free_of hNa 4
        obtain ⟨wb, hwb⟩ : ∃ wb, wa.setCell ⟨w5.heap.size, 4, none⟩ (.slice ak nk ck) = wb := ⟨_, rfl⟩
        have hCb : Chg (fun q => q = w5.heap.size) wa wb := by rw [← hwb]; exact (Chg.refl (fun q => q = w5.heap.size) wa).set (p := ⟨w5.heap.size, 4, none⟩) (fun _ => rfl) _
        have hNb : wb.heap[w5.heap.size]? = some (.cells #[.int .u8 k, .int .i64 0, .string s, .slice none 0 0, .slice ak nk ck] 26) := by rw [← hwb]; exact (blk_set hNa 4 _).trans rfl
        have hCE := (HCW.out.trans hCa).andThen hCb (fun q hq (e : q = w5.heap.size) => by have := HORD.out; omega)
        have HPE := Lib.hid (hpa.chg hCb (fun e => by have := HORD.out; omega))
        have HNE := Lib.hid hNb
        have HRBE := Lib.hid (hCb.blk hRa (fun e => by have := HORD.out; omega))
        have HSRE := Lib.hid ((HSR.out.later hCa (fun q (e : q = b) => by have := HORD.out; omega)).later hCb (fun q (e : q = w5.heap.size) => by omega))
        have HNRE := Lib.hid (hra2.later hCb (fun q (e : q = w5.heap.size) => by omega))
        have HCE := Lib.hid hCE
        have HC5E := Lib.hid ((HC5W.out.trans hCa).andThen hCb (fun q hq (e : q = w5.heap.size) => by omega))
        have HAE : Hid (Amb b v L wb) := Lib.hid (HA5.out.later HC5E.out)
        have m4b := cell_of hNb 4
        have u4b := free_of hNb 4
        clear hpa hra hra2 hCa hNa hRa hCb hNb hCE HPT hpt hkm hnk x0 x1 x2 x3 x4 u2 u3
        by_cases e13 : k = 13
        · exact absurd e13 H13.out
        · have HRC : Hid (RR = closeP L fin k s ns ks i2 n2) := Lib.hid (by rw [HRP.out]; unfold moreKids; rw [if_neg e13])
          have e13i : ¬ (k : Int) = 13 := by omega
          have e13b : ((k : Int) == 13) = false := beq_eq_false_iff_ne.2 e13i
          clear e13
          have HTK := Lib.hid (take_calls HPE.out HAE.out.tok 2 (by decide) (by have := HLEN.out; omega))
          go_wp2_with fail
          cases htk : takeP L fin 2 i2 with
          | error pq =>
            obtain ⟨p, q⟩ := pq
            have HRE : Hid (RR = .error (p, q)) := Lib.hid (by rw [HRC.out]; unfold closeP; rw [htk])
            rw [htk] at HTK
            refine HTK.out.mono ?_
            rintro e' wz ⟨rfl, hCz⟩
            go_wp2_with fail
            rw [HRE.out]
            exact ⟨rfl, rfl, HCE.out.trans hCz⟩
          | ok uu =>
            have HRE : Hid (RR = .ok (.mk k 0 s ns ks, i2 + 1, n2)) := Lib.hid (by rw [HRC.out]; unfold closeP; rw [htk])
            rw [htk] at HTK
            refine HTK.out.mono ?_
            rintro e' wz ⟨⟨uv, rfl⟩, hpz, hCz⟩
            have hNz := hCz.blk HNE.out (fun e => by have := HORD.out; omega)
            have hRz := hCz.blk HRBE.out (fun e => by have := HORD.out; omega)
            have n0 := cell_of hNz 0
            have n1 := cell_of hNz 1
            have n2' := cell_of hNz 2
            have n3' := cell_of hNz 3
            have n4 := cell_of hNz 4
            have r0 := cell_of hRz 0
            have r1 := cell_of hRz 1
            have r2 := cell_of hRz 2
            have r3 := cell_of hRz 3
            have r4 := cell_of hRz 4
            have q0 := free_of hRz 0
            have q1 := free_of hRz 1
            have q2 := free_of hRz 2
            have q3 := free_of hRz 3
            have q4 := free_of hRz 4
            have HRZ := Lib.hid hRz
            have HPZ := Lib.hid hpz
            have HCZ := Lib.hid (HCE.out.trans hCz)
            have HNDZ := Lib.hid (node_make (w := w) (k := k) (tx := s) (by have := HRG.out; omega) (HSRE.out.later hCz (fun q (e : q = b) => by have := HORD.out; omega)) (HNRE.out.later hCz (fun q (e : q = b) => by have := HORD.out; omega)) (by have := HORD.out; omega))
            clear hNz hRz hpz hCz HTK htk
            go_wp2_with fail
            refine bodyPost_ret (results_cell_row rfl _ _ w.heap.size 26 #[.int .u8 k, .int .i64 0, .string s, .slice none 0 0, .slice ak nk ck] (0, 0) _ rfl (end5 (W := wz) HRZ.out _ _ _ _ _) Tryd.underlying26 rfl (by kernel_rfl)) rfl ?_
            rw [HRE.out]
            exact put_ends (x := .mk k 0 s ns ks) HPZ.out HCZ.out (HORD.out.1) HNDZ.out
    by_cases d8 : k = 8 ∨ k = 12
    · rcases d8 with d8 | d8
      · have HD := Lib.hid d8
        have H13 : Hid (¬ k = 13) := Lib.hid (by omega)
        have b11 : ((k : Int) == 11) = false := by rw [d8]; rfl
        have b8 : ((k : Int) == 8) = true := by rw [d8]; rfl
        have HNAME := Lib.hid (name_calls HPW.out HAW.out.tok [] (.slice none 0 0) ⟨none, 0, rfl, Nat.le_refl _, Nat.zero_le _, fun i s h => (by cases h)⟩ (by have := HLEN.out; omega))
        clear e11 d11 km d8
        subst hw6
        go_wp2_with fail
        cases hnm : nameP L fin [] (i + 1) with
        | error pq =>
          obtain ⟨p, q⟩ := pq
          have HRE : Hid (RR = .error (p, q)) := Lib.hid (by rw [HR2.out]; unfold headP; rw [if_neg (by rw [HD.out]; decide), if_pos (by rw [HD.out]; decide), hnm])
          rw [hnm] at HNAME
          refine HNAME.out.mono ?_
          rintro e' wa ⟨rfl, hCa⟩
          go_wp2_with fail
          rw [HRE.out]
          exact ⟨rfl, rfl, HCW.out.trans hCa⟩
        | ok sN =>
          rw [hnm] at HNAME
          refine HNAME.out.mono ?_
          rintro e' w6' ⟨rfl, hp6, hC6⟩
          have HNB' := Lib.hid (hC6.blk HNB.out (fun e => by have := HORD.out; omega))
          have HRB' := Lib.hid (hC6.blk HRB.out (fun e => by have := HORD.out; omega))
          have HCW' := Lib.hid (HCW.out.trans hC6)
          have HC5W' := Lib.hid (HC5W.out.trans hC6)
          have HPW' := Lib.hid hp6
          have HAW' := Lib.hid (HAW.out.later hC6)
          clear HNB HRB HCW HC5W HPW HAW hp6 hC6 HNAME x0 x1 x2 x3 x4 u2 u3 u4
          have HNB := HNB'
          have HRB := HRB'
          have HCW := HCW'
          have HC5W := HC5W'
          have HPW := HPW'
          have HAW := HAW'
          clear HNB' HRB' HCW' HC5W' HPW' HAW'
          have x0 := cell_of HNB.out 0
          have x1 := cell_of HNB.out 1
          have x2 := cell_of HNB.out 2
          have x3 := cell_of HNB.out 3
          have x4 := cell_of HNB.out 4
          have u2 := free_of HNB.out 2
          have u3 := free_of HNB.out 3
          have u4 := free_of HNB.out 4
          obtain ⟨w7, hw7⟩ : ∃ w7, w6'.setCell ⟨w5.heap.size, 2, none⟩ (.string sN) = w7 := ⟨_, rfl⟩
          have hC7 : Chg (fun q => q = w5.heap.size) w6' w7 := by rw [← hw7]; exact (Chg.refl (fun q => q = w5.heap.size) _).set (p := ⟨w5.heap.size, 2, none⟩) (fun _ => rfl) _
          have hN7 : w7.heap[w5.heap.size]? = some (.cells #[.int .u8 k, .int .i64 0, .string sN, .slice none 0 0, .slice none 0 0] 26) := by rw [← hw7]; exact (blk_set HNB.out 2 _).trans rfl
          have hc57 := HC5W.out.andThen hC7 (fun q hq (e : q = w5.heap.size) => by omega)
          have HP7 := Lib.hid (HPW.out.chg hC7 (fun e => by have := HORD.out; omega))
          have HR7 := Lib.hid (hC7.blk HRB.out (fun e => by have := HORD.out; omega))
          have HCW7 := Lib.hid (HCW.out.andThen hC7 (fun q hq (e : q = w5.heap.size) => by have := HORD.out; omega))
          have HC57 := Lib.hid hc57
          have HAW7 := Lib.hid (HA5.out.later hc57)
          have HNB7 := Lib.hid hN7
          clear HPW HRB HCW HC5W HAW HNB hc57 hN7 hC7
          have HPW := HP7
          have HRB := HR7
          have HCW := HCW7
          have HC5W := HC57
          have HAW := HAW7
          have HNB := HNB7
          clear HP7 HR7 HCW7 HC57 HAW7 HNB7
          obtain ⟨ns, hns⟩ : ∃ ns : List ByteArray, ([] : List ByteArray) = ns := ⟨_, rfl⟩
          obtain ⟨j, hj⟩ : ∃ j, i + 1 + 1 = j := ⟨_, rfl⟩
          have HSR : Hid (SRow w7 (w5.heap.size + 1) (.slice none 0 0) ns) := Lib.hid (by rw [← hns]; exact SRow.nil _ _)
          have HHD : Hid (headP L fin k s (i + 1) = .ok (sN, ns, j)) := Lib.hid (by rw [← hns, ← hj]; unfold headP; rw [if_neg (by rw [HD.out]; decide), if_pos (by rw [HD.out]; decide), hnm])
          rw [hj] at HPW
          clear hns hj HD hnm
          have HPT := Lib.hid (parts_calls deep (by omega) m ⟨HRG.out.2.2.1, HRG.out.2.2.2⟩ val HVAL.out HVN.out j n w7 HPW.out HAW.out hn)
          go_wp2_with fail
          cases hpt : partsP L fin val m 4002 [] j n with
          | error pq =>
            obtain ⟨p, q⟩ := pq
            have HRE : Hid (RR = .error (p, q)) := Lib.hid (by rw [HR2.out, HHD.out]; simp only []; rw [hpt])
            rw [hpt] at HPT
            refine HPT.out.mono ?_
            rintro e' wa ⟨rfl, hCa⟩
            go_wp2_with fail
            rw [HRE.out]
            exact ⟨rfl, rfl, HCW.out.trans hCa⟩
          | ok xr =>
            obtain ⟨ks, i2, n2⟩ := xr
            have hcnt : n2 ≤ 4000 ∧ ks.length + n ≤ n2 := parts_count HVN.out _ _ _ _ _ _ _ hpt hn
            have HRP : Hid (RR = match moreKids cl k ks i2 n2 with | .error e => .error e | .ok (ks', i3, n3) => closeP L fin k sN ns ks' i3 n3) := Lib.hid (by rw [HR2.out, HHD.out]; simp only []; rw [hpt])
            rw [hpt] at HPT
            refine HPT.out.mono ?_
            rintro e' wa ⟨kv, rfl, hpa, hra, hCa⟩
            have hNlt : w5.heap.size < w7.heap.size := lt_of_block HNB.out
            have hra2 := hra.wide (B' := w5.heap.size + 1) (by omega)
            obtain ⟨ak, ck, rfl, hkc, hkm⟩ := hra.form
            obtain ⟨nk, hnk⟩ : ∃ nk, ks.length = nk := ⟨_, rfl⟩
            have HNK := Lib.hid hnk
            rw [hnk] at hra2 hkc hcnt ⊢
            have hck2 : ck ≤ 9223372036854775807 := by unfold maxLen at hkm; omega
            have hNa := hCa.blk HNB.out (fun e => by have := HORD.out; omega)
            have hRa := hCa.blk HRB.out (fun e => by have := HORD.out; omega)
            have m0 := cell_of hNa 0
            have m1 := cell_of hNa 1
            have m2 := cell_of hNa 2
            have m3 := cell_of hNa 3
            have m4 := cell_of hNa 4
            have u4 := free_of hNa 4
            obtain ⟨wb, hwb⟩ : ∃ wb, wa.setCell ⟨w5.heap.size, 4, none⟩ (.slice ak nk ck) = wb := ⟨_, rfl⟩
            have hCb : Chg (fun q => q = w5.heap.size) wa wb := by rw [← hwb]; exact (Chg.refl (fun q => q = w5.heap.size) wa).set (p := ⟨w5.heap.size, 4, none⟩) (fun _ => rfl) _
            have hNb : wb.heap[w5.heap.size]? = some (.cells #[.int .u8 k, .int .i64 0, .string sN, .slice none 0 0, .slice ak nk ck] 26) := by rw [← hwb]; exact (blk_set hNa 4 _).trans rfl
            have hCE := (HCW.out.trans hCa).andThen hCb (fun q hq (e : q = w5.heap.size) => by have := HORD.out; omega)
            have HPE := Lib.hid (hpa.chg hCb (fun e => by have := HORD.out; omega))
            have HNE := Lib.hid hNb
            have HRBE := Lib.hid (hCb.blk hRa (fun e => by have := HORD.out; omega))
            have HSRE := Lib.hid ((HSR.out.later hCa (fun q (e : q = b) => by have := HORD.out; omega)).later hCb (fun q (e : q = w5.heap.size) => by omega))
            have HNRE := Lib.hid (hra2.later hCb (fun q (e : q = w5.heap.size) => by omega))
            have HCE := Lib.hid hCE
            have HC5E := Lib.hid ((HC5W.out.trans hCa).andThen hCb (fun q hq (e : q = w5.heap.size) => by omega))
            have HAE : Hid (Amb b v L wb) := Lib.hid (HA5.out.later HC5E.out)
            have m4b := cell_of hNb 4
            have u4b := free_of hNb 4
            clear hpa hra hra2 hCa hNa hRa hCb hNb hCE HPT hpt hkm hnk x0 x1 x2 x3 x4 u2 u3
            by_cases e13 : k = 13
            · exact absurd e13 H13.out
            · have HRC : Hid (RR = closeP L fin k sN ns ks i2 n2) := Lib.hid (by rw [HRP.out]; unfold moreKids; rw [if_neg e13])
              have e13i : ¬ (k : Int) = 13 := by omega
              have e13b : ((k : Int) == 13) = false := beq_eq_false_iff_ne.2 e13i
              clear e13
              have HTK := Lib.hid (take_calls HPE.out HAE.out.tok 2 (by decide) (by have := HLEN.out; omega))
              go_wp2_with fail
              cases htk : takeP L fin 2 i2 with
              | error pq =>
                obtain ⟨p, q⟩ := pq
                have HRE : Hid (RR = .error (p, q)) := Lib.hid (by rw [HRC.out]; unfold closeP; rw [htk])
                rw [htk] at HTK
                refine HTK.out.mono ?_
                rintro e' wz ⟨rfl, hCz⟩
                go_wp2_with fail
                rw [HRE.out]
                exact ⟨rfl, rfl, HCE.out.trans hCz⟩
              | ok uu =>
                have HRE : Hid (RR = .ok (.mk k 0 sN ns ks, i2 + 1, n2)) := Lib.hid (by rw [HRC.out]; unfold closeP; rw [htk])
                rw [htk] at HTK
                refine HTK.out.mono ?_
                rintro e' wz ⟨⟨uv, rfl⟩, hpz, hCz⟩
                have hNz := hCz.blk HNE.out (fun e => by have := HORD.out; omega)
                have hRz := hCz.blk HRBE.out (fun e => by have := HORD.out; omega)
                have n0 := cell_of hNz 0
                have n1 := cell_of hNz 1
                have n2' := cell_of hNz 2
                have n3' := cell_of hNz 3
                have n4 := cell_of hNz 4
                have r0 := cell_of hRz 0
                have r1 := cell_of hRz 1
                have r2 := cell_of hRz 2
                have r3 := cell_of hRz 3
                have r4 := cell_of hRz 4
                have q0 := free_of hRz 0
                have q1 := free_of hRz 1
                have q2 := free_of hRz 2
                have q3 := free_of hRz 3
                have q4 := free_of hRz 4
                have HRZ := Lib.hid hRz
                have HPZ := Lib.hid hpz
                have HCZ := Lib.hid (HCE.out.trans hCz)
                have HNDZ := Lib.hid (node_make (w := w) (k := k) (tx := sN) (by have := HRG.out; omega) (HSRE.out.later hCz (fun q (e : q = b) => by have := HORD.out; omega)) (HNRE.out.later hCz (fun q (e : q = b) => by have := HORD.out; omega)) (by have := HORD.out; omega))
                clear hNz hRz hpz hCz HTK htk
                go_wp2_with fail
                refine bodyPost_ret (results_cell_row rfl _ _ w.heap.size 26 #[.int .u8 k, .int .i64 0, .string sN, .slice none 0 0, .slice ak nk ck] (0, 0) _ rfl (end5 (W := wz) HRZ.out _ _ _ _ _) Tryd.underlying26 rfl (by kernel_rfl)) rfl ?_
                rw [HRE.out]
                exact put_ends (x := .mk k 0 sN ns ks) HPZ.out HCZ.out (HORD.out.1) HNDZ.out
      · have HD := Lib.hid d8
        have H13 : Hid (¬ k = 13) := Lib.hid (by omega)
        have b11 : ((k : Int) == 11) = false := by rw [d8]; rfl
        have b8 : ((k : Int) == 8) = false := by rw [d8]; rfl
        have b12 : ((k : Int) == 12) = true := by rw [d8]; rfl
        have HNAME := Lib.hid (name_calls HPW.out HAW.out.tok [] (.slice none 0 0) ⟨none, 0, rfl, Nat.le_refl _, Nat.zero_le _, fun i s h => (by cases h)⟩ (by have := HLEN.out; omega))
        clear e11 d11 km d8
        subst hw6
        go_wp2_with fail
        cases hnm : nameP L fin [] (i + 1) with
        | error pq =>
          obtain ⟨p, q⟩ := pq
          have HRE : Hid (RR = .error (p, q)) := Lib.hid (by rw [HR2.out]; unfold headP; rw [if_neg (by rw [HD.out]; decide), if_pos (by rw [HD.out]; decide), hnm])
          rw [hnm] at HNAME
          refine HNAME.out.mono ?_
          rintro e' wa ⟨rfl, hCa⟩
          go_wp2_with fail
          rw [HRE.out]
          exact ⟨rfl, rfl, HCW.out.trans hCa⟩
        | ok sN =>
          rw [hnm] at HNAME
          refine HNAME.out.mono ?_
          rintro e' w6' ⟨rfl, hp6, hC6⟩
          have HNB' := Lib.hid (hC6.blk HNB.out (fun e => by have := HORD.out; omega))
          have HRB' := Lib.hid (hC6.blk HRB.out (fun e => by have := HORD.out; omega))
          have HCW' := Lib.hid (HCW.out.trans hC6)
          have HC5W' := Lib.hid (HC5W.out.trans hC6)
          have HPW' := Lib.hid hp6
          have HAW' := Lib.hid (HAW.out.later hC6)
          clear HNB HRB HCW HC5W HPW HAW hp6 hC6 HNAME x0 x1 x2 x3 x4 u2 u3 u4
          have HNB := HNB'
          have HRB := HRB'
          have HCW := HCW'
          have HC5W := HC5W'
          have HPW := HPW'
          have HAW := HAW'
          clear HNB' HRB' HCW' HC5W' HPW' HAW'
          have x0 := cell_of HNB.out 0
          have x1 := cell_of HNB.out 1
          have x2 := cell_of HNB.out 2
          have x3 := cell_of HNB.out 3
          have x4 := cell_of HNB.out 4
          have u2 := free_of HNB.out 2
          have u3 := free_of HNB.out 3
          have u4 := free_of HNB.out 4
          obtain ⟨w7, hw7⟩ : ∃ w7, w6'.setCell ⟨w5.heap.size, 2, none⟩ (.string sN) = w7 := ⟨_, rfl⟩
          have hC7 : Chg (fun q => q = w5.heap.size) w6' w7 := by rw [← hw7]; exact (Chg.refl (fun q => q = w5.heap.size) _).set (p := ⟨w5.heap.size, 2, none⟩) (fun _ => rfl) _
          have hN7 : w7.heap[w5.heap.size]? = some (.cells #[.int .u8 k, .int .i64 0, .string sN, .slice none 0 0, .slice none 0 0] 26) := by rw [← hw7]; exact (blk_set HNB.out 2 _).trans rfl
          have hc57 := HC5W.out.andThen hC7 (fun q hq (e : q = w5.heap.size) => by omega)
          have HP7 := Lib.hid (HPW.out.chg hC7 (fun e => by have := HORD.out; omega))
          have HR7 := Lib.hid (hC7.blk HRB.out (fun e => by have := HORD.out; omega))
          have HCW7 := Lib.hid (HCW.out.andThen hC7 (fun q hq (e : q = w5.heap.size) => by have := HORD.out; omega))
          have HC57 := Lib.hid hc57
          have HAW7 := Lib.hid (HA5.out.later hc57)
          have HNB7 := Lib.hid hN7
          clear HPW HRB HCW HC5W HAW HNB hc57 hN7 hC7
          have HPW := HP7
          have HRB := HR7
          have HCW := HCW7
          have HC5W := HC57
          have HAW := HAW7
          have HNB := HNB7
          clear HP7 HR7 HCW7 HC57 HAW7 HNB7
          obtain ⟨ns, hns⟩ : ∃ ns : List ByteArray, ([] : List ByteArray) = ns := ⟨_, rfl⟩
          obtain ⟨j, hj⟩ : ∃ j, i + 1 + 1 = j := ⟨_, rfl⟩
          have HSR : Hid (SRow w7 (w5.heap.size + 1) (.slice none 0 0) ns) := Lib.hid (by rw [← hns]; exact SRow.nil _ _)
          have HHD : Hid (headP L fin k s (i + 1) = .ok (sN, ns, j)) := Lib.hid (by rw [← hns, ← hj]; unfold headP; rw [if_neg (by rw [HD.out]; decide), if_pos (by rw [HD.out]; decide), hnm])
          rw [hj] at HPW
          clear hns hj HD hnm
          have HPT := Lib.hid (parts_calls deep (by omega) m ⟨HRG.out.2.2.1, HRG.out.2.2.2⟩ val HVAL.out HVN.out j n w7 HPW.out HAW.out hn)
          go_wp2_with fail
          cases hpt : partsP L fin val m 4002 [] j n with
          | error pq =>
            obtain ⟨p, q⟩ := pq
            have HRE : Hid (RR = .error (p, q)) := Lib.hid (by rw [HR2.out, HHD.out]; simp only []; rw [hpt])
            rw [hpt] at HPT
            refine HPT.out.mono ?_
            rintro e' wa ⟨rfl, hCa⟩
            go_wp2_with fail
            rw [HRE.out]
            exact ⟨rfl, rfl, HCW.out.trans hCa⟩
          | ok xr =>
            obtain ⟨ks, i2, n2⟩ := xr
            have hcnt : n2 ≤ 4000 ∧ ks.length + n ≤ n2 := parts_count HVN.out _ _ _ _ _ _ _ hpt hn
            have HRP : Hid (RR = match moreKids cl k ks i2 n2 with | .error e => .error e | .ok (ks', i3, n3) => closeP L fin k sN ns ks' i3 n3) := Lib.hid (by rw [HR2.out, HHD.out]; simp only []; rw [hpt])
            rw [hpt] at HPT
            refine HPT.out.mono ?_
            rintro e' wa ⟨kv, rfl, hpa, hra, hCa⟩
            have hNlt : w5.heap.size < w7.heap.size := lt_of_block HNB.out
            have hra2 := hra.wide (B' := w5.heap.size + 1) (by omega)
            obtain ⟨ak, ck, rfl, hkc, hkm⟩ := hra.form
            obtain ⟨nk, hnk⟩ : ∃ nk, ks.length = nk := ⟨_, rfl⟩
            have HNK := Lib.hid hnk
            rw [hnk] at hra2 hkc hcnt ⊢
            have hck2 : ck ≤ 9223372036854775807 := by unfold maxLen at hkm; omega
            have hNa := hCa.blk HNB.out (fun e => by have := HORD.out; omega)
            have hRa := hCa.blk HRB.out (fun e => by have := HORD.out; omega)
            have m0 := cell_of hNa 0
            have m1 := cell_of hNa 1
            have m2 := cell_of hNa 2
            have m3 := cell_of hNa 3
            have m4 := cell_of hNa 4
            have u4 := free_of hNa 4
            obtain ⟨wb, hwb⟩ : ∃ wb, wa.setCell ⟨w5.heap.size, 4, none⟩ (.slice ak nk ck) = wb := ⟨_, rfl⟩
            have hCb : Chg (fun q => q = w5.heap.size) wa wb := by rw [← hwb]; exact (Chg.refl (fun q => q = w5.heap.size) wa).set (p := ⟨w5.heap.size, 4, none⟩) (fun _ => rfl) _
            have hNb : wb.heap[w5.heap.size]? = some (.cells #[.int .u8 k, .int .i64 0, .string sN, .slice none 0 0, .slice ak nk ck] 26) := by rw [← hwb]; exact (blk_set hNa 4 _).trans rfl
            have hCE := (HCW.out.trans hCa).andThen hCb (fun q hq (e : q = w5.heap.size) => by have := HORD.out; omega)
            have HPE := Lib.hid (hpa.chg hCb (fun e => by have := HORD.out; omega))
            have HNE := Lib.hid hNb
            have HRBE := Lib.hid (hCb.blk hRa (fun e => by have := HORD.out; omega))
            have HSRE := Lib.hid ((HSR.out.later hCa (fun q (e : q = b) => by have := HORD.out; omega)).later hCb (fun q (e : q = w5.heap.size) => by omega))
            have HNRE := Lib.hid (hra2.later hCb (fun q (e : q = w5.heap.size) => by omega))
            have HCE := Lib.hid hCE
            have HC5E := Lib.hid ((HC5W.out.trans hCa).andThen hCb (fun q hq (e : q = w5.heap.size) => by omega))
            have HAE : Hid (Amb b v L wb) := Lib.hid (HA5.out.later HC5E.out)
            have m4b := cell_of hNb 4
            have u4b := free_of hNb 4
            clear hpa hra hra2 hCa hNa hRa hCb hNb hCE HPT hpt hkm hnk x0 x1 x2 x3 x4 u2 u3
            by_cases e13 : k = 13
            · exact absurd e13 H13.out
            · have HRC : Hid (RR = closeP L fin k sN ns ks i2 n2) := Lib.hid (by rw [HRP.out]; unfold moreKids; rw [if_neg e13])
              have e13i : ¬ (k : Int) = 13 := by omega
              have e13b : ((k : Int) == 13) = false := beq_eq_false_iff_ne.2 e13i
              clear e13
              have HTK := Lib.hid (take_calls HPE.out HAE.out.tok 2 (by decide) (by have := HLEN.out; omega))
              go_wp2_with fail
              cases htk : takeP L fin 2 i2 with
              | error pq =>
                obtain ⟨p, q⟩ := pq
                have HRE : Hid (RR = .error (p, q)) := Lib.hid (by rw [HRC.out]; unfold closeP; rw [htk])
                rw [htk] at HTK
                refine HTK.out.mono ?_
                rintro e' wz ⟨rfl, hCz⟩
                go_wp2_with fail
                rw [HRE.out]
                exact ⟨rfl, rfl, HCE.out.trans hCz⟩
              | ok uu =>
                have HRE : Hid (RR = .ok (.mk k 0 sN ns ks, i2 + 1, n2)) := Lib.hid (by rw [HRC.out]; unfold closeP; rw [htk])
                rw [htk] at HTK
                refine HTK.out.mono ?_
                rintro e' wz ⟨⟨uv, rfl⟩, hpz, hCz⟩
                have hNz := hCz.blk HNE.out (fun e => by have := HORD.out; omega)
                have hRz := hCz.blk HRBE.out (fun e => by have := HORD.out; omega)
                have n0 := cell_of hNz 0
                have n1 := cell_of hNz 1
                have n2' := cell_of hNz 2
                have n3' := cell_of hNz 3
                have n4 := cell_of hNz 4
                have r0 := cell_of hRz 0
                have r1 := cell_of hRz 1
                have r2 := cell_of hRz 2
                have r3 := cell_of hRz 3
                have r4 := cell_of hRz 4
                have q0 := free_of hRz 0
                have q1 := free_of hRz 1
                have q2 := free_of hRz 2
                have q3 := free_of hRz 3
                have q4 := free_of hRz 4
                have HRZ := Lib.hid hRz
                have HPZ := Lib.hid hpz
                have HCZ := Lib.hid (HCE.out.trans hCz)
                have HNDZ := Lib.hid (node_make (w := w) (k := k) (tx := sN) (by have := HRG.out; omega) (HSRE.out.later hCz (fun q (e : q = b) => by have := HORD.out; omega)) (HNRE.out.later hCz (fun q (e : q = b) => by have := HORD.out; omega)) (by have := HORD.out; omega))
                clear hNz hRz hpz hCz HTK htk
                go_wp2_with fail
                refine bodyPost_ret (results_cell_row rfl _ _ w.heap.size 26 #[.int .u8 k, .int .i64 0, .string sN, .slice none 0 0, .slice ak nk ck] (0, 0) _ rfl (end5 (W := wz) HRZ.out _ _ _ _ _) Tryd.underlying26 rfl (by kernel_rfl)) rfl ?_
                rw [HRE.out]
                exact put_ends (x := .mk k 0 sN ns ks) HPZ.out HCZ.out (HORD.out.1) HNDZ.out
    by_cases d6 : k = 6
    · clear d8
      have d8 := d6
      clear d6
      have HD := Lib.hid d8
      have H13 : Hid (¬ k = 13) := Lib.hid (by omega)
      have b11 : ((k : Int) == 11) = false := by rw [d8]; rfl
      have b8 : ((k : Int) == 8) = false := by rw [d8]; rfl
      have b12 : ((k : Int) == 12) = false := by rw [d8]; rfl
      have b6 : ((k : Int) == 6) = true := by rw [d8]; rfl
      have HNAME := Lib.hid (name_calls HPW.out HAW.out.tok [] (.slice none 0 0) ⟨none, 0, rfl, Nat.le_refl _, Nat.zero_le _, fun i s h => (by cases h)⟩ (by have := HLEN.out; omega))
      clear e11 d11 km d8
      subst hw6
      go_wp2_with fail
      cases hnm : nameP L fin [] (i + 1) with
      | error pq =>
        obtain ⟨p, q⟩ := pq
        have HRE : Hid (RR = .error (p, q)) := Lib.hid (by rw [HR2.out]; unfold headP; rw [if_neg (by rw [HD.out]; decide), if_neg (by rw [HD.out]; decide), if_pos HD.out, hnm])
        rw [hnm] at HNAME
        refine HNAME.out.mono ?_
        rintro e' wa ⟨rfl, hCa⟩
        go_wp2_with fail
        rw [HRE.out]
        exact ⟨rfl, rfl, HCW.out.trans hCa⟩
      | ok sN =>
        rw [hnm] at HNAME
        refine HNAME.out.mono ?_
        rintro e' w6' ⟨rfl, hp6, hC6⟩
        have HNB' := Lib.hid (hC6.blk HNB.out (fun e => by have := HORD.out; omega))
        have HRB' := Lib.hid (hC6.blk HRB.out (fun e => by have := HORD.out; omega))
        have HCW' := Lib.hid (HCW.out.trans hC6)
        have HC5W' := Lib.hid (HC5W.out.trans hC6)
        have HPW' := Lib.hid hp6
        have HAW' := Lib.hid (HAW.out.later hC6)
        clear HNB HRB HCW HC5W HPW HAW hp6 hC6 HNAME x0 x1 x2 x3 x4 u2 u3 u4
        have HNB := HNB'
        have HRB := HRB'
        have HCW := HCW'
        have HC5W := HC5W'
        have HPW := HPW'
        have HAW := HAW'
        clear HNB' HRB' HCW' HC5W' HPW' HAW'
        have x0 := cell_of HNB.out 0
        have x1 := cell_of HNB.out 1
        have x2 := cell_of HNB.out 2
        have x3 := cell_of HNB.out 3
        have x4 := cell_of HNB.out 4
        have u2 := free_of HNB.out 2
        have u3 := free_of HNB.out 3
        have u4 := free_of HNB.out 4
        obtain ⟨w7, hw7⟩ : ∃ w7, w6'.setCell ⟨w5.heap.size, 2, none⟩ (.string sN) = w7 := ⟨_, rfl⟩
        have hC7 : Chg (fun q => q = w5.heap.size) w6' w7 := by rw [← hw7]; exact (Chg.refl (fun q => q = w5.heap.size) _).set (p := ⟨w5.heap.size, 2, none⟩) (fun _ => rfl) _
        have hN7 : w7.heap[w5.heap.size]? = some (.cells #[.int .u8 k, .int .i64 0, .string sN, .slice none 0 0, .slice none 0 0] 26) := by rw [← hw7]; exact (blk_set HNB.out 2 _).trans rfl
        have hc57 := HC5W.out.andThen hC7 (fun q hq (e : q = w5.heap.size) => by omega)
        have HP7 := Lib.hid (HPW.out.chg hC7 (fun e => by have := HORD.out; omega))
        have HR7 := Lib.hid (hC7.blk HRB.out (fun e => by have := HORD.out; omega))
        have HCW7 := Lib.hid (HCW.out.andThen hC7 (fun q hq (e : q = w5.heap.size) => by have := HORD.out; omega))
        have HC57 := Lib.hid hc57
        have HAW7 := Lib.hid (HA5.out.later hc57)
        have HNB7 := Lib.hid hN7
        clear HPW HRB HCW HC5W HAW HNB hc57 hN7 hC7
        have HPW := HP7
        have HRB := HR7
        have HCW := HCW7
        have HC5W := HC57
        have HAW := HAW7
        have HNB := HNB7
        clear HP7 HR7 HCW7 HC57 HAW7 HNB7
        have HNM0 := Lib.hid hnm
        have HTK1 := Lib.hid (take_calls HPW.out HAW.out.tok 1 (by decide) (by have := HLEN.out; omega))
        obtain ⟨iS, hj0, hj1, hj2, hj3⟩ := info_parts infoSP
        clear hnm
        go_wp2_with fail
        cases htk : takeP L fin 1 (i + 1 + 1) with
        | error pq =>
          obtain ⟨p, q⟩ := pq
          have HRE : Hid (RR = .error (p, q)) := Lib.hid (by have hnm := HNM0.out; rw [HR2.out]; unfold headP; rw [if_neg (by rw [HD.out]; decide), if_neg (by rw [HD.out]; decide), if_pos HD.out, hnm]; simp only []; rw [htk])
          rw [htk] at HTK1
          refine HTK1.out.mono ?_
          rintro e' wa ⟨rfl, hCa⟩
          go_wp2_with fail
          rw [HRE.out]
          exact ⟨rfl, rfl, HCW.out.trans hCa⟩
        | ok uu =>
          have hit : i + 1 + 1 < L.length := by
            unfold takeP at htk
            split at htk
            · cases htk
            · rename_i h
              exact (List.getElem?_eq_some_iff.1 h).1
          obtain ⟨i0, hi0⟩ : ∃ i0, i + 1 + 1 + 1 = i0 := ⟨_, rfl⟩
          have hhn : headP L fin k s (i + 1) = match namesP L fin (L.length + 1) [] i0 with | .error e => .error e | .ok (ns, j) => .ok (sN, ns, j) := by have hnm := HNM0.out; rw [← hi0]; unfold headP; rw [if_neg (by rw [HD.out]; decide), if_neg (by rw [HD.out]; decide), if_pos HD.out, hnm]; simp only []; rw [htk]; rfl
          obtain ⟨NR, hNR⟩ : ∃ NR, namesP L fin (L.length + 1) [] i0 = NR := ⟨_, rfl⟩
          rw [hNR] at hhn
          have HHN := Lib.hid hhn
          have HNR0 := Lib.hid hNR.symm
          rw [htk] at HTK1
          refine HTK1.out.mono ?_
          rintro e' w8 ⟨⟨uv, rfl⟩, hp8, hC8⟩
          rw [hi0] at hp8
          have HST : Hid (Psr b v i0 fin n w8 ∧ (w8.heap[w5.heap.size]? = some (.cells #[.int .u8 k, .int .i64 0, .string sN, .slice none 0 0, .slice none 0 0] 26)) ∧ (w8.heap[w.heap.size]? = some (.cells #[.int .u8 0, .int .i64 0, .string ⟨#[]⟩, .slice none 0 0, .slice none 0 0] 26)) ∧ Chg (· = b) w w8 ∧ Chg (· = b) w5 w8) := Lib.hid ⟨hp8, hC8.blk HNB.out (fun e => by have := HORD.out; omega), hC8.blk HRB.out (fun e => by have := HORD.out; omega), HCW.out.trans hC8, HC5W.out.trans hC8⟩
          clear HPW HRB HCW HC5W HAW HNB hp8 hC8 HTK1 htk HNM0 hNR hhn x0 x1 x2 x3 x4 u2 u3 u4
          obtain ⟨LL, hLL⟩ : ∃ LL, L.length = LL := ⟨_, rfl⟩
          have HLL := Lib.hid hLL
          rw [hLL] at HNR0 hit
          have hLB : LL ≤ 1048576 := by rw [← hLL]; exact HLEN.out
          clear hLL
          go_wp2_with fail
          go_loopg [] (LL + 2) (fun g wr => ∃ (ns : List ByteArray) (i' kk ln : Nat) (ad : Option Addr) (cap : Nat), i' ≤ LL ∧ LL + 1 ≤ kk + i' ∧ LL + 1 ≤ g + i' ∧ ln + kk ≤ LL + 1 ∧ cap ≤ 9223372036854775807 ∧ ln ≤ cap ∧ Hid (NR = namesP L fin kk ns i') ∧ Hid (ns.length = ln ∧ SRow wr (w5.heap.size + 1) (.slice ad ln cap) ns) ∧ Hid (Psr b v i' fin n wr ∧ (wr.heap[w5.heap.size]? = some (.cells #[.int .u8 k, .int .i64 0, .string sN, .slice ad ln cap, .slice none 0 0] 26)) ∧ (wr.heap[w.heap.size]? = some (.cells #[.int .u8 0, .int .i64 0, .string ⟨#[]⟩, .slice none 0 0, .slice none 0 0] 26)) ∧ Chg (· = b) w wr ∧ Chg (· = b) w5 wr))
          case atStart => exact ⟨[], i0, LL + 1, 0, none, 0, by omega, by omega, by omega, by omega, by decide, by decide, HNR0, Lib.hid ⟨rfl, SRow.nil _ _⟩, HST⟩
          case round =>
            obtain ⟨ns, i', kk, ln, ad, cap, h1, h2, h3, h4, h5, h6, hNRk, hS, hI⟩ := hrel
            obtain ⟨kk, rfl⟩ : ∃ q, kk = q + 1 := ⟨kk - 1, by omega⟩
            obtain ⟨gk', rfl⟩ : ∃ q, gk = q + 1 := ⟨gk - 1, by omega⟩
            have HAR := Lib.hid (HA5.out.later hI.out.2.2.2.2)
            have HPS := Lib.hid hI.out.1
            cases hi : L[i']? with
            | none =>
              have HNE : Hid (NR = .error (fin, 11)) := Lib.hid (by rw [hNRk.out]; unfold namesP; rw [hi])
              have HRE : Hid (RR = .error (fin, 11)) := Lib.hid (by rw [HR2.out, HHN.out, HNE.out])
              have H := Lib.hid (peek_err HPS.out HAR.out.tok hi)
              clear hi
              go_wp2_with fail
              refine H.out.mono ?_
              rintro e' w2 ⟨rfl, hC2⟩
              go_wp2_with fail
              rw [HRE.out]
              exact ⟨rfl, rfl, hI.out.2.2.2.1.trans (chgb hC2)⟩
            | some t' =>
              have H := Lib.hid (peek_ok HPS.out HAR.out.tok hi)
              have hi1 : i' < LL := by rw [← HLL.out]; exact (List.getElem?_eq_some_iff.1 hi).1
              obtain ⟨kd', hkd'⟩ : ∃ kd', t'.kind = kd' := ⟨_, rfl⟩
              unfold tokV at H
              rw [hkd'] at H
              by_cases hk2 : kd' = 2
              · have HNO : Hid (NR = .ok (ns, i' + 1)) := Lib.hid (by rw [hNRk.out]; unfold namesP; rw [hi]; simp only []; rw [if_pos (by rw [hkd', hk2])])
                obtain ⟨j, hj⟩ : ∃ j, i' + 1 = j := ⟨_, rfl⟩
                have HHD : Hid (headP L fin k s (i + 1) = .ok (sN, ns, j)) := Lib.hid (by rw [HHN.out, HNO.out, ← hj])
                have hib' : (i' : Int) ≤ 1048576 := by omega
                subst hk2
                clear hi hkd'
                go_wp2_with fail
                refine H.out.mono ?_
                rintro e' w2' ⟨rfl, hC2'⟩
                have hp2' := HPS.out.chg hC2' (fun e => e)
                have c1' := cell_of hp2' 1
                have f1' := free_of hp2' 1
                obtain ⟨w9, hw9⟩ : ∃ w9, w2'.setCell ⟨b, 1, none⟩ (.int .i64 ((i' : Int) + 1)) = w9 := ⟨_, rfl⟩
                have hC9 : Chg (fun q => q = b) w2' w9 := by rw [← hw9]; exact (Chg.refl (fun q => q = b) w2').set (p := ⟨b, 1, none⟩) (fun _ => rfl) _
                have hCC9 := (chgb (b := b) hC2').trans hC9
                have HPW := Lib.hid (show Psr b v (i' + 1) fin n w9 by rw [← hw9]; exact hp2'.at_)
                rw [hj] at HPW
                have HNB := Lib.hid (hCC9.blk hI.out.2.1 (fun e => by have := HORD.out; omega))
                have HRB := Lib.hid (hCC9.blk hI.out.2.2.1 (fun e => by have := HORD.out; omega))
                have HCW := Lib.hid (hI.out.2.2.2.1.trans hCC9)
                have HC5W := Lib.hid (hI.out.2.2.2.2.trans hCC9)
                have HAW := Lib.hid (HAR.out.later hCC9)
                have HSR := Lib.hid (hS.out.2.later hCC9 (fun q (e : q = b) => by have := HORD.out; omega))
                clear hj hCC9 hC9 hp2' hC2' H
                have HPT := Lib.hid (parts_calls deep (by omega) m ⟨HRG.out.2.2.1, HRG.out.2.2.2⟩ val HVAL.out HVN.out j n w9 HPW.out HAW.out hn)
                go_wp2_with fail
                cases hpt : partsP L fin val m 4002 [] j n with
                | error pq =>
                  obtain ⟨p, q⟩ := pq
                  have HRE : Hid (RR = .error (p, q)) := Lib.hid (by rw [HR2.out, HHD.out]; simp only []; rw [hpt])
                  rw [hpt] at HPT
                  refine HPT.out.mono ?_
                  rintro e' wa ⟨rfl, hCa⟩
                  go_wp2_with fail
                  rw [HRE.out]
                  exact ⟨rfl, rfl, HCW.out.trans hCa⟩
                | ok xr =>
                  obtain ⟨ks, i2, n2⟩ := xr
                  have hcnt : n2 ≤ 4000 ∧ ks.length + n ≤ n2 := parts_count HVN.out _ _ _ _ _ _ _ hpt hn
                  have HRP : Hid (RR = match moreKids cl k ks i2 n2 with | .error e => .error e | .ok (ks', i3, n3) => closeP L fin k sN ns ks' i3 n3) := Lib.hid (by rw [HR2.out, HHD.out]; simp only []; rw [hpt])
                  rw [hpt] at HPT
                  refine HPT.out.mono ?_
                  rintro e' wa ⟨kv, rfl, hpa, hra, hCa⟩
                  have hNlt : w5.heap.size < w9.heap.size := lt_of_block HNB.out
                  have hra2 := hra.wide (B' := w5.heap.size + 1) (by omega)
                  obtain ⟨ak, ck, rfl, hkc, hkm⟩ := hra.form
                  obtain ⟨nk, hnk⟩ : ∃ nk, ks.length = nk := ⟨_, rfl⟩
                  have HNK := Lib.hid hnk
                  rw [hnk] at hra2 hkc hcnt ⊢
                  have hck2 : ck ≤ 9223372036854775807 := by unfold maxLen at hkm; omega
                  have hNa := hCa.blk HNB.out (fun e => by have := HORD.out; omega)
                  have hRa := hCa.blk HRB.out (fun e => by have := HORD.out; omega)
                  have m0 := cell_of hNa 0
                  have m1 := cell_of hNa 1
                  have m2 := cell_of hNa 2
                  have m3 := cell_of hNa 3
                  have m4 := cell_of hNa 4
                  have u4 := free_of hNa 4
                  obtain ⟨wb, hwb⟩ : ∃ wb, wa.setCell ⟨w5.heap.size, 4, none⟩ (.slice ak nk ck) = wb := ⟨_, rfl⟩
                  have hCb : Chg (fun q => q = w5.heap.size) wa wb := by rw [← hwb]; exact (Chg.refl (fun q => q = w5.heap.size) wa).set (p := ⟨w5.heap.size, 4, none⟩) (fun _ => rfl) _
                  have hNb : wb.heap[w5.heap.size]? = some (.cells #[.int .u8 k, .int .i64 0, .string sN, .slice ad ln cap, .slice ak nk ck] 26) := by rw [← hwb]; exact (blk_set hNa 4 _).trans rfl
                  have hCE := (HCW.out.trans hCa).andThen hCb (fun q hq (e : q = w5.heap.size) => by have := HORD.out; omega)
                  have HPE := Lib.hid (hpa.chg hCb (fun e => by have := HORD.out; omega))
                  have HNE := Lib.hid hNb
                  have HRBE := Lib.hid (hCb.blk hRa (fun e => by have := HORD.out; omega))
                  have HSRE := Lib.hid ((HSR.out.later hCa (fun q (e : q = b) => by have := HORD.out; omega)).later hCb (fun q (e : q = w5.heap.size) => by omega))
                  have HNRE := Lib.hid (hra2.later hCb (fun q (e : q = w5.heap.size) => by omega))
                  have HCE := Lib.hid hCE
                  have HC5E := Lib.hid ((HC5W.out.trans hCa).andThen hCb (fun q hq (e : q = w5.heap.size) => by omega))
                  have HAE : Hid (Amb b v L wb) := Lib.hid (HA5.out.later HC5E.out)
                  have m4b := cell_of hNb 4
                  have u4b := free_of hNb 4
                  clear hpa hra hra2 hCa hNa hRa hCb hNb hCE HPT hpt hkm hnk c1' f1'
                  by_cases e13 : k = 13
                  · exact absurd e13 H13.out
                  · have HRC : Hid (RR = closeP L fin k sN ns ks i2 n2) := Lib.hid (by rw [HRP.out]; unfold moreKids; rw [if_neg e13])
                    have e13i : ¬ (k : Int) = 13 := by omega
                    have e13b : ((k : Int) == 13) = false := beq_eq_false_iff_ne.2 e13i
                    clear e13
                    have HTK := Lib.hid (take_calls HPE.out HAE.out.tok 2 (by decide) (by have := HLEN.out; omega))
                    go_wp2_with fail
                    cases htk : takeP L fin 2 i2 with
                    | error pq =>
                      obtain ⟨p, q⟩ := pq
                      have HRE : Hid (RR = .error (p, q)) := Lib.hid (by rw [HRC.out]; unfold closeP; rw [htk])
                      rw [htk] at HTK
                      refine HTK.out.mono ?_
                      rintro e' wz ⟨rfl, hCz⟩
                      go_wp2_with fail
                      rw [HRE.out]
                      exact ⟨rfl, rfl, HCE.out.trans hCz⟩
                    | ok uu =>
                      have HRE : Hid (RR = .ok (.mk k 0 sN ns ks, i2 + 1, n2)) := Lib.hid (by rw [HRC.out]; unfold closeP; rw [htk])
                      rw [htk] at HTK
                      refine HTK.out.mono ?_
                      rintro e' wz ⟨⟨uv, rfl⟩, hpz, hCz⟩
                      have hNz := hCz.blk HNE.out (fun e => by have := HORD.out; omega)
                      have hRz := hCz.blk HRBE.out (fun e => by have := HORD.out; omega)
                      have n0 := cell_of hNz 0
                      have n1 := cell_of hNz 1
                      have n2' := cell_of hNz 2
                      have n3' := cell_of hNz 3
                      have n4 := cell_of hNz 4
                      have r0 := cell_of hRz 0
                      have r1 := cell_of hRz 1
                      have r2 := cell_of hRz 2
                      have r3 := cell_of hRz 3
                      have r4 := cell_of hRz 4
                      have q0 := free_of hRz 0
                      have q1 := free_of hRz 1
                      have q2 := free_of hRz 2
                      have q3 := free_of hRz 3
                      have q4 := free_of hRz 4
                      have HRZ := Lib.hid hRz
                      have HPZ := Lib.hid hpz
                      have HCZ := Lib.hid (HCE.out.trans hCz)
                      have HNDZ := Lib.hid (node_make (w := w) (k := k) (tx := sN) (by have := HRG.out; omega) (HSRE.out.later hCz (fun q (e : q = b) => by have := HORD.out; omega)) (HNRE.out.later hCz (fun q (e : q = b) => by have := HORD.out; omega)) (by have := HORD.out; omega))
                      clear hNz hRz hpz hCz HTK htk
                      go_wp2_with fail
                      refine bodyPost_ret (results_cell_row rfl _ _ w.heap.size 26 #[.int .u8 k, .int .i64 0, .string sN, .slice ad ln cap, .slice ak nk ck] (0, 0) _ rfl (end5 (W := wz) HRZ.out _ _ _ _ _) Tryd.underlying26 rfl (by kernel_rfl)) rfl ?_
                      rw [HRE.out]
                      exact put_ends (x := .mk k 0 sN ns ks) HPZ.out HCZ.out (HORD.out.1) HNDZ.out
              · have hkb : ((kd' : Int) != 2) = true := bne_iff_ne.2 (by omega)
                have HNN : Hid (NR = match nameP L fin ns i' with | .error e => .error e | .ok s2 => namesP L fin kk (ns ++ [s2]) (i' + 1)) := Lib.hid (by rw [hNRk.out, namesP, hi]; simp only []; rw [if_neg (by rw [hkd']; exact hk2)]; rfl)
                clear hi hkd' hk2
                go_wp2_with fail
                refine H.out.mono ?_
                rintro e' wq ⟨rfl, hCq⟩
                have hdr : Chg (fun _ => False) wq wq.drew := (Chg.refl _ wq).drew
                have hX := chgb (b := b) (hCq.trans hdr)
                have HSRQ := Lib.hid (hS.out.2.later hX (fun q (e : q = b) => by have := HORD.out; omega))
                have HLN := Lib.hid hS.out.1
                have HNW := Lib.hid (name_calls (HPS.out.chg (hCq.trans hdr) (fun e => e)) (HAR.out.later hX).tok ns (.slice ad ln cap) (HSRQ.out.names.keep (keep_off _ _)) (by have := HLEN.out; omega))
                have HNQ := Lib.hid (hCq.blk hI.out.2.1 (fun e => e))
                have x3 := cell_of HNQ.out 3
                have HXQ := Lib.hid (chgb (b := b) hCq)
                clear H hX hCq
                go_wp2_with fail
                cases hn2 : nameP L fin ns i' with
                | error pq =>
                  obtain ⟨p, q⟩ := pq
                  rw [hn2] at HNW
                  refine wp_region_T (S := fun W => W.cell? ⟨w5.heap.size, 3, none⟩ = some (.slice ad ln cap)) 8 2 rfl (by kernel_rfl) ?_ (fun hHeld => ?_)
                  · exact hdr.cell x3 (fun e => e)
                  refine wpAnyT_take (i := 0) (v := ?tv1) rfl (by kernel_rfl) (by decide) (by kernel_rfl) (by kernel_rfl) (fun _ _ _ h => h) (Or.inl ⟨by rfl, ?ty1⟩) (by assumption) ?tr1
                  case ty1 => intro w hSw; (try dsimp only at hSw); go_simp; (try with_reducible rfl)
                  try simp only [Act.put, List.setIfInBounds_toArray, List.set_cons_zero, List.set_cons_succ, List.getElem_toArray, List.getElem_cons_zero, List.getElem_cons_succ, Nat.zero_add]
                  refine wpAnyT_take (i := 1) (v := ?tv2) rfl (by kernel_rfl) (by decide) (by kernel_rfl) (by kernel_rfl) (fun _ _ _ h => h) (Or.inl ⟨by rfl, ?ty2⟩) (by assumption) ?tr2
                  case ty2 => intro w hSw; (try dsimp only at hSw); go_simp; (try with_reducible rfl)
                  try simp only [Act.put, List.setIfInBounds_toArray, List.set_cons_zero, List.set_cons_succ, List.getElem_toArray, List.getElem_cons_zero, List.getElem_cons_succ, Nat.zero_add]
                  refine wpAnyT_take (i := 2) (v := ?tv3) rfl (by kernel_rfl) (by decide) (by kernel_rfl) (by kernel_rfl) (fun _ _ _ h => h) (Or.inl ⟨by rfl, ?ty3⟩) (by assumption) ?tr3
                  case ty3 => intro w hSw; (try dsimp only at hSw); go_simp; (try with_reducible rfl)
                  try simp only [Act.put, List.setIfInBounds_toArray, List.set_cons_zero, List.set_cons_succ, List.getElem_toArray, List.getElem_cons_zero, List.getElem_cons_succ, Nat.zero_add]
                  refine wpAnyT_take (i := 3) (v := ?tv4) rfl (by kernel_rfl) (by decide) (by kernel_rfl) (by kernel_rfl) (fun _ _ _ h => h) (Or.inl ⟨by rfl, ?ty4⟩) (by assumption) ?tr4
                  case ty4 => intro w hSw; (try dsimp only at hSw); go_simp; (try with_reducible rfl)
                  try simp only [Act.put, List.setIfInBounds_toArray, List.set_cons_zero, List.set_cons_succ, List.getElem_toArray, List.getElem_cons_zero, List.getElem_cons_succ, Nat.zero_add]
                  refine wpAnyT_take (i := 4) (v := ?tv5) rfl (by kernel_rfl) (by decide) (by kernel_rfl) (by kernel_rfl) (fun _ _ _ h => h) (Or.inl ⟨by rfl, ?ty5⟩) (by assumption) ?tr5
                  case ty5 => intro w hSw; (try dsimp only at hSw); go_simp; (try with_reducible rfl)
                  try simp only [Act.put, List.setIfInBounds_toArray, List.set_cons_zero, List.set_cons_succ, List.getElem_toArray, List.getElem_cons_zero, List.getElem_cons_succ, Nat.zero_add]
                  refine wpAnyT_ready (rs := [5]) (by kernel_rfl) (by kernel_rfl) ?_
                  refine AllReadyT.cons rfl (fun K hK => ?_) ?_
                  · go_simp
                    refine HNW.out.mono ?_
                    rintro e' wc ⟨rfl, hCc⟩
                    have HRE : Hid (RR = .error (p, q)) := Lib.hid (by rw [HR2.out, HHN.out, HNN.out, hn2])
                    go_wp2_with fail
                    rw [HRE.out]
                    exact ⟨rfl, rfl, (hI.out.2.2.2.1.trans HXQ.out).trans ((chgb hdr).trans hCc)⟩
                  exact AllReadyT.nil
                | ok s2 =>
                  rw [hn2] at HNW
                  refine wp_region_T (S := fun W => W.cell? ⟨w5.heap.size, 3, none⟩ = some (.slice ad ln cap)) 8 2 rfl (by kernel_rfl) ?_ (fun hHeld => ?_)
                  · exact hdr.cell x3 (fun e => e)
                  refine wpAnyT_take (i := 0) (v := ?tv6) rfl (by kernel_rfl) (by decide) (by kernel_rfl) (by kernel_rfl) (fun _ _ _ h => h) (Or.inl ⟨by rfl, ?ty6⟩) (by assumption) ?tr6
                  case ty6 => intro w hSw; (try dsimp only at hSw); go_simp; (try with_reducible rfl)
                  try simp only [Act.put, List.setIfInBounds_toArray, List.set_cons_zero, List.set_cons_succ, List.getElem_toArray, List.getElem_cons_zero, List.getElem_cons_succ, Nat.zero_add]
                  refine wpAnyT_take (i := 1) (v := ?tv7) rfl (by kernel_rfl) (by decide) (by kernel_rfl) (by kernel_rfl) (fun _ _ _ h => h) (Or.inl ⟨by rfl, ?ty7⟩) (by assumption) ?tr7
                  case ty7 => intro w hSw; (try dsimp only at hSw); go_simp; (try with_reducible rfl)
                  try simp only [Act.put, List.setIfInBounds_toArray, List.set_cons_zero, List.set_cons_succ, List.getElem_toArray, List.getElem_cons_zero, List.getElem_cons_succ, Nat.zero_add]
                  refine wpAnyT_take (i := 2) (v := ?tv8) rfl (by kernel_rfl) (by decide) (by kernel_rfl) (by kernel_rfl) (fun _ _ _ h => h) (Or.inl ⟨by rfl, ?ty8⟩) (by assumption) ?tr8
                  case ty8 => intro w hSw; (try dsimp only at hSw); go_simp; (try with_reducible rfl)
                  try simp only [Act.put, List.setIfInBounds_toArray, List.set_cons_zero, List.set_cons_succ, List.getElem_toArray, List.getElem_cons_zero, List.getElem_cons_succ, Nat.zero_add]
                  refine wpAnyT_take (i := 3) (v := ?tv9) rfl (by kernel_rfl) (by decide) (by kernel_rfl) (by kernel_rfl) (fun _ _ _ h => h) (Or.inl ⟨by rfl, ?ty9⟩) (by assumption) ?tr9
                  case ty9 => intro w hSw; (try dsimp only at hSw); go_simp; (try with_reducible rfl)
                  try simp only [Act.put, List.setIfInBounds_toArray, List.set_cons_zero, List.set_cons_succ, List.getElem_toArray, List.getElem_cons_zero, List.getElem_cons_succ, Nat.zero_add]
                  refine wpAnyT_take (i := 4) (v := ?tv10) rfl (by kernel_rfl) (by decide) (by kernel_rfl) (by kernel_rfl) (fun _ _ _ h => h) (Or.inl ⟨by rfl, ?ty10⟩) (by assumption) ?tr10
                  case ty10 => intro w hSw; (try dsimp only at hSw); go_simp; (try with_reducible rfl)
                  try simp only [Act.put, List.setIfInBounds_toArray, List.set_cons_zero, List.set_cons_succ, List.getElem_toArray, List.getElem_cons_zero, List.getElem_cons_succ, Nat.zero_add]
                  refine wpAnyT_ready (rs := [5]) (by kernel_rfl) (by kernel_rfl) ?_
                  refine AllReadyT.cons rfl (fun K hK => ?_) ?_
                  · go_simp
                    refine HNW.out.mono ?_
                    rintro e' wc ⟨rfl, hpc, hCc0⟩
                    have hCc := (chgb (b := b) hdr).trans hCc0
                    have q3 := hCc.cell x3 (fun (e : w5.heap.size = b) => by have := HORD.out; omega)
                    have HSRC := Lib.hid (HSRQ.out.later hCc0 (fun q (e : q = b) => by have := HORD.out; omega))
                    have HPC := Lib.hid hpc
                    have HCC := Lib.hid hCc
                    have hrc := HSRC.out.row
                    rw [HLN.out] at hrc
                    have HRC0 := Lib.hid hrc
                    clear hrc hpc hCc hCc0 HNW
                    refine hK.out _ _ ?_ (fun hHeld => ?_)
                    · first | assumption | exact q3d | exact cell_alSP _ q3
                    clear hK K
                    try simp only [Act.put, List.setIfInBounds_toArray, List.set_cons_zero, List.set_cons_succ, List.getElem_toArray, List.getElem_cons_zero, List.getElem_cons_succ, Nat.zero_add]
                    refine wpAnyT_ready (rs := [6]) (by kernel_rfl) (by kernel_rfl) ?_
                    refine AllReadyT.cons rfl (fun K hK => ?_) ?_
                    · go_simp
                      refine hK.out _ _ ?_ (fun hHeld => ?_)
                      · first | assumption | exact q3d | exact cell_alSP _ q3
                      clear hK K
                      try simp only [Act.put, List.setIfInBounds_toArray, List.set_cons_zero, List.set_cons_succ, List.getElem_toArray, List.getElem_cons_zero, List.getElem_cons_succ, Nat.zero_add]
                      refine wpAnyT_ready (rs := [7]) (by kernel_rfl) (by kernel_rfl) ?_
                      refine AllReadyT.cons rfl (fun K hK => ?_) ?_
                      · refine step_append_row _ (by rfl) _ _ _ (by rfl) 9 iS _ 1 16 twSP hj0 hj1 hj2 hj3 rfl (by omega) (.slice ad ln cap) ln (ns.map Value.string) (by rfl) (HRC0.out.kept ?nc (fun _ _ h => h)) ⟨wc.heap.size, 0, none⟩ 1 1 [.string s2] (by rfl) rfl ?nb ?ny (by decide) (by unfold maxLen; omega) (by omega) _ (by rfl) ?_
                        case nb => exact news_oneP (new_atSP _ _ _ (by simp))
                        case ny => intro u hu; simp only [List.mem_cons, List.not_mem_nil, or_false] at hu; subst hu; rfl
                        case nc => (repeat (first | exact Chg.refl _ _ | apply Chg.alloc | apply Chg.drew | apply Chg.drewN))
                        intro gg off2 cap2 wd hrow2 hgrow2 hat2 hlt2
                        have hCd : Chg (fun q => (Value.slice ad ln cap).ownBlock = some q) wc wd := (by refine Chg.grown ?_ hgrow2 (fun k hk e => e); (repeat (first | exact Chg.refl _ _ | apply Chg.alloc | apply Chg.drew | apply Chg.drewN)))
                        have nw : ∀ q, (Value.slice ad ln cap).ownBlock = some q → w5.heap.size + 1 ≤ q := HSRC.out.new
                        have q3d := hCd.cell q3 (fun e => by have h : w5.heap.size + 1 ≤ w5.heap.size := nw _ e; omega)
                        have hNd := hCd.blk (HCC.out.blk HNQ.out (fun e => by have := HORD.out; omega)) (fun e => by have := nw _ e; omega)
                        have u3d := free_of hNd 3
                        have hc2 : cap2 ≤ 9223372036854775807 ∧ ln + 1 ≤ cap2 := by obtain ⟨_, _, e, hm0, hm⟩ := hrow2.form; simp only [Value.slice.injEq] at e; obtain ⟨_, _, rfl⟩ := e; unfold maxLen at hm; omega
                        have HSRD := Lib.hid (HSRC.out.snoc (H := wc.heap.size + 1) HLN.out hrow2 (fun g hg => by rcases hat2 with e | e; (left; rw [e]; exact hg); (right; have e2 : gg = g := (by simpa [Value.ownBlock] using hg); rw [← e2, e]; simp)) (by have := lt_of_block HNQ.out; have := HCC.out.size; omega))
                        have HCD := Lib.hid hCd
                        have HND := Lib.hid hNd
                        have HNW2 := Lib.hid nw
                        clear hrow2 hgrow2 hat2 hCd hNd hlt2 nw
                        refine hK.out _ _ ?_ (fun hHeld => ?_)
                        · first | assumption | exact q3d | exact cell_alSP _ q3
                        clear hK K
                        try simp only [Act.put, List.setIfInBounds_toArray, List.set_cons_zero, List.set_cons_succ, List.getElem_toArray, List.getElem_cons_zero, List.getElem_cons_succ, Nat.zero_add]
                        refine wpAnyT_done (by kernel_rfl) ?_
                        simp only [List.drop_succ_cons, List.drop_zero]
                        obtain ⟨we, hwe⟩ : ∃ we, wd.setCell ⟨w5.heap.size, 3, none⟩ (.slice (some ⟨gg, off2, none⟩) (ln + 1) cap2) = we := ⟨_, rfl⟩
                        have hCe : Chg (fun q => q = w5.heap.size) wd we := by rw [← hwe]; exact (Chg.refl (fun q => q = w5.heap.size) wd).set (p := ⟨w5.heap.size, 3, none⟩) (fun _ => rfl) _
                        have hNe : we.heap[w5.heap.size]? = some (.cells #[.int .u8 k, .int .i64 0, .string sN, .slice (some ⟨gg, off2, none⟩) (ln + 1) cap2, .slice none 0 0] 26) := by rw [← hwe]; exact (blk_set HND.out 3 _).trans rfl
                        have HRE : Hid (NR = namesP L fin kk (ns ++ [s2]) (i' + 1)) := Lib.hid (by rw [HNN.out, hn2])
                        have hQ := HXQ.out.trans HCC.out
                        have HZ : Hid (Psr b v (i' + 1) fin n we ∧ (we.heap[w5.heap.size]? = some (.cells #[.int .u8 k, .int .i64 0, .string sN, .slice (some ⟨gg, off2, none⟩) (ln + 1) cap2, .slice none 0 0] 26)) ∧ (we.heap[w.heap.size]? = some (.cells #[.int .u8 0, .int .i64 0, .string ⟨#[]⟩, .slice none 0 0, .slice none 0 0] 26)) ∧ Chg (· = b) w we ∧ Chg (· = b) w5 we) := Lib.hid ⟨(HPC.out.chg HCD.out (fun e => by have := HORD.out; have := HNW2.out _ e; omega)).chg hCe (fun e => by have := HORD.out; omega), hNe, hCe.blk (HCD.out.blk (hQ.blk hI.out.2.2.1 (fun e => by have := HORD.out; omega)) (fun e => by have := HORD.out; have := HNW2.out _ e; omega)) (fun e => by have := HORD.out; omega), ((hI.out.2.2.2.1.trans hQ).andThen HCD.out (fun q hq e => by have := HORD.out; have := HNW2.out _ e; omega)).andThen hCe (fun q hq (e : q = w5.heap.size) => by have := HORD.out; omega), ((hI.out.2.2.2.2.trans hQ).andThen HCD.out (fun q hq e => by have := HNW2.out _ e; omega)).andThen hCe (fun q hq (e : q = w5.heap.size) => by omega)⟩
                        have HZS : Hid ((ns ++ [s2]).length = ln + 1 ∧ SRow we (w5.heap.size + 1) (.slice (some ⟨gg, off2, none⟩) (ln + 1) cap2) (ns ++ [s2])) := Lib.hid ⟨by rw [List.length_append, HLN.out]; rfl, HSRD.out.later hCe (fun q (e : q = w5.heap.size) => by omega)⟩
                        clear hCe hNe hQ x3 q3 hdr hn2
                        go_wp2_with fail
                        go_roundg gk'
                        case measure => omega
                        case rel => exact ⟨ns ++ [s2], i' + 1, kk, ln + 1, _, _, by omega, by omega, by omega, by omega, hc2.1, hc2.2, HRE, HZS, HZ⟩
                      exact AllReadyT.nil
                    exact AllReadyT.nil
                  exact AllReadyT.nil
    obtain ⟨tx, htx⟩ : ∃ tx : ByteArray, (⟨#[]⟩ : ByteArray) = tx := ⟨_, rfl⟩
    obtain ⟨ns, hns⟩ : ∃ ns : List ByteArray, ([] : List ByteArray) = ns := ⟨_, rfl⟩
    obtain ⟨j, hj⟩ : ∃ j, i + 1 = j := ⟨_, rfl⟩
    have HSR : Hid (SRow w6 (w5.heap.size + 1) (.slice none 0 0) ns) := Lib.hid (by rw [← hns]; exact SRow.nil _ _)
    have HHD : Hid (headP L fin k s (i + 1) = .ok (tx, ns, j)) := Lib.hid (by rw [← htx, ← hns, ← hj]; unfold headP; rw [if_neg d11, if_neg d8, if_neg d6])
    have HNS0 : Hid (ns = []) := Lib.hid hns.symm
    rw [hj] at HPW
    have b11 : ((k : Int) == 11) = false := beq_eq_false_iff_ne.2 (by omega)
    have b8 : ((k : Int) == 8) = false := beq_eq_false_iff_ne.2 (by omega)
    have b12 : ((k : Int) == 12) = false := beq_eq_false_iff_ne.2 (by omega)
    have b6 : ((k : Int) == 6) = false := beq_eq_false_iff_ne.2 (by omega)
    rw [htx] at HNB
    have i11 : ¬ (k : Int) = 11 := by omega
    have i8 : ¬ (k : Int) = 8 := by omega
    have i12 : ¬ (k : Int) = 12 := by omega
    have i6 : ¬ (k : Int) = 6 := by omega
    clear e11 d11 d8 d6 htx hns hj km
    subst hw6
    have HPT := Lib.hid (parts_calls deep (by omega) m ⟨HRG.out.2.2.1, HRG.out.2.2.2⟩ val HVAL.out HVN.out j n (w5.alloc (.cells #[.int .u8 k, .int .i64 0, .string ⟨#[]⟩, .slice none 0 0, .slice none 0 0] 26)) HPW.out HAW.out hn)
    go_wp2_with fail
    cases hpt : partsP L fin val m 4002 [] j n with
    | error pq =>
      obtain ⟨p, q⟩ := pq
      have HRE : Hid (RR = .error (p, q)) := Lib.hid (by rw [HR2.out, HHD.out]; simp only []; rw [hpt])
      rw [hpt] at HPT
      refine HPT.out.mono ?_
      rintro e' wa ⟨rfl, hCa⟩
      go_wp2_with fail
      rw [HRE.out]
      exact ⟨rfl, rfl, HCW.out.trans hCa⟩
    | ok xr =>
      obtain ⟨ks, i2, n2⟩ := xr
      have hcnt : n2 ≤ 4000 ∧ ks.length + n ≤ n2 := parts_count HVN.out _ _ _ _ _ _ _ hpt hn
      have HRP : Hid (RR = match moreKids cl k ks i2 n2 with | .error e => .error e | .ok (ks', i3, n3) => closeP L fin k tx ns ks' i3 n3) := Lib.hid (by rw [HR2.out, HHD.out]; simp only []; rw [hpt])
      rw [hpt] at HPT
      refine HPT.out.mono ?_
      rintro e' wa ⟨kv, rfl, hpa, hra, hCa⟩
      have hNlt : w5.heap.size < (w5.alloc (.cells #[.int .u8 k, .int .i64 0, .string ⟨#[]⟩, .slice none 0 0, .slice none 0 0] 26)).heap.size := lt_of_block HNB.out
      have hra2 := hra.wide (B' := w5.heap.size + 1) (by omega)
      obtain ⟨ak, ck, rfl, hkc, hkm⟩ := hra.form
      obtain ⟨nk, hnk⟩ : ∃ nk, ks.length = nk := ⟨_, rfl⟩
      have HNK := Lib.hid hnk
      rw [hnk] at hra2 hkc hcnt ⊢
      have hck2 : ck ≤ 9223372036854775807 := by unfold maxLen at hkm; omega
      have hNa := hCa.blk HNB.out (fun e => by have := HORD.out; omega)
      have hRa := hCa.blk HRB.out (fun e => by have := HORD.out; omega)
      have m0 := cell_of hNa 0
      have m1 := cell_of hNa 1
      have m2 := cell_of hNa 2
      have m3 := cell_of hNa 3
      have m4 := cell_of hNa 4
      have u4 := free_of hNa 4
      obtain ⟨wb, hwb⟩ : ∃ wb, wa.setCell ⟨w5.heap.size, 4, none⟩ (.slice ak nk ck) = wb := ⟨_, rfl⟩
      have hCb : Chg (fun q => q = w5.heap.size) wa wb := by rw [← hwb]; exact (Chg.refl (fun q => q = w5.heap.size) wa).set (p := ⟨w5.heap.size, 4, none⟩) (fun _ => rfl) _
      have hNb : wb.heap[w5.heap.size]? = some (.cells #[.int .u8 k, .int .i64 0, .string tx, .slice none 0 0, .slice ak nk ck] 26) := by rw [← hwb]; exact (blk_set hNa 4 _).trans rfl
      have hCE := (HCW.out.trans hCa).andThen hCb (fun q hq (e : q = w5.heap.size) => by have := HORD.out; omega)
      have HPE := Lib.hid (hpa.chg hCb (fun e => by have := HORD.out; omega))
      have HNE := Lib.hid hNb
      have HRBE := Lib.hid (hCb.blk hRa (fun e => by have := HORD.out; omega))
      have HSRE := Lib.hid ((HSR.out.later hCa (fun q (e : q = b) => by have := HORD.out; omega)).later hCb (fun q (e : q = w5.heap.size) => by omega))
      have HNRE := Lib.hid (hra2.later hCb (fun q (e : q = w5.heap.size) => by omega))
      have HCE := Lib.hid hCE
      have HC5E := Lib.hid ((HC5W.out.trans hCa).andThen hCb (fun q hq (e : q = w5.heap.size) => by omega))
      have HAE : Hid (Amb b v L wb) := Lib.hid (HA5.out.later HC5E.out)
      have m4b := cell_of hNb 4
      have u4b := free_of hNb 4
      clear hpa hra hra2 hCa hNa hRa hCb hNb hCE HPT hpt hkm hnk x0 x1 x2 x3 x4 u2 u3
      by_cases e13 : k = 13
      · have e13b : ((k : Int) == 13) = true := by rw [e13]; rfl
        have HRM : Hid (RR = match cl i2 n2 with | .error e => .error e | .ok (cs, i3, n3) => closeP L fin k tx ns (ks ++ cs) i3 n3) := Lib.hid (by rw [HRP.out]; unfold moreKids; rw [if_pos e13]; cases cl i2 n2 with | error e => rfl | ok y => rfl)
        clear e13
        have hdr : Chg (fun _ => False) wb wb.drew := (Chg.refl _ wb).drew
        have HCLW := Lib.hid (HCL.out i2 n2 wb.drew (HPE.out.chg hdr (fun e => e)) (HAE.out.later (chgb hdr)) hcnt.1)
        rw [hdc] at HCLW
        have hwd : IntKind.i64.wrap ((deep : Int) + 1) = (deep : Int) + 1 := by simp [IntKind.wrap, IntKind.signed, IntKind.bits]; omega
        have HNBB : Hid (w5.heap.size + 1 ≤ wb.drew.heap.size) := Lib.hid (by have := lt_of_block HNE.out; have := hdr.size; omega)
        cases hcl : cl i2 n2 with
        | error pq =>
          obtain ⟨p, q⟩ := pq
          have HRE : Hid (RR = .error (p, q)) := Lib.hid (by rw [HRM.out, hcl])
          rw [hcl] at HCLW
          clear hcl
          go_wp2_with fail
          refine wp_region_T (S := fun W => W.cell? ⟨w5.heap.size, 4, none⟩ = some (.slice ak nk ck)) 7 2 rfl (by kernel_rfl) ?_ (fun hHeld => ?_)
          · exact hdr.cell m4b (fun e => e)
          refine wpAnyT_take (i := 0) (v := ?tv11) rfl (by kernel_rfl) (by decide) (by kernel_rfl) (by kernel_rfl) (fun _ _ _ h => h) (Or.inl ⟨by rfl, ?ty11⟩) (by assumption) ?tr11
          case ty11 => intro w hSw; (try dsimp only at hSw); go_simp; (try with_reducible rfl)
          try simp only [Act.put, List.setIfInBounds_toArray, List.set_cons_zero, List.set_cons_succ, List.getElem_toArray, List.getElem_cons_zero, List.getElem_cons_succ, Nat.zero_add]
          refine wpAnyT_take (i := 1) (v := ?tv12) rfl (by kernel_rfl) (by decide) (by kernel_rfl) (by kernel_rfl) (fun _ _ _ h => h) (Or.inl ⟨by rfl, ?ty12⟩) (by assumption) ?tr12
          case ty12 => intro w hSw; (try dsimp only at hSw); go_simp; (try with_reducible rfl)
          try simp only [Act.put, List.setIfInBounds_toArray, List.set_cons_zero, List.set_cons_succ, List.getElem_toArray, List.getElem_cons_zero, List.getElem_cons_succ, Nat.zero_add]
          refine wpAnyT_take (i := 2) (v := ?tv13) rfl (by kernel_rfl) (by decide) (by kernel_rfl) (by kernel_rfl) (fun _ _ _ h => h) (Or.inl ⟨by rfl, ?ty13⟩) (by assumption) ?tr13
          case ty13 => intro w hSw; (try dsimp only at hSw); go_simp; (try with_reducible rfl)
          try simp only [Act.put, List.setIfInBounds_toArray, List.set_cons_zero, List.set_cons_succ, List.getElem_toArray, List.getElem_cons_zero, List.getElem_cons_succ, Nat.zero_add]
          refine wpAnyT_take (i := 3) (v := ?tv14) rfl (by kernel_rfl) (by decide) (by kernel_rfl) (by kernel_rfl) (fun _ _ _ h => h) (Or.inl ⟨by rfl, ?ty14⟩) (by assumption) ?tr14
          case ty14 => intro w hSw; (try dsimp only at hSw); go_simp; (try with_reducible rfl)
          try simp only [Act.put, List.setIfInBounds_toArray, List.set_cons_zero, List.set_cons_succ, List.getElem_toArray, List.getElem_cons_zero, List.getElem_cons_succ, Nat.zero_add]
          refine wpAnyT_take (i := 4) (v := ?tv15) rfl (by kernel_rfl) (by decide) (by kernel_rfl) (by kernel_rfl) (fun _ _ _ h => h) (Or.inl ⟨by rfl, ?ty15⟩) (by assumption) ?tr15
          case ty15 => intro w hSw; (try dsimp only at hSw); go_simp; (try with_reducible rfl)
          try simp only [Act.put, List.setIfInBounds_toArray, List.set_cons_zero, List.set_cons_succ, List.getElem_toArray, List.getElem_cons_zero, List.getElem_cons_succ, Nat.zero_add]
          refine wpAnyT_ready (rs := [5]) (by kernel_rfl) (by kernel_rfl) ?_
          refine AllReadyT.cons rfl (fun K hK => ?_) ?_
          · go_simp
            refine HCLW.out.mono ?_
            rintro e' wc ⟨rfl, hCc⟩
            go_wp2_with fail
            rw [HRE.out]
            exact ⟨rfl, rfl, HCE.out.trans ((chgb hdr).trans hCc)⟩
          exact AllReadyT.nil
        | ok xc =>
          obtain ⟨cs, i3, n3⟩ := xc
          have hcn3 := HCN.out _ _ _ _ _ hcl hcnt.1
          have HRC : Hid (RR = closeP L fin k tx ns (ks ++ cs) i3 n3) := Lib.hid (by rw [HRM.out, hcl])
          rw [hcl] at HCLW
          clear hcl
          go_wp2_with fail
          refine wp_region_T (S := fun W => W.cell? ⟨w5.heap.size, 4, none⟩ = some (.slice ak nk ck)) 7 2 rfl (by kernel_rfl) ?_ (fun hHeld => ?_)
          · exact hdr.cell m4b (fun e => e)
          refine wpAnyT_take (i := 0) (v := ?tv16) rfl (by kernel_rfl) (by decide) (by kernel_rfl) (by kernel_rfl) (fun _ _ _ h => h) (Or.inl ⟨by rfl, ?ty16⟩) (by assumption) ?tr16
          case ty16 => intro w hSw; (try dsimp only at hSw); go_simp; (try with_reducible rfl)
          try simp only [Act.put, List.setIfInBounds_toArray, List.set_cons_zero, List.set_cons_succ, List.getElem_toArray, List.getElem_cons_zero, List.getElem_cons_succ, Nat.zero_add]
          refine wpAnyT_take (i := 1) (v := ?tv17) rfl (by kernel_rfl) (by decide) (by kernel_rfl) (by kernel_rfl) (fun _ _ _ h => h) (Or.inl ⟨by rfl, ?ty17⟩) (by assumption) ?tr17
          case ty17 => intro w hSw; (try dsimp only at hSw); go_simp; (try with_reducible rfl)
          try simp only [Act.put, List.setIfInBounds_toArray, List.set_cons_zero, List.set_cons_succ, List.getElem_toArray, List.getElem_cons_zero, List.getElem_cons_succ, Nat.zero_add]
          refine wpAnyT_take (i := 2) (v := ?tv18) rfl (by kernel_rfl) (by decide) (by kernel_rfl) (by kernel_rfl) (fun _ _ _ h => h) (Or.inl ⟨by rfl, ?ty18⟩) (by assumption) ?tr18
          case ty18 => intro w hSw; (try dsimp only at hSw); go_simp; (try with_reducible rfl)
          try simp only [Act.put, List.setIfInBounds_toArray, List.set_cons_zero, List.set_cons_succ, List.getElem_toArray, List.getElem_cons_zero, List.getElem_cons_succ, Nat.zero_add]
          refine wpAnyT_take (i := 3) (v := ?tv19) rfl (by kernel_rfl) (by decide) (by kernel_rfl) (by kernel_rfl) (fun _ _ _ h => h) (Or.inl ⟨by rfl, ?ty19⟩) (by assumption) ?tr19
          case ty19 => intro w hSw; (try dsimp only at hSw); go_simp; (try with_reducible rfl)
          try simp only [Act.put, List.setIfInBounds_toArray, List.set_cons_zero, List.set_cons_succ, List.getElem_toArray, List.getElem_cons_zero, List.getElem_cons_succ, Nat.zero_add]
          refine wpAnyT_take (i := 4) (v := ?tv20) rfl (by kernel_rfl) (by decide) (by kernel_rfl) (by kernel_rfl) (fun _ _ _ h => h) (Or.inl ⟨by rfl, ?ty20⟩) (by assumption) ?tr20
          case ty20 => intro w hSw; (try dsimp only at hSw); go_simp; (try with_reducible rfl)
          try simp only [Act.put, List.setIfInBounds_toArray, List.set_cons_zero, List.set_cons_succ, List.getElem_toArray, List.getElem_cons_zero, List.getElem_cons_succ, Nat.zero_add]
          refine wpAnyT_ready (rs := [5]) (by kernel_rfl) (by kernel_rfl) ?_
          refine AllReadyT.cons rfl (fun K hK => ?_) ?_
          · go_simp
            refine HCLW.out.mono ?_
            rintro e' wc ⟨kvc, rfl, hpc, hrc, hCc0⟩
            have hCc := (chgb (b := b) hdr).trans hCc0
            have q4 := hCc.cell m4b (fun (e : w5.heap.size = b) => by have := HORD.out; omega)
            obtain ⟨ac, cc, rfl, hcc1, hcc2⟩ := hrc.form
            obtain ⟨ps, p1, p2, p3⟩ := (HNRE.out.later hCc (fun q (e : q = b) => by have := HORD.out; omega)).ex
            obtain ⟨qs, q1, q2, q3⟩ := hrc.ex
            have hpl : ps.length = nk := by rw [← HNK.out, ← p1, List.length_map]
            obtain ⟨nc, hnc⟩ : ∃ nc, cs.length = nc := ⟨_, rfl⟩
            have hql : qs.length = nc := by rw [← hnc, ← q1, List.length_map]
            rw [hnc] at hcn3 hcc1 hrc q2 q3 ⊢
            rw [hpl] at p2
            rw [hql] at q2
            have P1 := Lib.hid p1
            have P2 := Lib.hid p2
            have P3 := Lib.hid p3
            have Q1 := Lib.hid q1
            have Q2 := Lib.hid q2
            have Q3 := Lib.hid q3
            have PL := Lib.hid hpl
            have QL := Lib.hid hql
            have HNC := Lib.hid hnc
            have HRCW := Lib.hid hrc
            have HPC := Lib.hid hpc
            have HCC := Lib.hid hCc
            have HSZ0 := Lib.hid hdr.size
            have HSZC := Lib.hid hCc0.size
            clear p1 p2 p3 q1 q2 q3 hpl hql hnc hrc hpc hCc hCc0 HCLW
            refine hK.out _ _ ?_ (fun hHeld => ?_)
            · first | assumption | exact q4d
            clear hK K
            try simp only [Act.put, List.setIfInBounds_toArray, List.set_cons_zero, List.set_cons_succ, List.getElem_toArray, List.getElem_cons_zero, List.getElem_cons_succ, Nat.zero_add]
            refine wpAnyT_ready (rs := [6]) (by kernel_rfl) (by kernel_rfl) ?_
            refine AllReadyT.cons rfl (fun K hK => ?_) ?_
            · refine step_append_rows _ (by rfl) _ _ _ (by rfl) 26 iN _ 5 80 twN hk0 hk1 hk2 hk3 rfl (by omega) (.slice ak nk ck) nk (ps.flatMap ndC5) (by rfl) P2.out 26 (.slice ac nc cc) nc (qs.flatMap ndC5) (by rfl) Q2.out (ones5 Q3.out) (by unfold maxLen; omega) (by omega) _ (by rfl) ?_
              intro ad2 cap2 wd hrow2 hgrow2 hat2
              have hCd : Chg (fun q => (Value.slice ak nk ck).ownBlock = some q) wc wd := (Chg.refl _ wc).grown hgrow2 (fun k _ e => e)
              have hNd := (hCd.blk (HCC.out.blk HNE.out (fun e => by have := HORD.out; omega)) (fun e => by have := HNRE.out.new _ e; omega))
              have q4d := cell_of hNd 4
              have u4d := free_of hNd 4
              have HNRD := Lib.hid (rows_join (H := wc.heap.size) P3.out Q3.out HNRE.out.new HNBB.out (by exact fun k hk => Nat.lt_of_lt_of_le (HNRE.out.lt k hk) HSZ0.out) (by rw [PL.out, QL.out]; exact hrow2) hCd (by exact fun g hg => (hat2 g hg).1) (Nat.le_refl _) HSZC.out)
              rw [P1.out, Q1.out] at HNRD
              have HCD := Lib.hid hCd
              have HND := Lib.hid hNd
              have hc2 : cap2 ≤ 9223372036854775807 := by obtain ⟨_, _, e, _, hm⟩ := hrow2.form; simp only [Value.slice.injEq] at e; obtain ⟨_, _, rfl⟩ := e; unfold maxLen at hm; omega
              have hc3 : nk + nc ≤ cap2 := by obtain ⟨_, _, e, hm, _⟩ := hrow2.form; simp only [Value.slice.injEq] at e; obtain ⟨_, _, rfl⟩ := e; exact hm
              clear hrow2 hgrow2 hat2 hCd hNd
              refine hK.out _ _ ?_ (fun hHeld => ?_)
              · first | assumption | exact q4d
              clear hK K
              try simp only [Act.put, List.setIfInBounds_toArray, List.set_cons_zero, List.set_cons_succ, List.getElem_toArray, List.getElem_cons_zero, List.getElem_cons_succ, Nat.zero_add]
              refine wpAnyT_done (by kernel_rfl) ?_
              simp only [List.drop_succ_cons, List.drop_zero]
              obtain ⟨we, hwe⟩ : ∃ we, wd.setCell ⟨w5.heap.size, 4, none⟩ (.slice ad2 (nk + nc) cap2) = we := ⟨_, rfl⟩
              have hCe : Chg (fun q => q = w5.heap.size) wd we := by rw [← hwe]; exact (Chg.refl (fun q => q = w5.heap.size) wd).set (p := ⟨w5.heap.size, 4, none⟩) (fun _ => rfl) _
              have hNe : we.heap[w5.heap.size]? = some (.cells #[.int .u8 k, .int .i64 0, .string tx, .slice none 0 0, .slice ad2 (nk + nc) cap2] 26) := by rw [← hwe]; exact (blk_set HND.out 4 _).trans rfl
              have nw : ∀ q, (Value.slice ak nk ck).ownBlock = some q → w5.heap.size + 1 ≤ q := HNRE.out.new
              have HPE' := Lib.hid ((HPC.out.chg HCD.out (fun e => by have := HORD.out; have := nw _ e; omega)).chg hCe (fun e => by have := HORD.out; omega))
              have HNE' := Lib.hid hNe
              have HRBE' := Lib.hid (hCe.blk (HCD.out.blk (HCC.out.blk HRBE.out (fun e => by have := HORD.out; omega)) (fun e => by have := HORD.out; have := nw _ e; omega)) (fun e => by have := HORD.out; omega))
              have HSRE' : Hid (SRow we (w5.heap.size + 1) (.slice none 0 0) ns) := Lib.hid (by rw [HNS0.out]; exact SRow.nil _ _)
              have HNRE' := Lib.hid (HNRD.out.later hCe (fun q (e : q = w5.heap.size) => by omega))
              have HCE' := Lib.hid (((HCE.out.trans HCC.out).andThen HCD.out (fun q hq e => by have := HORD.out; have := nw _ e; omega)).andThen hCe (fun q hq (e : q = w5.heap.size) => by have := HORD.out; omega))
              have HAE' : Hid (Amb b v L we) := Lib.hid (HA5.out.later (((HC5E.out.trans HCC.out).andThen HCD.out (fun q hq e => by have := nw _ e; omega)).andThen hCe (fun q hq (e : q = w5.heap.size) => by omega)))
              clear HPE HNE HRBE HSRE HNRE HCE HAE hCe hNe P1 P2 P3 Q1 Q2 Q3 m0 m1 m2 m3 m4 u4 m4b u4b hdr q4 nw
              have HPE := HPE'
              have HNE := HNE'
              have HRBE := HRBE'
              have HSRE := HSRE'
              have HNRE := HNRE'
              have HCE := HCE'
              have HAE := HAE'
              clear HPE' HNE' HRBE' HSRE' HNRE' HCE' HAE'
              have HTK := Lib.hid (take_calls HPE.out HAE.out.tok 2 (by decide) (by have := HLEN.out; omega))
              go_wp2_with fail
              cases htk : takeP L fin 2 i3 with
              | error pq =>
                obtain ⟨p, q⟩ := pq
                have HRE : Hid (RR = .error (p, q)) := Lib.hid (by rw [HRC.out]; unfold closeP; rw [htk])
                rw [htk] at HTK
                refine HTK.out.mono ?_
                rintro e' wz ⟨rfl, hCz⟩
                go_wp2_with fail
                rw [HRE.out]
                exact ⟨rfl, rfl, HCE.out.trans hCz⟩
              | ok uu =>
                have HRE : Hid (RR = .ok (.mk k 0 tx ns (ks ++ cs), i3 + 1, n3)) := Lib.hid (by rw [HRC.out]; unfold closeP; rw [htk])
                rw [htk] at HTK
                refine HTK.out.mono ?_
                rintro e' wz ⟨⟨uv, rfl⟩, hpz, hCz⟩
                have hNz := hCz.blk HNE.out (fun e => by have := HORD.out; omega)
                have hRz := hCz.blk HRBE.out (fun e => by have := HORD.out; omega)
                have n0 := cell_of hNz 0
                have n1 := cell_of hNz 1
                have n2' := cell_of hNz 2
                have n3' := cell_of hNz 3
                have n4 := cell_of hNz 4
                have r0 := cell_of hRz 0
                have r1 := cell_of hRz 1
                have r2 := cell_of hRz 2
                have r3 := cell_of hRz 3
                have r4 := cell_of hRz 4
                have q0 := free_of hRz 0
                have q1 := free_of hRz 1
                have q2 := free_of hRz 2
                have q3 := free_of hRz 3
                have q4 := free_of hRz 4
                have HRZ := Lib.hid hRz
                have HPZ := Lib.hid hpz
                have HCZ := Lib.hid (HCE.out.trans hCz)
                have HNDZ := Lib.hid (node_make (w := w) (k := k) (tx := tx) (by have := HRG.out; omega) (HSRE.out.later hCz (fun q (e : q = b) => by have := HORD.out; omega)) (HNRE.out.later hCz (fun q (e : q = b) => by have := HORD.out; omega)) (by have := HORD.out; omega))
                clear hNz hRz hpz hCz HTK htk
                go_wp2_with fail
                refine bodyPost_ret (results_cell_row rfl _ _ w.heap.size 26 #[.int .u8 k, .int .i64 0, .string tx, .slice none 0 0, .slice ad2 (nk + nc) cap2] (0, 0) _ rfl (end5 (W := wz) HRZ.out _ _ _ _ _) Tryd.underlying26 rfl (by kernel_rfl)) rfl ?_
                rw [HRE.out]
                exact put_ends (x := .mk k 0 tx ns (ks ++ cs)) HPZ.out HCZ.out (HORD.out.1) HNDZ.out
            exact AllReadyT.nil
          exact AllReadyT.nil
      · have HRC : Hid (RR = closeP L fin k tx ns ks i2 n2) := Lib.hid (by rw [HRP.out]; unfold moreKids; rw [if_neg e13])
        have e13i : ¬ (k : Int) = 13 := by omega
        have e13b : ((k : Int) == 13) = false := beq_eq_false_iff_ne.2 e13i
        clear e13
        have HTK := Lib.hid (take_calls HPE.out HAE.out.tok 2 (by decide) (by have := HLEN.out; omega))
        go_wp2_with fail
        cases htk : takeP L fin 2 i2 with
        | error pq =>
          obtain ⟨p, q⟩ := pq
          have HRE : Hid (RR = .error (p, q)) := Lib.hid (by rw [HRC.out]; unfold closeP; rw [htk])
          rw [htk] at HTK
          refine HTK.out.mono ?_
          rintro e' wz ⟨rfl, hCz⟩
          go_wp2_with fail
          rw [HRE.out]
          exact ⟨rfl, rfl, HCE.out.trans hCz⟩
        | ok uu =>
          have HRE : Hid (RR = .ok (.mk k 0 tx ns ks, i2 + 1, n2)) := Lib.hid (by rw [HRC.out]; unfold closeP; rw [htk])
          rw [htk] at HTK
          refine HTK.out.mono ?_
          rintro e' wz ⟨⟨uv, rfl⟩, hpz, hCz⟩
          have hNz := hCz.blk HNE.out (fun e => by have := HORD.out; omega)
          have hRz := hCz.blk HRBE.out (fun e => by have := HORD.out; omega)
          have n0 := cell_of hNz 0
          have n1 := cell_of hNz 1
          have n2' := cell_of hNz 2
          have n3' := cell_of hNz 3
          have n4 := cell_of hNz 4
          have r0 := cell_of hRz 0
          have r1 := cell_of hRz 1
          have r2 := cell_of hRz 2
          have r3 := cell_of hRz 3
          have r4 := cell_of hRz 4
          have q0 := free_of hRz 0
          have q1 := free_of hRz 1
          have q2 := free_of hRz 2
          have q3 := free_of hRz 3
          have q4 := free_of hRz 4
          have HRZ := Lib.hid hRz
          have HPZ := Lib.hid hpz
          have HCZ := Lib.hid (HCE.out.trans hCz)
          have HNDZ := Lib.hid (node_make (w := w) (k := k) (tx := tx) (by have := HRG.out; omega) (HSRE.out.later hCz (fun q (e : q = b) => by have := HORD.out; omega)) (HNRE.out.later hCz (fun q (e : q = b) => by have := HORD.out; omega)) (by have := HORD.out; omega))
          clear hNz hRz hpz hCz HTK htk
          go_wp2_with fail
          refine bodyPost_ret (results_cell_row rfl _ _ w.heap.size 26 #[.int .u8 k, .int .i64 0, .string tx, .slice none 0 0, .slice ak nk ck] (0, 0) _ rfl (end5 (W := wz) HRZ.out _ _ _ _ _) Tryd.underlying26 rfl (by kernel_rfl)) rfl ?_
          rw [HRE.out]
          exact put_ends (x := .mk k 0 tx ns ks) HPZ.out HCZ.out (HORD.out.1) HNDZ.out
end Go.Proofs.YtaklmocjaokkpaaDoor.Tr
