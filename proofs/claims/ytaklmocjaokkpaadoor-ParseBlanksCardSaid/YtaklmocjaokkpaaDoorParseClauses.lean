/- The parser's clauses, walked: it comes to what the plain parser has. Condition: value's contract. -/
import Derived.Test.YtaklmocjaokkpaaDoorParseBracket
namespace Go.Proofs.YtaklmocjaokkpaaDoor.Tr
set_option linter.unusedVariables false
set_option linter.unusedSimpArgs false
open Go.RowKit Go.Shelf Go.Proofs.YtaklmocjaokkpaaDoor.Mem

/-- A row of nodes in new memory; no block of X holds anything of them. -/
structure NRowX (w : World) (B : Nat) (X : Nat → Prop) (v : Value) (ks : List Nd) : Prop where
  ex : ∃ ps : List (Nd × Value × Value), ps.map (fun p => p.1) = ks ∧ RowAt w 26 5 v ps.length (ps.flatMap ndC5) ∧ ∀ p ∈ ps, NdIn (off (fun k => (k < B ∨ v.ownBlock = some k) ∨ X k) w) p.2.1 p.2.2 p.1
  new : ∀ k, v.ownBlock = some k → B ≤ k
  apart : ∀ k, v.ownBlock = some k → ¬ X k
theorem NRowX.nil (w : World) (B : Nat) (X : Nat → Prop) : NRowX w B X (.slice none 0 0) [] := ⟨⟨[], rfl, RowAt.nil _ _ _, fun p h => by cases h⟩, fun k h => (by cases h), fun k h => (by cases h)⟩
theorem NRowX.row {w : World} {B : Nat} {X : Nat → Prop} {v : Value} {ks : List Nd} (h : NRowX w B X v ks) : NRow w B v ks := by
  obtain ⟨ps, h1, h2, h3⟩ := h.ex
  exact ⟨⟨ps, h1, h2, fun p hp => NdIn.keep (keep_offs (F := fun k => (k < B ∨ v.ownBlock = some k) ∨ X k) (Chg.refl _ w) (fun q _ g1 g2 => g1 (.inl g2))) _ _ _ (h3 p hp)⟩, h.new⟩
theorem NRowX.lt {w : World} {B : Nat} {X : Nat → Prop} {v : Value} {ks : List Nd} (h : NRowX w B X v ks) : ∀ k, v.ownBlock = some k → k < w.heap.size := h.row.lt
theorem NRowX.move {F : Nat → Prop} {w w' : World} {B : Nat} {X X' : Nat → Prop} {v : Value} {ks : List Nd} (h : NRowX w B X v ks) (hc : Chg F w w') (hF : ∀ k, F k → k < B ∨ X k) (hX : ∀ k, k < w.heap.size → X' k → X k) : NRowX w' B X' v ks := by
  obtain ⟨ps, h1, h2, h3⟩ := h.ex
  refine ⟨⟨ps, h1, h2.kept hc (fun k hk e => ?_), fun p hp => NdIn.keep (keep_offs (F := fun k => (k < B ∨ v.ownBlock = some k) ∨ X k) (hc.mono (fun k _ e => ?_)) (fun q hq g1 g2 => ?_)) _ _ _ (h3 p hp)⟩, h.new, fun k hk e => h.apart k hk (hX k (h.lt k hk) e)⟩
  · rcases hF k e with g | g
    · have := h.new k hk; omega
    · exact h.apart k hk g
  · rcases hF k e with g | g
    · exact .inl (.inl g)
    · exact .inr g
  · rcases g2 with g2 | g2
    · exact g1 (.inl g2)
    · exact g1 (.inr (hX q hq g2))
/-- One node more, of newer memory than M. -/
theorem row_moreX {B M : Nat} {X : Nat → Prop} {w2 w3 : World} {ks : List Nd} {x : Nd} {nv kv : Value} {ad : Option Addr} {ln cap gg o2 cap2 : Nat} {ps : List (Nd × Value × Value)} (e1 : ps.map (fun p => p.1) = ks) (hl : ps.length = ln)
    (e3 : ∀ p ∈ ps, NdIn (off (fun k => (k < B ∨ (Value.slice ad ln cap).ownBlock = some k) ∨ X k) w2) p.2.1 p.2.2 p.1) (hnew : ∀ k, (Value.slice ad ln cap).ownBlock = some k → B ≤ k) (hap : ∀ k, (Value.slice ad ln cap).ownBlock = some k → ¬ X k)
    (hBM : B ≤ M) (hM : M ≤ w2.heap.size) (hown : ∀ k, (Value.slice ad ln cap).ownBlock = some k → k < M) (hXM : ∀ k, X k → k < M) (hin : NdIn (off (fun k => k < M) w2) nv kv x)
    (hrow3 : RowAt w3 26 5 (.slice (some ⟨gg, o2, none⟩) (ln + 1) cap2) (ln + 1) (ps.flatMap ndC5 ++ [.int .u8 x.kind, .int .i64 x.n, .string x.text, nv, kv]))
    (hg : (w2.alloc (.cells #[.int .u8 x.kind, .int .i64 x.n, .string x.text, nv, kv] 26)).grownBy w3 (Value.slice ad ln cap).ownBlock)
    (hat : (Value.slice ad ln cap).ownBlock = some gg ∨ gg = w2.heap.size + 1) :
    NRowX w3 B X (.slice (some ⟨gg, o2, none⟩) (ln + 1) cap2) (ks ++ [x]) ∧ Chg (fun k => (Value.slice ad ln cap).ownBlock = some k) w2 w3 := by
  have hG : Chg (fun k => (Value.slice ad ln cap).ownBlock = some k) w2 w3 := ((Chg.refl _ w2).alloc _).grown hg (fun k _ e => e)
  have hgg : ∀ q, (Value.slice (some ⟨gg, o2, none⟩) (ln + 1) cap2).ownBlock = some q → gg = q := fun q h => by simpa [Value.ownBlock] using h
  refine ⟨⟨⟨ps ++ [(x, nv, kv)], by simp [e1], ?_, fun p hp => ?_⟩, fun k hk => ?_, fun k hk hx => ?_⟩, hG⟩
  · rw [List.length_append, hl, List.flatMap_append]
    exact hrow3
  · rcases List.mem_append.1 hp with hp | hp
    · refine NdIn.keep (keep_offs (hG.mono (fun k _ e => .inl (.inr e))) (fun q hq g1 g2 => ?_)) _ _ _ (e3 p hp)
      rcases g2 with (g2 | g2) | g2
      · exact g1 (.inl (.inl g2))
      · have e := hgg q g2
        rcases hat with h | h
        · exact g1 (.inl (.inr (by rw [h, e])))
        · omega
      · exact g1 (.inr g2)
    · obtain rfl : p = (x, nv, kv) := by simpa using hp
      refine NdIn.keep (keep_offs (F := fun k => k < M) (hG.mono (fun k _ e => hown k e)) (fun q hq g1 g2 => ?_)) _ _ _ hin
      have g1' : ¬ q < M := g1
      rcases g2 with (g2 | g2) | g2
      · omega
      · have e := hgg q g2
        rcases hat with h | h
        · exact g1' (hown q (by rw [h, e]))
        · omega
      · exact g1' (hXM q g2)
  · have e := hgg k hk
    rcases hat with h | h
    · exact hnew k (by rw [h, e])
    · omega
  · have e := hgg k hk
    rcases hat with h | h
    · exact hap k (by rw [h, e]) hx
    · have := hXM k hx; omega
theorem SRow.stay {F : Nat → Prop} {w w' : World} {B : Nat} {v : Value} {ns : List ByteArray} (h : SRow w B v ns) (hc : Chg F w w') (hF : ∀ k, v.ownBlock = some k → ¬ F k) : SRow w' B v ns := ⟨h.row.kept hc (fun k hk e => hF k hk e), h.new⟩
theorem node_of {W : World} {B k : Nat} {tx : ByteArray} {nsv kv : Value} {ns : List ByteArray} {ks : List Nd} (hk : k < 256) (hs : SRow W B nsv ns) (hr : NRow W B kv ks) : NdIn (off (fun q => q < B) W) nsv kv (.mk k 0 tx ns ks) :=
  NdIn.of hk (show (-9223372036854775808 : Int) ≤ 0 ∧ (0 : Int) ≤ 9223372036854775807 by decide) hs.names hr.kids
theorem body_count {L : List Lx.Tok} {fin : Nat} {val : Nat → Nat → PRes Nd} (hv : Counts val) {k : Nat} {tx : ByteArray} {i n i' n' : Nat} {x : Nd} (h : bodyP L fin val k tx i n = .ok (x, i', n')) (hn : n ≤ 4000) : n ≤ n' ∧ n' ≤ 4000 := by
  unfold bodyP at h
  split at h
  · cases h
  · split at h
    · cases h
    · rename_i ks i2 n2 hp
      have hc := parts_count hv _ _ _ _ _ _ _ hp hn
      unfold closeP at h
      split at h
      · cases h
      · cases h
        simp only [List.length_nil] at hc
        omega
theorem clauses_count {L : List Lx.Tok} {fin : Nat} {dok : Bool} {val : Nat → Nat → PRes Nd} (hv : Counts val) : ∀ (f : Nat) (out ks : List Nd) (ops : List ByteArray) (last i n i' n' : Nat), clausesP L fin dok val f out ops last i n = .ok (ks, i', n') → n ≤ 4000 → n' ≤ 4000 ∧ ks.length + n ≤ n' + out.length := by
  intro f
  induction f with
  | zero => intro out ks ops last i n i' n' h hn; cases h; exact ⟨hn, by omega⟩
  | succ f ih =>
    intro out ks ops last i n i' n' h hn
    rw [clausesP] at h
    rcases hi : L[i]? with _ | t
    · rw [hi] at h; cases h
    · rw [hi] at h
      simp only [] at h
      split at h
      · cases h; exact ⟨hn, by omega⟩
      split at h
      · cases h
      split at h
      · cases h
      rename_i hq
      rcases hj : L[i + 1]? with _ | u
      · rw [hj] at h; cases h
      · rw [hj] at h
        simp only [] at h
        split at h
        · cases h
        split at h
        · cases h
        · split at h
          · cases h
          · rename_i x i2 n2 hb
            have h1 := body_count hv hb (by
              have : ¬ 4000 < n + 1 := fun e => hq (.inl e)
              omega)
            have h2 := ih _ _ _ _ _ _ _ _ h h1.2
            rw [List.length_append, List.length_singleton] at h2
            exact ⟨h2.1, by omega⟩
theorem run_ix17 (w : World) : (Instr.index 68 (.agg #[.int .i64 1, .int .i64 2, .int .i64 0]) (.int .u8 0)).run Tryd.prog w = .ok (.int .i64 1) w := by kernel_rfl
theorem run_ix18 (w : World) : (Instr.index 68 (.agg #[.int .i64 1, .int .i64 2, .int .i64 0]) (.int .u8 1)).run Tryd.prog w = .ok (.int .i64 2) w := by kernel_rfl
theorem run_ix19 (w : World) : (Instr.index 68 (.agg #[.int .i64 1, .int .i64 2, .int .i64 0]) (.int .u8 2)).run Tryd.prog w = .ok (.int .i64 0) w := by kernel_rfl
def bodyK (L : List Lx.Tok) (fin : Nat) (val : Nat → Nat → PRes Nd) (k : Nat) (tx : ByteArray) (n : Nat) (r : Except (Nat × Nat) (List ByteArray × Nat)) : PRes Nd :=
  match r with
  | .error e => .error e
  | .ok (ns, i1) =>
    match partsP L fin val 1 4002 [] i1 n with
    | .error e => .error e
    | .ok (ks, i2, n2) => closeP L fin k tx ns ks i2 n2
section
variable {L : List Lx.Tok} {fin : Nat} {okk : Bool} {val : Nat → Nat → PRes Nd} {k la i n : Nat} {out : List Nd} {ops : List ByteArray} {t u : Lx.Tok}
theorem cl_none (hi : L[i]? = none) : clausesP L fin okk val (k + 1) out ops la i n = .error (fin, 11) := by rw [clausesP, hi]
theorem cl_done (hi : L[i]? = some t) (h : t.kind = 2) : clausesP L fin okk val (k + 1) out ops la i n = .ok (out, i, n) := by
  rw [clausesP, hi]; simp only []; rw [if_pos h]
theorem cl_form (hi : L[i]? = some t) (h : t.kind ≠ 2) (h1 : t.kind ≠ 1) : clausesP L fin okk val (k + 1) out ops la i n = .error (t.at_, 12) := by
  rw [clausesP, hi]; simp only []; rw [if_neg h, if_pos h1]
theorem cl_long (hi : L[i]? = some t) (h1 : t.kind = 1) (hq : 4000 < n + 1 ∨ okk = false) : clausesP L fin okk val (k + 1) out ops la i n = .error (t.at_, 13) := by
  rw [clausesP, hi]; simp only []; rw [if_neg (by omega), if_neg (fun h => h h1), if_pos hq]
theorem cl_short (hi : L[i]? = some t) (h1 : t.kind = 1) (hq : ¬ (4000 < n + 1 ∨ okk = false)) (hj : L[i + 1]? = none) : clausesP L fin okk val (k + 1) out ops la i n = .error (fin, 11) := by
  rw [clausesP, hi]; simp only []; rw [if_neg (by omega), if_neg (fun h => h h1), if_neg hq, hj]
theorem cl_word (hi : L[i]? = some t) (h1 : t.kind = 1) (hq : ¬ (4000 < n + 1 ∨ okk = false)) (hj : L[i + 1]? = some u) {s : ByteArray} (hs : ba u.s = s) (hb : u.kind ≠ 3 ∨ clauseKind s = 0 ∨ clauseKind s < la ∨ (clauseKind s = la ∧ clauseKind s ≠ 18)) : clausesP L fin okk val (k + 1) out ops la i n = .error (u.at_, 12) := by
  rw [clausesP, hi]; simp only []; rw [if_neg (by omega), if_neg (fun h => h h1), if_neg hq, hj]; simp only []; rw [hs, if_pos hb]
theorem cl_go (hi : L[i]? = some t) (h1 : t.kind = 1) (hq : ¬ (4000 < n + 1 ∨ okk = false)) (hj : L[i + 1]? = some u) {s : ByteArray} (hs : ba u.s = s) {K : Nat} (hK : clauseKind s = K) (hb : ¬ (u.kind ≠ 3 ∨ K = 0 ∨ K < la ∨ (K = la ∧ K ≠ 18))) :
    clausesP L fin okk val (k + 1) out ops la i n = match opP L fin K ops (i + 2) with | .error e => .error e | .ok (tx, ops', i1) => match bodyP L fin val K tx i1 (n + 1) with | .error e => .error e | .ok (x, i2, n2) => clausesP L fin okk val k (out ++ [x]) ops' K i2 n2 := by
  rw [clausesP, hi]; simp only []; rw [if_neg (by omega), if_neg (fun h => h h1), if_neg hq, hj]; simp only []; rw [hs, hK, if_neg hb]; rfl
end
set_option maxRecDepth 100000 in
set_option maxHeartbeats 8000000 in
theorem clauses_calls {b fin : Nat} {v : Value} {L : List Lx.Tok} (hf : TokFine L) (deep : Nat) (hd : deep ≤ 61) (val : Nat → Nat → PRes Nd) (hv : deep ≤ 60 → ValOk b v fin L (deep + 1) val) (hvn : Counts val) : ClOk b v fin L deep (clausesP L fin (decide (deep ≤ 60)) val 4002 [] [] 16) := by
  intro i0 n0 w hp ha hn
  obtain ⟨okk, hok⟩ : ∃ okk, decide (deep ≤ 60) = okk := ⟨_, rfl⟩
  rw [hok]
  have HOK := Lib.hid hok
  obtain ⟨RR, hR⟩ : ∃ R, clausesP L fin okk val 4002 [] [] 16 i0 n0 = R := ⟨_, rfl⟩
  rw [hR]
  have HR := Lib.hid hR.symm
  have HP := Lib.hid hp
  have HA := Lib.hid ha
  have HB := Lib.hid hp.lt
  have HVAL := Lib.hid hv
  have HVN := Lib.hid hvn
  have HLEN := Lib.hid hf.1
  have HF := Lib.hid hf
  obtain ⟨iN, hk0, hk1, hk2, hk3⟩ := info_parts infoN
  obtain ⟨iS, hj0, hj1, hj2, hj3⟩ := info_parts infoSP
  have hfl := run_fld0
  have hd0 : (0 : Int) ≤ (deep : Int) := by omega
  have hd1 : (deep : Int) ≤ 61 := by omega
  clear hp ha hv hvn hR hok hf
  go_enter Tryd.func23, Tryd.ntmps23
  go_wp2_with fail
  go_loopg [5, 6, 7] 4003 (fun g ov pv zv wr => ∃ (out : List Nd) (ops : List ByteArray) (i n k ln lo la : Nat) (ad : Option Addr) (cap : Nat) (ado : Option Addr) (capo : Nat), ov = .slice ad ln cap ∧ pv = .slice ado lo capo ∧ zv = .int .u8 (la : Int) ∧ n ≤ 4000 ∧ 4002 ≤ k + n ∧ 4002 ≤ g + n ∧ ln ≤ n ∧ lo ≤ n ∧ 16 ≤ la ∧ la ≤ 19 ∧ Hid (RR = clausesP L fin okk val k out ops la i n) ∧ Hid (out.length = ln ∧ ops.length = lo) ∧ Hid (Psr b v i fin n wr ∧ NRowX wr w.heap.size (fun q => (Value.slice ado lo capo).ownBlock = some q) (.slice ad ln cap) out ∧ SRow wr w.heap.size (.slice ado lo capo) ops ∧ Chg (· = b) w wr))
  case atStart => exact ⟨[], [], i0, n0, 4002, 0, 0, 16, none, 0, none, 0, rfl, rfl, rfl, hn, by omega, by omega, by omega, by omega, by decide, by decide, HR, Lib.hid ⟨rfl, rfl⟩, Lib.hid ⟨HP.out, NRowX.nil _ _ _, SRow.nil _ _, Chg.refl _ _⟩⟩
  case round =>
    obtain ⟨wo, hwo⟩ : ∃ wo, wo = wr := ⟨_, rfl⟩
    subst hwo
    obtain ⟨out, ops, i, n, k, ln, lo, la, ad, cap, ado, capo, rfl, rfl, rfl, hn4, hk, hg, hln, hlo, hla1, hla2, HRK, HLS, HI⟩ := hrel
    obtain ⟨k, rfl⟩ : ∃ q, k = q + 1 := ⟨k - 1, by omega⟩
    obtain ⟨gk', rfl⟩ : ∃ q, gk = q + 1 := ⟨gk - 1, by omega⟩
    have HAO := Lib.hid (HA.out.later HI.out.2.2.2)
    cases hi : L[i]? with
    | none =>
      have HRE : Hid (RR = .error (fin, 11)) := Lib.hid (by rw [HRK.out]; exact cl_none hi)
      have H := Lib.hid (peek_err HI.out.1 HAO.out.tok hi)
      clear hi
      go_wp2_with fail
      refine H.out.mono ?_
      rintro e' w1 ⟨rfl, hC1⟩
      go_wp2_with fail
      rw [HRE.out]
      exact ⟨rfl, rfl, HI.out.2.2.2.trans (chgb hC1)⟩
    | some t =>
      have H := Lib.hid (peek_ok HI.out.1 HAO.out.tok hi)
      have HI0 := Lib.hid hi
      have hilt := (List.getElem?_eq_some_iff.1 hi).1
      have hib : (i : Int) ≤ 1048576 := by have := HLEN.out; omega
      obtain ⟨kd, hkd⟩ : ∃ kd, t.kind = kd := ⟨_, rfl⟩
      have HKD := Lib.hid hkd
      unfold tokV at H
      rw [hkd] at H
      clear hi hilt
      by_cases k2 : kd = 2
      · have HRE : Hid (RR = .ok (out, i, n)) := Lib.hid (by rw [HRK.out]; exact cl_done HI0.out (by rw [hkd, k2]))
        subst k2
        clear hkd
        go_wp2_with fail
        refine H.out.mono ?_
        rintro e' w1 ⟨rfl, hC1⟩
        have HC1 := Lib.hid hC1
        clear hC1 H
        go_wp2_with fail
        go_ret
        rw [HRE.out]
        exact ⟨_, rfl, HI.out.1.chg HC1.out (fun e => e), (HI.out.2.1.row).later HC1.out (fun k e => e.elim), HI.out.2.2.2.trans (chgb HC1.out)⟩
      have hkb2 : ((kd : Int) != 2) = true := bne_iff_ne.2 (by omega)
      go_wp2_with fail
      refine H.out.mono ?_
      rintro e' w1 ⟨rfl, hC1⟩
      have HC1 := Lib.hid hC1
      have HP1 := Lib.hid (HI.out.1.chg hC1 (fun e => e))
      have HA1 := Lib.hid (HAO.out.later (chgb hC1))
      have H2 := Lib.hid (peek_ok HP1.out HA1.out.tok HI0.out)
      unfold tokV at H2
      rw [hkd] at H2
      clear hC1 H
      by_cases k1 : kd = 1
      case neg =>
        have HRE : Hid (RR = .error (t.at_, 12)) := Lib.hid (by rw [HRK.out]; exact cl_form HI0.out (by rw [hkd]; exact k2) (by rw [hkd]; exact k1))
        have hkb1 : ((kd : Int) != 1) = true := bne_iff_ne.2 (by omega)
        have hw12 : wrongP L fin i 12 = (t.at_, 12) := by unfold wrongP; rw [HI0.out]
        have HW12 := Lib.hid hw12
        clear hkd hw12
        go_wp2_with fail
        refine H2.out.mono ?_
        rintro e' w2 ⟨rfl, hC2⟩
        have HC2 := Lib.hid hC2
        have HW := Lib.hid (wrong_calls (HP1.out.chg hC2 (fun e => e)) (HA1.out.later (chgb hC2)).tok 12)
        rw [HW12.out] at HW
        clear hC2 H2
        go_wp2_with fail
        refine HW.out.mono ?_
        rintro e' w3 ⟨rfl, hC3⟩
        go_wp2_with fail
        rw [HRE.out]
        exact ⟨rfl, rfl, HI.out.2.2.2.trans (chgb ((HC1.out.trans HC2.out).trans hC3))⟩
      subst k1
      clear hkb2 k2
      have HK1 := Lib.hid hkd
      clear hkd
      go_wp2_with fail
      refine H2.out.mono ?_
      rintro e' w2 ⟨rfl, hC2⟩
      have HC2 := Lib.hid hC2
      have hp2 := HP1.out.chg hC2 (fun e => e)
      have ha2 := HA1.out.later (chgb hC2)
      have hw13 : wrongP L fin i 13 = (t.at_, 13) := by unfold wrongP; rw [HI0.out]
      have HCT := Lib.hid (count_calls hp2 ha2.tok deep (by omega) (by omega))
      rw [hw13] at HCT
      have HP2 := Lib.hid hp2
      have HA2 := Lib.hid ha2
      clear hC2 hp2 ha2 hw13 H2
      by_cases hq : 4000 < n + 1 ∨ okk = false
      · have HRE : Hid (RR = .error (t.at_, 13)) := Lib.hid (by rw [HRK.out]; exact cl_long HI0.out HK1.out hq)
        have hq2 : 4000 < n + 1 ∨ 60 < deep := by
          rcases hq with h | h
          · exact .inl h
          · exact .inr (by rw [← HOK.out] at h; have := of_decide_eq_false h; omega)
        simp only [if_pos hq2] at HCT
        clear hq hq2
        go_wp2_with fail
        refine HCT.out.mono ?_
        rintro e' w3 ⟨rfl, hC3⟩
        go_wp2_with fail
        rw [HRE.out]
        exact ⟨rfl, rfl, HI.out.2.2.2.trans ((chgb (HC1.out.trans HC2.out)).trans hC3)⟩
      have HQ := Lib.hid hq
      have hq3 : n + 1 ≤ 4000 ∧ deep ≤ 60 := by
        constructor
        · omega
        · have h : ¬ okk = false := fun h => hq (.inr h)
          rw [← HOK.out] at h
          simpa using h
      simp only [if_neg (show ¬ (4000 < n + 1 ∨ 60 < deep) by omega)] at HCT
      clear hq
      have HVL := Lib.hid (HVAL.out hq3.2)
      have hd60 : (deep : Int) ≤ 60 := by omega
      have hn1 := hq3.1
      clear hq3
      go_wp2_with fail
      refine HCT.out.mono ?_
      rintro e' w4 ⟨rfl, hp4, hC4⟩
      obtain ⟨w5, hw5⟩ : ∃ w5, w4.setCell ⟨b, 1, none⟩ (.int .i64 ((i : Int) + 1)) = w5 := ⟨_, rfl⟩
      have hC45 : Chg (fun k => k = b) w4 w5 := by rw [← hw5]; exact (Chg.refl (fun k => k = b) w4).set (p := ⟨b, 1, none⟩) (fun _ => rfl) _
      have hp5 : Psr b v (i + 1) fin (n + 1) w5 := by rw [← hw5]; exact hp4.at_
      have c1 := cell_of hp4 1
      have f1 := free_of hp4 1
      have hCo5 := (chgb (b := b) (HC1.out.trans HC2.out)).trans (hC4.trans hC45)
      obtain ⟨w6, hw6⟩ : ∃ w6, w5.alloc (.cells #[.int .u8 0, .int .i64 0, .string ⟨#[]⟩, .slice none 0 0, .slice none 0 0] 26) = w6 := ⟨_, rfl⟩
      have hC56 : Chg (fun _ => False) w5 w6 := by rw [← hw6]; exact (Chg.refl _ w5).alloc _
      have hN6 : w6.heap[w5.heap.size]? = some (.cells #[.int .u8 0, .int .i64 0, .string ⟨#[]⟩, .slice none 0 0, .slice none 0 0] 26) := by rw [← hw6]; exact blk_new w5 _
      have HCO6 := Lib.hid (hCo5.trans (chgb hC56))
      have HN6 := Lib.hid hN6
      have HP6 := Lib.hid (hp5.chg hC56 (fun e => e))
      have HA6 := Lib.hid (HA.out.later (HI.out.2.2.2.trans HCO6.out))
      have HORD : Hid (b < w.heap.size ∧ w.heap.size ≤ wo.heap.size ∧ wo.heap.size ≤ w5.heap.size) := Lib.hid ⟨HB.out, HI.out.2.2.2.size, hCo5.size⟩
      have HS6 := Lib.hid (lt_of_block hN6)
      have HW6 := Lib.hid hw6
      clear hw6 hp4 hC4 hC45 hp5 hCo5 hC56 hN6 HCT HP2 HA2 HP1 HA1 HC1 HC2 HAO
      cases hj : L[i + 1]? with
      | none =>
        have HRE : Hid (RR = .error (fin, 11)) := Lib.hid (by rw [HRK.out]; exact cl_short HI0.out HK1.out HQ.out hj)
        have H3 := Lib.hid (peek_err HP6.out HA6.out.tok hj)
        clear hj
        go_wp2_with fail
        rw [HW6.out]
        refine H3.out.mono ?_
        rintro e' w7 ⟨rfl, hC7⟩
        go_wp2_with fail
        rw [HRE.out]
        exact ⟨rfl, rfl, (HI.out.2.2.2.trans HCO6.out).trans (chgb hC7)⟩
      | some u =>
        have H3 := Lib.hid (peek_ok HP6.out HA6.out.tok hj)
        have HJ0 := Lib.hid hj
        obtain ⟨s, hs⟩ : ∃ s, ba u.s = s := ⟨_, rfl⟩
        obtain ⟨ku, hku⟩ : ∃ ku, u.kind = ku := ⟨_, rfl⟩
        have HSS := Lib.hid hs
        have HKU := Lib.hid hku
        obtain ⟨z, hz⟩ : ∃ z : Int, (ku : Int) = z := ⟨_, rfl⟩
        have HZ := Lib.hid hz
        unfold tokV at H3
        rw [hs, hku, hz] at H3
        clear hj hs hku hz
        go_wp2_with fail
        rw [HW6.out]
        refine H3.out.mono ?_
        rintro e' w7 ⟨rfl, hC7⟩
        obtain ⟨w8, hw8⟩ : ∃ w8, w7.alloc (.cells #[.int .u8 z, .string s, .int .i64 u.n, .int .i64 u.at_] 48) = w8 := ⟨_, rfl⟩
        have hC8 : Chg (fun _ => False) w6 w8 := by rw [← hw8]; exact hC7.alloc _
        have hb8 : w8.heap[w7.heap.size]? = some (.cells #[.int .u8 z, .string s, .int .i64 u.n, .int .i64 u.at_] 48) := by rw [← hw8]; exact blk_new w7 _
        have HT7 := Lib.hid (show w5.heap.size < w7.heap.size by have := HS6.out; have := hC7.size; omega)
        have HB8 := Lib.hid hb8
        have hN8 := hC8.blk HN6.out (fun e => e)
        have HN8 := Lib.hid hN8
        have HP8 := Lib.hid (HP6.out.chg hC8 (fun e => e))
        have HCO8 := Lib.hid (HCO6.out.trans (chgb hC8))
        have HA8 := Lib.hid (HA6.out.later (chgb hC8))
        have hw12 : wrongP L fin (i + 1) 12 = (u.at_, 12) := by unfold wrongP; rw [HJ0.out]
        have HW12 := Lib.hid hw12
        have g0 := cell_of hb8 0
        have g1 := cell_of hb8 1
        have x0 := cell_of hN8 0
        have u0 := free_of hN8 0
        clear hC7 hC8 hb8 hN8 hw12 H3 HN6 HP6 HCO6 HA6 HS6
        by_cases k3 : ku = 3
        case neg =>
          have HRE : Hid (RR = .error (u.at_, 12)) := Lib.hid (by rw [HRK.out]; exact cl_word HI0.out HK1.out HQ.out HJ0.out HSS.out (.inl (by rw [HKU.out]; exact k3)))
          have hz4 : (z != 3) = true := bne_iff_ne.2 (by have := HZ.out; omega)
          have HW := Lib.hid (wrong_calls HP8.out HA8.out.tok 12)
          rw [HW12.out] at HW
          clear k3
          go_wp2_with fail
          refine HW.out.mono ?_
          rintro e' w9 ⟨rfl, hC9⟩
          go_wp2_with fail
          rw [HRE.out]
          exact ⟨rfl, rfl, (HI.out.2.2.2.trans HCO8.out).trans (chgb hC9)⟩
        obtain rfl : z = 3 := by rw [← HZ.out, k3]; rfl
        have HU3 : Hid (u.kind = 3) := Lib.hid (by rw [HKU.out, k3])
        clear k3
        by_cases s1 : s = wReturn
        case pos =>
          have HKK : Hid (clauseKind s = 17) := Lib.hid (by rw [s1]; rfl)
          obtain ⟨w9, hw9⟩ : ∃ w9, w8.setCell ⟨w5.heap.size, 0, none⟩ (.int .u8 17) = w9 := ⟨_, rfl⟩
          have hC9 : Chg (fun q => q = w5.heap.size) w8 w9 := by rw [← hw9]; exact (Chg.refl (fun q => q = w5.heap.size) w8).set (p := ⟨w5.heap.size, 0, none⟩) (fun _ => rfl) _
          have hN9 : w9.heap[w5.heap.size]? = some (.cells #[.int .u8 17, .int .i64 0, .string ⟨#[]⟩, .slice none 0 0, .slice none 0 0] 26) := by rw [← hw9]; exact (blk_set HN8.out 0 _).trans rfl
          have HN9 := Lib.hid hN9
          have hp9 := HP8.out.chg hC9 (fun e => by have := HORD.out; omega)
          have HP9 := Lib.hid hp9
          have HCO9 := Lib.hid (HCO8.out.andThen hC9 (fun q hq (e : q = w5.heap.size) => by have := HORD.out; omega))
          have HA9 := Lib.hid (HA.out.later (HI.out.2.2.2.trans HCO9.out))
          have y0 := cell_of hN9 0
          have y1 := cell_of hN9 1
          have y2 := cell_of hN9 2
          have y3 := cell_of hN9 3
          have y4 := cell_of hN9 4
          have v2 := free_of hN9 2
          obtain rfl : ⟨#[114, 101, 116, 117, 114, 110]⟩ = s := s1.symm
          clear hC9 hN9 HN8 HP8 HCO8 HA8 s1
          by_cases hbad : la ≠ 16
          · have HRE : Hid (RR = .error (u.at_, 12)) := Lib.hid (by rw [HRK.out]; exact cl_word HI0.out HK1.out HQ.out HJ0.out HSS.out (.inr (.inr (by rw [HKK.out]; omega))))
            have HW := Lib.hid (wrong_calls hp9 HA9.out.tok 12)
            rw [HW12.out] at HW
            clear hp9
            have hbl : ((17 : Int) < (la : Int)) ∨ (la : Int) = 17 := by omega
            rcases hbl with hbl | hbl
            · have hbl := hbl
              go_wp2_with fail
              refine HW.out.mono ?_
              rintro e' w11 ⟨rfl, hC11⟩
              go_wp2_with fail
              rw [HRE.out]
              exact ⟨rfl, rfl, (HI.out.2.2.2.trans HCO9.out).trans (chgb hC11)⟩
            · have hbe : ((17 : Int) == (la : Int)) = true := by rw [hbl]; rfl
              have hnl : ¬ (17 : Int) < (la : Int) := by omega
              go_wp2_with fail
              refine HW.out.mono ?_
              rintro e' w11 ⟨rfl, hC11⟩
              go_wp2_with fail
              rw [HRE.out]
              exact ⟨rfl, rfl, (HI.out.2.2.2.trans HCO9.out).trans (chgb hC11)⟩
          have HRG := Lib.hid (cl_go (fin := fin) (val := val) (k := k) (la := la) (out := out) (ops := ops) HI0.out HK1.out HQ.out HJ0.out HSS.out HKK.out (fun h => by
            rcases h with h | h | h | h
            · exact h HU3.out
            · omega
            · omega
            · omega))
          rw [← HRK.out] at HRG
          obtain rfl : la = 16 := by omega
          obtain ⟨w10, hw10⟩ : ∃ w10, w9.setCell ⟨b, 1, none⟩ (.int .i64 (((i + 1 : Nat) : Int) + 1)) = w10 := ⟨_, rfl⟩
          have hC10 : Chg (fun q => q = b) w9 w10 := by rw [← hw10]; exact (Chg.refl (fun q => q = b) w9).set (p := ⟨b, 1, none⟩) (fun _ => rfl) _
          have hp10 : Psr b v (i + 1 + 1) fin (n + 1) w10 := by rw [← hw10]; exact hp9.at_
          have c1' := cell_of hp9 1
          have f1' := free_of hp9 1
          have hcs : ((i + 1 : Nat) : Int) = (i : Int) + 1 := by push_cast; rfl
          simp only [hcs] at c1' hw10
          have hN10 := hC10.blk HN9.out (fun e => by have := HORD.out; omega)
          have HCO10 := Lib.hid (HCO9.out.trans hC10)
          clear hp9 hcs HP9 HCO9 HA9 hbad c1 f1
          obtain ⟨wA, hwA⟩ : ∃ wA, wA = w10 := ⟨_, rfl⟩
          subst hwA
          obtain ⟨j0, hj0'⟩ : ∃ j0, i + 1 + 1 = j0 := ⟨_, rfl⟩
          rw [hj0'] at hp10
          have HRG2 : Hid (RR = match bodyP L fin val 17 ⟨#[]⟩ j0 (n + 1) with | .error e => .error e | .ok (x, i2, n2) => clausesP L fin okk val k (out ++ [x]) ops 17 i2 n2) := Lib.hid (by rw [HRG.out, ← hj0']; rfl)
          have HPA := Lib.hid hp10
          have HNA := Lib.hid hN10
          have HSA := Lib.hid (HI.out.2.2.1.later HCO10.out (fun q (e : q = b) => by have := HORD.out; omega))
          have HCA := Lib.hid (HI.out.2.2.2.trans HCO10.out)
          have HXA : Hid (Chg (fun q => q = b ∨ (Value.slice ado lo capo).ownBlock = some q) wo wA) := Lib.hid (HCO10.out.mono (fun q _ e => .inl e))
          have HOA : Hid (∀ q, q < wo.heap.size → (Value.slice ado lo capo).ownBlock = some q → (Value.slice ado lo capo).ownBlock = some q) := Lib.hid (fun q _ e => e)
          have HNO : Hid (∀ q, (Value.slice ado lo capo).ownBlock = some q → q ≠ w5.heap.size) := Lib.hid (fun q e h => by have := HI.out.2.2.1.row.lt q e; have := HORD.out; omega)
          have HOL : Hid (ops.length = lo) := Lib.hid HLS.out.2
          clear hC10 hp10 hN10 hj0' HRG HCO10
          have HRG := HRG2
          clear HRG2
          obtain ⟨M, hM⟩ : ∃ M, wA.heap.size = M := ⟨_, rfl⟩
          have HORD2 : Hid (w5.heap.size < M) := Lib.hid (by rw [← hM]; exact lt_of_block HNA.out)
          have HMA := Lib.hid hM
          have HOLT : Hid (∀ q, (.slice ado lo capo : Value).ownBlock = some q → q < M) := Lib.hid (by rw [← hM]; exact HSA.out.row.lt)
          obtain ⟨SR, hSR⟩ : ∃ SR, someP L fin 1 [] j0 = SR := ⟨_, rfl⟩
          have HSR0 := Lib.hid hSR.symm
          have HBD : Hid (bodyP L fin val 17 ⟨#[]⟩ j0 (n + 1) = bodyK L fin val 17 ⟨#[]⟩ (n + 1) SR) := Lib.hid (by rw [← hSR]; rfl)
          have HST : Hid (Psr b v j0 fin (n + 1) wA ∧ (wA.heap[w5.heap.size]? = some (.cells #[.int .u8 17, .int .i64 0, .string ⟨#[]⟩, .slice none 0 0, .slice none 0 0] 26)) ∧ SRow wA w.heap.size (.slice ado lo capo) ops ∧ Chg (· = b) w wA ∧ Chg (fun q => q = b ∨ (Value.slice ado lo capo).ownBlock = some q) wo wA) := Lib.hid ⟨HPA.out, HNA.out, HSA.out, HCA.out, HXA.out⟩
          have xA0 := cell_of HNA.out 0
          have hix := run_ix17
          clear hM hSR HPA HNA HSA HCA HXA
          go_wp2_with fail
          go_loopg [103] 2 (fun g jv wr => ∃ (ns : List ByteArray) (j1 kk l1 : Nat) (ad1 : Option Addr) (c1 : Nat), jv = .int .i64 (l1 : Int) ∧ kk + l1 = 1 ∧ 2 ≤ g + l1 ∧ c1 ≤ 9223372036854775807 ∧ l1 ≤ c1 ∧ M ≤ wr.heap.size ∧ Hid (SR = someP L fin kk ns j1) ∧ Hid (ns.length = l1 ∧ SRow wr M (.slice ad1 l1 c1) ns) ∧ Hid (Psr b v j1 fin (n + 1) wr ∧ (wr.heap[w5.heap.size]? = some (.cells #[.int .u8 17, .int .i64 0, .string ⟨#[]⟩, .slice ad1 l1 c1, .slice none 0 0] 26)) ∧ SRow wr w.heap.size (.slice ado lo capo) ops ∧ Chg (· = b) w wr ∧ Chg (fun q => q = b ∨ (Value.slice ado lo capo).ownBlock = some q) wo wr))
          case atStart => exact ⟨[], j0, 1, 0, none, 0, rfl, rfl, by omega, by decide, by decide, by rw [HMA.out]; exact Nat.le_refl _, HSR0, Lib.hid ⟨rfl, SRow.nil _ _⟩, HST⟩
          case round =>
            obtain ⟨ns, j1, kk, l1, ad1, c1, rfl, hkk, hgk, hcc1, hcc2, hMw, HSRk, HS, HI2⟩ := hrel
            obtain ⟨gj', rfl⟩ : ∃ q, gk = q + 1 := ⟨gk - 1, by omega⟩
            have hl1 : l1 ≤ 1 := by omega
            have HAR := Lib.hid (HA.out.later HI2.out.2.2.2.1)
            have HMW := Lib.hid hMw
            by_cases hlt : (l1 : Int) < 1
            · obtain ⟨kk, rfl⟩ : ∃ q, kk = q + 1 := ⟨kk - 1, by omega⟩
              have hl4 : l1 < 1 := by omega
              have HNN : Hid (SR = match nameP L fin ns j1 with | .error e => .error e | .ok s2 => someP L fin kk (ns ++ [s2]) (j1 + 1)) := Lib.hid (by rw [HSRk.out, someP]; try rfl)
              obtain ⟨wq, hwq⟩ : ∃ wq, wq = wr := ⟨_, rfl⟩
              subst hwq
              have hdr : Chg (fun _ => False) wq wq.drew := (Chg.refl _ wq).drew
              have hX := chgb (b := b) hdr
              have HSRQ := Lib.hid (HS.out.2.later hX (fun q (e : q = b) => by have := HORD.out; have := HORD2.out; omega))
              have HLN := Lib.hid HS.out.1
              have HMQ := Lib.hid hMw
              have HNW := Lib.hid (name_calls (HI2.out.1.chg hdr (fun e => e)) (HAR.out.later hX).tok ns (.slice ad1 l1 c1) (HSRQ.out.names.keep (keep_off _ _)) (by have := HLEN.out; omega))
              have HNQ := Lib.hid HI2.out.2.1
              have x3 := cell_of HNQ.out 3
              clear hX
              go_wp2_with fail
              cases hn2 : nameP L fin ns j1 with
              | error pq =>
                obtain ⟨p, q⟩ := pq
                rw [hn2] at HNW
                refine wp_region_T (S := fun W => W.cell? ⟨w5.heap.size, 3, none⟩ = some (.slice ad1 l1 c1)) 8 2 rfl (by kernel_rfl) ?_ (fun hHeld => ?_)
                · exact hdr.cell x3 (fun e => e)
                refine wpAnyT_take (i := 0) (v := ?tv1) rfl (by kernel_rfl) (by decide) (by kernel_rfl) (by kernel_rfl) (fun _ _ _ h => h) (Or.inl ⟨by rfl, ?ty1⟩) (by assumption) ?tr1
                case ty1 => intro w hSw; (try dsimp only at hSw); go_simp; (try with_reducible rfl)
                try simp only [Act.put, List.setIfInBounds_toArray, List.set_cons_zero, List.set_cons_succ, List.getElem_toArray, List.getElem_cons_zero, List.getElem_cons_succ, Nat.zero_add]
                refine wpAnyT_take (i := 1) (v := ?tv2) rfl (by kernel_rfl) (by decide) (by kernel_rfl) (by kernel_rfl) (fun _ _ _ h => h) (Or.inl ⟨by rfl, ?ty2⟩) (by assumption) ?tr2
                case ty2 => intro w hSw; (try dsimp only at hSw); go_simp; (try with_reducible rfl)
                try simp only [Act.put, List.setIfInBounds_toArray, List.set_cons_zero, List.set_cons_succ, List.getElem_toArray, List.getElem_cons_zero, List.getElem_cons_succ, Nat.zero_add]
                refine wpAnyT_take (i := 2) (v := ?tv3) rfl (by kernel_rfl) (by decide) (by kernel_rfl) (by kernel_rfl) (fun _ _ _ h => h) (Or.inl ⟨by rfl, ?ty3⟩) (by assumption) ?tr3
                case ty3 => intro w hSw; (try dsimp only at hSw); go_simp; (try with_reducible rfl)
                try simp only [Act.put, List.setIfInBounds_toArray, List.set_cons_zero, List.set_cons_succ, List.getElem_toArray, List.getElem_cons_zero, List.getElem_cons_succ, Nat.zero_add]
                refine wpAnyT_take (i := 3) (v := ?tv4) rfl (by kernel_rfl) (by decide) (by kernel_rfl) (by kernel_rfl) (fun _ _ _ h => h) (Or.inl ⟨by rfl, ?ty4⟩) (by assumption) ?tr4
                case ty4 => intro w hSw; (try dsimp only at hSw); go_simp; (try with_reducible rfl)
                try simp only [Act.put, List.setIfInBounds_toArray, List.set_cons_zero, List.set_cons_succ, List.getElem_toArray, List.getElem_cons_zero, List.getElem_cons_succ, Nat.zero_add]
                refine wpAnyT_take (i := 4) (v := ?tv5) rfl (by kernel_rfl) (by decide) (by kernel_rfl) (by kernel_rfl) (fun _ _ _ h => h) (Or.inl ⟨by rfl, ?ty5⟩) (by assumption) ?tr5
                case ty5 => intro w hSw; (try dsimp only at hSw); go_simp; (try with_reducible rfl)
                try simp only [Act.put, List.setIfInBounds_toArray, List.set_cons_zero, List.set_cons_succ, List.getElem_toArray, List.getElem_cons_zero, List.getElem_cons_succ, Nat.zero_add]
                refine wpAnyT_ready (rs := [5]) (by kernel_rfl) (by kernel_rfl) ?_
                refine AllReadyT.cons rfl (fun K hK => ?_) ?_
                · go_simp
                  refine HNW.out.mono ?_
                  rintro e' wc ⟨rfl, hCc⟩
                  have HRE : Hid (RR = .error (p, q)) := Lib.hid (by rw [HRG.out, HBD.out, HNN.out, hn2]; try rfl)
                  go_wp2_with fail
                  rw [HRE.out]
                  exact ⟨rfl, rfl, HI2.out.2.2.2.1.trans ((chgb hdr).trans hCc)⟩
                exact AllReadyT.nil
              | ok s2 =>
                rw [hn2] at HNW
                refine wp_region_T (S := fun W => W.cell? ⟨w5.heap.size, 3, none⟩ = some (.slice ad1 l1 c1)) 8 2 rfl (by kernel_rfl) ?_ (fun hHeld => ?_)
                · exact hdr.cell x3 (fun e => e)
                refine wpAnyT_take (i := 0) (v := ?tv6) rfl (by kernel_rfl) (by decide) (by kernel_rfl) (by kernel_rfl) (fun _ _ _ h => h) (Or.inl ⟨by rfl, ?ty6⟩) (by assumption) ?tr6
                case ty6 => intro w hSw; (try dsimp only at hSw); go_simp; (try with_reducible rfl)
                try simp only [Act.put, List.setIfInBounds_toArray, List.set_cons_zero, List.set_cons_succ, List.getElem_toArray, List.getElem_cons_zero, List.getElem_cons_succ, Nat.zero_add]
                refine wpAnyT_take (i := 1) (v := ?tv7) rfl (by kernel_rfl) (by decide) (by kernel_rfl) (by kernel_rfl) (fun _ _ _ h => h) (Or.inl ⟨by rfl, ?ty7⟩) (by assumption) ?tr7
                case ty7 => intro w hSw; (try dsimp only at hSw); go_simp; (try with_reducible rfl)
                try simp only [Act.put, List.setIfInBounds_toArray, List.set_cons_zero, List.set_cons_succ, List.getElem_toArray, List.getElem_cons_zero, List.getElem_cons_succ, Nat.zero_add]
                refine wpAnyT_take (i := 2) (v := ?tv8) rfl (by kernel_rfl) (by decide) (by kernel_rfl) (by kernel_rfl) (fun _ _ _ h => h) (Or.inl ⟨by rfl, ?ty8⟩) (by assumption) ?tr8
                case ty8 => intro w hSw; (try dsimp only at hSw); go_simp; (try with_reducible rfl)
                try simp only [Act.put, List.setIfInBounds_toArray, List.set_cons_zero, List.set_cons_succ, List.getElem_toArray, List.getElem_cons_zero, List.getElem_cons_succ, Nat.zero_add]
                refine wpAnyT_take (i := 3) (v := ?tv9) rfl (by kernel_rfl) (by decide) (by kernel_rfl) (by kernel_rfl) (fun _ _ _ h => h) (Or.inl ⟨by rfl, ?ty9⟩) (by assumption) ?tr9
                case ty9 => intro w hSw; (try dsimp only at hSw); go_simp; (try with_reducible rfl)
                try simp only [Act.put, List.setIfInBounds_toArray, List.set_cons_zero, List.set_cons_succ, List.getElem_toArray, List.getElem_cons_zero, List.getElem_cons_succ, Nat.zero_add]
                refine wpAnyT_take (i := 4) (v := ?tv10) rfl (by kernel_rfl) (by decide) (by kernel_rfl) (by kernel_rfl) (fun _ _ _ h => h) (Or.inl ⟨by rfl, ?ty10⟩) (by assumption) ?tr10
                case ty10 => intro w hSw; (try dsimp only at hSw); go_simp; (try with_reducible rfl)
                try simp only [Act.put, List.setIfInBounds_toArray, List.set_cons_zero, List.set_cons_succ, List.getElem_toArray, List.getElem_cons_zero, List.getElem_cons_succ, Nat.zero_add]
                refine wpAnyT_ready (rs := [5]) (by kernel_rfl) (by kernel_rfl) ?_
                refine AllReadyT.cons rfl (fun K hK => ?_) ?_
                · go_simp
                  refine HNW.out.mono ?_
                  rintro e' wc ⟨rfl, hpc, hCc0⟩
                  have hCc := (chgb (b := b) hdr).trans hCc0
                  have q3 := hCc.cell x3 (fun (e : w5.heap.size = b) => by have := HORD.out; omega)
                  have HSRC := Lib.hid (HSRQ.out.later hCc0 (fun q (e : q = b) => by have := HORD.out; have := HORD2.out; omega))
                  have HPC := Lib.hid hpc
                  have HCC := Lib.hid hCc
                  have hrc := HSRC.out.row
                  rw [HLN.out] at hrc
                  have HRC0 := Lib.hid hrc
                  clear hrc hpc hCc hCc0 HNW
                  refine hK.out _ _ ?_ (fun hHeld => ?_)
                  · first | assumption | exact q3d | exact cell_alSP _ q3
                  clear hK K
                  try simp only [Act.put, List.setIfInBounds_toArray, List.set_cons_zero, List.set_cons_succ, List.getElem_toArray, List.getElem_cons_zero, List.getElem_cons_succ, Nat.zero_add]
                  refine wpAnyT_ready (rs := [6]) (by kernel_rfl) (by kernel_rfl) ?_
                  refine AllReadyT.cons rfl (fun K hK => ?_) ?_
                  · go_simp
                    refine hK.out _ _ ?_ (fun hHeld => ?_)
                    · first | assumption | exact q3d | exact cell_alSP _ q3
                    clear hK K
                    try simp only [Act.put, List.setIfInBounds_toArray, List.set_cons_zero, List.set_cons_succ, List.getElem_toArray, List.getElem_cons_zero, List.getElem_cons_succ, Nat.zero_add]
                    refine wpAnyT_ready (rs := [7]) (by kernel_rfl) (by kernel_rfl) ?_
                    refine AllReadyT.cons rfl (fun K hK => ?_) ?_
                    · refine step_append_row _ (by rfl) _ _ _ (by rfl) 9 iS _ 1 16 twSP hj0 hj1 hj2 hj3 rfl (by omega) (.slice ad1 l1 c1) l1 (ns.map Value.string) (by rfl) (HRC0.out.kept ?nc (fun _ _ h => h)) ⟨wc.heap.size, 0, none⟩ 1 1 [.string s2] (by rfl) rfl ?nb ?ny (by decide) (by unfold maxLen; omega) (by omega) _ (by rfl) ?_
                      case nb => exact news_oneP (new_atSP _ _ _ (by simp))
                      case ny => intro u hu; simp only [List.mem_cons, List.not_mem_nil, or_false] at hu; subst hu; rfl
                      case nc => (repeat (first | exact Chg.refl _ _ | apply Chg.alloc | apply Chg.drew | apply Chg.drewN))
                      intro gg off2 cap2 wd hrow2 hgrow2 hat2 hlt2
                      have hCd : Chg (fun q => (Value.slice ad1 l1 c1).ownBlock = some q) wc wd := (by refine Chg.grown ?_ hgrow2 (fun k hk e => e); (repeat (first | exact Chg.refl _ _ | apply Chg.alloc | apply Chg.drew | apply Chg.drewN)))
                      have nw : ∀ q, (Value.slice ad1 l1 c1).ownBlock = some q → M ≤ q := HSRC.out.new
                      have q3d := hCd.cell q3 (fun e => by have h : M ≤ w5.heap.size := nw _ e; have := HORD2.out; omega)
                      have hNd := hCd.blk (HCC.out.blk HNQ.out (fun e => by have := HORD.out; omega)) (fun e => by have := nw _ e; have := HORD2.out; omega)
                      have u3d := free_of hNd 3
                      have hc2 : cap2 ≤ 9223372036854775807 ∧ l1 + 1 ≤ cap2 := by obtain ⟨_, _, e, hm0, hm⟩ := hrow2.form; simp only [Value.slice.injEq] at e; obtain ⟨_, _, rfl⟩ := e; unfold maxLen at hm; omega
                      have HSRD := Lib.hid (HSRC.out.snoc (H := wc.heap.size + 1) HLN.out hrow2 (fun g hg => by rcases hat2 with e | e; (left; rw [e]; exact hg); (right; have e2 : gg = g := (by simpa [Value.ownBlock] using hg); rw [← e2, e]; simp)) (by have := HORD2.out; have := HMQ.out; have := HCC.out.size; omega))
                      have HCD := Lib.hid hCd
                      have HND := Lib.hid hNd
                      have HNW2 := Lib.hid nw
                      clear hrow2 hgrow2 hat2 hCd hNd hlt2 nw
                      refine hK.out _ _ ?_ (fun hHeld => ?_)
                      · first | assumption | exact q3d | exact cell_alSP _ q3
                      clear hK K
                      try simp only [Act.put, List.setIfInBounds_toArray, List.set_cons_zero, List.set_cons_succ, List.getElem_toArray, List.getElem_cons_zero, List.getElem_cons_succ, Nat.zero_add]
                      refine wpAnyT_done (by kernel_rfl) ?_
                      simp only [List.drop_succ_cons, List.drop_zero]
                      obtain ⟨we, hwe⟩ : ∃ we, wd.setCell ⟨w5.heap.size, 3, none⟩ (.slice (some ⟨gg, off2, none⟩) (l1 + 1) cap2) = we := ⟨_, rfl⟩
                      have hCe : Chg (fun q => q = w5.heap.size) wd we := by rw [← hwe]; exact (Chg.refl (fun q => q = w5.heap.size) wd).set (p := ⟨w5.heap.size, 3, none⟩) (fun _ => rfl) _
                      have hNe : we.heap[w5.heap.size]? = some (.cells #[.int .u8 17, .int .i64 0, .string ⟨#[]⟩, .slice (some ⟨gg, off2, none⟩) (l1 + 1) cap2, .slice none 0 0] 26) := by rw [← hwe]; exact (blk_set HND.out 3 _).trans rfl
                      have HRE : Hid (SR = someP L fin kk (ns ++ [s2]) (j1 + 1)) := Lib.hid (by rw [HNN.out, hn2])
                      have HSO1 : Hid (SRow we w.heap.size (.slice ado lo capo) ops) := Lib.hid (((HI2.out.2.2.1.later HCC.out (fun q (e : q = b) => by have := HORD.out; omega)).stay HCD.out (fun q hq e => by have := HOLT.out q hq; have := HNW2.out _ e; omega)).stay hCe (fun q hq (e : q = w5.heap.size) => HNO.out q hq e))
                      have HZ : Hid (Psr b v (j1 + 1) fin (n + 1) we ∧ (we.heap[w5.heap.size]? = some (.cells #[.int .u8 17, .int .i64 0, .string ⟨#[]⟩, .slice (some ⟨gg, off2, none⟩) (l1 + 1) cap2, .slice none 0 0] 26)) ∧ SRow we w.heap.size (.slice ado lo capo) ops ∧ Chg (· = b) w we ∧ Chg (fun q => q = b ∨ (Value.slice ado lo capo).ownBlock = some q) wo we) := Lib.hid ⟨(HPC.out.chg HCD.out (fun e => by have := HORD.out; have := HORD2.out; have := HNW2.out _ e; omega)).chg hCe (fun e => by have := HORD.out; omega), hNe, HSO1.out, ((HI2.out.2.2.2.1.trans HCC.out).andThen HCD.out (fun q hq e => by have := HORD.out; have := HORD2.out; have := HNW2.out _ e; omega)).andThen hCe (fun q hq (e : q = w5.heap.size) => by have := HORD.out; omega), ((HI2.out.2.2.2.2.trans (HCC.out.mono (fun q _ e => .inl e))).andThen HCD.out (fun q hq e => by have := HORD.out; have := HORD2.out; have := HNW2.out _ e; omega)).andThen hCe (fun q hq (e : q = w5.heap.size) => by have := HORD.out; omega)⟩
                      have HZS : Hid ((ns ++ [s2]).length = l1 + 1 ∧ SRow we M (.slice (some ⟨gg, off2, none⟩) (l1 + 1) cap2) (ns ++ [s2])) := Lib.hid ⟨by rw [List.length_append, HLN.out]; rfl, HSRD.out.later hCe (fun q (e : q = w5.heap.size) => by have := HORD2.out; omega)⟩
                      have hMe : M ≤ we.heap.size := by have := HMQ.out; have := HCC.out.size; have := HCD.out.size; have := hCe.size; omega
                      clear hCe hNe x3 q3 hdr hn2 HSO1
                      go_wp2_with fail
                      go_roundg gj'
                      case measure => omega
                      case rel => exact ⟨ns ++ [s2], j1 + 1, kk, l1 + 1, _, _, by push_cast; rfl, by omega, by omega, hc2.1, hc2.2, hMe, HRE, HZS, HZ⟩
                    exact AllReadyT.nil
                  exact AllReadyT.nil
                exact AllReadyT.nil
            · have hkk0 : kk = 0 := by omega
              obtain rfl : l1 = 1 := by omega
              have HSRO : Hid (SR = .ok (ns, j1)) := Lib.hid (by rw [HSRk.out, hkk0]; rfl)
              have HBD2 : Hid (bodyP L fin val 17 ⟨#[]⟩ j0 (n + 1) = match partsP L fin val 1 4002 [] j1 (n + 1) with | .error e => .error e | .ok (ks, i2, n2) => closeP L fin 17 ⟨#[]⟩ ns ks i2 n2) := Lib.hid (by rw [HBD.out, HSRO.out]; try rfl)
              have HPT := Lib.hid (parts_calls deep (by omega) 1 ⟨by decide, by decide⟩ val HVL.out HVN.out j1 (n + 1) wr HI2.out.1 HAR.out hn1)
              clear hkk0 hkk hlt
              go_wp2_with fail
              cases hpt : partsP L fin val 1 4002 [] j1 (n + 1) with
              | error pq =>
                obtain ⟨p, q⟩ := pq
                have HRE : Hid (RR = .error (p, q)) := Lib.hid (by rw [HRG.out, HBD2.out, hpt])
                rw [hpt] at HPT
                refine HPT.out.mono ?_
                rintro e' wa ⟨rfl, hCa⟩
                go_wp2_with fail
                rw [HRE.out]
                exact ⟨rfl, rfl, HI2.out.2.2.2.1.trans hCa⟩
              | ok xr =>
                obtain ⟨ks, i2, n2⟩ := xr
                have hcnt : n2 ≤ 4000 ∧ ks.length + (n + 1) ≤ n2 := parts_count HVN.out _ _ _ _ _ _ _ hpt hn1
                have HBD3 : Hid (bodyP L fin val 17 ⟨#[]⟩ j0 (n + 1) = closeP L fin 17 ⟨#[]⟩ ns ks i2 n2) := Lib.hid (by rw [HBD2.out, hpt])
                rw [hpt] at HPT
                refine HPT.out.mono ?_
                rintro e' wa ⟨kv, rfl, hpa, hra, hCa⟩
                have hra2 := hra.wide (B' := M) HMW.out
                obtain ⟨ak, ck, rfl, hkc, hkm⟩ := hra.form
                obtain ⟨nk, hnk⟩ : ∃ nk, ks.length = nk := ⟨_, rfl⟩
                have HNK := Lib.hid hnk
                rw [hnk] at hra2 hkc hcnt ⊢
                have hck2 : ck ≤ 9223372036854775807 := by unfold maxLen at hkm; omega
                have hNa := hCa.blk HI2.out.2.1 (fun e => by have := HORD.out; omega)
                have m0 := cell_of hNa 0
                have m4 := cell_of hNa 4
                have u4 := free_of hNa 4
                obtain ⟨wb, hwb⟩ : ∃ wb, wa.setCell ⟨w5.heap.size, 4, none⟩ (.slice ak nk ck) = wb := ⟨_, rfl⟩
                have hCb : Chg (fun q => q = w5.heap.size) wa wb := by rw [← hwb]; exact (Chg.refl (fun q => q = w5.heap.size) wa).set (p := ⟨w5.heap.size, 4, none⟩) (fun _ => rfl) _
                have hNb : wb.heap[w5.heap.size]? = some (.cells #[.int .u8 17, .int .i64 0, .string ⟨#[]⟩, .slice ad1 1 c1, .slice ak nk ck] 26) := by rw [← hwb]; exact (blk_set hNa 4 _).trans rfl
                have HPE := Lib.hid (hpa.chg hCb (fun e => by have := HORD.out; omega))
                have HNE := Lib.hid hNb
                have HCE := Lib.hid ((HI2.out.2.2.2.1.trans hCa).andThen hCb (fun q hq (e : q = w5.heap.size) => by have := HORD.out; omega))
                have HXE := Lib.hid ((HI2.out.2.2.2.2.trans (hCa.mono (fun q _ e => .inl e))).andThen hCb (fun q hq (e : q = w5.heap.size) => by have := HORD.out; omega))
                have HSE := Lib.hid ((HI2.out.2.2.1.later hCa (fun q (e : q = b) => by have := HORD.out; omega)).stay hCb (fun q hq (e : q = w5.heap.size) => HNO.out q hq e))
                have HNSE := Lib.hid ((HS.out.2.later hCa (fun q (e : q = b) => by have := HORD.out; have := HORD2.out; omega)).later hCb (fun q (e : q = w5.heap.size) => by have := HORD2.out; omega))
                have HNRE := Lib.hid (hra2.later hCb (fun q (e : q = w5.heap.size) => by have := HORD2.out; omega))
                have HAE : Hid (Amb b v L wb) := Lib.hid (HA.out.later HCE.out)
                have HME := Lib.hid (show M ≤ wb.heap.size by have := HMW.out; have := hCa.size; have := hCb.size; omega)
                clear hpa hra hra2 hCa hNa hCb hNb HPT hpt hkm hnk HI2 HAR HMW HS HSRk HSRO HBD HBD2
                have HTK := Lib.hid (take_calls HPE.out HAE.out.tok 2 (by decide) (by have := HLEN.out; omega))
                go_wp2_with fail
                cases htk : takeP L fin 2 i2 with
                | error pq =>
                  obtain ⟨p, q⟩ := pq
                  have HRE : Hid (RR = .error (p, q)) := Lib.hid (by rw [HRG.out, HBD3.out]; unfold closeP; rw [htk])
                  rw [htk] at HTK
                  refine HTK.out.mono ?_
                  rintro e' wz ⟨rfl, hCz⟩
                  go_wp2_with fail
                  rw [HRE.out]
                  exact ⟨rfl, rfl, HCE.out.trans hCz⟩
                | ok uu =>
                  have HRN : Hid (RR = clausesP L fin okk val k (out ++ [.mk 17 0 ⟨#[]⟩ ns ks]) ops 17 (i2 + 1) n2) := Lib.hid (by rw [HRG.out, HBD3.out]; unfold closeP; rw [htk])
                  rw [htk] at HTK
                  refine HTK.out.mono ?_
                  rintro e' wz ⟨⟨uv, rfl⟩, hpz, hCz⟩
                  have hNz := hCz.blk HNE.out (fun e => by have := HORD.out; omega)
                  have HNDZ := Lib.hid (node_of (k := 17) (tx := ⟨#[]⟩) (by decide) (HNSE.out.later hCz (fun q (e : q = b) => by have := HORD.out; have := HORD2.out; omega)) (HNRE.out.later hCz (fun q (e : q = b) => by have := HORD.out; have := HORD2.out; omega)))
                  have HSZ := Lib.hid (HSE.out.later hCz (fun q (e : q = b) => by have := HORD.out; omega))
                  have HCZ := Lib.hid (HCE.out.trans hCz)
                  have HXZ := Lib.hid (HXE.out.trans (hCz.mono (fun q _ e => .inl e)))
                  have HMZ := Lib.hid (show M ≤ wz.heap.size by have := HME.out; have := hCz.size; omega)
                  have HRX := Lib.hid (HI.out.2.1.move (X' := fun q => (.slice ado lo capo : Value).ownBlock = some q) HXZ.out (fun q e => by
                    rcases e with e | e
                    · exact .inl (by have := HORD.out; omega)
                    · exact .inr e) HOA.out)
                  obtain ⟨ps, e1, e2, e3⟩ := HRX.out.ex
                  have hpl : ps.length = ln := by rw [← HLS.out.1, ← e1, List.length_map]
                  rw [hpl] at e2
                  have HYA := Lib.hid (e2.kept ((Chg.refl (fun _ => False) wz).alloc (.cells #[.int .u8 17, .int .i64 0, .string ⟨#[]⟩, .slice ad1 1 c1, .slice ak nk ck] 26)) (fun _ _ h => h))
                  have HYB := Lib.hid (news5 (new_atN wz (.cells #[.int .u8 17, .int .i64 0, .string ⟨#[]⟩, .slice ad1 1 c1, .slice ak nk ck] 26) wz.heap.size rfl))
                  have HYC := Lib.hid (one5 (17 : Int) 0 ⟨#[]⟩ ad1 ak 1 c1 nk ck)
                  have HYD : Hid (ln + 1 ≤ maxLen ∧ (ln + 1) * 80 ≤ 140737488355328) := Lib.hid (by unfold maxLen; omega)
                  have HE1 := Lib.hid e1
                  have HE3 := Lib.hid e3
                  have HPL := Lib.hid hpl
                  have HPZ := Lib.hid hpz
                  have n0 := cell_of hNz 0
                  have n1' := cell_of hNz 1
                  have n2' := cell_of hNz 2
                  have n3' := cell_of hNz 3
                  have n4 := cell_of hNz 4
                  clear e1 e2 e3 hpl hpz hCz hNz HTK htk HNE HPE HCE HXE HSE HNSE HNRE HAE HME
                  go_wp2_with (at_builtin; refine wpList_append_row _ rfl _ _ 24 rfl 26 iN _ 5 80 twN hk0 hk1 hk2 hk3 rfl (by decide) (.slice ad ln cap) ln (ps.flatMap ndC5) rfl HYA.out ⟨wz.heap.size, 0, none⟩ 1 1 [.int .u8 17, .int .i64 0, .string ⟨#[]⟩, .slice ad1 1 c1, .slice ak nk ck] rfl rfl HYB.out HYC.out (by decide) HYD.out.1 HYD.out.2 _ rfl ?_)
                  clear HYA HYB HYC HYD
                  intro gg off2 cap2 w3 hrow3 hgrow3 hat3 hlt3
                  have HQQ := Lib.hid (row_moreX (x := .mk 17 0 ⟨#[]⟩ ns ks) (M := M) HE1.out HPL.out HE3.out HRX.out.new HRX.out.apart (by have := HORD.out; have := HORD2.out; omega) HMZ.out (fun q hq => by have := HI.out.2.1.lt q hq; have := HORD.out; have := HORD2.out; omega) HOLT.out HNDZ.out hrow3 hgrow3 hat3)
                  have HSF := Lib.hid (HSZ.out.stay HQQ.out.2 (fun q hq e => HRX.out.apart q e hq))
                  have HKL : Hid ((out ++ [Nd.mk 17 0 ⟨#[]⟩ ns ks]).length = ln + 1) := Lib.hid (by rw [List.length_append, HLS.out.1]; rfl)
                  have HPF := Lib.hid (HPZ.out.chg HQQ.out.2 (fun e => by have := HRX.out.new _ e; have := HORD.out; omega))
                  have HCF := Lib.hid (HCZ.out.andThen HQQ.out.2 (fun q hq e => by have := HRX.out.new _ e; omega))
                  clear hrow3 hgrow3 hat3 hlt3 n0 n1' n2' n3' n4
                  go_wp2_with fail
                  go_roundg gk'
                  case measure => omega
                  case rel => exact ⟨out ++ [.mk 17 0 ⟨#[]⟩ ns ks], ops, i2 + 1, n2, k, ln + 1, lo, 17, _, _, _, _, rfl, rfl, rfl, by omega, by omega, by omega, by omega, by omega, by decide, by decide, HRN, Lib.hid ⟨HKL.out, HOL.out⟩, Lib.hid ⟨HPF.out, HQQ.out.1, HSF.out, HCF.out⟩⟩
        by_cases s2 : s = wOn
        case pos =>
          have HKK : Hid (clauseKind s = 18) := Lib.hid (by rw [s2]; rfl)
          obtain ⟨w9, hw9⟩ : ∃ w9, w8.setCell ⟨w5.heap.size, 0, none⟩ (.int .u8 18) = w9 := ⟨_, rfl⟩
          have hC9 : Chg (fun q => q = w5.heap.size) w8 w9 := by rw [← hw9]; exact (Chg.refl (fun q => q = w5.heap.size) w8).set (p := ⟨w5.heap.size, 0, none⟩) (fun _ => rfl) _
          have hN9 : w9.heap[w5.heap.size]? = some (.cells #[.int .u8 18, .int .i64 0, .string ⟨#[]⟩, .slice none 0 0, .slice none 0 0] 26) := by rw [← hw9]; exact (blk_set HN8.out 0 _).trans rfl
          have HN9 := Lib.hid hN9
          have hp9 := HP8.out.chg hC9 (fun e => by have := HORD.out; omega)
          have HP9 := Lib.hid hp9
          have HCO9 := Lib.hid (HCO8.out.andThen hC9 (fun q hq (e : q = w5.heap.size) => by have := HORD.out; omega))
          have HA9 := Lib.hid (HA.out.later (HI.out.2.2.2.trans HCO9.out))
          have y0 := cell_of hN9 0
          have y1 := cell_of hN9 1
          have y2 := cell_of hN9 2
          have y3 := cell_of hN9 3
          have y4 := cell_of hN9 4
          have v2 := free_of hN9 2
          obtain rfl : ⟨#[111, 110]⟩ = s := s2.symm
          clear hC9 hN9 HN8 HP8 HCO8 HA8 s1 s2
          by_cases hbad : la = 19
          · have HRE : Hid (RR = .error (u.at_, 12)) := Lib.hid (by rw [HRK.out]; exact cl_word HI0.out HK1.out HQ.out HJ0.out HSS.out (.inr (.inr (by rw [HKK.out]; omega))))
            have HW := Lib.hid (wrong_calls hp9 HA9.out.tok 12)
            rw [HW12.out] at HW
            clear hp9
            have hbl : ((18 : Int) < (la : Int)) := by omega
            go_wp2_with fail
            refine HW.out.mono ?_
            rintro e' w11 ⟨rfl, hC11⟩
            go_wp2_with fail
            rw [HRE.out]
            exact ⟨rfl, rfl, (HI.out.2.2.2.trans HCO9.out).trans (chgb hC11)⟩
          have HRG := Lib.hid (cl_go (fin := fin) (val := val) (k := k) (la := la) (out := out) (ops := ops) HI0.out HK1.out HQ.out HJ0.out HSS.out HKK.out (fun h => by
            rcases h with h | h | h | h
            · exact h HU3.out
            · omega
            · omega
            · omega))
          rw [← HRK.out] at HRG
          by_cases h18 : la = 18
          · subst h18
            obtain ⟨w10, hw10⟩ : ∃ w10, w9.setCell ⟨b, 1, none⟩ (.int .i64 (((i + 1 : Nat) : Int) + 1)) = w10 := ⟨_, rfl⟩
            have hC10 : Chg (fun q => q = b) w9 w10 := by rw [← hw10]; exact (Chg.refl (fun q => q = b) w9).set (p := ⟨b, 1, none⟩) (fun _ => rfl) _
            have hp10 : Psr b v (i + 1 + 1) fin (n + 1) w10 := by rw [← hw10]; exact hp9.at_
            have c1' := cell_of hp9 1
            have f1' := free_of hp9 1
            have hcs : ((i + 1 : Nat) : Int) = (i : Int) + 1 := by push_cast; rfl
            simp only [hcs] at c1' hw10
            have hN10 := hC10.blk HN9.out (fun e => by have := HORD.out; omega)
            have HCO10 := Lib.hid (HCO9.out.trans hC10)
            clear hp9 hcs HP9 HCO9 HA9 hbad c1 f1
            have HP10 := Lib.hid hp10
            have HA10 := Lib.hid (HA.out.later (HI.out.2.2.2.trans HCO10.out))
            have HN10 := Lib.hid hN10
            have HSO10 := Lib.hid (HI.out.2.2.1.later HCO10.out (fun q (e : q = b) => by have := HORD.out; omega))
            have HNM := Lib.hid (name_calls hp10 HA10.out.tok ops (.slice ado lo capo) (HSO10.out.names.keep (keep_off _ _)) (by have := HLEN.out; omega))
            have z0 := cell_of hN10 0
            clear hC10 hp10 hN10
            go_wp2_with fail
            cases hnm : nameP L fin ops (i + 1 + 1) with
            | error pq =>
              obtain ⟨p, q⟩ := pq
              have HRE : Hid (RR = .error (p, q)) := Lib.hid (by rw [HRG.out]; unfold opP; rw [if_pos rfl, hnm])
              rw [hnm] at HNM
              refine HNM.out.mono ?_
              rintro e' w11 ⟨rfl, hC11⟩
              go_wp2_with fail
              rw [HRE.out]
              exact ⟨rfl, rfl, (HI.out.2.2.2.trans HCO10.out).trans hC11⟩
            | ok tx =>
              have HRG2 : Hid (RR = match bodyP L fin val 18 tx (i + 1 + 1 + 1) (n + 1) with | .error e => .error e | .ok (x, i2, n2) => clausesP L fin okk val k (out ++ [x]) (ops ++ [tx]) 18 i2 n2) := Lib.hid (by rw [HRG.out]; unfold opP; rw [if_pos rfl, hnm])
              rw [hnm] at HNM
              refine HNM.out.mono ?_
              rintro e' w11 ⟨rfl, hp11, hC11⟩
              have hN11 := hC11.blk HN10.out (fun e => by have := HORD.out; omega)
              have k0 := cell_of hN11 0
              have k2 := cell_of hN11 2
              have kf2 := free_of hN11 2
              obtain ⟨w12, hw12⟩ : ∃ w12, w11.setCell ⟨w5.heap.size, 2, none⟩ (.string tx) = w12 := ⟨_, rfl⟩
              have hC12 : Chg (fun q => q = w5.heap.size) w11 w12 := by rw [← hw12]; exact (Chg.refl (fun q => q = w5.heap.size) w11).set (p := ⟨w5.heap.size, 2, none⟩) (fun _ => rfl) _
              have hN12 : w12.heap[w5.heap.size]? = some (.cells #[.int .u8 18, .int .i64 0, .string tx, .slice none 0 0, .slice none 0 0] 26) := by rw [← hw12]; exact (blk_set hN11 2 _).trans rfl
              have HN12 := Lib.hid hN12
              have HP12 := Lib.hid (hp11.chg hC12 (fun e => by have := HORD.out; omega))
              have HCO12 := Lib.hid ((HCO10.out.trans hC11).andThen hC12 (fun q hq (e : q = w5.heap.size) => by have := HORD.out; omega))
              have HOO : Hid (∀ q, (Value.slice ado lo capo).ownBlock = some q → q < wo.heap.size) := Lib.hid HI.out.2.2.1.row.lt
              have HSO12 := Lib.hid ((HSO10.out.later hC11 (fun q (e : q = b) => by have := HORD.out; omega)).stay hC12 (fun q hq (e : q = w5.heap.size) => by have := HOO.out q hq; have := HORD.out; omega))
              have hro := HSO12.out.row
              rw [HLS.out.2] at hro
              have HYA := Lib.hid (hro.kept ((Chg.refl (fun _ => False) w12).alloc (.cells #[.string tx] 9)) (fun _ _ h => h))
              have HYB := Lib.hid (news_oneP (new_atSP w12 (.cells #[.string tx] 9) w12.heap.size rfl))
              have HYD : Hid (lo + 1 ≤ maxLen ∧ (lo + 1) * 16 ≤ 140737488355328) := Lib.hid (by unfold maxLen; omega)
              have HYC : Hid (∀ u ∈ [Value.string tx], u.oneCell' = true) := Lib.hid (fun u hu => by simp only [List.mem_cons, List.not_mem_nil, or_false] at hu; subst hu; rfl)
              have HSZ12 := Lib.hid (show wo.heap.size ≤ w12.heap.size by exact HCO12.out.size)
              have HNL12 := Lib.hid (lt_of_block hN12)
              have t2 := cell_of hN12 2
              have t0 := cell_of hN12 0
              clear hC11 hp11 hN11 hC12 hN12 hro HNM hnm HRG
              have HRG := HRG2
              clear HRG2
              go_wp2_with (at_builtin; refine wpList_append_row _ rfl _ _ 23 rfl 9 iS _ 1 16 twSP hj0 hj1 hj2 hj3 rfl (by decide) (.slice ado lo capo) lo (ops.map Value.string) rfl HYA.out ⟨w12.heap.size, 0, none⟩ 1 1 [.string tx] rfl rfl HYB.out HYC.out (by decide) HYD.out.1 HYD.out.2 _ rfl ?_)
              clear HYA HYB HYC HYD
              intro go oo co wA hrow3 hgrow3 hat3 hlt3
              have hCA : Chg (fun q => (Value.slice ado lo capo).ownBlock = some q) w12 wA := ((Chg.refl _ w12).alloc _).grown hgrow3 (fun k _ e => e)
              have HPA := Lib.hid (HP12.out.chg hCA (fun e => by have := HI.out.2.2.1.new _ e; have := HORD.out; omega))
              have HNA := Lib.hid (hCA.blk HN12.out (fun e => by have := HOO.out _ e; have := HORD.out; omega))
              have HSA := Lib.hid (HSO12.out.snoc (H := w12.heap.size + 1) HLS.out.2 hrow3 (fun g hg => by rcases hat3 with e | e; (left; rw [e]; exact hg); (right; have e2 : go = g := (by simpa [Value.ownBlock] using hg); rw [← e2, e])) (by have := HORD.out; have := HSZ12.out; omega))
              have HCA := Lib.hid ((HI.out.2.2.2.trans HCO12.out).andThen hCA (fun q hq e => by have := HI.out.2.2.1.new _ e; omega))
              have HXA : Hid (Chg (fun q => q = b ∨ (Value.slice ado lo capo).ownBlock = some q) wo wA) := Lib.hid ((HCO12.out.mono (fun q _ e => .inl e)).trans (hCA.mono (fun q _ e => .inr e)))
              have hge : ∀ q, (Value.slice (some ⟨go, oo, none⟩) (lo + 1) co).ownBlock = some q → (Value.slice ado lo capo).ownBlock = some q ∨ q = w12.heap.size + 1 := fun q hq => by
                have e2 : go = q := by simpa [Value.ownBlock] using hq
                rcases hat3 with e | e
                · left; rw [e, e2]
                · right; rw [← e2, e]
              have HOA : Hid (∀ q, q < wo.heap.size → (Value.slice (some ⟨go, oo, none⟩) (lo + 1) co).ownBlock = some q → (Value.slice ado lo capo).ownBlock = some q) := Lib.hid (fun q hq e => by
                rcases hge q e with h | h
                · exact h
                · have := HSZ12.out; omega)
              have HNO : Hid (∀ q, (Value.slice (some ⟨go, oo, none⟩) (lo + 1) co).ownBlock = some q → q ≠ w5.heap.size) := Lib.hid (fun q e h => by
                rcases hge q e with g | g
                · have := HOO.out q g; have := HORD.out; omega
                · have := HNL12.out; omega)
              have HOL : Hid ((ops ++ [tx]).length = lo + 1) := Lib.hid (by rw [List.length_append, HLS.out.2]; rfl)
              obtain ⟨j0, hj0'⟩ : ∃ j0, i + 1 + 1 + 1 = j0 := ⟨_, rfl⟩
              rw [hj0'] at HPA HRG
              clear hCA hge hrow3 hgrow3 hat3 hlt3 hj0' t2 t0 HSO12 HCO12 HP12 HN12 HNL12 HSZ12 HOO HSO10 HP10 HA10 HN10 HCO10
              obtain ⟨M, hM⟩ : ∃ M, wA.heap.size = M := ⟨_, rfl⟩
              have HORD2 : Hid (w5.heap.size < M) := Lib.hid (by rw [← hM]; exact lt_of_block HNA.out)
              have HMA := Lib.hid hM
              have HOLT : Hid (∀ q, (.slice (some ⟨go, oo, none⟩) (lo + 1) co : Value).ownBlock = some q → q < M) := Lib.hid (by rw [← hM]; exact HSA.out.row.lt)
              obtain ⟨SR, hSR⟩ : ∃ SR, someP L fin 2 [] j0 = SR := ⟨_, rfl⟩
              have HSR0 := Lib.hid hSR.symm
              have HBD : Hid (bodyP L fin val 18 tx j0 (n + 1) = bodyK L fin val 18 tx (n + 1) SR) := Lib.hid (by rw [← hSR]; rfl)
              have HST : Hid (Psr b v j0 fin (n + 1) wA ∧ (wA.heap[w5.heap.size]? = some (.cells #[.int .u8 18, .int .i64 0, .string tx, .slice none 0 0, .slice none 0 0] 26)) ∧ SRow wA w.heap.size (.slice (some ⟨go, oo, none⟩) (lo + 1) co) (ops ++ [tx]) ∧ Chg (· = b) w wA ∧ Chg (fun q => q = b ∨ (Value.slice ado lo capo).ownBlock = some q) wo wA) := Lib.hid ⟨HPA.out, HNA.out, HSA.out, HCA.out, HXA.out⟩
              have xA0 := cell_of HNA.out 0
              have hix := run_ix18
              clear hM hSR HPA HNA HSA HCA HXA
              go_wp2_with fail
              go_loopg [103] 3 (fun g jv wr => ∃ (ns : List ByteArray) (j1 kk l1 : Nat) (ad1 : Option Addr) (c1 : Nat), jv = .int .i64 (l1 : Int) ∧ kk + l1 = 2 ∧ 3 ≤ g + l1 ∧ c1 ≤ 9223372036854775807 ∧ l1 ≤ c1 ∧ M ≤ wr.heap.size ∧ Hid (SR = someP L fin kk ns j1) ∧ Hid (ns.length = l1 ∧ SRow wr M (.slice ad1 l1 c1) ns) ∧ Hid (Psr b v j1 fin (n + 1) wr ∧ (wr.heap[w5.heap.size]? = some (.cells #[.int .u8 18, .int .i64 0, .string tx, .slice ad1 l1 c1, .slice none 0 0] 26)) ∧ SRow wr w.heap.size (.slice (some ⟨go, oo, none⟩) (lo + 1) co) (ops ++ [tx]) ∧ Chg (· = b) w wr ∧ Chg (fun q => q = b ∨ (Value.slice ado lo capo).ownBlock = some q) wo wr))
              case atStart => exact ⟨[], j0, 2, 0, none, 0, rfl, rfl, by omega, by decide, by decide, by rw [HMA.out]; exact Nat.le_refl _, HSR0, Lib.hid ⟨rfl, SRow.nil _ _⟩, HST⟩
              case round =>
                obtain ⟨ns, j1, kk, l1, ad1, c1, rfl, hkk, hgk, hcc1, hcc2, hMw, HSRk, HS, HI2⟩ := hrel
                obtain ⟨gj', rfl⟩ : ∃ q, gk = q + 1 := ⟨gk - 1, by omega⟩
                have hl1 : l1 ≤ 2 := by omega
                have HAR := Lib.hid (HA.out.later HI2.out.2.2.2.1)
                have HMW := Lib.hid hMw
                by_cases hlt : (l1 : Int) < 2
                · obtain ⟨kk, rfl⟩ : ∃ q, kk = q + 1 := ⟨kk - 1, by omega⟩
                  have hl4 : l1 < 2 := by omega
                  have HNN : Hid (SR = match nameP L fin ns j1 with | .error e => .error e | .ok s2 => someP L fin kk (ns ++ [s2]) (j1 + 1)) := Lib.hid (by rw [HSRk.out, someP]; try rfl)
                  obtain ⟨wq, hwq⟩ : ∃ wq, wq = wr := ⟨_, rfl⟩
                  subst hwq
                  have hdr : Chg (fun _ => False) wq wq.drew := (Chg.refl _ wq).drew
                  have hX := chgb (b := b) hdr
                  have HSRQ := Lib.hid (HS.out.2.later hX (fun q (e : q = b) => by have := HORD.out; have := HORD2.out; omega))
                  have HLN := Lib.hid HS.out.1
                  have HMQ := Lib.hid hMw
                  have HNW := Lib.hid (name_calls (HI2.out.1.chg hdr (fun e => e)) (HAR.out.later hX).tok ns (.slice ad1 l1 c1) (HSRQ.out.names.keep (keep_off _ _)) (by have := HLEN.out; omega))
                  have HNQ := Lib.hid HI2.out.2.1
                  have x3 := cell_of HNQ.out 3
                  clear hX
                  go_wp2_with fail
                  cases hn2 : nameP L fin ns j1 with
                  | error pq =>
                    obtain ⟨p, q⟩ := pq
                    rw [hn2] at HNW
                    refine wp_region_T (S := fun W => W.cell? ⟨w5.heap.size, 3, none⟩ = some (.slice ad1 l1 c1)) 8 2 rfl (by kernel_rfl) ?_ (fun hHeld => ?_)
                    · exact hdr.cell x3 (fun e => e)
                    refine wpAnyT_take (i := 0) (v := ?tv11) rfl (by kernel_rfl) (by decide) (by kernel_rfl) (by kernel_rfl) (fun _ _ _ h => h) (Or.inl ⟨by rfl, ?ty11⟩) (by assumption) ?tr11
                    case ty11 => intro w hSw; (try dsimp only at hSw); go_simp; (try with_reducible rfl)
                    try simp only [Act.put, List.setIfInBounds_toArray, List.set_cons_zero, List.set_cons_succ, List.getElem_toArray, List.getElem_cons_zero, List.getElem_cons_succ, Nat.zero_add]
                    refine wpAnyT_take (i := 1) (v := ?tv12) rfl (by kernel_rfl) (by decide) (by kernel_rfl) (by kernel_rfl) (fun _ _ _ h => h) (Or.inl ⟨by rfl, ?ty12⟩) (by assumption) ?tr12
                    case ty12 => intro w hSw; (try dsimp only at hSw); go_simp; (try with_reducible rfl)
                    try simp only [Act.put, List.setIfInBounds_toArray, List.set_cons_zero, List.set_cons_succ, List.getElem_toArray, List.getElem_cons_zero, List.getElem_cons_succ, Nat.zero_add]
                    refine wpAnyT_take (i := 2) (v := ?tv13) rfl (by kernel_rfl) (by decide) (by kernel_rfl) (by kernel_rfl) (fun _ _ _ h => h) (Or.inl ⟨by rfl, ?ty13⟩) (by assumption) ?tr13
                    case ty13 => intro w hSw; (try dsimp only at hSw); go_simp; (try with_reducible rfl)
                    try simp only [Act.put, List.setIfInBounds_toArray, List.set_cons_zero, List.set_cons_succ, List.getElem_toArray, List.getElem_cons_zero, List.getElem_cons_succ, Nat.zero_add]
                    refine wpAnyT_take (i := 3) (v := ?tv14) rfl (by kernel_rfl) (by decide) (by kernel_rfl) (by kernel_rfl) (fun _ _ _ h => h) (Or.inl ⟨by rfl, ?ty14⟩) (by assumption) ?tr14
                    case ty14 => intro w hSw; (try dsimp only at hSw); go_simp; (try with_reducible rfl)
                    try simp only [Act.put, List.setIfInBounds_toArray, List.set_cons_zero, List.set_cons_succ, List.getElem_toArray, List.getElem_cons_zero, List.getElem_cons_succ, Nat.zero_add]
                    refine wpAnyT_take (i := 4) (v := ?tv15) rfl (by kernel_rfl) (by decide) (by kernel_rfl) (by kernel_rfl) (fun _ _ _ h => h) (Or.inl ⟨by rfl, ?ty15⟩) (by assumption) ?tr15
                    case ty15 => intro w hSw; (try dsimp only at hSw); go_simp; (try with_reducible rfl)
                    try simp only [Act.put, List.setIfInBounds_toArray, List.set_cons_zero, List.set_cons_succ, List.getElem_toArray, List.getElem_cons_zero, List.getElem_cons_succ, Nat.zero_add]
                    refine wpAnyT_ready (rs := [5]) (by kernel_rfl) (by kernel_rfl) ?_
                    refine AllReadyT.cons rfl (fun K hK => ?_) ?_
                    · go_simp
                      refine HNW.out.mono ?_
                      rintro e' wc ⟨rfl, hCc⟩
                      have HRE : Hid (RR = .error (p, q)) := Lib.hid (by rw [HRG.out, HBD.out, HNN.out, hn2]; try rfl)
                      go_wp2_with fail
                      rw [HRE.out]
                      exact ⟨rfl, rfl, HI2.out.2.2.2.1.trans ((chgb hdr).trans hCc)⟩
                    exact AllReadyT.nil
                  | ok s2 =>
                    rw [hn2] at HNW
                    refine wp_region_T (S := fun W => W.cell? ⟨w5.heap.size, 3, none⟩ = some (.slice ad1 l1 c1)) 8 2 rfl (by kernel_rfl) ?_ (fun hHeld => ?_)
                    · exact hdr.cell x3 (fun e => e)
                    refine wpAnyT_take (i := 0) (v := ?tv16) rfl (by kernel_rfl) (by decide) (by kernel_rfl) (by kernel_rfl) (fun _ _ _ h => h) (Or.inl ⟨by rfl, ?ty16⟩) (by assumption) ?tr16
                    case ty16 => intro w hSw; (try dsimp only at hSw); go_simp; (try with_reducible rfl)
                    try simp only [Act.put, List.setIfInBounds_toArray, List.set_cons_zero, List.set_cons_succ, List.getElem_toArray, List.getElem_cons_zero, List.getElem_cons_succ, Nat.zero_add]
                    refine wpAnyT_take (i := 1) (v := ?tv17) rfl (by kernel_rfl) (by decide) (by kernel_rfl) (by kernel_rfl) (fun _ _ _ h => h) (Or.inl ⟨by rfl, ?ty17⟩) (by assumption) ?tr17
                    case ty17 => intro w hSw; (try dsimp only at hSw); go_simp; (try with_reducible rfl)
                    try simp only [Act.put, List.setIfInBounds_toArray, List.set_cons_zero, List.set_cons_succ, List.getElem_toArray, List.getElem_cons_zero, List.getElem_cons_succ, Nat.zero_add]
                    refine wpAnyT_take (i := 2) (v := ?tv18) rfl (by kernel_rfl) (by decide) (by kernel_rfl) (by kernel_rfl) (fun _ _ _ h => h) (Or.inl ⟨by rfl, ?ty18⟩) (by assumption) ?tr18
                    case ty18 => intro w hSw; (try dsimp only at hSw); go_simp; (try with_reducible rfl)
                    try simp only [Act.put, List.setIfInBounds_toArray, List.set_cons_zero, List.set_cons_succ, List.getElem_toArray, List.getElem_cons_zero, List.getElem_cons_succ, Nat.zero_add]
                    refine wpAnyT_take (i := 3) (v := ?tv19) rfl (by kernel_rfl) (by decide) (by kernel_rfl) (by kernel_rfl) (fun _ _ _ h => h) (Or.inl ⟨by rfl, ?ty19⟩) (by assumption) ?tr19
                    case ty19 => intro w hSw; (try dsimp only at hSw); go_simp; (try with_reducible rfl)
                    try simp only [Act.put, List.setIfInBounds_toArray, List.set_cons_zero, List.set_cons_succ, List.getElem_toArray, List.getElem_cons_zero, List.getElem_cons_succ, Nat.zero_add]
                    refine wpAnyT_take (i := 4) (v := ?tv20) rfl (by kernel_rfl) (by decide) (by kernel_rfl) (by kernel_rfl) (fun _ _ _ h => h) (Or.inl ⟨by rfl, ?ty20⟩) (by assumption) ?tr20
                    case ty20 => intro w hSw; (try dsimp only at hSw); go_simp; (try with_reducible rfl)
                    try simp only [Act.put, List.setIfInBounds_toArray, List.set_cons_zero, List.set_cons_succ, List.getElem_toArray, List.getElem_cons_zero, List.getElem_cons_succ, Nat.zero_add]
                    refine wpAnyT_ready (rs := [5]) (by kernel_rfl) (by kernel_rfl) ?_
                    refine AllReadyT.cons rfl (fun K hK => ?_) ?_
                    · go_simp
                      refine HNW.out.mono ?_
                      rintro e' wc ⟨rfl, hpc, hCc0⟩
                      have hCc := (chgb (b := b) hdr).trans hCc0
                      have q3 := hCc.cell x3 (fun (e : w5.heap.size = b) => by have := HORD.out; omega)
                      have HSRC := Lib.hid (HSRQ.out.later hCc0 (fun q (e : q = b) => by have := HORD.out; have := HORD2.out; omega))
                      have HPC := Lib.hid hpc
                      have HCC := Lib.hid hCc
                      have hrc := HSRC.out.row
                      rw [HLN.out] at hrc
                      have HRC0 := Lib.hid hrc
                      clear hrc hpc hCc hCc0 HNW
                      refine hK.out _ _ ?_ (fun hHeld => ?_)
                      · first | assumption | exact q3d | exact cell_alSP _ q3
                      clear hK K
                      try simp only [Act.put, List.setIfInBounds_toArray, List.set_cons_zero, List.set_cons_succ, List.getElem_toArray, List.getElem_cons_zero, List.getElem_cons_succ, Nat.zero_add]
                      refine wpAnyT_ready (rs := [6]) (by kernel_rfl) (by kernel_rfl) ?_
                      refine AllReadyT.cons rfl (fun K hK => ?_) ?_
                      · go_simp
                        refine hK.out _ _ ?_ (fun hHeld => ?_)
                        · first | assumption | exact q3d | exact cell_alSP _ q3
                        clear hK K
                        try simp only [Act.put, List.setIfInBounds_toArray, List.set_cons_zero, List.set_cons_succ, List.getElem_toArray, List.getElem_cons_zero, List.getElem_cons_succ, Nat.zero_add]
                        refine wpAnyT_ready (rs := [7]) (by kernel_rfl) (by kernel_rfl) ?_
                        refine AllReadyT.cons rfl (fun K hK => ?_) ?_
                        · refine step_append_row _ (by rfl) _ _ _ (by rfl) 9 iS _ 1 16 twSP hj0 hj1 hj2 hj3 rfl (by omega) (.slice ad1 l1 c1) l1 (ns.map Value.string) (by rfl) (HRC0.out.kept ?nc (fun _ _ h => h)) ⟨wc.heap.size, 0, none⟩ 1 1 [.string s2] (by rfl) rfl ?nb ?ny (by decide) (by unfold maxLen; omega) (by omega) _ (by rfl) ?_
                          case nb => exact news_oneP (new_atSP _ _ _ (by simp))
                          case ny => intro u hu; simp only [List.mem_cons, List.not_mem_nil, or_false] at hu; subst hu; rfl
                          case nc => (repeat (first | exact Chg.refl _ _ | apply Chg.alloc | apply Chg.drew | apply Chg.drewN))
                          intro gg off2 cap2 wd hrow2 hgrow2 hat2 hlt2
                          have hCd : Chg (fun q => (Value.slice ad1 l1 c1).ownBlock = some q) wc wd := (by refine Chg.grown ?_ hgrow2 (fun k hk e => e); (repeat (first | exact Chg.refl _ _ | apply Chg.alloc | apply Chg.drew | apply Chg.drewN)))
                          have nw : ∀ q, (Value.slice ad1 l1 c1).ownBlock = some q → M ≤ q := HSRC.out.new
                          have q3d := hCd.cell q3 (fun e => by have h : M ≤ w5.heap.size := nw _ e; have := HORD2.out; omega)
                          have hNd := hCd.blk (HCC.out.blk HNQ.out (fun e => by have := HORD.out; omega)) (fun e => by have := nw _ e; have := HORD2.out; omega)
                          have u3d := free_of hNd 3
                          have hc2 : cap2 ≤ 9223372036854775807 ∧ l1 + 1 ≤ cap2 := by obtain ⟨_, _, e, hm0, hm⟩ := hrow2.form; simp only [Value.slice.injEq] at e; obtain ⟨_, _, rfl⟩ := e; unfold maxLen at hm; omega
                          have HSRD := Lib.hid (HSRC.out.snoc (H := wc.heap.size + 1) HLN.out hrow2 (fun g hg => by rcases hat2 with e | e; (left; rw [e]; exact hg); (right; have e2 : gg = g := (by simpa [Value.ownBlock] using hg); rw [← e2, e]; simp)) (by have := HORD2.out; have := HMQ.out; have := HCC.out.size; omega))
                          have HCD := Lib.hid hCd
                          have HND := Lib.hid hNd
                          have HNW2 := Lib.hid nw
                          clear hrow2 hgrow2 hat2 hCd hNd hlt2 nw
                          refine hK.out _ _ ?_ (fun hHeld => ?_)
                          · first | assumption | exact q3d | exact cell_alSP _ q3
                          clear hK K
                          try simp only [Act.put, List.setIfInBounds_toArray, List.set_cons_zero, List.set_cons_succ, List.getElem_toArray, List.getElem_cons_zero, List.getElem_cons_succ, Nat.zero_add]
                          refine wpAnyT_done (by kernel_rfl) ?_
                          simp only [List.drop_succ_cons, List.drop_zero]
                          obtain ⟨we, hwe⟩ : ∃ we, wd.setCell ⟨w5.heap.size, 3, none⟩ (.slice (some ⟨gg, off2, none⟩) (l1 + 1) cap2) = we := ⟨_, rfl⟩
                          have hCe : Chg (fun q => q = w5.heap.size) wd we := by rw [← hwe]; exact (Chg.refl (fun q => q = w5.heap.size) wd).set (p := ⟨w5.heap.size, 3, none⟩) (fun _ => rfl) _
                          have hNe : we.heap[w5.heap.size]? = some (.cells #[.int .u8 18, .int .i64 0, .string tx, .slice (some ⟨gg, off2, none⟩) (l1 + 1) cap2, .slice none 0 0] 26) := by rw [← hwe]; exact (blk_set HND.out 3 _).trans rfl
                          have HRE : Hid (SR = someP L fin kk (ns ++ [s2]) (j1 + 1)) := Lib.hid (by rw [HNN.out, hn2])
                          have HSO1 : Hid (SRow we w.heap.size (.slice (some ⟨go, oo, none⟩) (lo + 1) co) (ops ++ [tx])) := Lib.hid (((HI2.out.2.2.1.later HCC.out (fun q (e : q = b) => by have := HORD.out; omega)).stay HCD.out (fun q hq e => by have := HOLT.out q hq; have := HNW2.out _ e; omega)).stay hCe (fun q hq (e : q = w5.heap.size) => HNO.out q hq e))
                          have HZ : Hid (Psr b v (j1 + 1) fin (n + 1) we ∧ (we.heap[w5.heap.size]? = some (.cells #[.int .u8 18, .int .i64 0, .string tx, .slice (some ⟨gg, off2, none⟩) (l1 + 1) cap2, .slice none 0 0] 26)) ∧ SRow we w.heap.size (.slice (some ⟨go, oo, none⟩) (lo + 1) co) (ops ++ [tx]) ∧ Chg (· = b) w we ∧ Chg (fun q => q = b ∨ (Value.slice ado lo capo).ownBlock = some q) wo we) := Lib.hid ⟨(HPC.out.chg HCD.out (fun e => by have := HORD.out; have := HORD2.out; have := HNW2.out _ e; omega)).chg hCe (fun e => by have := HORD.out; omega), hNe, HSO1.out, ((HI2.out.2.2.2.1.trans HCC.out).andThen HCD.out (fun q hq e => by have := HORD.out; have := HORD2.out; have := HNW2.out _ e; omega)).andThen hCe (fun q hq (e : q = w5.heap.size) => by have := HORD.out; omega), ((HI2.out.2.2.2.2.trans (HCC.out.mono (fun q _ e => .inl e))).andThen HCD.out (fun q hq e => by have := HORD.out; have := HORD2.out; have := HNW2.out _ e; omega)).andThen hCe (fun q hq (e : q = w5.heap.size) => by have := HORD.out; omega)⟩
                          have HZS : Hid ((ns ++ [s2]).length = l1 + 1 ∧ SRow we M (.slice (some ⟨gg, off2, none⟩) (l1 + 1) cap2) (ns ++ [s2])) := Lib.hid ⟨by rw [List.length_append, HLN.out]; rfl, HSRD.out.later hCe (fun q (e : q = w5.heap.size) => by have := HORD2.out; omega)⟩
                          have hMe : M ≤ we.heap.size := by have := HMQ.out; have := HCC.out.size; have := HCD.out.size; have := hCe.size; omega
                          clear hCe hNe x3 q3 hdr hn2 HSO1
                          go_wp2_with fail
                          go_roundg gj'
                          case measure => omega
                          case rel => exact ⟨ns ++ [s2], j1 + 1, kk, l1 + 1, _, _, by push_cast; rfl, by omega, by omega, hc2.1, hc2.2, hMe, HRE, HZS, HZ⟩
                        exact AllReadyT.nil
                      exact AllReadyT.nil
                    exact AllReadyT.nil
                · have hkk0 : kk = 0 := by omega
                  obtain rfl : l1 = 2 := by omega
                  have HSRO : Hid (SR = .ok (ns, j1)) := Lib.hid (by rw [HSRk.out, hkk0]; rfl)
                  have HBD2 : Hid (bodyP L fin val 18 tx j0 (n + 1) = match partsP L fin val 1 4002 [] j1 (n + 1) with | .error e => .error e | .ok (ks, i2, n2) => closeP L fin 18 tx ns ks i2 n2) := Lib.hid (by rw [HBD.out, HSRO.out]; try rfl)
                  have HPT := Lib.hid (parts_calls deep (by omega) 1 ⟨by decide, by decide⟩ val HVL.out HVN.out j1 (n + 1) wr HI2.out.1 HAR.out hn1)
                  clear hkk0 hkk hlt
                  go_wp2_with fail
                  cases hpt : partsP L fin val 1 4002 [] j1 (n + 1) with
                  | error pq =>
                    obtain ⟨p, q⟩ := pq
                    have HRE : Hid (RR = .error (p, q)) := Lib.hid (by rw [HRG.out, HBD2.out, hpt])
                    rw [hpt] at HPT
                    refine HPT.out.mono ?_
                    rintro e' wa ⟨rfl, hCa⟩
                    go_wp2_with fail
                    rw [HRE.out]
                    exact ⟨rfl, rfl, HI2.out.2.2.2.1.trans hCa⟩
                  | ok xr =>
                    obtain ⟨ks, i2, n2⟩ := xr
                    have hcnt : n2 ≤ 4000 ∧ ks.length + (n + 1) ≤ n2 := parts_count HVN.out _ _ _ _ _ _ _ hpt hn1
                    have HBD3 : Hid (bodyP L fin val 18 tx j0 (n + 1) = closeP L fin 18 tx ns ks i2 n2) := Lib.hid (by rw [HBD2.out, hpt])
                    rw [hpt] at HPT
                    refine HPT.out.mono ?_
                    rintro e' wa ⟨kv, rfl, hpa, hra, hCa⟩
                    have hra2 := hra.wide (B' := M) HMW.out
                    obtain ⟨ak, ck, rfl, hkc, hkm⟩ := hra.form
                    obtain ⟨nk, hnk⟩ : ∃ nk, ks.length = nk := ⟨_, rfl⟩
                    have HNK := Lib.hid hnk
                    rw [hnk] at hra2 hkc hcnt ⊢
                    have hck2 : ck ≤ 9223372036854775807 := by unfold maxLen at hkm; omega
                    have hNa := hCa.blk HI2.out.2.1 (fun e => by have := HORD.out; omega)
                    have m0 := cell_of hNa 0
                    have m4 := cell_of hNa 4
                    have u4 := free_of hNa 4
                    obtain ⟨wb, hwb⟩ : ∃ wb, wa.setCell ⟨w5.heap.size, 4, none⟩ (.slice ak nk ck) = wb := ⟨_, rfl⟩
                    have hCb : Chg (fun q => q = w5.heap.size) wa wb := by rw [← hwb]; exact (Chg.refl (fun q => q = w5.heap.size) wa).set (p := ⟨w5.heap.size, 4, none⟩) (fun _ => rfl) _
                    have hNb : wb.heap[w5.heap.size]? = some (.cells #[.int .u8 18, .int .i64 0, .string tx, .slice ad1 2 c1, .slice ak nk ck] 26) := by rw [← hwb]; exact (blk_set hNa 4 _).trans rfl
                    have HPE := Lib.hid (hpa.chg hCb (fun e => by have := HORD.out; omega))
                    have HNE := Lib.hid hNb
                    have HCE := Lib.hid ((HI2.out.2.2.2.1.trans hCa).andThen hCb (fun q hq (e : q = w5.heap.size) => by have := HORD.out; omega))
                    have HXE := Lib.hid ((HI2.out.2.2.2.2.trans (hCa.mono (fun q _ e => .inl e))).andThen hCb (fun q hq (e : q = w5.heap.size) => by have := HORD.out; omega))
                    have HSE := Lib.hid ((HI2.out.2.2.1.later hCa (fun q (e : q = b) => by have := HORD.out; omega)).stay hCb (fun q hq (e : q = w5.heap.size) => HNO.out q hq e))
                    have HNSE := Lib.hid ((HS.out.2.later hCa (fun q (e : q = b) => by have := HORD.out; have := HORD2.out; omega)).later hCb (fun q (e : q = w5.heap.size) => by have := HORD2.out; omega))
                    have HNRE := Lib.hid (hra2.later hCb (fun q (e : q = w5.heap.size) => by have := HORD2.out; omega))
                    have HAE : Hid (Amb b v L wb) := Lib.hid (HA.out.later HCE.out)
                    have HME := Lib.hid (show M ≤ wb.heap.size by have := HMW.out; have := hCa.size; have := hCb.size; omega)
                    clear hpa hra hra2 hCa hNa hCb hNb HPT hpt hkm hnk HI2 HAR HMW HS HSRk HSRO HBD HBD2
                    have HTK := Lib.hid (take_calls HPE.out HAE.out.tok 2 (by decide) (by have := HLEN.out; omega))
                    go_wp2_with fail
                    cases htk : takeP L fin 2 i2 with
                    | error pq =>
                      obtain ⟨p, q⟩ := pq
                      have HRE : Hid (RR = .error (p, q)) := Lib.hid (by rw [HRG.out, HBD3.out]; unfold closeP; rw [htk])
                      rw [htk] at HTK
                      refine HTK.out.mono ?_
                      rintro e' wz ⟨rfl, hCz⟩
                      go_wp2_with fail
                      rw [HRE.out]
                      exact ⟨rfl, rfl, HCE.out.trans hCz⟩
                    | ok uu =>
                      have HRN : Hid (RR = clausesP L fin okk val k (out ++ [.mk 18 0 tx ns ks]) (ops ++ [tx]) 18 (i2 + 1) n2) := Lib.hid (by rw [HRG.out, HBD3.out]; unfold closeP; rw [htk])
                      rw [htk] at HTK
                      refine HTK.out.mono ?_
                      rintro e' wz ⟨⟨uv, rfl⟩, hpz, hCz⟩
                      have hNz := hCz.blk HNE.out (fun e => by have := HORD.out; omega)
                      have HNDZ := Lib.hid (node_of (k := 18) (tx := tx) (by decide) (HNSE.out.later hCz (fun q (e : q = b) => by have := HORD.out; have := HORD2.out; omega)) (HNRE.out.later hCz (fun q (e : q = b) => by have := HORD.out; have := HORD2.out; omega)))
                      have HSZ := Lib.hid (HSE.out.later hCz (fun q (e : q = b) => by have := HORD.out; omega))
                      have HCZ := Lib.hid (HCE.out.trans hCz)
                      have HXZ := Lib.hid (HXE.out.trans (hCz.mono (fun q _ e => .inl e)))
                      have HMZ := Lib.hid (show M ≤ wz.heap.size by have := HME.out; have := hCz.size; omega)
                      have HRX := Lib.hid (HI.out.2.1.move (X' := fun q => (.slice (some ⟨go, oo, none⟩) (lo + 1) co : Value).ownBlock = some q) HXZ.out (fun q e => by
                        rcases e with e | e
                        · exact .inl (by have := HORD.out; omega)
                        · exact .inr e) HOA.out)
                      obtain ⟨ps, e1, e2, e3⟩ := HRX.out.ex
                      have hpl : ps.length = ln := by rw [← HLS.out.1, ← e1, List.length_map]
                      rw [hpl] at e2
                      have HYA := Lib.hid (e2.kept ((Chg.refl (fun _ => False) wz).alloc (.cells #[.int .u8 18, .int .i64 0, .string tx, .slice ad1 2 c1, .slice ak nk ck] 26)) (fun _ _ h => h))
                      have HYB := Lib.hid (news5 (new_atN wz (.cells #[.int .u8 18, .int .i64 0, .string tx, .slice ad1 2 c1, .slice ak nk ck] 26) wz.heap.size rfl))
                      have HYC := Lib.hid (one5 (18 : Int) 0 tx ad1 ak 2 c1 nk ck)
                      have HYD : Hid (ln + 1 ≤ maxLen ∧ (ln + 1) * 80 ≤ 140737488355328) := Lib.hid (by unfold maxLen; omega)
                      have HE1 := Lib.hid e1
                      have HE3 := Lib.hid e3
                      have HPL := Lib.hid hpl
                      have HPZ := Lib.hid hpz
                      have n0 := cell_of hNz 0
                      have n1' := cell_of hNz 1
                      have n2' := cell_of hNz 2
                      have n3' := cell_of hNz 3
                      have n4 := cell_of hNz 4
                      clear e1 e2 e3 hpl hpz hCz hNz HTK htk HNE HPE HCE HXE HSE HNSE HNRE HAE HME
                      go_wp2_with (at_builtin; refine wpList_append_row _ rfl _ _ 24 rfl 26 iN _ 5 80 twN hk0 hk1 hk2 hk3 rfl (by decide) (.slice ad ln cap) ln (ps.flatMap ndC5) rfl HYA.out ⟨wz.heap.size, 0, none⟩ 1 1 [.int .u8 18, .int .i64 0, .string tx, .slice ad1 2 c1, .slice ak nk ck] rfl rfl HYB.out HYC.out (by decide) HYD.out.1 HYD.out.2 _ rfl ?_)
                      clear HYA HYB HYC HYD
                      intro gg off2 cap2 w3 hrow3 hgrow3 hat3 hlt3
                      have HQQ := Lib.hid (row_moreX (x := .mk 18 0 tx ns ks) (M := M) HE1.out HPL.out HE3.out HRX.out.new HRX.out.apart (by have := HORD.out; have := HORD2.out; omega) HMZ.out (fun q hq => by have := HI.out.2.1.lt q hq; have := HORD.out; have := HORD2.out; omega) HOLT.out HNDZ.out hrow3 hgrow3 hat3)
                      have HSF := Lib.hid (HSZ.out.stay HQQ.out.2 (fun q hq e => HRX.out.apart q e hq))
                      have HKL : Hid ((out ++ [Nd.mk 18 0 tx ns ks]).length = ln + 1) := Lib.hid (by rw [List.length_append, HLS.out.1]; rfl)
                      have HPF := Lib.hid (HPZ.out.chg HQQ.out.2 (fun e => by have := HRX.out.new _ e; have := HORD.out; omega))
                      have HCF := Lib.hid (HCZ.out.andThen HQQ.out.2 (fun q hq e => by have := HRX.out.new _ e; omega))
                      clear hrow3 hgrow3 hat3 hlt3 n0 n1' n2' n3' n4
                      go_wp2_with fail
                      go_roundg gk'
                      case measure => omega
                      case rel => exact ⟨out ++ [.mk 18 0 tx ns ks], (ops ++ [tx]), i2 + 1, n2, k, ln + 1, (lo + 1), 18, _, _, _, _, rfl, rfl, rfl, by omega, by omega, by omega, by omega, by omega, by decide, by decide, HRN, Lib.hid ⟨HKL.out, HOL.out⟩, Lib.hid ⟨HPF.out, HQQ.out.1, HSF.out, HCF.out⟩⟩
          · have hnl : ¬ (18 : Int) < (la : Int) := by omega
            have hbe : ((18 : Int) == (la : Int)) = false := beq_eq_false_iff_ne.2 (by omega)
            obtain ⟨w10, hw10⟩ : ∃ w10, w9.setCell ⟨b, 1, none⟩ (.int .i64 (((i + 1 : Nat) : Int) + 1)) = w10 := ⟨_, rfl⟩
            have hC10 : Chg (fun q => q = b) w9 w10 := by rw [← hw10]; exact (Chg.refl (fun q => q = b) w9).set (p := ⟨b, 1, none⟩) (fun _ => rfl) _
            have hp10 : Psr b v (i + 1 + 1) fin (n + 1) w10 := by rw [← hw10]; exact hp9.at_
            have c1' := cell_of hp9 1
            have f1' := free_of hp9 1
            have hcs : ((i + 1 : Nat) : Int) = (i : Int) + 1 := by push_cast; rfl
            simp only [hcs] at c1' hw10
            have hN10 := hC10.blk HN9.out (fun e => by have := HORD.out; omega)
            have HCO10 := Lib.hid (HCO9.out.trans hC10)
            clear hp9 hcs HP9 HCO9 HA9 hbad c1 f1
            have HP10 := Lib.hid hp10
            have HA10 := Lib.hid (HA.out.later (HI.out.2.2.2.trans HCO10.out))
            have HN10 := Lib.hid hN10
            have HSO10 := Lib.hid (HI.out.2.2.1.later HCO10.out (fun q (e : q = b) => by have := HORD.out; omega))
            have HNM := Lib.hid (name_calls hp10 HA10.out.tok ops (.slice ado lo capo) (HSO10.out.names.keep (keep_off _ _)) (by have := HLEN.out; omega))
            have z0 := cell_of hN10 0
            clear hC10 hp10 hN10
            go_wp2_with fail
            cases hnm : nameP L fin ops (i + 1 + 1) with
            | error pq =>
              obtain ⟨p, q⟩ := pq
              have HRE : Hid (RR = .error (p, q)) := Lib.hid (by rw [HRG.out]; unfold opP; rw [if_pos rfl, hnm])
              rw [hnm] at HNM
              refine HNM.out.mono ?_
              rintro e' w11 ⟨rfl, hC11⟩
              go_wp2_with fail
              rw [HRE.out]
              exact ⟨rfl, rfl, (HI.out.2.2.2.trans HCO10.out).trans hC11⟩
            | ok tx =>
              have HRG2 : Hid (RR = match bodyP L fin val 18 tx (i + 1 + 1 + 1) (n + 1) with | .error e => .error e | .ok (x, i2, n2) => clausesP L fin okk val k (out ++ [x]) (ops ++ [tx]) 18 i2 n2) := Lib.hid (by rw [HRG.out]; unfold opP; rw [if_pos rfl, hnm])
              rw [hnm] at HNM
              refine HNM.out.mono ?_
              rintro e' w11 ⟨rfl, hp11, hC11⟩
              have hN11 := hC11.blk HN10.out (fun e => by have := HORD.out; omega)
              have k0 := cell_of hN11 0
              have k2 := cell_of hN11 2
              have kf2 := free_of hN11 2
              obtain ⟨w12, hw12⟩ : ∃ w12, w11.setCell ⟨w5.heap.size, 2, none⟩ (.string tx) = w12 := ⟨_, rfl⟩
              have hC12 : Chg (fun q => q = w5.heap.size) w11 w12 := by rw [← hw12]; exact (Chg.refl (fun q => q = w5.heap.size) w11).set (p := ⟨w5.heap.size, 2, none⟩) (fun _ => rfl) _
              have hN12 : w12.heap[w5.heap.size]? = some (.cells #[.int .u8 18, .int .i64 0, .string tx, .slice none 0 0, .slice none 0 0] 26) := by rw [← hw12]; exact (blk_set hN11 2 _).trans rfl
              have HN12 := Lib.hid hN12
              have HP12 := Lib.hid (hp11.chg hC12 (fun e => by have := HORD.out; omega))
              have HCO12 := Lib.hid ((HCO10.out.trans hC11).andThen hC12 (fun q hq (e : q = w5.heap.size) => by have := HORD.out; omega))
              have HOO : Hid (∀ q, (Value.slice ado lo capo).ownBlock = some q → q < wo.heap.size) := Lib.hid HI.out.2.2.1.row.lt
              have HSO12 := Lib.hid ((HSO10.out.later hC11 (fun q (e : q = b) => by have := HORD.out; omega)).stay hC12 (fun q hq (e : q = w5.heap.size) => by have := HOO.out q hq; have := HORD.out; omega))
              have hro := HSO12.out.row
              rw [HLS.out.2] at hro
              have HYA := Lib.hid (hro.kept ((Chg.refl (fun _ => False) w12).alloc (.cells #[.string tx] 9)) (fun _ _ h => h))
              have HYB := Lib.hid (news_oneP (new_atSP w12 (.cells #[.string tx] 9) w12.heap.size rfl))
              have HYD : Hid (lo + 1 ≤ maxLen ∧ (lo + 1) * 16 ≤ 140737488355328) := Lib.hid (by unfold maxLen; omega)
              have HYC : Hid (∀ u ∈ [Value.string tx], u.oneCell' = true) := Lib.hid (fun u hu => by simp only [List.mem_cons, List.not_mem_nil, or_false] at hu; subst hu; rfl)
              have HSZ12 := Lib.hid (show wo.heap.size ≤ w12.heap.size by exact HCO12.out.size)
              have HNL12 := Lib.hid (lt_of_block hN12)
              have t2 := cell_of hN12 2
              have t0 := cell_of hN12 0
              clear hC11 hp11 hN11 hC12 hN12 hro HNM hnm HRG
              have HRG := HRG2
              clear HRG2
              go_wp2_with (at_builtin; refine wpList_append_row _ rfl _ _ 23 rfl 9 iS _ 1 16 twSP hj0 hj1 hj2 hj3 rfl (by decide) (.slice ado lo capo) lo (ops.map Value.string) rfl HYA.out ⟨w12.heap.size, 0, none⟩ 1 1 [.string tx] rfl rfl HYB.out HYC.out (by decide) HYD.out.1 HYD.out.2 _ rfl ?_)
              clear HYA HYB HYC HYD
              intro go oo co wA hrow3 hgrow3 hat3 hlt3
              have hCA : Chg (fun q => (Value.slice ado lo capo).ownBlock = some q) w12 wA := ((Chg.refl _ w12).alloc _).grown hgrow3 (fun k _ e => e)
              have HPA := Lib.hid (HP12.out.chg hCA (fun e => by have := HI.out.2.2.1.new _ e; have := HORD.out; omega))
              have HNA := Lib.hid (hCA.blk HN12.out (fun e => by have := HOO.out _ e; have := HORD.out; omega))
              have HSA := Lib.hid (HSO12.out.snoc (H := w12.heap.size + 1) HLS.out.2 hrow3 (fun g hg => by rcases hat3 with e | e; (left; rw [e]; exact hg); (right; have e2 : go = g := (by simpa [Value.ownBlock] using hg); rw [← e2, e])) (by have := HORD.out; have := HSZ12.out; omega))
              have HCA := Lib.hid ((HI.out.2.2.2.trans HCO12.out).andThen hCA (fun q hq e => by have := HI.out.2.2.1.new _ e; omega))
              have HXA : Hid (Chg (fun q => q = b ∨ (Value.slice ado lo capo).ownBlock = some q) wo wA) := Lib.hid ((HCO12.out.mono (fun q _ e => .inl e)).trans (hCA.mono (fun q _ e => .inr e)))
              have hge : ∀ q, (Value.slice (some ⟨go, oo, none⟩) (lo + 1) co).ownBlock = some q → (Value.slice ado lo capo).ownBlock = some q ∨ q = w12.heap.size + 1 := fun q hq => by
                have e2 : go = q := by simpa [Value.ownBlock] using hq
                rcases hat3 with e | e
                · left; rw [e, e2]
                · right; rw [← e2, e]
              have HOA : Hid (∀ q, q < wo.heap.size → (Value.slice (some ⟨go, oo, none⟩) (lo + 1) co).ownBlock = some q → (Value.slice ado lo capo).ownBlock = some q) := Lib.hid (fun q hq e => by
                rcases hge q e with h | h
                · exact h
                · have := HSZ12.out; omega)
              have HNO : Hid (∀ q, (Value.slice (some ⟨go, oo, none⟩) (lo + 1) co).ownBlock = some q → q ≠ w5.heap.size) := Lib.hid (fun q e h => by
                rcases hge q e with g | g
                · have := HOO.out q g; have := HORD.out; omega
                · have := HNL12.out; omega)
              have HOL : Hid ((ops ++ [tx]).length = lo + 1) := Lib.hid (by rw [List.length_append, HLS.out.2]; rfl)
              obtain ⟨j0, hj0'⟩ : ∃ j0, i + 1 + 1 + 1 = j0 := ⟨_, rfl⟩
              rw [hj0'] at HPA HRG
              clear hCA hge hrow3 hgrow3 hat3 hlt3 hj0' t2 t0 HSO12 HCO12 HP12 HN12 HNL12 HSZ12 HOO HSO10 HP10 HA10 HN10 HCO10
              obtain ⟨M, hM⟩ : ∃ M, wA.heap.size = M := ⟨_, rfl⟩
              have HORD2 : Hid (w5.heap.size < M) := Lib.hid (by rw [← hM]; exact lt_of_block HNA.out)
              have HMA := Lib.hid hM
              have HOLT : Hid (∀ q, (.slice (some ⟨go, oo, none⟩) (lo + 1) co : Value).ownBlock = some q → q < M) := Lib.hid (by rw [← hM]; exact HSA.out.row.lt)
              obtain ⟨SR, hSR⟩ : ∃ SR, someP L fin 2 [] j0 = SR := ⟨_, rfl⟩
              have HSR0 := Lib.hid hSR.symm
              have HBD : Hid (bodyP L fin val 18 tx j0 (n + 1) = bodyK L fin val 18 tx (n + 1) SR) := Lib.hid (by rw [← hSR]; rfl)
              have HST : Hid (Psr b v j0 fin (n + 1) wA ∧ (wA.heap[w5.heap.size]? = some (.cells #[.int .u8 18, .int .i64 0, .string tx, .slice none 0 0, .slice none 0 0] 26)) ∧ SRow wA w.heap.size (.slice (some ⟨go, oo, none⟩) (lo + 1) co) (ops ++ [tx]) ∧ Chg (· = b) w wA ∧ Chg (fun q => q = b ∨ (Value.slice ado lo capo).ownBlock = some q) wo wA) := Lib.hid ⟨HPA.out, HNA.out, HSA.out, HCA.out, HXA.out⟩
              have xA0 := cell_of HNA.out 0
              have hix := run_ix18
              clear hM hSR HPA HNA HSA HCA HXA
              go_wp2_with fail
              go_loopg [103] 3 (fun g jv wr => ∃ (ns : List ByteArray) (j1 kk l1 : Nat) (ad1 : Option Addr) (c1 : Nat), jv = .int .i64 (l1 : Int) ∧ kk + l1 = 2 ∧ 3 ≤ g + l1 ∧ c1 ≤ 9223372036854775807 ∧ l1 ≤ c1 ∧ M ≤ wr.heap.size ∧ Hid (SR = someP L fin kk ns j1) ∧ Hid (ns.length = l1 ∧ SRow wr M (.slice ad1 l1 c1) ns) ∧ Hid (Psr b v j1 fin (n + 1) wr ∧ (wr.heap[w5.heap.size]? = some (.cells #[.int .u8 18, .int .i64 0, .string tx, .slice ad1 l1 c1, .slice none 0 0] 26)) ∧ SRow wr w.heap.size (.slice (some ⟨go, oo, none⟩) (lo + 1) co) (ops ++ [tx]) ∧ Chg (· = b) w wr ∧ Chg (fun q => q = b ∨ (Value.slice ado lo capo).ownBlock = some q) wo wr))
              case atStart => exact ⟨[], j0, 2, 0, none, 0, rfl, rfl, by omega, by decide, by decide, by rw [HMA.out]; exact Nat.le_refl _, HSR0, Lib.hid ⟨rfl, SRow.nil _ _⟩, HST⟩
              case round =>
                obtain ⟨ns, j1, kk, l1, ad1, c1, rfl, hkk, hgk, hcc1, hcc2, hMw, HSRk, HS, HI2⟩ := hrel
                obtain ⟨gj', rfl⟩ : ∃ q, gk = q + 1 := ⟨gk - 1, by omega⟩
                have hl1 : l1 ≤ 2 := by omega
                have HAR := Lib.hid (HA.out.later HI2.out.2.2.2.1)
                have HMW := Lib.hid hMw
                by_cases hlt : (l1 : Int) < 2
                · obtain ⟨kk, rfl⟩ : ∃ q, kk = q + 1 := ⟨kk - 1, by omega⟩
                  have hl4 : l1 < 2 := by omega
                  have HNN : Hid (SR = match nameP L fin ns j1 with | .error e => .error e | .ok s2 => someP L fin kk (ns ++ [s2]) (j1 + 1)) := Lib.hid (by rw [HSRk.out, someP]; try rfl)
                  obtain ⟨wq, hwq⟩ : ∃ wq, wq = wr := ⟨_, rfl⟩
                  subst hwq
                  have hdr : Chg (fun _ => False) wq wq.drew := (Chg.refl _ wq).drew
                  have hX := chgb (b := b) hdr
                  have HSRQ := Lib.hid (HS.out.2.later hX (fun q (e : q = b) => by have := HORD.out; have := HORD2.out; omega))
                  have HLN := Lib.hid HS.out.1
                  have HMQ := Lib.hid hMw
                  have HNW := Lib.hid (name_calls (HI2.out.1.chg hdr (fun e => e)) (HAR.out.later hX).tok ns (.slice ad1 l1 c1) (HSRQ.out.names.keep (keep_off _ _)) (by have := HLEN.out; omega))
                  have HNQ := Lib.hid HI2.out.2.1
                  have x3 := cell_of HNQ.out 3
                  clear hX
                  go_wp2_with fail
                  cases hn2 : nameP L fin ns j1 with
                  | error pq =>
                    obtain ⟨p, q⟩ := pq
                    rw [hn2] at HNW
                    refine wp_region_T (S := fun W => W.cell? ⟨w5.heap.size, 3, none⟩ = some (.slice ad1 l1 c1)) 8 2 rfl (by kernel_rfl) ?_ (fun hHeld => ?_)
                    · exact hdr.cell x3 (fun e => e)
                    refine wpAnyT_take (i := 0) (v := ?tvb11) rfl (by kernel_rfl) (by decide) (by kernel_rfl) (by kernel_rfl) (fun _ _ _ h => h) (Or.inl ⟨by rfl, ?tyb11⟩) (by assumption) ?trb11
                    case tyb11 => intro w hSw; (try dsimp only at hSw); go_simp; (try with_reducible rfl)
                    try simp only [Act.put, List.setIfInBounds_toArray, List.set_cons_zero, List.set_cons_succ, List.getElem_toArray, List.getElem_cons_zero, List.getElem_cons_succ, Nat.zero_add]
                    refine wpAnyT_take (i := 1) (v := ?tvb12) rfl (by kernel_rfl) (by decide) (by kernel_rfl) (by kernel_rfl) (fun _ _ _ h => h) (Or.inl ⟨by rfl, ?tyb12⟩) (by assumption) ?trb12
                    case tyb12 => intro w hSw; (try dsimp only at hSw); go_simp; (try with_reducible rfl)
                    try simp only [Act.put, List.setIfInBounds_toArray, List.set_cons_zero, List.set_cons_succ, List.getElem_toArray, List.getElem_cons_zero, List.getElem_cons_succ, Nat.zero_add]
                    refine wpAnyT_take (i := 2) (v := ?tvb13) rfl (by kernel_rfl) (by decide) (by kernel_rfl) (by kernel_rfl) (fun _ _ _ h => h) (Or.inl ⟨by rfl, ?tyb13⟩) (by assumption) ?trb13
                    case tyb13 => intro w hSw; (try dsimp only at hSw); go_simp; (try with_reducible rfl)
                    try simp only [Act.put, List.setIfInBounds_toArray, List.set_cons_zero, List.set_cons_succ, List.getElem_toArray, List.getElem_cons_zero, List.getElem_cons_succ, Nat.zero_add]
                    refine wpAnyT_take (i := 3) (v := ?tvb14) rfl (by kernel_rfl) (by decide) (by kernel_rfl) (by kernel_rfl) (fun _ _ _ h => h) (Or.inl ⟨by rfl, ?tyb14⟩) (by assumption) ?trb14
                    case tyb14 => intro w hSw; (try dsimp only at hSw); go_simp; (try with_reducible rfl)
                    try simp only [Act.put, List.setIfInBounds_toArray, List.set_cons_zero, List.set_cons_succ, List.getElem_toArray, List.getElem_cons_zero, List.getElem_cons_succ, Nat.zero_add]
                    refine wpAnyT_take (i := 4) (v := ?tvb15) rfl (by kernel_rfl) (by decide) (by kernel_rfl) (by kernel_rfl) (fun _ _ _ h => h) (Or.inl ⟨by rfl, ?tyb15⟩) (by assumption) ?trb15
                    case tyb15 => intro w hSw; (try dsimp only at hSw); go_simp; (try with_reducible rfl)
                    try simp only [Act.put, List.setIfInBounds_toArray, List.set_cons_zero, List.set_cons_succ, List.getElem_toArray, List.getElem_cons_zero, List.getElem_cons_succ, Nat.zero_add]
                    refine wpAnyT_ready (rs := [5]) (by kernel_rfl) (by kernel_rfl) ?_
                    refine AllReadyT.cons rfl (fun K hK => ?_) ?_
                    · go_simp
                      refine HNW.out.mono ?_
                      rintro e' wc ⟨rfl, hCc⟩
                      have HRE : Hid (RR = .error (p, q)) := Lib.hid (by rw [HRG.out, HBD.out, HNN.out, hn2]; try rfl)
                      go_wp2_with fail
                      rw [HRE.out]
                      exact ⟨rfl, rfl, HI2.out.2.2.2.1.trans ((chgb hdr).trans hCc)⟩
                    exact AllReadyT.nil
                  | ok s2 =>
                    rw [hn2] at HNW
                    refine wp_region_T (S := fun W => W.cell? ⟨w5.heap.size, 3, none⟩ = some (.slice ad1 l1 c1)) 8 2 rfl (by kernel_rfl) ?_ (fun hHeld => ?_)
                    · exact hdr.cell x3 (fun e => e)
                    refine wpAnyT_take (i := 0) (v := ?tvb16) rfl (by kernel_rfl) (by decide) (by kernel_rfl) (by kernel_rfl) (fun _ _ _ h => h) (Or.inl ⟨by rfl, ?tyb16⟩) (by assumption) ?trb16
                    case tyb16 => intro w hSw; (try dsimp only at hSw); go_simp; (try with_reducible rfl)
                    try simp only [Act.put, List.setIfInBounds_toArray, List.set_cons_zero, List.set_cons_succ, List.getElem_toArray, List.getElem_cons_zero, List.getElem_cons_succ, Nat.zero_add]
                    refine wpAnyT_take (i := 1) (v := ?tvb17) rfl (by kernel_rfl) (by decide) (by kernel_rfl) (by kernel_rfl) (fun _ _ _ h => h) (Or.inl ⟨by rfl, ?tyb17⟩) (by assumption) ?trb17
                    case tyb17 => intro w hSw; (try dsimp only at hSw); go_simp; (try with_reducible rfl)
                    try simp only [Act.put, List.setIfInBounds_toArray, List.set_cons_zero, List.set_cons_succ, List.getElem_toArray, List.getElem_cons_zero, List.getElem_cons_succ, Nat.zero_add]
                    refine wpAnyT_take (i := 2) (v := ?tvb18) rfl (by kernel_rfl) (by decide) (by kernel_rfl) (by kernel_rfl) (fun _ _ _ h => h) (Or.inl ⟨by rfl, ?tyb18⟩) (by assumption) ?trb18
                    case tyb18 => intro w hSw; (try dsimp only at hSw); go_simp; (try with_reducible rfl)
                    try simp only [Act.put, List.setIfInBounds_toArray, List.set_cons_zero, List.set_cons_succ, List.getElem_toArray, List.getElem_cons_zero, List.getElem_cons_succ, Nat.zero_add]
                    refine wpAnyT_take (i := 3) (v := ?tvb19) rfl (by kernel_rfl) (by decide) (by kernel_rfl) (by kernel_rfl) (fun _ _ _ h => h) (Or.inl ⟨by rfl, ?tyb19⟩) (by assumption) ?trb19
                    case tyb19 => intro w hSw; (try dsimp only at hSw); go_simp; (try with_reducible rfl)
                    try simp only [Act.put, List.setIfInBounds_toArray, List.set_cons_zero, List.set_cons_succ, List.getElem_toArray, List.getElem_cons_zero, List.getElem_cons_succ, Nat.zero_add]
                    refine wpAnyT_take (i := 4) (v := ?tvb20) rfl (by kernel_rfl) (by decide) (by kernel_rfl) (by kernel_rfl) (fun _ _ _ h => h) (Or.inl ⟨by rfl, ?tyb20⟩) (by assumption) ?trb20
                    case tyb20 => intro w hSw; (try dsimp only at hSw); go_simp; (try with_reducible rfl)
                    try simp only [Act.put, List.setIfInBounds_toArray, List.set_cons_zero, List.set_cons_succ, List.getElem_toArray, List.getElem_cons_zero, List.getElem_cons_succ, Nat.zero_add]
                    refine wpAnyT_ready (rs := [5]) (by kernel_rfl) (by kernel_rfl) ?_
                    refine AllReadyT.cons rfl (fun K hK => ?_) ?_
                    · go_simp
                      refine HNW.out.mono ?_
                      rintro e' wc ⟨rfl, hpc, hCc0⟩
                      have hCc := (chgb (b := b) hdr).trans hCc0
                      have q3 := hCc.cell x3 (fun (e : w5.heap.size = b) => by have := HORD.out; omega)
                      have HSRC := Lib.hid (HSRQ.out.later hCc0 (fun q (e : q = b) => by have := HORD.out; have := HORD2.out; omega))
                      have HPC := Lib.hid hpc
                      have HCC := Lib.hid hCc
                      have hrc := HSRC.out.row
                      rw [HLN.out] at hrc
                      have HRC0 := Lib.hid hrc
                      clear hrc hpc hCc hCc0 HNW
                      refine hK.out _ _ ?_ (fun hHeld => ?_)
                      · first | assumption | exact q3d | exact cell_alSP _ q3
                      clear hK K
                      try simp only [Act.put, List.setIfInBounds_toArray, List.set_cons_zero, List.set_cons_succ, List.getElem_toArray, List.getElem_cons_zero, List.getElem_cons_succ, Nat.zero_add]
                      refine wpAnyT_ready (rs := [6]) (by kernel_rfl) (by kernel_rfl) ?_
                      refine AllReadyT.cons rfl (fun K hK => ?_) ?_
                      · go_simp
                        refine hK.out _ _ ?_ (fun hHeld => ?_)
                        · first | assumption | exact q3d | exact cell_alSP _ q3
                        clear hK K
                        try simp only [Act.put, List.setIfInBounds_toArray, List.set_cons_zero, List.set_cons_succ, List.getElem_toArray, List.getElem_cons_zero, List.getElem_cons_succ, Nat.zero_add]
                        refine wpAnyT_ready (rs := [7]) (by kernel_rfl) (by kernel_rfl) ?_
                        refine AllReadyT.cons rfl (fun K hK => ?_) ?_
                        · refine step_append_row _ (by rfl) _ _ _ (by rfl) 9 iS _ 1 16 twSP hj0 hj1 hj2 hj3 rfl (by omega) (.slice ad1 l1 c1) l1 (ns.map Value.string) (by rfl) (HRC0.out.kept ?nc (fun _ _ h => h)) ⟨wc.heap.size, 0, none⟩ 1 1 [.string s2] (by rfl) rfl ?nb ?ny (by decide) (by unfold maxLen; omega) (by omega) _ (by rfl) ?_
                          case nb => exact news_oneP (new_atSP _ _ _ (by simp))
                          case ny => intro u hu; simp only [List.mem_cons, List.not_mem_nil, or_false] at hu; subst hu; rfl
                          case nc => (repeat (first | exact Chg.refl _ _ | apply Chg.alloc | apply Chg.drew | apply Chg.drewN))
                          intro gg off2 cap2 wd hrow2 hgrow2 hat2 hlt2
                          have hCd : Chg (fun q => (Value.slice ad1 l1 c1).ownBlock = some q) wc wd := (by refine Chg.grown ?_ hgrow2 (fun k hk e => e); (repeat (first | exact Chg.refl _ _ | apply Chg.alloc | apply Chg.drew | apply Chg.drewN)))
                          have nw : ∀ q, (Value.slice ad1 l1 c1).ownBlock = some q → M ≤ q := HSRC.out.new
                          have q3d := hCd.cell q3 (fun e => by have h : M ≤ w5.heap.size := nw _ e; have := HORD2.out; omega)
                          have hNd := hCd.blk (HCC.out.blk HNQ.out (fun e => by have := HORD.out; omega)) (fun e => by have := nw _ e; have := HORD2.out; omega)
                          have u3d := free_of hNd 3
                          have hc2 : cap2 ≤ 9223372036854775807 ∧ l1 + 1 ≤ cap2 := by obtain ⟨_, _, e, hm0, hm⟩ := hrow2.form; simp only [Value.slice.injEq] at e; obtain ⟨_, _, rfl⟩ := e; unfold maxLen at hm; omega
                          have HSRD := Lib.hid (HSRC.out.snoc (H := wc.heap.size + 1) HLN.out hrow2 (fun g hg => by rcases hat2 with e | e; (left; rw [e]; exact hg); (right; have e2 : gg = g := (by simpa [Value.ownBlock] using hg); rw [← e2, e]; simp)) (by have := HORD2.out; have := HMQ.out; have := HCC.out.size; omega))
                          have HCD := Lib.hid hCd
                          have HND := Lib.hid hNd
                          have HNW2 := Lib.hid nw
                          clear hrow2 hgrow2 hat2 hCd hNd hlt2 nw
                          refine hK.out _ _ ?_ (fun hHeld => ?_)
                          · first | assumption | exact q3d | exact cell_alSP _ q3
                          clear hK K
                          try simp only [Act.put, List.setIfInBounds_toArray, List.set_cons_zero, List.set_cons_succ, List.getElem_toArray, List.getElem_cons_zero, List.getElem_cons_succ, Nat.zero_add]
                          refine wpAnyT_done (by kernel_rfl) ?_
                          simp only [List.drop_succ_cons, List.drop_zero]
                          obtain ⟨we, hwe⟩ : ∃ we, wd.setCell ⟨w5.heap.size, 3, none⟩ (.slice (some ⟨gg, off2, none⟩) (l1 + 1) cap2) = we := ⟨_, rfl⟩
                          have hCe : Chg (fun q => q = w5.heap.size) wd we := by rw [← hwe]; exact (Chg.refl (fun q => q = w5.heap.size) wd).set (p := ⟨w5.heap.size, 3, none⟩) (fun _ => rfl) _
                          have hNe : we.heap[w5.heap.size]? = some (.cells #[.int .u8 18, .int .i64 0, .string tx, .slice (some ⟨gg, off2, none⟩) (l1 + 1) cap2, .slice none 0 0] 26) := by rw [← hwe]; exact (blk_set HND.out 3 _).trans rfl
                          have HRE : Hid (SR = someP L fin kk (ns ++ [s2]) (j1 + 1)) := Lib.hid (by rw [HNN.out, hn2])
                          have HSO1 : Hid (SRow we w.heap.size (.slice (some ⟨go, oo, none⟩) (lo + 1) co) (ops ++ [tx])) := Lib.hid (((HI2.out.2.2.1.later HCC.out (fun q (e : q = b) => by have := HORD.out; omega)).stay HCD.out (fun q hq e => by have := HOLT.out q hq; have := HNW2.out _ e; omega)).stay hCe (fun q hq (e : q = w5.heap.size) => HNO.out q hq e))
                          have HZ : Hid (Psr b v (j1 + 1) fin (n + 1) we ∧ (we.heap[w5.heap.size]? = some (.cells #[.int .u8 18, .int .i64 0, .string tx, .slice (some ⟨gg, off2, none⟩) (l1 + 1) cap2, .slice none 0 0] 26)) ∧ SRow we w.heap.size (.slice (some ⟨go, oo, none⟩) (lo + 1) co) (ops ++ [tx]) ∧ Chg (· = b) w we ∧ Chg (fun q => q = b ∨ (Value.slice ado lo capo).ownBlock = some q) wo we) := Lib.hid ⟨(HPC.out.chg HCD.out (fun e => by have := HORD.out; have := HORD2.out; have := HNW2.out _ e; omega)).chg hCe (fun e => by have := HORD.out; omega), hNe, HSO1.out, ((HI2.out.2.2.2.1.trans HCC.out).andThen HCD.out (fun q hq e => by have := HORD.out; have := HORD2.out; have := HNW2.out _ e; omega)).andThen hCe (fun q hq (e : q = w5.heap.size) => by have := HORD.out; omega), ((HI2.out.2.2.2.2.trans (HCC.out.mono (fun q _ e => .inl e))).andThen HCD.out (fun q hq e => by have := HORD.out; have := HORD2.out; have := HNW2.out _ e; omega)).andThen hCe (fun q hq (e : q = w5.heap.size) => by have := HORD.out; omega)⟩
                          have HZS : Hid ((ns ++ [s2]).length = l1 + 1 ∧ SRow we M (.slice (some ⟨gg, off2, none⟩) (l1 + 1) cap2) (ns ++ [s2])) := Lib.hid ⟨by rw [List.length_append, HLN.out]; rfl, HSRD.out.later hCe (fun q (e : q = w5.heap.size) => by have := HORD2.out; omega)⟩
                          have hMe : M ≤ we.heap.size := by have := HMQ.out; have := HCC.out.size; have := HCD.out.size; have := hCe.size; omega
                          clear hCe hNe x3 q3 hdr hn2 HSO1
                          go_wp2_with fail
                          go_roundg gj'
                          case measure => omega
                          case rel => exact ⟨ns ++ [s2], j1 + 1, kk, l1 + 1, _, _, by push_cast; rfl, by omega, by omega, hc2.1, hc2.2, hMe, HRE, HZS, HZ⟩
                        exact AllReadyT.nil
                      exact AllReadyT.nil
                    exact AllReadyT.nil
                · have hkk0 : kk = 0 := by omega
                  obtain rfl : l1 = 2 := by omega
                  have HSRO : Hid (SR = .ok (ns, j1)) := Lib.hid (by rw [HSRk.out, hkk0]; rfl)
                  have HBD2 : Hid (bodyP L fin val 18 tx j0 (n + 1) = match partsP L fin val 1 4002 [] j1 (n + 1) with | .error e => .error e | .ok (ks, i2, n2) => closeP L fin 18 tx ns ks i2 n2) := Lib.hid (by rw [HBD.out, HSRO.out]; try rfl)
                  have HPT := Lib.hid (parts_calls deep (by omega) 1 ⟨by decide, by decide⟩ val HVL.out HVN.out j1 (n + 1) wr HI2.out.1 HAR.out hn1)
                  clear hkk0 hkk hlt
                  go_wp2_with fail
                  cases hpt : partsP L fin val 1 4002 [] j1 (n + 1) with
                  | error pq =>
                    obtain ⟨p, q⟩ := pq
                    have HRE : Hid (RR = .error (p, q)) := Lib.hid (by rw [HRG.out, HBD2.out, hpt])
                    rw [hpt] at HPT
                    refine HPT.out.mono ?_
                    rintro e' wa ⟨rfl, hCa⟩
                    go_wp2_with fail
                    rw [HRE.out]
                    exact ⟨rfl, rfl, HI2.out.2.2.2.1.trans hCa⟩
                  | ok xr =>
                    obtain ⟨ks, i2, n2⟩ := xr
                    have hcnt : n2 ≤ 4000 ∧ ks.length + (n + 1) ≤ n2 := parts_count HVN.out _ _ _ _ _ _ _ hpt hn1
                    have HBD3 : Hid (bodyP L fin val 18 tx j0 (n + 1) = closeP L fin 18 tx ns ks i2 n2) := Lib.hid (by rw [HBD2.out, hpt])
                    rw [hpt] at HPT
                    refine HPT.out.mono ?_
                    rintro e' wa ⟨kv, rfl, hpa, hra, hCa⟩
                    have hra2 := hra.wide (B' := M) HMW.out
                    obtain ⟨ak, ck, rfl, hkc, hkm⟩ := hra.form
                    obtain ⟨nk, hnk⟩ : ∃ nk, ks.length = nk := ⟨_, rfl⟩
                    have HNK := Lib.hid hnk
                    rw [hnk] at hra2 hkc hcnt ⊢
                    have hck2 : ck ≤ 9223372036854775807 := by unfold maxLen at hkm; omega
                    have hNa := hCa.blk HI2.out.2.1 (fun e => by have := HORD.out; omega)
                    have m0 := cell_of hNa 0
                    have m4 := cell_of hNa 4
                    have u4 := free_of hNa 4
                    obtain ⟨wb, hwb⟩ : ∃ wb, wa.setCell ⟨w5.heap.size, 4, none⟩ (.slice ak nk ck) = wb := ⟨_, rfl⟩
                    have hCb : Chg (fun q => q = w5.heap.size) wa wb := by rw [← hwb]; exact (Chg.refl (fun q => q = w5.heap.size) wa).set (p := ⟨w5.heap.size, 4, none⟩) (fun _ => rfl) _
                    have hNb : wb.heap[w5.heap.size]? = some (.cells #[.int .u8 18, .int .i64 0, .string tx, .slice ad1 2 c1, .slice ak nk ck] 26) := by rw [← hwb]; exact (blk_set hNa 4 _).trans rfl
                    have HPE := Lib.hid (hpa.chg hCb (fun e => by have := HORD.out; omega))
                    have HNE := Lib.hid hNb
                    have HCE := Lib.hid ((HI2.out.2.2.2.1.trans hCa).andThen hCb (fun q hq (e : q = w5.heap.size) => by have := HORD.out; omega))
                    have HXE := Lib.hid ((HI2.out.2.2.2.2.trans (hCa.mono (fun q _ e => .inl e))).andThen hCb (fun q hq (e : q = w5.heap.size) => by have := HORD.out; omega))
                    have HSE := Lib.hid ((HI2.out.2.2.1.later hCa (fun q (e : q = b) => by have := HORD.out; omega)).stay hCb (fun q hq (e : q = w5.heap.size) => HNO.out q hq e))
                    have HNSE := Lib.hid ((HS.out.2.later hCa (fun q (e : q = b) => by have := HORD.out; have := HORD2.out; omega)).later hCb (fun q (e : q = w5.heap.size) => by have := HORD2.out; omega))
                    have HNRE := Lib.hid (hra2.later hCb (fun q (e : q = w5.heap.size) => by have := HORD2.out; omega))
                    have HAE : Hid (Amb b v L wb) := Lib.hid (HA.out.later HCE.out)
                    have HME := Lib.hid (show M ≤ wb.heap.size by have := HMW.out; have := hCa.size; have := hCb.size; omega)
                    clear hpa hra hra2 hCa hNa hCb hNb HPT hpt hkm hnk HI2 HAR HMW HS HSRk HSRO HBD HBD2
                    have HTK := Lib.hid (take_calls HPE.out HAE.out.tok 2 (by decide) (by have := HLEN.out; omega))
                    go_wp2_with fail
                    cases htk : takeP L fin 2 i2 with
                    | error pq =>
                      obtain ⟨p, q⟩ := pq
                      have HRE : Hid (RR = .error (p, q)) := Lib.hid (by rw [HRG.out, HBD3.out]; unfold closeP; rw [htk])
                      rw [htk] at HTK
                      refine HTK.out.mono ?_
                      rintro e' wz ⟨rfl, hCz⟩
                      go_wp2_with fail
                      rw [HRE.out]
                      exact ⟨rfl, rfl, HCE.out.trans hCz⟩
                    | ok uu =>
                      have HRN : Hid (RR = clausesP L fin okk val k (out ++ [.mk 18 0 tx ns ks]) (ops ++ [tx]) 18 (i2 + 1) n2) := Lib.hid (by rw [HRG.out, HBD3.out]; unfold closeP; rw [htk])
                      rw [htk] at HTK
                      refine HTK.out.mono ?_
                      rintro e' wz ⟨⟨uv, rfl⟩, hpz, hCz⟩
                      have hNz := hCz.blk HNE.out (fun e => by have := HORD.out; omega)
                      have HNDZ := Lib.hid (node_of (k := 18) (tx := tx) (by decide) (HNSE.out.later hCz (fun q (e : q = b) => by have := HORD.out; have := HORD2.out; omega)) (HNRE.out.later hCz (fun q (e : q = b) => by have := HORD.out; have := HORD2.out; omega)))
                      have HSZ := Lib.hid (HSE.out.later hCz (fun q (e : q = b) => by have := HORD.out; omega))
                      have HCZ := Lib.hid (HCE.out.trans hCz)
                      have HXZ := Lib.hid (HXE.out.trans (hCz.mono (fun q _ e => .inl e)))
                      have HMZ := Lib.hid (show M ≤ wz.heap.size by have := HME.out; have := hCz.size; omega)
                      have HRX := Lib.hid (HI.out.2.1.move (X' := fun q => (.slice (some ⟨go, oo, none⟩) (lo + 1) co : Value).ownBlock = some q) HXZ.out (fun q e => by
                        rcases e with e | e
                        · exact .inl (by have := HORD.out; omega)
                        · exact .inr e) HOA.out)
                      obtain ⟨ps, e1, e2, e3⟩ := HRX.out.ex
                      have hpl : ps.length = ln := by rw [← HLS.out.1, ← e1, List.length_map]
                      rw [hpl] at e2
                      have HYA := Lib.hid (e2.kept ((Chg.refl (fun _ => False) wz).alloc (.cells #[.int .u8 18, .int .i64 0, .string tx, .slice ad1 2 c1, .slice ak nk ck] 26)) (fun _ _ h => h))
                      have HYB := Lib.hid (news5 (new_atN wz (.cells #[.int .u8 18, .int .i64 0, .string tx, .slice ad1 2 c1, .slice ak nk ck] 26) wz.heap.size rfl))
                      have HYC := Lib.hid (one5 (18 : Int) 0 tx ad1 ak 2 c1 nk ck)
                      have HYD : Hid (ln + 1 ≤ maxLen ∧ (ln + 1) * 80 ≤ 140737488355328) := Lib.hid (by unfold maxLen; omega)
                      have HE1 := Lib.hid e1
                      have HE3 := Lib.hid e3
                      have HPL := Lib.hid hpl
                      have HPZ := Lib.hid hpz
                      have n0 := cell_of hNz 0
                      have n1' := cell_of hNz 1
                      have n2' := cell_of hNz 2
                      have n3' := cell_of hNz 3
                      have n4 := cell_of hNz 4
                      clear e1 e2 e3 hpl hpz hCz hNz HTK htk HNE HPE HCE HXE HSE HNSE HNRE HAE HME
                      go_wp2_with (at_builtin; refine wpList_append_row _ rfl _ _ 24 rfl 26 iN _ 5 80 twN hk0 hk1 hk2 hk3 rfl (by decide) (.slice ad ln cap) ln (ps.flatMap ndC5) rfl HYA.out ⟨wz.heap.size, 0, none⟩ 1 1 [.int .u8 18, .int .i64 0, .string tx, .slice ad1 2 c1, .slice ak nk ck] rfl rfl HYB.out HYC.out (by decide) HYD.out.1 HYD.out.2 _ rfl ?_)
                      clear HYA HYB HYC HYD
                      intro gg off2 cap2 w3 hrow3 hgrow3 hat3 hlt3
                      have HQQ := Lib.hid (row_moreX (x := .mk 18 0 tx ns ks) (M := M) HE1.out HPL.out HE3.out HRX.out.new HRX.out.apart (by have := HORD.out; have := HORD2.out; omega) HMZ.out (fun q hq => by have := HI.out.2.1.lt q hq; have := HORD.out; have := HORD2.out; omega) HOLT.out HNDZ.out hrow3 hgrow3 hat3)
                      have HSF := Lib.hid (HSZ.out.stay HQQ.out.2 (fun q hq e => HRX.out.apart q e hq))
                      have HKL : Hid ((out ++ [Nd.mk 18 0 tx ns ks]).length = ln + 1) := Lib.hid (by rw [List.length_append, HLS.out.1]; rfl)
                      have HPF := Lib.hid (HPZ.out.chg HQQ.out.2 (fun e => by have := HRX.out.new _ e; have := HORD.out; omega))
                      have HCF := Lib.hid (HCZ.out.andThen HQQ.out.2 (fun q hq e => by have := HRX.out.new _ e; omega))
                      clear hrow3 hgrow3 hat3 hlt3 n0 n1' n2' n3' n4
                      go_wp2_with fail
                      go_roundg gk'
                      case measure => omega
                      case rel => exact ⟨out ++ [.mk 18 0 tx ns ks], (ops ++ [tx]), i2 + 1, n2, k, ln + 1, (lo + 1), 18, _, _, _, _, rfl, rfl, rfl, by omega, by omega, by omega, by omega, by omega, by decide, by decide, HRN, Lib.hid ⟨HKL.out, HOL.out⟩, Lib.hid ⟨HPF.out, HQQ.out.1, HSF.out, HCF.out⟩⟩
        by_cases s3 : s = wFinally
        case pos =>
          have HKK : Hid (clauseKind s = 19) := Lib.hid (by rw [s3]; rfl)
          obtain ⟨w9, hw9⟩ : ∃ w9, w8.setCell ⟨w5.heap.size, 0, none⟩ (.int .u8 19) = w9 := ⟨_, rfl⟩
          have hC9 : Chg (fun q => q = w5.heap.size) w8 w9 := by rw [← hw9]; exact (Chg.refl (fun q => q = w5.heap.size) w8).set (p := ⟨w5.heap.size, 0, none⟩) (fun _ => rfl) _
          have hN9 : w9.heap[w5.heap.size]? = some (.cells #[.int .u8 19, .int .i64 0, .string ⟨#[]⟩, .slice none 0 0, .slice none 0 0] 26) := by rw [← hw9]; exact (blk_set HN8.out 0 _).trans rfl
          have HN9 := Lib.hid hN9
          have hp9 := HP8.out.chg hC9 (fun e => by have := HORD.out; omega)
          have HP9 := Lib.hid hp9
          have HCO9 := Lib.hid (HCO8.out.andThen hC9 (fun q hq (e : q = w5.heap.size) => by have := HORD.out; omega))
          have HA9 := Lib.hid (HA.out.later (HI.out.2.2.2.trans HCO9.out))
          have y0 := cell_of hN9 0
          have y1 := cell_of hN9 1
          have y2 := cell_of hN9 2
          have y3 := cell_of hN9 3
          have y4 := cell_of hN9 4
          have v2 := free_of hN9 2
          obtain rfl : ⟨#[102, 105, 110, 97, 108, 108, 121]⟩ = s := s3.symm
          clear hC9 hN9 HN8 HP8 HCO8 HA8 s1 s2 s3
          by_cases hbad : la = 19
          · have HRE : Hid (RR = .error (u.at_, 12)) := Lib.hid (by rw [HRK.out]; exact cl_word HI0.out HK1.out HQ.out HJ0.out HSS.out (.inr (.inr (by rw [HKK.out]; omega))))
            have HW := Lib.hid (wrong_calls hp9 HA9.out.tok 12)
            rw [HW12.out] at HW
            clear hp9
            have hbe : ((19 : Int) == (la : Int)) = true := by rw [hbad]; rfl
            have hnl : ¬ (19 : Int) < (la : Int) := by omega
            go_wp2_with fail
            refine HW.out.mono ?_
            rintro e' w11 ⟨rfl, hC11⟩
            go_wp2_with fail
            rw [HRE.out]
            exact ⟨rfl, rfl, (HI.out.2.2.2.trans HCO9.out).trans (chgb hC11)⟩
          have HRG := Lib.hid (cl_go (fin := fin) (val := val) (k := k) (la := la) (out := out) (ops := ops) HI0.out HK1.out HQ.out HJ0.out HSS.out HKK.out (fun h => by
            rcases h with h | h | h | h
            · exact h HU3.out
            · omega
            · omega
            · omega))
          rw [← HRK.out] at HRG
          have hnl : ¬ (19 : Int) < (la : Int) := by omega
          have hbe : ((19 : Int) == (la : Int)) = false := beq_eq_false_iff_ne.2 (by omega)
          obtain ⟨w10, hw10⟩ : ∃ w10, w9.setCell ⟨b, 1, none⟩ (.int .i64 (((i + 1 : Nat) : Int) + 1)) = w10 := ⟨_, rfl⟩
          have hC10 : Chg (fun q => q = b) w9 w10 := by rw [← hw10]; exact (Chg.refl (fun q => q = b) w9).set (p := ⟨b, 1, none⟩) (fun _ => rfl) _
          have hp10 : Psr b v (i + 1 + 1) fin (n + 1) w10 := by rw [← hw10]; exact hp9.at_
          have c1' := cell_of hp9 1
          have f1' := free_of hp9 1
          have hcs : ((i + 1 : Nat) : Int) = (i : Int) + 1 := by push_cast; rfl
          simp only [hcs] at c1' hw10
          have hN10 := hC10.blk HN9.out (fun e => by have := HORD.out; omega)
          have HCO10 := Lib.hid (HCO9.out.trans hC10)
          clear hp9 hcs HP9 HCO9 HA9 hbad c1 f1
          obtain ⟨wA, hwA⟩ : ∃ wA, wA = w10 := ⟨_, rfl⟩
          subst hwA
          obtain ⟨j0, hj0'⟩ : ∃ j0, i + 1 + 1 = j0 := ⟨_, rfl⟩
          rw [hj0'] at hp10
          have HRG2 : Hid (RR = match bodyP L fin val 19 ⟨#[]⟩ j0 (n + 1) with | .error e => .error e | .ok (x, i2, n2) => clausesP L fin okk val k (out ++ [x]) ops 19 i2 n2) := Lib.hid (by rw [HRG.out, ← hj0']; rfl)
          have HPA := Lib.hid hp10
          have HNA := Lib.hid hN10
          have HSA := Lib.hid (HI.out.2.2.1.later HCO10.out (fun q (e : q = b) => by have := HORD.out; omega))
          have HCA := Lib.hid (HI.out.2.2.2.trans HCO10.out)
          have HXA : Hid (Chg (fun q => q = b ∨ (Value.slice ado lo capo).ownBlock = some q) wo wA) := Lib.hid (HCO10.out.mono (fun q _ e => .inl e))
          have HOA : Hid (∀ q, q < wo.heap.size → (Value.slice ado lo capo).ownBlock = some q → (Value.slice ado lo capo).ownBlock = some q) := Lib.hid (fun q _ e => e)
          have HNO : Hid (∀ q, (Value.slice ado lo capo).ownBlock = some q → q ≠ w5.heap.size) := Lib.hid (fun q e h => by have := HI.out.2.2.1.row.lt q e; have := HORD.out; omega)
          have HOL : Hid (ops.length = lo) := Lib.hid HLS.out.2
          clear hC10 hp10 hN10 hj0' HRG HCO10
          have HRG := HRG2
          clear HRG2
          obtain ⟨M, hM⟩ : ∃ M, wA.heap.size = M := ⟨_, rfl⟩
          have HORD2 : Hid (w5.heap.size < M) := Lib.hid (by rw [← hM]; exact lt_of_block HNA.out)
          have HMA := Lib.hid hM
          have HOLT : Hid (∀ q, (.slice ado lo capo : Value).ownBlock = some q → q < M) := Lib.hid (by rw [← hM]; exact HSA.out.row.lt)
          obtain ⟨SR, hSR⟩ : ∃ SR, someP L fin 0 [] j0 = SR := ⟨_, rfl⟩
          have HSR0 := Lib.hid hSR.symm
          have HBD : Hid (bodyP L fin val 19 ⟨#[]⟩ j0 (n + 1) = bodyK L fin val 19 ⟨#[]⟩ (n + 1) SR) := Lib.hid (by rw [← hSR]; rfl)
          have HST : Hid (Psr b v j0 fin (n + 1) wA ∧ (wA.heap[w5.heap.size]? = some (.cells #[.int .u8 19, .int .i64 0, .string ⟨#[]⟩, .slice none 0 0, .slice none 0 0] 26)) ∧ SRow wA w.heap.size (.slice ado lo capo) ops ∧ Chg (· = b) w wA ∧ Chg (fun q => q = b ∨ (Value.slice ado lo capo).ownBlock = some q) wo wA) := Lib.hid ⟨HPA.out, HNA.out, HSA.out, HCA.out, HXA.out⟩
          have xA0 := cell_of HNA.out 0
          have hix := run_ix19
          clear hM hSR HPA HNA HSA HCA HXA
          go_wp2_with fail
          go_loopg [103] 1 (fun g jv wr => ∃ (ns : List ByteArray) (j1 kk l1 : Nat) (ad1 : Option Addr) (c1 : Nat), jv = .int .i64 (l1 : Int) ∧ kk + l1 = 0 ∧ 1 ≤ g + l1 ∧ c1 ≤ 9223372036854775807 ∧ l1 ≤ c1 ∧ M ≤ wr.heap.size ∧ Hid (SR = someP L fin kk ns j1) ∧ Hid (ns.length = l1 ∧ SRow wr M (.slice ad1 l1 c1) ns) ∧ Hid (Psr b v j1 fin (n + 1) wr ∧ (wr.heap[w5.heap.size]? = some (.cells #[.int .u8 19, .int .i64 0, .string ⟨#[]⟩, .slice ad1 l1 c1, .slice none 0 0] 26)) ∧ SRow wr w.heap.size (.slice ado lo capo) ops ∧ Chg (· = b) w wr ∧ Chg (fun q => q = b ∨ (Value.slice ado lo capo).ownBlock = some q) wo wr))
          case atStart => exact ⟨[], j0, 0, 0, none, 0, rfl, rfl, by omega, by decide, by decide, by rw [HMA.out]; exact Nat.le_refl _, HSR0, Lib.hid ⟨rfl, SRow.nil _ _⟩, HST⟩
          case round =>
            obtain ⟨ns, j1, kk, l1, ad1, c1, rfl, hkk, hgk, hcc1, hcc2, hMw, HSRk, HS, HI2⟩ := hrel
            obtain ⟨gj', rfl⟩ : ∃ q, gk = q + 1 := ⟨gk - 1, by omega⟩
            have hl1 : l1 ≤ 0 := by omega
            have HAR := Lib.hid (HA.out.later HI2.out.2.2.2.1)
            have HMW := Lib.hid hMw
            by_cases hlt : (l1 : Int) < 0
            · exact absurd hlt (by omega)
            · have hkk0 : kk = 0 := by omega
              obtain rfl : l1 = 0 := by omega
              have HSRO : Hid (SR = .ok (ns, j1)) := Lib.hid (by rw [HSRk.out, hkk0]; rfl)
              have HBD2 : Hid (bodyP L fin val 19 ⟨#[]⟩ j0 (n + 1) = match partsP L fin val 1 4002 [] j1 (n + 1) with | .error e => .error e | .ok (ks, i2, n2) => closeP L fin 19 ⟨#[]⟩ ns ks i2 n2) := Lib.hid (by rw [HBD.out, HSRO.out]; try rfl)
              have HPT := Lib.hid (parts_calls deep (by omega) 1 ⟨by decide, by decide⟩ val HVL.out HVN.out j1 (n + 1) wr HI2.out.1 HAR.out hn1)
              clear hkk0 hkk hlt
              go_wp2_with fail
              cases hpt : partsP L fin val 1 4002 [] j1 (n + 1) with
              | error pq =>
                obtain ⟨p, q⟩ := pq
                have HRE : Hid (RR = .error (p, q)) := Lib.hid (by rw [HRG.out, HBD2.out, hpt])
                rw [hpt] at HPT
                refine HPT.out.mono ?_
                rintro e' wa ⟨rfl, hCa⟩
                go_wp2_with fail
                rw [HRE.out]
                exact ⟨rfl, rfl, HI2.out.2.2.2.1.trans hCa⟩
              | ok xr =>
                obtain ⟨ks, i2, n2⟩ := xr
                have hcnt : n2 ≤ 4000 ∧ ks.length + (n + 1) ≤ n2 := parts_count HVN.out _ _ _ _ _ _ _ hpt hn1
                have HBD3 : Hid (bodyP L fin val 19 ⟨#[]⟩ j0 (n + 1) = closeP L fin 19 ⟨#[]⟩ ns ks i2 n2) := Lib.hid (by rw [HBD2.out, hpt])
                rw [hpt] at HPT
                refine HPT.out.mono ?_
                rintro e' wa ⟨kv, rfl, hpa, hra, hCa⟩
                have hra2 := hra.wide (B' := M) HMW.out
                obtain ⟨ak, ck, rfl, hkc, hkm⟩ := hra.form
                obtain ⟨nk, hnk⟩ : ∃ nk, ks.length = nk := ⟨_, rfl⟩
                have HNK := Lib.hid hnk
                rw [hnk] at hra2 hkc hcnt ⊢
                have hck2 : ck ≤ 9223372036854775807 := by unfold maxLen at hkm; omega
                have hNa := hCa.blk HI2.out.2.1 (fun e => by have := HORD.out; omega)
                have m0 := cell_of hNa 0
                have m4 := cell_of hNa 4
                have u4 := free_of hNa 4
                obtain ⟨wb, hwb⟩ : ∃ wb, wa.setCell ⟨w5.heap.size, 4, none⟩ (.slice ak nk ck) = wb := ⟨_, rfl⟩
                have hCb : Chg (fun q => q = w5.heap.size) wa wb := by rw [← hwb]; exact (Chg.refl (fun q => q = w5.heap.size) wa).set (p := ⟨w5.heap.size, 4, none⟩) (fun _ => rfl) _
                have hNb : wb.heap[w5.heap.size]? = some (.cells #[.int .u8 19, .int .i64 0, .string ⟨#[]⟩, .slice ad1 0 c1, .slice ak nk ck] 26) := by rw [← hwb]; exact (blk_set hNa 4 _).trans rfl
                have HPE := Lib.hid (hpa.chg hCb (fun e => by have := HORD.out; omega))
                have HNE := Lib.hid hNb
                have HCE := Lib.hid ((HI2.out.2.2.2.1.trans hCa).andThen hCb (fun q hq (e : q = w5.heap.size) => by have := HORD.out; omega))
                have HXE := Lib.hid ((HI2.out.2.2.2.2.trans (hCa.mono (fun q _ e => .inl e))).andThen hCb (fun q hq (e : q = w5.heap.size) => by have := HORD.out; omega))
                have HSE := Lib.hid ((HI2.out.2.2.1.later hCa (fun q (e : q = b) => by have := HORD.out; omega)).stay hCb (fun q hq (e : q = w5.heap.size) => HNO.out q hq e))
                have HNSE := Lib.hid ((HS.out.2.later hCa (fun q (e : q = b) => by have := HORD.out; have := HORD2.out; omega)).later hCb (fun q (e : q = w5.heap.size) => by have := HORD2.out; omega))
                have HNRE := Lib.hid (hra2.later hCb (fun q (e : q = w5.heap.size) => by have := HORD2.out; omega))
                have HAE : Hid (Amb b v L wb) := Lib.hid (HA.out.later HCE.out)
                have HME := Lib.hid (show M ≤ wb.heap.size by have := HMW.out; have := hCa.size; have := hCb.size; omega)
                clear hpa hra hra2 hCa hNa hCb hNb HPT hpt hkm hnk HI2 HAR HMW HS HSRk HSRO HBD HBD2
                have HTK := Lib.hid (take_calls HPE.out HAE.out.tok 2 (by decide) (by have := HLEN.out; omega))
                go_wp2_with fail
                cases htk : takeP L fin 2 i2 with
                | error pq =>
                  obtain ⟨p, q⟩ := pq
                  have HRE : Hid (RR = .error (p, q)) := Lib.hid (by rw [HRG.out, HBD3.out]; unfold closeP; rw [htk])
                  rw [htk] at HTK
                  refine HTK.out.mono ?_
                  rintro e' wz ⟨rfl, hCz⟩
                  go_wp2_with fail
                  rw [HRE.out]
                  exact ⟨rfl, rfl, HCE.out.trans hCz⟩
                | ok uu =>
                  have HRN : Hid (RR = clausesP L fin okk val k (out ++ [.mk 19 0 ⟨#[]⟩ ns ks]) ops 19 (i2 + 1) n2) := Lib.hid (by rw [HRG.out, HBD3.out]; unfold closeP; rw [htk])
                  rw [htk] at HTK
                  refine HTK.out.mono ?_
                  rintro e' wz ⟨⟨uv, rfl⟩, hpz, hCz⟩
                  have hNz := hCz.blk HNE.out (fun e => by have := HORD.out; omega)
                  have HNDZ := Lib.hid (node_of (k := 19) (tx := ⟨#[]⟩) (by decide) (HNSE.out.later hCz (fun q (e : q = b) => by have := HORD.out; have := HORD2.out; omega)) (HNRE.out.later hCz (fun q (e : q = b) => by have := HORD.out; have := HORD2.out; omega)))
                  have HSZ := Lib.hid (HSE.out.later hCz (fun q (e : q = b) => by have := HORD.out; omega))
                  have HCZ := Lib.hid (HCE.out.trans hCz)
                  have HXZ := Lib.hid (HXE.out.trans (hCz.mono (fun q _ e => .inl e)))
                  have HMZ := Lib.hid (show M ≤ wz.heap.size by have := HME.out; have := hCz.size; omega)
                  have HRX := Lib.hid (HI.out.2.1.move (X' := fun q => (.slice ado lo capo : Value).ownBlock = some q) HXZ.out (fun q e => by
                    rcases e with e | e
                    · exact .inl (by have := HORD.out; omega)
                    · exact .inr e) HOA.out)
                  obtain ⟨ps, e1, e2, e3⟩ := HRX.out.ex
                  have hpl : ps.length = ln := by rw [← HLS.out.1, ← e1, List.length_map]
                  rw [hpl] at e2
                  have HYA := Lib.hid (e2.kept ((Chg.refl (fun _ => False) wz).alloc (.cells #[.int .u8 19, .int .i64 0, .string ⟨#[]⟩, .slice ad1 0 c1, .slice ak nk ck] 26)) (fun _ _ h => h))
                  have HYB := Lib.hid (news5 (new_atN wz (.cells #[.int .u8 19, .int .i64 0, .string ⟨#[]⟩, .slice ad1 0 c1, .slice ak nk ck] 26) wz.heap.size rfl))
                  have HYC := Lib.hid (one5 (19 : Int) 0 ⟨#[]⟩ ad1 ak 0 c1 nk ck)
                  have HYD : Hid (ln + 1 ≤ maxLen ∧ (ln + 1) * 80 ≤ 140737488355328) := Lib.hid (by unfold maxLen; omega)
                  have HE1 := Lib.hid e1
                  have HE3 := Lib.hid e3
                  have HPL := Lib.hid hpl
                  have HPZ := Lib.hid hpz
                  have n0 := cell_of hNz 0
                  have n1' := cell_of hNz 1
                  have n2' := cell_of hNz 2
                  have n3' := cell_of hNz 3
                  have n4 := cell_of hNz 4
                  clear e1 e2 e3 hpl hpz hCz hNz HTK htk HNE HPE HCE HXE HSE HNSE HNRE HAE HME
                  go_wp2_with (at_builtin; refine wpList_append_row _ rfl _ _ 24 rfl 26 iN _ 5 80 twN hk0 hk1 hk2 hk3 rfl (by decide) (.slice ad ln cap) ln (ps.flatMap ndC5) rfl HYA.out ⟨wz.heap.size, 0, none⟩ 1 1 [.int .u8 19, .int .i64 0, .string ⟨#[]⟩, .slice ad1 0 c1, .slice ak nk ck] rfl rfl HYB.out HYC.out (by decide) HYD.out.1 HYD.out.2 _ rfl ?_)
                  clear HYA HYB HYC HYD
                  intro gg off2 cap2 w3 hrow3 hgrow3 hat3 hlt3
                  have HQQ := Lib.hid (row_moreX (x := .mk 19 0 ⟨#[]⟩ ns ks) (M := M) HE1.out HPL.out HE3.out HRX.out.new HRX.out.apart (by have := HORD.out; have := HORD2.out; omega) HMZ.out (fun q hq => by have := HI.out.2.1.lt q hq; have := HORD.out; have := HORD2.out; omega) HOLT.out HNDZ.out hrow3 hgrow3 hat3)
                  have HSF := Lib.hid (HSZ.out.stay HQQ.out.2 (fun q hq e => HRX.out.apart q e hq))
                  have HKL : Hid ((out ++ [Nd.mk 19 0 ⟨#[]⟩ ns ks]).length = ln + 1) := Lib.hid (by rw [List.length_append, HLS.out.1]; rfl)
                  have HPF := Lib.hid (HPZ.out.chg HQQ.out.2 (fun e => by have := HRX.out.new _ e; have := HORD.out; omega))
                  have HCF := Lib.hid (HCZ.out.andThen HQQ.out.2 (fun q hq e => by have := HRX.out.new _ e; omega))
                  clear hrow3 hgrow3 hat3 hlt3 n0 n1' n2' n3' n4
                  go_wp2_with fail
                  go_roundg gk'
                  case measure => omega
                  case rel => exact ⟨out ++ [.mk 19 0 ⟨#[]⟩ ns ks], ops, i2 + 1, n2, k, ln + 1, lo, 19, _, _, _, _, rfl, rfl, rfl, by omega, by omega, by omega, by omega, by omega, by decide, by decide, HRN, Lib.hid ⟨HKL.out, HOL.out⟩, Lib.hid ⟨HPF.out, HQQ.out.1, HSF.out, HCF.out⟩⟩
        have HRE : Hid (RR = .error (u.at_, 12)) := Lib.hid (by rw [HRK.out]; exact cl_word HI0.out HK1.out HQ.out HJ0.out HSS.out (.inr (.inl (by unfold clauseKind; rw [if_neg s1, if_neg s2, if_neg s3]))))
        have hb1 : (s.toList == [114, 101, 116, 117, 114, 110]) = false := str_no s1
        have hb2 : (s.toList == [111, 110]) = false := str_no s2
        have hb3 : (s.toList == [102, 105, 110, 97, 108, 108, 121]) = false := str_no s3
        have HW := Lib.hid (wrong_calls HP8.out HA8.out.tok 12)
        rw [HW12.out] at HW
        clear s1 s2 s3
        go_wp2_with fail
        refine HW.out.mono ?_
        rintro e' w9 ⟨rfl, hC9⟩
        go_wp2_with fail
        rw [HRE.out]
        exact ⟨rfl, rfl, (HI.out.2.2.2.trans HCO8.out).trans (chgb hC9)⟩
end Go.Proofs.YtaklmocjaokkpaaDoor.Tr
