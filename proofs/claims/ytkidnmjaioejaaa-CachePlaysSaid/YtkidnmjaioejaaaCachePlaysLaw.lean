/- The statement CachePlays, walked: true, whatever the limit and the acts. Condition: the acts' cells are known, and their numbers fit. -/
import Derived.Test.YtkidnmjaioejaaaCacheDoesDrop
namespace Go.Proofs.Ytkidnmjaioejaaa.Cx
set_option linter.unusedVariables false
set_option linter.unusedSimpArgs false
open Go.RowKit Go.Proofs.Ytkidnmjaioejaaa.Mem Go.Maps

structure Act where
  kind : Int
  x : Int
  k : Key
def Act.ok (a : Act) : Prop := fits a.kind ∧ fits a.x ∧ a.k.ok
def Act.v (a : Act) : Value := actV a.kind a.x a.k
def a0 : Act := ⟨0, 0, ⟨0, 0, 0, 0, 0⟩⟩
def acells (a : Act) : List Value := [.int .i64 a.kind, .int .i64 a.x, .int .i64 a.k.p, .int .i64 a.k.a, .int .i64 a.k.b, .int .i64 a.k.c, .int .i64 a.k.d]
/-- The acts that came in. -/
def ActsAt (w : World) (v : Value) (acts : List Act) : Prop :=
  ∃ ad cap, v = .slice ad acts.length cap ∧ (∀ a ∈ acts, a.ok) ∧ ∀ j, j < acts.length → ∃ b off, ad = some ⟨b, off, none⟩ ∧ b < w.heap.size ∧ ∀ i, i < 7 → w.cell? ⟨b, off + j * 7 + i, none⟩ = (acells (acts.getD j a0))[i]?

def step (lim : Nat) (l : List Ent) (a : Act) : List Ent := if a.kind = 0 then cput lim l a.k a.x else if a.kind = 1 then rest l a.k.p else cget l a.k
theorem step_len {lim : Nat} {l : List Ent} (hg : (l.map Prod.fst).Nodup) (h1 : 1 ≤ lim) (hl : l.length ≤ lim) (a : Act) : (step lim l a).length ≤ lim := by
  unfold step
  split
  · unfold cput
    have := put_len l a.k a.x
    split
    · rw [List.length_tail]; omega
    · omega
  · split
    · exact Nat.le_trans (rest_sub l _).length_le hl
    · rw [cget_len hg]; exact hl
theorem does_calls (n : Int) (a : Act) (c M lim : Nat) (v lv : Value) (l : List Ent) (w : World) (h : Pair w c M v lv lim l) (ha : a.ok) (hn : limit n = lim) (hl : l.length ≤ lim) :
    Calls Try.prog 22 #[.pointer (some ⟨c, 0, none⟩), lv, .int .i64 n, a.v] w fun e w' => ∃ lv' v', e = .returned (.tuple #[.bool true, lv']) ∧ Pair w' c M v' lv' lim (step lim l a) ∧ Went w w' c M v lv v' lv' := by
  obtain ⟨kind, x, k⟩ := a
  obtain ⟨hk1, hx, hk⟩ := ha
  have hL := (limit_le n).2
  rw [hn] at hL
  unfold step Act.v
  by_cases h0 : kind = 0
  · subst h0
    rw [if_pos rfl]
    exact does_put n x k c M lim v lv l w h hk hx hn hl
  · rw [if_neg h0]
    by_cases h1 : kind = 1
    · subst h1
      rw [if_pos rfl]
      exact does_drop n x k c M lim v lv l w h (by omega)
    · rw [if_neg h1]
      unfold cget
      rcases hf : find l k with _ | y
      · exact does_miss n kind x k c M lim v lv l w h hk (by omega) h0 h1 hf
      · exact does_get n kind x y k c M lim v lv l w h hk (by omega) h0 h1 hf

/-- The cache and the document's row, both made by the caller. -/
structure Both (w0 w : World) (c M lim : Nat) (v lv : Value) (l : List Ent) : Prop where
  pair : Pair w c M v lv lim l
  len : l.length ≤ lim
  foot : ∀ j, foot c M v j → w0.heap.size ≤ j
  row : ∀ j, lv.ownBlock = some j → w0.heap.size ≤ j
  below : Below w0.heap.size w0 w
theorem Both.went {w0 w w' : World} {c M lim : Nat} {v lv v' lv' : Value} {l l' : List Ent} (h : Both w0 w c M lim v lv l) (hp : Pair w' c M v' lv' lim l') (hw : Went w w' c M v lv v' lv') (hl : l'.length ≤ lim) : Both w0 w' c M lim v' lv' l' := by
  have hs := h.below.size
  refine ⟨hp, hl, fun j hj => ?_, fun j hj => ?_, h.below.trans (hw.chg.toBelow hs (fun j _ hj => hj.elim (h.foot j) (h.row j)))⟩
  · rcases hj with e | e | e
    · exact h.foot j (.inl e)
    · exact h.foot j (.inr (.inl e))
    · rcases hw.cache j e with h1 | h1
      · exact h.foot j (.inr (.inr h1))
      · omega
  · rcases hw.row j hj with h1 | h1
    · exact h.row j h1
    · omega

/-- While the caller asks for all that is there. -/
structure Asked (w0 w : World) (c M lim : Nat) (v lv : Value) (l l' : List Ent) : Prop where
  ca : CacheAt w c M v lim l'
  perm : l.Perm l'
  row : ERow w lv l
  foot : ∀ j, foot c M v j → w0.heap.size ≤ j ∧ ¬ lv.ownBlock = some j
  below : Below w0.heap.size w0 w
theorem Both.asked {w0 w : World} {c M lim : Nat} {v lv : Value} {l : List Ent} (h : Both w0 w c M lim v lv l) : Asked w0 w c M lim v lv l l :=
  ⟨h.pair.ca, List.Perm.refl _, h.pair.row, fun j hj => ⟨h.foot j hj, fun e => h.pair.apart j e hj⟩, h.below⟩
theorem Asked.next {w0 w w' : World} {c M lim : Nat} {v lv v' : Value} {l l' : List Ent} {k : Key} (h : Asked w0 w c M lim v lv l l') (hA : CacheAt w' c M v' lim (cget l' k)) (hC : Chg (Cx.foot c M v) w w') (ho : ∀ j, v'.ownBlock = some j → v.ownBlock = some j ∨ w.heap.size ≤ j) :
    Asked w0 w' c M lim v' lv l (cget l' k) := by
  have hs := h.below.size
  refine ⟨hA, h.perm.trans (cget_perm h.ca.good.1 k), h.row.kept hC (fun j hj e => (h.foot j e).2 hj), fun j hj => ?_, h.below.trans (hC.toBelow hs (fun j _ hj => (h.foot j hj).1))⟩
  rcases hj with e | e | e
  · exact h.foot j (.inl e)
  · exact h.foot j (.inr (.inl e))
  · rcases ho j e with h1 | h1
    · exact h.foot j (.inr (.inr h1))
    · exact ⟨by omega, fun e2 => by have := h.row.lt j e2; omega⟩

set_option maxRecDepth 100000 in
set_option maxHeartbeats 4000000 in
theorem plays_calls (n : Int) (v : Value) (acts : List Act) (w : World) (hA : ActsAt w v acts) : Calls Try.prog 6 #[.int .i64 n, v] w fun e w' => e = .returned (.bool true) ∧ Below w.heap.size w w' := by
  obtain ⟨ad, cap, rfl, hok, hcells⟩ := hA
  obtain ⟨na, hna⟩ : ∃ na, acts.length = na := ⟨_, rfl⟩
  have HNA := Lib.hid hna
  rw [hna] at hcells ⊢
  by_cases hbig : 200 < na
  · have hb2 : (200 : Int) < (na : Int) := by omega
    clear hcells hok hna
    go_enter Try.func6, Try.ntmps6
    go_wp2_with fail
    refine (awake_calls _).mono ?_
    rintro e w7 ⟨rfl, hb7⟩
    have HB7 := Lib.hid hb7
    clear hb7
    go_wp2_with fail
    go_ret
    exact ⟨rfl, HB7.out⟩
  have hb2 : ¬ (200 : Int) < (na : Int) := by omega
  have HN := Lib.hid (mine_new n w)
  obtain ⟨hL1, hL2⟩ := limit_le n
  obtain ⟨lim, hlim⟩ : ∃ lim, limit n = lim := ⟨_, rfl⟩
  rw [hlim] at hL1 hL2 HN
  have HLIM := Lib.hid hlim
  have HOK := Lib.hid hok
  have HCE := Lib.hid hcells
  clear hcells hok hna hlim
  go_enter Try.func6, Try.ntmps6
  go_wp2_with fail
  refine HN.out.mono ?_
  rintro e w1 ⟨c, M, rfl, hm1⟩
  have HM1 := Lib.hid hm1
  clear hm1
  go_wp2_with fail
  go_loopg [6, 7] (na + 1) (fun g lv0 vi wr => ∃ (i : Nat) (lv v : Value) (l : List Ent), lv = lv0 ∧ vi = .int .i64 i ∧ i ≤ na ∧ na < g + i ∧ Hid (Both w wr c M lim v lv l))
  case atStart =>
    obtain ⟨v1, hv1, hv2⟩ := HM1.out.at_
    refine ⟨0, _, v1, [], rfl, rfl, by omega, by omega, Lib.hid ⟨⟨hv1.chg ((Chg.refl (fun _ => False) w1).alloc _) (fun _ _ h => h), ⟨rfl, .inr ⟨w1.heap.size, 0, 0, #[], rfl, blk_new _ _, Nat.le_refl _, Nat.zero_le _, Nat.le_refl _, rfl⟩⟩, fun j hj hf => ?_⟩, Nat.zero_le _, fun j hj => ?_, fun j hj => ?_, HM1.out.below.alloc HM1.out.below.size _⟩⟩
    · have h1 : w1.heap.size = j := by simpa [Value.ownBlock] using hj
      have h2 := hv1.lt j hf
      omega
    · rcases hj with e | e | e
      · rw [e]; exact HM1.out.c
      · rw [e]; exact HM1.out.m
      · exact hv2 j e
    · have h1 : w1.heap.size = j := by simpa [Value.ownBlock] using hj
      have := HM1.out.below.size
      omega
  case round =>
    obtain ⟨i, lv, v, l, rfl, rfl, hi, hg, hB⟩ := hrel
    by_cases hlt : i < na
    · obtain ⟨g, rfl⟩ : ∃ m, gk = m + 1 := ⟨gk - 1, by omega⟩
      obtain ⟨b, off, rfl, hbl, hce⟩ := HCE.out i hlt
      have hcr : ∀ q, q < 7 → wr.cell? ⟨b, off + i * 7 + q, none⟩ = (acells (acts.getD i a0))[q]? := fun q hq => (hB.out.below.cell (p := ⟨b, off + i * 7 + q, none⟩) hbl).trans (hce q hq)
      have z0 : wr.cell? ⟨b, off + i * 7, none⟩ = _ := hcr 0 (by omega)
      have z1 := hcr 1 (by omega)
      have z2 := hcr 2 (by omega)
      have z3 := hcr 3 (by omega)
      have z4 := hcr 4 (by omega)
      have z5 := hcr 5 (by omega)
      have z6 := hcr 6 (by omega)
      have hmem : acts.getD i a0 ∈ acts := by
        have : i < acts.length := by rw [HNA.out]; exact hlt
        simp [this]
      have hD := Lib.hid (does_calls n (acts.getD i a0) c M lim v lv l wr hB.out.pair (HOK.out _ hmem) HLIM.out hB.out.len)
      have hS := Lib.hid (step_len hB.out.pair.ca.good.1 hL1 hB.out.len (acts.getD i a0))
      generalize acts.getD i a0 = y at *
      obtain ⟨yk, yx, ⟨k0, k1, k2, k3, k4⟩⟩ := y
      simp only [acells, List.getElem?_cons_zero, List.getElem?_cons_succ] at z0 z1 z2 z3 z4 z5 z6
      simp only [Act.v, actV] at hD
      have i0 : (0 : Int) ≤ (i : Int) := by omega
      have i1 : (i : Int) < (na : Int) := by omega
      clear hcr hce hmem
      go_wp2_with fail
      refine hD.out.mono ?_
      rintro e w2 ⟨lv2, v2, rfl, hp2, hw2⟩
      have hB2 : Hid (Both w w2 c M lim v2 lv2 (step lim l ⟨yk, yx, ⟨k0, k1, k2, k3, k4⟩⟩)) := hB.out.went hp2 hw2 hS.out
      obtain ⟨ad2, cap2, hlv2, hn2, hm2⟩ := hp2.row.form
      clear hp2 hw2 hD z0 z1 z2 z3 z4 z5 z6
      generalize step lim l ⟨yk, yx, ⟨k0, k1, k2, k3, k4⟩⟩ = l2 at *
      subst hlv2
      go_wp2_with fail
      refine (len_calls c M lim v2 l2 _ hB2.out.pair.ca).mono ?_
      rintro e w3 ⟨rfl, rfl⟩
      go_wp2_with fail
      go_roundg g
      case measure => omega
      case rel => exact ⟨i + 1, _, v2, l2, rfl, by go_num, by omega, by omega, hB2.out⟩
    · have i1 : ¬ (i : Int) < (na : Int) := by omega
      have hAs : Hid (Asked w wr c M lim v lv l l) := hB.out.asked
      obtain ⟨adl, capl, hlv, hnl, hml⟩ := hB.out.pair.row.form
      obtain ⟨nl, hnl2⟩ : ∃ nl, l.length = nl := ⟨_, rfl⟩
      have HNL := Lib.hid hnl2
      have hnl64 : nl ≤ 64 := by have := hB.out.len; omega
      rw [hnl2] at hlv hnl
      clear hB hnl2
      subst hlv
      go_wp2_with fail
      go_loopg [10] (nl + 1) (fun g vi wq => ∃ (q : Nat) (v' : Value) (l' : List Ent), vi = .int .i64 q ∧ q ≤ nl ∧ nl < g + q ∧ Hid (Asked w wq c M lim v' (.slice adl nl capl) l l'))
      case atStart => exact ⟨0, v, l, rfl, by omega, by omega, hAs.out⟩
      case round =>
        obtain ⟨q, v', l', rfl, hq, hgq, hA⟩ := hrel
        by_cases hqm : q < nl
        · obtain ⟨g, rfl⟩ : ∃ m, gk = m + 1 := ⟨gk - 1, by omega⟩
          have hql : q < l.length := by rw [HNL.out]; exact hqm
          obtain ⟨b, off, cap', hv, hcc⟩ := hA.out.row.formS (by omega)
          rw [HNL.out] at hv
          cases hv
          have hcell := ERow.cells hA.out.row HNL.out q hqm
          have z0 : wr.cell? ⟨b, off + q * 6, none⟩ = _ := hcell 0 (by omega)
          have z1 := hcell 1 (by omega)
          have z2 := hcell 2 (by omega)
          have z3 := hcell 3 (by omega)
          have z4 := hcell 4 (by omega)
          have hmem : l.getD q e0 ∈ l' := hA.out.perm.mem_iff.1 (by simp [hql])
          have hgd := hA.out.ca.good
          have hf := (find_mem hgd.1 (k := (l.getD q e0).1) (x := (l.getD q e0).2)).2 hmem
          have HG := Lib.hid (get_calls c M lim v' l' (l.getD q e0).1 wr hA.out.ca (hgd.2 _ hmem).1)
          rw [hf] at HG
          have HCN := Lib.hid (fun (w2 : World) (v2 : Value) h1 h2 h3 => (hA.out.next (w' := w2) (v' := v2) (k := (l.getD q e0).1) h1 h2 h3))
          have HCE2 : Hid (∀ w2 v2 l2, Asked w w2 c M lim v2 (.slice (some ⟨b, off, none⟩) nl capl) l l2 → w2.cell? ⟨b, off + q * 6 + 5, none⟩ = some (.int .i64 (l.getD q e0).2)) := fun w2 v2 l2 h2 => by
            rw [ERow.cells h2.row HNL.out q hqm 5 (by omega)]; rfl
          generalize l.getD q e0 = y at z0 z1 z2 z3 z4 HG HCN HCE2
          obtain ⟨⟨k0, k1, k2, k3, k4⟩, x⟩ := y
          simp only [ecells, List.getElem?_cons_zero, List.getElem?_cons_succ] at z0 z1 z2 z3 z4
          simp only [Option.getD_some, Option.isSome_some, kv] at HG
          have q0 : (0 : Int) ≤ (q : Int) := by omega
          have q1 : (q : Int) < (nl : Int) := by omega
          clear hcell hmem hgd hf hA
          go_wp2_with fail
          refine HG.out.mono ?_
          rintro e w2 ⟨rfl, v2, hA2, hC2, ho2⟩
          have hN2 := Lib.hid (HCN.out w2 v2 hA2 hC2 ho2)
          have z5 := HCE2.out _ _ _ hN2.out
          clear hA2 hC2 ho2 z0 z1 z2 z3 z4 HG HCN HCE2
          go_wp2_with fail
          go_roundg g
          case measure => omega
          case rel => exact ⟨q + 1, v2, _, by go_num, by omega, by omega, hN2.out⟩
        · have q1 : ¬ (q : Int) < (nl : Int) := by omega
          have HB5 : Hid (Below w.heap.size w wr) := hA.out.below
          clear hA
          go_wp2_with fail
          refine (awake_calls _).mono ?_
          rintro e w7 ⟨rfl, hb7⟩
          have HB7 : Hid (Below w.heap.size w w7) := HB5.out.trans (hb7.mono HB5.out.size)
          clear hb7
          go_wp2_with fail
          go_ret
          exact ⟨rfl, HB7.out⟩
end Go.Proofs.Ytkidnmjaioejaaa.Cx
