/- Which nodes may be, as the document's answer has it (no limit to a row of parts but the node's size): plain Lean, no program; it is XTreePlain's answer. · Parts that tell values, a node without names, a clause, as the document's answer has them: walked. Condition: what is known of the calls on the node's parts; texts and names of at most 2^20 bytes. · A clause of a handle, as the document's answer has it: walked. Condition: as XTreeRWalk's; its kind is a clause's. · A handle's clauses, as the document's answer has them: walked. Condition: as XTreeRClause's, of each of the parts. · A node that tells a value, right: kind by kind; plain Lean, no program. -/
import Derived.Test.YtaklmocjaokkpaaGreatDoorTreePlain
import Derived.Test.YtaklmocjaokkpaaGreatDoorTreeRTakes
import Derived.Test.YtaklmocjaokkpaaGreatDoorTreeUnlike
import Derived.Test.YtaklmocjaokkpaaGreatDoorTreeName
import Derived.Test.YtaklmocjaokkpaaGreatDoorTreeSizes
import Derived.Test.YtaklmocjaokkpaaGreatDoorTreeClauses
namespace Go.Proofs.YtaklmocjaokkpaaGreatDoor.Tr
set_option linter.unusedVariables false
set_option linter.unusedSimpArgs false

/-- All of a node but that its parts are right: as headB, the greatest number of parts left out. -/
def headR (deep kind : Nat) (n : Int) (t : ByteArray) (ns : List ByteArray) (ks : List Nd) : Bool :=
  match shapeOf kind with
  | none => false
  | some (many, least, most) => decide (deep ≤ 60) && textB kind n t ks.length && decide (least ≤ ks.length) && decide (most = 4000 ∨ ks.length ≤ most) && (decide (kind = 1) || decide (kind = 2) || decide (n = 0)) &&
      (match many with | none => true | some m => decide (ns.length = m)) && unlike ns &&
      (if kind = 13 then clausesB (ks.drop 1) && (ks.take 1).all (fun x => decide (x.kind < 17)) else ks.all fun x => decide (x.kind < 17))
mutual
def rightR : Nd → Nat → Bool
  | .mk k n t ns ks, deep => headR deep k n t ns ks && kidsR ks (deep + 1)
def kidsR : List Nd → Nat → Bool
  | [], _ => true
  | x :: l, deep => rightR x deep && kidsR l deep
end
theorem rightR_is (x : Nd) (deep : Nat) : rightR x deep = (headR deep x.kind x.n x.text x.names x.kids && kidsR x.kids (deep + 1)) := by
  cases x; rw [rightR]; rfl
theorem kidsR_all (l : List Nd) (deep : Nat) : kidsR l deep = l.all fun x => rightR x deep := by
  induction l with
  | nil => rw [kidsR]; rfl
  | cons x l ih => rw [kidsR, ih]; rfl
theorem headR_is {deep kind : Nat} {n : Int} {t : ByteArray} {ns : List ByteArray} {ks : List Nd} (h : ks.length ≤ 4000) : headR deep kind n t ns ks = headB deep kind n t ns ks := by
  unfold headR headB
  cases hs : shapeOf kind with
  | none => rfl
  | some q =>
    obtain ⟨many, least, most⟩ := q
    have : decide (most = 4000 ∨ ks.length ≤ most) = decide (ks.length ≤ most) := by
      congr 1
      apply propext
      constructor
      · rintro (e | e)
        · omega
        · exact e
      · exact .inr
    simp only [this]
    cases many <;> rfl
theorem len_size (x : Nd) : x.kids.length < sizeN x := by
  have := len_sizes x.kids
  rw [sizeN_is]
  omega
theorem rightR_eq : ∀ (x : Nd) (deep : Nat), sizeN x ≤ 4000 → rightR x deep = rightB x deep := by
  intro x
  induction x using Nd.ind with
  | h x ih =>
    intro deep hs
    rw [rightR_is, rightB_is, kidsR_all, kidsB_all, headR_is (by have := len_size x; omega)]
    congr 1
    apply Bool.eq_iff_iff.2
    rw [List.all_eq_true, List.all_eq_true]
    constructor
    · intro h y hy
      rw [← ih y hy (deep + 1) (by have := size_mem hy; rw [sizeN_is] at hs; omega)]
      exact h y hy
    · intro h y hy
      rw [ih y hy (deep + 1) (by have := size_mem hy; rw [sizeN_is] at hs; omega)]
      exact h y hy
/-- A part that tells a value, right. -/
def good (x : Nd) (deep : Nat) : Bool := decide (x.kind ≤ 16) && rightR x deep
theorem may_good (x : Nd) : mayB x = (good x 1 && decide (sizeN x ≤ 4000)) := by
  unfold mayB good
  have e : decide (x.kind < 17) = decide (x.kind ≤ 16) := by congr 1; apply propext; omega
  rw [e]
  by_cases hs : sizeN x ≤ 4000
  · rw [rightR_eq x 1 hs]
  · rw [decide_eq_false hs, Bool.and_false, Bool.and_false]
def goods (l : List Nd) (deep : Nat) : Bool := l.all fun y => good y deep
theorem goods_is (l : List Nd) (deep : Nat) : goods l deep = ((l.all fun x => decide (x.kind < 17)) && kidsR l deep) := by
  rw [kidsR_all]
  unfold goods good
  induction l with
  | nil => rfl
  | cons x l ih =>
    have e : decide (x.kind < 17) = decide (x.kind ≤ 16) := by congr 1; apply propext; omega
    rw [List.all_cons, List.all_cons, List.all_cons, ih, e]
    cases decide (x.kind ≤ 16) <;> cases rightR x deep <;> simp
theorem goods_take (l : List Nd) (k deep : Nat) (y : Nd) (h : l[k]? = some y) : goods (l.take (k + 1)) deep = (goods (l.take k) deep && good y deep) := by
  unfold goods
  rw [List.take_add_one, h]
  simp
theorem goods_false {l : List Nd} {k m deep : Nat} {y : Nd} (h : l[k]? = some y) (hk : k < m) (hg : good y deep = false) : goods (l.take m) deep = false := by
  cases hb : goods (l.take m) deep with
  | false => rfl
  | true =>
    unfold goods at hb
    rw [List.all_eq_true] at hb
    have := hb y (List.mem_iff_getElem?.2 ⟨k, by rw [List.getElem?_take, if_pos hk]; exact h⟩)
    rw [hg] at this
    cases this
mutual
/-- No text, no name is great; no row of names. -/
def Fine : Nd → Prop
  | .mk _ _ t ns ks => t.size ≤ 1048576 ∧ (∀ s ∈ ns, s.size ≤ 1048576) ∧ ns.length ≤ 1048576 ∧ ks.length ≤ 1048576 ∧ Fines ks
def Fines : List Nd → Prop
  | [] => True
  | x :: l => Fine x ∧ Fines l
end
theorem Fine.text {x : Nd} (h : Fine x) : x.text.size ≤ 1048576 := by cases x; unfold Fine at h; exact h.1
theorem Fine.names {x : Nd} (h : Fine x) : ∀ s ∈ x.names, s.size ≤ 1048576 := by cases x; unfold Fine at h; exact h.2.1
theorem Fine.manyNames {x : Nd} (h : Fine x) : x.names.length ≤ 1048576 := by cases x; unfold Fine at h; exact h.2.2.1
theorem Fine.many {x : Nd} (h : Fine x) : x.kids.length ≤ 1048576 := by cases x; unfold Fine at h; exact h.2.2.2.1
theorem Fines.of : ∀ {l : List Nd} (h : Fines l) (y : Nd), y ∈ l → Fine y
  | [], _, _, hy => by cases hy
  | x :: l, h, y, hy => by
    unfold Fines at h
    rcases List.mem_cons.1 hy with rfl | hy
    · exact h.1
    · exact Fines.of h.2 y hy
theorem Fine.kid {x : Nd} (h : Fine x) (y : Nd) (hy : y ∈ x.kids) : Fine y := by
  cases x; unfold Fine at h; exact h.2.2.2.2.of y hy
/-- A clause of a handle, as the document's answer has it. -/
theorem clause_is (x : Nd) (deep : Nat) (h17 : 17 ≤ x.kind) (h19 : x.kind ≤ 19) : rightR x deep = (decide (deep ≤ 60) && decide (x.n = 0) && decide (x.kids.length = 1) && goods (x.kids.take 1) (deep + 1) && unlike x.names &&
    (if x.kind = 17 then decide (x.text = ⟨#[]⟩) && decide (x.names.length = 1) else if x.kind = 18 then nameB x.text && decide (x.names.length = 2) else decide (x.text = ⟨#[]⟩) && decide (x.names.length = 0))) := by
  rw [rightR_is]
  by_cases hl : x.kids.length = 1
  · rw [List.take_of_length_le (by omega), goods_is]
    unfold headR
    rcases (by omega : x.kind = 17 ∨ x.kind = 18 ∨ x.kind = 19) with e | e | e
    all_goals
      simp only [e, shapeOf, textB, hl]
      simp
      cases decide (deep ≤ 60) <;> cases decide (x.n = 0) <;> cases unlike x.names <;> cases (x.kids.all fun x => decide (x.kind < 17)) <;> cases kidsR x.kids (deep + 1) <;> simp
  · rw [decide_eq_false hl]
    unfold headR
    rcases (by omega : x.kind = 17 ∨ x.kind = 18 ∨ x.kind = 19) with e | e | e
    all_goals
      simp only [e, shapeOf]
      have : ¬ (1 ≤ x.kids.length ∧ x.kids.length ≤ 1) := by omega
      by_cases h1 : 1 ≤ x.kids.length
      · have h2 : ¬ x.kids.length ≤ 1 := by omega
        simp [h1, h2]
      · simp [h1]
end Go.Proofs.YtaklmocjaokkpaaGreatDoor.Tr
namespace Go.Proofs.YtaklmocjaokkpaaGreatDoor.Tr
set_option linter.unusedVariables false
set_option linter.unusedSimpArgs false
open Go.RowKit Go.Shelf Go.Proofs.YtaklmocjaokkpaaGreatDoor.Mem

/-- What is known of a node's parts. -/
def KidsOk (x : Nd) : Prop := ∀ y ∈ x.kids, ∀ (nv kv : Value) (d : Nat) (W : World), NdIn W nv kv y → Fine y → d ≤ 61 →
  Calls Tryz.prog 30 #[ndV y nv kv, .int .i64 d] W fun e w' => e = .returned (.bool (good y d)) ∧ Chg (fun _ => False) W w'
set_option maxRecDepth 100000 in
set_option maxHeartbeats 1000000 in
theorem values_calls (x : Nd) (nv kv : Value) (w : World) (h : NdIn w nv kv x) (hf : Fine x) (hko : KidsOk x) (deep m : Nat) (mi : Int) (hmi : mi = (m : Int)) (hd : deep ≤ 60) (hmk : m ≤ x.kids.length) :
    Calls Tryz.prog 54 #[ndV x nv kv, .int .i64 0, .int .i64 mi, .int .i64 deep] w fun e w' => e = .returned (.bool (goods (x.kids.take m) (deep + 1))) ∧ Chg (fun _ => False) w w' := by
  obtain ⟨w1, hw1⟩ : ∃ w1, w.alloc (ndBox x nv kv) = w1 := ⟨_, rfl⟩
  have hC1 : Chg (fun _ => False) w w1 := by rw [← hw1]; exact (Chg.refl _ w).alloc _
  have hb : w1.heap[w.heap.size]? = some (ndBox x nv kv) := by rw [← hw1]; exact blk_new w _
  have HB := Lib.hid hb
  have HC1 := Lib.hid hC1
  have HKO := Lib.hid hko
  have HF := Lib.hid hf
  have hmany := hf.many
  obtain ⟨an, cn, ak, ck, rfl, rfl, _, _, hkc, hkm, hk⟩ := h.forms
  have hck2 : ck ≤ 9223372036854775807 := by unfold maxLen at hkm; omega
  have HK := Lib.hid hk
  obtain ⟨n, hn⟩ : ∃ n, x.kids.length = n := ⟨_, rfl⟩
  obtain ⟨res, hres⟩ : ∃ res, goods (x.kids.take m) (deep + 1) = res := ⟨_, rfl⟩
  have HRES := Lib.hid hres
  have HN := Lib.hid hn
  rw [hres]
  unfold ndBox at HB hw1
  unfold ndV
  rw [hn] at HB hw1 hmk hmany hkc ⊢
  have a4 := cell_of HB.out 4
  clear h hf hko hC1 hb hk hkm hn hres
  subst hmi
  go_enter Tryz.func54, Tryz.ntmps54
  go_wp2_with fail
  go_loopg [9] (m + 1) (fun g vi wr => ∃ (j : Nat), vi = .int .i64 j ∧ j ≤ m ∧ m < g + j ∧ Hid (Chg (fun _ => False) w1 wr) ∧ Hid (goods (x.kids.take j) (deep + 1) = true))
  case atStart => exact ⟨0, rfl, by omega, by omega, Lib.hid (Chg.refl _ _), Lib.hid (by simp [goods])⟩
  case round =>
    obtain ⟨j, rfl, hj, hg, hC, hok⟩ := hrel
    have a4r := hC.out.cell a4 (fun e => e)
    by_cases hlt : j < m
    · obtain ⟨gk', rfl⟩ : ∃ q, gk = q + 1 := ⟨gk - 1, by omega⟩
      obtain ⟨b, off, nv', kv', y, rfl, hy, hym, c0, c1, c2, c3, c4, hin⟩ := kid_cells (HK.out.kept (HC1.out.trans hC.out)) j (by rw [HN.out]; omega)
      have HY := Lib.hid hy
      have hdd : ((deep + 1 : Nat) : Int) = (deep : Int) + 1 := by push_cast; rfl
      have HS := Lib.hid (HKO.out y hym nv' kv' (deep + 1) wr hin (HF.out.kid y hym) (by omega))
      rw [hdd] at HS
      unfold ndV at HS
      obtain ⟨an', cn', ak', ck', rfl, rfl, _⟩ := hin.forms
      have i0 : (0 : Int) ≤ (j : Int) := by omega
      have i1 : (j : Int) < (n : Int) := by omega
      have i2 : (j : Int) < (m : Int) := by omega
      obtain ⟨yk, hyk⟩ : ∃ yk, y.kind = yk := ⟨_, rfl⟩
      obtain ⟨yr, hyr⟩ : ∃ yr, good y (deep + 1) = yr := ⟨_, rfl⟩
      have hykb := hin.kind
      rw [hyk] at c0 hykb
      rw [hyk, hyr] at HS
      have HYK := Lib.hid hyk
      have HYR := Lib.hid hyr
      clear hy hym hin hdd hyk hyr a4
      by_cases kk : yk ≤ 16
      · have kk' : ¬ (16 : Int) < (yk : Int) := by omega
        go_wp2_with fail
        refine HS.out.mono ?_
        rintro e w4 ⟨rfl, hC4⟩
        have HC4 : Hid (Chg (fun _ => False) w1 w4) := Lib.hid (hC.out.trans hC4)
        clear hC4 HS
        cases yr with
        | false =>
          have hr : res = false := by rw [← HRES.out]; exact goods_false HY.out hlt HYR.out
          subst hr
          go_wp2_with fail
          go_ret
          exact ⟨rfl, HC1.out.trans HC4.out⟩
        | true =>
          have HOK : Hid (goods (x.kids.take (j + 1)) (deep + 1) = true) := Lib.hid (by rw [goods_take _ _ _ _ HY.out, hok.out, HYR.out]; rfl)
          go_wp2_with fail
          go_roundg gk'
          case measure => omega
          case rel => exact ⟨j + 1, by go_num, by omega, by omega, HC4, HOK⟩
      · have kk' : (16 : Int) < (yk : Int) := by omega
        have hr : res = false := by
          rw [← HRES.out]
          refine goods_false HY.out hlt ?_
          unfold good
          rw [HYK.out, decide_eq_false kk]
          rfl
        subst hr
        go_wp2_with fail
        go_ret
        exact ⟨rfl, HC1.out.trans hC.out⟩
    · obtain rfl : j = m := by omega
      have hr : res = true := by rw [← HRES.out]; exact hok.out
      subst hr
      have hkk : ¬ (j : Int) < (j : Int) := by omega
      go_wp2_with fail
      go_ret
      exact ⟨rfl, HC1.out.trans hC.out⟩
set_option maxRecDepth 100000 in
set_option maxHeartbeats 1000000 in
theorem plain_calls (x : Nd) (nv kv : Value) (w : World) (h : NdIn w nv kv x) (hf : Fine x) (hko : KidsOk x) (deep m : Nat) (mi : Int) (hmi : mi = (m : Int)) (hd : deep ≤ 60) :
    Calls Tryz.prog 51 #[ndV x nv kv, .int .i64 mi, .int .i64 deep] w fun e w' => e = .returned (.bool (decide (x.kids.length = m) && decide (x.names.length = 0) && goods x.kids (deep + 1))) ∧ Chg (fun _ => False) w w' := by
  obtain ⟨w1, hw1⟩ : ∃ w1, w.alloc (ndBox x nv kv) = w1 := ⟨_, rfl⟩
  have hC1 : Chg (fun _ => False) w w1 := by rw [← hw1]; exact (Chg.refl _ w).alloc _
  have hb : w1.heap[w.heap.size]? = some (ndBox x nv kv) := by rw [← hw1]; exact blk_new w _
  have HB := Lib.hid hb
  have HC1 := Lib.hid hC1
  have HV : x.kids.length = m → Hid (Calls Tryz.prog 54 #[ndV x nv kv, .int .i64 0, .int .i64 mi, .int .i64 deep] w1 fun e w' => e = .returned (.bool (goods x.kids (deep + 1))) ∧ Chg (fun _ => False) w1 w') := fun hm => Lib.hid (by
    have := values_calls x nv kv w1 (h.kept hC1) hf hko deep m mi hmi hd (by omega)
    rw [List.take_of_length_le (by omega)] at this
    exact this)
  obtain ⟨an, cn, ak, ck, rfl, rfl, hnc, hnm, hkc, hkm, hk⟩ := h.forms
  have hck2 : ck ≤ 9223372036854775807 := by unfold maxLen at hkm; omega
  have hcn2 : cn ≤ 9223372036854775807 := by unfold maxLen at hnm; omega
  obtain ⟨g, hg⟩ : ∃ g, goods x.kids (deep + 1) = g := ⟨_, rfl⟩
  rw [hg] at HV ⊢
  unfold ndBox at HB hw1
  unfold ndV at HV ⊢
  have a0 := cell_of HB.out 0
  have a1 := cell_of HB.out 1
  have a2 := cell_of HB.out 2
  have a3 := cell_of HB.out 3
  have a4 := cell_of HB.out 4
  obtain ⟨n, hn⟩ : ∃ n, x.kids.length = n := ⟨_, rfl⟩
  obtain ⟨ln, hln⟩ : ∃ ln, x.names.length = ln := ⟨_, rfl⟩
  rw [hn, hln] at HB hw1 a0 a1 a2 a3 a4 HV ⊢
  rw [hn] at hkc
  rw [hln] at hnc
  clear h hf hko hC1 hb hk hkm hnm hn hln hg
  go_enter Tryz.func51, Tryz.ntmps51
  by_cases e1 : n = m
  · have HV1 := HV e1
    have f1 : (n : Int) = mi := by omega
    by_cases e2 : ln = 0
    · have f2 : (ln : Int) = 0 := by omega
      have e1b : decide (n = m) = true := decide_eq_true e1
      rw [e1b, decide_eq_true e2, Bool.true_and, Bool.true_and]
      clear HV e1 e1b hmi e2
      subst f1
      obtain rfl : ln = 0 := by omega
      go_wp2_with fail
      refine HV1.out.mono ?_
      rintro e w2 ⟨rfl, hC2⟩
      have HC2 := Lib.hid (HC1.out.trans hC2)
      clear hC2 HV1
      go_wp2_with fail
      go_ret
      exact ⟨rfl, HC2.out⟩
    · have f2 : ¬ (ln : Int) = 0 := by omega
      have f2b : ((ln : Int) == 0) = false := beq_eq_false_iff_ne.2 f2
      rw [decide_eq_false e2, Bool.and_false, Bool.false_and]
      clear HV HV1 e1 hmi e2
      subst f1
      go_wp2_with fail
      go_ret
      exact ⟨rfl, HC1.out⟩
  · have f1 : ¬ (n : Int) = mi := by omega
    have f1b : ((n : Int) == mi) = false := beq_eq_false_iff_ne.2 f1
    rw [decide_eq_false e1, Bool.false_and, Bool.false_and]
    clear HV e1 hmi
    go_wp2_with fail
    go_ret
    exact ⟨rfl, HC1.out⟩
end Go.Proofs.YtaklmocjaokkpaaGreatDoor.Tr
namespace Go.Proofs.YtaklmocjaokkpaaGreatDoor.Tr
set_option linter.unusedVariables false
set_option linter.unusedSimpArgs false
open Go.RowKit Go.Shelf Go.Proofs.YtaklmocjaokkpaaGreatDoor.Mem

theorem empty_ne {s : ByteArray} (h : ¬ s = ⟨#[]⟩) : s.toList.isEmpty = false := by
  rw [ByteArray.toList_eq]
  cases hl : s.data.toList with
  | nil => exact absurd ((bytes_eq s []).1 hl) h
  | cons a l => rfl
theorem chg_drewN {w w' : World} (h : ∃ m, w' = w.drewN m) : Chg (fun _ => False) w w' := by
  obtain ⟨m, rfl⟩ := h
  exact (Chg.refl _ w).drewN m
set_option maxRecDepth 100000 in
set_option maxHeartbeats 2000000 in
theorem clause_calls (x : Nd) (nv kv : Value) (w : World) (h : NdIn w nv kv x) (hf : Fine x) (hko : KidsOk x) (deep : Nat) (hd : deep ≤ 61) (h17 : 17 ≤ x.kind) (h19 : x.kind ≤ 19) :
    Calls Tryz.prog 77 #[ndV x nv kv, .int .i64 deep] w fun e w' => e = .returned (.bool (rightR x deep)) ∧ Chg (fun _ => False) w w' := by
  obtain ⟨w1, hw1⟩ : ∃ w1, w.alloc (ndBox x nv kv) = w1 := ⟨_, rfl⟩
  have hC1 : Chg (fun _ => False) w w1 := by rw [← hw1]; exact (Chg.refl _ w).alloc _
  have hb : w1.heap[w.heap.size]? = some (ndBox x nv kv) := by rw [← hw1]; exact blk_new w _
  have HB := Lib.hid hb
  have HC1 := Lib.hid hC1
  have HV : deep ≤ 60 → x.kids.length = 1 → Hid (Calls Tryz.prog 54 #[ndV x nv kv, .int .i64 0, .int .i64 1, .int .i64 deep] w1 fun e w' => e = .returned (.bool (goods (x.kids.take 1) (deep + 1))) ∧ Chg (fun _ => False) w1 w') := fun hd hm => Lib.hid
    (values_calls x nv kv w1 (h.kept hC1) hf hko deep 1 1 rfl hd (by omega))
  have HNS := Lib.hid (fun W (hW : Chg (fun _ => False) w W) => rnames_calls x.names nv W (h.names.kept hW) (fun s hs => by have := hf.names s hs; omega))
  have HNM := Lib.hid (fun W => rname_calls x.text W (by have := hf.text; omega))
  obtain ⟨an, cn, ak, ck, rfl, rfl, hnc, hnm, hkc, hkm, hk⟩ := h.forms
  have hck2 : ck ≤ 9223372036854775807 := by unfold maxLen at hkm; omega
  have hcn2 : cn ≤ 9223372036854775807 := by unfold maxLen at hnm; omega
  obtain ⟨res, hres⟩ : ∃ res, rightR x deep = res := ⟨_, rfl⟩
  rw [hres]
  rw [clause_is x deep h17 h19] at hres
  obtain ⟨g, hg⟩ : ∃ g, goods (x.kids.take 1) (deep + 1) = g := ⟨_, rfl⟩
  obtain ⟨u, hu⟩ : ∃ u, unlike x.names = u := ⟨_, rfl⟩
  obtain ⟨nb, hnb⟩ : ∃ nb, nameB x.text = nb := ⟨_, rfl⟩
  rw [hg] at HV
  rw [hu] at HNS
  rw [hnb] at HNM
  rw [hg, hu, hnb] at hres
  unfold ndBox at HB hw1
  unfold ndV at HV ⊢
  obtain ⟨z, hz⟩ : ∃ z : Int, (x.kind : Int) = z := ⟨_, rfl⟩
  obtain ⟨n, hn⟩ : ∃ n, x.kids.length = n := ⟨_, rfl⟩
  obtain ⟨ln, hln⟩ : ∃ ln, x.names.length = ln := ⟨_, rfl⟩
  obtain ⟨nn, hnn⟩ : ∃ nn, x.n = nn := ⟨_, rfl⟩
  obtain ⟨tx, htx⟩ : ∃ tx, x.text = tx := ⟨_, rfl⟩
  rw [htx] at HNM
  rw [hz, hn, hln, hnn, htx] at HB hw1 HV
  rw [hz, hn, hln, hnn, htx]
  rw [hln] at HNS hnc
  rw [hn] at hkc
  rw [hn, hln, hnn, htx] at hres
  have a0 := cell_of HB.out 0
  have a1 := cell_of HB.out 1
  have a2 := cell_of HB.out 2
  have a3 := cell_of HB.out 3
  have a4 := cell_of HB.out 4
  have HRES := Lib.hid hres
  clear h hf hko hC1 hb hk hkm hnm hn hln hnn htx hg hu hnb hres
  go_enter Tryz.func77, Tryz.ntmps77
  by_cases d1 : deep ≤ 60
  case neg =>
    have d2 : (60 : Int) < (deep : Int) := by omega
    obtain rfl : false = res := by rw [← HRES.out, decide_eq_false d1]; rfl
    clear HV
    go_wp2_with fail
    go_ret
    exact ⟨rfl, HC1.out⟩
  have d2 : ¬ (60 : Int) < (deep : Int) := by omega
  by_cases n1 : nn = 0
  case neg =>
    obtain rfl : false = res := by rw [← HRES.out, decide_eq_false n1, Bool.and_false]; rfl
    clear HV
    go_wp2_with fail
    go_ret
    exact ⟨rfl, HC1.out⟩
  subst n1
  by_cases k1 : n = 1
  case neg =>
    have k2 : ¬ (n : Int) = 1 := by omega
    have k3 : ((n : Int) == 1) = false := beq_eq_false_iff_ne.2 k2
    obtain rfl : false = res := by rw [← HRES.out, decide_eq_false k1, Bool.and_false]; rfl
    clear HV
    go_wp2_with fail
    go_ret
    exact ⟨rfl, HC1.out⟩
  have HV1 := HV d1 k1
  have hr1 : (g && u && (if x.kind = 17 then decide (tx = ⟨#[]⟩) && decide (ln = 1) else if x.kind = 18 then nb && decide (ln = 2) else decide (tx = ⟨#[]⟩) && decide (ln = 0))) = res := by
    rw [← HRES.out, decide_eq_true d1, decide_eq_true k1]
    simp
  have HR1 := Lib.hid hr1
  clear HV hr1 HRES
  subst k1
  go_wp2_with fail
  refine HV1.out.mono ?_
  rintro e w2 ⟨rfl, hC2⟩
  have HC2 := Lib.hid (HC1.out.trans hC2)
  have hb2 := hC2.blk HB.out (fun e => e)
  clear HV1 hC2 a0 a1 a2 a3 a4 hw1
  have a0 := cell_of hb2 0
  have a1 := cell_of hb2 1
  have a2 := cell_of hb2 2
  have a3 := cell_of hb2 3
  have a4 := cell_of hb2 4
  have HB2 := Lib.hid hb2
  clear hb2
  cases g with
  | false =>
    obtain rfl : false = res := HR1.out
    go_wp2_with fail
    go_ret
    exact ⟨rfl, HC2.out⟩
  | true =>
    go_wp2_with fail
    refine (HNS.out _ HC2.out).mono ?_
    rintro e w3 ⟨rfl, hd3⟩
    have hC3 := chg_drewN hd3
    have HC3 := Lib.hid (HC2.out.trans hC3)
    have hb3 := hC3.blk HB2.out (fun e => e)
    clear HNS hC3 hd3 a0 a1 a2 a3 a4
    have a0 := cell_of hb3 0
    have a1 := cell_of hb3 1
    have a2 := cell_of hb3 2
    have a3 := cell_of hb3 3
    have a4 := cell_of hb3 4
    clear hb3
    cases u with
    | false =>
      obtain rfl : false = res := HR1.out
      go_wp2_with fail
      go_ret
      exact ⟨rfl, HC3.out⟩
    | true =>
      have hr2 : (if x.kind = 17 then decide (tx = ⟨#[]⟩) && decide (ln = 1) else if x.kind = 18 then nb && decide (ln = 2) else decide (tx = ⟨#[]⟩) && decide (ln = 0)) = res := HR1.out
      have HR2 := Lib.hid hr2
      clear hr2 HR1
      rcases (by omega : x.kind = 17 ∨ x.kind = 18 ∨ x.kind = 19) with e | e | e
      · obtain rfl : z = 17 := by rw [← hz, e]; rfl
        have hr3 : (decide (tx = ⟨#[]⟩) && decide (ln = 1)) = res := by rw [← HR2.out, if_pos e]
        clear HR2 hz h17 h19
        by_cases t1 : tx = ⟨#[]⟩
        · subst t1
          by_cases l1 : ln = 1
          · obtain rfl : true = res := by rw [← hr3, decide_eq_true l1]; rfl
            have l2 : (ln : Int) = 1 := by omega
            clear hr3
            go_wp2_with fail
            go_ret
            exact ⟨rfl, HC3.out⟩
          · obtain rfl : false = res := by rw [← hr3, decide_eq_false l1, Bool.and_false]
            have l2 : ¬ (ln : Int) = 1 := by omega
            have l3 : ((ln : Int) == 1) = false := beq_eq_false_iff_ne.2 l2
            clear hr3
            go_wp2_with fail
            go_ret
            exact ⟨rfl, HC3.out⟩
        · obtain rfl : false = res := by rw [← hr3, decide_eq_false t1]; rfl
          have t2 : tx.toList.isEmpty = false := empty_ne t1
          clear hr3
          go_wp2_with fail
          go_ret
          exact ⟨rfl, HC3.out⟩
      · obtain rfl : z = 18 := by rw [← hz, e]; rfl
        have hr3 : (nb && decide (ln = 2)) = res := by rw [← HR2.out, if_neg (by omega), if_pos e]
        clear HR2 hz h17 h19
        go_wp2_with fail
        refine (HNM.out _).mono ?_
        rintro e w4 ⟨rfl, hw4⟩
        subst hw4
        cases nb with
        | false =>
          obtain rfl : false = res := hr3
          go_wp2_with fail
          go_ret
          exact ⟨rfl, HC3.out⟩
        | true =>
          by_cases l1 : ln = 2
          · obtain rfl : true = res := by rw [← hr3, decide_eq_true l1]; rfl
            have l2 : (ln : Int) = 2 := by omega
            clear hr3
            go_wp2_with fail
            go_ret
            exact ⟨rfl, HC3.out⟩
          · obtain rfl : false = res := by rw [← hr3, decide_eq_false l1, Bool.and_false]
            have l2 : ¬ (ln : Int) = 2 := by omega
            have l3 : ((ln : Int) == 2) = false := beq_eq_false_iff_ne.2 l2
            clear hr3
            go_wp2_with fail
            go_ret
            exact ⟨rfl, HC3.out⟩
      · obtain rfl : z = 19 := by rw [← hz, e]; rfl
        have hr3 : (decide (tx = ⟨#[]⟩) && decide (ln = 0)) = res := by rw [← HR2.out, if_neg (by omega), if_neg (by omega)]
        clear HR2 hz h17 h19
        by_cases t1 : tx = ⟨#[]⟩
        · subst t1
          by_cases l1 : ln = 0
          · obtain rfl : true = res := by rw [← hr3, decide_eq_true l1]; rfl
            have l2 : (ln : Int) = 0 := by omega
            clear hr3
            go_wp2_with fail
            go_ret
            exact ⟨rfl, HC3.out⟩
          · obtain rfl : false = res := by rw [← hr3, decide_eq_false l1, Bool.and_false]
            have l2 : ¬ (ln : Int) = 0 := by omega
            have l3 : ((ln : Int) == 0) = false := beq_eq_false_iff_ne.2 l2
            clear hr3
            go_wp2_with fail
            go_ret
            exact ⟨rfl, HC3.out⟩
        · obtain rfl : false = res := by rw [← hr3, decide_eq_false t1]; rfl
          have t2 : tx.toList.isEmpty = false := empty_ne t1
          clear hr3
          go_wp2_with fail
          go_ret
          exact ⟨rfl, HC3.out⟩
end Go.Proofs.YtaklmocjaokkpaaGreatDoor.Tr
namespace Go.Proofs.YtaklmocjaokkpaaGreatDoor.Tr
set_option linter.unusedVariables false
set_option linter.unusedSimpArgs false
open Go.RowKit Go.Shelf Go.Proofs.YtaklmocjaokkpaaGreatDoor.Mem

/-- What the walk tells. -/
def clausesR (l : List Nd) (deep : Nat) : Bool := clausesB l && l.all fun y => rightR y deep
theorem clausesR_no1 {l : List Nd} {j d : Nat} (h : orderB 16 (l.take j) = false) : clausesR l d = false := by
  unfold clausesR; rw [clausesB_no h]; rfl
theorem clausesR_no2 {l : List Nd} {j d : Nat} {y : Nd} (h : l[j]? = some y) (hr : rightR y d = false) : clausesR l d = false := by
  cases hb : clausesR l d with
  | false => rfl
  | true =>
    unfold clausesR at hb
    rw [Bool.and_eq_true, List.all_eq_true] at hb
    have := hb.2 y (List.mem_of_getElem? h)
    rw [hr] at this
    cases this
theorem clausesR_end {l : List Nd} {d : Nat} (h : orderB 16 l = true) (hr : (l.all fun y => rightR y d) = true) : clausesR l d = unlike (opsOf l) := by
  unfold clausesR clausesB
  rw [h, hr]
  simp
theorem all_snoc (l : List Nd) (d j : Nat) (y : Nd) (h : l[j]? = some y) : ((l.take (j + 1)).all fun y => rightR y d) = (((l.take j).all fun y => rightR y d) && rightR y d) := by
  rw [snoc_take h]
  simp
theorem right_none {y : Nd} (d : Nat) (h : 19 < y.kind) : rightR y d = false := by
  rw [rightR_is]
  have : shapeOf y.kind = none := by
    unfold shapeOf
    split <;> first | omega | rfl
  unfold headR
  rw [this]
  rfl
theorem lastK_ge : ∀ (l : List Nd) (a : Nat), orderB a l = true → a ≤ lastK a l := by
  intro l
  induction l with
  | nil => intro a h; exact Nat.le_refl _
  | cons y l ih =>
    intro a h
    unfold orderB at h
    simp only [Bool.and_eq_true, decide_eq_true_eq] at h
    have h1 := ih y.kind h.2
    have h2 := h.1.1.1
    show a ≤ lastK y.kind l
    omega
theorem row_empty (W : World) (b : Nat) (h : W.heap[b]? = some (.cells #[] 9 (0, 0))) : RowAt W 9 1 (.slice (some ⟨b, 0, none⟩) 0 0) 0 [] :=
  ⟨rfl, .inr ⟨b, 0, 0, #[], rfl, h, Nat.le_refl _, Nat.zero_le _, by simp, by simp⟩⟩
set_option maxRecDepth 100000 in
set_option maxHeartbeats 1500000 in
theorem rclauses_calls (x : Nd) (nv kv : Value) (w : World) (h : NdIn w nv kv x) (hf : Fine x) (hko : ∀ y ∈ x.kids, KidsOk y) (deep : Nat) (hd : deep ≤ 60) :
    Calls Tryz.prog 55 #[ndV x nv kv, .int .i64 deep] w fun e w' => e = .returned (.bool (clausesR (x.kids.drop 1) (deep + 1))) ∧ Chg (fun _ => False) w w' := by
  obtain ⟨w1, hw1⟩ : ∃ w1, w.alloc (ndBox x nv kv) = w1 := ⟨_, rfl⟩
  have hC1 : Chg (fun _ => False) w w1 := by rw [← hw1]; exact (Chg.refl _ w).alloc _
  have hb : w1.heap[w.heap.size]? = some (ndBox x nv kv) := by rw [← hw1]; exact blk_new w _
  obtain ⟨w2, hw2⟩ : ∃ w2, w1.alloc (.cells #[] 9) = w2 := ⟨_, rfl⟩
  have hC2 : Chg (fun _ => False) w1 w2 := by rw [← hw2]; exact (Chg.refl _ w1).alloc _
  have hs1 : w1.heap.size = w.heap.size + 1 := by rw [← hw1]; simp
  have HS1 := Lib.hid hs1
  have HR0 : Hid (RowAt w2 9 1 (.slice (some ⟨w1.heap.size, 0, none⟩) 0 0) 0 []) := Lib.hid (by rw [← hw2]; exact row_empty _ _ (blk_new w1 _))
  have HO0 : Hid (∀ b, (Value.slice (some ⟨w1.heap.size, 0, none⟩) 0 0).ownBlock = some b → w.heap.size < b) := Lib.hid fun b h => by
    have : w1.heap.size = b := by simpa [Value.ownBlock] using h
    omega
  have HB := Lib.hid (hC2.blk hb (fun e => e))
  have HC2 := Lib.hid (hC1.trans hC2)
  have HKO := Lib.hid hko
  have HF := Lib.hid hf
  have HRN := Lib.hid (fun (W : World) (v : Value) (l : List ByteArray) (hl : StrsIn W v l) (hs : ∀ s ∈ l, s.size ≤ 1099511627776) => rnames_calls l v W hl hs)
  have hmany := hf.many
  obtain ⟨an, cn, ak, ck, rfl, rfl, _, _, hkc, hkm, hk⟩ := h.forms
  have hck2 : ck ≤ 9223372036854775807 := by unfold maxLen at hkm; omega
  have HK := Lib.hid hk
  obtain ⟨n, hn⟩ : ∃ n, x.kids.length = n := ⟨_, rfl⟩
  obtain ⟨l, hl⟩ : ∃ l, x.kids.drop 1 = l := ⟨_, rfl⟩
  have hln : l.length = n - 1 := by rw [← hl, List.length_drop, hn]
  have HAT : Hid (∀ j, l[j]? = x.kids[j + 1]?) := Lib.hid fun j => by rw [← hl, List.getElem?_drop, Nat.add_comm]
  obtain ⟨res, hres⟩ : ∃ res, clausesR l (deep + 1) = res := ⟨_, rfl⟩
  have HRES := Lib.hid hres
  have HN := Lib.hid hn
  have HLN := Lib.hid hln
  have HLM : Hid (∀ y ∈ l, y ∈ x.kids) := Lib.hid fun y hy => by rw [← hl] at hy; exact List.mem_of_mem_drop hy
  rw [hl, hres]
  unfold ndBox at HB hw1
  unfold ndV
  rw [hn] at HB hw1 hmany hkc ⊢
  have a4 := cell_of HB.out 4
  clear h hf hko hC1 hC2 hb hk hkm hn hl hln hres hs1
  obtain ⟨iS, hj0, hj1, hj2, hj3⟩ := info_parts infoS
  have hwl : Tryz.prog.underlying 22 = some (.slice 9) := Tryz.underlying22
  go_enter Tryz.func55, Tryz.ntmps55
  go_wp2_with fail
  go_loopg [5, 6, 7] (n + 2) (fun g vo vs vi wr => ∃ (i j : Nat) (st : Int), vi = .int .i64 i ∧ vs = .int .i64 st ∧ Hid (i = j + 1) ∧ 1 ≤ i ∧ n + 2 ≤ g + i ∧ Hid (st = (lastK 16 (l.take j) : Int) - 16) ∧ Hid (orderB 16 (l.take j) = true) ∧ Hid (((l.take j).all fun y => rightR y (deep + 1)) = true) ∧ Hid (RowAt wr 9 1 vo (opsOf (l.take j)).length ((opsOf (l.take j)).map Value.string)) ∧ Hid (∀ b, vo.ownBlock = some b → w.heap.size < b) ∧ Hid (Chg (fun _ => False) w wr) ∧ Hid (wr.heap[w.heap.size]? = some (.cells #[.int .u8 x.kind, .int .i64 x.n, .string x.text, .slice an x.names.length cn, .slice ak n ck] 25)))
  case atStart => exact ⟨1, 0, 0, rfl, rfl, Lib.hid rfl, by omega, by omega, Lib.hid rfl, Lib.hid rfl, Lib.hid rfl, HR0, HO0, HC2, HB⟩
  case round =>
    obtain ⟨i, j, st, rfl, rfl, hij, hi1, hg, hst, hor, hal, hrow, hown, hC, hB⟩ := hrel
    have a4 := cell_of hB.out 4
    by_cases hlt : i < n
    · obtain ⟨gk', rfl⟩ : ∃ q, gk = q + 1 := ⟨gk - 1, by omega⟩
      obtain ⟨b, off, nv', kv', y, rfl, hy, hym, c0, c1, c2, c3, c4, hin⟩ := kid_cells (HK.out.kept hC.out) i (by rw [HN.out]; exact hlt)
      have hyl : l[j]? = some y := by rw [HAT.out, ← hij.out]; exact hy
      have HYL := Lib.hid hyl
      have HOS : Hid (orderB 16 (l.take (j + 1)) = tst (lastK 16 (l.take j)) y) := Lib.hid (by rw [snoc_take hyl, orderB_snoc, hor.out]; rfl)
      have HLS : Hid (lastK 16 (l.take (j + 1)) = y.kind) := Lib.hid (by rw [snoc_take hyl, lastK_snoc])
      have HPS : Hid (opsOf (l.take (j + 1)) = opsOf (l.take j) ++ (if y.kind = 18 then [y.text] else [])) := Lib.hid (by rw [snoc_take hyl, opsOf_snoc])
      have HAS : Hid (((l.take (j + 1)).all fun y => rightR y (deep + 1)) = rightR y (deep + 1)) := Lib.hid (by rw [all_snoc _ _ _ _ hyl, hal.out]; rfl)
      have hop : (opsOf (l.take j)).length ≤ n := Nat.le_trans (opsOf_len _) (by rw [List.length_take, HLN.out]; omega)
      have hla16 := lastK_ge (l.take j) 16 hor.out
      have HCL : 17 ≤ y.kind → y.kind ≤ 19 → Hid (∀ W, Chg (fun _ => False) wr W → Calls Tryz.prog 77 #[ndV y nv' kv', .int .i64 ((deep : Int) + 1)] W fun e w' => e = .returned (.bool (rightR y (deep + 1))) ∧ Chg (fun _ => False) W w') := fun h1 h2 => Lib.hid fun W hW => by
        have := clause_calls y nv' kv' W (hin.kept hW) (HF.out.kid y hym) (HKO.out y hym) (deep + 1) (by omega) h1 h2
        have hdd : ((deep + 1 : Nat) : Int) = (deep : Int) + 1 := by push_cast; rfl
        rw [hdd] at this
        exact this
      obtain ⟨la, hla⟩ : ∃ la, lastK 16 (l.take j) = la := ⟨_, rfl⟩
      obtain ⟨og, hog⟩ : ∃ og, opsOf (l.take j) = og := ⟨_, rfl⟩
      have hstl := hst.out
      rw [hla] at HOS hstl hla16
      rw [hog] at hrow HPS hop
      have hkb := hin.kind
      obtain ⟨yr, hyr⟩ : ∃ yr, rightR y (deep + 1) = yr := ⟨_, rfl⟩
      have HYR := Lib.hid hyr
      rw [hyr] at HAS HCL
      have HRNO : Hid (19 < y.kind → rightR y (deep + 1) = false) := Lib.hid (right_none (deep + 1))
      have i0 : (0 : Int) ≤ (i : Int) := by omega
      have i1 : (i : Int) < (n : Int) := by omega
      obtain ⟨kd, hkd⟩ : ∃ kd, y.kind = kd := ⟨_, rfl⟩
      obtain ⟨tx, htx⟩ : ∃ tx, y.text = tx := ⟨_, rfl⟩
      obtain ⟨nn, hnn⟩ : ∃ nn, y.n = nn := ⟨_, rfl⟩
      unfold tst at HOS
      unfold ndV at HCL
      rw [hkd] at HOS HLS HPS c0 hkb HCL HRNO
      rw [htx] at HPS c2 HCL
      rw [hnn] at c1 HCL
      obtain ⟨an', cn', ak', ck', rfl, rfl, _⟩ := hin.forms
      generalize y.names.length = ln at c3 HCL
      generalize y.kids.length = lk at c4 HCL
      obtain ⟨nx, hnx⟩ : ∃ nx, (kd : Int) - 16 = nx := ⟨_, rfl⟩
      have nxl : -16 ≤ nx := by omega
      have nxu : nx ≤ 239 := by omega
      have nxw : IntKind.i64.wrap nx = nx := by simp [IntKind.wrap, IntKind.signed, IntKind.bits]; omega
      have kw : IntKind.i64.wrap (kd : Int) = (kd : Int) := by simp [IntKind.wrap, IntKind.signed, IntKind.bits]; omega
      obtain ⟨w4, hw4⟩ : ∃ w4, wr.alloc (.cells #[.int .u8 kd, .int .i64 nn, .string tx, .slice an' ln cn', .slice ak' lk ck'] 25) = w4 := ⟨_, rfl⟩
      have hC4 : Chg (fun _ => False) wr w4 := by rw [← hw4]; exact (Chg.refl _ wr).alloc _
      have hb4 : w4.heap[wr.heap.size]? = some (.cells #[.int .u8 kd, .int .i64 nn, .string tx, .slice an' ln cn', .slice ak' lk ck'] 25) := by rw [← hw4]; exact blk_new wr _
      have HB4 := Lib.hid hb4
      have HC4 := Lib.hid hC4
      have k0 := cell_of hb4 0
      have k1 := cell_of hb4 1
      have k2 := cell_of hb4 2
      have k3 := cell_of hb4 3
      have k4 := cell_of hb4 4
      clear hla hog hyl hy hym hin hyr hkd htx hnn hst hC4 hb4
      by_cases t1 : kd < 17
      · have hr : res = false := by rw [← HRES.out]; exact clausesR_no1 (j := j + 1) (by rw [HOS.out, show decide (17 ≤ kd) = false from decide_eq_false (by omega)]; simp)
        subst hr
        have t1' : nx < 1 := by omega
        clear t1 hstl
        go_wp2_with fail
        go_ret
        exact ⟨rfl, hC.out.trans HC4.out⟩
      have t1' : ¬ nx < 1 := by omega
      by_cases t2 : 19 < kd
      · have hr : res = false := by rw [← HRES.out]; exact clausesR_no2 HYL.out (HRNO.out t2)
        subst hr
        have t2' : 3 < nx := by omega
        clear t1 t2 hstl
        go_wp2_with fail
        go_ret
        exact ⟨rfl, hC.out.trans HC4.out⟩
      have t2' : ¬ 3 < nx := by omega
      by_cases t3 : kd < la
      · have hr : res = false := by rw [← HRES.out]; exact clausesR_no1 (j := j + 1) (by rw [HOS.out, show decide (la ≤ kd) = false from decide_eq_false (by omega)]; simp)
        subst hr
        have t3' : nx < st := by omega
        clear t1 t2 t3 hstl
        go_wp2_with fail
        go_ret
        exact ⟨rfl, hC.out.trans HC4.out⟩
      have t3' : ¬ nx < st := by omega
      by_cases t4 : kd = la ∧ ¬ kd = 18
      · have hr : res = false := by rw [← HRES.out]; exact clausesR_no1 (j := j + 1) (by rw [HOS.out, decide_eq_true t4.1, decide_eq_false t4.2]; simp)
        subst hr
        obtain rfl : nx = st := by omega
        have t4' : ¬ nx = 2 := by omega
        have t5' : (nx == 2) = false := beq_eq_false_iff_ne.2 t4'
        clear t1 t2 t3 t4 hstl t3'
        have t3' : ¬ nx < nx := by omega
        go_wp2_with fail
        go_ret
        exact ⟨rfl, hC.out.trans HC4.out⟩
      have HOT : Hid (orderB 16 (l.take (j + 1)) = true) := Lib.hid (by
        rw [HOS.out, decide_eq_true (by omega : la ≤ kd), show decide (17 ≤ kd) = true from decide_eq_true (by omega)]
        by_cases e : kd = la
        · rw [decide_eq_true (by omega : kd = 18)]; simp
        · rw [decide_eq_false e]; simp)
      have HCW := HCL (by omega) (by omega)
      have HNX : Hid (nx = (kd : Int) - 16) := Lib.hid hnx.symm
      have hkey : (nx = 2 ∧ (st = 2 ∨ ¬ (2 : Int) = st) ∧ kd = 18) ∨ (¬ nx = 2 ∧ ¬ nx = st ∧ ¬ kd = 18) := by omega
      clear t1 t2 t3 t4 HCL HOS HRNO hstl
      rcases hkey with ⟨rfl, q1, k18⟩ | ⟨q2, q1, k18⟩
      · have HK18 := Lib.hid k18
        clear k18
        rcases q1 with rfl | q1
        all_goals
          try have q1b : ((2 : Int) == st) = false := beq_eq_false_iff_ne.2 q1
          go_wp2_with fail
          refine (HCW.out _ HC4.out).mono ?_
          rintro e w5 ⟨rfl, hC5⟩
          have HC5 := Lib.hid ((hC.out.trans HC4.out).trans hC5)
          have HCR5 := Lib.hid (HC4.out.trans hC5)
          have hb5 := hC5.blk HB4.out (fun e => e)
          have k2' := cell_of hb5 2
          clear hC5 HCW k0 k1 k2 k3 k4 hw4 c0 c1 c2 c3 c4 a4 hb5
          cases yr with
          | false =>
            have hr : res = false := by rw [← HRES.out]; exact clausesR_no2 HYL.out HYR.out
            subst hr
            go_wp2_with fail
            go_ret
            exact ⟨rfl, HC5.out⟩
          | true =>
            have HBR := Lib.hid (HCR5.out.blk hB.out (fun e => e))
            have HRW5 : Hid (RowAt w5 9 1 u5 og.length (og.map Value.string)) := Lib.hid (hrow.out.kept HCR5.out (fun _ _ e => e))
            go_wp2_with (at_builtin; refine wpList_append_row _ rfl _ _ 22 rfl 9 iS _ 1 16 hwl hj0 hj1 hj2 hj3 rfl (by decide) u5 og.length (og.map Value.string) rfl ?ya1 ⟨w5.heap.size, 0, none⟩ 1 1 [.string tx] rfl rfl ?ya2 ?ya3 (by decide) ?ya4 ?ya5 _ rfl ?_)
            case ya1 => exact HRW5.out.kept ((Chg.refl (fun _ => False) w5).alloc _) (fun _ _ h => h)
            case ya2 => have h := World.news_of_block (blk_new w5 (.cells #[.string tx] 9)); simpa using h
            case ya3 => simp [Value.oneCell']
            case ya4 => unfold maxLen; omega
            case ya5 => omega
            intro gg off2 cap2 w6 hrow3 hgrow3 hat3 hlt3
            have hA3 : Chg (fun b => u5.ownBlock = some b) w5 w6 := ((Chg.refl _ w5).alloc _).grown hgrow3 (fun b _ e => e)
            have hC6 : Hid (Chg (fun _ => False) w w6) := Lib.hid (HC5.out.andThen hA3 (fun b hb e => by have := hown.out b e; omega))
            have hR3 : Hid (RowAt w6 9 1 (.slice (some ⟨gg, off2, none⟩) (og.length + 1) cap2) (og ++ [tx]).length ((og ++ [tx]).map Value.string)) := by
              rw [List.length_append, List.map_append]
              exact Lib.hid hrow3
            have hO3 : Hid (∀ b, (Value.slice (some ⟨gg, off2, none⟩) (og.length + 1) cap2).ownBlock = some b → w.heap.size < b) := Lib.hid fun b hb => by
              have hgb : gg = b := by simpa [Value.ownBlock] using hb
              have hsr := lt_of_block HBR.out
              rcases hat3 with h | h
              · exact hown.out b (by rw [← hgb]; exact h)
              · have : (w5.alloc (.cells #[.string tx] 9)).heap.size = w5.heap.size + 1 := by simp
                omega
            have HB6 := Lib.hid (hA3.blk HBR.out (fun e => by have := hown.out _ e; omega))
            have HO6 : Hid (opsOf (l.take (j + 1)) = og ++ [tx]) := Lib.hid (by rw [HPS.out, if_pos HK18.out])
            clear hrow3 hgrow3 hat3 hlt3 hA3
            go_wp2_with fail
            go_roundg gk'
            case measure => omega
            case rel => exact ⟨i + 1, j + 1, 2, by go_num, rfl, Lib.hid (by rw [hij.out]), by omega, by omega, Lib.hid (by rw [HLS.out, HK18.out]; rfl), HOT, Lib.hid (by rw [HAS.out]), by rw [HO6.out]; exact hR3, hO3, hC6, HB6⟩
      · have HK18 := Lib.hid k18
        clear k18
        have q1c : (nx == st) = false := beq_eq_false_iff_ne.2 q1
        have q2b : (nx == 2) = false := beq_eq_false_iff_ne.2 q2
        go_wp2_with fail
        refine (HCW.out _ HC4.out).mono ?_
        rintro e w5 ⟨rfl, hC5⟩
        have HC5 := Lib.hid ((hC.out.trans HC4.out).trans hC5)
        have HCR5 := Lib.hid (HC4.out.trans hC5)
        have hb5 := hC5.blk HB4.out (fun e => e)
        have k2' := cell_of hb5 2
        clear hC5 HCW k0 k1 k2 k3 k4 hw4 c0 c1 c2 c3 c4 a4 hb5
        cases yr with
        | false =>
          have hr : res = false := by rw [← HRES.out]; exact clausesR_no2 HYL.out HYR.out
          subst hr
          go_wp2_with fail
          go_ret
          exact ⟨rfl, HC5.out⟩
        | true =>
          have HBR := Lib.hid (HCR5.out.blk hB.out (fun e => e))
          have HRW5 : Hid (RowAt w5 9 1 u5 og.length (og.map Value.string)) := Lib.hid (hrow.out.kept HCR5.out (fun _ _ e => e))
          have HO6 : Hid (opsOf (l.take (j + 1)) = og) := Lib.hid (by rw [HPS.out, if_neg HK18.out, List.append_nil])
          go_wp2_with fail
          go_roundg gk'
          case measure => omega
          case rel => exact ⟨i + 1, j + 1, nx, by go_num, rfl, Lib.hid (by rw [hij.out]), by omega, by omega, Lib.hid (by rw [HLS.out, HNX.out]), HOT, Lib.hid (by rw [HAS.out]), by rw [HO6.out]; exact HRW5, hown, HC5, HBR⟩
    · have hall : l.take j = l := List.take_of_length_le (by rw [HLN.out]; have := hij.out; omega)
      have hi2 : ¬ (i : Int) < (n : Int) := by omega
      have hr : unlike (opsOf l) = res := by rw [← HRES.out, clausesR_end (by rw [← hall]; exact hor.out) (by rw [← hall]; exact hal.out)]
      have hrw := hrow.out
      rw [hall] at hrw
      have HNW := Lib.hid (HRN.out wr _ (opsOf l) (row_strs hrw) (fun s hs => by
        obtain ⟨z, hz, hzs⟩ := List.mem_map.1 hs
        have hz2 := HLM.out z (List.mem_filter.1 hz).1
        have := (HF.out.kid z hz2).text
        rw [← hzs]
        omega))
      rw [hr] at HNW
      have HR := Lib.hid hr
      clear hall hr hrw hrow hor hal
      go_wp2_with fail
      refine HNW.out.mono ?_
      rintro e w5 ⟨rfl, hd5⟩
      have hC5 := hC.out.trans (chg_drewN hd5)
      clear hd5
      go_wp2_with fail
      go_ret
      exact ⟨rfl, hC5⟩
end Go.Proofs.YtaklmocjaokkpaaGreatDoor.Tr
namespace Go.Proofs.YtaklmocjaokkpaaGreatDoor.Tr
set_option linter.unusedVariables false
set_option linter.unusedSimpArgs false

/-- A node's number is as its kind has it. -/
def numB (kd : Nat) (n : Int) : Bool := decide (kd = 1) || decide (kd = 2) || decide (n = 0)
/-- So many parts, no names, all parts right. -/
def plainB (x : Nd) (m deep : Nat) : Bool := decide (x.kids.length = m) && decide (x.names.length = 0) && goods x.kids (deep + 1)
theorem unlike_nil {l : List ByteArray} (h : l.length = 0) : unlike l = true := by rw [List.eq_nil_of_length_eq_zero h]; rfl
theorem all_lt {l : List Nd} {d : Nat} (h : goods l d = true) : (l.all fun x => decide (x.kind < 17)) = true ∧ kidsR l d = true := by
  rw [goods_is, Bool.and_eq_true] at h; exact h
theorem good_plain (x : Nd) (d m : Nat) (hs : shapeOf x.kind = some (some 0, m, m)) (hm : m ≠ 4000) (h13 : x.kind ≠ 13) (h16 : x.kind ≤ 16) :
    good x d = (decide (d ≤ 60) && numB x.kind x.n && textB x.kind x.n x.text x.kids.length && plainB x m d) := by
  unfold good plainB numB
  rw [rightR_is, goods_is, decide_eq_true h16, Bool.true_and]
  unfold headR
  rw [hs]
  simp only [if_neg h13]
  apply Bool.eq_iff_iff.2
  simp only [Bool.and_eq_true, decide_eq_true_eq]
  constructor
  · rintro ⟨⟨⟨⟨⟨⟨⟨⟨h1, h2⟩, h3⟩, h4⟩, h5⟩, h6⟩, h7⟩, h8⟩, h9⟩
    exact ⟨⟨⟨h1, h5⟩, h2⟩, ⟨⟨by omega, h6⟩, h8, h9⟩⟩
  · rintro ⟨⟨⟨h1, h5⟩, h2⟩, ⟨⟨h3, h6⟩, h8, h9⟩⟩
    exact ⟨⟨⟨⟨⟨⟨⟨⟨h1, h2⟩, by omega⟩, .inr (by omega)⟩, h5⟩, h6⟩, unlike_nil h6⟩, h8⟩, h9⟩
theorem good_many (x : Nd) (d : Nat) (hs : shapeOf x.kind = some (some 0, 1, 4000)) (h13 : x.kind ≠ 13) (h16 : x.kind ≤ 16) :
    good x d = (decide (d ≤ 60) && numB x.kind x.n && textB x.kind x.n x.text x.kids.length && (decide (0 < x.kids.length) && plainB x x.kids.length d)) := by
  unfold good plainB numB
  rw [rightR_is, goods_is, decide_eq_true h16, Bool.true_and]
  unfold headR
  rw [hs]
  simp only [if_neg h13]
  apply Bool.eq_iff_iff.2
  simp only [Bool.and_eq_true, decide_eq_true_eq]
  constructor
  · rintro ⟨⟨⟨⟨⟨⟨⟨⟨h1, h2⟩, h3⟩, h4⟩, h5⟩, h6⟩, h7⟩, h8⟩, h9⟩
    exact ⟨⟨⟨h1, h5⟩, h2⟩, by omega, ⟨⟨trivial, h6⟩, h8, h9⟩⟩
  · rintro ⟨⟨⟨h1, h5⟩, h2⟩, h3, ⟨⟨_, h6⟩, h8, h9⟩⟩
    exact ⟨⟨⟨⟨⟨⟨⟨⟨h1, h2⟩, by omega⟩, .inl trivial⟩, h5⟩, h6⟩, unlike_nil h6⟩, h8⟩, h9⟩
theorem good_fun (x : Nd) (d : Nat) (hk : x.kind = 6) :
    good x d = (decide (d ≤ 60) && numB x.kind x.n && (nameB x.text && unlike x.names && decide (x.kids.length = 1) && goods (x.kids.take 1) (d + 1))) := by
  unfold good numB
  rw [rightR_is, goods_is, hk]
  unfold headR
  simp only [shapeOf, textB]
  apply Bool.eq_iff_iff.2
  simp only [Bool.and_eq_true, decide_eq_true_eq]
  constructor
  · rintro ⟨_, ⟨⟨⟨⟨⟨⟨⟨h1, h2⟩, h3⟩, h4⟩, h5⟩, _⟩, h7⟩, h8⟩, h9⟩
    have hl : x.kids.length = 1 := by omega
    rw [List.take_of_length_le (by omega)]
    exact ⟨⟨h1, h5⟩, ⟨⟨by simpa using h2, h7⟩, hl⟩, by simpa using h8, h9⟩
  · rintro ⟨⟨h1, h5⟩, ⟨⟨h2, h7⟩, hl⟩, h8, h9⟩
    rw [List.take_of_length_le (by omega)] at h8 h9
    exact ⟨by decide, ⟨⟨⟨⟨⟨⟨⟨h1, by simpa using h2⟩, by omega⟩, .inr (by omega)⟩, h5⟩, trivial⟩, h7⟩, by simpa using h8⟩, h9⟩
theorem good_prim (x : Nd) (d : Nat) (hk : x.kind = 11) :
    good x d = (decide (d ≤ 60) && numB x.kind x.n && (decide (0 ≤ takes x.text) && plainB x (takes x.text).toNat d)) := by
  have ht : takes x.text ≤ 2 := by
    rw [takes_is]
    split
    · omega
    · split
      · omega
      · split <;> omega
  unfold good plainB numB
  rw [rightR_is, goods_is, hk]
  unfold headR
  simp only [shapeOf, textB]
  apply Bool.eq_iff_iff.2
  simp only [Bool.and_eq_true, decide_eq_true_eq]
  constructor
  · rintro ⟨_, ⟨⟨⟨⟨⟨⟨⟨h1, h2⟩, h3⟩, h4⟩, h5⟩, h6⟩, h7⟩, h8⟩, h9⟩
    have h2' : takes x.text = (x.kids.length : Int) := by simpa using h2
    exact ⟨⟨h1, h5⟩, by omega, ⟨⟨by omega, h6⟩, by simpa using h8, h9⟩⟩
  · rintro ⟨⟨h1, h5⟩, h2, ⟨⟨h3, h6⟩, h8, h9⟩⟩
    have h2' : takes x.text = (x.kids.length : Int) := by omega
    exact ⟨by decide, ⟨⟨⟨⟨⟨⟨⟨h1, by simpa using h2'⟩, Nat.zero_le _⟩, .inr (by omega)⟩, h5⟩, h6⟩, unlike_nil h6⟩, by simpa using h8⟩, h9⟩
theorem kidsR_split (l : List Nd) (d : Nat) : kidsR l d = (kidsR (l.take 1) d && (l.drop 1).all fun y => rightR y d) := by
  cases l with
  | nil => rfl
  | cons y l =>
    rw [kidsR_all, kidsR_all]
    simp
theorem good_handle (x : Nd) (d : Nat) (hk : x.kind = 13) :
    good x d = (decide (d ≤ 60) && numB x.kind x.n && (decide (x.text = ⟨#[]⟩) && decide (0 < x.kids.length) && decide (x.names.length = 0) && goods (x.kids.take 1) (d + 1) && clausesR (x.kids.drop 1) (d + 1))) := by
  unfold good numB clausesR
  rw [rightR_is, goods_is, hk, kidsR_split x.kids]
  unfold headR
  simp only [shapeOf, textB]
  apply Bool.eq_iff_iff.2
  simp only [Bool.and_eq_true, decide_eq_true_eq, if_true]
  constructor
  · rintro ⟨_, ⟨⟨⟨⟨⟨⟨⟨h1, h2⟩, h3⟩, h4⟩, h5⟩, h6⟩, h7⟩, h8, h8'⟩, h9, h9'⟩
    exact ⟨⟨h1, h5⟩, ⟨⟨⟨by simpa using h2, by omega⟩, h6⟩, h8', h9⟩, h8, h9'⟩
  · rintro ⟨⟨h1, h5⟩, ⟨⟨⟨h2, h3⟩, h6⟩, h8', h9⟩, h8, h9'⟩
    exact ⟨by decide, ⟨⟨⟨⟨⟨⟨⟨h1, by simpa using h2⟩, by omega⟩, .inl trivial⟩, h5⟩, h6⟩, unlike_nil h6⟩, h8, h8'⟩, h9, h9'⟩
theorem good_deep {x : Nd} {d : Nat} (h : ¬ d ≤ 60) : good x d = false := by
  unfold good
  rw [rightR_is]
  unfold headR
  cases shapeOf x.kind with
  | none => simp
  | some q => obtain ⟨a, b, c⟩ := q; simp [h]
theorem good_num {x : Nd} {d : Nat} (h1 : ¬ x.kind = 1) (h2 : ¬ x.kind = 2) (h : ¬ x.n = 0) : good x d = false := by
  unfold good
  rw [rightR_is]
  unfold headR
  cases shapeOf x.kind with
  | none => simp
  | some q => obtain ⟨a, b, c⟩ := q; simp [h, h1, h2]
theorem good_zero {x : Nd} {d : Nat} (h : x.kind = 0 ∨ 16 < x.kind) : good x d = false := by
  unfold good
  rcases h with h | h
  · rw [rightR_is, h]; unfold headR; simp [shapeOf]
  · rw [decide_eq_false (by omega)]; rfl
end Go.Proofs.YtaklmocjaokkpaaGreatDoor.Tr
