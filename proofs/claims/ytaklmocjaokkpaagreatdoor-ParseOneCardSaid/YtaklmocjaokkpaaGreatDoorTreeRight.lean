/- Is a node right, so deep: the program's, walked. Condition: texts of at most 2^20 bytes, and at most so many parts, of each of its nodes; what XTreeText's functions want. -/
import Derived.Test.YtaklmocjaokkpaaGreatDoorTreeClauses
import Derived.Shelf.Abstract
namespace Go.Proofs.YtaklmocjaokkpaaGreatDoor.Tr
set_option linter.unusedVariables false
set_option linter.unusedSimpArgs false
open Go.RowKit Go.Shelf Go.Proofs.YtaklmocjaokkpaaGreatDoor.Mem

mutual
/-- No text, no row of parts is great. -/
def Small : Nd → Prop
  | .mk _ _ t ns ks => t.size ≤ 1048576 ∧ ks.length ≤ 1048576 ∧ Smalls ks
def Smalls : List Nd → Prop
  | [] => True
  | x :: l => Small x ∧ Smalls l
end
theorem Small.text {x : Nd} (h : Small x) : x.text.size ≤ 1048576 := by cases x; unfold Small at h; exact h.1
theorem Small.many {x : Nd} (h : Small x) : x.kids.length ≤ 1048576 := by cases x; unfold Small at h; exact h.2.1
theorem Smalls.of : ∀ {l : List Nd} (h : Smalls l) (y : Nd), y ∈ l → Small y
  | [], _, _, hy => by cases hy
  | x :: l, h, y, hy => by
    unfold Smalls at h
    rcases List.mem_cons.1 hy with rfl | hy
    · exact h.1
    · exact Smalls.of h.2 y hy
theorem Small.kid {x : Nd} (h : Small x) (y : Nd) (hy : y ∈ x.kids) : Small y := by
  cases x; unfold Small at h; exact h.2.2.of y hy
theorem KidsIn.drop1 {w : World} {b off : Nat} {x : Nd} {l : List Nd} (h : KidsIn w (some ⟨b, off, none⟩) 0 (x :: l)) : KidsIn w (some ⟨b, off + 5, none⟩) 0 l := by
  refine KidsIn.of l 0 fun j y hy => ?_
  obtain ⟨b', off', nv, kv, e, e2, e3, e4, e5, e6, e7, e8⟩ := h.at_ (j + 1) y (by simpa using hy)
  cases e
  refine ⟨b, off + 5, nv, kv, rfl, e2, ?_, ?_, ?_, ?_, ?_, e8⟩
  · rw [← e3]; congr 2; omega
  · rw [← e4]; congr 2; omega
  · rw [← e5]; congr 2; omega
  · rw [← e6]; congr 2; omega
  · rw [← e7]; congr 2; omega
def manyB (many : Option Nat) (n : Nat) : Bool := match many with | none => true | some q => decide (n = q)
def lastB (kd : Nat) (ks : List Nd) : Bool := if kd = 13 then clausesB (ks.drop 1) && (ks.take 1).all (fun x => decide (x.kind < 17)) else ks.all fun x => decide (x.kind < 17)
theorem headB_some {deep kd : Nat} {n : Int} {t : ByteArray} {ns : List ByteArray} {ks : List Nd} {many : Option Nat} {least most : Nat} (h : shapeOf kd = some (many, least, most)) (h1 : deep ≤ 60) (h2 : textB kd n t ks.length = true) (h3 : least ≤ ks.length) (h4 : ks.length ≤ most) :
    headB deep kd n t ns ks = ((decide (kd = 1) || decide (kd = 2) || decide (n = 0)) && manyB many ns.length && unlike ns && lastB kd ks) := by
  unfold headB
  rw [h]
  simp only [h2, decide_eq_true h1, decide_eq_true h3, decide_eq_true h4, Bool.true_and]
  rfl
theorem many_cases (many : Option Nat) (n : Nat) (s0 : Int) (h : manyI many = s0) : (¬ 0 ≤ s0 ∧ manyB many n = true) ∨ (0 ≤ s0 ∧ (n : Int) = s0 ∧ manyB many n = true) ∨ (0 ≤ s0 ∧ ¬ (n : Int) = s0 ∧ manyB many n = false) := by
  subst h
  cases many with
  | none => exact .inl ⟨by simp [manyI], rfl⟩
  | some q =>
    by_cases e : n = q
    · exact .inr (.inl ⟨by simp [manyI], by simp [manyI, e], by simp [manyB, e]⟩)
    · exact .inr (.inr ⟨by simp [manyI], by simp [manyI]; omega, by simp [manyB, e]⟩)
/-- The parts: the first F of them tell a value, all of them are right. -/
def lpB (F d : Nat) (ks : List Nd) : Bool := (ks.take F).all (fun x => decide (x.kind < 17)) && kidsB ks d
theorem lpB_true (F d : Nat) (ks : List Nd) (h : ∀ j y, ks[j]? = some y → (j < F → y.kind < 17) ∧ rightB y d = true) : lpB F d ks = true := by
  unfold lpB
  rw [Bool.and_eq_true, kidsB_all, List.all_eq_true, List.all_eq_true]
  refine ⟨fun x hx => ?_, fun x hx => ?_⟩
  · obtain ⟨j, hj⟩ := List.mem_iff_getElem?.1 hx
    rw [List.getElem?_take] at hj
    split at hj
    · exact decide_eq_true ((h j x hj).1 (by assumption))
    · cases hj
  · obtain ⟨j, hj⟩ := List.mem_iff_getElem?.1 hx
    exact (h j x hj).2
theorem lpB_false1 (F d : Nat) (ks : List Nd) (j : Nat) (y : Nd) (hy : ks[j]? = some y) (hF : j < F) (hk : ¬ y.kind < 17) : lpB F d ks = false := by
  cases hb : lpB F d ks with
  | false => rfl
  | true =>
    unfold lpB at hb
    rw [Bool.and_eq_true, List.all_eq_true] at hb
    exact absurd (of_decide_eq_true (hb.1 y (List.mem_iff_getElem?.2 ⟨j, by rw [List.getElem?_take, if_pos hF]; exact hy⟩))) hk
theorem lpB_false2 (F d : Nat) (ks : List Nd) (j : Nat) (y : Nd) (hy : ks[j]? = some y) (hr : rightB y d = false) : lpB F d ks = false := by
  cases hb : lpB F d ks with
  | false => rfl
  | true =>
    unfold lpB at hb
    rw [Bool.and_eq_true, kidsB_all, List.all_eq_true, List.all_eq_true] at hb
    have := hb.2 y (List.mem_iff_getElem?.2 ⟨j, hy⟩)
    rw [hr] at this
    cases this
theorem last_no13 {kd : Nat} (ks : List Nd) (d : Nat) (h : ¬ kd = 13) : (lastB kd ks && kidsB ks d) = lpB ks.length d ks := by
  unfold lastB lpB
  rw [if_neg h, List.take_of_length_le (Nat.le_refl _)]
theorem last_13 (ks : List Nd) (d : Nat) : (lastB 13 ks && kidsB ks d) = (clausesB (ks.drop 1) && lpB 1 d ks) := by
  unfold lastB lpB
  rw [if_pos rfl, Bool.and_assoc]
theorem shape_none {kd : Nat} {a b : Nat} (h : shapeOf kd = some (none, a, b)) : kd = 6 := by
  unfold shapeOf at h
  split at h <;> simp at h
  rfl
theorem shape_leaf {kd : Nat} {many : Option Nat} {least most : Nat} (h : shapeOf kd = some (many, least, most)) (hk : kd = 1 ∨ kd = 2) : most = 0 := by
  rcases hk with rfl | rfl
  · simp [shapeOf] at h; omega
  · simp [shapeOf] at h; omega
/-- The function's own two variables: the node, the kind's shape. -/
def RSt (b0 b5 : Nat) (k : Nat) (n : Int) (t : ByteArray) (nv kv : Value) (s0 s1 s2 : Int) (f : Nat) (w W : World) : Prop :=
  W.heap[b0]? = some (.cells #[.int .u8 k, .int .i64 n, .string t, nv, kv] 25) ∧
  W.heap[b5]? = some (.cells #[.int .i64 s0, .int .i64 s1, .int .i64 s2, .func (.func f) #[] #[]] 90) ∧ Chg (fun _ => False) w W
theorem RSt.kept {b0 b5 k : Nat} {n : Int} {t : ByteArray} {nv kv : Value} {s0 s1 s2 : Int} {f : Nat} {w W W' : World} (h : RSt b0 b5 k n t nv kv s0 s1 s2 f w W) (hc : Chg (fun _ => False) W W') : RSt b0 b5 k n t nv kv s0 s1 s2 f w W' :=
  ⟨hc.blk h.1 (fun e => e), hc.blk h.2.1 (fun e => e), h.2.2.trans hc⟩
theorem enter_text (k : Nat) (args : Array Value) (w : World) : (callFunc (textF k) args).run Tryz.prog w = .ok (.enter (textF k) args) w := by
  unfold textF
  split
  · exact enters_of Tryz.func85 (by kernel_rfl) rfl args w
  split
  · exact enters_of Tryz.func86 (by kernel_rfl) rfl args w
  split
  · exact enters_of Tryz.func87 (by kernel_rfl) rfl args w
  split
  · exact enters_of Tryz.func88 (by kernel_rfl) rfl args w
  · exact enters_of Tryz.func84 (by kernel_rfl) rfl args w
set_option maxRecDepth 100000 in
set_option maxHeartbeats 20000000 in
theorem tright_calls : ∀ (x : Nd) (nv kv : Value) (deep : Nat) (w : World), NdIn w nv kv x → Gm w → Small x → deep ≤ 61 →
    Calls Tryz.prog 35 #[ndV x nv kv, .int .i64 deep] w fun e w' => e = .returned (.bool (rightB x deep)) ∧ Chg (fun _ => False) w w' := by
  intro x
  induction x using Nd.ind with
  | h x ih =>
    intro nv kv deep w h hg hsm hdp
    have HIN := Lib.hid h
    have HG := Lib.hid hg
    have HSM := Lib.hid hsm
    have HIH := Lib.hid ih
    obtain ⟨an, cn, ak, m, hm, ck, rfl, rfl, hnc, hnm, hkc, hkm, hk⟩ : ∃ an cn ak m, m = x.kids.length ∧ ∃ ck, nv = .slice an x.names.length cn ∧ kv = .slice ak m ck ∧ x.names.length ≤ cn ∧ cn ≤ maxLen ∧ m ≤ ck ∧ ck ≤ maxLen ∧ KidsIn w ak 0 x.kids := by
      obtain ⟨an, cn, ak, ck, e1, e2, e3, e4, e5, e6, e7⟩ := h.forms
      exact ⟨an, cn, ak, _, rfl, ck, e1, e2, e3, e4, e5, e6, e7⟩
    have HM := Lib.hid hm
    have HK := Lib.hid hk
    have hmany := hsm.many
    rw [← hm] at hmany
    have HSH := Lib.hid (fun W => shapes_calls x.kind W)
    have HTX := Lib.hid (fun W (hW : Chg (fun _ => False) w W) => texts_calls x _ _ W (h.kept hW) (hg.later hW) hsm.text)
    have HUN := Lib.hid (fun W (hW : Chg (fun _ => False) w W) => tunlike_calls x.names _ W (h.names.kept hW) (hg.later hW).1)
    have hcn2 : cn ≤ 9223372036854775807 := by unfold maxLen at hnm; omega
    have hck2 : ck ≤ 9223372036854775807 := by unfold maxLen at hkm; omega
    have HKM := Lib.hid hkm
    have hkb := h.kind
    obtain ⟨res, hres⟩ : ∃ res, rightB x deep = res := ⟨_, rfl⟩
    rw [hres]
    rw [rightB_is] at hres
    have HRES := Lib.hid hres
    clear h ih hg hsm hres hk hm hnm hkm
    unfold ndV at HTX ⊢
    obtain ⟨ks, hks⟩ : ∃ ks, x.kids = ks := ⟨_, rfl⟩
    obtain ⟨kd, hkd⟩ : ∃ kd, x.kind = kd := ⟨_, rfl⟩
    obtain ⟨tx, htx⟩ : ∃ tx, x.text = tx := ⟨_, rfl⟩
    obtain ⟨nn, hnn⟩ : ∃ nn, x.n = nn := ⟨_, rfl⟩
    obtain ⟨ns, hns⟩ : ∃ ns, x.names = ns := ⟨_, rfl⟩
    obtain ⟨ln, hln⟩ : ∃ ln, ns.length = ln := ⟨_, rfl⟩
    rw [hks, hkd, htx, hnn, hns] at HRES
    rw [hkd, htx, hnn, hns, hln]
    rw [hks] at HM HK HIH
    rw [hkd] at HSH hkb
    rw [hkd, htx, hnn, hks, hns, hln, ← HM.out] at HTX
    rw [hns, hln] at HUN hnc
    have HSK : Hid (∀ y ∈ ks, Small y) := Lib.hid fun y hy => HSM.out.kid y (by rw [hks]; exact hy)
    have HLN := Lib.hid hln
    clear hks hkd htx hnn hns hln HSM HIN
    go_enter Tryz.func35, Tryz.ntmps35
    go_wp2_with fail
    refine (HSH.out _).mono ?_
    rintro e w1 ⟨hC1, hsh⟩
    rcases hsh with ⟨hno, rfl⟩ | ⟨many, least, most, hsome, rfl⟩
    · have hr : res = false := by rw [← HRES.out]; unfold headB; rw [hno]; rfl
      subst hr
      go_wp2_with fail
      go_ret
      exact ⟨rfl, (((Chg.refl _ w).alloc _).trans hC1).alloc _⟩
    · obtain ⟨s0, hs0⟩ : ∃ s0, manyI many = s0 := ⟨_, rfl⟩
      obtain ⟨ft, hft⟩ : ∃ ft, textF kd = ft := ⟨_, rfl⟩
      have HS0 := Lib.hid hs0
      rw [hs0, hft]
      rw [hft] at HTX
      have hent : ∀ (args : Array Value) (w : World), (callFunc ft args).run Tryz.prog w = .ok (.enter ft args) w := by rw [← hft]; exact enter_text kd
      have hb1 : w1.heap[w.heap.size]? = some (.cells #[.int .u8 kd, .int .i64 nn, .string tx, .slice an ln cn, .slice ak m ck] 25) := (hC1.blk (blk_new w _) (fun e => e))
      have HST : Hid (RSt w.heap.size w1.heap.size kd nn tx (.slice an ln cn) (.slice ak m ck) s0 least most ft w (w1.alloc (.cells #[.int .i64 s0, .int .i64 least, .int .i64 most, .func (.func ft) #[] #[]] 90))) :=
        Lib.hid ⟨(Below.heap_alloc _ _ _ (lt_of_block hb1)).trans hb1, blk_new w1 _, ((((Chg.refl _ w).alloc _).trans hC1).alloc _)⟩
      obtain ⟨a0, e0⟩ := old_cells hb1 (.cells #[.int .i64 s0, .int .i64 least, .int .i64 most, .func (.func ft) #[] #[]] 90) 0 _ rfl
      obtain ⟨a1, e1⟩ := old_cells hb1 (.cells #[.int .i64 s0, .int .i64 least, .int .i64 most, .func (.func ft) #[] #[]] 90) 1 _ rfl
      obtain ⟨a2, e2⟩ := old_cells hb1 (.cells #[.int .i64 s0, .int .i64 least, .int .i64 most, .func (.func ft) #[] #[]] 90) 2 _ rfl
      obtain ⟨a3, e3⟩ := old_cells hb1 (.cells #[.int .i64 s0, .int .i64 least, .int .i64 most, .func (.func ft) #[] #[]] 90) 3 _ rfl
      obtain ⟨a4, e4⟩ := old_cells hb1 (.cells #[.int .i64 s0, .int .i64 least, .int .i64 most, .func (.func ft) #[] #[]] 90) 4 _ rfl
      have HSO := Lib.hid hsome
      clear hsome hs0 hft hb1 hC1 HSH
      by_cases d1 : deep ≤ 60
      · have d1' : ¬ (60 : Int) < (deep : Int) := by omega
        have HTW := Lib.hid (HTX.out _ HST.out.2.2)
        obtain ⟨tb, htb⟩ : ∃ tb, textB kd nn tx m = tb := ⟨_, rfl⟩
        rw [htb] at HTW
        have HTB := Lib.hid htb
        clear htb HTX
        go_wp2_with fail
        refine HTW.out.mono ?_
        rintro e w2 ⟨rfl, hC2⟩
        have HS2 : Hid (RSt w.heap.size w1.heap.size kd nn tx (.slice an ln cn) (.slice ak m ck) s0 least most ft w w2) := Lib.hid (HST.out.kept hC2)
        clear HTW HST hC2 a0 a1 a2 a3 a4 e0 e1 e2 e3 e4
        have a0 := cell_of HS2.out.1 0
        have a1 := cell_of HS2.out.1 1
        have a3 := cell_of HS2.out.1 3
        have a4 := cell_of HS2.out.1 4
        have q0 := cell_of HS2.out.2.1 0
        have q1 := cell_of HS2.out.2.1 1
        have q2 := cell_of HS2.out.2.1 2
        cases tb with
        | false =>
          have hr : res = false := by rw [← HRES.out]; unfold headB; rw [HSO.out]; simp only [← HM.out, HTB.out]; simp
          subst hr
          go_wp2_with fail
          go_ret
          exact ⟨rfl, HS2.out.2.2⟩
        | true =>
          by_cases z1 : least ≤ m
          · have z1' : ¬ (m : Int) < (least : Int) := by omega
            by_cases z2 : m ≤ most
            · have z2' : ¬ (most : Int) < (m : Int) := by omega
              have HD : Hid (headB deep kd nn tx ns ks = ((decide (kd = 1) || decide (kd = 2) || decide (nn = 0)) && manyB many ln && unlike ns && lastB kd ks)) := Lib.hid (by
                rw [← HLN.out]
                exact headB_some HSO.out d1 (by rw [← HM.out]; exact HTB.out) (by rw [← HM.out]; exact z1) (by rw [← HM.out]; exact z2))
              have HMS := Lib.hid (many_cases many ln s0 HS0.out)
              have HUW := Lib.hid (HUN.out _ HS2.out.2.2)
              clear z1 z2
              have key : ((kd : Int) = 1 ∨ (¬ (kd : Int) = 1 ∧ (kd : Int) = 2)) ∨ (¬ (kd : Int) = 1 ∧ ¬ (kd : Int) = 2) := by omega
              by_cases hbad : (¬ kd = 1 ∧ ¬ kd = 2) ∧ ¬ nn = 0
              · have hr : res = false := by rw [← HRES.out, HD.out, decide_eq_false hbad.1.1, decide_eq_false hbad.1.2, decide_eq_false hbad.2]; rfl
                subst hr
                have k1 : ¬ (kd : Int) = 1 := by omega
                have k2 : ¬ (kd : Int) = 2 := by omega
                have k3 := hbad.2
                go_wp2_with fail
                go_ret
                exact ⟨rfl, HS2.out.2.2⟩
              have HD2 : Hid ((decide (kd = 1) || decide (kd = 2) || decide (nn = 0)) = true) := Lib.hid (by
                by_cases f1 : kd = 1
                · simp [f1]
                by_cases f2 : kd = 2
                · simp [f2]
                have f3 : nn = 0 := Decidable.byContradiction fun e => hbad ⟨⟨f1, f2⟩, e⟩
                simp [f3])
              have key3 : (kd : Int) = 1 ∨ (¬ (kd : Int) = 1 ∧ (kd : Int) = 2) ∨ (¬ (kd : Int) = 1 ∧ ¬ (kd : Int) = 2 ∧ nn = 0) := by
                by_cases f1 : kd = 1
                · exact .inl (by omega)
                by_cases f2 : kd = 2
                · exact .inr (.inl ⟨by omega, by omega⟩)
                exact .inr (.inr ⟨by omega, by omega, Decidable.byContradiction fun e => hbad ⟨⟨f1, f2⟩, e⟩⟩)
              clear hbad key
              rcases HMS.out with ⟨m1, m2⟩ | ⟨m1, m3, m2⟩ | ⟨m1, m3, m2⟩
              · have hr : (unlike ns && (lastB kd ks && kidsB ks (deep + 1))) = res := by rw [← HRES.out, HD.out, HD2.out, m2]; simp [Bool.and_assoc]
                obtain ⟨ub, hub⟩ : ∃ ub, unlike ns = ub := ⟨_, rfl⟩
                rw [hub] at hr HUW
                have HR := Lib.hid hr
                clear hr hub m2
                have k6 : kd = 6 := by
                  have h1 := HSO.out
                  have h2 := HS0.out
                  cases many with
                  | none => exact shape_none h1
                  | some q => unfold manyI at h2; simp at h2; omega
                obtain ⟨k1, k2, k3⟩ : ¬ (kd : Int) = 1 ∧ ¬ (kd : Int) = 2 ∧ nn = 0 := by
                  rcases key3 with h | ⟨_, h⟩ | h
                  · omega
                  · omega
                  · exact h
                have k13 : ¬ kd = 13 := by omega
                clear k6
                all_goals
                  try have k1b : ((kd : Int) == 1) = false := beq_eq_false_iff_ne.2 k1
                  try have k2b : ((kd : Int) == 2) = false := beq_eq_false_iff_ne.2 k2
                  try subst k3
                  go_wp2_with fail
                  refine HUW.out.mono ?_
                  rintro e w3 ⟨rfl, hC3⟩
                  have HS3 := Lib.hid (HS2.out.kept hC3)
                  clear hC3 HUW a0 a1 a3 a4 q0 q1 q2
                  have a0 := cell_of HS3.out.1 0
                  have a4 := cell_of HS3.out.1 4
                  cases ub with
                  | false =>
                    obtain rfl : false = res := HR.out
                    go_wp2_with fail
                    go_ret
                    exact ⟨rfl, HS3.out.2.2⟩
                  | true =>
                    have hr2 : (lastB kd ks && kidsB ks (deep + 1)) = res := HR.out
                    · have k13' : ¬ (kd : Int) = 13 := by omega
                      have k13b : ((kd : Int) == 13) = false := beq_eq_false_iff_ne.2 k13'
                      rw [last_no13 ks _ k13, ← HM.out] at hr2
                      have HR2 := Lib.hid hr2
                      clear hr2 HR
                      go_wp2_with fail
                      go_loopg [94] (m + 1) (fun g vi wr => ∃ (j : Nat), vi = .int .i64 j ∧ j ≤ m ∧ m < g + j ∧ Hid (Chg (fun _ => False) w3 wr) ∧ Hid (∀ i y, i < j → ks[i]? = some y → (i < m → y.kind < 17) ∧ rightB y (deep + 1) = true))
                      case atStart => exact ⟨0, rfl, by omega, by omega, Lib.hid (Chg.refl _ _), Lib.hid fun i y hi => absurd hi (by omega)⟩
                      case round =>
                        obtain ⟨j, rfl, hj, hg, hC, hok⟩ := hrel
                        by_cases hlt : j < m
                        · obtain ⟨gk', rfl⟩ : ∃ q, gk = q + 1 := ⟨gk - 1, by omega⟩
                          obtain ⟨b, off, nv', kv', y, rfl, hy, hym, c0, c1, c2, c3, c4, hin⟩ := kid_cells (HK.out.kept (HS3.out.2.2.trans hC.out)) j (by rw [← HM.out]; exact hlt)
                          have HY := Lib.hid hy
                          have hdd : ((deep + 1 : Nat) : Int) = (deep : Int) + 1 := by push_cast; rfl
                          have HS := Lib.hid (fun W (hW : Chg (fun _ => False) wr W) => HIH.out y hym nv' kv' (deep + 1) W (NdIn.kept hW y _ _ hin) (HG.out.later ((HS3.out.2.2.trans hC.out).trans hW)) (HSK.out y hym) (by omega))
                          rw [hdd] at HS
                          unfold ndV at HS
                          obtain ⟨an', cn', ak', ck', rfl, rfl, _⟩ := hin.forms
                          have i0 : (0 : Int) ≤ (j : Int) := by omega
                          have i1 : (j : Int) < (m : Int) := by omega
                          obtain ⟨yk, hyk⟩ : ∃ yk, y.kind = yk := ⟨_, rfl⟩
                          obtain ⟨yr, hyr⟩ : ∃ yr, rightB y (deep + 1) = yr := ⟨_, rfl⟩
                          have hykb := hin.kind
                          rw [hyk] at c0 hykb
                          rw [hyk, hyr] at HS
                          have HYK := Lib.hid hyk
                          have HYR := Lib.hid hyr
                          clear hy hym hin hdd hyk hyr
                          by_cases kk : yk < 17
                          · have kk' : ¬ (17 : Int) ≤ (yk : Int) := by omega
                            have hj2 : ¬ (yk : Int) ≥ 17 := by omega
                            go_wp2_with fail
                            refine (HS.out _ ((Chg.refl _ wr).alloc _)).mono ?_
                            rintro e w4 ⟨rfl, hC4⟩
                            have HC4 : Hid (Chg (fun _ => False) w3 w4) := Lib.hid ((hC.out.alloc _).trans hC4)
                            clear hC4 HS
                            cases yr with
                            | false =>
                              have hr : res = false := by rw [← HR2.out]; exact lpB_false2 _ _ _ j y HY.out HYR.out
                              subst hr
                              go_wp2_with fail
                              go_ret
                              exact ⟨rfl, HS3.out.2.2.trans HC4.out⟩
                            | true =>
                              go_wp2_with fail
                              go_roundg gk'
                              case measure => omega
                              case rel => exact ⟨j + 1, by go_num, by omega, by omega, HC4, Lib.hid fun i z hi hz => by
                                by_cases hij : i = j
                                · subst hij
                                  have hzy : y = z := by have := HY.out; rw [hz] at this; exact (Option.some.inj this).symm
                                  subst hzy
                                  exact ⟨fun _ => by rw [HYK.out]; exact kk, HYR.out⟩
                                · exact hok.out i z (by omega) hz⟩
                          · have kk' : (17 : Int) ≤ (yk : Int) := by omega
                            have hr : res = false := by rw [← HR2.out]; exact lpB_false1 _ _ _ j y HY.out hlt (by rw [HYK.out]; exact kk)
                            subst hr
                            go_wp2_with fail
                            go_ret
                            exact ⟨rfl, HS3.out.2.2.trans (hC.out.alloc _)⟩
                        · obtain rfl : j = m := by omega
                          have hr : res = true := by
                            rw [← HR2.out]
                            exact lpB_true _ _ _ fun i y hy => hok.out i y (by have := (List.getElem?_eq_some_iff.1 hy).1; rw [← HM.out] at this; exact this) hy
                          subst hr
                          have hkk : ¬ (j : Int) < (j : Int) := by omega
                          go_wp2_with fail
                          go_ret
                          exact ⟨rfl, HS3.out.2.2.trans hC.out⟩
              · have hr : (unlike ns && (lastB kd ks && kidsB ks (deep + 1))) = res := by rw [← HRES.out, HD.out, HD2.out, m2]; simp [Bool.and_assoc]
                obtain ⟨ub, hub⟩ : ∃ ub, unlike ns = ub := ⟨_, rfl⟩
                rw [hub] at hr HUW
                have HR := Lib.hid hr
                clear hr hub m2
                have HLEAF : Hid ((kd : Int) = 1 ∨ (kd : Int) = 2 → m = 0) := Lib.hid fun h => by
                  have := shape_leaf HSO.out (by omega)
                  omega
                rcases key3 with k1 | ⟨k1, k2⟩ | ⟨k1, k2, k3⟩
                all_goals
                  try have k1b : ((kd : Int) == 1) = false := beq_eq_false_iff_ne.2 k1
                  try have k2b : ((kd : Int) == 2) = false := beq_eq_false_iff_ne.2 k2
                  try subst k3
                  go_wp2_with fail
                  refine HUW.out.mono ?_
                  rintro e w3 ⟨rfl, hC3⟩
                  have HS3 := Lib.hid (HS2.out.kept hC3)
                  clear hC3 HUW a0 a1 a3 a4 q0 q1 q2
                  have a0 := cell_of HS3.out.1 0
                  have a4 := cell_of HS3.out.1 4
                  cases ub with
                  | false =>
                    obtain rfl : false = res := HR.out
                    go_wp2_with fail
                    go_ret
                    exact ⟨rfl, HS3.out.2.2⟩
                  | true =>
                    have hr2 : (lastB kd ks && kidsB ks (deep + 1)) = res := HR.out
                    by_cases k13 : kd = 13
                    · have e13 : some 0 = many ∧ 1 = least ∧ 4000 = most := by
                        have h13 : (some (some 0, 1, 4000) : Option (Option Nat × Nat × Nat)) = some (many, least, most) := by rw [← HSO.out, k13]; rfl
                        simpa using h13
                      first
                        | exfalso
                          omega
                        | have k13i : (kd : Int) = 13 := by omega
                          have k13b : ((kd : Int) == 13) = true := beq_iff_eq.2 k13i
                          have hm1 : 1 ≤ m := by omega
                          clear e13
                          obtain ⟨x0, kr, hks⟩ : ∃ x0 kr, ks = x0 :: kr := by
                            cases ks with
                            | nil => have := HM.out; simp at this; omega
                            | cons x0 kr => exact ⟨_, _, rfl⟩
                          obtain ⟨b0, off0, hak⟩ : ∃ b0 off0, ak = some ⟨b0, off0, none⟩ := by
                            obtain ⟨b, off, _, _, _, e, _⟩ := kid_cells HK.out 0 (by rw [← HM.out]; omega)
                            exact ⟨b, off, e⟩
                          subst hak
                          have HCB : Hid (∀ W, Chg (fun _ => False) w W → Calls Tryz.prog 66 #[.slice (some ⟨b0, if ck = 1 then off0 else off0 + 5, none⟩) (m - 1) (ck - 1)] W fun e w' => e = .returned (.bool (clausesB kr)) ∧ Chg (fun _ => False) W w') := Lib.hid fun W hW => by
                            have hkk := HK.out
                            rw [hks] at hkk
                            have e1 : m - 1 = kr.length := by have := HM.out; rw [hks, List.length_cons] at this; omega
                            have hck := HKM.out
                            rw [e1]
                            refine tclauses_calls kr _ _ W ?_ (by omega) (by omega) (by omega) (HG.out.later hW).1
                            by_cases hc1 : ck = 1
                            · have : kr = [] := List.eq_nil_of_length_eq_zero (by omega)
                              subst this
                              unfold KidsIn
                              trivial
                            · rw [if_neg hc1]
                              exact (KidsIn.drop1 hkk).kept hW
                          have hr3 : (clausesB kr && lpB 1 (deep + 1) ks) = res := by
                            rw [k13, last_13 ks] at hr2
                            rw [hks] at hr2 ⊢
                            exact hr2
                          obtain ⟨cb, hcb⟩ : ∃ cb, clausesB kr = cb := ⟨_, rfl⟩
                          rw [hcb] at HCB hr3
                          have HR2 := Lib.hid hr3
                          clear hr2 hr3 HR hks hcb
                          rcases Decidable.em (ck = 1) with hck1 | hck1
                          all_goals
                            first
                              | subst hck1
                                have hm0 : m - 1 = 0 := by omega
                                rw [if_pos rfl, hm0, show (1 : Nat) - 1 = 0 from rfl] at HCB
                                clear hm0
                                go_wp2_with fail
                              | rw [if_neg hck1] at HCB
                                go_wp2_with fail
                                all_goals first | (exfalso; omega) | skip
                          all_goals
                            refine (HCB.out _ HS3.out.2.2).mono ?_
                            rintro e w4 ⟨rfl, hC4⟩
                            have HS4 := Lib.hid (HS3.out.kept hC4)
                            clear hC4 HCB HS3 a0 a4
                            have a4 := cell_of HS4.out.1 4
                            cases cb with
                            | false =>
                              obtain rfl : false = res := HR2.out
                              go_wp2_with fail
                              go_ret
                              exact ⟨rfl, HS4.out.2.2⟩
                            | true =>
                              have hr4 : lpB 1 (deep + 1) ks = res := HR2.out
                              have HR4 := Lib.hid hr4
                              clear hr4 HR2
                              go_wp2_with fail
                              go_loopg [94] (m + 1) (fun g vi wr => ∃ (j : Nat), vi = .int .i64 j ∧ j ≤ m ∧ m < g + j ∧ Hid (Chg (fun _ => False) w4 wr) ∧ Hid (∀ i y, i < j → ks[i]? = some y → (i < 1 → y.kind < 17) ∧ rightB y (deep + 1) = true))
                              case atStart => exact ⟨0, rfl, by omega, by omega, Lib.hid (Chg.refl _ _), Lib.hid fun i y hi => absurd hi (by omega)⟩
                              case round =>
                                obtain ⟨j, rfl, hj, hg, hC, hok⟩ := hrel
                                by_cases hlt : j < m
                                · obtain ⟨gk', rfl⟩ : ∃ q, gk = q + 1 := ⟨gk - 1, by omega⟩
                                  obtain ⟨b, off, nv', kv', y, hadr, hy, hym, c0, c1, c2, c3, c4, hin⟩ := kid_cells (HK.out.kept (HS4.out.2.2.trans hC.out)) j (by rw [← HM.out]; exact hlt)
                                  obtain ⟨rfl, rfl⟩ : b = b0 ∧ off = off0 := by
                                    injection hadr with e1
                                    injection e1 with e2 e3
                                    exact ⟨e2.symm, e3.symm⟩
                                  have HY := Lib.hid hy
                                  have hdd : ((deep + 1 : Nat) : Int) = (deep : Int) + 1 := by push_cast; rfl
                                  have HS := Lib.hid (fun W (hW : Chg (fun _ => False) wr W) => HIH.out y hym nv' kv' (deep + 1) W (NdIn.kept hW y _ _ hin) (HG.out.later ((HS4.out.2.2.trans hC.out).trans hW)) (HSK.out y hym) (by omega))
                                  rw [hdd] at HS
                                  unfold ndV at HS
                                  obtain ⟨an', cn', ak', ck', rfl, rfl, _⟩ := hin.forms
                                  have i0 : (0 : Int) ≤ (j : Int) := by omega
                                  have i1 : (j : Int) < (m : Int) := by omega
                                  obtain ⟨yk, hyk⟩ : ∃ yk, y.kind = yk := ⟨_, rfl⟩
                                  obtain ⟨yr, hyr⟩ : ∃ yr, rightB y (deep + 1) = yr := ⟨_, rfl⟩
                                  have hykb := hin.kind
                                  rw [hyk] at c0 hykb
                                  rw [hyk, hyr] at HS
                                  have HYK := Lib.hid hyk
                                  have HYR := Lib.hid hyr
                                  clear hy hym hin hdd hyk hyr hadr
                                  by_cases kk : j < 1 ∧ ¬ yk < 17
                                  · have kk' : (17 : Int) ≤ (yk : Int) := by omega
                                    have kj : (j : Int) < 1 := by omega
                                    have hr : res = false := by rw [← HR4.out]; exact lpB_false1 _ _ _ j y HY.out kk.1 (by rw [HYK.out]; exact kk.2)
                                    subst hr
                                    clear kk
                                    go_wp2_with fail
                                    go_ret
                                    exact ⟨rfl, HS4.out.2.2.trans (hC.out.alloc _)⟩
                                  · have kkk : ¬ (j : Int) < 1 ∨ ((j : Int) < 1 ∧ ¬ (17 : Int) ≤ (yk : Int)) := by omega
                                    have HKK : Hid (j < 1 → yk < 17) := Lib.hid (fun h => by omega)
                                    clear kk
                                    rcases kkk with kj | ⟨kj, kk'⟩
                                    all_goals
                                      first
                                        | exfalso
                                          omega
                                        | go_wp2_with fail
                                          refine (HS.out _ ((Chg.refl _ wr).alloc _)).mono ?_
                                          rintro e w5 ⟨rfl, hC5⟩
                                          have HC5 : Hid (Chg (fun _ => False) w4 w5) := Lib.hid ((hC.out.alloc _).trans hC5)
                                          clear hC5 HS
                                          cases yr with
                                          | false =>
                                            have hr : res = false := by rw [← HR4.out]; exact lpB_false2 _ _ _ j y HY.out HYR.out
                                            subst hr
                                            go_wp2_with fail
                                            go_ret
                                            exact ⟨rfl, HS4.out.2.2.trans HC5.out⟩
                                          | true =>
                                            go_wp2_with fail
                                            go_roundg gk'
                                            case measure => omega
                                            case rel => exact ⟨j + 1, by go_num, by omega, by omega, HC5, Lib.hid fun i z hi hz => by
                                              by_cases hij : i = j
                                              · subst hij
                                                have hzy : y = z := by have := HY.out; rw [hz] at this; exact (Option.some.inj this).symm
                                                subst hzy
                                                exact ⟨fun h => by rw [HYK.out]; exact HKK.out h, HYR.out⟩
                                              · exact hok.out i z (by omega) hz⟩
                                · obtain rfl : j = m := by omega
                                  have hr : res = true := by
                                    rw [← HR4.out]
                                    exact lpB_true _ _ _ fun i y hy => hok.out i y (by have := (List.getElem?_eq_some_iff.1 hy).1; rw [← HM.out] at this; exact this) hy
                                  subst hr
                                  have hkk : ¬ (j : Int) < (j : Int) := by omega
                                  go_wp2_with fail
                                  go_ret
                                  exact ⟨rfl, HS4.out.2.2.trans hC.out⟩
                    · have k13' : ¬ (kd : Int) = 13 := by omega
                      have k13b : ((kd : Int) == 13) = false := beq_eq_false_iff_ne.2 k13'
                      rw [last_no13 ks _ k13, ← HM.out] at hr2
                      have HR2 := Lib.hid hr2
                      clear hr2 HR
                      go_wp2_with fail
                      go_loopg [94] (m + 1) (fun g vi wr => ∃ (j : Nat), vi = .int .i64 j ∧ j ≤ m ∧ m < g + j ∧ Hid (Chg (fun _ => False) w3 wr) ∧ Hid (∀ i y, i < j → ks[i]? = some y → (i < m → y.kind < 17) ∧ rightB y (deep + 1) = true))
                      case atStart => exact ⟨0, rfl, by omega, by omega, Lib.hid (Chg.refl _ _), Lib.hid fun i y hi => absurd hi (by omega)⟩
                      case round =>
                        obtain ⟨j, rfl, hj, hg, hC, hok⟩ := hrel
                        by_cases hlt : j < m
                        · first
                            | exfalso
                              have := HLEAF.out (by omega)
                              omega
                            | obtain ⟨gk', rfl⟩ : ∃ q, gk = q + 1 := ⟨gk - 1, by omega⟩
                              obtain ⟨b, off, nv', kv', y, rfl, hy, hym, c0, c1, c2, c3, c4, hin⟩ := kid_cells (HK.out.kept (HS3.out.2.2.trans hC.out)) j (by rw [← HM.out]; exact hlt)
                              have HY := Lib.hid hy
                              have hdd : ((deep + 1 : Nat) : Int) = (deep : Int) + 1 := by push_cast; rfl
                              have HS := Lib.hid (fun W (hW : Chg (fun _ => False) wr W) => HIH.out y hym nv' kv' (deep + 1) W (NdIn.kept hW y _ _ hin) (HG.out.later ((HS3.out.2.2.trans hC.out).trans hW)) (HSK.out y hym) (by omega))
                              rw [hdd] at HS
                              unfold ndV at HS
                              obtain ⟨an', cn', ak', ck', rfl, rfl, _⟩ := hin.forms
                              have i0 : (0 : Int) ≤ (j : Int) := by omega
                              have i1 : (j : Int) < (m : Int) := by omega
                              obtain ⟨yk, hyk⟩ : ∃ yk, y.kind = yk := ⟨_, rfl⟩
                              obtain ⟨yr, hyr⟩ : ∃ yr, rightB y (deep + 1) = yr := ⟨_, rfl⟩
                              have hykb := hin.kind
                              rw [hyk] at c0 hykb
                              rw [hyk, hyr] at HS
                              have HYK := Lib.hid hyk
                              have HYR := Lib.hid hyr
                              clear hy hym hin hdd hyk hyr
                              by_cases kk : yk < 17
                              · have kk' : ¬ (17 : Int) ≤ (yk : Int) := by omega
                                have hj2 : ¬ (yk : Int) ≥ 17 := by omega
                                go_wp2_with fail
                                refine (HS.out _ ((Chg.refl _ wr).alloc _)).mono ?_
                                rintro e w4 ⟨rfl, hC4⟩
                                have HC4 : Hid (Chg (fun _ => False) w3 w4) := Lib.hid ((hC.out.alloc _).trans hC4)
                                clear hC4 HS
                                cases yr with
                                | false =>
                                  have hr : res = false := by rw [← HR2.out]; exact lpB_false2 _ _ _ j y HY.out HYR.out
                                  subst hr
                                  go_wp2_with fail
                                  go_ret
                                  exact ⟨rfl, HS3.out.2.2.trans HC4.out⟩
                                | true =>
                                  go_wp2_with fail
                                  go_roundg gk'
                                  case measure => omega
                                  case rel => exact ⟨j + 1, by go_num, by omega, by omega, HC4, Lib.hid fun i z hi hz => by
                                    by_cases hij : i = j
                                    · subst hij
                                      have hzy : y = z := by have := HY.out; rw [hz] at this; exact (Option.some.inj this).symm
                                      subst hzy
                                      exact ⟨fun _ => by rw [HYK.out]; exact kk, HYR.out⟩
                                    · exact hok.out i z (by omega) hz⟩
                              · have kk' : (17 : Int) ≤ (yk : Int) := by omega
                                have hr : res = false := by rw [← HR2.out]; exact lpB_false1 _ _ _ j y HY.out hlt (by rw [HYK.out]; exact kk)
                                subst hr
                                go_wp2_with fail
                                go_ret
                                exact ⟨rfl, HS3.out.2.2.trans (hC.out.alloc _)⟩
                        · obtain rfl : j = m := by omega
                          have hr : res = true := by
                            rw [← HR2.out]
                            exact lpB_true _ _ _ fun i y hy => hok.out i y (by have := (List.getElem?_eq_some_iff.1 hy).1; rw [← HM.out] at this; exact this) hy
                          subst hr
                          have hkk : ¬ (j : Int) < (j : Int) := by omega
                          go_wp2_with fail
                          go_ret
                          exact ⟨rfl, HS3.out.2.2.trans hC.out⟩
              · have hr : res = false := by rw [← HRES.out, HD.out, m2]; simp
                subst hr
                clear m2
                rcases key3 with k1 | ⟨k1, k2⟩ | ⟨k1, k2, k3⟩
                all_goals
                  go_wp2_with fail
                  go_ret
                  exact ⟨rfl, HS2.out.2.2⟩
            · have z2' : (most : Int) < (m : Int) := by omega
              have hr : res = false := by rw [← HRES.out]; unfold headB; rw [HSO.out]; simp only [← HM.out, decide_eq_false z2]; simp
              subst hr
              go_wp2_with fail
              go_ret
              exact ⟨rfl, HS2.out.2.2⟩
          · have z1' : (m : Int) < (least : Int) := by omega
            have hr : res = false := by rw [← HRES.out]; unfold headB; rw [HSO.out]; simp only [← HM.out, decide_eq_false z1]; simp
            subst hr
            go_wp2_with fail
            go_ret
            exact ⟨rfl, HS2.out.2.2⟩
      · have d1' : (60 : Int) < (deep : Int) := by omega
        have hr : res = false := by rw [← HRES.out]; unfold headB; rw [HSO.out]; simp only [decide_eq_false d1]; simp
        subst hr
        go_wp2_with fail
        go_ret
        exact ⟨rfl, HST.out.2.2⟩
end Go.Proofs.YtaklmocjaokkpaaGreatDoor.Tr
