/- Is a node that tells a value right, so deep: the document's answer, walked. Condition: texts and names of at most 2^20 bytes, at most so many of them. -/
import Derived.Test.YtaklmocjaokkpaaGreatDoorTreeRParts
import Derived.Test.YtaklmocjaokkpaaGreatDoorTreeRTakes
namespace Go.Proofs.YtaklmocjaokkpaaGreatDoor.Tr
set_option linter.unusedVariables false
set_option linter.unusedSimpArgs false
open Go.RowKit Go.Shelf Go.Proofs.YtaklmocjaokkpaaGreatDoor.Mem

def RightOk (x : Nd) : Prop := ∀ (nv kv : Value) (d : Nat) (W : World), NdIn W nv kv x → Fine x → d ≤ 61 →
  Calls Tryz.prog 30 #[ndV x nv kv, .int .i64 d] W fun e w' => e = .returned (.bool (good x d)) ∧ Chg (fun _ => False) W w'
theorem textB_else {k : Nat} (n : Int) (t : ByteArray) (m : Nat) (h2 : ¬ k = 2) (h3 : ¬ k = 3) (h5 : ¬ (k = 5 ∨ k = 6 ∨ k = 8 ∨ k = 12 ∨ k = 18)) (h11 : ¬ k = 11) : textB k n t m = decide (t = ⟨#[]⟩) := by
  unfold textB; rw [if_neg h2, if_neg h3, if_neg h5, if_neg h11]
theorem textB_name {k : Nat} (n : Int) (t : ByteArray) (m : Nat) (h2 : ¬ k = 2) (h3 : ¬ k = 3) (h5 : k = 5 ∨ k = 6 ∨ k = 8 ∨ k = 12 ∨ k = 18) : textB k n t m = nameB t := by
  unfold textB; rw [if_neg h2, if_neg h3, if_pos h5]
set_option maxRecDepth 100000 in
set_option maxHeartbeats 8000000 in
theorem rright_one (x : Nd) (hko : KidsOk x) (hkk : ∀ y ∈ x.kids, KidsOk y) : RightOk x := by
  intro nv kv deep w h hf hd
  obtain ⟨w1, hw1⟩ : ∃ w1, w.alloc (ndBox x nv kv) = w1 := ⟨_, rfl⟩
  have hC1 : Chg (fun _ => False) w w1 := by rw [← hw1]; exact (Chg.refl _ w).alloc _
  have hb : w1.heap[w.heap.size]? = some (ndBox x nv kv) := by rw [← hw1]; exact blk_new w _
  have HB := Lib.hid hb
  have HC1 := Lib.hid hC1
  have HPL : deep ≤ 60 → ∀ (m : Nat) (mi : Int), mi = (m : Int) → Hid (∀ W, Chg (fun _ => False) w W → Calls Tryz.prog 51 #[ndV x nv kv, .int .i64 mi, .int .i64 deep] W fun e w' => e = .returned (.bool (plainB x m deep)) ∧ Chg (fun _ => False) W w') := fun hd m mi hm => Lib.hid fun W hW =>
    plain_calls x nv kv W (h.kept hW) hf hko deep m mi hm hd
  have HVL : deep ≤ 60 → 1 ≤ x.kids.length → Hid (∀ W, Chg (fun _ => False) w W → Calls Tryz.prog 54 #[ndV x nv kv, .int .i64 0, .int .i64 1, .int .i64 deep] W fun e w' => e = .returned (.bool (goods (x.kids.take 1) (deep + 1))) ∧ Chg (fun _ => False) W w') := fun hd hm => Lib.hid fun W hW =>
    values_calls x nv kv W (h.kept hW) hf hko deep 1 1 rfl hd hm
  have HCS : deep ≤ 60 → Hid (∀ W, Chg (fun _ => False) w W → Calls Tryz.prog 55 #[ndV x nv kv, .int .i64 deep] W fun e w' => e = .returned (.bool (clausesR (x.kids.drop 1) (deep + 1))) ∧ Chg (fun _ => False) W w') := fun hd => Lib.hid fun W hW =>
    rclauses_calls x nv kv W (h.kept hW) hf hkk deep hd
  have HNS := Lib.hid (fun W (hW : Chg (fun _ => False) w W) => rnames_calls x.names nv W (h.names.kept hW) (fun s hs => by have := hf.names s hs; omega))
  have HNM := Lib.hid (fun W => rname_calls x.text W (by have := hf.text; omega))
  have HTK := Lib.hid (fun W => rtakes_calls x.text W)
  have htz := hf.text
  obtain ⟨an, cn, ak, ck, rfl, rfl, hnc, hnm, hkc, hkm, hk⟩ := h.forms
  have hck2 : ck ≤ 9223372036854775807 := by unfold maxLen at hkm; omega
  have hcn2 : cn ≤ 9223372036854775807 := by unfold maxLen at hnm; omega
  obtain ⟨res, hres⟩ : ∃ res, good x deep = res := ⟨_, rfl⟩
  have HRES := Lib.hid hres
  rw [hres]
  have hkb := h.kind
  unfold ndBox at HB hw1
  unfold ndV at HPL HVL HCS ⊢
  obtain ⟨z, hz⟩ : ∃ z : Int, (x.kind : Int) = z := ⟨_, rfl⟩
  obtain ⟨n, hn⟩ : ∃ n, x.kids.length = n := ⟨_, rfl⟩
  obtain ⟨ln, hln⟩ : ∃ ln, x.names.length = ln := ⟨_, rfl⟩
  obtain ⟨nn, hnn⟩ : ∃ nn, x.n = nn := ⟨_, rfl⟩
  obtain ⟨tx, htx⟩ : ∃ tx, x.text = tx := ⟨_, rfl⟩
  obtain ⟨u, hu⟩ : ∃ u, unlike x.names = u := ⟨_, rfl⟩
  obtain ⟨nb, hnb⟩ : ∃ nb, nameB tx = nb := ⟨_, rfl⟩
  obtain ⟨tk, htk⟩ : ∃ tk, takes tx = tk := ⟨_, rfl⟩
  obtain ⟨gd, hgd⟩ : ∃ gd, goods (x.kids.take 1) (deep + 1) = gd := ⟨_, rfl⟩
  obtain ⟨cl, hcl⟩ : ∃ cl, clausesR (x.kids.drop 1) (deep + 1) = cl := ⟨_, rfl⟩
  rw [hgd] at HVL
  rw [hcl] at HCS
  rw [hu] at HNS
  rw [htx, hnb] at HNM
  rw [htx, htk] at HTK
  rw [hz, hn, hln, hnn, htx] at HB hw1 HPL HVL HCS
  rw [hz, hn, hln, hnn, htx]
  rw [hln] at HNS hnc
  rw [hn] at hkc
  rw [htx] at htz
  have HZ := Lib.hid hz
  have HN := Lib.hid hn
  have HLN := Lib.hid hln
  have HNN := Lib.hid hnn
  have HTX := Lib.hid htx
  have HU := Lib.hid hu
  have HNB := Lib.hid hnb
  have HTA := Lib.hid htk
  have HGD := Lib.hid hgd
  have HCL := Lib.hid hcl
  have a0 := cell_of HB.out 0
  have a1 := cell_of HB.out 1
  have a2 := cell_of HB.out 2
  have a3 := cell_of HB.out 3
  have a4 := cell_of HB.out 4
  clear h hf hko hkk hC1 hb hk hkm hnm hn hln hnn htx hu hnb htk hgd hcl hres
  go_enter Tryz.func30, Tryz.ntmps30
  by_cases d1 : deep ≤ 60
  case neg =>
    have d2 : (60 : Int) < (deep : Int) := by omega
    obtain rfl : false = res := by rw [← HRES.out, good_deep d1]
    clear HPL HVL HCS
    go_wp2_with fail
    go_ret
    exact ⟨rfl, HC1.out⟩
  have d2 : ¬ (60 : Int) < (deep : Int) := by omega
  have HPL1 := HPL d1
  have HVL1 := HVL d1
  have HCS1 := HCS d1
  clear HPL HVL HCS
  by_cases nbad : ¬ x.kind = 1 ∧ ¬ x.kind = 2 ∧ ¬ nn = 0
  · obtain rfl : false = res := by rw [← HRES.out, good_num nbad.1 nbad.2.1 (by rw [HNN.out]; exact nbad.2.2)]
    have q1 : ¬ z = 1 := by omega
    have q2 : ¬ z = 2 := by omega
    have q3 := nbad.2.2
    have q1b : (z == 1) = false := beq_eq_false_iff_ne.2 q1
    have q2b : (z == 2) = false := beq_eq_false_iff_ne.2 q2
    have q3b : (nn == 0) = false := beq_eq_false_iff_ne.2 q3
    have q1c : (z != 1) = true := bne_iff_ne.2 q1
    have q2c : (z != 2) = true := bne_iff_ne.2 q2
    have q3c : (nn != 0) = true := bne_iff_ne.2 q3
    clear HPL1 HVL1 HCS1 nbad hz
    go_wp2_with fail
    go_ret
    exact ⟨rfl, HC1.out⟩
  have HNU : Hid (numB x.kind x.n = true) := Lib.hid (by
    unfold numB
    rw [HNN.out]
    by_cases f1 : x.kind = 1
    · rw [decide_eq_true f1]; rfl
    by_cases f2 : x.kind = 2
    · rw [decide_eq_true f2]; simp
    · rw [decide_eq_true (Decidable.byContradiction fun e => nbad ⟨f1, f2, e⟩)]; simp)
  have hn0 : ¬ x.kind = 1 → ¬ x.kind = 2 → nn = 0 := fun h1 h2 => Decidable.byContradiction fun e => nbad ⟨h1, h2, e⟩
  clear nbad
  by_cases kk : x.kind = 1
  · obtain rfl : z = 1 := by rw [← hz, kk]; rfl
    clear hz
    obtain ⟨pb, hpb⟩ : ∃ pb, plainB x (0) deep = pb := ⟨_, rfl⟩
    have HPB := Lib.hid hpb
    clear hpb
    have hr : (decide (tx = ⟨#[]⟩) && pb) = res := by
      rw [← HRES.out, good_plain x deep 0 (by rw [kk]; rfl) (by decide) (by rw [kk]; decide) (by rw [kk]; decide), decide_eq_true d1, HNU.out, HPB.out, HTX.out, HNN.out, HN.out, kk, textB_else _ _ _ (by decide) (by decide) (by decide) (by decide)]
      rfl
    clear hn0
    by_cases n1 : nn = 0
    · subst n1
      by_cases t1 : tx = ⟨#[]⟩
      · have e1 : decide (tx = ⟨#[]⟩) = true := decide_eq_true t1
        rw [e1] at hr
        subst t1
        have HR := Lib.hid hr
        clear hr e1
        have HP := HPL1 (0) (0) (rfl)
        rw [HPB.out] at HP
        obtain rfl : pb = res := by have := HR.out; simpa using this
        clear HPL1 HVL1 HCS1
        go_wp2_with fail
        refine (HP.out _ HC1.out).mono ?_
        rintro e w9 ⟨rfl, hC9⟩
        have HC9 := Lib.hid (HC1.out.trans hC9)
        clear hC9 HP
        go_wp2_with fail
        go_ret
        exact ⟨rfl, HC9.out⟩
      · obtain rfl : false = res := by rw [← hr, decide_eq_false t1]; simp
        have t2 := empty_ne t1
        clear hr HPL1 HVL1 HCS1
        go_wp2_with fail
        go_ret
        exact ⟨rfl, HC1.out⟩
    · have n2 : (nn == 0) = false := beq_eq_false_iff_ne.2 n1
      by_cases t1 : tx = ⟨#[]⟩
      · have e1 : decide (tx = ⟨#[]⟩) = true := decide_eq_true t1
        rw [e1] at hr
        subst t1
        have HR := Lib.hid hr
        clear hr e1
        have HP := HPL1 (0) (0) (rfl)
        rw [HPB.out] at HP
        obtain rfl : pb = res := by have := HR.out; simpa using this
        clear HPL1 HVL1 HCS1
        go_wp2_with fail
        refine (HP.out _ HC1.out).mono ?_
        rintro e w9 ⟨rfl, hC9⟩
        have HC9 := Lib.hid (HC1.out.trans hC9)
        clear hC9 HP
        go_wp2_with fail
        go_ret
        exact ⟨rfl, HC9.out⟩
      · obtain rfl : false = res := by rw [← hr, decide_eq_false t1]; simp
        have t2 := empty_ne t1
        clear hr HPL1 HVL1 HCS1
        go_wp2_with fail
        go_ret
        exact ⟨rfl, HC1.out⟩
  have z1 : ¬ z = 1 := by omega
  clear kk
  by_cases kk : x.kind = 2
  · obtain rfl : z = 2 := by rw [← hz, kk]; rfl
    clear hz
    obtain ⟨pb, hpb⟩ : ∃ pb, plainB x (0) deep = pb := ⟨_, rfl⟩
    have HPB := Lib.hid hpb
    clear hpb
    have hr : ((decide (tx = ⟨#[]⟩) && (decide (nn = 0) || decide (nn = 1))) && pb) = res := by
      rw [← HRES.out, good_plain x deep 0 (by rw [kk]; rfl) (by decide) (by rw [kk]; decide) (by rw [kk]; decide), decide_eq_true d1, HNU.out, HPB.out, HTX.out, HNN.out, HN.out, kk]
      rfl
    clear hn0
    rcases (by omega : nn = 0 ∨ nn = 1 ∨ (¬ nn = 0 ∧ ¬ nn = 1)) with n1 | n1 | n1
    · subst n1
      replace hr : (decide (tx = ⟨#[]⟩) && pb) = res := by rw [← hr]; simp
      by_cases t1 : tx = ⟨#[]⟩
      · have e1 : decide (tx = ⟨#[]⟩) = true := decide_eq_true t1
        rw [e1] at hr
        subst t1
        have HR := Lib.hid hr
        clear hr e1
        have HP := HPL1 (0) (0) (rfl)
        rw [HPB.out] at HP
        obtain rfl : pb = res := by have := HR.out; simpa using this
        clear HPL1 HVL1 HCS1
        go_wp2_with fail
        refine (HP.out _ HC1.out).mono ?_
        rintro e w9 ⟨rfl, hC9⟩
        have HC9 := Lib.hid (HC1.out.trans hC9)
        clear hC9 HP
        go_wp2_with fail
        go_ret
        exact ⟨rfl, HC9.out⟩
      · obtain rfl : false = res := by rw [← hr, decide_eq_false t1]; simp
        have t2 := empty_ne t1
        clear hr HPL1 HVL1 HCS1
        go_wp2_with fail
        go_ret
        exact ⟨rfl, HC1.out⟩
    · subst n1
      replace hr : (decide (tx = ⟨#[]⟩) && pb) = res := by rw [← hr]; simp
      by_cases t1 : tx = ⟨#[]⟩
      · have e1 : decide (tx = ⟨#[]⟩) = true := decide_eq_true t1
        rw [e1] at hr
        subst t1
        have HR := Lib.hid hr
        clear hr e1
        have HP := HPL1 (0) (0) (rfl)
        rw [HPB.out] at HP
        obtain rfl : pb = res := by have := HR.out; simpa using this
        clear HPL1 HVL1 HCS1
        go_wp2_with fail
        refine (HP.out _ HC1.out).mono ?_
        rintro e w9 ⟨rfl, hC9⟩
        have HC9 := Lib.hid (HC1.out.trans hC9)
        clear hC9 HP
        go_wp2_with fail
        go_ret
        exact ⟨rfl, HC9.out⟩
      · obtain rfl : false = res := by rw [← hr, decide_eq_false t1]; simp
        have t2 := empty_ne t1
        clear hr HPL1 HVL1 HCS1
        go_wp2_with fail
        go_ret
        exact ⟨rfl, HC1.out⟩
    · have n2 : (nn == 0) = false := beq_eq_false_iff_ne.2 n1.1
      have n3 : (nn == 1) = false := beq_eq_false_iff_ne.2 n1.2
      have n4 := n1.1
      have n5 := n1.2
      replace hr : (decide (tx = ⟨#[]⟩) && false) = res := by rw [← hr, decide_eq_false n4, decide_eq_false n5]; simp
      clear n1
      by_cases t1 : tx = ⟨#[]⟩
      · have e1 : decide (tx = ⟨#[]⟩) = true := decide_eq_true t1
        rw [e1] at hr
        subst t1
        have HR := Lib.hid hr
        clear hr e1
        obtain rfl : false = res := by have := HR.out; simpa using this
        clear HPL1 HVL1 HCS1
        go_wp2_with fail
        go_ret
        exact ⟨rfl, HC1.out⟩
      · obtain rfl : false = res := by rw [← hr, decide_eq_false t1]; simp
        have t2 := empty_ne t1
        clear hr HPL1 HVL1 HCS1
        go_wp2_with fail
        go_ret
        exact ⟨rfl, HC1.out⟩
  have z2 : ¬ z = 2 := by omega
  clear kk
  by_cases kk : x.kind = 3
  · obtain rfl : z = 3 := by rw [← hz, kk]; rfl
    clear hz
    have kn : ¬ x.kind = 1 ∧ ¬ x.kind = 2 := by omega
    obtain rfl := hn0 kn.1 kn.2
    clear kn hn0
    obtain ⟨pb, hpb⟩ : ∃ pb, plainB x (0) deep = pb := ⟨_, rfl⟩
    have HPB := Lib.hid hpb
    clear hpb
    have hr : (decide (tx.size ≤ 65536) && pb) = res := by
      rw [← HRES.out, good_plain x deep 0 (by rw [kk]; rfl) (by decide) (by rw [kk]; decide) (by rw [kk]; decide), decide_eq_true d1, HNU.out, HPB.out, HTX.out, HNN.out, HN.out, kk, show textB 3 0 tx n = decide (tx.size ≤ 65536) from rfl]
      rfl
    by_cases s1 : tx.size ≤ 65536
    · have s2 : (tx.size : Int) ≤ 65536 := by omega
      rw [decide_eq_true s1] at hr
      have HR := Lib.hid hr
      clear hr
      have HP := HPL1 (0) (0) (rfl)
      rw [HPB.out] at HP
      obtain rfl : pb = res := by have := HR.out; simpa using this
      clear HPL1 HVL1 HCS1
      go_wp2_with fail
      refine (HP.out _ HC1.out).mono ?_
      rintro e w9 ⟨rfl, hC9⟩
      have HC9 := Lib.hid (HC1.out.trans hC9)
      clear hC9 HP
      go_wp2_with fail
      go_ret
      exact ⟨rfl, HC9.out⟩
    · have s2 : ¬ (tx.size : Int) ≤ 65536 := by omega
      obtain rfl : false = res := by rw [← hr, decide_eq_false s1]; rfl
      clear hr HPL1 HVL1 HCS1
      go_wp2_with fail
      go_ret
      exact ⟨rfl, HC1.out⟩
  have z3 : ¬ z = 3 := by omega
  clear kk
  by_cases kk : x.kind = 4
  · obtain rfl : z = 4 := by rw [← hz, kk]; rfl
    clear hz
    have kn : ¬ x.kind = 1 ∧ ¬ x.kind = 2 := by omega
    obtain rfl := hn0 kn.1 kn.2
    clear kn hn0
    obtain ⟨pb, hpb⟩ : ∃ pb, plainB x (0) deep = pb := ⟨_, rfl⟩
    have HPB := Lib.hid hpb
    clear hpb
    have hr : (decide (tx = ⟨#[]⟩) && pb) = res := by
      rw [← HRES.out, good_plain x deep 0 (by rw [kk]; rfl) (by decide) (by rw [kk]; decide) (by rw [kk]; decide), decide_eq_true d1, HNU.out, HPB.out, HTX.out, HNN.out, HN.out, kk, textB_else _ _ _ (by decide) (by decide) (by decide) (by decide)]
      rfl
    by_cases t1 : tx = ⟨#[]⟩
    · have e1 : decide (tx = ⟨#[]⟩) = true := decide_eq_true t1
      rw [e1] at hr
      subst t1
      have HR := Lib.hid hr
      clear hr e1
      have HP := HPL1 (0) (0) (rfl)
      rw [HPB.out] at HP
      obtain rfl : pb = res := by have := HR.out; simpa using this
      clear HPL1 HVL1 HCS1
      go_wp2_with fail
      refine (HP.out _ HC1.out).mono ?_
      rintro e w9 ⟨rfl, hC9⟩
      have HC9 := Lib.hid (HC1.out.trans hC9)
      clear hC9 HP
      go_wp2_with fail
      go_ret
      exact ⟨rfl, HC9.out⟩
    · obtain rfl : false = res := by rw [← hr, decide_eq_false t1]; simp
      have t2 := empty_ne t1
      clear hr HPL1 HVL1 HCS1
      go_wp2_with fail
      go_ret
      exact ⟨rfl, HC1.out⟩
  have z4 : ¬ z = 4 := by omega
  clear kk
  by_cases kk : x.kind = 5
  · obtain rfl : z = 5 := by rw [← hz, kk]; rfl
    clear hz
    have kn : ¬ x.kind = 1 ∧ ¬ x.kind = 2 := by omega
    obtain rfl := hn0 kn.1 kn.2
    clear kn hn0
    obtain ⟨pb, hpb⟩ : ∃ pb, plainB x (0) deep = pb := ⟨_, rfl⟩
    have HPB := Lib.hid hpb
    clear hpb
    have hr : (nb && pb) = res := by
      rw [← HRES.out, good_plain x deep 0 (by rw [kk]; rfl) (by decide) (by rw [kk]; decide) (by rw [kk]; decide), decide_eq_true d1, HNU.out, HPB.out, HTX.out, HNN.out, HN.out, kk, textB_name _ _ _ (by decide) (by decide) (by decide), HNB.out]
      rfl
    have HR := Lib.hid hr
    clear hr
    go_wp2_with fail
    refine (HNM.out _).mono ?_
    rintro e w2 ⟨rfl, hw2⟩
    obtain rfl : w1 = w2 := hw2.symm
    clear HNM
    cases nb with
    | false =>
      obtain rfl : false = res := by have := HR.out; simpa using this
      clear HPL1 HVL1 HCS1
      go_wp2_with fail
      go_ret
      exact ⟨rfl, HC1.out⟩
    | true =>
      have HP := HPL1 (0) (0) (rfl)
      rw [HPB.out] at HP
      obtain rfl : pb = res := by have := HR.out; simpa using this
      clear HPL1 HVL1 HCS1
      go_wp2_with fail
      refine (HP.out _ HC1.out).mono ?_
      rintro e w9 ⟨rfl, hC9⟩
      have HC9 := Lib.hid (HC1.out.trans hC9)
      clear hC9 HP
      go_wp2_with fail
      go_ret
      exact ⟨rfl, HC9.out⟩
  have z5 : ¬ z = 5 := by omega
  clear kk
  by_cases kk : x.kind = 6
  · obtain rfl : z = 6 := by rw [← hz, kk]; rfl
    clear hz
    have kn : ¬ x.kind = 1 ∧ ¬ x.kind = 2 := by omega
    obtain rfl := hn0 kn.1 kn.2
    clear kn hn0
    have hr : (nb && u && decide (n = 1) && gd) = res := by
      rw [← HRES.out, good_fun x deep kk, decide_eq_true d1, HNU.out, HTX.out, HNB.out, HU.out, HN.out, HGD.out]
      rfl
    have HR := Lib.hid hr
    clear hr
    go_wp2_with fail
    refine (HNM.out _).mono ?_
    rintro e w2 ⟨rfl, hw2⟩
    obtain rfl : w1 = w2 := hw2.symm
    clear HNM
    cases nb with
    | false =>
      obtain rfl : false = res := by have := HR.out; simpa using this
      clear HPL1 HVL1 HCS1
      go_wp2_with fail
      go_ret
      exact ⟨rfl, HC1.out⟩
    | true =>
      go_wp2_with fail
      refine (HNS.out _ HC1.out).mono ?_
      rintro e w3 ⟨rfl, hd3⟩
      have hC3 := chg_drewN hd3
      have HC3 := Lib.hid (HC1.out.trans hC3)
      have hbW := hC3.blk HB.out (fun e => e)
      clear HNS hC3 hd3 hw1
      clear a0 a1 a2 a3 a4
      have a0 := cell_of hbW 0
      have a1 := cell_of hbW 1
      have a2 := cell_of hbW 2
      have a3 := cell_of hbW 3
      have a4 := cell_of hbW 4
      clear hbW
      cases u with
      | false =>
        obtain rfl : false = res := by have := HR.out; simpa using this
        clear HPL1 HVL1 HCS1
        go_wp2_with fail
        go_ret
        exact ⟨rfl, HC3.out⟩
      | true =>
        by_cases l1 : n = 1
        · have l2 : (n : Int) = 1 := by omega
          have HP := HVL1 (by rw [l1]; decide)
          obtain rfl : gd = res := by have := HR.out; rw [decide_eq_true l1] at this; simpa using this
          clear HPL1 HVL1 HCS1
          subst l1
          go_wp2_with fail
          refine (HP.out _ HC3.out).mono ?_
          rintro e w9 ⟨rfl, hC9⟩
          have HC9 := Lib.hid (HC3.out.trans hC9)
          clear hC9 HP
          go_wp2_with fail
          go_ret
          exact ⟨rfl, HC9.out⟩
        · have l2 : ¬ (n : Int) = 1 := by omega
          have l3 : ((n : Int) == 1) = false := beq_eq_false_iff_ne.2 l2
          obtain rfl : false = res := by have := HR.out; rw [decide_eq_false l1] at this; simpa using this
          clear HPL1 HVL1 HCS1
          go_wp2_with fail
          go_ret
          exact ⟨rfl, HC3.out⟩
  have z6 : ¬ z = 6 := by omega
  clear kk
  by_cases kk : x.kind = 7
  · obtain rfl : z = 7 := by rw [← hz, kk]; rfl
    clear hz
    have kn : ¬ x.kind = 1 ∧ ¬ x.kind = 2 := by omega
    obtain rfl := hn0 kn.1 kn.2
    clear kn hn0
    obtain ⟨pb, hpb⟩ : ∃ pb, plainB x (n) deep = pb := ⟨_, rfl⟩
    have HPB := Lib.hid hpb
    clear hpb
    have hr : (decide (tx = ⟨#[]⟩) && (decide (0 < n) && pb)) = res := by
      rw [← HRES.out, good_many x deep (by rw [kk]; rfl) (by rw [kk]; decide) (by rw [kk]; decide), decide_eq_true d1, HNU.out, HN.out, HPB.out, HTX.out, HNN.out, kk, textB_else _ _ _ (by decide) (by decide) (by decide) (by decide)]
      rfl
    by_cases t1 : tx = ⟨#[]⟩
    · have e1 : decide (tx = ⟨#[]⟩) = true := decide_eq_true t1
      rw [e1] at hr
      subst t1
      have HR := Lib.hid hr
      clear hr e1
      by_cases l1 : 0 < n
      · have l2 : (0 : Int) < (n : Int) := by omega
        have HP := HPL1 (n) (n) (rfl)
        rw [HPB.out] at HP
        obtain rfl : pb = res := by have := HR.out; rw [decide_eq_true l1] at this; simpa using this
        clear HPL1 HVL1 HCS1
        go_wp2_with fail
        refine (HP.out _ HC1.out).mono ?_
        rintro e w9 ⟨rfl, hC9⟩
        have HC9 := Lib.hid (HC1.out.trans hC9)
        clear hC9 HP
        go_wp2_with fail
        go_ret
        exact ⟨rfl, HC9.out⟩
      · have l2 : ¬ (0 : Int) < (n : Int) := by omega
        obtain rfl : false = res := by have := HR.out; rw [decide_eq_false l1] at this; simpa using this
        clear HPL1 HVL1 HCS1
        go_wp2_with fail
        go_ret
        exact ⟨rfl, HC1.out⟩
    · obtain rfl : false = res := by rw [← hr, decide_eq_false t1]; simp
      have t2 := empty_ne t1
      clear hr HPL1 HVL1 HCS1
      go_wp2_with fail
      go_ret
      exact ⟨rfl, HC1.out⟩
  have z7 : ¬ z = 7 := by omega
  clear kk
  by_cases kk : x.kind = 8
  · obtain rfl : z = 8 := by rw [← hz, kk]; rfl
    clear hz
    have kn : ¬ x.kind = 1 ∧ ¬ x.kind = 2 := by omega
    obtain rfl := hn0 kn.1 kn.2
    clear kn hn0
    obtain ⟨pb, hpb⟩ : ∃ pb, plainB x (2) deep = pb := ⟨_, rfl⟩
    have HPB := Lib.hid hpb
    clear hpb
    have hr : (nb && pb) = res := by
      rw [← HRES.out, good_plain x deep 2 (by rw [kk]; rfl) (by decide) (by rw [kk]; decide) (by rw [kk]; decide), decide_eq_true d1, HNU.out, HPB.out, HTX.out, HNN.out, HN.out, kk, textB_name _ _ _ (by decide) (by decide) (by decide), HNB.out]
      rfl
    have HR := Lib.hid hr
    clear hr
    go_wp2_with fail
    refine (HNM.out _).mono ?_
    rintro e w2 ⟨rfl, hw2⟩
    obtain rfl : w1 = w2 := hw2.symm
    clear HNM
    cases nb with
    | false =>
      obtain rfl : false = res := by have := HR.out; simpa using this
      clear HPL1 HVL1 HCS1
      go_wp2_with fail
      go_ret
      exact ⟨rfl, HC1.out⟩
    | true =>
      have HP := HPL1 (2) (2) (rfl)
      rw [HPB.out] at HP
      obtain rfl : pb = res := by have := HR.out; simpa using this
      clear HPL1 HVL1 HCS1
      go_wp2_with fail
      refine (HP.out _ HC1.out).mono ?_
      rintro e w9 ⟨rfl, hC9⟩
      have HC9 := Lib.hid (HC1.out.trans hC9)
      clear hC9 HP
      go_wp2_with fail
      go_ret
      exact ⟨rfl, HC9.out⟩
  have z8 : ¬ z = 8 := by omega
  clear kk
  by_cases kk : x.kind = 9
  · obtain rfl : z = 9 := by rw [← hz, kk]; rfl
    clear hz
    have kn : ¬ x.kind = 1 ∧ ¬ x.kind = 2 := by omega
    obtain rfl := hn0 kn.1 kn.2
    clear kn hn0
    obtain ⟨pb, hpb⟩ : ∃ pb, plainB x (3) deep = pb := ⟨_, rfl⟩
    have HPB := Lib.hid hpb
    clear hpb
    have hr : (decide (tx = ⟨#[]⟩) && pb) = res := by
      rw [← HRES.out, good_plain x deep 3 (by rw [kk]; rfl) (by decide) (by rw [kk]; decide) (by rw [kk]; decide), decide_eq_true d1, HNU.out, HPB.out, HTX.out, HNN.out, HN.out, kk, textB_else _ _ _ (by decide) (by decide) (by decide) (by decide)]
      rfl
    by_cases t1 : tx = ⟨#[]⟩
    · have e1 : decide (tx = ⟨#[]⟩) = true := decide_eq_true t1
      rw [e1] at hr
      subst t1
      have HR := Lib.hid hr
      clear hr e1
      have HP := HPL1 (3) (3) (rfl)
      rw [HPB.out] at HP
      obtain rfl : pb = res := by have := HR.out; simpa using this
      clear HPL1 HVL1 HCS1
      go_wp2_with fail
      refine (HP.out _ HC1.out).mono ?_
      rintro e w9 ⟨rfl, hC9⟩
      have HC9 := Lib.hid (HC1.out.trans hC9)
      clear hC9 HP
      go_wp2_with fail
      go_ret
      exact ⟨rfl, HC9.out⟩
    · obtain rfl : false = res := by rw [← hr, decide_eq_false t1]; simp
      have t2 := empty_ne t1
      clear hr HPL1 HVL1 HCS1
      go_wp2_with fail
      go_ret
      exact ⟨rfl, HC1.out⟩
  have z9 : ¬ z = 9 := by omega
  clear kk
  by_cases kk : x.kind = 10
  · obtain rfl : z = 10 := by rw [← hz, kk]; rfl
    clear hz
    have kn : ¬ x.kind = 1 ∧ ¬ x.kind = 2 := by omega
    obtain rfl := hn0 kn.1 kn.2
    clear kn hn0
    obtain ⟨pb, hpb⟩ : ∃ pb, plainB x (n) deep = pb := ⟨_, rfl⟩
    have HPB := Lib.hid hpb
    clear hpb
    have hr : (decide (tx = ⟨#[]⟩) && (decide (0 < n) && pb)) = res := by
      rw [← HRES.out, good_many x deep (by rw [kk]; rfl) (by rw [kk]; decide) (by rw [kk]; decide), decide_eq_true d1, HNU.out, HN.out, HPB.out, HTX.out, HNN.out, kk, textB_else _ _ _ (by decide) (by decide) (by decide) (by decide)]
      rfl
    by_cases t1 : tx = ⟨#[]⟩
    · have e1 : decide (tx = ⟨#[]⟩) = true := decide_eq_true t1
      rw [e1] at hr
      subst t1
      have HR := Lib.hid hr
      clear hr e1
      by_cases l1 : 0 < n
      · have l2 : (0 : Int) < (n : Int) := by omega
        have HP := HPL1 (n) (n) (rfl)
        rw [HPB.out] at HP
        obtain rfl : pb = res := by have := HR.out; rw [decide_eq_true l1] at this; simpa using this
        clear HPL1 HVL1 HCS1
        go_wp2_with fail
        refine (HP.out _ HC1.out).mono ?_
        rintro e w9 ⟨rfl, hC9⟩
        have HC9 := Lib.hid (HC1.out.trans hC9)
        clear hC9 HP
        go_wp2_with fail
        go_ret
        exact ⟨rfl, HC9.out⟩
      · have l2 : ¬ (0 : Int) < (n : Int) := by omega
        obtain rfl : false = res := by have := HR.out; rw [decide_eq_false l1] at this; simpa using this
        clear HPL1 HVL1 HCS1
        go_wp2_with fail
        go_ret
        exact ⟨rfl, HC1.out⟩
    · obtain rfl : false = res := by rw [← hr, decide_eq_false t1]; simp
      have t2 := empty_ne t1
      clear hr HPL1 HVL1 HCS1
      go_wp2_with fail
      go_ret
      exact ⟨rfl, HC1.out⟩
  have z10 : ¬ z = 10 := by omega
  clear kk
  by_cases kk : x.kind = 11
  · obtain rfl : z = 11 := by rw [← hz, kk]; rfl
    clear hz
    have kn : ¬ x.kind = 1 ∧ ¬ x.kind = 2 := by omega
    obtain rfl := hn0 kn.1 kn.2
    clear kn hn0
    obtain ⟨pb, hpb⟩ : ∃ pb, plainB x (tk.toNat) deep = pb := ⟨_, rfl⟩
    have HPB := Lib.hid hpb
    clear hpb
    have hr : (decide (0 ≤ tk) && pb) = res := by
      rw [← HRES.out, good_prim x deep kk, decide_eq_true d1, HNU.out, HTX.out, HTA.out, HPB.out]
      rfl
    have HR := Lib.hid hr
    clear hr
    have HBX : Hid (∀ W, Chg (fun _ => False) w1 W → W.heap[w.heap.size]? = some (.cells #[.int .u8 11, .int .i64 0, .string tx, .slice an ln cn, .slice ak n ck] 25)) := Lib.hid fun W hW => hW.blk HB.out (fun e => e)
    by_cases p1 : 0 ≤ tk
    · have HP := HPL1 tk.toNat tk (by omega)
      rw [HPB.out] at HP
      obtain rfl : pb = res := by have := HR.out; rw [decide_eq_true p1] at this; simpa using this
      clear HPL1 HVL1 HCS1
      have g1 : decide (0 ≤ tk) = true := decide_eq_true p1
      have g2 : decide (tk ≥ 0) = true := decide_eq_true p1
      go_wp2_with fail
      go_region_with (first | (go_at_call 25; refine (HTK.out _).mono ?_; rintro e wt ⟨rfl, hct⟩; (first | (have hcw := hcw.trans hct) | (have hcw := ((Chg.refl _ w1).drew).trans hct)); have hbW := HBX.out _ hcw; have a0 := cell_of hbW 0; have a1 := cell_of hbW 1; have a2 := cell_of hbW 2; have a3 := cell_of hbW 3; have a4 := cell_of hbW 4) | (go_at_call 51; refine (HP.out _ (HC1.out.trans hcw)).mono ?_; rintro e w9 ⟨rfl, hC9⟩; have hcw := hcw.trans hC9))
      all_goals try go_wp2_with fail
      all_goals
        go_ret
        exact ⟨rfl, HC1.out.trans hcw⟩
    · obtain rfl : false = res := by have := HR.out; rw [decide_eq_false p1] at this; simpa using this
      clear HPL1 HVL1 HCS1
      have g1 : decide (0 ≤ tk) = false := decide_eq_false p1
      have g2 : decide (tk ≥ 0) = false := decide_eq_false p1
      have g3 : tk < 0 := by omega
      clear p1
      go_wp2_with fail
      first
        | go_region_with (go_at_call 25; refine (HTK.out _).mono ?_; rintro e wt ⟨rfl, hct⟩; (first | (have hcw := hcw.trans hct) | (have hcw := ((Chg.refl _ w1).drew).trans hct)); have hbW := HBX.out _ hcw; have a0 := cell_of hbW 0; have a1 := cell_of hbW 1; have a2 := cell_of hbW 2; have a3 := cell_of hbW 3; have a4 := cell_of hbW 4)
        | fail
      all_goals try go_wp2_with fail
      all_goals
        go_ret
        exact ⟨rfl, HC1.out.trans hcw⟩
  have z11 : ¬ z = 11 := by omega
  clear kk
  by_cases kk : x.kind = 12
  · obtain rfl : z = 12 := by rw [← hz, kk]; rfl
    clear hz
    have kn : ¬ x.kind = 1 ∧ ¬ x.kind = 2 := by omega
    obtain rfl := hn0 kn.1 kn.2
    clear kn hn0
    obtain ⟨pb, hpb⟩ : ∃ pb, plainB x (1) deep = pb := ⟨_, rfl⟩
    have HPB := Lib.hid hpb
    clear hpb
    have hr : (nb && pb) = res := by
      rw [← HRES.out, good_plain x deep 1 (by rw [kk]; rfl) (by decide) (by rw [kk]; decide) (by rw [kk]; decide), decide_eq_true d1, HNU.out, HPB.out, HTX.out, HNN.out, HN.out, kk, textB_name _ _ _ (by decide) (by decide) (by decide), HNB.out]
      rfl
    have HR := Lib.hid hr
    clear hr
    go_wp2_with fail
    refine (HNM.out _).mono ?_
    rintro e w2 ⟨rfl, hw2⟩
    obtain rfl : w1 = w2 := hw2.symm
    clear HNM
    cases nb with
    | false =>
      obtain rfl : false = res := by have := HR.out; simpa using this
      clear HPL1 HVL1 HCS1
      go_wp2_with fail
      go_ret
      exact ⟨rfl, HC1.out⟩
    | true =>
      have HP := HPL1 (1) (1) (rfl)
      rw [HPB.out] at HP
      obtain rfl : pb = res := by have := HR.out; simpa using this
      clear HPL1 HVL1 HCS1
      go_wp2_with fail
      refine (HP.out _ HC1.out).mono ?_
      rintro e w9 ⟨rfl, hC9⟩
      have HC9 := Lib.hid (HC1.out.trans hC9)
      clear hC9 HP
      go_wp2_with fail
      go_ret
      exact ⟨rfl, HC9.out⟩
  have z12 : ¬ z = 12 := by omega
  clear kk
  by_cases kk : x.kind = 13
  · obtain rfl : z = 13 := by rw [← hz, kk]; rfl
    clear hz
    have kn : ¬ x.kind = 1 ∧ ¬ x.kind = 2 := by omega
    obtain rfl := hn0 kn.1 kn.2
    clear kn hn0
    have hr : (decide (tx = ⟨#[]⟩) && (decide (0 < n) && decide (ln = 0) && gd && cl)) = res := by
      rw [← HRES.out, good_handle x deep kk, decide_eq_true d1, HNU.out, HTX.out, HN.out, HLN.out, HGD.out, HCL.out]
      simp [Bool.and_assoc]
    by_cases t1 : tx = ⟨#[]⟩
    · have e1 : decide (tx = ⟨#[]⟩) = true := decide_eq_true t1
      rw [e1] at hr
      subst t1
      have HR := Lib.hid hr
      clear hr e1
      by_cases l1 : 0 < n
      · have l2 : (0 : Int) < (n : Int) := by omega
        by_cases m1 : ln = 0
        · have HP := HVL1 (by have := HN.out; omega)
          have HQ := HCS1
          have hr2 : (gd && cl) = res := by have := HR.out; rw [decide_eq_true l1, decide_eq_true m1] at this; simpa using this
          have HR2 := Lib.hid hr2
          clear HPL1 HVL1 HCS1 hr2
          subst m1
          go_wp2_with fail
          refine (HP.out _ HC1.out).mono ?_
          rintro e w3 ⟨rfl, hC3⟩
          have HC3 := Lib.hid (HC1.out.trans hC3)
          have hbW := hC3.blk HB.out (fun e => e)
          clear hC3 HP hw1
          clear a0 a1 a2 a3 a4
          have a0 := cell_of hbW 0
          have a1 := cell_of hbW 1
          have a2 := cell_of hbW 2
          have a3 := cell_of hbW 3
          have a4 := cell_of hbW 4
          clear hbW
          cases gd with
          | false =>
            obtain rfl : false = res := HR2.out
            go_wp2_with fail
            go_ret
            exact ⟨rfl, HC3.out⟩
          | true =>
            obtain rfl : cl = res := HR2.out
            go_wp2_with fail
            refine (HQ.out _ HC3.out).mono ?_
            rintro e w9 ⟨rfl, hC9⟩
            have HC9 := Lib.hid (HC3.out.trans hC9)
            clear hC9 HQ
            go_wp2_with fail
            go_ret
            exact ⟨rfl, HC9.out⟩
        · have m2 : ¬ (ln : Int) = 0 := by omega
          have m3 : ((ln : Int) == 0) = false := beq_eq_false_iff_ne.2 m2
          obtain rfl : false = res := by have := HR.out; rw [decide_eq_false m1] at this; simpa using this
          clear HPL1 HVL1 HCS1
          go_wp2_with fail
          go_ret
          exact ⟨rfl, HC1.out⟩
      · have l2 : ¬ (0 : Int) < (n : Int) := by omega
        obtain rfl : false = res := by have := HR.out; rw [decide_eq_false l1] at this; simpa using this
        clear HPL1 HVL1 HCS1
        go_wp2_with fail
        go_ret
        exact ⟨rfl, HC1.out⟩
    · obtain rfl : false = res := by rw [← hr, decide_eq_false t1]; simp
      have t2 := empty_ne t1
      clear hr HPL1 HVL1 HCS1
      go_wp2_with fail
      go_ret
      exact ⟨rfl, HC1.out⟩
  have z13 : ¬ z = 13 := by omega
  clear kk
  by_cases kk : x.kind = 14
  · obtain rfl : z = 14 := by rw [← hz, kk]; rfl
    clear hz
    have kn : ¬ x.kind = 1 ∧ ¬ x.kind = 2 := by omega
    obtain rfl := hn0 kn.1 kn.2
    clear kn hn0
    obtain ⟨pb, hpb⟩ : ∃ pb, plainB x (2) deep = pb := ⟨_, rfl⟩
    have HPB := Lib.hid hpb
    clear hpb
    have hr : (decide (tx = ⟨#[]⟩) && pb) = res := by
      rw [← HRES.out, good_plain x deep 2 (by rw [kk]; rfl) (by decide) (by rw [kk]; decide) (by rw [kk]; decide), decide_eq_true d1, HNU.out, HPB.out, HTX.out, HNN.out, HN.out, kk, textB_else _ _ _ (by decide) (by decide) (by decide) (by decide)]
      rfl
    by_cases t1 : tx = ⟨#[]⟩
    · have e1 : decide (tx = ⟨#[]⟩) = true := decide_eq_true t1
      rw [e1] at hr
      subst t1
      have HR := Lib.hid hr
      clear hr e1
      have HP := HPL1 (2) (2) (rfl)
      rw [HPB.out] at HP
      obtain rfl : pb = res := by have := HR.out; simpa using this
      clear HPL1 HVL1 HCS1
      go_wp2_with fail
      refine (HP.out _ HC1.out).mono ?_
      rintro e w9 ⟨rfl, hC9⟩
      have HC9 := Lib.hid (HC1.out.trans hC9)
      clear hC9 HP
      go_wp2_with fail
      go_ret
      exact ⟨rfl, HC9.out⟩
    · obtain rfl : false = res := by rw [← hr, decide_eq_false t1]; simp
      have t2 := empty_ne t1
      clear hr HPL1 HVL1 HCS1
      go_wp2_with fail
      go_ret
      exact ⟨rfl, HC1.out⟩
  have z14 : ¬ z = 14 := by omega
  clear kk
  by_cases kk : x.kind = 15
  · obtain rfl : z = 15 := by rw [← hz, kk]; rfl
    clear hz
    have kn : ¬ x.kind = 1 ∧ ¬ x.kind = 2 := by omega
    obtain rfl := hn0 kn.1 kn.2
    clear kn hn0
    obtain ⟨pb, hpb⟩ : ∃ pb, plainB x (2) deep = pb := ⟨_, rfl⟩
    have HPB := Lib.hid hpb
    clear hpb
    have hr : (decide (tx = ⟨#[]⟩) && pb) = res := by
      rw [← HRES.out, good_plain x deep 2 (by rw [kk]; rfl) (by decide) (by rw [kk]; decide) (by rw [kk]; decide), decide_eq_true d1, HNU.out, HPB.out, HTX.out, HNN.out, HN.out, kk, textB_else _ _ _ (by decide) (by decide) (by decide) (by decide)]
      rfl
    by_cases t1 : tx = ⟨#[]⟩
    · have e1 : decide (tx = ⟨#[]⟩) = true := decide_eq_true t1
      rw [e1] at hr
      subst t1
      have HR := Lib.hid hr
      clear hr e1
      have HP := HPL1 (2) (2) (rfl)
      rw [HPB.out] at HP
      obtain rfl : pb = res := by have := HR.out; simpa using this
      clear HPL1 HVL1 HCS1
      go_wp2_with fail
      refine (HP.out _ HC1.out).mono ?_
      rintro e w9 ⟨rfl, hC9⟩
      have HC9 := Lib.hid (HC1.out.trans hC9)
      clear hC9 HP
      go_wp2_with fail
      go_ret
      exact ⟨rfl, HC9.out⟩
    · obtain rfl : false = res := by rw [← hr, decide_eq_false t1]; simp
      have t2 := empty_ne t1
      clear hr HPL1 HVL1 HCS1
      go_wp2_with fail
      go_ret
      exact ⟨rfl, HC1.out⟩
  have z15 : ¬ z = 15 := by omega
  clear kk
  by_cases kk : x.kind = 16
  · obtain rfl : z = 16 := by rw [← hz, kk]; rfl
    clear hz
    have kn : ¬ x.kind = 1 ∧ ¬ x.kind = 2 := by omega
    obtain rfl := hn0 kn.1 kn.2
    clear kn hn0
    obtain ⟨pb, hpb⟩ : ∃ pb, plainB x (3) deep = pb := ⟨_, rfl⟩
    have HPB := Lib.hid hpb
    clear hpb
    have hr : (decide (tx = ⟨#[]⟩) && pb) = res := by
      rw [← HRES.out, good_plain x deep 3 (by rw [kk]; rfl) (by decide) (by rw [kk]; decide) (by rw [kk]; decide), decide_eq_true d1, HNU.out, HPB.out, HTX.out, HNN.out, HN.out, kk, textB_else _ _ _ (by decide) (by decide) (by decide) (by decide)]
      rfl
    by_cases t1 : tx = ⟨#[]⟩
    · have e1 : decide (tx = ⟨#[]⟩) = true := decide_eq_true t1
      rw [e1] at hr
      subst t1
      have HR := Lib.hid hr
      clear hr e1
      have HP := HPL1 (3) (3) (rfl)
      rw [HPB.out] at HP
      obtain rfl : pb = res := by have := HR.out; simpa using this
      clear HPL1 HVL1 HCS1
      go_wp2_with fail
      refine (HP.out _ HC1.out).mono ?_
      rintro e w9 ⟨rfl, hC9⟩
      have HC9 := Lib.hid (HC1.out.trans hC9)
      clear hC9 HP
      go_wp2_with fail
      go_ret
      exact ⟨rfl, HC9.out⟩
    · obtain rfl : false = res := by rw [← hr, decide_eq_false t1]; simp
      have t2 := empty_ne t1
      clear hr HPL1 HVL1 HCS1
      go_wp2_with fail
      go_ret
      exact ⟨rfl, HC1.out⟩
  have z16 : ¬ z = 16 := by omega
  clear kk
  obtain rfl : false = res := by rw [← HRES.out, good_zero (by omega)]
  obtain rfl := hn0 (by omega) (by omega)
  have y1 : (z == 1) = false := beq_eq_false_iff_ne.2 z1
  have y2 : (z == 2) = false := beq_eq_false_iff_ne.2 z2
  have y3 : (z == 3) = false := beq_eq_false_iff_ne.2 z3
  have y4 : (z == 4) = false := beq_eq_false_iff_ne.2 z4
  have y5 : (z == 5) = false := beq_eq_false_iff_ne.2 z5
  have y6 : (z == 6) = false := beq_eq_false_iff_ne.2 z6
  have y7 : (z == 7) = false := beq_eq_false_iff_ne.2 z7
  have y8 : (z == 8) = false := beq_eq_false_iff_ne.2 z8
  have y9 : (z == 9) = false := beq_eq_false_iff_ne.2 z9
  have y10 : (z == 10) = false := beq_eq_false_iff_ne.2 z10
  have y11 : (z == 11) = false := beq_eq_false_iff_ne.2 z11
  have y12 : (z == 12) = false := beq_eq_false_iff_ne.2 z12
  have y13 : (z == 13) = false := beq_eq_false_iff_ne.2 z13
  have y14 : (z == 14) = false := beq_eq_false_iff_ne.2 z14
  have y15 : (z == 15) = false := beq_eq_false_iff_ne.2 z15
  have y16 : (z == 16) = false := beq_eq_false_iff_ne.2 z16
  clear HPL1 HVL1 HCS1 hn0 hz
  go_wp2_with fail
  go_ret
  exact ⟨rfl, HC1.out⟩
theorem rright_both (x : Nd) : RightOk x ∧ KidsOk x := by
  induction x using Nd.ind with
  | h x ih =>
    have hko : KidsOk x := fun y hy => (ih y hy).1
    exact ⟨rright_one x hko (fun y hy => (ih y hy).2), hko⟩
/-- The document's right. -/
theorem rright_calls (x : Nd) : RightOk x := (rright_both x).1
end Go.Proofs.YtaklmocjaokkpaaGreatDoor.Tr
