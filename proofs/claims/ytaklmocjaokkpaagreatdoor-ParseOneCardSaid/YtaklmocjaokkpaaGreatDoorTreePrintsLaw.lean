/- A node's text, or the error, and its size, are the document's: the statement, walked. Condition: a node of weight at most 2^20; what is printed of numbers and of texts in quotes is given as known; what XTreeText's functions want of the library's variables. -/
import Derived.Test.YtaklmocjaokkpaaGreatDoorTreeAwake
import Derived.Test.YtaklmocjaokkpaaGreatDoorTreeGreat
import Derived.Test.YtaklmocjaokkpaaGreatDoorTreeRMay
import Derived.Test.YtaklmocjaokkpaaGreatDoorTreeArg
import Derived.Test.YtaklmocjaokkpaaGreatDoorTreeRPrint
namespace Go.Proofs.YtaklmocjaokkpaaGreatDoor.Tr
set_option linter.unusedVariables false
set_option linter.unusedSimpArgs false
open Go.RowKit Go.Shelf Go.Proofs.YtaklmocjaokkpaaGreatDoor.Mem

def inR (n : Int) : Prop := -9223372036854775808 ≤ n ∧ n ≤ 9223372036854775807
def okQ (s : ByteArray) : Prop := s.size ≤ 70000
theorem LitsL.mk {F : Int → Prop} {Q : ByteArray → Prop} : ∀ {l : List Nd}, (∀ y ∈ l, Lits F Q y) → LitsL F Q l
  | [], _ => by unfold LitsL; trivial
  | x :: l, h => by unfold LitsL; exact ⟨h x List.mem_cons_self, LitsL.mk (fun y hy => h y (List.mem_cons_of_mem _ hy))⟩
theorem Lits.mk' {F : Int → Prop} {Q : ByteArray → Prop} {x : Nd} (h1 : F x.n) (h2 : Q x.text) (h3 : LitsL F Q x.kids) : Lits F Q x := by
  cases x; unfold Lits; exact ⟨fun _ => h1, fun _ => h2, h3⟩
theorem Lits.weak {F F' : Int → Prop} {Q Q' : ByteArray → Prop} (hF : ∀ n, F n → F' n) (hQ : ∀ s, Q s → Q' s) : ∀ x, Lits F Q x → Lits F' Q' x := by
  intro x
  induction x using Nd.ind with
  | h x ih =>
    intro h
    cases x with
    | mk k n t ns ks =>
      unfold Lits at h ⊢
      exact ⟨fun e => hF _ (h.1 e), fun e => hQ _ (h.2.1 e), LitsL.mk fun y hy => ih y hy (h.2.2.of y hy)⟩
theorem great_lits {W : World} : ∀ (x : Nd) (nv kv : Value) (a : Nat), NdIn W nv kv x → greatB x a = false → Lits inR okQ x := by
  intro x
  induction x using Nd.ind with
  | h x ih =>
    intro nv kv a hin h
    rw [greatB_is] at h
    simp only [Bool.or_eq_false_iff] at h
    obtain ⟨⟨⟨h1, h2⟩, h3⟩, h4⟩ := h
    unfold bigB at h1
    simp only [Bool.or_eq_false_iff, decide_eq_false_iff_not] at h1
    obtain ⟨ak, cap, _, _, _, hk⟩ := hin.kids
    refine Lits.mk' hin.n (show x.text.size ≤ 70000 by omega) (LitsL.mk fun y hy => ?_)
    obtain ⟨j, hj⟩ := List.mem_iff_getElem?.1 hy
    obtain ⟨b, off, nv', kv', _, _, _, _, _, _, _, hyin⟩ := hk.at_ j y hj
    refine ih y hy nv' kv' (a + 1) hyin ?_
    rw [greatsB_any] at h3
    cases hb : greatB y (a + 1) with
    | false => rfl
    | true => rw [List.any_eq_true.2 ⟨y, hy, hb⟩] at h3; cases h3
theorem itoa_len {n : Int} (h : inR n) : (Lib.itoa n).length ≤ 101 := by
  rw [← numb_itoa]
  unfold Lx.numb
  unfold inR at h
  have := Lx.digs_len n.natAbs (by omega)
  split
  · rw [List.length_cons]; omega
  · omega
theorem joinL_wns (ns : List ByteArray) : (joinL ns).length ≤ wns ns := by
  cases ns with
  | nil => exact Nat.zero_le _
  | cons s l =>
    rw [show s :: l = [s] ++ l from rfl, join_app _ _ (by simp), join_sing, List.length_append, bl_len]
    have : ∀ l : List ByteArray, (l.flatMap fun s => 32 :: bl s).length ≤ wns l := by
      intro l
      induction l with
      | nil => exact Nat.zero_le _
      | cons s l ih => rw [List.flatMap_cons, List.length_append, List.length_cons, bl_len, wns]; omega
    have h2 := this l
    show _ ≤ wns (s :: l)
    rw [wns]
    omega
theorem headL_len (k : Nat) (t : List UInt8) (ns : List ByteArray) : (headL k t ns).length ≤ 20 + t.length + wns ns := by
  have hj := joinL_wns ns
  have hf : (firstL ns).length ≤ wns ns := by
    cases ns with
    | nil => exact Nat.zero_le _
    | cons s l => show (bl s).length ≤ _; rw [bl_len, wns]; omega
  by_cases h6 : k = 6
  · subst h6
    rw [head6]
    simp only [List.length_append, List.length_cons, List.length_nil]
    omega
  by_cases h7 : k = 7
  · subst h7
    rw [head7]
    simp only [List.length_append, List.length_cons, List.length_nil]
    omega
  by_cases h8 : k = 8
  · subst h8
    rw [head8]
    simp only [List.length_append, List.length_cons, List.length_nil]
    omega
  by_cases h9 : k = 9
  · subst h9
    rw [head9]
    simp only [List.length_append, List.length_cons, List.length_nil]
    omega
  by_cases h10 : k = 10
  · subst h10
    rw [head10]
    simp only [List.length_append, List.length_cons, List.length_nil]
    omega
  by_cases h12 : k = 12
  · subst h12
    rw [head12]
    simp only [List.length_append, List.length_cons, List.length_nil]
    omega
  by_cases h13 : k = 13
  · subst h13
    rw [head13]
    simp only [List.length_append, List.length_cons, List.length_nil]
    omega
  by_cases h14 : k = 14
  · subst h14
    rw [head14]
    simp only [List.length_append, List.length_cons, List.length_nil]
    omega
  by_cases h15 : k = 15
  · subst h15
    rw [head15]
    simp only [List.length_append, List.length_cons, List.length_nil]
    omega
  by_cases h16 : k = 16
  · subst h16
    rw [head16]
    simp only [List.length_append, List.length_cons, List.length_nil]
    omega
  by_cases h17 : k = 17
  · subst h17
    rw [head17]
    simp only [List.length_append, List.length_cons, List.length_nil]
    omega
  by_cases h18 : k = 18
  · subst h18
    rw [head18]
    simp only [List.length_append, List.length_cons, List.length_nil]
    omega
  by_cases h19 : k = 19
  · subst h19
    rw [head19]
    simp only [List.length_append, List.length_cons, List.length_nil]
    omega
  rw [head_else _ _ h6 h7 h8 h9 h10 h12 h13 h14 h15 h16 h17 h18 h19]
  omega
theorem print_len : ∀ x : Nd, Lits inR okQ x → (printL x).length + 1 ≤ 200 * wt x := by
  intro x
  induction x using Nd.ind with
  | h x ih =>
    intro h
    rw [printL_is, wt_is]
    have hq := Lx.quote_len (bl x.text)
    rw [bl_len] at hq
    by_cases k1 : x.kind = 1
    · rw [if_pos k1]
      have := itoa_len (h.int k1)
      omega
    rw [if_neg k1]
    by_cases k2 : x.kind = 2
    · rw [if_pos k2]
      have : (Lib.formatBool (decide (x.n = 1))).length ≤ 10 := by
        cases decide (x.n = 1) <;> decide +kernel
      omega
    rw [if_neg k2]
    by_cases k3 : x.kind = 3
    · rw [if_pos k3]; omega
    rw [if_neg k3]
    by_cases k4 : x.kind = 4
    · rw [if_pos k4]; simp only [List.length_cons, List.length_nil]; omega
    rw [if_neg k4]
    by_cases k5 : x.kind = 5
    · rw [if_pos k5, bl_len]; omega
    rw [if_neg k5]
    have hh := headL_len x.kind (bl x.text) x.names
    rw [bl_len] at hh
    have hp : ∀ l : List Nd, (∀ y ∈ l, (printL y).length + 1 ≤ 200 * wt y) → (printsL l).length ≤ 200 * wts l := by
      intro l
      induction l with
      | nil => intro _; exact Nat.zero_le _
      | cons y l ih2 =>
        intro hy
        rw [printsL, wts, List.length_append, List.length_cons]
        have h1 := hy y List.mem_cons_self
        have h2 := ih2 (fun z hz => hy z (List.mem_cons_of_mem _ hz))
        omega
    have hpk := hp x.kids (fun y hy => ih y hy (h.kid y hy))
    simp only [List.length_append, List.length_cons, List.length_nil]
    omega
set_option maxRecDepth 100000 in
set_option maxHeartbeats 3000000 in
theorem treePrints_calls (x : Nd) (nv kv : Value) (w : World) (h : NdIn w nv kv x) (hwt : wt x ≤ 1048576) (hg : Gm w) (hF : FmtOk inR w) (hQ : QuoOk okQ w) :
    Calls Tryz.prog 6 #[ndV x nv kv] w fun e w' => e = .returned (.bool true) ∧ Chg (fun _ => False) w w' := by
  obtain ⟨hfi, hsm⟩ := fine_wt x hwt
  have hsz := size_wt x
  have HA := Lib.hid (fun W (hW : Chg (fun _ => False) w W) => awake_calls W (hg.later hW))
  obtain ⟨w1, hw1⟩ : ∃ w1, w.alloc (ndBox x nv kv) = w1 := ⟨_, rfl⟩
  have hC1 : Chg (fun _ => False) w w1 := by rw [← hw1]; exact (Chg.refl _ w).alloc _
  have hb : w1.heap[w.heap.size]? = some (ndBox x nv kv) := by rw [← hw1]; exact blk_new w _
  have HB := Lib.hid hb
  have HC1 := Lib.hid hC1
  have HGR := Lib.hid (great_calls x nv kv 0 w1 (h.kept hC1) (by omega) (by omega))
  have HRM := Lib.hid (fun W (hW : Chg (fun _ => False) w W) => rmay_calls x nv kv W (h.kept hW) hfi (by omega))
  have HTM := Lib.hid (fun W (hW : Chg (fun _ => False) w W) => may_calls x nv kv W (h.kept hW) (hg.later hW) hsm)
  have HTS := Lib.hid (fun W (hW : Chg (fun _ => False) w W) => tsize_calls x nv kv W (h.kept hW) (by omega))
  have HRS := Lib.hid (fun W (hW : Chg (fun _ => False) w W) => rsize_calls x nv kv W (h.kept hW) (by omega))
  have HPR : greatB x 0 = false → Hid (∀ W, Chg (fun _ => False) w W → Calls Tryz.prog 19 #[ndV x nv kv] W fun e w' => e = .returned (.tuple #[.string (printR x).1, .int .i64 (printR x).2]) ∧ Chg (fun _ => False) W w') := fun hgr => Lib.hid fun W hW => by
    have hl := great_lits x nv kv 0 h hgr
    exact print_calls x nv kv W (h.kept hW) (hg.later hW) hsm (hF.later hW) (hQ.later hW) hl (fun _ => by have := print_len x hl; omega)
  have HRP : greatB x 0 = false → mayB x = true → Hid (∀ W, Chg (fun _ => False) w W → Calls Tryz.prog 23 #[ndV x nv kv] W fun e w' => e = .returned (.string ⟨(printL x).toArray⟩) ∧ Chg (fun _ => False) W w') := fun hgr hm => Lib.hid fun W hW => by
    have hl := great_lits x nv kv 0 h hgr
    have hr := ref_print x 1 (may_right hm)
    have := rprint_calls x nv kv 1 W (h.kept hW) (may_right hm) (hl.weak (fun _ _ => trivial) (fun _ hs => hs)) hsm (by rw [hr]; have := print_len x hl; omega)
    rw [hr] at this
    exact this
  obtain ⟨sz, hsz2⟩ : ∃ sz, sizeN x = sz := ⟨_, rfl⟩
  rw [hsz2] at HTS HRS
  obtain ⟨gr, hgr⟩ : ∃ gr, greatB x 0 = gr := ⟨_, rfl⟩
  rw [hgr] at HGR HPR HRP
  obtain ⟨mb, hmb⟩ : ∃ mb, mayB x = mb := ⟨_, rfl⟩
  rw [hmb] at HRM HTM HRP
  obtain ⟨ps, hps⟩ : ∃ ps : ByteArray, (⟨(printL x).toArray⟩ : ByteArray) = ps := ⟨_, rfl⟩
  have hpr : printR x = if mb = true then (ps, 0) else (⟨#[]⟩, 12) := by unfold printR; rw [hmb, hps]
  rw [hps] at HRP
  rw [hpr] at HPR
  obtain ⟨an, cn, ak, ck, rfl, rfl, _⟩ := h.forms
  unfold ndBox at HB hw1
  unfold ndV at HGR HRM HTM HTS HRS HPR HRP ⊢
  have a0 := cell_of HB.out 0
  have a1 := cell_of HB.out 1
  have a2 := cell_of HB.out 2
  have a3 := cell_of HB.out 3
  have a4 := cell_of HB.out 4
  have HBX : Hid (∀ W, Chg (fun _ => False) w1 W → W.heap[w.heap.size]? = some (.cells #[.int .u8 x.kind, .int .i64 x.n, .string x.text, .slice an x.names.length cn, .slice ak x.kids.length ck] 25)) := Lib.hid fun W hW => hW.blk HB.out (fun e => e)
  clear h hwt hg hF hQ hfi hsm hsz hC1 hb hsz2 hgr hmb hps hpr
  go_enter Tryz.func6, Tryz.ntmps6
  go_wp2_with fail
  refine HGR.out.mono ?_
  rintro e w2 ⟨rfl, hC2⟩
  have HD2 := Lib.hid hC2
  have HC2 := Lib.hid (HC1.out.trans hC2)
  have hbW := HBX.out _ HD2.out
  clear hC2 HGR a0 a1 a2 a3 a4 hw1
  have a0 := cell_of hbW 0
  have a1 := cell_of hbW 1
  have a2 := cell_of hbW 2
  have a3 := cell_of hbW 3
  have a4 := cell_of hbW 4
  clear hbW
  cases gr with
  | true =>
    go_wp2_with fail
    refine (HA.out _ HC2.out).mono ?_
    rintro e w3 ⟨rfl, hC3⟩
    have HC3 := Lib.hid (HC2.out.trans hC3)
    clear hC3 HA
    go_wp2_with fail
    go_ret
    exact ⟨rfl, HC3.out⟩
  | false =>
    cases mb with
    | false =>
      have HP := HPR rfl
      rw [if_neg (by decide)] at HP
      clear HPR HRP
      go_wp2_with fail
      refine (HP.out _ HC2.out).mono ?_
      rintro e w3 ⟨rfl, hC3⟩
      have HD3 := Lib.hid (HD2.out.trans hC3)
      have HC3 := Lib.hid (HC2.out.trans hC3)
      have hbW := HBX.out _ HD3.out
      clear hC3 HP a0 a1 a2 a3 a4
      have a0 := cell_of hbW 0
      have a1 := cell_of hbW 1
      have a2 := cell_of hbW 2
      have a3 := cell_of hbW 3
      have a4 := cell_of hbW 4
      clear hbW
      have HTS3 := Lib.hid (fun W (hW : Chg (fun _ => False) w3 W) => HTS.out W (HC3.out.trans hW))
      have HRS3 := Lib.hid (fun W (hW : Chg (fun _ => False) w3 W) => HRS.out W (HC3.out.trans hW))
      have HBX3 : Hid (∀ W, Chg (fun _ => False) w3 W → W.heap[w.heap.size]? = some (.cells #[.int .u8 x.kind, .int .i64 x.n, .string x.text, .slice an x.names.length cn, .slice ak x.kids.length ck] 25)) := Lib.hid fun W hW => HBX.out W (HD3.out.trans hW)
      clear HTS HRS
      go_wp2_with fail
      first
        | go_region_with (first | (go_at_call 20; refine (HTS3.out _ (by first | exact hcw | exact (Chg.refl _ w3).drew | exact Chg.refl _ w3)).mono ?_; rintro e wt ⟨rfl, hct⟩; (first | (have hcw := hcw.trans hct) | (have hcw := ((Chg.refl _ w3).drew).trans hct)); have hbW := HBX3.out _ hcw; have b0 := cell_of hbW 0; have b1 := cell_of hbW 1; have b2 := cell_of hbW 2; have b3 := cell_of hbW 3; have b4 := cell_of hbW 4) | (go_at_call 21; refine (HRS3.out _ (by first | exact hcw | exact (Chg.refl _ w3).drew | exact Chg.refl _ w3)).mono ?_; rintro e wt ⟨rfl, hct⟩; (first | (have hcw := hcw.trans hct) | (have hcw := ((Chg.refl _ w3).drew).trans hct)); have hbW := HBX3.out _ hcw; have b0 := cell_of hbW 0; have b1 := cell_of hbW 1; have b2 := cell_of hbW 2; have b3 := cell_of hbW 3; have b4 := cell_of hbW 4))
        | fail
      all_goals
        go_wp2_with fail
        refine (HRM.out _ (HC3.out.trans hcw)).mono ?_
        rintro e w6 ⟨rfl, hC6⟩
        have hcx := hcw.trans hC6
        have hbX := HBX3.out _ hcx
        have c0 := cell_of hbX 0
        have c1 := cell_of hbX 1
        have c2 := cell_of hbX 2
        have c3 := cell_of hbX 3
        have c4 := cell_of hbX 4
        go_wp2_with fail
        refine (HTM.out _ (HC3.out.trans hcx)).mono ?_
        rintro e w7 ⟨rfl, hC7⟩
        have hcy := hcx.trans hC7
        have hbY := HBX3.out _ hcy
        have d0 := cell_of hbY 0
        have d1 := cell_of hbY 1
        have d2 := cell_of hbY 2
        have d3 := cell_of hbY 3
        have d4 := cell_of hbY 4
        go_wp2_with fail
        refine (HA.out _ (HC3.out.trans hcy)).mono ?_
        rintro e w9 ⟨rfl, hC9⟩
        go_wp2_with fail
        go_ret
        exact ⟨rfl, (HC3.out.trans hcy).trans hC9⟩
    | true =>
      have HP := HPR rfl
      rw [if_pos rfl] at HP
      have HRP1 := HRP rfl rfl
      clear HPR HRP
      go_wp2_with fail
      refine (HP.out _ HC2.out).mono ?_
      rintro e w3 ⟨rfl, hC3⟩
      have HD3 := Lib.hid (HD2.out.trans hC3)
      have HC3 := Lib.hid (HC2.out.trans hC3)
      have hbW := HBX.out _ HD3.out
      clear hC3 HP a0 a1 a2 a3 a4
      have a0 := cell_of hbW 0
      have a1 := cell_of hbW 1
      have a2 := cell_of hbW 2
      have a3 := cell_of hbW 3
      have a4 := cell_of hbW 4
      clear hbW
      have HTS3 := Lib.hid (fun W (hW : Chg (fun _ => False) w3 W) => HTS.out W (HC3.out.trans hW))
      have HRS3 := Lib.hid (fun W (hW : Chg (fun _ => False) w3 W) => HRS.out W (HC3.out.trans hW))
      have HBX3 : Hid (∀ W, Chg (fun _ => False) w3 W → W.heap[w.heap.size]? = some (.cells #[.int .u8 x.kind, .int .i64 x.n, .string x.text, .slice an x.names.length cn, .slice ak x.kids.length ck] 25)) := Lib.hid fun W hW => HBX.out W (HD3.out.trans hW)
      clear HTS HRS
      go_wp2_with fail
      first
        | go_region_with (first | (go_at_call 20; refine (HTS3.out _ (by first | exact hcw | exact (Chg.refl _ w3).drew | exact Chg.refl _ w3)).mono ?_; rintro e wt ⟨rfl, hct⟩; (first | (have hcw := hcw.trans hct) | (have hcw := ((Chg.refl _ w3).drew).trans hct)); have hbW := HBX3.out _ hcw; have b0 := cell_of hbW 0; have b1 := cell_of hbW 1; have b2 := cell_of hbW 2; have b3 := cell_of hbW 3; have b4 := cell_of hbW 4) | (go_at_call 21; refine (HRS3.out _ (by first | exact hcw | exact (Chg.refl _ w3).drew | exact Chg.refl _ w3)).mono ?_; rintro e wt ⟨rfl, hct⟩; (first | (have hcw := hcw.trans hct) | (have hcw := ((Chg.refl _ w3).drew).trans hct)); have hbW := HBX3.out _ hcw; have b0 := cell_of hbW 0; have b1 := cell_of hbW 1; have b2 := cell_of hbW 2; have b3 := cell_of hbW 3; have b4 := cell_of hbW 4))
        | fail
      all_goals
        go_wp2_with fail
        refine (HRM.out _ (HC3.out.trans hcw)).mono ?_
        rintro e w6 ⟨rfl, hC6⟩
        have hcx := hcw.trans hC6
        have hbX := HBX3.out _ hcx
        have c0 := cell_of hbX 0
        have c1 := cell_of hbX 1
        have c2 := cell_of hbX 2
        have c3 := cell_of hbX 3
        have c4 := cell_of hbX 4
        go_wp2_with fail
        refine (HTM.out _ (HC3.out.trans hcx)).mono ?_
        rintro e w7 ⟨rfl, hC7⟩
        have hcy := hcx.trans hC7
        have hbY := HBX3.out _ hcy
        have d0 := cell_of hbY 0
        have d1 := cell_of hbY 1
        have d2 := cell_of hbY 2
        have d3 := cell_of hbY 3
        have d4 := cell_of hbY 4
        go_wp2_with fail
        refine (HRP1.out _ (HC3.out.trans hcy)).mono ?_
        rintro e w8 ⟨rfl, hC8⟩
        have hcz := hcy.trans hC8
        go_wp2_with fail
        refine (HA.out _ (HC3.out.trans hcz)).mono ?_
        rintro e w9 ⟨rfl, hC9⟩
        go_wp2_with fail
        go_ret
        exact ⟨rfl, (HC3.out.trans hcz).trans hC9⟩
end Go.Proofs.YtaklmocjaokkpaaGreatDoor.Tr
