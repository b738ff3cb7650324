/- The stack's Some, asked whether a frame is a number, walked. Condition: the stack is known, and the number's variable. -/
import Derived.Test.YtkidnmjaioejaaaPlayTake
namespace Go.Proofs.Ytkidnmjaioejaaa.Sg
set_option linter.unusedVariables false
set_option linter.unusedSimpArgs false
open Go.RowKit Go.Proofs.Ytkidnmjaioejaaa.Mem

theorem asks_calls (f n : Int) (bx : Nat) (w : World) (hb : w.cell? ⟨bx, 0, none⟩ = some (.int .i64 n)) :
    Calls Try.prog 43 #[.int .i64 f, .pointer (some ⟨bx, 0, none⟩)] w fun e w' => e = .returned (.bool (decide (f = n))) ∧ w' = w := by
  by_cases h : f = n
  · have hd : decide (f = n) = true := decide_eq_true h
    rw [hd]
    subst h
    clear hd
    go_enter Try.func43, Try.ntmps43
    go_wp2_with fail
    go_ret
    exact ⟨rfl, rfl⟩
  · have hd : decide (f = n) = false := decide_eq_false h
    have hbe : (f == n) = false := by simpa using h
    rw [hd]
    clear hd
    go_enter Try.func43, Try.ntmps43
    go_wp2_with fail
    go_ret
    exact ⟨rfl, rfl⟩
def askV (bx : Nat) : Value := .func (.func 43) #[] #[.pointer (some ⟨bx, 0, none⟩)]
theorem enter43 (args : Array Value) (w : World) : (callFunc 43 args).run Try.prog w = .ok (.enter 43 args) w := enters_of Try.func43 (by kernel_rfl) rfl args w
set_option maxRecDepth 100000 in
set_option maxHeartbeats 2000000 in
theorem indexf_calls (fs : List Int) (v : Value) (n : Int) (bx : Nat) (w : World) (hr : IRow w v fs) (hl : fs.length ≤ 200000) (hb : w.cell? ⟨bx, 0, none⟩ = some (.int .i64 n)) :
    Calls Try.prog 64 #[v, askV bx] w fun e w' => (∃ r : Int, e = .returned (.int .i64 r) ∧ decide (0 ≤ r) = fs.any (fun f => decide (f = n))) ∧ w' = w := by
  obtain ⟨k0, hk0⟩ : ∃ k0, fs.length = k0 := ⟨_, rfl⟩
  have HN := Lib.hid hk0
  unfold IRow at hr
  rw [hk0] at hr hl
  obtain ⟨ad, cap, rfl, _, _⟩ := hr.form
  have HR := Lib.hid hr
  have HE := Lib.hid enter43
  have HA := fun f => Lib.hid (asks_calls f n bx w hb)
  clear hr hk0
  unfold askV
  have HE1 := HE.out
  go_enter Try.func64, Try.ntmps64
  go_wp2_with fail
  go_loopg [8] (k0 + 1) (fun g vi wr => ∃ (k : Nat), vi = .int .i64 k ∧ k ≤ k0 ∧ k0 < g + k ∧ wr = w ∧ Hid ((fs.take k).any (fun f => decide (f = n)) = false))
  case atStart => exact ⟨0, rfl, by omega, by omega, rfl, by simp [Hid]⟩
  case round =>
    obtain ⟨k, rfl, hk, hg, rfl, hany⟩ := hrel
    by_cases hlt : k < k0
    · obtain ⟨gk', rfl⟩ : ∃ m, gk = m + 1 := ⟨gk - 1, by omega⟩
      obtain ⟨g, off, cp, hv, _⟩ := HR.out.formS (by omega)
      cases hv
      obtain ⟨f, hf⟩ : ∃ f, fs[k]? = some f := ⟨_, List.getElem?_eq_getElem (by rw [HN.out]; exact hlt)⟩
      have c0 : wr.cell? ⟨g, off + k, none⟩ = some (.int .i64 f) := one_cell HR.out k _ (by rw [List.getElem?_map, hf]; rfl)
      have HT := Lib.hid (take_snoc fs k f hf)
      have HF := Lib.hid hf
      have i0 : (0 : Int) ≤ (k : Int) := by omega
      have i1 : (k : Int) < (k0 : Int) := by omega
      clear hf
      go_wp2_with fail
      refine (HA f).out.mono ?_
      rintro e w1 ⟨rfl, hq⟩
      obtain rfl : wr = w1 := hq.symm
      by_cases hfn : f = n
      · have hd : decide (f = n) = true := decide_eq_true hfn
        rw [hd]
        clear hq
        have HX : Hid (fs.any (fun f => decide (f = n)) = true) := by
          refine Lib.hid (List.any_eq_true.2 ⟨f, List.mem_of_getElem? HF.out, by rw [hd]⟩)
        clear hd
        go_wp2_with fail
        go_ret
        exact ⟨⟨(k : Int), rfl, by rw [HX.out]; exact decide_eq_true (by omega)⟩, rfl⟩
      · have hd : decide (f = n) = false := decide_eq_false hfn
        rw [hd]
        have HX : Hid ((fs.take (k + 1)).any (fun f => decide (f = n)) = false) := by
          rw [HT.out, List.any_append, hany.out]
          simp [Hid, hd]
        clear hq hd
        go_wp2_with fail
        go_roundg gk'
        case measure => omega
        case rel => exact ⟨k + 1, by go_num, by omega, by omega, rfl, HX.out⟩
    · obtain rfl : k = k0 := by omega
      have hkk : ¬ (k : Int) < (k : Int) := by omega
      have hall : fs.take k = fs := List.take_of_length_le (by rw [HN.out]; exact Nat.le_refl _)
      have HX : Hid (fs.any (fun f => decide (f = n)) = false) := by rw [hall] at hany; exact hany
      clear hall hany
      go_wp2_with fail
      go_ret
      exact ⟨⟨-1, rfl, by rw [HX.out]; rfl⟩, rfl⟩
set_option maxHeartbeats 1000000 in
theorem contains_calls (fs : List Int) (v : Value) (n : Int) (bx : Nat) (w : World) (hr : IRow w v fs) (hl : fs.length ≤ 200000) (hb : w.cell? ⟨bx, 0, none⟩ = some (.int .i64 n)) :
    Calls Try.prog 58 #[v, askV bx] w fun e w' => e = .returned (.bool (fs.any (fun f => decide (f = n)))) ∧ w' = w := by
  have HI := Lib.hid (indexf_calls fs v n bx w hr hl hb)
  obtain ⟨ad, cap, rfl, _, _⟩ := hr.form
  obtain ⟨res, hres⟩ : ∃ res, fs.any (fun f => decide (f = n)) = res := ⟨_, rfl⟩
  rw [hres] at HI ⊢
  clear hr hb hres
  unfold askV at *
  go_enter Try.func58, Try.ntmps58
  go_wp2_with fail
  refine HI.out.mono ?_
  rintro e w1 ⟨⟨r, rfl, hr⟩, hq⟩
  obtain rfl : w = w1 := hq.symm
  subst hr
  clear hq
  go_wp2_with fail
  go_ret
  exact ⟨rfl, rfl⟩
theorem some_out {w : World} {s n bx : Nat} {i : Int} (hM : Calls Try.prog 39 #[.pointer (some ⟨s, 0, none⟩)] w fun e w' => e = .returned (.int .i64 (n : Int)) ∧ w' = w) (hi : i < 0 ∨ (n : Int) ≤ i) :
    Calls Try.prog 42 #[.pointer (some ⟨s, 0, none⟩), .int .i64 i, askV bx] w fun e w' => e = .returned (.bool false) ∧ w' = w := by
  have HM := Lib.hid hM
  clear hM
  unfold askV
  by_cases h0 : i < 0
  · clear hi
    go_enter Try.func42, Try.ntmps42
    go_wp2_with fail
    go_ret
    exact ⟨rfl, rfl⟩
  · have h1 : (n : Int) ≤ i := by omega
    clear hi
    go_enter Try.func42, Try.ntmps42
    go_wp2_with fail
    refine HM.out.mono ?_
    rintro e w1 ⟨rfl, hq⟩
    obtain rfl : w = w1 := hq.symm
    go_wp2_with fail
    go_ret
    exact ⟨rfl, rfl⟩
def hasN (L : List Part) (n : Int) : Bool := L.any fun e => e.fs.any (fun f => decide (f = n))
theorem hasN_snoc (L : List Part) (k : Nat) (e : Part) (n : Int) (h : L[k]? = some e) : hasN (L.take (k + 1)) n = (hasN (L.take k) n || e.fs.any (fun f => decide (f = n))) := by
  unfold hasN
  rw [List.take_add_one, h, List.any_append]
  simp
theorem hasN_flat (L : List Part) (n : Int) : hasN L n = (flatP L).any (fun x => !x.1 && decide (x.2 = n)) := by
  induction L with
  | nil => rfl
  | cons e L ih =>
    have h2 : flatP (e :: L) = (mk e.m :: e.fs.map fr) ++ flatP L := rfl
    have h3 : hasN (e :: L) n = (e.fs.any (fun f => decide (f = n)) || hasN L n) := rfl
    rw [h2, h3, ih, List.any_append]
    congr 1
    simp only [mk, List.any_cons, List.any_map, fr, Function.comp_def, Bool.not_true, Bool.false_and, Bool.false_or, Bool.not_false, Bool.true_and]
    rfl
set_option maxRecDepth 100000 in
set_option maxHeartbeats 4000000 in
theorem some_in {w : World} {s bx : Nat} {bv pv : Value} {base : List Int} {L0 L1 : List Part} {n : Int} (h : StackAt w s bv pv base (L0 ++ L1)) (h1 : 0 < L1.length) (i : Int) (hi : i = (L1.length : Int) - 1) (hb : w.cell? ⟨bx, 0, none⟩ = some (.int .i64 n)) :
    Calls Try.prog 42 #[.pointer (some ⟨s, 0, none⟩), .int .i64 i, askV bx] w fun e w' => e = .returned (.bool (hasN L1 n)) ∧ Chg (fun _ => False) w w' := by
  obtain ⟨nl, hn⟩ : ∃ n, (L0 ++ L1).length = n := ⟨_, rfl⟩
  obtain ⟨a, ha⟩ : ∃ a, L0.length = a := ⟨_, rfl⟩
  obtain ⟨b, hbl⟩ : ∃ b, L1.length = b := ⟨_, rfl⟩
  have hnab : nl = a + b := by rw [← hn, ← ha, ← hbl]; simp
  obtain ⟨g, off, cap, hpv, hcap, _, hfree⟩ := h.rowAt (by omega)
  rw [hn] at hpv hcap
  subst hpv
  have HM := Lib.hid (marks_calls h)
  rw [hn] at HM
  have hrow : RowAt w 104 2 (.slice (some ⟨g, off, none⟩) nl cap) nl ((L0 ++ L1).flatMap pcells) := by have := h.parts.row; rw [hn] at this; exact this
  have hrd := hrow.drop a (by omega)
  rw [← ha, pcells_drop, ha] at hrd
  have c1 : w.cell? ⟨s, 1, none⟩ = some (.slice (some ⟨g, off, none⟩) nl cap) := cell_of h.blk 1
  have HRD := Lib.hid hrd
  have HPA := Lib.hid h.parts.frames
  have HBL := Lib.hid hbl
  have hn5 : nl ≤ 100000 := by have := h.small.2; omega
  have HFS : Hid (∀ e ∈ L1, e.fs.length ≤ 200000) := fun e he => by
    have h2 := h.small.1
    rw [count_many] at h2
    obtain ⟨k, hk⟩ := List.getElem?_of_mem he
    have h3 := many_take L1 k e hk
    have h4 := many_le L1 (k + 1)
    omega
  obtain ⟨res, hres⟩ : ∃ res, hasN L1 n = res := ⟨_, rfl⟩
  have HRES := Lib.hid hres
  rw [hres]
  have HB := Lib.hid hb
  have hi0 : (0 : Int) ≤ i := by omega
  have hi1 : i < (nl : Int) := by omega
  have hat : (nl : Int) - 1 - i = (a : Int) := by omega
  have ha0 : (0 : Int) ≤ (a : Int) := by omega
  have han : (a : Int) ≤ (nl : Int) := by omega
  have hac : (a : Int) ≤ (cap : Int) := by omega
  have hac2 : ¬ cap = a := by omega
  have hnb : nl - a = b := by omega
  clear h hrow hrd hn ha hi hnab hbl h1 hres hb
  unfold askV
  go_enter Try.func42, Try.ntmps42
  go_wp2_with fail
  refine HM.out.mono ?_
  rintro e w1 ⟨rfl, hq⟩
  obtain rfl : w = w1 := hq.symm
  go_wp2_with fail
  go_quiet (fail)
  go_wp2_with fail
  go_loopg [31] (b + 1) (fun g vi wr => ∃ (j : Nat), vi = .int .i64 j ∧ j ≤ b ∧ b < g + j ∧ Hid (hasN (L1.take j) n = false) ∧ Hid (Chg (fun _ => False) w wr))
  case atStart => exact ⟨0, rfl, by omega, by omega, rfl, Lib.hid ((Chg.refl _ w).drewN _)⟩
  case round =>
    obtain ⟨j, rfl, hj, hgj, hno, hC⟩ := hrel
    by_cases hlt : j < b
    · obtain ⟨gk', rfl⟩ : ∃ m, gk = m + 1 := ⟨gk - 1, by omega⟩
      have hjl : j < L1.length := by rw [HBL.out]; exact hlt
      obtain ⟨e1, he1⟩ : ∃ e1, L1[j]? = some e1 := ⟨_, List.getElem?_eq_getElem hjl⟩
      have hRr := HRD.out.kept hC.out (fun _ _ h => h)
      have hcell : ∀ q, q < 2 → wr.cell? ⟨g, off + a * 2 + j * 2 + q, none⟩ = (pcells e1)[q]? := fun q hq => by
        rw [Nat.add_assoc _ (j * 2), hRr.cell (j * 2 + q) (by omega), pcells_get L1 j q hjl hq]
        rw [List.getElem?_eq_getElem hjl] at he1
        cases he1; rfl
      have a0 : wr.cell? ⟨g, off + a * 2 + j * 2, none⟩ = _ := hcell 0 (by omega)
      have a1 := hcell 1 (by omega)
      have hmem : e1 ∈ L1 := List.mem_of_getElem? he1
      have hfr := (HPA.out e1 (List.mem_append_right _ hmem)).kept hC.out (fun _ _ h => h)
      have hfl := HFS.out e1 hmem
      obtain ⟨ade, cape, hev, _, _⟩ := hfr.form
      have HST := Lib.hid (hasN_snoc L1 j e1 n he1)
      have HME := Lib.hid hmem
      obtain ⟨em, ev, efs⟩ := e1
      simp only at hev
      subst hev
      simp only [pcells, List.getElem?_cons_zero, List.getElem?_cons_succ] at a0 a1
      simp only at hfr hfl HST
      obtain ⟨ke, hke⟩ : ∃ ke, efs.length = ke := ⟨_, rfl⟩
      have HKE := Lib.hid hke
      obtain ⟨wx, hwx⟩ : ∃ wx, wr.alloc (.cells #[.int .i64 em, .slice ade ke cape] 104) = wx := ⟨_, rfl⟩
      obtain ⟨X, hX⟩ : ∃ X, wr.heap.size = X := ⟨_, rfl⟩
      have hxb : wx.heap[X]? = some (.cells #[.int .i64 em, .slice ade ke cape] 104 (0, 0)) := by rw [← hwx, ← hX]; exact blk_new wr _
      have hCx : Chg (fun _ => False) wr wx := by rw [← hwx]; exact (Chg.refl _ wr).alloc _
      have HCX := Lib.hid (hC.out.trans hCx)
      have HCN := Lib.hid (contains_calls efs _ n bx wx (hfr.kept hCx (fun _ _ h => h)) hfl (HCX.out.cell HB.out (fun h => h)))
      have d1 : wx.cell? ⟨X, 1, none⟩ = some (.slice ade ke cape) := cell_of hxb 1
      rw [hke] at a1 HCN
      have i0 : (0 : Int) ≤ (j : Int) := by omega
      have i1 : (j : Int) < (b : Int) := by omega
      obtain ⟨rj, hrj⟩ : ∃ rj, efs.any (fun f => decide (f = n)) = rj := ⟨_, rfl⟩
      have HRJ := Lib.hid hrj
      rw [hrj] at HCN
      unfold askV at HCN
      clear hRr hcell hmem hfr hfl he1 hke hxb hCx hrj
      go_wp2_with fail
      refine HCN.out.mono ?_
      rintro e w3 ⟨rfl, hq⟩
      obtain rfl : wx = w3 := hq.symm
      clear hq HCN d1 a0 a1
      cases rj with
      | true =>
        have hr : res = true := by
          rw [← HRES.out]
          exact List.any_eq_true.2 ⟨_, HME.out, HRJ.out⟩
        subst hr
        go_wp2_with fail
        go_ret
        exact ⟨rfl, HCX.out⟩
      | false =>
        have HNX : Hid (hasN (L1.take (j + 1)) n = false) := by rw [HST.out, hno.out, HRJ.out]; rfl
        go_wp2_with fail
        go_roundg gk'
        case measure => omega
        case rel => exact ⟨j + 1, by go_num, by omega, by omega, HNX.out, HCX.out⟩
    · obtain rfl : j = b := by omega
      have hall : L1.take j = L1 := List.take_of_length_le (by rw [HBL.out]; exact Nat.le_refl _)
      have hr : res = false := by rw [← HRES.out, ← hno.out, hall]
      subst hr
      have i2 : ¬ (j : Int) < (j : Int) := by omega
      clear hall
      go_wp2_with fail
      go_ret
      exact ⟨rfl, hC.out⟩
/-- Whether a frame above the mark number i is the number. -/
def someOf (l : Row) (i n : Int) : Bool := match markAt l i with
  | some a => (l.drop a).any fun x => !x.1 && decide (x.2 = n)
  | none => false
theorem some_abs {w : World} {s bx : Nat} {l : Row} {F : List Nat} (h : SA w s l F) (i n : Int) (hb : w.cell? ⟨bx, 0, none⟩ = some (.int .i64 n)) :
    Calls Try.prog 42 #[.pointer (some ⟨s, 0, none⟩), .int .i64 i, askV bx] w fun e w' => e = .returned (.bool (someOf l i n)) ∧ Chg (fun _ => False) w w' := by
  obtain ⟨bv, pv, base, L, h1, h2, rfl⟩ := h
  subst h2
  unfold someOf
  cases hat : markAt (flat base L) i with
  | none => exact (some_out (marks_calls h1) (markAt_none base L i hat)).mono fun e w' ⟨q1, q2⟩ => ⟨q1, by rw [q2]; exact Chg.refl _ _⟩
  | some a =>
    obtain ⟨L0, L1, rfl, hi, hp, rfl⟩ := markAt_split base L i a hat
    have := some_in h1 hp i hi hb
    rw [hasN_flat] at this
    have hd : (flat base (L0 ++ L1)).drop (flat base L0).length = flatP L1 := by rw [flat_append, List.drop_left]
    simp only [hd]
    exact this
end Go.Proofs.Ytkidnmjaioejaaa.Sg
