/- A name that is bound by lets, one within the other, is free in none of them: the statement, walked. Condition: what XTreeText's functions want of the library's variables. -/
import Derived.Test.YtaklmocjaokkpaaGreatDoorScopeFree
import Derived.Test.YtaklmocjaokkpaaGreatDoorScopeLaws
import Derived.Test.YtaklmocjaokkpaaGreatDoorTreeDeepLaw
import Derived.Test.YtaklmocjaokkpaaGreatDoorTreeRMay
namespace Go.Proofs.YtaklmocjaokkpaaGreatDoor.Tr
set_option linter.unusedVariables false
set_option linter.unusedSimpArgs false
open Go.RowKit Go.Shelf Go.Proofs.YtaklmocjaokkpaaGreatDoor.Mem

def ltK : Nat → Int
  | 0 => 5
  | _ + 1 => 8
theorem lets_k (s : ByteArray) (j : Nat) : ((letsN s j).kind : Int) = ltK j := by cases j <;> rfl
theorem lets_t (s : ByteArray) (j : Nat) : (letsN s j).text = s := by cases j <;> rfl
theorem lets_n (s : ByteArray) (j : Nat) : (letsN s j).n = 0 := by cases j <;> rfl
theorem lets_ok (s : ByteArray) (hs : s.size ≤ 1048576) (j : Nat) : Small (letsN s j) ∧ Fine (letsN s j) := by
  induction j with
  | zero => simp [letsN, Small, Smalls, Fine, Fines, hs]
  | succ j ih =>
    have h0 : (⟨#[]⟩ : ByteArray).size ≤ 1048576 := by decide
    simp [letsN, letN, Small, Smalls, Fine, Fines, hs, ih, h0]
/-- They lie in blocks of their own. -/
def LtIn (w : World) (v : Nat) (s : ByteArray) : Nat → Value → Prop
  | 0, kv => kv = .slice none 0 0
  | j + 1, kv => ∃ b kv', b ≠ v ∧ kv = .slice (some ⟨b, 0, none⟩) 2 2 ∧ w.heap[b]? = some (.cells #[.int .u8 1, .int .i64 j, .string ⟨#[]⟩, .slice none 0 0, .slice none 0 0, .int .u8 (ltK j), .int .i64 0, .string s, .slice none 0 0, kv'] 25) ∧ LtIn w v s j kv'
theorem LtIn.kept {w w' : World} {v : Nat} {s : ByteArray} (hc : Chg (fun j => j = v) w w') : ∀ (j : Nat) (kv : Value), LtIn w v s j kv → LtIn w' v s j kv := by
  intro j
  induction j with
  | zero => intro kv h; exact h
  | succ j ih =>
    rintro kv ⟨b, kv', h1, h2, h3, h4⟩
    exact ⟨b, kv', h1, h2, hc.blk h3 h1, ih kv' h4⟩
theorem LtIn.node {w : World} {v : Nat} {s : ByteArray} : ∀ (j : Nat) (kv : Value), j < 1000 → LtIn w v s j kv → NdIn w (.slice none 0 0) kv (letsN s j) := by
  intro j
  induction j with
  | zero => rintro kv _ rfl; exact leaf_in w 5 0 _ (by decide) (by decide)
  | succ j ih =>
    rintro kv hj ⟨b, kv', h1, rfl, h3, h4⟩
    rw [← lets_k s] at h3
    exact node_in w 8 0 _ _ b 2 rfl (by decide) (by decide) (by decide) (kids_two (k := 1) h3 rfl rfl rfl (leaf_in w 1 j _ (by decide) (by omega)) rfl (lets_n s j) (lets_t s j) (ih kv' (by omega) h4))
theorem LtIn.form {w : World} {v j : Nat} {s : ByteArray} {kv : Value} (h : LtIn w v s j kv) : ∃ ak m, kv = .slice ak m m := by
  cases j with
  | zero => exact ⟨_, _, h⟩
  | succ j => obtain ⟨b, kv', _, h2, _⟩ := h; exact ⟨_, _, h2⟩
theorem lt_next {wr w' : World} {v j : Nat} {s : ByteArray} {kv : Value} (h : LtIn wr v s j kv) (hb : w'.heap[wr.heap.size]? = some (.cells #[.int .u8 1, .int .i64 j, .string ⟨#[]⟩, .slice none 0 0, .slice none 0 0, .int .u8 (ltK j), .int .i64 0, .string s, .slice none 0 0, kv] 25)) (hc : Chg (fun j => j = v) wr w') (hv : v < wr.heap.size) : LtIn w' v s (j + 1) (.slice (some ⟨wr.heap.size, 0, none⟩) 2 2) :=
  ⟨_, kv, by omega, rfl, hb, h.kept hc⟩
set_option maxRecDepth 100000 in
set_option maxHeartbeats 2000000 in
theorem scopeLets_calls (n : Nat) (s : ByteArray) (w : World) (hn : n < 256) (hg : Gm w) : Calls Tryz.prog 5 #[.int .u8 n, .string s] w fun e w' => e = .returned (.bool true) ∧ Chg (fun _ => False) w w' := by
  have HA := Lib.hid (fun W (hW : Chg (fun _ => False) w W) => sawake_calls W (hg.later hW))
  have HG := Lib.hid hg
  obtain ⟨m, hm⟩ : ∃ m, m = n % 20 := ⟨_, rfl⟩
  have hml : m < 20 := by omega
  have q1 : (n : Int).tmod 20 = (m : Int) := by rw [Int.tmod_eq_emod_of_nonneg (by omega)]; omega
  have q0 : IntKind.i64.wrap (m : Int) = (m : Int) := by simp [IntKind.wrap, IntKind.signed, IntKind.bits]; omega
  have q2 : IntKind.u8.wrap (m : Int) = (m : Int) := by simp [IntKind.wrap, IntKind.signed, IntKind.bits]; omega
  obtain ⟨w1, hw1⟩ : ∃ w1, w.alloc (.cells #[.int .u8 5, .int .i64 0, .string s, .slice none 0 0, .slice none 0 0] 25) = w1 := ⟨_, rfl⟩
  have hC1 : Chg (fun _ => False) w w1 := by rw [← hw1]; exact (Chg.refl _ w).alloc _
  have HB1 := Lib.hid (show w1.heap[w.heap.size]? = some (.cells #[.int .u8 5, .int .i64 0, .string s, .slice none 0 0, .slice none 0 0] 25) by rw [← hw1]; exact blk_new w _)
  have HC1 := Lib.hid hC1
  have HSX := Lib.hid (fun W => leaf_in W 5 0 s (by decide) (by decide))
  clear hg hm hC1
  subst hw1
  go_enter Tryz.func5, Tryz.ntmps5
  by_cases hlong : 100 < s.size
  · have h1 : (100 : Int) < (s.size : Int) := by omega
    clear hlong
    go_wp2_with fail
    refine (HA.out _ HC1.out).mono ?_
    rintro e w3 ⟨rfl, hC3⟩
    have HC3 := Lib.hid (HC1.out.trans hC3)
    clear hC3 HA
    go_wp2_with fail
    go_ret
    exact ⟨rfl, HC3.out⟩
  have h1 : ¬ (100 : Int) < (s.size : Int) := by omega
  have HOK := Lib.hid (fun j => lets_ok s (by omega) j)
  have HRM := Lib.hid (rmay_calls (letsN s 0) _ _ _ (HSX.out (w.alloc (.cells #[.int .u8 5, .int .i64 0, .string s, .slice none 0 0, .slice none 0 0] 25))) (HOK.out 0).2 (by rw [letsN, sizeN, sizesN]; decide))
  obtain ⟨mb, hmb⟩ : ∃ mb, mayB (letsN s 0) = mb := ⟨_, rfl⟩
  have HMB := Lib.hid hmb
  rw [hmb] at HRM
  have HRM2 : Hid (Calls Tryz.prog 15 #[.agg #[.int .u8 5, .int .i64 0, .string s, .slice none 0 0, .slice none 0 0]] (w.alloc (.cells #[.int .u8 5, .int .i64 0, .string s, .slice none 0 0, .slice none 0 0] 25)) fun e w' => e = .returned (.bool mb) ∧ Chg (fun _ => False) (w.alloc (.cells #[.int .u8 5, .int .i64 0, .string s, .slice none 0 0, .slice none 0 0] 25)) w') := HRM
  clear hlong hmb HRM
  go_wp2_with fail
  refine HRM2.out.mono ?_
  rintro e w2 ⟨rfl, hC2⟩
  have HC2 := Lib.hid (HC1.out.trans hC2)
  have hb2 := hC2.blk HB1.out (fun e => e)
  clear hC2 HRM2
  have a0 := cell_of hb2 0
  have a1 := cell_of hb2 1
  have a2 := cell_of hb2 2
  have a3 := cell_of hb2 3
  have a4 := cell_of hb2 4
  clear hb2
  cases mb with
  | false =>
    go_wp2_with fail
    refine (HA.out _ HC2.out).mono ?_
    rintro e w3 ⟨rfl, hC3⟩
    have HC3 := Lib.hid (HC2.out.trans hC3)
    clear hC3 HA
    go_wp2_with fail
    go_ret
    exact ⟨rfl, HC3.out⟩
  | true =>
    obtain ⟨w3, hw3⟩ : ∃ w3, w2.alloc (.cells #[.int .u8 5, .int .i64 0, .string s, .slice none 0 0, .slice none 0 0] 25) = w3 := ⟨_, rfl⟩
    have HC3 : Hid (Chg (fun _ => False) w w3) := Lib.hid (by rw [← hw3]; exact HC2.out.alloc _)
    have HB3 : Hid (w3.heap[w2.heap.size]? = some (.cells #[.int .u8 (ltK 0), .int .i64 0, .string s, .slice none 0 0, .slice none 0 0] 25)) := Lib.hid (by rw [← hw3]; exact blk_new w2 _)
    have HW2 : Hid (w.heap.size ≤ w2.heap.size) := Lib.hid HC2.out.size
    subst hw3
    go_wp2_with fail
    go_loopg [7] (m + 1) (fun g vi wr => ∃ (j : Nat), vi = .int .i64 j ∧ j ≤ m ∧ m < g + j ∧ Hid (∃ kv, wr.heap[w2.heap.size]? = some (.cells #[.int .u8 (ltK j), .int .i64 0, .string s, .slice none 0 0, kv] 25) ∧ LtIn wr w2.heap.size s j kv) ∧ Hid (Chg (fun _ => False) w wr))
    case atStart => exact ⟨0, rfl, by omega, by omega, Lib.hid ⟨_, HB3.out, rfl⟩, HC3⟩
    case round =>
      obtain ⟨j, rfl, hj, hg, hI, hC⟩ := hrel
      obtain ⟨kv, hb, hch⟩ := hI.out
      obtain ⟨ak, mm, rfl⟩ := hch.form
      have HCH := Lib.hid hch
      have HB := Lib.hid hb
      obtain ⟨z, hz⟩ : ∃ z, ltK j = z := ⟨_, rfl⟩
      rw [hz] at hb
      by_cases hlt : j < m
      · obtain ⟨gk', rfl⟩ : ∃ q, gk = q + 1 := ⟨gk - 1, by omega⟩
        have i1 : (j : Int) < (m : Int) := by omega
        obtain ⟨w4, hw4⟩ : ∃ w4, wr.alloc (.cells #[.int .u8 1, .int .i64 j, .string ⟨#[]⟩, .slice none 0 0, .slice none 0 0, .int .u8 z, .int .i64 0, .string s, .slice none 0 0, .slice ak mm mm] 25) = w4 := ⟨_, rfl⟩
        have hC4 : Chg (fun _ => False) wr w4 := by rw [← hw4]; exact (Chg.refl _ wr).alloc _
        have hb4 := hC4.blk hb (fun e => e)
        have hn4 : w4.heap[wr.heap.size]? = some (.cells #[.int .u8 1, .int .i64 j, .string ⟨#[]⟩, .slice none 0 0, .slice none 0 0, .int .u8 z, .int .i64 0, .string s, .slice none 0 0, .slice ak mm mm] 25) := by rw [← hw4]; exact blk_new wr _
        have hv : w2.heap.size < wr.heap.size := lt_of_block hb
        have HREL : Hid (∃ kv, (put5 w4 w2.heap.size (.int .u8 8) (.int .i64 0) (.string s) (.slice none 0 0) (.slice (some ⟨wr.heap.size, 0, none⟩) 2 2)).heap[w2.heap.size]? = some (.cells #[.int .u8 (ltK (j + 1)), .int .i64 0, .string s, .slice none 0 0, kv] 25) ∧ LtIn (put5 w4 w2.heap.size (.int .u8 8) (.int .i64 0) (.string s) (.slice none 0 0) (.slice (some ⟨wr.heap.size, 0, none⟩) 2 2)) w2.heap.size s (j + 1) kv) := Lib.hid (by
          refine ⟨_, put5_blk hb4 _ _ _ _ _, lt_next HCH.out ?_ ((hC4.mono (fun _ _ e => e.elim)).trans (put5_chg _ _ _ _ _ _ _)) hv⟩
          rw [hz]
          exact (put5_chg w4 w2.heap.size _ _ _ _ _).blk hn4 (by omega))
        have HCC : Hid (Chg (fun _ => False) w (put5 w4 w2.heap.size (.int .u8 8) (.int .i64 0) (.string s) (.slice none 0 0) (.slice (some ⟨wr.heap.size, 0, none⟩) 2 2))) := Lib.hid ((hC.out.trans hC4).andThen (put5_chg _ _ _ _ _ _ _) (fun j hj e => by have := HW2.out; omega))
        unfold put5 at HREL HCC
        have a0 := cell_of hb 0
        have a1 := cell_of hb 1
        have a2 := cell_of hb 2
        have a3 := cell_of hb 3
        have a4 := cell_of hb 4
        have c0 := cell_of hb4 0
        have c1 := cell_of hb4 1
        have c2 := cell_of hb4 2
        have c3 := cell_of hb4 3
        have c4 := cell_of hb4 4
        have f0 := free_of hb4 0
        have f1 := free_of hb4 1
        have f2 := free_of hb4 2
        have f3 := free_of hb4 3
        have f4 := free_of hb4 4
        clear hz hb hch hI hC4 hb4 hn4 hC HB HCH
        go_wp2_with fail
        go_roundg gk'
        case measure => omega
        case rel => exact ⟨j + 1, by go_num, by omega, by omega, HREL, HCC⟩
      · obtain rfl : j = m := by omega
        have hkk : ¬ (j : Int) < (j : Int) := by omega
        have hin : NdIn wr (.slice none 0 0) (.slice ak mm mm) (letsN s j) := hch.node _ _ (by omega)
        have HM := Lib.hid (free_calls (letsN s j) _ _ wr hin (HG.out.later hC.out) (HOK.out j).1 (HOK.out j).2)
        unfold ndV at HM
        rw [lets_k, lets_t, lets_n, hz] at HM
        have a0 := cell_of hb 0
        have a1 := cell_of hb 1
        have a2 := cell_of hb 2
        have a3 := cell_of hb 3
        have a4 := cell_of hb 4
        clear hz hb hch hI HB HCH hin
        go_wp2_with fail
        refine HM.out.mono ?_
        rintro e w4 ⟨v, rfl, hst, hC4⟩
        have HC4 := Lib.hid (hC.out.trans hC4)
        clear hC4 HM a0 a1 a2 a3 a4 hC
        by_cases h0 : j = 0
        · subst h0
          have hfp : freeP (letsN s 0) = [s] := by unfold freeP; rw [HMB.out]; exact free_var s
          rw [hfp] at hst
          obtain ⟨ad, cap, rfl, hle, hcm, hel⟩ := hst
          obtain ⟨b, off, rfl, _, c0⟩ := hel 0 s rfl
          rw [Nat.add_zero] at c0
          rw [List.length_singleton] at hle ⊢
          have hcm2 : cap ≤ 9223372036854775807 := by unfold maxLen at hcm; omega
          clear hel hfp hcm
          go_wp2_with fail
          refine (HA.out _ HC4.out).mono ?_
          rintro e w5 ⟨rfl, hC5⟩
          have HC5 := Lib.hid (HC4.out.trans hC5)
          clear hC5 HA
          go_wp2_with fail
          go_ret
          exact ⟨rfl, HC5.out⟩
        · have hfp : freeP (letsN s j) = [] := by
            obtain ⟨i, rfl⟩ : ∃ i, j = i + 1 := ⟨j - 1, by omega⟩
            unfold freeP
            rw [free_lets]
            split <;> rfl
          rw [hfp] at hst
          obtain ⟨ad, cap, rfl, hle, hcm, hel⟩ := hst
          rw [List.length_nil] at hle ⊢
          have j0 : ¬ (j : Int) = 0 := by omega
          have jb : ((j : Int) == 0) = false := beq_eq_false_iff_ne.2 j0
          clear hel hfp hcm hle
          go_wp2_with fail
          refine (HA.out _ HC4.out).mono ?_
          rintro e w5 ⟨rfl, hC5⟩
          have HC5 := Lib.hid (HC4.out.trans hC5)
          clear hC5 HA
          go_wp2_with fail
          go_ret
          exact ⟨rfl, HC5.out⟩
end Go.Proofs.YtaklmocjaokkpaaGreatDoor.Tr
