/- Nodes stand so deep in each other, and no deeper: the statement, walked. Condition: what XTreeText's functions want of the library's variables. -/
import Derived.Test.YtaklmocjaokkpaaGreatDoorTreeAwake
namespace Go.Proofs.YtaklmocjaokkpaaGreatDoor.Tr
set_option linter.unusedVariables false
set_option linter.unusedSimpArgs false
open Go.RowKit Go.Shelf Go.Proofs.YtaklmocjaokkpaaGreatDoor.Mem

/-- So many nodes in each other. -/
def chain : Nat → Nd
  | 0 => .mk 4 0 ⟨#[]⟩ [] []
  | j + 1 => .mk 11 0 ⟨#[111, 117, 116]⟩ [] [chain j]
def chK : Nat → Int
  | 0 => 4
  | _ + 1 => 11
def chT : Nat → ByteArray
  | 0 => ⟨#[]⟩
  | _ + 1 => ⟨#[111, 117, 116]⟩
theorem chain_k (j : Nat) : ((chain j).kind : Int) = chK j := by cases j <;> rfl
theorem chain_t (j : Nat) : (chain j).text = chT j := by cases j <;> rfl
theorem chain_n (j : Nat) : (chain j).n = 0 := by cases j <;> rfl
theorem chain_lt (j : Nat) : (chain j).kind < 17 := by
  cases j with
  | zero => exact (by decide : (4 : Nat) < 17)
  | succ j => exact (by decide : (11 : Nat) < 17)
theorem chain_size (j : Nat) : sizeN (chain j) = j + 1 := by
  induction j with
  | zero => rfl
  | succ j ih => rw [chain, sizeN, sizesN, sizesN, ih]; omega
theorem chain_small (j : Nat) : Small (chain j) := by
  induction j with
  | zero => simp [chain, Small, Smalls]; decide
  | succ j ih => simp [chain, Small, Smalls, ih]; decide
theorem takes_out : takes ⟨#[111, 117, 116]⟩ = 1 := by kernel_rfl
theorem chain_right (j : Nat) : ∀ d, rightB (chain j) d = decide (j + d ≤ 60) := by
  induction j with
  | zero =>
    intro d
    rw [rightB_is]
    by_cases h : d ≤ 60
    · rw [decide_eq_true (by omega)]; simp [chain, Nd.kind, Nd.n, Nd.text, Nd.names, Nd.kids, headB, shapeOf, textB, unlike, unl, kidsB, h]
    · rw [decide_eq_false (by omega)]; simp [chain, Nd.kind, Nd.n, Nd.text, Nd.names, Nd.kids, headB, shapeOf, textB, unlike, unl, kidsB, h]
  | succ j ih =>
    intro d
    have hk := chain_lt j
    rw [rightB_is]
    by_cases h : d ≤ 60
    · have : decide (j + 1 + d ≤ 60) = decide (j + (d + 1) ≤ 60) := by congr 1; apply propext; omega
      rw [this, ← ih (d + 1)]
      simp [chain, Nd.kind, Nd.n, Nd.text, Nd.names, Nd.kids, headB, shapeOf, textB, unlike, unl, kidsB, h, takes_out]
      exact fun _ => decide_eq_true hk
    · rw [decide_eq_false (by omega)]; simp [chain, Nd.kind, Nd.n, Nd.text, Nd.names, Nd.kids, headB, shapeOf, textB, unlike, unl, kidsB, h]
theorem chain_may (j : Nat) (h : j < 200) : mayB (chain j) = decide (j < 60) := by
  unfold mayB
  rw [chain_right, chain_size, decide_eq_true (chain_lt j), Bool.true_and, decide_eq_true (show j + 1 ≤ 4000 by omega), Bool.and_true]
  rfl
/-- They lie in blocks of their own. -/
def ChIn (w : World) (v : Nat) : Nat → Value → Prop
  | 0, kv => kv = .slice none 0 0
  | j + 1, kv => ∃ b kv', b ≠ v ∧ kv = .slice (some ⟨b, 0, none⟩) 1 1 ∧ w.heap[b]? = some (.cells #[.int .u8 (chK j), .int .i64 0, .string (chT j), .slice none 0 0, kv'] 25) ∧ ChIn w v j kv'
theorem ChIn.kept {w w' : World} {v : Nat} (hc : Chg (fun j => j = v) w w') : ∀ (j : Nat) (kv : Value), ChIn w v j kv → ChIn w' v j kv := by
  intro j
  induction j with
  | zero => intro kv h; exact h
  | succ j ih =>
    rintro kv ⟨b, kv', h1, h2, h3, h4⟩
    exact ⟨b, kv', h1, h2, hc.blk h3 h1, ih kv' h4⟩
theorem ChIn.node {w : World} {v : Nat} : ∀ (j : Nat) (kv : Value), ChIn w v j kv → NdIn w (.slice none 0 0) kv (chain j) := by
  intro j
  induction j with
  | zero => rintro kv rfl; exact leaf_in w 4 0 _ (by decide) (by decide)
  | succ j ih =>
    rintro kv ⟨b, kv', h1, rfl, h3, h4⟩
    rw [← chain_k] at h3
    exact node_in w 11 0 _ _ b 1 rfl (by decide) (by decide) (by decide) (kids_one h3 rfl (chain_n j) (chain_t j) (ih kv' h4))
theorem ChIn.form {w : World} {v j : Nat} {kv : Value} (h : ChIn w v j kv) : ∃ ak m, kv = .slice ak m m := by
  cases j with
  | zero => exact ⟨_, _, h⟩
  | succ j => obtain ⟨b, kv', _, h2, _⟩ := h; exact ⟨_, _, h2⟩
/-- One more round it. -/
theorem ch_next {wr w' : World} {v j : Nat} {kv : Value} (h : ChIn wr v j kv) (hb : w'.heap[wr.heap.size]? = some (.cells #[.int .u8 (chK j), .int .i64 0, .string (chT j), .slice none 0 0, kv] 25)) (hc : Chg (fun j => j = v) wr w') (hv : v < wr.heap.size) : ChIn w' v (j + 1) (.slice (some ⟨wr.heap.size, 0, none⟩) 1 1) :=
  ⟨_, kv, by omega, rfl, hb, h.kept hc⟩
/-- Storing a node over a node. -/
def put5 (w : World) (v : Nat) (a0 a1 a2 a3 a4 : Value) : World := ((((w.setCell ⟨v, 0, none⟩ a0).setCell ⟨v, 1, none⟩ a1).setCell ⟨v, 2, none⟩ a2).setCell ⟨v, 3, none⟩ a3).setCell ⟨v, 4, none⟩ a4
theorem put5_blk {w : World} {v : Nat} {c0 c1 c2 c3 c4 : Value} {t : TypeId} {fr : Nat × Nat} (h : w.heap[v]? = some (.cells #[c0, c1, c2, c3, c4] t fr)) (a0 a1 a2 a3 a4 : Value) : (put5 w v a0 a1 a2 a3 a4).heap[v]? = some (.cells #[a0, a1, a2, a3, a4] t fr) := by
  have := blk_set (blk_set (blk_set (blk_set (blk_set h 0 a0) 1 a1) 2 a2) 3 a3) 4 a4
  simpa [put5] using this
theorem put5_chg (w : World) (v : Nat) (a0 a1 a2 a3 a4 : Value) : Chg (fun j => j = v) w (put5 w v a0 a1 a2 a3 a4) :=
  ((((((Chg.refl (fun j => j = v) w).set (p := ⟨v, 0, none⟩) (fun _ => rfl) a0).set (p := ⟨v, 1, none⟩) (fun _ => rfl) a1).set (p := ⟨v, 2, none⟩) (fun _ => rfl) a2).set (p := ⟨v, 3, none⟩) (fun _ => rfl) a3).set (p := ⟨v, 4, none⟩) (fun _ => rfl) a4)
set_option maxRecDepth 100000 in
set_option maxHeartbeats 1000000 in
theorem treeDeep_calls (n : Nat) (w : World) (hn : n < 256) (hg : Gm w) : Calls Tryz.prog 9 #[.int .u8 n] w fun e w' => e = .returned (.bool true) ∧ Chg (fun _ => False) w w' := by
  have HA := Lib.hid (fun W (hW : Chg (fun _ => False) w W) => awake_calls W (hg.later hW))
  have HG := Lib.hid hg
  obtain ⟨k, hk⟩ : ∃ k, k = n % 200 := ⟨_, rfl⟩
  have hkl : k < 200 := by omega
  have q1 : (n : Int).tmod 200 = (k : Int) := by rw [Int.tmod_eq_emod_of_nonneg (by omega)]; omega
  have q0 : IntKind.i64.wrap (n : Int) = (n : Int) := by simp [IntKind.wrap, IntKind.signed, IntKind.bits]; omega
  clear hg hk
  obtain ⟨w1, hw1⟩ : ∃ w1, w.alloc (.cells #[.int .u8 4, .int .i64 0, .string ⟨#[]⟩, .slice none 0 0, .slice none 0 0] 25) = w1 := ⟨_, rfl⟩
  have hC1 : Chg (fun _ => False) w w1 := by rw [← hw1]; exact (Chg.refl _ w).alloc _
  have hb1 : w1.heap[w.heap.size]? = some (.cells #[.int .u8 (chK 0), .int .i64 0, .string (chT 0), .slice none 0 0, .slice none 0 0] 25) := by rw [← hw1]; exact blk_new w _
  have HC1 := Lib.hid hC1
  have HB1 := Lib.hid hb1
  clear hC1 hb1
  subst hw1
  go_enter Tryz.func9, Tryz.ntmps9
  go_wp2_with fail
  go_loopg [5] (k + 1) (fun g vi wr => ∃ (j : Nat), vi = .int .i64 j ∧ j ≤ k ∧ k < g + j ∧ Hid (∃ kv, wr.heap[w.heap.size]? = some (.cells #[.int .u8 (chK j), .int .i64 0, .string (chT j), .slice none 0 0, kv] 25) ∧ ChIn wr w.heap.size j kv) ∧ Hid (Chg (fun _ => False) w wr))
  case atStart => exact ⟨0, rfl, by omega, by omega, Lib.hid ⟨_, HB1.out, rfl⟩, HC1⟩
  case round =>
    obtain ⟨j, rfl, hj, hg, hI, hC⟩ := hrel
    obtain ⟨kv, hb, hch⟩ := hI.out
    obtain ⟨ak, m, rfl⟩ := hch.form
    have HCH := Lib.hid hch
    have HB := Lib.hid hb
    obtain ⟨z, hz⟩ : ∃ z, chK j = z := ⟨_, rfl⟩
    obtain ⟨tx, htx⟩ : ∃ tx, chT j = tx := ⟨_, rfl⟩
    rw [hz, htx] at hb
    by_cases hlt : j < k
    · obtain ⟨gk', rfl⟩ : ∃ q, gk = q + 1 := ⟨gk - 1, by omega⟩
      have i1 : (j : Int) < (k : Int) := by omega
      obtain ⟨w2, hw2⟩ : ∃ w2, wr.alloc (.cells #[.int .u8 z, .int .i64 0, .string tx, .slice none 0 0, .slice ak m m] 25) = w2 := ⟨_, rfl⟩
      have hC2 : Chg (fun _ => False) wr w2 := by rw [← hw2]; exact (Chg.refl _ wr).alloc _
      have hb2 := hC2.blk hb (fun e => e)
      have hn2 : w2.heap[wr.heap.size]? = some (.cells #[.int .u8 z, .int .i64 0, .string tx, .slice none 0 0, .slice ak m m] 25) := by rw [← hw2]; exact blk_new wr _
      have hv : w.heap.size < wr.heap.size := lt_of_block hb
      have HREL : Hid (∃ kv, (put5 w2 w.heap.size (.int .u8 11) (.int .i64 0) (.string ⟨#[111, 117, 116]⟩) (.slice none 0 0) (.slice (some ⟨wr.heap.size, 0, none⟩) 1 1)).heap[w.heap.size]? = some (.cells #[.int .u8 (chK (j + 1)), .int .i64 0, .string (chT (j + 1)), .slice none 0 0, kv] 25) ∧ ChIn (put5 w2 w.heap.size (.int .u8 11) (.int .i64 0) (.string ⟨#[111, 117, 116]⟩) (.slice none 0 0) (.slice (some ⟨wr.heap.size, 0, none⟩) 1 1)) w.heap.size (j + 1) kv) := Lib.hid (by
        refine ⟨_, put5_blk hb2 _ _ _ _ _, ch_next HCH.out ?_ ((hC2.mono (fun _ _ e => e.elim)).trans (put5_chg _ _ _ _ _ _ _)) hv⟩
        rw [hz, htx]
        exact (put5_chg w2 w.heap.size _ _ _ _ _).blk hn2 (by omega))
      have HCC : Hid (Chg (fun _ => False) w (put5 w2 w.heap.size (.int .u8 11) (.int .i64 0) (.string ⟨#[111, 117, 116]⟩) (.slice none 0 0) (.slice (some ⟨wr.heap.size, 0, none⟩) 1 1))) := Lib.hid ((hC.out.trans hC2).andThen (put5_chg _ _ _ _ _ _ _) (fun j hj e => by omega))
      unfold put5 at HREL HCC
      have a0 := cell_of hb 0
      have a1 := cell_of hb 1
      have a2 := cell_of hb 2
      have a3 := cell_of hb 3
      have a4 := cell_of hb 4
      have c0 := cell_of hb2 0
      have c1 := cell_of hb2 1
      have c2 := cell_of hb2 2
      have c3 := cell_of hb2 3
      have c4 := cell_of hb2 4
      have f0 := free_of hb2 0
      have f1 := free_of hb2 1
      have f2 := free_of hb2 2
      have f3 := free_of hb2 3
      have f4 := free_of hb2 4
      clear hz htx hb hch hI hC2 hb2 hn2 hC HB HCH
      go_wp2_with fail
      go_roundg gk'
      case measure => omega
      case rel => exact ⟨j + 1, by go_num, by omega, by omega, HREL, HCC⟩
    · obtain rfl : j = k := by omega
      have hkk : ¬ (j : Int) < (j : Int) := by omega
      have hin : NdIn wr (.slice none 0 0) (.slice ak m m) (chain j) := hch.node
      have HM := Lib.hid (fun W (hW : Chg (fun _ => False) wr W) => may_calls (chain j) _ _ W (hin.kept hW) (HG.out.later (hC.out.trans hW)) (chain_small j))
      have HSZ := Lib.hid (fun W (hW : Chg (fun _ => False) wr W) => tsize_calls (chain j) _ _ W (hin.kept hW) (by rw [chain_size]; omega))
      rw [chain_may j hkl] at HM
      rw [chain_size] at HSZ
      unfold ndV at HM HSZ
      rw [chain_k, chain_t, chain_n, hz, htx] at HM HSZ
      have hd1 : ((j + 1 : Nat) : Int) = (j : Int) + 1 := by push_cast; rfl
      rw [hd1] at HSZ
      obtain ⟨mb, hmb⟩ : ∃ mb, decide (j < 60) = mb := ⟨_, rfl⟩
      have hmb2 : decide ((j : Int) < 60) = mb := by rw [← hmb]; congr 1; apply propext; omega
      rw [hmb] at HM
      have HB2 : Hid (wr.heap[w.heap.size]? = some (.cells #[.int .u8 z, .int .i64 0, .string tx, .slice none 0 0, .slice ak m m] 25)) := Lib.hid hb
      have a0 := cell_of hb 0
      have a1 := cell_of hb 1
      have a2 := cell_of hb 2
      have a3 := cell_of hb 3
      have a4 := cell_of hb 4
      clear hz htx hb hch hI HB HCH hin hd1 hmb
      go_wp2_with fail
      refine (HM.out _ (Chg.refl _ _)).mono ?_
      rintro e w2 ⟨rfl, hC2⟩
      have hb2 := hC2.blk HB2.out (fun e => e)
      have HC2 := Lib.hid hC2
      clear a0 a1 a2 a3 a4 hC2 HM
      have a0 := cell_of hb2 0
      have a1 := cell_of hb2 1
      have a2 := cell_of hb2 2
      have a3 := cell_of hb2 3
      have a4 := cell_of hb2 4
      clear hb2
      go_wp2_with fail
      refine (HSZ.out _ HC2.out).mono ?_
      rintro e w3 ⟨rfl, hC3⟩
      have HC3 := Lib.hid ((hC.out.trans HC2.out).trans hC3)
      clear hC3 HC2 HSZ a0 a1 a2 a3 a4
      go_wp2_with fail
      refine (HA.out _ HC3.out).mono ?_
      rintro e w4 ⟨rfl, hC4⟩
      have HC4 := Lib.hid (HC3.out.trans hC4)
      clear hC4 HA
      go_wp2_with fail
      go_ret
      exact ⟨rfl, HC4.out⟩
end Go.Proofs.YtaklmocjaokkpaaGreatDoor.Tr
