/- The functions that look at a kind's text, walked. Condition: the text has at most 2^20 bytes; the machine's first variable is a number, the two errors of strconv hold interface values. -/
import Derived.Test.YtaklmocjaokkpaaGreatDoorTreeTakes
namespace Go.Proofs.YtaklmocjaokkpaaGreatDoor.Tr
set_option linter.unusedVariables false
set_option linter.unusedSimpArgs false
open Go.RowKit Go.Shelf Go.Proofs.YtaklmocjaokkpaaGreatDoor.Mem

/-- What the variables of the library must hold. -/
def Gm (w : World) : Prop := Lx.Glob w ∧ ∃ m, w.cell? ⟨0, 0, none⟩ = some (.int .i64 m)
theorem Gm.later {w w' : World} (h : Gm w) (hc : Chg (fun _ => False) w w') : Gm w' :=
  ⟨glob_later h.1 hc, h.2.imp fun m hm => hc.cell hm (fun e => e)⟩
set_option maxRecDepth 100000 in
set_option maxHeartbeats 4000000 in
theorem blank_calls (k : Nat) (n : Int) (t : ByteArray) (an ak : Option Addr) (ln cn lk ck : Nat) (w : World) :
    Calls Tryz.prog fBlank #[.agg #[.int .u8 k, .int .i64 n, .string t, .slice an ln cn, .slice ak lk ck]] w fun e w' => e = .returned (.bool (decide (t = ⟨#[]⟩))) ∧ Chg (fun _ => False) w w' := by
  go_enter Tryz.func84, Tryz.ntmps84
  by_cases he : t = ⟨#[]⟩
  · subst he
    go_wp2_with fail
    go_ret
    exact ⟨rfl, (Chg.refl _ w).alloc _⟩
  · have h1b : t.toList.isEmpty = false := by
      rw [ByteArray.toList_eq]
      have hdl : t.data.toList ≠ [] := fun e => he (by cases t with | mk a => congr 1; simpa using e)
      simpa using hdl
    rw [decide_eq_false he]
    go_wp2_with fail
    go_ret
    exact ⟨rfl, (Chg.refl _ w).alloc _⟩
set_option maxRecDepth 100000 in
set_option maxHeartbeats 4000000 in
theorem bool_calls (k : Nat) (n : Int) (t : ByteArray) (an ak : Option Addr) (ln cn lk ck : Nat) (w : World) :
    Calls Tryz.prog fBool #[.agg #[.int .u8 k, .int .i64 n, .string t, .slice an ln cn, .slice ak lk ck]] w fun e w' => e = .returned (.bool (decide (t = ⟨#[]⟩) && (decide (n = 0) || decide (n = 1)))) ∧ Chg (fun _ => False) w w' := by
  go_enter Tryz.func85, Tryz.ntmps85
  by_cases he : t = ⟨#[]⟩
  · subst he
    by_cases h0 : n = 0
    · subst h0
      go_wp2_with fail
      go_ret
      exact ⟨rfl, (Chg.refl _ w).alloc _⟩
    · by_cases h1 : n = 1
      · subst h1
        go_wp2_with fail
        go_ret
        exact ⟨rfl, (Chg.refl _ w).alloc _⟩
      · rw [decide_eq_false h0, decide_eq_false h1]
        have b0 : (n == 0) = false := beq_eq_false_iff_ne.2 h0
        have b1 : (n == 1) = false := beq_eq_false_iff_ne.2 h1
        go_wp2_with fail
        go_ret
        exact ⟨rfl, (Chg.refl _ w).alloc _⟩
  · have h1b : t.toList.isEmpty = false := by
      rw [ByteArray.toList_eq]
      have hdl : t.data.toList ≠ [] := fun e => he (by cases t with | mk a => congr 1; simpa using e)
      simpa using hdl
    rw [decide_eq_false he]
    go_wp2_with fail
    go_ret
    exact ⟨rfl, (Chg.refl _ w).alloc _⟩
set_option maxRecDepth 100000 in
set_option maxHeartbeats 4000000 in
theorem str_calls (k : Nat) (n : Int) (t : ByteArray) (an ak : Option Addr) (ln cn lk ck : Nat) (w : World) (hs : t.size ≤ 1048576) :
    Calls Tryz.prog fStr #[.agg #[.int .u8 k, .int .i64 n, .string t, .slice an ln cn, .slice ak lk ck]] w fun e w' => e = .returned (.bool (decide (t.size ≤ 65536))) ∧ Chg (fun _ => False) w w' := by
  go_enter Tryz.func86, Tryz.ntmps86
  by_cases he : t.size ≤ 65536
  · rw [decide_eq_true he]
    have h2 : (t.size : Int) ≤ 65536 := by omega
    go_wp2_with fail
    go_ret
    exact ⟨rfl, (Chg.refl _ w).alloc _⟩
  · rw [decide_eq_false he]
    have h2 : ¬ (t.size : Int) ≤ 65536 := by omega
    go_wp2_with fail
    go_ret
    exact ⟨rfl, (Chg.refl _ w).alloc _⟩
set_option maxRecDepth 100000 in
set_option maxHeartbeats 4000000 in
theorem named_calls (k : Nat) (n : Int) (t : ByteArray) (an ak : Option Addr) (ln cn lk ck : Nat) (w : World) (hg : Gm w) :
    Calls Tryz.prog fNamed #[.agg #[.int .u8 k, .int .i64 n, .string t, .slice an ln cn, .slice ak lk ck]] w fun e w' => e = .returned (.bool (nameB t)) ∧ Chg (fun _ => False) w w' := by
  have HN := Lib.hid (fun W (hW : Chg (fun _ => False) w W) => tname_calls t W (glob_later hg.1 hW))
  clear hg
  go_enter Tryz.func87, Tryz.ntmps87
  go_wp2_with fail
  refine (HN.out _ ((Chg.refl _ w).alloc _)).mono ?_
  rintro e w1 ⟨rfl, hC1⟩
  have HC1 : Hid (Chg (fun _ => False) w w1) := Lib.hid (((Chg.refl _ w).alloc _).trans hC1)
  clear hC1 HN
  go_wp2_with fail
  go_ret
  exact ⟨rfl, HC1.out⟩
set_option maxRecDepth 100000 in
set_option maxHeartbeats 4000000 in
theorem prim_calls (k : Nat) (n : Int) (t : ByteArray) (an ak : Option Addr) (ln cn lk ck : Nat) (w : World) (hg : Gm w) (hs : t.size ≤ 1048576) (hl : lk ≤ 9223372036854775807) :
    Calls Tryz.prog fPrim #[.agg #[.int .u8 k, .int .i64 n, .string t, .slice an ln cn, .slice ak lk ck]] w fun e w' => e = .returned (.bool (decide (takes t = (lk : Int)))) ∧ Chg (fun _ => False) w w' := by
  obtain ⟨m, hm⟩ := hg.2
  have HT := Lib.hid (fun W (hW : Chg (fun _ => False) w W) => ttakes_calls t m W hs (hW.cell hm (fun e => e)))
  clear hg hm
  obtain ⟨z, hz⟩ : ∃ z, takes t = z := ⟨_, rfl⟩
  rw [hz] at HT ⊢
  clear hz
  go_enter Tryz.func88, Tryz.ntmps88
  go_wp2_with fail
  go_region_with (go_at_call 24; refine (HT.out _ ((Chg.refl _ w).alloc _).drew).mono ?_; rintro e w1 ⟨rfl, hC1⟩; have k4 : w1.cell? ⟨w.heap.size, 4, none⟩ = some (.slice ak lk ck) := hC1.cell (cell_of (blk_new w _) 4) (fun e => e); have HC1 : Hid (Chg (fun _ => False) w w1) := Lib.hid (((Chg.refl _ w).alloc _).drew.trans hC1))
  all_goals
    clear hC1
    go_wp2_with fail
    go_ret
    exact ⟨rfl, HC1.out⟩
/-- All of them: what a kind's function says of a node is what the document says of its text. -/
theorem texts_calls (x : Nd) (nv kv : Value) (w : World) (h : NdIn w nv kv x) (hg : Gm w) (hs : x.text.size ≤ 1048576) :
    Calls Tryz.prog (textF x.kind) #[ndV x nv kv] w fun e w' => e = .returned (.bool (textB x.kind x.n x.text x.kids.length)) ∧ Chg (fun _ => False) w w' := by
  obtain ⟨an, cn, ak, ck, rfl, rfl, h1, h2, h3, h4, h5⟩ := h.forms
  have hl : x.kids.length ≤ 9223372036854775807 := by unfold maxLen at h4; omega
  unfold ndV textF textB
  by_cases e2 : x.kind = 2
  · rw [if_pos e2, if_pos e2]; exact bool_calls _ _ _ _ _ _ _ _ _ w
  rw [if_neg e2, if_neg e2]
  by_cases e3 : x.kind = 3
  · rw [if_pos e3, if_pos e3]; exact str_calls _ _ _ _ _ _ _ _ _ w hs
  rw [if_neg e3, if_neg e3]
  by_cases e5 : x.kind = 5 ∨ x.kind = 6 ∨ x.kind = 8 ∨ x.kind = 12 ∨ x.kind = 18
  · rw [if_pos e5, if_pos e5]; exact named_calls _ _ _ _ _ _ _ _ _ w hg
  rw [if_neg e5, if_neg e5]
  by_cases e11 : x.kind = 11
  · rw [if_pos e11, if_pos e11]; exact prim_calls _ _ _ _ _ _ _ _ _ w hg hs hl
  rw [if_neg e11, if_neg e11]
  exact blank_calls _ _ _ _ _ _ _ _ _ w
end Go.Proofs.YtaklmocjaokkpaaGreatDoor.Tr
