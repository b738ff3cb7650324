/- The statement LexPlaces, walked: true. Condition: the two errors of strconv hold interface values. -/
import Derived.Test.YtkidnmjaioejaabDoorLexLaw1
import Derived.Test.YtkidnmjaioejaabDoorLexPlacesPlain
namespace Go.Proofs.YtkidnmjaioejaabDoor.Lx
set_option linter.unusedVariables false
set_option linter.unusedSimpArgs false
open Go.RowKit Go.Proofs.YtkidnmjaioejaabDoor.Mem

theorem toks_no {s : List UInt8} : ∀ {k p : Nat} {l : List Tok} {x n : Nat}, toks s k p l = .error (x, n) → ((n : Int) == 0) = false := by
  intro k
  induction k with
  | zero => intro p l x n h; cases h
  | succ k ih =>
    intro p l x n h
    by_cases hlt : p < s.length
    · rcases hn : nextR s p with ⟨a, b⟩ | ⟨t, q⟩
      · rw [toks_err hlt hn] at h; cases h; exact next_err hn
      · rw [toks_step hlt hn] at h; exact ih h
    · rw [toks_end hlt] at h; cases h
theorem tokens_no {s : List UInt8} {x n : Nat} (h : tokens s = .error (x, n)) : ((n : Int) == 0) = false := by
  unfold tokens at h
  split at h
  · cases h; rfl
  · exact toks_no h
theorem at_is {s : ByteArray} {p : Nat} {c : UInt8} (h : p < s.size) (hc : s.data.toList[p]? = some c) : s[p] = c := by
  rw [at_get s p h] at hc; exact Option.some.inj hc

set_option maxRecDepth 100000 in
set_option maxHeartbeats 4000000 in
theorem lexPlaces_calls (s : ByteArray) (w : World) (hg : Glob w) : Calls Tryd.prog 6 #[.string s] w fun e w' => e = .returned (.bool true) ∧ Below w.heap.size w w' := by
  by_cases hlong : 20000 < s.size
  · have H := Lib.hid (awake_calls w hg)
    clear hg
    go_enter Tryd.func6, Tryd.ntmps6
    go_wp2_with fail
    refine H.out.mono ?_
    rintro e w1 ⟨rfl, hb⟩
    have HB := Lib.hid hb
    clear hb H
    go_wp2_with fail
    go_ret
    exact ⟨rfl, HB.out⟩
  · rcases ht : tokens s.data.toList with ⟨p, n⟩ | l
    · have H1 := Lib.hid (tokens_err s w hg p n ht)
      have hn : ((n : Int) == 0) = false := tokens_no ht
      have HG := Lib.hid hg
      clear hg ht
      go_enter Tryd.func6, Tryd.ntmps6
      go_wp2_with fail
      refine H1.out.mono ?_
      rintro e w1 ⟨rfl, hb1⟩
      have HB1 := Lib.hid hb1
      clear hb1
      go_wp2_with fail
      refine (awake_calls _ (by exact HG.out.later HB1.out)).mono ?_
      rintro e w4 ⟨rfl, hb4⟩
      have HB4 : Hid (Below w.heap.size w w4) := HB1.out.trans (hb4.mono HB1.out.size)
      clear hb4
      go_wp2_with fail
      go_ret
      exact ⟨rfl, HB4.out⟩
    · have H1 : Hid (Calls Tryd.prog 10 #[.string s] w fun e w' => (∃ v, e = .returned (.tuple #[v, .int .i64 0, .int .i64 0]) ∧ w'.ownsRow w.heap.size 33 4 v l.length (l.flatMap tokCells) ∧ l.length ≤ s.size) ∧ Below w.heap.size w w') := by
        have := tokens_calls s w hg; rw [ht] at this; exact this
      have HR := Lib.hid (tokens_good ht)
      have hsz := tokens_len s l ht
      have HG := Lib.hid hg
      clear hg ht
      go_enter Tryd.func6, Tryd.ntmps6
      go_wp2_with fail
      refine H1.out.mono ?_
      rintro e w1 ⟨⟨v1, rfl, ho1, hls⟩, hb1⟩
      have HB1 := Lib.hid hb1
      clear hb1
      have HC : Hid (∃ g1 cap, v1 = .slice g1 l.length cap ∧ ∀ k, k < l.length → ∃ g, g1 = some ⟨g, 0, none⟩ ∧ g < w1.heap.size ∧ ∀ i, i < 4 → w1.cell? ⟨g, k * 4 + i, none⟩ = (tokCells (l.getD k ⟨0, [], 0, 0⟩))[i]?) := by
        rcases Nat.eq_zero_or_pos l.length with h0 | h0
        · rw [h0] at ho1 ⊢
          obtain ⟨a, c, rfl⟩ := zero_form ho1
          exact ⟨a, c, rfl, fun k hk => by omega⟩
        · obtain ⟨g, cap, rfl, _, _⟩ := ho1.form h0
          refine ⟨_, _, rfl, fun k hk => ⟨g, rfl, World.block_lt_of_cell? w1 ⟨g, k * 4, none⟩ (row_cell ho1 rfl k 0 hk (by decide)), fun i hi => ?_⟩⟩
          rw [row_cell ho1 rfl k i hk hi]; simp [hk]
      obtain ⟨g1, cap, rfl, hcell⟩ := HC.out
      have HCell := Lib.hid hcell
      clear hcell HC ho1
      have hlen : Hid (∀ k, k < l.length → ∀ x : Int, (∀ j, j < k → (l.getD j ⟨0, [], 0, 0⟩).at_ ≤ x) → True) := fun _ _ _ _ => trivial
      obtain ⟨n, hn⟩ : ∃ n, l.length = n := ⟨_, rfl⟩
      have HN := Lib.hid hn
      rw [hn] at HCell
      simp only [hn]
      rw [hn] at hls
      clear hn hlen
      go_wp2_with fail
      go_loopg [6, 7] (n + 1) (fun g vl vi wr => ∃ (k : Nat) (x : Int), vl = .int .i64 x ∧ vi = .int .i64 k ∧ k ≤ n ∧ n < g + k ∧ Hid (∀ j, k ≤ j → j < n → x < (l.getD j ⟨0, [], 0, 0⟩).at_) ∧ Hid (Below w1.heap.size w1 wr))
      case atStart => exact ⟨0, -1, rfl, rfl, by omega, by omega, fun j _ _ => by omega, Below.refl _ _⟩
      case round =>
        obtain ⟨k, x, rfl, rfl, hk, hgk, hx, hC⟩ := hrel
        by_cases hlt : k < n
        · obtain ⟨g, rfl⟩ : ∃ m, gk = m + 1 := ⟨gk - 1, by omega⟩
          obtain ⟨gb, rfl, hgl, hcs⟩ := HCell.out k hlt
          have hcell : ∀ i, i < 4 → wr.cell? ⟨gb, k * 4 + i, none⟩ = (tokCells (l.getD k ⟨0, [], 0, 0⟩))[i]? := fun i hi => (hC.out.cell (p := ⟨gb, k * 4 + i, none⟩) hgl).trans (hcs i hi)
          have a0 : wr.cell? ⟨gb, k * 4, none⟩ = _ := hcell 0 (by omega)
          have a1 := hcell 1 (by omega)
          have a2 := hcell 2 (by omega)
          have a3 := hcell 3 (by omega)
          have hxk := hx.out k (Nat.le_refl _) hlt
          have hmem : l.getD k ⟨0, [], 0, 0⟩ ∈ l := by
            have : k < l.length := by rw [HN.out]; exact hlt
            simp [this]
          have hat := (HR.out.2 _ hmem).1
          have hgood := (HR.out.2 _ hmem).2
          have hnx : Hid (∀ j, k + 1 ≤ j → j < n → ((l.getD k ⟨0, [], 0, 0⟩).at_ : Int) < (l.getD j ⟨0, [], 0, 0⟩).at_) := fun j h1 h2 => by
            have l1 : k < l.length := by rw [HN.out]; exact hlt
            have l2 : j < l.length := by rw [HN.out]; exact h2
            have := List.pairwise_iff_getElem.1 HR.out.1 k j l1 l2 (by omega)
            simp only [List.getD_eq_getElem?_getD, List.getElem?_eq_getElem l1, List.getElem?_eq_getElem l2, Option.getD_some]
            exact_mod_cast this
          clear hmem hcs hcell
          rw [len_is] at hat
          generalize l.getD k ⟨0, [], 0, 0⟩ = t at *
          obtain ⟨kd, ss, nn, p⟩ := t
          simp only [tokCells, List.getElem?_cons_zero, List.getElem?_cons_succ] at a0 a1 a2 a3
          have i0 : (0 : Int) ≤ (k : Int) := by omega
          have i1 : (k : Int) < (n : Int) := by omega
          have p0 : (0 : Int) ≤ (p : Int) := by omega
          have p1 : (p : Int) < (s.size : Int) := by exact_mod_cast hat
          have hx1 : x < (p : Int) := hxk
          have HX := hnx
          clear hxk hnx hx
          have hc0 := at_get s p hat
          obtain ⟨c, hc⟩ : ∃ c, s[p] = c := ⟨_, rfl⟩
          rw [hc] at hc0
          rcases hgood with ⟨rfl, hk1⟩ | ⟨rfl, hk1⟩ | ⟨rfl, hk1⟩ | rfl | ⟨rfl, hk1, hk2⟩
          · have hc40 : c = 40 := by
              have : s.data.toList[p]? = some 40 := hk1
              rw [hc0] at this; exact Option.some.inj this
            subst hc40
            have u1 : (40 : UInt8).toNat = 40 := rfl
            clear hk1 hc0
            go_wp2_with fail
            go_quiet (fail)
            go_wp2_with fail
            go_roundg g
            case measure => omega
            case rel => exact ⟨k + 1, p, rfl, by go_num, by omega, by omega, HX, below_drewN (hC.out.alloc hC.out.size _) _⟩
          · have hc40 : c = 41 := by
              have : s.data.toList[p]? = some 41 := hk1
              rw [hc0] at this; exact Option.some.inj this
            subst hc40
            have u1 : (41 : UInt8).toNat = 41 := rfl
            clear hk1 hc0
            go_wp2_with fail
            go_quiet (fail)
            go_wp2_with fail
            go_roundg g
            case measure => omega
            case rel => exact ⟨k + 1, p, rfl, by go_num, by omega, by omega, HX, below_drewN (hC.out.alloc hC.out.size _) _⟩
          · have hc40 : c = 34 := by
              have : s.data.toList[p]? = some 34 := hk1
              rw [hc0] at this; exact Option.some.inj this
            subst hc40
            have u1 : (34 : UInt8).toNat = 34 := rfl
            clear hk1 hc0
            go_wp2_with fail
            go_quiet (fail)
            go_wp2_with fail
            go_roundg g
            case measure => omega
            case rel => exact ⟨k + 1, p, rfl, by go_num, by omega, by omega, HX, below_drewN (hC.out.alloc hC.out.size _) _⟩
          · clear hc0
            go_wp2_with fail
            go_quiet (fail)
            go_wp2_with fail
            go_roundg g
            case measure => omega
            case rel => exact ⟨k + 1, p, rfl, by go_num, by omega, by omega, HX, below_drewN (hC.out.alloc hC.out.size _) _⟩
          · have hs3 : ∀ w, (Instr.slice 9 (.string s) (some (.int .i64 (p : Int))) (some (.int .i64 ((p : Int) + (ss.length : Int)))) none).run Tryd.prog w = .ok (.string ⟨ss.toArray⟩) w := fun w => by
              have hk1' : p + ss.length ≤ s.size := by rw [← len_is]; exact hk1
              have e : s.extract p (p + ss.length) = ⟨ss.toArray⟩ := by
                rw [← of_list (s.extract p (p + ss.length)), extract_list, show p + ss.length - p = ss.length by omega]
                have : (s.data.toList.drop p).take ss.length = ss := hk2
                rw [this]
              rw [← e]
              exact slice_run 9 Tryd.underlying9 s p (p + ss.length) (by omega) hk1' w _ _ rfl (by push_cast; rfl)
            have hk3 : p + ss.length ≤ 20000 := by
              have : p + ss.length ≤ s.data.toList.length := hk1
              rw [len_is] at this; omega
            clear hk1 hk2 hc0
            go_wp2_with fail
            go_quiet (fail)
            go_wp2_with fail
            go_roundg g
            case measure => omega
            case rel => exact ⟨k + 1, p, rfl, by go_num, by omega, by omega, HX, below_drewN (hC.out.alloc hC.out.size _) _⟩
        · have h2 : ¬ (k : Int) < (n : Int) := by omega
          go_wp2_with fail
          refine (awake_calls _ (by exact HG.out.later (HB1.out.trans (hC.out.mono HB1.out.size)))).mono ?_
          rintro e w4 ⟨rfl, hb4⟩
          have HB4 : Hid (Below w.heap.size w w4) := (HB1.out.trans (hC.out.mono HB1.out.size)).trans (hb4.mono (HB1.out.trans (hC.out.mono HB1.out.size)).size)
          clear hb4
          go_wp2_with fail
          go_ret
          exact ⟨rfl, HB4.out⟩
end Go.Proofs.YtkidnmjaioejaabDoor.Lx
