/- The statements' example, and the statement LexTokens, walked: true. Condition: the two errors of strconv hold interface values. -/
import Derived.Test.YtkidnmjaioejaabDoorLexSame
namespace Go.Proofs.YtkidnmjaioejaabDoor.Lx
open Go.RowKit Go.Proofs.YtkidnmjaioejaabDoor.Mem

theorem awake_toks : tokens [40, 97, 32, 45, 53, 41] = .ok [⟨1, [], 0, 0⟩, ⟨3, [97], 0, 1⟩, ⟨4, [], -5, 3⟩, ⟨2, [], 0, 5⟩] := by kernel_rfl

theorem tokens_ok (s : ByteArray) (w : World) (hg : Glob w) (l : List Tok) (h : tokens s.data.toList = .ok l) :
    Calls Tryd.prog 10 #[.string s] w fun e w' => (∃ v, e = .returned (.tuple #[v, .int .i64 0, .int .i64 0]) ∧ w'.ownsRow w.heap.size 33 4 v l.length (l.flatMap tokCells)) ∧ Below w.heap.size w w' := by
  have := tokens_calls s w hg
  rw [h] at this
  exact this.mono fun e w' ⟨⟨v, h1, h2, h3⟩, h4⟩ => ⟨⟨v, h1, h2⟩, h4⟩
theorem tokens_err (s : ByteArray) (w : World) (hg : Glob w) (p n : Nat) (h : tokens s.data.toList = .error (p, n)) :
    Calls Tryd.prog 10 #[.string s] w fun e w' => e = .returned (.tuple #[.slice none 0 0, .int .i64 p, .int .i64 n]) ∧ Below w.heap.size w w' := by
  have := tokens_calls s w hg
  rw [h] at this
  exact this
theorem tokens_len (s : ByteArray) (l : List Tok) (h : tokens s.data.toList = .ok l) : s.size ≤ 65536 := by
  unfold tokens at h
  rw [len_is] at h
  split at h
  · cases h
  · omega
theorem Glob.below {B : Nat} {w w' : World} (h : Glob w) (hb : Below B w w') (h1 : 1 < B) (h2 : 2 < B) : Glob w' :=
  ⟨h.1.imp fun _ ⟨p, hp⟩ => ⟨p, (hb.cell (p := ⟨1, 0, none⟩) h1).trans hp⟩, h.2.imp fun _ ⟨p, hp⟩ => ⟨p, (hb.cell (p := ⟨2, 0, none⟩) h2).trans hp⟩⟩
theorem Glob.lt {w : World} (h : Glob w) : 1 < w.heap.size ∧ 2 < w.heap.size := by
  obtain ⟨⟨_, _, h1⟩, ⟨_, _, h2⟩⟩ := h
  exact ⟨World.block_lt_of_cell? w _ h1, World.block_lt_of_cell? w _ h2⟩
theorem Glob.later {w w' : World} (h : Glob w) (hb : Below w.heap.size w w') : Glob w' := h.below hb h.lt.1 h.lt.2

set_option maxRecDepth 100000 in
theorem awake_calls (w : World) (hg : Glob w) : Calls Tryd.prog 9 #[] w fun e w' => e = .returned (.bool true) ∧ Below w.heap.size w w' := by
  have H := Lib.hid (tokens_ok ⟨#[40, 97, 32, 45, 53, 41]⟩ w hg _ awake_toks)
  clear hg
  go_enter Tryd.func9, Tryd.ntmps9
  go_wp2_with fail
  refine H.out.mono ?_
  rintro e w1 ⟨⟨v, rfl, ho⟩, hb⟩
  obtain ⟨g, cap, rfl, _, _⟩ := ho.form (by decide)
  have c8 : w1.cell? ⟨g, 8, none⟩ = some (.int .u8 4) := row_cell ho rfl 2 0 (by decide) (by decide)
  have c10 : w1.cell? ⟨g, 10, none⟩ = some (.int .i64 (-5)) := row_cell ho rfl 2 2 (by decide) (by decide)
  have HB := Lib.hid hb
  clear hb ho H
  go_wp2_with fail
  go_ret
  exact ⟨rfl, HB.out⟩

set_option maxRecDepth 100000 in
set_option maxHeartbeats 2000000 in
theorem lexTokens_calls (s : ByteArray) (w : World) (hg : Glob w) : Calls Tryd.prog 3 #[.string s] w fun e w' => e = .returned (.bool true) ∧ Below w.heap.size w w' := by
  by_cases hlong : 70000 < s.size
  · have H := Lib.hid (awake_calls w hg)
    clear hg
    go_enter Tryd.func3, Tryd.ntmps3
    go_wp2_with fail
    refine H.out.mono ?_
    rintro e w1 ⟨rfl, hb⟩
    have HB := Lib.hid hb
    clear hb H
    go_wp2_with fail
    go_ret
    exact ⟨rfl, HB.out⟩
  · rcases ht : tokens s.data.toList with ⟨p, n⟩ | l
    · have H1 := Lib.hid (tokens_err s w hg p n ht)
      have H2 : Hid (∀ w, Calls Tryd.prog 11 #[.string s] w fun e w' => (∃ v, e = .returned (.tuple #[v, .int .i64 p, .int .i64 n]) ∧ w'.ownsRow w.heap.size 33 4 v 0 []) ∧ Below w.heap.size w w') := fun w => by
        have := rtokens_calls s w; rw [ht] at this; exact this
      have HG := Lib.hid hg
      clear hg ht
      go_enter Tryd.func3, Tryd.ntmps3
      go_wp2_with fail
      refine H1.out.mono ?_
      rintro e w1 ⟨rfl, hb1⟩
      have HB1 := Lib.hid hb1
      clear hb1
      go_wp2_with fail
      refine (H2.out _).mono ?_
      rintro e w2 ⟨⟨v, rfl, ho⟩, hb2⟩
      have HB2 : Hid (Below w.heap.size w w2) := HB1.out.trans (hb2.mono HB1.out.size)
      have HS : Hid (Calls Tryd.prog 12 #[.slice none 0 0, v] w2 fun e w' => e = .returned (.bool true) ∧ ∃ n, w' = w2.drewN n) := same_calls _ _ [] 0 _ w2 (by simp) (World.ownsRow_nil _ _ _ _) ho
      clear hb2 ho
      go_wp2_with fail
      refine HS.out.mono ?_
      rintro e w3 ⟨rfl, m, rfl⟩
      go_wp2_with fail
      refine (awake_calls _ (by exact HG.out.later (below_drewN HB2.out m))).mono ?_
      rintro e w4 ⟨rfl, hb4⟩
      have HB4 : Hid (Below w.heap.size w w4) := (below_drewN HB2.out m).trans (hb4.mono HB2.out.size)
      clear hb4
      go_wp2_with fail
      go_ret
      exact ⟨rfl, HB4.out⟩
    · have H1 := Lib.hid (tokens_ok s w hg l ht)
      have H2 : Hid (∀ w, Calls Tryd.prog 11 #[.string s] w fun e w' => (∃ v, e = .returned (.tuple #[v, .int .i64 0, .int .i64 0]) ∧ w'.ownsRow w.heap.size 33 4 v l.length (l.flatMap tokCells) ∧ l.length ≤ s.size) ∧ Below w.heap.size w w') := fun w => by
        have := rtokens_calls s w; rw [ht] at this; exact this
      have HG := Lib.hid hg
      clear hg ht
      go_enter Tryd.func3, Tryd.ntmps3
      go_wp2_with fail
      refine H1.out.mono ?_
      rintro e w1 ⟨⟨v1, rfl, ho1⟩, hb1⟩
      have HB1 := Lib.hid hb1
      have HO1 := Lib.hid ho1
      clear hb1 ho1
      go_wp2_with fail
      refine (H2.out _).mono ?_
      rintro e w2 ⟨⟨v2, rfl, ho2, hls⟩, hb2⟩
      have HB2 : Hid (Below w.heap.size w w2) := HB1.out.trans (hb2.mono HB1.out.size)
      have HS : Hid (Calls Tryd.prog 12 #[v1, v2] w2 fun e w' => e = .returned (.bool true) ∧ ∃ n, w' = w2.drewN n) :=
        same_calls _ _ l _ _ w2 (by omega) (Chg.owns (F := fun _ => False) ((Chg.refl _ _).callee hb2) HO1.out (fun _ _ h => h)) ho2
      clear hb2 ho2
      go_wp2_with fail
      refine HS.out.mono ?_
      rintro e w3 ⟨rfl, m, rfl⟩
      go_wp2_with fail
      refine (awake_calls _ (by exact HG.out.later (below_drewN HB2.out m))).mono ?_
      rintro e w4 ⟨rfl, hb4⟩
      have HB4 : Hid (Below w.heap.size w w4) := (below_drewN HB2.out m).trans (hb4.mono HB2.out.size)
      clear hb4
      go_wp2_with fail
      go_ret
      exact ⟨rfl, HB4.out⟩
end Go.Proofs.YtkidnmjaioejaabDoor.Lx
