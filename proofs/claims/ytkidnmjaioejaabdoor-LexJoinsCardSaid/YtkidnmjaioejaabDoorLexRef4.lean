/- The reference's word of the lexer, walked. No condition but a source's size. -/
import Derived.Test.YtkidnmjaioejaabDoorLexRef3
namespace Go.Proofs.YtkidnmjaioejaabDoor.Lx
set_option linter.unusedVariables false
set_option linter.unusedSimpArgs false
open Go.RowKit Go.Proofs.YtkidnmjaioejaabDoor.Mem

def refW (s : List UInt8) (p : Nat) : Except (Nat × Nat) (Tok × Nat) :=
  match wordEnd s (s.length + 1) p with
  | .error x => .error x
  | .ok q => match wordTok ((s.drop p).take (q - p)) p with
    | .error x => .error x
    | .ok t => .ok (t, q)
def refWof (s : List UInt8) (p : Nat) : Except (Nat × Nat) Nat → Except (Nat × Nat) (Tok × Nat)
  | .error x => .error x
  | .ok q => match wordTok ((s.drop p).take (q - p)) p with
    | .error x => .error x
    | .ok t => .ok (t, q)
theorem refW_is (s : List UInt8) (p : Nat) : refW s p = refWof s p (wordEnd s (s.length + 1) p) := by
  unfold refW refWof
  cases wordEnd s (s.length + 1) p <;> rfl

set_option maxRecDepth 100000 in
set_option maxHeartbeats 8000000 in
theorem rword_calls (s : ByteArray) (i : Nat) (w : World) (hs : s.size ≤ 65536) (hi : i < s.size) :
    Calls Tryd.prog 21 #[.string s, .int .i64 i] w fun e w' => e = .returned (refV (refW s.data.toList i)) ∧ Below w.heap.size w w' := by
  have HR : Hid (refW s.data.toList i = refWof s.data.toList i (wordEnd s.data.toList (s.size + 1) i)) := by rw [← len_is]; exact refW_is _ _
  obtain ⟨r, hr⟩ : ∃ r, r = wordEnd s.data.toList (s.size + 1) i := ⟨_, rfl⟩
  rw [← hr] at HR
  have HE := Lib.hid hr
  clear hr
  go_enter Tryd.func21, Tryd.ntmps21
  go_wp2_with fail
  have b1 := blk_new w (.cells zeroR 45)
  have b0 : Below w.heap.size w (w.alloc (.cells zeroR 45)) := (Below.refl _ _).alloc (Nat.le_refl _) _
  unfold zeroR at b0 b1
  generalize (w.alloc (.cells #[.int .u8 0, .string ⟨#[]⟩, .int .i64 0, .int .i64 0, .int .i64 0, .int .i64 0] 45)) = W0 at *
  obtain ⟨B, hB⟩ : ∃ B, B = w.heap.size := ⟨_, rfl⟩
  rw [← hB] at b0 b1 ⊢
  have B0 := Lib.hid b0
  have hZ : Hid (W0.heap[B]? = some (.cells zeroR 45 (0, 0))) := b1
  have HW := Lib.hid hB
  clear b0 b1 hB
  have c0 := cell_of hZ.out 0
  have c1 := cell_of hZ.out 1
  have c2 := cell_of hZ.out 2
  have c3 := cell_of hZ.out 3
  have c4 := cell_of hZ.out 4
  have c5 := cell_of hZ.out 5
  have f0 := free_of hZ.out 0
  have f1 := free_of hZ.out 1
  have f2 := free_of hZ.out 2
  have f3 := free_of hZ.out 3
  have f4 := free_of hZ.out 4
  have f5 := free_of hZ.out 5
  simp only [zeroR, List.getElem?_toArray, List.getElem?_cons_zero, List.getElem?_cons_succ] at c0 c1 c2 c3 c4 c5
  go_loopg [5] (s.size + 1) (fun k va wr => ∃ p, W0 = wr ∧ va = .int .i64 ((p : Nat) : Int) ∧ Hid (r = wordEnd s.data.toList k p) ∧ i ≤ p ∧ p ≤ s.size ∧ s.size < k + p)
  case atStart => exact ⟨i, rfl, rfl, HE, by omega, by omega, by omega⟩
  case round =>
    obtain ⟨p, rfl, rfl, hE, hip, hp, hk⟩ := hrel
    by_cases hlt : p < s.size
    · have hat := at_get s p hlt
      obtain ⟨k, rfl⟩ : ∃ m, gk = m + 1 := ⟨gk - 1, by omega⟩
      obtain ⟨c, hc⟩ : ∃ c, s[p] = c := ⟨_, rfl⟩
      rw [hc] at hat
      have i0 : (0 : Int) ≤ (p : Int) := by omega
      have i1 : (p : Int) < (s.size : Int) := by omega
      cases he : ends c with
      | true =>
        have HC : Hid (∀ w, Calls Tryd.prog 23 #[.int .u8 c.toNat] w fun e w' => e = .returned (.bool true) ∧ w' = w) := fun w => by
          have := rends_calls c w; rw [he] at this; exact this
        have HX : Hid (r = .ok p) := by rw [hE.out]; exact wend_ends hat he
        clear hat he
        obtain ⟨wl, hwl⟩ : ∃ wl, (s.data.toList.drop i).take (p - i) = wl := ⟨_, rfl⟩
        have hsr : ∀ w, (Instr.slice 9 (.string s) (some (.int .i64 i)) (some (.int .i64 p)) none).run Tryd.prog w = .ok (.string ⟨wl.toArray⟩) w := fun w => by
          rw [slice_run 9 Tryd.underlying9 s i p (by omega) (by omega) w _ _ rfl rfl, ← hwl, ← extract_list, of_list]
        have hl : wl.length ≤ 65536 := by rw [← hwl, ← extract_list, len_is, ByteArray.size_extract]; omega
        have hl' : (⟨wl.toArray⟩ : ByteArray).size ≤ 65536 := by show wl.toArray.size ≤ _; simpa using hl
        have HN : Hid (∀ w, Calls Tryd.prog 24 #[.string ⟨wl.toArray⟩] w (NumEnds wl w)) := fun w => number_calls ⟨wl.toArray⟩ w hl'
        have HWL := Lib.hid hwl
        clear hwl
        go_wp2_with (go_at_call 23; refine (HC.out _).mono ?_; rintro e wr ⟨rfl, rfl⟩)
        refine (HN.out _).mono ?_
        rintro e wr ⟨⟨n, is, fits, rfl, hV⟩, rfl⟩
        cases is with
        | false =>
          have HQ : Hid (wordTok wl i = .ok ⟨3, wl, 0, i⟩) := by unfold wordTok; rw [← hV.1]; rfl
          clear hV
          go_wp2_with fail
          rw [HR.out, HX.out]
          simp only [refWof, HWL.out, HQ.out]
          refine bodyPost_ret (results_cell_row rfl _ _ B 45 #[.int .u8 3, .string ⟨wl.toArray⟩, .int .i64 0, .int .i64 i, .int .i64 p, .int .i64 0] (0, 0) _ rfl (endR hZ.out _ _ _ _ _ _) Tryd.underlying45 rfl (by kernel_rfl)) rfl ⟨?_, ?_⟩
          · simp only [refWof, refV]; first | rfl | (congr 4 <;> omega)
          · rw [← HW.out]; exact belowR B0.out _ _ _ _ _ _
        | true =>
          have hV2 := hV.2 hV.1.symm
          cases fits with
          | false =>
            have HQ : Hid (wordTok wl i = .error (i, 10)) := by
              unfold wordTok; rw [← hV.1]
              rcases h : Lib.parseIntB 64 wl with x | _ | _
              · exact absurd h (hV2.2 rfl x)
              · rfl
              · rfl
            clear hV hV2
            go_wp2_with fail
            rw [HR.out, HX.out]
            simp only [refWof, HWL.out, HQ.out]
            refine bodyPost_ret (results_cell_row rfl _ _ B 45 #[.int .u8 0, .string ⟨#[]⟩, .int .i64 0, .int .i64 0, .int .i64 i, .int .i64 10] (0, 0) _ rfl (endR hZ.out _ _ _ _ _ _) Tryd.underlying45 rfl (by kernel_rfl)) rfl ⟨?_, ?_⟩
            · simp only [refWof, refV]; first | rfl | (congr 4 <;> omega)
            · rw [← HW.out]; exact belowR B0.out _ _ _ _ _ _
          | true =>
            have HQ : Hid (wordTok wl i = .ok ⟨4, [], n, i⟩) := by unfold wordTok; rw [← hV.1, hV2.1 rfl]; rfl
            clear hV hV2
            go_wp2_with fail
            rw [HR.out, HX.out]
            simp only [refWof, HWL.out, HQ.out]
            refine bodyPost_ret (results_cell_row rfl _ _ B 45 #[.int .u8 4, .string ⟨#[]⟩, .int .i64 n, .int .i64 i, .int .i64 p, .int .i64 0] (0, 0) _ rfl (endR hZ.out _ _ _ _ _ _) Tryd.underlying45 rfl (by kernel_rfl)) rfl ⟨?_, ?_⟩
            · simp only [refWof, refV]; first | rfl | (congr 4 <;> omega)
            · rw [← HW.out]; exact belowR B0.out _ _ _ _ _ _
      | false =>
        have HC : Hid (∀ w, Calls Tryd.prog 23 #[.int .u8 c.toNat] w fun e w' => e = .returned (.bool false) ∧ w' = w) := fun w => by
          have := rends_calls c w; rw [he] at this; exact this
        by_cases hbad : c.toNat < 33 ∨ 126 < c.toNat
        · have HX : Hid (r = .error (p, 10)) := by rw [hE.out]; exact wend_bad hat he hbad
          clear hat he
          rcases hbad with hbad | hbad
          all_goals
            go_wp2_with (go_at_call 23; refine (HC.out _).mono ?_; rintro e wr ⟨rfl, rfl⟩)
            rw [HR.out, HX.out]

            refine bodyPost_ret (results_cell_row rfl _ _ B 45 #[.int .u8 0, .string ⟨#[]⟩, .int .i64 0, .int .i64 0, .int .i64 p, .int .i64 10] (0, 0) _ rfl (endR hZ.out _ _ _ _ _ _) Tryd.underlying45 rfl (by kernel_rfl)) rfl ⟨?_, ?_⟩
            · simp only [refWof, refV]; first | rfl | (congr 4 <;> omega)
            · rw [← HW.out]; exact belowR B0.out _ _ _ _ _ _
        · have HX : Hid (r = wordEnd s.data.toList k (p + 1)) := by rw [hE.out]; exact wend_go hat he hbad
          have n1 : 33 ≤ c.toNat ∧ c.toNat ≤ 126 := by omega
          clear hat he hbad
          go_wp2_with (go_at_call 23; refine (HC.out _).mono ?_; rintro e wr ⟨rfl, rfl⟩)
          go_roundg k
          case measure => omega
          case rel => exact ⟨p + 1, rfl, by go_num, HX, by omega, by omega, by omega⟩
    · have HX : Hid (r = .ok p) := by rw [hE.out]; exact wend_none (at_none s p (by omega))
      obtain ⟨wl, hwl⟩ : ∃ wl, (s.data.toList.drop i).take (p - i) = wl := ⟨_, rfl⟩
      have hsr : ∀ w, (Instr.slice 9 (.string s) (some (.int .i64 i)) (some (.int .i64 p)) none).run Tryd.prog w = .ok (.string ⟨wl.toArray⟩) w := fun w => by
        rw [slice_run 9 Tryd.underlying9 s i p (by omega) (by omega) w _ _ rfl rfl, ← hwl, ← extract_list, of_list]
      have hl : wl.length ≤ 65536 := by rw [← hwl, ← extract_list, len_is, ByteArray.size_extract]; omega
      have hl' : (⟨wl.toArray⟩ : ByteArray).size ≤ 65536 := by show wl.toArray.size ≤ _; simpa using hl
      have HN : Hid (∀ w, Calls Tryd.prog 24 #[.string ⟨wl.toArray⟩] w (NumEnds wl w)) := fun w => number_calls ⟨wl.toArray⟩ w hl'
      have HWL := Lib.hid hwl
      clear hwl
      have hd : ¬ p < s.size := hlt
      go_wp2_with fail
      refine (HN.out _).mono ?_
      rintro e wr ⟨⟨n, is, fits, rfl, hV⟩, rfl⟩
      cases is with
      | false =>
        have HQ : Hid (wordTok wl i = .ok ⟨3, wl, 0, i⟩) := by unfold wordTok; rw [← hV.1]; rfl
        clear hV
        go_wp2_with fail
        rw [HR.out, HX.out]
        simp only [refWof, HWL.out, HQ.out]
        refine bodyPost_ret (results_cell_row rfl _ _ B 45 #[.int .u8 3, .string ⟨wl.toArray⟩, .int .i64 0, .int .i64 i, .int .i64 p, .int .i64 0] (0, 0) _ rfl (endR hZ.out _ _ _ _ _ _) Tryd.underlying45 rfl (by kernel_rfl)) rfl ⟨?_, ?_⟩
        · simp only [refWof, refV]; first | rfl | (congr 4 <;> omega)
        · rw [← HW.out]; exact belowR B0.out _ _ _ _ _ _
      | true =>
        have hV2 := hV.2 hV.1.symm
        cases fits with
        | false =>
          have HQ : Hid (wordTok wl i = .error (i, 10)) := by
            unfold wordTok; rw [← hV.1]
            rcases h : Lib.parseIntB 64 wl with x | _ | _
            · exact absurd h (hV2.2 rfl x)
            · rfl
            · rfl
          clear hV hV2
          go_wp2_with fail
          rw [HR.out, HX.out]
          simp only [refWof, HWL.out, HQ.out]
          refine bodyPost_ret (results_cell_row rfl _ _ B 45 #[.int .u8 0, .string ⟨#[]⟩, .int .i64 0, .int .i64 0, .int .i64 i, .int .i64 10] (0, 0) _ rfl (endR hZ.out _ _ _ _ _ _) Tryd.underlying45 rfl (by kernel_rfl)) rfl ⟨?_, ?_⟩
          · simp only [refWof, refV]; first | rfl | (congr 4 <;> omega)
          · rw [← HW.out]; exact belowR B0.out _ _ _ _ _ _
        | true =>
          have HQ : Hid (wordTok wl i = .ok ⟨4, [], n, i⟩) := by unfold wordTok; rw [← hV.1, hV2.1 rfl]; rfl
          clear hV hV2
          go_wp2_with fail
          rw [HR.out, HX.out]
          simp only [refWof, HWL.out, HQ.out]
          refine bodyPost_ret (results_cell_row rfl _ _ B 45 #[.int .u8 4, .string ⟨#[]⟩, .int .i64 n, .int .i64 i, .int .i64 p, .int .i64 0] (0, 0) _ rfl (endR hZ.out _ _ _ _ _ _) Tryd.underlying45 rfl (by kernel_rfl)) rfl ⟨?_, ?_⟩
          · simp only [refWof, refV]; first | rfl | (congr 4 <;> omega)
          · rw [← HW.out]; exact belowR B0.out _ _ _ _ _ _
end Go.Proofs.YtkidnmjaioejaabDoor.Lx
