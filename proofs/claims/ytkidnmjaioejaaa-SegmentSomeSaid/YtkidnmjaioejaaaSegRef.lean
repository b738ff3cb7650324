/- Join in the row's words; the document's Mark and Count, walked. Condition: the row is shorter than 100000. -/
import Derived.Test.YtkidnmjaioejaaaSegJoin2
namespace Go.Proofs.Ytkidnmjaioejaaa.Sg
set_option linter.unusedVariables false
set_option linter.unusedSimpArgs false
open Go.RowKit Go.Proofs.Ytkidnmjaioejaaa.Mem

theorem join_abs {w : World} {s p : Nat} {l c : Row} {F Fp : List Nat} (h : SA w s l F) (hp : PA w p c false Fp) (hd : ∀ j ∈ F, ∀ k ∈ Fp, j ≠ k) (hl : l.length + c.length ≤ 100000) :
    Calls Try.prog 32 #[.pointer (some ⟨s, 0, none⟩), .pointer (some ⟨p, 0, none⟩)] w fun e w' => e = .returned (.bool true) ∧ ∃ F', SA w' s (l ++ c) F' ∧ PA w' p c true Fp ∧
      Chg (fun j => j ∈ F ∨ j = p) w w' ∧ ∀ k ∈ F', k ∈ F ∨ w.heap.size ≤ k := by
  obtain ⟨bv, pv, base, L, h1, h2, rfl⟩ := h
  obtain ⟨qv, Lq, p1, p2, p3, rfl⟩ := hp
  subst h2
  subst p3
  rw [flat_len, flatP_len] at hl
  refine (join_walk h1 p1 p2 hd ⟨by omega, by omega⟩).mono ?_
  rintro e w' ⟨q1, pv', M, q2, q3, q4, q5, q6⟩
  exact ⟨q1, _, ⟨_, _, _, _, q2, by rw [flat_append, flatP_keys M Lq q3], rfl⟩, ⟨_, _, q4, p2, rfl, rfl⟩, q5, q6⟩
theorem join_used {w : World} {s p : Nat} {c : Row} {Fp : List Nat} (hp : PA w p c true Fp) :
    Calls Try.prog 32 #[.pointer (some ⟨s, 0, none⟩), .pointer (some ⟨p, 0, none⟩)] w fun e w' => e = .returned (.bool false) ∧ w' = w := by
  obtain ⟨qv, Lq, p1, p2, p3, rfl⟩ := hp
  have c2 : w.cell? ⟨p, 2, none⟩ = some (.bool true) := cell_of p1.blk 2
  clear p1
  go_enter Try.func32, Try.ntmps32
  go_wp2_with fail
  go_ret
  exact ⟨rfl, rfl⟩
theorem join_nilp {w : World} {s : Nat} :
    Calls Try.prog 32 #[.pointer (some ⟨s, 0, none⟩), .pointer none] w fun e w' => e = .returned (.bool false) ∧ w' = w := by
  go_enter Try.func32, Try.ntmps32
  go_wp2_with fail
  go_ret
  exact ⟨rfl, rfl⟩
def rcells (x : Bool × Int) : List Value := [.bool x.1, .int .i64 x.2]
abbrev RRow (w : World) (v : Value) (l : Row) : Prop := RowAt w 70 2 v l.length (l.flatMap rcells)
theorem infoR : (Try.prog.info? 70).map (fun i => (i.zero, i.size, i.bytes)) = some (some (.agg #[.bool false, .int .i64 0]), 2, 16) := by kernel_rfl
theorem rcells_len (l : Row) : (l.flatMap rcells).length = l.length * 2 := by
  induction l with
  | nil => rfl
  | cons t l ih => simp only [List.flatMap_cons, List.length_append, ih, List.length_cons]; show 2 + _ = _; omega
theorem rcells_get (l : Row) (k i : Nat) (hk : k < l.length) (hi : i < 2) : (l.flatMap rcells)[k * 2 + i]? = (rcells l[k])[i]? := by
  induction l generalizing k with
  | nil => simp at hk
  | cons t l ih =>
    rw [List.flatMap_cons]
    cases k with
    | zero => rw [List.getElem?_append_left (by show 0 * 2 + i < 2; omega), Nat.zero_mul, Nat.zero_add]; rfl
    | succ k =>
      rw [List.getElem?_append_right (by show 2 ≤ _; omega), show (k + 1) * 2 + i - (rcells t).length = k * 2 + i from by show (k + 1) * 2 + i - 2 = _; omega]
      exact ih k (by simpa using hk)
theorem RRow.at {w : World} {l : Row} {g off cap n : Nat} (h : RowAt w 70 2 (.slice (some ⟨g, off, none⟩) n cap) n (l.flatMap rcells)) (hn : l.length = n) (k : Nat) (b : Bool) (m : Int) (hk : l[k]? = some (b, m)) :
    w.cell? ⟨g, off + k * 2, none⟩ = some (.bool b) ∧ w.cell? ⟨g, off + k * 2 + 1, none⟩ = some (.int .i64 m) := by
  have hkl : k < l.length := (List.getElem?_eq_some_iff.1 hk).1
  have e : l[k] = (b, m) := by rw [List.getElem?_eq_getElem hkl] at hk; exact Option.some.inj hk
  refine ⟨?_, ?_⟩
  · have := h.cell (k * 2 + 0) (by omega)
    rw [rcells_get l k 0 hkl (by omega), e] at this
    exact this
  · rw [Nat.add_assoc, h.cell (k * 2 + 1) (by omega), rcells_get l k 1 hkl (by omega), e]
    rfl
def placeOf (l : Row) (i : Int) : Int := match markAt l i with
  | some a => (a : Int)
  | none => -1
theorem take_snoc {α : Type} (l : List α) (k : Nat) (x : α) (h : l[k]? = some x) : l.take (k + 1) = l.take k ++ [x] := by
  rw [List.take_add_one, h]; rfl
set_option maxRecDepth 100000 in
set_option maxHeartbeats 2000000 in
theorem mark_ref {w : World} {v : Value} {l : Row} (h : RRow w v l) (hl : l.length ≤ 100000) (i : Int) (hiw : i ≤ 9223372036854775807) :
    Calls Try.prog 31 #[v, .int .i64 i] w fun e w' => e = .returned (.int .i64 (placeOf l i)) ∧ w' = w := by
  unfold placeOf
  by_cases hi : i < 0
  · have e1 : markAt l i = none := by unfold markAt; rw [if_pos hi]
    obtain ⟨ad, cap, rfl, _, _⟩ := h.form
    rw [e1]
    clear h e1
    go_enter Try.func31, Try.ntmps31
    go_wp2_with fail
    go_ret
    exact ⟨rfl, rfl⟩
  · have e1 : markAt l i = fromTop l.reverse i.toNat := by unfold markAt; rw [if_neg hi]
    obtain ⟨i0, rfl⟩ : ∃ i0 : Nat, i = (i0 : Int) := ⟨i.toNat, by omega⟩
    rw [Int.toNat_natCast] at e1
    rw [e1]
    obtain ⟨n, hn⟩ : ∃ n, l.length = n := ⟨_, rfl⟩
    have HN := Lib.hid hn
    unfold RRow at h
    rw [hn] at h hl
    obtain ⟨ad, cap, rfl, _, _⟩ := h.form
    have HR := Lib.hid h
    clear h e1 hn hi
    obtain ⟨res, hres⟩ : ∃ res, fromTop l.reverse i0 = res := ⟨_, rfl⟩
    rw [hres]
    have HRES := Lib.hid hres
    clear hres
    go_enter Try.func31, Try.ntmps31
    go_wp2_with fail
    go_loopg [1, 5] (n + 1) (fun g vi va wr => ∃ (k ic : Nat), vi = .int .i64 ic ∧ va = .int .i64 ((k : Int) - 1) ∧ k ≤ n ∧ ic ≤ i0 ∧ k < g ∧ wr = w ∧ Hid (fromTop (l.take k).reverse ic = res))
    case atStart => exact ⟨n, i0, rfl, by go_num, by omega, by omega, by omega, rfl, by rw [← HN.out, List.take_length]; exact HRES⟩
    case round =>
      obtain ⟨k, ic, rfl, rfl, hk, hic, hg, rfl, hf⟩ := hrel
      cases k with
      | zero =>
        have hr : none = res := hf.out
        subst hr
        go_wp2_with fail
        go_ret
        exact ⟨rfl, rfl⟩
      | succ k =>
        obtain ⟨gk', rfl⟩ : ∃ m, gk = m + 1 := ⟨gk - 1, by omega⟩
        obtain ⟨g, off, cp, hv, _⟩ := HR.out.formS (by omega)
        cases hv
        obtain ⟨⟨b, m⟩, hx⟩ : ∃ x, l[k]? = some x := ⟨_, List.getElem?_eq_getElem (by rw [HN.out]; omega)⟩
        obtain ⟨c0, c1⟩ := RRow.at HR.out HN.out k b m hx
        have hft := hf.out
        rw [take_snoc l k _ hx, List.reverse_append] at hft
        have hft2 : fromTop ((b, m) :: (l.take k).reverse) ic = res := hft
        have htl : (l.take k).reverse.length = k := by rw [List.length_reverse, List.length_take, HN.out]; omega
        have HX := Lib.hid hx
        have k0 : (0 : Int) ≤ (k : Int) := by omega
        have k1 : (k : Int) < (n : Int) := by omega
        have kk : ((k + 1 : Nat) : Int) - 1 = (k : Int) := by push_cast; omega
        rw [kk]
        clear hx hft
        cases b with
        | false =>
          have HF2 : Hid (fromTop (l.take k).reverse ic = res) := hft2
          clear hft2 htl
          go_wp2_with fail
          go_roundg gk'
          case measure => omega
          case rel => exact ⟨k, ic, by go_num, by go_num, by omega, by omega, by omega, rfl, HF2⟩
        | true =>
          cases ic with
          | zero =>
            have hr : some (l.take k).reverse.length = res := hft2
            rw [htl] at hr
            subst hr
            clear hft2 htl
            go_wp2_with fail
            go_ret
            exact ⟨rfl, rfl⟩
          | succ ic =>
            have HF2 : Hid (fromTop (l.take k).reverse ic = res) := hft2
            have ic0 : ¬ ((ic : Int) + 1 = 0) := by omega
            have ic1 : (0 : Int) ≤ (ic : Int) := by omega
            have ic2 : (ic : Int) ≤ 9223372036854775806 := by omega
            clear hft2 htl
            go_wp2_with fail
            go_roundg gk'
            case measure => omega
            case rel => exact ⟨k, ic, by go_num, by go_num, by omega, by omega, by omega, rfl, HF2⟩
theorem count_step (l : Row) (m b : Bool) (k : Nat) (n : Int) (h : l[k]? = some (b, n)) : (l.take (k + 1)).countP (fun x => x.1 == m) = (l.take k).countP (fun x => x.1 == m) + if b == m then 1 else 0 := by
  rw [take_snoc l k _ h, List.countP_append]
  simp [List.countP_cons]
set_option maxRecDepth 100000 in
set_option maxHeartbeats 2000000 in
theorem count_ref {w : World} {v : Value} {l : Row} (h : RRow w v l) (hl : l.length ≤ 100000) (m : Bool) :
    Calls Try.prog 52 #[v, .bool m] w fun e w' => e = .returned (.int .i64 (l.countP (fun x => x.1 == m) : Nat)) ∧ w' = w := by
  obtain ⟨n, hn⟩ : ∃ n, l.length = n := ⟨_, rfl⟩
  have HN := Lib.hid hn
  unfold RRow at h
  rw [hn] at h hl
  obtain ⟨ad, cap, rfl, _, _⟩ := h.form
  have HR := Lib.hid h
  clear h hn
  obtain ⟨res, hres⟩ : ∃ res, l.countP (fun x => x.1 == m) = res := ⟨_, rfl⟩
  rw [hres]
  have HRES := Lib.hid hres
  clear hres
  go_enter Try.func52, Try.ntmps52
  go_wp2_with fail
  go_loopg [5, 9] (n + 1) (fun g vc vi wr => ∃ (k c : Nat), vi = .int .i64 k ∧ vc = .int .i64 c ∧ k ≤ n ∧ n < g + k ∧ wr = w ∧ c ≤ k ∧ Hid ((l.take k).countP (fun x => x.1 == m) = c))
  case atStart => exact ⟨0, 0, rfl, rfl, by omega, by omega, rfl, by omega, by simp [Hid]⟩
  case round =>
    obtain ⟨k, c, rfl, rfl, hk, hg, rfl, hck, hc⟩ := hrel
    by_cases hlt : k < n
    · obtain ⟨gk', rfl⟩ : ∃ m, gk = m + 1 := ⟨gk - 1, by omega⟩
      obtain ⟨g, off, cp, hv, _⟩ := HR.out.formS (by omega)
      cases hv
      obtain ⟨⟨b, x⟩, hx⟩ : ∃ x, l[k]? = some x := ⟨_, List.getElem?_eq_getElem (by rw [HN.out]; omega)⟩
      obtain ⟨c0, c1⟩ := RRow.at HR.out HN.out k b x hx
      have HC := Lib.hid (count_step l m b k x hx)
      rw [hc.out] at HC
      have k0 : (0 : Int) ≤ (k : Int) := by omega
      have k1 : (k : Int) < (n : Int) := by omega
      clear hx
      by_cases hbm : b = m
      · subst hbm
        simp only [beq_self_eq_true, if_true] at HC
        go_wp2_with fail
        go_roundg gk'
        case measure => omega
        case rel => exact ⟨k + 1, c + 1, by go_num, by go_num, by omega, by omega, rfl, by omega, HC⟩
      · have hbm2 : (b == m) = false := by simpa using hbm
        simp only [hbm2, if_false, Bool.false_eq_true, Nat.add_zero] at HC
        go_wp2_with fail
        go_roundg gk'
        case measure => omega
        case rel => exact ⟨k + 1, c, by go_num, rfl, by omega, by omega, rfl, by omega, HC⟩
    · obtain rfl : k = n := by omega
      have hall : l.take k = l := List.take_of_length_le (by rw [HN.out]; exact Nat.le_refl _)
      have hcr : c = res := by
        have := hc.out
        rw [hall, HRES.out] at this
        exact this.symm
      have hkk : ¬ (k : Int) < (k : Int) := by omega
      clear hall
      go_wp2_with fail
      go_ret
      exact ⟨by rw [← hcr]; rfl, rfl⟩
end Go.Proofs.Ytkidnmjaioejaaa.Sg
