/- The statements' example, printed: the text is the document's. Condition: what XTreeText's functions want of the library's variables. -/
import Derived.Test.YtaklmocjaokkpaaGreatDoorTreePrint
namespace Go.Proofs.YtaklmocjaokkpaaGreatDoor.Tr
set_option linter.unusedVariables false
set_option linter.unusedSimpArgs false
open Go.RowKit Go.Shelf Go.Proofs.YtaklmocjaokkpaaGreatDoor.Mem

theorem nil_strs (w : World) : StrsIn w (.slice none 0 0) [] := ⟨none, 0, rfl, Nat.le_refl _, Nat.zero_le _, fun i s h => by cases h⟩
theorem leaf_in (w : World) (k : Nat) (n : Int) (t : ByteArray) (hk : k < 256) (hn : -9223372036854775808 ≤ n ∧ n ≤ 9223372036854775807) : NdIn w (.slice none 0 0) (.slice none 0 0) (.mk k n t [] []) :=
  NdIn.of hk hn (nil_strs w) ⟨none, 0, rfl, Nat.le_refl _, Nat.zero_le _, KidsIn.of _ _ fun j y hy => by cases hy⟩
theorem node_in (w : World) (k : Nat) (n : Int) (t : ByteArray) (ks : List Nd) (b m : Nat) (hm : ks.length = m) (hm2 : m ≤ maxLen) (hk : k < 256) (hn : -9223372036854775808 ≤ n ∧ n ≤ 9223372036854775807) (h : KidsIn w (some ⟨b, 0, none⟩) 0 ks) : NdIn w (.slice none 0 0) (.slice (some ⟨b, 0, none⟩) m m) (.mk k n t [] ks) :=
  NdIn.of hk hn (nil_strs w) ⟨some ⟨b, 0, none⟩, m, by subst hm; rfl, by rw [← hm]; exact Nat.le_refl _, hm2, h⟩
theorem kids_one {w : World} {b k : Nat} {n : Int} {t : ByteArray} {x : Nd} {nv kv : Value} (h : w.heap[b]? = some (.cells #[.int .u8 k, .int .i64 n, .string t, nv, kv] 25)) (hk : x.kind = k) (hn : x.n = n) (ht : x.text = t) (hx : NdIn w nv kv x) : KidsIn w (some ⟨b, 0, none⟩) 0 [x] := by
  subst hk hn ht
  refine KidsIn.of _ _ fun j y hy => ?_
  cases j with
  | zero =>
    obtain rfl : x = y := by simpa using hy
    exact ⟨b, 0, nv, kv, rfl, lt_of_block h, cell_of h 0, cell_of h 1, cell_of h 2, cell_of h 3, cell_of h 4, hx⟩
  | succ j => simp at hy
theorem kids_two {w : World} {b k k' : Nat} {n n' : Int} {t t' : ByteArray} {x x' : Nd} {nv kv nv' kv' : Value} (h : w.heap[b]? = some (.cells #[.int .u8 k, .int .i64 n, .string t, nv, kv, .int .u8 k', .int .i64 n', .string t', nv', kv'] 25)) (hk : x.kind = k) (hn : x.n = n) (ht : x.text = t) (hx : NdIn w nv kv x)
    (hk' : x'.kind = k') (hn' : x'.n = n') (ht' : x'.text = t') (hx' : NdIn w nv' kv' x') : KidsIn w (some ⟨b, 0, none⟩) 0 [x, x'] := by
  subst hk hn ht hk' hn' ht'
  refine KidsIn.of _ _ fun j y hy => ?_
  match j, hy with
  | 0, hy =>
    obtain rfl : x = y := by simpa using hy
    exact ⟨b, 0, nv, kv, rfl, lt_of_block h, cell_of h 0, cell_of h 1, cell_of h 2, cell_of h 3, cell_of h 4, hx⟩
  | 1, hy =>
    obtain rfl : x' = y := by simpa using hy
    exact ⟨b, 0, nv', kv', rfl, lt_of_block h, cell_of h 5, cell_of h 6, cell_of h 7, cell_of h 8, cell_of h 9, hx'⟩
  | j + 2, hy => simp at hy
def exX : Nd := .mk 5 0 ⟨#[120]⟩ [] []
def exS : Nd := .mk 11 0 ⟨#[43]⟩ [] [exX, .mk 1 1 ⟨#[]⟩ [] []]
/-- The statements' example. -/
def exN : Nd := .mk 8 0 ⟨#[120]⟩ [] [.mk 1 5 ⟨#[]⟩ [] [], exS]
theorem ex_may : mayB exN = true := by kernel_rfl
theorem ex_size : sizeN exN = 5 := by kernel_rfl
theorem ex_small : Small exN := by
  unfold exN exS exX
  simp [Small, Smalls]
  decide
theorem ex_print : printL exN = [40, 108, 101, 116, 32, 120, 32, 53, 32, 40, 43, 32, 120, 32, 49, 41, 41] := by
  have h5 : Lib.itoa 5 = [53] := by unfold Lib.itoa; rw [if_neg (by decide)]; exact Lib.decDigits_one (by decide)
  have h1 : Lib.itoa 1 = [49] := by unfold Lib.itoa; rw [if_neg (by decide)]; exact Lib.decDigits_one (by decide)
  simp [exN, exS, exX, printL, printsL, headL, bl, h5, h1]
theorem ex_lits : Lits (fun n => 0 ≤ n ∧ n < 100) (fun _ => False) exN := by
  unfold exN exS exX
  simp [Lits, LitsL]
theorem fmt_small (w : World) : FmtOk (fun n => 0 ≤ n ∧ n < 100) w := fun n W ⟨h1, h2⟩ hW => by
  obtain ⟨i, rfl⟩ : ∃ i : Nat, n = (i : Int) := ⟨n.toNat, by omega⟩
  refine (Tryz.strconv_FormatInt_10_small i (by omega) W).mono ?_
  rintro e w' ⟨rfl, rfl⟩
  refine ⟨?_, Chg.refl _ _⟩
  rw [show Lib.itoa (i : Int) = Lib.decDigits i by unfold Lib.itoa; rw [if_neg (by omega)]; rfl]
theorem quo_none (w : World) : QuoOk (fun _ => False) w := fun _ _ h _ => h.elim
set_option maxRecDepth 100000 in
set_option maxHeartbeats 1000000 in
theorem awake_calls (w : World) (hg : Gm w) : Calls Tryz.prog 18 #[] w fun e w' => e = .returned (.bool true) ∧ Chg (fun _ => False) w w' := by
  obtain ⟨w1, hw1⟩ : ∃ w1, w.alloc (.cells #[.int .u8 5, .int .i64 0, .string ⟨#[120]⟩, .slice none 0 0, .slice none 0 0] 25) = w1 := ⟨_, rfl⟩
  have hC1 : Chg (fun _ => False) w w1 := by rw [← hw1]; exact (Chg.refl _ w).alloc _
  have hb1 : w1.heap[w.heap.size]? = some (.cells #[.int .u8 5, .int .i64 0, .string ⟨#[120]⟩, .slice none 0 0, .slice none 0 0] 25) := by rw [← hw1]; exact blk_new w _
  obtain ⟨w2, hw2⟩ : ∃ w2, w1.alloc (.cells #[.int .u8 5, .int .i64 0, .string ⟨#[120]⟩, .slice none 0 0, .slice none 0 0, .int .u8 1, .int .i64 1, .string ⟨#[]⟩, .slice none 0 0, .slice none 0 0] 25) = w2 := ⟨_, rfl⟩
  obtain ⟨w3, hw3⟩ : ∃ w3, w2.alloc (.cells #[.int .u8 1, .int .i64 5, .string ⟨#[]⟩, .slice none 0 0, .slice none 0 0, .int .u8 11, .int .i64 0, .string ⟨#[43]⟩, .slice none 0 0, .slice (some ⟨w1.heap.size, 0, none⟩) 2 2] 25) = w3 := ⟨_, rfl⟩
  obtain ⟨w4, hw4⟩ : ∃ w4, w3.alloc (.cells #[.int .u8 8, .int .i64 0, .string ⟨#[120]⟩, .slice none 0 0, .slice (some ⟨w2.heap.size, 0, none⟩) 2 2] 25) = w4 := ⟨_, rfl⟩
  have hC2 : Chg (fun _ => False) w1 w2 := by rw [← hw2]; exact (Chg.refl _ w1).alloc _
  have hC3 : Chg (fun _ => False) w2 w3 := by rw [← hw3]; exact (Chg.refl _ w2).alloc _
  have hC4 : Chg (fun _ => False) w3 w4 := by rw [← hw4]; exact (Chg.refl _ w3).alloc _
  have hb2 := (hC3.trans hC4).blk (show w2.heap[w1.heap.size]? = _ by rw [← hw2]; exact blk_new w1 _) (fun e => e)
  have hb3 := hC4.blk (show w3.heap[w2.heap.size]? = _ by rw [← hw3]; exact blk_new w2 _) (fun e => e)
  have hb4 : w4.heap[w3.heap.size]? = some (.cells #[.int .u8 8, .int .i64 0, .string ⟨#[120]⟩, .slice none 0 0, .slice (some ⟨w2.heap.size, 0, none⟩) 2 2] 25) := by rw [← hw4]; exact blk_new w3 _
  have HC4 := Lib.hid (((hC1.trans hC2).trans hC3).trans hC4)
  have hin : NdIn w4 (.slice none 0 0) (.slice (some ⟨w2.heap.size, 0, none⟩) 2 2) exN :=
    node_in w4 8 0 _ _ w2.heap.size 2 rfl (by decide) (by decide) (by decide) (kids_two hb3 rfl rfl rfl (leaf_in w4 1 5 _ (by decide) (by decide)) rfl rfl rfl
      (node_in w4 11 0 _ _ w1.heap.size 2 rfl (by decide) (by decide) (by decide) (kids_two hb2 rfl rfl rfl (leaf_in w4 5 0 _ (by decide) (by decide)) rfl rfl rfl (leaf_in w4 1 1 _ (by decide) (by decide)))))
  have HPR := Lib.hid (print_calls exN _ _ w4 hin (hg.later HC4.out) ex_small (fmt_small w4) (quo_none w4) ex_lits (fun _ => by rw [ex_print]; decide))
  have HSZ := Lib.hid (fun W (hW : Chg (fun _ => False) w4 W) => tsize_calls exN _ _ W (hin.kept hW) (by rw [ex_size]; decide))
  have HB4 := Lib.hid hb4
  have hpr : printR exN = (⟨#[40, 108, 101, 116, 32, 120, 32, 53, 32, 40, 43, 32, 120, 32, 49, 41, 41]⟩, 0) := by unfold printR; rw [if_pos ex_may, ex_print]
  rw [hpr] at HPR
  rw [ex_size] at HSZ
  unfold ndV at HPR HSZ
  have a0 := cell_of hb1 0
  have a1 := cell_of hb1 1
  have a2 := cell_of hb1 2
  have a3 := cell_of hb1 3
  have a4 := cell_of hb1 4
  have c0 := cell_of hb4 0
  have c1 := cell_of hb4 1
  have c2 := cell_of hb4 2
  have c3 := cell_of hb4 3
  have c4 := cell_of hb4 4
  have HPR2 : Hid (Calls Tryz.prog 19 #[.agg #[.int .u8 8, .int .i64 0, .string ⟨#[120]⟩, .slice none 0 0, .slice (some ⟨w2.heap.size, 0, none⟩) 2 2]] w4 fun e w' => e = .returned (.tuple #[.string ⟨#[40, 108, 101, 116, 32, 120, 32, 53, 32, 40, 43, 32, 120, 32, 49, 41, 41]⟩, .int .i64 0]) ∧ Chg (fun _ => False) w4 w') := HPR
  have HSZ2 : Hid (∀ W, Chg (fun _ => False) w4 W → Calls Tryz.prog 20 #[.agg #[.int .u8 8, .int .i64 0, .string ⟨#[120]⟩, .slice none 0 0, .slice (some ⟨w2.heap.size, 0, none⟩) 2 2]] W fun e w' => e = .returned (.int .i64 5) ∧ Chg (fun _ => False) W w') := HSZ
  have e1 : w1.heap.size = w.heap.size + 1 := by rw [← hw1]; simp
  have e2 : w2.heap.size = w.heap.size + 2 := by rw [← hw2, ← hw1]; simp
  have e3 : w3.heap.size = w.heap.size + 3 := by rw [← hw3, ← hw2, ← hw1]; simp
  rw [e1] at hw3
  rw [e2] at hw4 HPR2 HSZ2
  rw [e3, e2] at HB4
  clear hC1 hC2 hC3 hC4 hb1 hb2 hb3 hb4 hin hpr hg HPR HSZ a0 a1 a2 a3 a4 c0 c1 c2 c3 c4 e1 e2 e3
  subst hw4 hw3 hw2 hw1
  go_enter Tryz.func18, Tryz.ntmps18
  go_wp2_with fail
  refine HPR2.out.mono ?_
  rintro e w5 ⟨rfl, hC5⟩
  have HC5 := Lib.hid hC5
  have hb5 := hC5.blk HB4.out (fun e => e)
  clear hC5
  have c0 := cell_of hb5 0
  have c1 := cell_of hb5 1
  have c2 := cell_of hb5 2
  have c3 := cell_of hb5 3
  have c4 := cell_of hb5 4
  clear hb5
  go_wp2_with fail
  refine (HSZ2.out _ HC5.out).mono ?_
  rintro e w6 ⟨rfl, hC6⟩
  go_wp2_with fail
  go_ret
  exact ⟨rfl, (HC4.out.trans HC5.out).trans hC6⟩
end Go.Proofs.YtaklmocjaokkpaaGreatDoor.Tr
