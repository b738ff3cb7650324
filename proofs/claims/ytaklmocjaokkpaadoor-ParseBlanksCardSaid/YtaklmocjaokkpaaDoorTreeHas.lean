/- What a row of texts has; how many parts a word takes. Condition: the word has at most 2^20 bytes; the machine's first variable is a number. -/
import Derived.Test.YtaklmocjaokkpaaDoorTreePlain
import Derived.Test.YtaklmocjaokkpaaDoorLexC
import Derived.Test.YtaklmocjaokkpaaDoorShelf
import Derived.Lib.IndexMore
import Derived.WalkKit
import Derived.Lib.Hide
import Derived.Deep.QuietTactic
import Derived.BigQuiet
import Derived.WalkLawsBesides
import Derived.Deep.RegionHeld3
import Derived.IntWalk
import Derived.Deep.LoopGhost
import Derived.Laws.IdiomStrings
import Derived.Deep.RegionLaw
import Derived.BigRegion
import Derived.Deep.RegionWith
import Derived.Deep.DrawnRows
import Derived.Lib.BufferRead
import Derived.Deep.AppendLies
import Derived.Shelf.Abstract
namespace Go.Proofs.YtaklmocjaokkpaaDoor.Tr
set_option linter.unusedVariables false
set_option linter.unusedSimpArgs false
open Go.RowKit Go.Shelf Go.Proofs.YtaklmocjaokkpaaDoor.Mem


theorem sizes_le (l : List Nd) (j : Nat) : sizesN (l.take j) ≤ sizesN l := by
  induction l generalizing j with
  | nil => simp
  | cons x l ih =>
    cases j with
    | zero => simp [sizesN]
    | succ j => rw [List.take_succ_cons, sizesN, sizesN]; have := ih j; omega
theorem size_mem {l : List Nd} {x : Nd} (h : x ∈ l) : sizeN x ≤ sizesN l := by
  induction l with
  | nil => simp at h
  | cons y l ih =>
    rw [sizesN]
    rcases List.mem_cons.1 h with rfl | h
    · omega
    · have := ih h; omega
theorem len_sizes (l : List Nd) : l.length ≤ sizesN l := by
  induction l with
  | nil => simp
  | cons x l ih => rw [sizesN, List.length_cons]; have := sizeN_pos x; omega
/-- The cells of part j. -/
theorem kid_cells {w : World} {ad : Option Addr} {l : List Nd} (h : KidsIn w ad 0 l) (j : Nat) (hj : j < l.length) : ∃ b off nv kv x, ad = some ⟨b, off, none⟩ ∧ l[j]? = some x ∧ x ∈ l ∧ w.cell? ⟨b, off + j * 5, none⟩ = some (.int .u8 x.kind) ∧ w.cell? ⟨b, off + j * 5 + 1, none⟩ = some (.int .i64 x.n) ∧
    w.cell? ⟨b, off + j * 5 + 2, none⟩ = some (.string x.text) ∧ w.cell? ⟨b, off + j * 5 + 3, none⟩ = some nv ∧ w.cell? ⟨b, off + j * 5 + 4, none⟩ = some kv ∧ NdIn w nv kv x := by
  obtain ⟨x, hx⟩ : ∃ x, l[j]? = some x := ⟨_, List.getElem?_eq_getElem hj⟩
  obtain ⟨b, off, nv, kv, e1, e2, e3, e4, e5, e6, e7, e8⟩ := h.at_ j x hx
  rw [Nat.zero_add] at e3 e4 e5 e6 e7
  exact ⟨b, off, nv, kv, x, e1, hx, List.mem_of_getElem? hx, e3, e4, e5, e6, e7, e8⟩
/-- What a node's slices look like. -/
theorem NdIn.forms {w : World} {nv kv : Value} {x : Nd} (h : NdIn w nv kv x) : ∃ an cn ak ck, nv = .slice an x.names.length cn ∧ kv = .slice ak x.kids.length ck ∧ x.names.length ≤ cn ∧ cn ≤ maxLen ∧ x.kids.length ≤ ck ∧ ck ≤ maxLen ∧ KidsIn w ak 0 x.kids := by
  obtain ⟨an, cn, h1, h2, h3, _⟩ := h.names
  obtain ⟨ak, ck, g1, g2, g3, g4⟩ := h.kids
  exact ⟨an, cn, ak, ck, h1, g1, h2, h3, g2, g3, g4⟩
theorem of_below {w w' : World} (h : Below w.heap.size w w') : Chg (fun _ => False) w w' := ⟨h.os, h.tape, h.output, h.size, fun k hk _ => h.block k hk⟩
theorem to_below {w w' : World} (h : Chg (fun _ => False) w w') : Below w.heap.size w w' := h.toBelow (Nat.le_refl _) (fun _ _ e => e.elim)
theorem glob_later {w w' : World} (h : Lx.Glob w) (hc : Chg (fun _ => False) w w') : Lx.Glob w' := h.later (to_below hc)
theorem str_ne2 {s t : ByteArray} (h : ¬ s = t) : ¬ s.toList = t.toList := fun e => h (by
  rw [ByteArray.toList_eq, ByteArray.toList_eq] at e
  cases s with
  | mk a => cases t with
    | mk b =>
      simp only at e
      congr 1
      exact Array.toList_inj.1 e)
theorem memB_take (s x : ByteArray) (l : List ByteArray) (k : Nat) (h : l[k]? = some x) : memB s (l.take (k + 1)) = (memB s (l.take k) || decide (x = s)) := by
  unfold memB
  rw [List.take_add_one, h, List.any_append]
  simp
theorem memB_of {s : ByteArray} {l : List ByteArray} (h : s ∈ l) : memB s l = true := List.any_eq_true.2 ⟨s, h, decide_eq_true rfl⟩
theorem StrsIn.take {w : World} {ad : Option Addr} {n cap : Nat} {l : List ByteArray} (h : StrsIn w (.slice ad n cap) l) (hn : l.length = n) (k : Nat) (hk : k ≤ n) : StrsIn w (.slice ad k cap) (l.take k) := by
  obtain ⟨ad', cap', e, h2, h3, h4⟩ := h
  cases e
  refine ⟨ad, cap, ?_, ?_, h3, fun i s hi => ?_⟩
  · congr 1
    rw [List.length_take]
    omega
  · rw [List.length_take]; omega
  · rw [List.getElem?_take] at hi
    split at hi
    · exact h4 i s hi
    · cases hi
set_option maxRecDepth 100000 in
set_option maxHeartbeats 2000000 in
theorem sindex_calls (s : ByteArray) (l : List ByteArray) (v : Value) (w : World) (h : StrsIn w v l) :
    Calls Tryd.prog 39 #[v, .string s] w fun e w' => (∃ r : Int, e = .returned (.int .i64 r) ∧ decide (0 ≤ r) = memB s l) ∧ w' = w := by
  obtain ⟨ad, cap, rfl, hlc, hcm, hel⟩ := h
  obtain ⟨n, hn⟩ : ∃ n, l.length = n := ⟨_, rfl⟩
  have HN := Lib.hid hn
  have HEL := Lib.hid hel
  rw [hn] at hlc ⊢
  have hmx : cap ≤ 9223372036854775807 := by unfold maxLen at hcm; omega
  clear hel hn hcm
  go_enter Tryd.func39, Tryd.ntmps39
  go_wp2_with fail
  go_loopg [8] (n + 1) (fun g vi wr => ∃ (k : Nat), vi = .int .i64 k ∧ k ≤ n ∧ n < g + k ∧ wr = w ∧ Hid (memB s (l.take k) = false))
  case atStart => exact ⟨0, rfl, by omega, by omega, rfl, rfl⟩
  case round =>
    obtain ⟨k, rfl, hk, hg, rfl, hno⟩ := hrel
    by_cases hlt : k < n
    · obtain ⟨gk', rfl⟩ : ∃ q, gk = q + 1 := ⟨gk - 1, by omega⟩
      obtain ⟨x, hx⟩ : ∃ x, l[k]? = some x := ⟨_, List.getElem?_eq_getElem (by rw [HN.out]; exact hlt)⟩
      obtain ⟨b, off, rfl, _, c0⟩ := HEL.out k x hx
      have HX := Lib.hid hx
      have i0 : (0 : Int) ≤ (k : Int) := by omega
      have i1 : (k : Int) < (n : Int) := by omega
      clear hx
      by_cases hxs : s = x
      · subst hxs
        have HM : Hid (memB s l = true) := memB_of (List.mem_of_getElem? HX.out)
        go_wp2_with fail
        go_ret
        exact ⟨⟨(k : Int), rfl, by rw [HM.out]; exact decide_eq_true (by omega)⟩, rfl⟩
      · have HNX : Hid (memB s (l.take (k + 1)) = false) := by rw [memB_take s x l k HX.out, hno.out, decide_eq_false (fun e => hxs e.symm)]; rfl
        have t1 := str_ne2 hxs
        have u1 : (s.toList == x.toList) = false := beq_eq_false_iff_ne.2 t1
        clear hxs
        go_wp2_with fail
        go_roundg gk'
        case measure => omega
        case rel => exact ⟨k + 1, by go_num, by omega, by omega, rfl, HNX.out⟩
    · obtain rfl : k = n := by omega
      have hkk : ¬ (k : Int) < (k : Int) := by omega
      have hall : l.take k = l := List.take_of_length_le (by rw [HN.out]; exact Nat.le_refl _)
      have HM : Hid (memB s l = false) := by rw [← hall]; exact hno.out
      clear hall
      go_wp2_with fail
      go_ret
      exact ⟨⟨-1, rfl, by rw [HM.out]; rfl⟩, rfl⟩
theorem scontains_calls (s : ByteArray) (l : List ByteArray) (v : Value) (w : World) (h : StrsIn w v l) :
    Calls Tryd.prog 30 #[v, .string s] w fun e w' => e = .returned (.bool (memB s l)) ∧ w' = w := by
  have HI := Lib.hid (sindex_calls s l v w h)
  obtain ⟨ad, cap, rfl, hlc, hcm, hel⟩ := h
  obtain ⟨res, hres⟩ : ∃ res, memB s l = res := ⟨_, rfl⟩
  rw [hres] at HI ⊢
  clear hel hres hcm
  go_enter Tryd.func30, Tryd.ntmps30
  go_wp2_with fail
  refine HI.out.mono ?_
  rintro e w1 ⟨⟨r, rfl, hr⟩, hq⟩
  obtain rfl : w = w1 := hq.symm
  subst hr
  go_wp2_with fail
  go_ret
  exact ⟨rfl, rfl⟩
def joinT (ws : List (List UInt8)) : List UInt8 := 32 :: ws.flatMap (fun w => w ++ [32])
theorem pre_word (r : List UInt8) : ∀ (w x : List UInt8), 32 ∉ w → 32 ∉ x → (w ++ [32]).isPrefixOf (x ++ 32 :: r) = decide (w = x) := by
  intro w
  induction w with
  | nil =>
    intro x hw hx
    cases x with
    | nil => simp
    | cons c x =>
      have : ¬ 32 = c := fun e => hx (by simp [e])
      simp [List.isPrefixOf, this]
  | cons a w ih =>
    intro x hw hx
    cases x with
    | nil =>
      have : ¬ a = 32 := fun e => hw (by simp [e])
      simp [List.isPrefixOf, this]
    | cons c x =>
      have := ih x (fun h => hw (List.mem_cons_of_mem _ h)) (fun h => hx (List.mem_cons_of_mem _ h))
      simp only [List.cons_append, List.isPrefixOf, this]
      by_cases hac : a = c <;> simp [hac]
theorem occ_words (w : List UInt8) (hw : 32 ∉ w) (hne : w ≠ []) : ∀ ws : List (List UInt8), (∀ x ∈ ws, 32 ∉ x) → ((∃ i, Lib.occAt (joinT ws) (32 :: (w ++ [32])) i = true) ↔ w ∈ ws) := by
  intro ws
  induction ws with
  | nil =>
    intro _
    constructor
    · rintro ⟨i, h⟩
      obtain ⟨a, t, rfl⟩ := List.exists_cons_of_ne_nil hne
      cases i with
      | zero => simp [Lib.occAt, joinT, List.isPrefixOf] at h
      | succ i => simp [Lib.occAt, joinT, List.isPrefixOf] at h
    · simp
  | cons x ws ih =>
    intro hall
    have hx : 32 ∉ x := hall x (by simp)
    have ih := ih fun y hy => hall y (List.mem_cons_of_mem _ hy)
    have hj : joinT (x :: ws) = 32 :: (x ++ joinT ws) := by simp [joinT]
    rw [hj]
    constructor
    · rintro ⟨i, h⟩
      cases i with
      | zero =>
        simp only [Lib.occAt, List.drop_zero, List.isPrefixOf] at h
        have h2 := pre_word (ws.flatMap (fun w => w ++ [32])) w x hw hx
        rw [show x ++ joinT ws = x ++ 32 :: ws.flatMap (fun w => w ++ [32]) from rfl, h2] at h
        have : w = x := by simpa using h
        simp [this]
      | succ j =>
        simp only [Lib.occAt, List.drop_succ_cons] at h
        by_cases hlt : j < x.length
        · exfalso
          have hd : (x ++ joinT ws).drop j = x[j] :: (x ++ joinT ws).drop (j + 1) := by
            rw [List.drop_eq_getElem_cons (by rw [List.length_append]; omega)]
            rw [List.getElem_append_left hlt]
          rw [hd] at h
          simp only [List.isPrefixOf, Bool.and_eq_true, beq_iff_eq] at h
          exact hx (by rw [h.1]; exact List.getElem_mem hlt)
        · obtain ⟨k, rfl⟩ : ∃ k, j = x.length + k := ⟨j - x.length, by omega⟩
          rw [List.drop_append, List.drop_of_length_le (by omega), List.nil_append, show x.length + k - x.length = k by omega] at h
          exact List.mem_cons_of_mem _ (ih.1 ⟨k, h⟩)
    · intro h
      rcases List.mem_cons.1 h with rfl | h
      · refine ⟨0, ?_⟩
        simp only [Lib.occAt, List.drop_zero, List.isPrefixOf]
        rw [show w ++ joinT ws = w ++ 32 :: ws.flatMap (fun w => w ++ [32]) from rfl, pre_word _ w w hw hx]
        simp
      · obtain ⟨k, hk⟩ := ih.2 h
        refine ⟨x.length + k + 1, ?_⟩
        simp only [Lib.occAt, List.drop_succ_cons]
        rw [List.drop_append, List.drop_of_length_le (by omega), List.nil_append, show x.length + k - x.length = k by omega]
        exact hk
theorem contains_iff (s : List UInt8) (a : UInt8) (t : List UInt8) : Lib.contains s (a :: t) = true ↔ ∃ i, Lib.occAt s (a :: t) i = true := by
  unfold Lib.contains
  rcases Lib.index_spec s (a :: t) with ⟨h1, h2⟩ | ⟨i, h1, h2, h3, _⟩
  · rw [h1]
    constructor
    · intro h; simp at h
    · rintro ⟨i, hi⟩
      exfalso
      by_cases hle : i ≤ s.length
      · rw [h2 i hle] at hi; cases hi
      · simp [Lib.occAt, List.drop_of_length_le (Nat.le_of_lt (Nat.lt_of_not_le hle))] at hi
  · rw [h1]
    exact ⟨fun _ => ⟨i, h3⟩, fun _ => by simp⟩
theorem contains_words (w : List UInt8) (hw : 32 ∉ w) (hne : w ≠ []) (ws : List (List UInt8)) (hall : ∀ x ∈ ws, 32 ∉ x) : Lib.contains (joinT ws) (32 :: (w ++ [32])) = decide (w ∈ ws) := by
  rw [Bool.eq_iff_iff, contains_iff, occ_words w hw hne ws hall]
  simp
theorem contains_blank (s : List UInt8) : Lib.contains s [32] = decide (32 ∈ s) := by
  rw [Bool.eq_iff_iff, contains_iff]
  simp only [Lib.occAt, decide_eq_true_eq]
  constructor
  · rintro ⟨i, h⟩
    cases hd : s.drop i with
    | nil => rw [hd] at h; simp [List.isPrefixOf] at h
    | cons c r =>
      rw [hd] at h
      have : (32 : UInt8) = c := by simpa [List.isPrefixOf] using h
      exact List.mem_of_mem_drop (i := i) (by rw [hd, this]; simp)
  · intro h
    obtain ⟨i, hi, e⟩ := List.mem_iff_getElem.1 h
    refine ⟨i, ?_⟩
    rw [List.drop_eq_getElem_cons hi, e]
    simp [List.isPrefixOf]
theorem takes_blank (l : List UInt8) (h : l = [] ∨ 32 ∈ l) : takesL l = -1 := by
  have h1 : ∀ x ∈ onesL, ¬ (x = [] ∨ 32 ∈ x) := by decide
  have h2 : ∀ x ∈ twosL, ¬ (x = [] ∨ 32 ∈ x) := by decide
  unfold takesL
  rw [if_neg (fun e => by subst e; revert h; decide), if_neg (fun e => h1 _ e h), if_neg (fun e => h2 _ e h)]
def tW0 : ByteArray := ⟨#[32, 105, 110, 32]⟩
def tW1 : ByteArray := ⟨#[32, 110, 101, 103, 32, 110, 111, 116, 32, 108, 101, 110, 32, 105, 56, 32, 105, 49, 54, 32, 105, 51, 50, 32, 117, 56, 32, 117, 49, 54, 32, 117, 51, 50, 32, 102, 115, 116, 32, 115, 110, 100, 32, 99, 101, 108, 108, 32, 103, 101, 116, 32, 111, 117, 116, 32]⟩
def tW2 : ByteArray := ⟨#[32, 43, 32, 45, 32, 42, 32, 47, 32, 37, 32, 97, 110, 100, 32, 111, 114, 32, 120, 111, 114, 32, 115, 104, 108, 32, 115, 104, 114, 32, 117, 115, 104, 114, 32, 60, 32, 61, 32, 99, 97, 116, 32, 97, 116, 32, 112, 97, 105, 114, 32, 115, 101, 116, 32]⟩
theorem tW0_is (w : List UInt8) (hw : 32 ∉ w) (hne : w ≠ []) : Lib.contains tW0.data.toList (32 :: (w ++ [32])) = decide (w = [105, 110]) := by
  have : tW0.data.toList = joinT [[105, 110]] := rfl
  rw [this, contains_words w hw hne _ (by decide)]
  simp
theorem tW1_is (w : List UInt8) (hw : 32 ∉ w) (hne : w ≠ []) : Lib.contains tW1.data.toList (32 :: (w ++ [32])) = decide (w ∈ onesL) := by
  have : tW1.data.toList = joinT onesL := rfl
  rw [this, contains_words w hw hne _ (by decide)]
theorem tW2_is (w : List UInt8) (hw : 32 ∉ w) (hne : w ≠ []) : Lib.contains tW2.data.toList (32 :: (w ++ [32])) = decide (w ∈ twosL) := by
  have : tW2.data.toList = joinT twosL := rfl
  rw [this, contains_words w hw hne _ (by decide)]
set_option maxRecDepth 100000 in
set_option maxHeartbeats 4000000 in
theorem words_calls (w : World) : Calls Tryd.prog 38 #[] w fun e w' => e = .returned (.agg #[.string tW0, .string tW1, .string tW2]) ∧ Chg (fun _ => False) w w' := by
  go_enter Tryd.func38, Tryd.ntmps38
  go_wp2_with fail
  refine bodyPost_ret (results_cell_row rfl _ _ w.heap.size 72 _ (0, 0) _ rfl (blk_new w _) Tryd.underlying72 rfl (by kernel_rfl)) rfl ?_
  exact ⟨rfl, (Chg.refl _ w).alloc _⟩
theorem sub_list (s : ByteArray) : ((⟨#[32]⟩ ++ s ++ ⟨#[32]⟩ : ByteArray)).data.toList = 32 :: (s.data.toList ++ [32]) := by simp
theorem run_ix (z : Int) (k : Nat) (hz : z = (k : Int)) (hk : k < 3) (t : ByteArray) (ht : #[tW0, tW1, tW2][k]? = some t) (W : World) : (Instr.index 72 (.agg #[.string tW0, .string tW1, .string tW2]) (.int .i64 z)).run Tryd.prog W = .ok (.string t) W := by
  subst hz
  rcases (show k = 0 ∨ k = 1 ∨ k = 2 by omega) with rfl | rfl | rfl <;> (cases ht; kernel_rfl)
/-- Is a word among the words that take so many parts? -/
def hit (l : List UInt8) : Nat → Bool
  | 0 => decide (l = [105, 110])
  | 1 => decide (l ∈ onesL)
  | 2 => decide (l ∈ twosL)
  | _ => false
theorem takes_hit (l : List UInt8) (k : Nat) (h : hit l k = true) (hn : ∀ j, j < k → hit l j = false) : takesL l = k := by
  unfold takesL
  match k with
  | 0 => rw [if_pos (of_decide_eq_true h)]; rfl
  | 1 => rw [if_neg (of_decide_eq_false (hn 0 (by omega))), if_pos (of_decide_eq_true h)]; rfl
  | 2 => rw [if_neg (of_decide_eq_false (hn 0 (by omega))), if_neg (of_decide_eq_false (hn 1 (by omega))), if_pos (of_decide_eq_true h)]; rfl
  | k + 3 => cases h
theorem takes_no (l : List UInt8) (hn : ∀ j, j < 3 → hit l j = false) : takesL l = -1 := by
  unfold takesL
  rw [if_neg (of_decide_eq_false (hn 0 (by omega))), if_neg (of_decide_eq_false (hn 1 (by omega))), if_neg (of_decide_eq_false (hn 2 (by omega)))]
def tWs : Nat → ByteArray
  | 0 => tW0
  | 1 => tW1
  | _ => tW2
theorem tWs_is (w : List UInt8) (hw : 32 ∉ w) (hne : w ≠ []) (k : Nat) (hk : k < 3) : Lib.contains (tWs k).data.toList (32 :: (w ++ [32])) = hit w k := by
  match k, hk with
  | 0, _ => exact tW0_is w hw hne
  | 1, _ => exact tW1_is w hw hne
  | 2, _ => exact tW2_is w hw hne
theorem tWs_size (k : Nat) : (tWs k).size ≤ 4096 := by
  match k with
  | 0 => decide
  | 1 => decide
  | k + 2 => show tW2.size ≤ 4096; decide
set_option maxRecDepth 100000 in
set_option maxHeartbeats 4000000 in
theorem ttakes_calls (s : ByteArray) (m : Int) (w : World) (hs : s.size ≤ 1048576) (hm : w.cell? ⟨0, 0, none⟩ = some (.int .i64 m)) :
    Calls Tryd.prog 29 #[.string s] w fun e w' => e = .returned (.int .i64 (takes s)) ∧ Chg (fun _ => False) w w' := by
  have HM := Lib.hid hm
  have HS := Lib.hid hs
  have HB := Lib.hid (Tryd.strings_Contains s ⟨#[32]⟩ m w (by omega) hm)
  obtain ⟨res, hres⟩ : ∃ res, takes s = res := ⟨_, rfl⟩
  have HRES := Lib.hid hres
  rw [hres]
  clear hm hres hs
  go_enter Tryd.func29, Tryd.ntmps29
  by_cases he : s = ⟨#[]⟩
  · have hr : res = -1 := by rw [← HRES.out]; exact takes_blank _ (.inl (by rw [he]))
    subst he
    subst hr
    go_wp2_with fail
    go_ret
    exact ⟨rfl, Chg.refl _ _⟩
  · have h1 := str_ne2 he
    have hdl : s.data.toList ≠ [] := fun e => he (by cases s with | mk a => congr 1; simpa using e)
    have h1b : s.toList.isEmpty = false := by rw [ByteArray.toList_eq]; simpa using hdl
    have HDL := Lib.hid hdl
    clear hdl h1
    cases hb : Lib.contains s.data.toList (⟨#[32]⟩ : ByteArray).data.toList with
    | true =>
      rw [hb] at HB
      have hr : res = -1 := by
        rw [← HRES.out]
        refine takes_blank _ (.inr ?_)
        have := hb
        rw [show (⟨#[32]⟩ : ByteArray).data.toList = [32] from rfl, contains_blank] at this
        exact of_decide_eq_true this
      subst hr
      clear hb
      go_wp2_with fail
      refine HB.out.mono ?_
      rintro e w1 ⟨rfl, hq⟩
      obtain rfl : w = w1 := hq.symm
      go_wp2_with fail
      go_ret
      exact ⟨rfl, Chg.refl _ _⟩
    | false =>
      rw [hb] at HB
      have HN : Hid (32 ∉ s.data.toList) := Lib.hid (by
        have := hb
        rw [show (⟨#[32]⟩ : ByteArray).data.toList = [32] from rfl, contains_blank] at this
        exact of_decide_eq_false this)
      clear hb
      go_wp2_with fail
      refine HB.out.mono ?_
      rintro e w1 ⟨rfl, hq⟩
      obtain rfl : w = w1 := hq.symm
      have HW := Lib.hid (words_calls w)
      go_wp2_with fail
      refine HW.out.mono ?_
      rintro e w1 ⟨rfl, hC1⟩
      have HC1 := Lib.hid hC1
      clear hC1
      go_wp2_with fail
      have HCON := Lib.hid (fun W (hW : Chg (fun _ => False) w W) k (hk : k < 3) => by
        have h := Tryd.strings_Contains (tWs k) (⟨#[32]⟩ ++ s ++ ⟨#[32]⟩) m W (by have := tWs_size k; omega) (hW.cell HM.out (fun e => e))
        rw [sub_list, tWs_is _ HN.out HDL.out k hk] at h
        exact h)
      clear HB HW
      go_loopg [12] 4 (fun g vi wr => ∃ (z : Int), vi = .int .i64 z ∧ 0 ≤ z ∧ z ≤ 3 ∧ 3 < g + z.toNat ∧ Hid (Chg (fun _ => False) w wr) ∧ Hid (∀ j : Nat, (j : Int) < z → hit s.data.toList j = false))
      case atStart => exact ⟨0, rfl, by omega, by omega, by omega, HC1, Lib.hid fun j hj => by omega⟩
      case round =>
        obtain ⟨z, rfl, hz0, hz3, hg, hCw, hno⟩ := hrel
        by_cases hlt : z < 3
        · obtain ⟨gk', rfl⟩ : ∃ q, gk = q + 1 := ⟨gk - 1, by omega⟩
          obtain ⟨k, hk⟩ : ∃ k, z.toNat = k := ⟨_, rfl⟩
          have hzk : z = (k : Int) := by omega
          have hk3 : k < 3 := by omega
          have HCN := Lib.hid (HCON.out wr hCw.out k hk3)
          clear hk HCON
          cases hh : hit s.data.toList k with
          | true =>
            have hr : res = z := by rw [← HRES.out, hzk]; exact takes_hit _ k hh (fun j hj => hno.out j (by omega))
            rw [hh] at HCN
            subst hr
            clear hh hlt hz0 hz3 hg
            rcases (show k = 0 ∨ k = 1 ∨ k = 2 by omega) with rfl | rfl | rfl
            all_goals
              have hs := HS.out
              have hix := run_ix res _ hzk (by omega) _ rfl
              first | obtain rfl : res = 0 := hzk | obtain rfl : res = 1 := hzk | obtain rfl : res = 2 := hzk
              clear hk3
              go_wp2_with fail
              refine HCN.out.mono ?_
              rintro e w1 ⟨rfl, hq⟩
              obtain rfl : wr = w1 := hq.symm
              go_wp2_with fail
              go_ret
              exact ⟨rfl, hCw.out⟩
          | false =>
            rw [hh] at HCN
            have HNO : Hid (∀ j : Nat, (j : Int) < z + 1 → hit s.data.toList j = false) := Lib.hid fun j hj => by
              by_cases hjk : j = k
              · rw [hjk]; exact hh
              · exact hno.out j (by omega)
            clear hh hno
            rcases (show k = 0 ∨ k = 1 ∨ k = 2 by omega) with rfl | rfl | rfl
            all_goals
              have hs := HS.out
              have hix := run_ix z _ hzk (by omega) _ rfl
              first | obtain rfl : z = 0 := hzk | obtain rfl : z = 1 := hzk | obtain rfl : z = 2 := hzk
              clear hk3
              go_wp2_with fail
              refine HCN.out.mono ?_
              rintro e w1 ⟨rfl, hq⟩
              obtain rfl : wr = w1 := hq.symm
              go_wp2_with fail
              go_roundg gk'
              case measure => omega
              case rel => exact ⟨_, by go_num, by omega, by omega, by omega, hCw, HNO⟩
        · obtain rfl : z = 3 := by omega
          have hr : res = -1 := by rw [← HRES.out]; exact takes_no _ fun j hj => hno.out j (by omega)
          subst hr
          go_wp2_with fail
          go_ret
          exact ⟨rfl, hCw.out⟩
def Gm (w : World) : Prop := Lx.Glob w ∧ ∃ m, w.cell? ⟨0, 0, none⟩ = some (.int .i64 m)
theorem Gm.later {w w' : World} (h : Gm w) (hc : Chg (fun _ => False) w w') : Gm w' :=
  ⟨glob_later h.1 hc, h.2.imp fun m hm => hc.cell hm (fun e => e)⟩
end Go.Proofs.YtaklmocjaokkpaaDoor.Tr
