/- The statement LexJoins, walked: true. Condition: the two errors of strconv hold interface values. -/
import Derived.Test.YtkidnmjaioejaabDoorLexLaw1
import Derived.Test.YtkidnmjaioejaabDoorLexJoinPlain
import Derived.Test.YtkidnmjaioejaabDoorLexWordWalk
import Derived.Test.YtkidnmjaioejaabDoorLexNumber
import Derived.Test.YtkidnmjaioejaabDoorLexAppend
import Derived.Test.YtkidnmjaioejaabDoorLexPlacesPlain
namespace Go.Proofs.YtkidnmjaioejaabDoor.Lx
set_option linter.unusedVariables false
set_option linter.unusedSimpArgs false
open Go.RowKit Go.Proofs.YtkidnmjaioejaabDoor.Mem

def z0 : Tok := ⟨0, [], 0, 0⟩
/-- A row of tokens, and the block that it lies in (if any). -/
theorem row_cur {w : World} {base : Nat} {v : Value} {l : List Tok} (h : w.ownsRow base 33 4 v l.length (l.flatMap tokCells)) :
    (v = .slice none 0 0 ∧ l = []) ∨ ∃ g cap cur, v = .slice (some ⟨g, 0, none⟩) l.length cap ∧ base ≤ g ∧ w.heap[g]? = some (.cells cur 33 (0, 0)) ∧ cur.size = cap * 4 ∧ l.length ≤ cap ∧ ∀ j i, j < l.length → i < 4 → cur[j * 4 + i]? = (tokCells (l.getD j z0))[i]? := by
  rcases h.2 with ⟨h1, h2⟩ | ⟨g, cap, cur, h1, h2, h3, h4, h5, h6, h7⟩
  · exact .inl ⟨h1, List.length_eq_zero_iff.1 h2⟩
  · refine .inr ⟨g, cap, cur, h1, h2, h3, h6, h4, fun j i hj hi => ?_⟩
    have e := flat_get l j i hj hi
    rw [← h7, List.getElem?_take, if_pos (by omega), Array.getElem?_toList] at e
    rw [e]; simp [hj]
/-- The second row, the first k tokens of it moved on. -/
def mk (D : Nat) (m : List Tok) (k j : Nat) : Tok := if j < k then sh D (m.getD j z0) else m.getD j z0
theorem mk_set {D : Nat} {m : List Tok} {k : Nat} {cur : Array Value} (hk : k < m.length) (hc : ∀ j i, j < m.length → i < 4 → cur[j * 4 + i]? = (tokCells (mk D m k j))[i]?) (x : Int) (hx : x = ((m.getD k z0).at_ : Int) + (D : Int)) :
    ∀ j i, j < m.length → i < 4 → (cur.setIfInBounds (k * 4 + 3) (.int .i64 x))[j * 4 + i]? = (tokCells (mk D m (k + 1) j))[i]? := by
  intro j i hj hi
  have h0 := hc j i hj hi
  rw [Array.getElem?_setIfInBounds]
  by_cases e : k * 4 + 3 = j * 4 + i
  · have ej : j = k := by omega
    have ei : i = 3 := by omega
    subst ej ei
    have hs : j * 4 + 3 < cur.size := by
      rcases Nat.lt_or_ge (j * 4 + 3) cur.size with h | h
      · exact h
      · rw [Array.getElem?_eq_none h] at h0
        simp [tokCells] at h0
    rw [if_pos rfl, if_pos hs]
    simp only [mk, if_pos (show j < j + 1 by omega), tokCells, sh, List.getElem?_cons_succ, List.getElem?_cons_zero, hx]
    congr 2; push_cast; omega
  · rw [if_neg e, h0]
    by_cases ej : j = k
    · subst ej
      have : i = 0 ∨ i = 1 ∨ i = 2 := by omega
      simp only [mk, Nat.lt_irrefl, if_false, if_pos (show j < j + 1 by omega)]
      rcases this with rfl | rfl | rfl <;> rfl
    · have : (j < k) = (j < k + 1) := by apply propext; omega
      simp only [mk, this]
theorem add_is (g j : Nat) : (⟨g, 0, none⟩ : Addr).add j = ⟨g, j, none⟩ := by
  unfold Addr.add
  by_cases h : j = 0 <;> simp [h]
theorem mk_zero (D : Nat) (m : List Tok) (j : Nat) : mk D m 0 j = m.getD j z0 := by simp [mk]
/-- The second row's cells, all of it moved on, as a list. -/
theorem mk_news {D : Nat} {m : List Tok} {cur : Array Value} (hc : ∀ (j i : Nat), j < m.length → i < 4 → cur[j * 4 + i]? = (tokCells (mk D m m.length j))[i]?) :
    ∀ (j : Nat) (u : Value), ((m.map (sh D)).flatMap tokCells)[j]? = some u → cur[j]? = some u := by
  intro j u hj
  have hl : ((m.map (sh D)).flatMap tokCells).length = m.length * 4 := by
    clear hc hj
    induction m with
    | nil => rfl
    | cons t m ih => simp only [List.map_cons, List.flatMap_cons, List.length_append, ih, List.length_cons]; show 4 + _ = _; omega
  have h1 : j < m.length * 4 := by rw [← hl]; exact (List.getElem?_eq_some_iff.1 hj).1
  have e : j = j / 4 * 4 + j % 4 := by omega
  have h2 := flat_get (m.map (sh D)) (j / 4) (j % 4) (by simp; omega) (by omega)
  have h3 := hc (j / 4) (j % 4) (by omega) (by omega)
  rw [← e] at h2 h3
  rw [h3, ← hj, h2]
  have h4 : j / 4 < m.length := by omega
  simp [mk, h4]
theorem cells_len (l : List Tok) : (l.flatMap tokCells).length = l.length * 4 := by
  induction l with
  | nil => rfl
  | cons t l ih => simp only [List.flatMap_cons, List.length_append, ih, List.length_cons]; show 4 + _ = _; omega
theorem cells_one (l : List Tok) : ∀ u ∈ l.flatMap tokCells, u.oneCell' = true := fun u hu => by
  obtain ⟨t, _, ht⟩ := List.mem_flatMap.1 hu
  simp [tokCells] at ht
  rcases ht with rfl | rfl | rfl | rfl <;> rfl
theorem str_app3 (a b : ByteArray) : a ++ (⟨#[10]⟩ : ByteArray) ++ b = ⟨(a.data.toList ++ 10 :: b.data.toList).toArray⟩ := by
  apply ByteArray.ext; simp

set_option maxRecDepth 100000 in
set_option maxHeartbeats 6000000 in
theorem lexJoins_calls (a b : ByteArray) (w : World) (hg : Glob w) : Calls Tryd.prog 5 #[.string a, .string b] w fun e w' => e = .returned (.bool true) ∧ Below w.heap.size w w' := by
  by_cases hla : 3000 < a.size
  · have H := Lib.hid (awake_calls w hg)
    clear hg
    go_enter Tryd.func5, Tryd.ntmps5
    go_wp2_with fail
    refine H.out.mono ?_
    rintro e w1 ⟨rfl, hb⟩
    have HB := Lib.hid hb
    clear hb H
    go_wp2_with fail
    go_ret
    exact ⟨rfl, HB.out⟩
  by_cases hlb : 3000 < b.size
  · have H := Lib.hid (awake_calls w hg)
    clear hg
    go_enter Tryd.func5, Tryd.ntmps5
    go_wp2_with fail
    refine H.out.mono ?_
    rintro e w1 ⟨rfl, hb⟩
    have HB := Lib.hid hb
    clear hb H
    go_wp2_with fail
    go_ret
    exact ⟨rfl, HB.out⟩
  rcases hta : tokens a.data.toList with ⟨pa, na⟩ | l
  · have hn : ((na : Int) == 0) = false := wtokens_no hta
    have H1 := Lib.hid (tokens_err a w hg pa na hta)
    have HG := Lib.hid hg
    have H2 : Hid (∀ w, Glob w → Calls Tryd.prog 10 #[.string b] w fun e w' => (∃ v p n, e = .returned (.tuple #[v, .int .i64 p, .int .i64 n])) ∧ Below w.heap.size w w') := fun w hg => by
      rcases htb : tokens b.data.toList with ⟨pb, nb⟩ | m
      · exact (tokens_err b w hg pb nb htb).mono fun e w' ⟨h1, h2⟩ => ⟨⟨_, _, _, h1⟩, h2⟩
      · exact (tokens_ok b w hg m htb).mono fun e w' ⟨⟨v, h1, _⟩, h2⟩ => ⟨⟨_, _, _, h1⟩, h2⟩
    clear hg hta
    go_enter Tryd.func5, Tryd.ntmps5
    go_wp2_with fail
    refine H1.out.mono ?_
    rintro e w1 ⟨rfl, hb1⟩
    have HB1 := Lib.hid hb1
    clear hb1
    go_wp2_with fail
    refine (H2.out w1 (HG.out.later HB1.out)).mono ?_
    rintro e w2 ⟨⟨v2, p2, n2, rfl⟩, hb2⟩
    have HB2 : Hid (Below w.heap.size w w2) := HB1.out.trans (hb2.mono HB1.out.size)
    clear hb2
    go_wp2_with fail
    refine (awake_calls _ (by exact HG.out.later HB2.out)).mono ?_
    rintro e w4 ⟨rfl, hb4⟩
    have HB4 : Hid (Below w.heap.size w w4) := HB2.out.trans (hb4.mono HB2.out.size)
    clear hb4
    go_wp2_with fail
    go_ret
    exact ⟨rfl, HB4.out⟩
  rcases htb : tokens b.data.toList with ⟨pb, nb⟩ | m
  · have hn : ((nb : Int) == 0) = false := wtokens_no htb
    have H1 := Lib.hid (tokens_ok a w hg l hta)
    have HG := Lib.hid hg
    have H2 := Lib.hid (fun w hg => tokens_err b w hg pb nb htb)
    clear hg hta htb
    go_enter Tryd.func5, Tryd.ntmps5
    go_wp2_with fail
    refine H1.out.mono ?_
    rintro e w1 ⟨⟨v1, rfl, ho1⟩, hb1⟩
    have HB1 := Lib.hid hb1
    clear hb1 ho1
    go_wp2_with fail
    refine (H2.out w1 (HG.out.later HB1.out)).mono ?_
    rintro e w2 ⟨rfl, hb2⟩
    have HB2 : Hid (Below w.heap.size w w2) := HB1.out.trans (hb2.mono HB1.out.size)
    clear hb2
    go_wp2_with fail
    refine (awake_calls _ (by exact HG.out.later HB2.out)).mono ?_
    rintro e w4 ⟨rfl, hb4⟩
    have HB4 : Hid (Below w.heap.size w w4) := HB2.out.trans (hb4.mono HB2.out.size)
    clear hb4
    go_wp2_with fail
    go_ret
    exact ⟨rfl, HB4.out⟩
  obtain ⟨u, hu⟩ : ∃ u, u = a.data.toList ++ 10 :: b.data.toList := ⟨_, rfl⟩
  obtain ⟨L, hL⟩ : ∃ L, L = l ++ m.map (sh (a.size + 1)) := ⟨_, rfl⟩
  have htj : tokens (⟨u.toArray⟩ : ByteArray).data.toList = .ok L := by
    show tokens u.toArray.toList = _
    rw [hu, hL, List.toList_toArray, tokens_join hta htb (by rw [len_is, len_is]; omega), len_is]
  have hJ : a ++ (⟨#[10]⟩ : ByteArray) ++ b = ⟨u.toArray⟩ := by rw [hu]; exact str_app3 a b
  have hLl : L.length = l.length + m.length := by rw [hL]; simp
  have H1 : Hid (Calls Tryd.prog 10 #[.string a] w fun e w' => (∃ v, e = .returned (.tuple #[v, .int .i64 0, .int .i64 0]) ∧ w'.ownsRow w.heap.size 33 4 v l.length (l.flatMap tokCells) ∧ l.length ≤ a.size) ∧ Below w.heap.size w w') := by
    have := tokens_calls a w hg; rw [hta] at this; exact this
  have H2 : Hid (∀ w, Glob w → Calls Tryd.prog 10 #[.string b] w fun e w' => (∃ v, e = .returned (.tuple #[v, .int .i64 0, .int .i64 0]) ∧ w'.ownsRow w.heap.size 33 4 v m.length (m.flatMap tokCells) ∧ m.length ≤ b.size) ∧ Below w.heap.size w w') := fun w hg => by
    have := tokens_calls b w hg; rw [htb] at this; exact this
  have H3 := Lib.hid (fun w hg => tokens_ok ⟨u.toArray⟩ w hg L htj)
  have HG := Lib.hid hg
  have HLL := Lib.hid hL
  have HR := Lib.hid (tokens_good htb)
  clear hg hta htb htj hu hL
  go_enter Tryd.func5, Tryd.ntmps5
  go_wp2_with fail
  refine H1.out.mono ?_
  rintro e w1 ⟨⟨v1, rfl, ho1, hl1⟩, hb1⟩
  have HB1 := Lib.hid hb1
  have HO1 := Lib.hid ho1
  clear hb1 ho1
  go_wp2_with fail
  refine (H2.out w1 (HG.out.later HB1.out)).mono ?_
  rintro e w2 ⟨⟨v2, rfl, ho2, hl2⟩, hb2⟩
  have HB2 : Hid (Below w.heap.size w w2) := HB1.out.trans (hb2.mono HB1.out.size)
  have HB12 := Lib.hid hb2
  have HO2 := Lib.hid ho2
  clear hb2 ho2
  go_wp2_with fail
  refine (H3.out w2 (HG.out.later HB2.out)).mono ?_
  rintro e w3 ⟨⟨v3, rfl, ho3⟩, hb3⟩
  have HB3 : Hid (Below w.heap.size w w3) := HB2.out.trans (hb3.mono HB2.out.size)
  have HB23 := Lib.hid hb3
  have HO3 := Lib.hid ho3
  obtain ⟨ad3, cap3, rfl⟩ : ∃ ad cap, v3 = .slice ad (l.length + m.length) cap := by
    rw [← hLl]
    rcases row_cur ho3 with ⟨rfl, e⟩ | ⟨g, cap, cur, rfl, _⟩
    · rw [e]; exact ⟨_, _, rfl⟩
    · exact ⟨_, _, rfl⟩
  clear hb3 ho3
  rcases row_cur HO2.out with ⟨rfl, rfl⟩ | ⟨g2, cap2, cur2, rfl, hg2, hc2, hz2, hn2, hx2⟩
  · rcases row_cur HO1.out with ⟨rfl, rfl⟩ | ⟨g1, cap1, cur1, rfl, hg1, hc1, hz1, hn1, hx1⟩
    · have hla2 : a.size + 1 ≤ 3001 := by omega
      go_wp2_with fail
      refine wp_loop_rounds 1 ?_
      rw [rounds_succ]
      go_wp2_with fail
      have hLe : L = [] := HLL.out
      have h31 : (w3.alloc (.cells #[] 33)).ownsRow w2.heap.size 33 4 (.slice ad3 0 cap3) L.length (L.flatMap tokCells) := World.ownsRow.alloc HO3.out _
      have h32 : (w3.alloc (.cells #[] 33)).ownsRow w3.heap.size 33 4 (.slice (some ⟨w3.heap.size, 0, none⟩) 0 0) L.length (L.flatMap tokCells) := by
        rw [hLe]
        exact World.ownsRow_made (base := w3.heap.size) (e := 33) (size := 4) w3 #[] 0 (Nat.le_refl _) (by decide) rfl
      have SW : Hid (Below w.heap.size w (w3.alloc (.cells #[] 33))) := HB3.out.alloc HB3.out.size _
      refine (same_calls _ _ L _ _ _ (by omega) (h31) (h32)).mono ?_
      rintro e w5 ⟨rfl, mm, rfl⟩
      go_wp2_with fail
      refine (awake_calls _ (by exact HG.out.later (below_drewN SW.out mm))).mono ?_
      rintro e w6 ⟨rfl, hb6⟩
      have HB6 : Hid (Below w.heap.size w w6) := (below_drewN SW.out mm).trans (hb6.mono (below_drewN SW.out mm).size)
      clear hb6
      go_wp2_with fail
      go_ret
      exact ⟨rfl, HB6.out⟩
    · obtain ⟨iT, hj0, hy0, hy1, hy2⟩ := info_parts infoT
      have hla2 : a.size + 1 ≤ 3001 := by omega
      have hLe : L = l := by rw [HLL.out]; simp
      have O13 : Hid (w3.ownsRow w.heap.size 33 4 (.slice (some ⟨g1, 0, none⟩) l.length cap1) l.length (l.flatMap tokCells)) :=
        Chg.owns (F := fun _ => False) (((Chg.refl _ w1).callee HB12.out).callee HB23.out) HO1.out (fun _ _ h => h)
      have hfl : (l.flatMap tokCells).length = l.length * 4 := O13.out.1
      have hq : ∀ u ∈ l.flatMap tokCells, u.oneCell' = true := fun u hu => by
        obtain ⟨t, _, ht⟩ := List.mem_flatMap.1 hu
        simp [tokCells] at ht
        rcases ht with rfl | rfl | rfl | rfl <;> rfl
      have HQ := Lib.hid hq
      have HF := Lib.hid hfl
      have h00 : Hid ((w3.alloc (.cells #[] 33)).ownsRow w3.heap.size 33 4 (.slice (some ⟨w3.heap.size, 0, none⟩) 0 0) 0 []) :=
        World.ownsRow_made (base := w3.heap.size) (e := 33) (size := 4) w3 #[] 0 (Nat.le_refl _) (by decide) rfl
      clear hq hfl
      go_wp2_with fail
      refine wp_loop_rounds 1 ?_
      rw [rounds_succ]
      go_wp2_with (at_builtin; refine wpList_append_own _ rfl _ _ 23 rfl w3.heap.size 33 iT _ 4 40 Tryd.underlying23 hj0 hy0 hy1 hy2 rfl (by decide) _ _ _ rfl h00.out ⟨g1, 0, none⟩ l.length cap1 (l.flatMap tokCells) rfl HF.out ?ya1 HQ.out ?ya3 ?ya4 ?ya5 ?_)
      case ya1 =>
        intro j u hj
        have hj2 : j < l.length * 4 := by rw [← HF.out]; exact (List.getElem?_eq_some_iff.1 hj).1
        have := (World.ownsRow.alloc O13.out (.cells #[] 33)).cellAt j hj2
        rw [hj] at this
        rw [add_is]; exact this
      case ya3 => unfold maxLen; omega
      case ya4 => omega
      case ya5 => simp
      intro v' w4 hown' hgrow _
      have K4 : Hid (Chg (fun _ => False) w3 w4) := ((Chg.refl _ w3).alloc _).grown hgrow (fun k hk e => by
        have : w3.heap.size = k := by simpa [Value.ownBlock] using e
        omega)
      have O4 : w4.ownsRow w3.heap.size 33 4 v' l.length (l.flatMap tokCells) := by simpa using hown'
      have h31 : w4.ownsRow w2.heap.size 33 4 (.slice ad3 l.length cap3) L.length (L.flatMap tokCells) := Chg.owns K4.out HO3.out (fun _ _ h => h)
      have h32 : w4.ownsRow w3.heap.size 33 4 v' L.length (L.flatMap tokCells) := by rw [hLe]; exact O4
      have SW : Hid (Below w.heap.size w w4) := HB3.out.trans (K4.out.toBelow HB3.out.size (fun _ _ h => h.elim))
      clear hown' hgrow
      have hfin : ∃ ad c, l.length ≤ c ∧ v' = .slice ad l.length c := by
        rcases row_cur O4 with ⟨e1, e⟩ | ⟨g, cap, cur, e1, _, _, _, hn, _⟩
        · rw [e1, e]; exact ⟨_, _, Nat.le_refl _, rfl⟩
        · exact ⟨_, _, hn, e1⟩
      obtain ⟨ad4, cap4, hn4, rfl⟩ := hfin
      go_wp2_with (at_builtin; refine wpList_append_nothing _ rfl _ _ 23 rfl 33 iT Tryd.underlying23 hj0 ad4 l.length cap4 hn4 rfl rfl ?_)
      all_goals
        refine (same_calls _ _ L _ _ _ (by omega) h31 h32).mono ?_
        rintro e w5 ⟨rfl, mm, rfl⟩
        go_wp2_with fail
        refine (awake_calls _ (by exact HG.out.later (below_drewN SW.out mm))).mono ?_
        rintro e w6 ⟨rfl, hb6⟩
        have HB6 : Hid (Below w.heap.size w w6) := (below_drewN SW.out mm).trans (hb6.mono (below_drewN SW.out mm).size)
        clear hb6
        go_wp2_with fail
        go_ret
        exact ⟨rfl, HB6.out⟩
  · obtain ⟨iT, hj0, hy0, hy1, hy2⟩ := info_parts infoT
    have hla2 : a.size + 1 ≤ 3001 := by omega
    have hg2s : g2 < w2.heap.size := lt_of_block hc2
    have hg2w : w.heap.size ≤ g2 := Nat.le_trans HB1.out.size hg2
    have HX : Hid (∀ (j i : Nat), j < m.length → i < 4 → cur2[j * 4 + i]? = (tokCells (mk (a.size + 1) m 0 j))[i]?) := fun j i hj hi => by rw [mk_zero]; exact hx2 j i hj hi
    have HK2 : Hid (w3.heap[g2]? = some (.cells cur2 33 (0, 0))) := blk_below HB23.out hc2 hg2s
    have HAT : Hid (∀ k, k < m.length → (m.getD k z0).at_ < 3000) := fun k hk => by
      have hmem : m.getD k z0 ∈ m := by simp [hk]
      have := (HR.out.2 _ hmem).1
      rw [len_is] at this
      omega
    have O13 : Hid (w3.ownsRow w.heap.size 33 4 v1 l.length (l.flatMap tokCells)) :=
      Chg.owns (F := fun _ => False) (((Chg.refl _ w1).callee HB12.out).callee HB23.out) HO1.out (fun _ _ h => h)
    have hv1 : ∃ ad1 cap1, l.length ≤ cap1 ∧ v1 = .slice ad1 l.length cap1 ∧ Hid ((ad1 = none ∧ cap1 = 0 ∧ l = []) ∨ ∃ g1, g1 < w1.heap.size ∧ ad1 = some ⟨g1, 0, none⟩) := by
      rcases row_cur HO1.out with ⟨rfl, rfl⟩ | ⟨g1, cap1, cur1, rfl, hg1, hc1, hz1, hn1, hx1⟩
      · exact ⟨_, _, Nat.le_refl _, rfl, .inl ⟨rfl, rfl, rfl⟩⟩
      · exact ⟨_, _, hn1, rfl, .inr ⟨_, lt_of_block hc1, rfl⟩⟩
    obtain ⟨ad1, cap1, hn1, rfl, HAD⟩ := hv1
    clear hx2 hc2
    go_wp2_with fail
    go_loopg [14] (m.length + 1) (fun g vi wr => ∃ (k : Nat) (cur : Array Value), vi = .int .i64 k ∧ k ≤ m.length ∧ m.length < g + k ∧ Hid (wr.heap[g2]? = some (.cells cur 33 (0, 0))) ∧ Hid (∀ (j i : Nat), j < m.length → i < 4 → cur[j * 4 + i]? = (tokCells (mk (a.size + 1) m k j))[i]?) ∧ Hid (Chg (· = g2) w3 wr))
    case atStart => exact ⟨0, cur2, rfl, by omega, by omega, HK2.out, HX.out, Chg.refl _ _⟩
    case round =>
      obtain ⟨k, cur, rfl, hk, hgk, hc, hx, hC⟩ := hrel
      by_cases hlt : k < m.length
      · obtain ⟨g, rfl⟩ : ∃ x, gk = x + 1 := ⟨gk - 1, by omega⟩
        have hat := HAT.out k hlt
        have a3 : wr.cell? ⟨g2, k * 4 + 3, none⟩ = some (.int .i64 ((m.getD k z0).at_ : Int)) := (cell_of hc.out _).trans ((hx.out k 3 hlt (by omega)).trans (by simp [mk, tokCells]))
        have f3 := free_of hc.out (k * 4 + 3)
        have i0 : (0 : Int) ≤ (k : Int) := by omega
        have i1 : (k : Int) < (m.length : Int) := by omega
        have hS : Hid (∀ x : Int, x = ((m.getD k z0).at_ : Int) + ((a.size + 1 : Nat) : Int) → (∃ cur' : Array Value, Hid ((wr.setCell ⟨g2, k * 4 + 3, none⟩ (.int .i64 x)).heap[g2]? = some (.cells cur' 33 (0, 0))) ∧ Hid (∀ (j i : Nat), j < m.length → i < 4 → cur'[j * 4 + i]? = (tokCells (mk (a.size + 1) m (k + 1) j))[i]?))) := fun x hx' =>
          ⟨_, blk_set hc.out _ _, mk_set hlt hx.out x hx'⟩
        have hC2 : Hid (∀ x : Int, Chg (· = g2) w3 (wr.setCell ⟨g2, k * 4 + 3, none⟩ (.int .i64 x))) := fun x => hC.out.set (fun _ => rfl) _
        generalize (m.getD k z0).at_ = p at *
        go_wp2_with fail
        go_roundg g
        case measure => omega
        case rel =>
          obtain ⟨cur', hc', hx'⟩ := hS.out ((p : Int) + ((a.size : Int) + 1)) (by push_cast; rfl)
          exact ⟨k + 1, cur', by go_num, by omega, by omega, hc'.out, hx'.out, hC2.out _⟩
      · have i2 : ¬ (k : Int) < (m.length : Int) := by omega
        obtain rfl : k = m.length := by omega
        have HNL : Hid (((m.map (sh (a.size + 1))).flatMap tokCells).length = m.length * 4) := Lib.hid ((cells_len _).trans (by rw [List.length_map]))
        have HQ : Hid (∀ u ∈ (m.map (sh (a.size + 1))).flatMap tokCells, u.oneCell' = true) := cells_one _
        have HNW := Lib.hid (mk_news hx.out)
        have h00 : Hid ((wr.alloc (.cells #[] 33)).ownsRow wr.heap.size 33 4 (.slice (some ⟨wr.heap.size, 0, none⟩) 0 0) 0 []) :=
          World.ownsRow_made (base := wr.heap.size) (e := 33) (size := 4) wr #[] 0 (Nat.le_refl _) (by decide) rfl
        have HW3 : Hid (∀ w' : World, Chg (fun _ => False) wr w' → ∀ (j : Nat) (u : Value), ((m.map (sh (a.size + 1))).flatMap tokCells)[j]? = some u → w'.cell? ((⟨g2, 0, none⟩ : Addr).add j) = some u) := fun w' hk' j u hj => by
          rw [add_is, cell_of (hk'.blk hc.out (fun h => h))]; exact HNW.out j u hj
        have HF31 : Hid (∀ w' : World, Chg (fun _ => False) wr w' → w'.ownsRow w2.heap.size 33 4 (.slice ad3 (l.length + m.length) cap3) L.length (L.flatMap tokCells)) := fun w' hk' =>
          Chg.owns hk' (Chg.owns hC.out HO3.out (fun k e hg => by have := (HO3.out.lt k e).1; omega)) (fun _ _ h => h)
        have HSW : Hid (∀ w' : World, Chg (fun _ => False) wr w' → Below w.heap.size w w') := fun w' hk' =>
          (HB3.out.trans (hC.out.toBelow HB3.out.size (fun k _ e => by rw [e]; exact hg2w))).trans (hk'.toBelow (Nat.le_trans HB3.out.size hC.out.size) (fun _ _ h => h.elim))
        have HL2 : Hid (L.flatMap tokCells = l.flatMap tokCells ++ (m.map (sh (a.size + 1))).flatMap tokCells) := Lib.hid (by rw [HLL.out, List.flatMap_append])
        clear hx
        rcases HAD.out with ⟨rfl, rfl, rfl⟩ | ⟨g1, hg1, rfl⟩
        · go_wp2_with (at_builtin; refine wpList_append_own _ rfl _ _ 23 rfl wr.heap.size 33 iT _ 4 40 Tryd.underlying23 hj0 hy0 hy1 hy2 rfl (by decide) _ 0 [] rfl h00.out ⟨g2, 0, none⟩ m.length cap2 ((m.map (sh (a.size + 1))).flatMap tokCells) rfl HNL.out (HW3.out _ ((Chg.refl _ wr).alloc _)) HQ.out ?ya3 ?ya4 ?ya5 ?_)
          case ya3 => unfold maxLen; omega
          case ya4 => omega
          intro v5 w5 hown' hgrow _
          have K5 : Hid (Chg (fun _ => False) wr w5) := ((Chg.refl _ wr).alloc _).grown hgrow (fun k hk e => by
            have : wr.heap.size = k := by simpa [Value.ownBlock] using e
            omega)
          have h31 : w5.ownsRow w2.heap.size 33 4 (.slice ad3 m.length cap3) L.length (L.flatMap tokCells) := by
            have h := HF31.out w5 K5.out
            rw [List.length_nil, Nat.zero_add] at h
            exact h
          have h32 : w5.ownsRow wr.heap.size 33 4 v5 L.length (L.flatMap tokCells) := by rw [HL2.out, hLl]; simpa using hown'
          have SW : Hid (Below w.heap.size w w5) := HSW.out w5 K5.out
          clear hown' hgrow
          go_wp2_with fail
          refine (same_calls _ _ L _ _ _ (by omega) h31 h32).mono ?_
          rintro e w6 ⟨rfl, mm, rfl⟩
          go_wp2_with fail
          refine (awake_calls _ (by exact HG.out.later (below_drewN SW.out mm))).mono ?_
          rintro e w7 ⟨rfl, hb7⟩
          have HB7 : Hid (Below w.heap.size w w7) := (below_drewN SW.out mm).trans (hb7.mono (below_drewN SW.out mm).size)
          clear hb7
          go_wp2_with fail
          go_ret
          exact ⟨rfl, HB7.out⟩
        · have hfl := cells_len l
          have HF := Lib.hid hfl
          have HQ1 : Hid (∀ u ∈ l.flatMap tokCells, u.oneCell' = true) := cells_one _
          have O1r : Hid (wr.ownsRow w.heap.size 33 4 (.slice (some ⟨g1, 0, none⟩) l.length cap1) l.length (l.flatMap tokCells)) :=
            Chg.owns hC.out O13.out (fun k e hg => by
              have : g1 = k := by simpa [Value.ownBlock] using e
              omega)
          clear hfl
          go_wp2_with (at_builtin; refine wpList_append_own _ rfl _ _ 23 rfl wr.heap.size 33 iT _ 4 40 Tryd.underlying23 hj0 hy0 hy1 hy2 rfl (by decide) _ 0 [] rfl h00.out ⟨g1, 0, none⟩ l.length cap1 (l.flatMap tokCells) rfl HF.out ?ya1 HQ1.out ?ya3 ?ya4 ?ya5 ?_)
          case ya1 =>
            intro j u hj
            have hj2 : j < l.length * 4 := by rw [← HF.out]; exact (List.getElem?_eq_some_iff.1 hj).1
            have := (World.ownsRow.alloc O1r.out (.cells #[] 33)).cellAt j hj2
            rw [hj] at this
            simpa only [add_is] using this
          case ya3 => unfold maxLen; omega
          case ya4 => omega
          intro v4 w4 hown' hgrow _
          have K4 : Hid (Chg (fun _ => False) wr w4) := ((Chg.refl _ wr).alloc _).grown hgrow (fun k hk e => by
            have : wr.heap.size = k := by simpa [Value.ownBlock] using e
            omega)
          have O4 : Hid (w4.ownsRow wr.heap.size 33 4 v4 l.length (l.flatMap tokCells)) := Lib.hid (by simpa using hown')
          clear hown' hgrow
          have hsz4 : wr.heap.size ≤ w4.heap.size := K4.out.size
          go_wp2_with (at_builtin; refine wpList_append_own _ rfl _ _ 23 rfl wr.heap.size 33 iT _ 4 40 Tryd.underlying23 hj0 hy0 hy1 hy2 rfl (by decide) v4 l.length (l.flatMap tokCells) rfl O4.out ⟨g2, 0, none⟩ m.length cap2 ((m.map (sh (a.size + 1))).flatMap tokCells) rfl HNL.out (HW3.out _ K4.out) HQ.out ?yb3 ?yb4 ?yb5 ?_)
          case yb3 => unfold maxLen; omega
          case yb4 => omega
          case yb5 => exact hsz4
          intro v5 w5 hown' hgrow _
          have K5 : Hid (Chg (fun _ => False) wr w5) := K4.out.grown hgrow (fun k hk e => by
            have := (O4.out.lt k e).1
            omega)
          have h31 := HF31.out w5 K5.out
          have h32 : w5.ownsRow wr.heap.size 33 4 v5 L.length (L.flatMap tokCells) := by rw [HL2.out, hLl]; exact hown'
          have SW : Hid (Below w.heap.size w w5) := HSW.out w5 K5.out
          clear hown' hgrow
          go_wp2_with fail
          refine (same_calls _ _ L _ _ _ (by omega) h31 h32).mono ?_
          rintro e w6 ⟨rfl, mm, rfl⟩
          go_wp2_with fail
          refine (awake_calls _ (by exact HG.out.later (below_drewN SW.out mm))).mono ?_
          rintro e w7 ⟨rfl, hb7⟩
          have HB7 : Hid (Below w.heap.size w w7) := (below_drewN SW.out mm).trans (hb7.mono (below_drewN SW.out mm).size)
          clear hb7
          go_wp2_with fail
          go_ret
          exact ⟨rfl, HB7.out⟩
end Go.Proofs.YtkidnmjaioejaabDoor.Lx
