/- slices.DeleteFunc at the cache's keys, walked: the keys that are not asked away stay, in order; the asking's own state goes on. -/
import Derived.Test.YtkidnmjaioejaaaCacheIndex
namespace Go.Proofs.Ytkidnmjaioejaaa.Cx
set_option linter.unusedVariables false
set_option linter.unusedSimpArgs false
open Go.RowKit Go.Proofs.Ytkidnmjaioejaaa.Mem Go.Maps

theorem list_set5 (X : List Value) (o : Nat) (a b c d e : Value) (h : o + 5 ≤ X.length) (j : Nat) :
    (((((X.set o a).set (o + 1) b).set (o + 2) c).set (o + 3) d).set (o + 4) e)[j]? = if o ≤ j ∧ j < o + 5 then [a, b, c, d, e][j - o]? else X[j]? := by
  simp only [List.getElem?_set, List.length_set]
  by_cases h0 : o ≤ j ∧ j < o + 5
  · rw [if_pos h0]
    have : j = o ∨ j = o + 1 ∨ j = o + 2 ∨ j = o + 3 ∨ j = o + 4 := by omega
    rcases this with rfl | rfl | rfl | rfl | rfl
    · rw [if_neg (by omega), if_neg (by omega), if_neg (by omega), if_neg (by omega), if_pos rfl, if_pos (by omega), Nat.sub_self]; rfl
    · rw [if_neg (by omega), if_neg (by omega), if_neg (by omega), if_pos rfl, if_pos (by omega), show o + 1 - o = 1 by omega]; rfl
    · rw [if_neg (by omega), if_neg (by omega), if_pos rfl, if_pos (by omega), show o + 2 - o = 2 by omega]; rfl
    · rw [if_neg (by omega), if_pos rfl, if_pos (by omega), show o + 3 - o = 3 by omega]; rfl
    · rw [if_pos rfl, if_pos (by omega), show o + 4 - o = 4 by omega]; rfl
  · rw [if_neg h0, if_neg (by omega), if_neg (by omega), if_neg (by omega), if_neg (by omega), if_neg (by omega)]
theorem kcells_set (m : List Key) (i : Nat) (x : Key) (hi : i < m.length) :
    ((((((m.flatMap kcells).set (i * 5) (.int .i64 x.p)).set (i * 5 + 1) (.int .i64 x.a)).set (i * 5 + 2) (.int .i64 x.b)).set (i * 5 + 3) (.int .i64 x.c)).set (i * 5 + 4) (.int .i64 x.d)) = (m.set i x).flatMap kcells := by
  have hl := kcells_len m
  apply List.ext_getElem?
  intro j
  rw [list_set5 _ _ _ _ _ _ _ (by omega)]
  rcases Nat.lt_or_ge j (m.length * 5) with hj | hj
  · have e : j = j / 5 * 5 + j % 5 := by omega
    have h1 := kcells_get (m.set i x) (j / 5) (j % 5) (by rw [List.length_set]; omega) (by omega)
    rw [← e] at h1
    rw [h1, List.getElem_set]
    by_cases he : i = j / 5
    · rw [if_pos (by omega), if_pos he, show j - i * 5 = j % 5 by omega]; rfl
    · rw [if_neg (by omega), if_neg he]
      have h2 := kcells_get m (j / 5) (j % 5) (by omega) (by omega)
      rw [← e] at h2
      exact h2
  · rw [if_neg (by omega), List.getElem?_eq_none (by omega), List.getElem?_eq_none (by rw [kcells_len, List.length_set]; omega)]
/-- One key of a row is stored. -/
theorem KRow_set {w : World} {m : List Key} {g off n cap : Nat} (h : KRow w (.slice (some ⟨g, off, none⟩) n cap) m) (hn : n = m.length) (i : Nat) (hi : i < m.length) (x : Key) :
    KRow (((((w.setCell ⟨g, off + i * 5, none⟩ (.int .i64 x.p)).setCell ⟨g, off + i * 5 + 1, none⟩ (.int .i64 x.a)).setCell ⟨g, off + i * 5 + 2, none⟩ (.int .i64 x.b)).setCell ⟨g, off + i * 5 + 3, none⟩ (.int .i64 x.c)).setCell ⟨g, off + i * 5 + 4, none⟩ (.int .i64 x.d))
      (.slice (some ⟨g, off, none⟩) n cap) (m.set i x) := by
  subst hn
  unfold KRow
  rw [← kcells_set m i x hi, List.length_set]
  have h0 := RowAt.set h (i * 5) (by omega) (.int .i64 x.p)
  have h1 := RowAt.set h0 (i * 5 + 1) (by omega) (.int .i64 x.a)
  have h2 := RowAt.set h1 (i * 5 + 2) (by omega) (.int .i64 x.b)
  have h3 := RowAt.set h2 (i * 5 + 3) (by omega) (.int .i64 x.c)
  have h4 := RowAt.set h3 (i * 5 + 4) (by omega) (.int .i64 x.d)
  simpa only [Nat.add_assoc] using h4
theorem infoK : (Try.prog.info? 34).map (fun i => (i.zero, i.size, i.bytes)) = some (some (.agg #[.int .i64 0, .int .i64 0, .int .i64 0, .int .i64 0, .int .i64 0]), 5, 40) := by kernel_rfl
theorem zeroK (w : World) : (zeroValue 34).run Try.prog w = .ok (.agg #[.int .i64 0, .int .i64 0, .int .i64 0, .int .i64 0, .int .i64 0]) w := by kernel_rfl

set_option maxHeartbeats 2000000 in
theorem delete_calls (fn : Nat) (caps : Array Value) (l : List Key) (v : Value) (w : World) (J : List Key → World → Prop) (p : Key → Bool)
    (hen : ∀ (args : Array Value) (w : World), (callFunc fn args).run Try.prog w = .ok (.enter fn args) w) (hlen : l.length ≤ 1000) (hrow : KRow w v l)
    (hJ : Asks fn caps v p J l) (h0 : J [] w) (hS : ∀ pre W W', J pre W → Chg (fun j => v.ownBlock = some j) W W' → J pre W') :
    Calls Try.prog 50 #[v, .func (.func fn) #[] caps] w fun e w' =>
      ∃ v', e = .returned v' ∧ KRow w' v' (l.filter fun x => !p x) ∧ J l w' ∧ (∀ k, v'.ownBlock = some k → v.ownBlock = some k) ∧ w.heap.size ≤ w'.heap.size := by
  obtain ⟨ad, cap, rfl, hcap, _⟩ := hrow.form
  have H1 := Lib.hid (index_calls fn caps l _ w J p hen hlen hrow hJ h0)
  obtain ⟨n, hn⟩ : ∃ n, l.length = n := ⟨_, rfl⟩
  have HN := Lib.hid hn
  have HJ := Lib.hid hJ
  have HS := Lib.hid hS
  have HR := Lib.hid hrow
  rw [hn] at hlen H1 hcap
  simp only [hn]
  clear hJ h0 hrow hn hS
  go_enter Try.func50, Try.ntmps50
  go_wp2_with fail
  refine H1.out.mono ?_
  rintro e w1 ⟨⟨i, rfl, hi, hp, hx, hj⟩ | ⟨rfl, hp, hj⟩, hk1, hs1⟩
  · have HP := Lib.hid hp
    have HX := Lib.hid hx
    have HJ1 := Lib.hid hj
    have HK1 := Lib.hid hk1
    clear hp hx hj hk1
    have HR1 : Hid (KRow w1 (.slice ad n cap) l) := by
      have := HR.out
      rw [HN.out] at this
      exact RowAt.same this HK1.out
    have i3 : ¬ ((i : Int) = -1) := by omega
    go_wp2_with fail
    go_loopg [5, 6] (n + 1) (fun g vi vj wr => ∃ (q j : Nat), vi = .int .i64 q ∧ vj = .int .i64 j ∧ q < j ∧ j ≤ n ∧ n < g + j ∧ Hid (∃ m : List Key, m.length = n ∧ KRow wr (.slice ad n cap) m ∧ m.take q = (l.take j).filter (fun x => !p x) ∧ m.drop j = l.drop j) ∧ Hid (J (l.take j) wr) ∧ w.heap.size ≤ wr.heap.size)
    case atStart =>
      refine ⟨i, i + 1, rfl, by go_num, by omega, by omega, by omega, ⟨l, HN.out, HR1.out, ?_, rfl⟩, HJ1.out, hs1⟩
      obtain ⟨x, hx, hpx⟩ := HX.out
      rw [take_snoc l i x hx, List.filter_append, List.filter_eq_self.2 (fun y hy => by rw [HP.out y hy]; rfl)]
      simp [hpx]
    case round =>
      obtain ⟨q, j, rfl, rfl, hqj, hjn, hgj, hm, hJr, hsr⟩ := hrel
      by_cases hlt : j < n
      · obtain ⟨g, rfl⟩ : ∃ x, gk = x + 1 := ⟨gk - 1, by omega⟩
        obtain ⟨m, hml, hmr, hmt, hmd⟩ := hm.out
        obtain ⟨b, off, cap', hv, hc⟩ := RowAt.formS hmr (by omega)
        have hjm : j < m.length := by omega
        have hjl : j < l.length := by rw [HN.out]; exact hlt
        have hxj : m[j]? = l[j]? := by
          have := congrArg (fun z : List Key => z[0]?) hmd
          simpa using this
        rw [hml] at hv
        cases hv
        have hmr' : RowAt wr 34 5 (.slice (some ⟨b, off, none⟩) n cap) n (m.flatMap kcells) := by
          have := hmr
          unfold KRow at this
          rw [hml] at this
          exact this
        have hcell : ∀ i, i < 5 → wr.cell? ⟨b, off + j * 5 + i, none⟩ = (kcells (l.getD j ⟨0, 0, 0, 0, 0⟩))[i]? := fun i hi => by
          rw [Nat.add_assoc, RowAt.cell hmr' (j * 5 + i) (by omega), kcells_get m j i hjm hi]
          have : m[j] = l.getD j ⟨0, 0, 0, 0, 0⟩ := by
            rw [List.getElem?_eq_getElem hjm] at hxj
            simp [← hxj]
          rw [this]
        have a0 := hcell 0 (by omega)
        have a1 := hcell 1 (by omega)
        have a2 := hcell 2 (by omega)
        have a3 := hcell 3 (by omega)
        have a4 := hcell 4 (by omega)
        have f0 : ∀ o, wr.frozen? ⟨b, o, none⟩ = false := fun o => RowAt.free hmr' o
        clear hcell
        have HF := Lib.hid (fun o => HJ.out (l.take j) (l.getD j ⟨0, 0, 0, 0, 0⟩) wr (wr.alloc o) hJr.out ((Chg.refl _ _).alloc _) (by rw [← take_snoc l j _ (by simp [hjl])]; exact List.take_prefix _ _))
        obtain ⟨x, hx⟩ : ∃ x, x = l.getD j ⟨0, 0, 0, 0, 0⟩ := ⟨_, rfl⟩
        rw [← hx] at a0 a1 a2 a3 a4 HF
        have HX2 : Hid (l[j]? = some x) := by rw [hx]; simp [Hid, hjl]
        clear hx
        obtain ⟨x0, x1, x2, x3, x4⟩ := x
        simp only [kcells, List.getElem?_cons_zero, List.getElem?_cons_succ, Nat.add_zero] at a0 a1 a2 a3 a4
        have i0 : (0 : Int) ≤ (j : Int) := by omega
        have i1 : (j : Int) < (n : Int) := by omega
        have HTS := Lib.hid (take_snoc l j _ HX2.out)
        have HM := hm
        clear hm hmr hmr' hmt hmd hxj f0
        go_wp2_with fail
        refine (HF.out _).mono ?_
        rintro e w2 ⟨rfl, hj2, hk2, hs2, hb2⟩
        have hJ2 : Hid (J (l.take (j + 1)) w2) := by rw [HTS.out]; exact hj2
        have hbox : w2.heap[wr.heap.size]? = some (.cells #[.int .i64 x0, .int .i64 x1, .int .i64 x2, .int .i64 x3, .int .i64 x4] 34 (0, 0)) := by
          rw [hb2 _ (Nat.le_refl _) (by simp)]; exact blk_new _ _
        obtain ⟨m, hml, hmr, hmt, hmd⟩ := HM.out
        have hmr2 : Hid (KRow w2 (.slice (some ⟨b, off, none⟩) n cap) m) := RowAt.same hmr hk2
        have hsz2 : wr.heap.size + 1 ≤ w2.heap.size := by simpa using hs2
        have hcut : Hid (m.drop (j + 1) = l.drop (j + 1)) := by
          have := congrArg (List.drop 1) hmd
          rwa [List.drop_drop, List.drop_drop] at this
        have HMT := Lib.hid hmt
        have hql : q ≤ m.length := by omega
        clear hj2 hk2 hs2 hb2 hmr hmt hmd
        rcases hb : p ⟨x0, x1, x2, x3, x4⟩ with _ | _
        · have c0 : w2.cell? ⟨wr.heap.size, 0, none⟩ = _ := cell_of hbox 0
          have c1 : w2.cell? ⟨wr.heap.size, 1, none⟩ = _ := cell_of hbox 1
          have c2 : w2.cell? ⟨wr.heap.size, 2, none⟩ = _ := cell_of hbox 2
          have c3 : w2.cell? ⟨wr.heap.size, 3, none⟩ = _ := cell_of hbox 3
          have c4 : w2.cell? ⟨wr.heap.size, 4, none⟩ = _ := cell_of hbox 4
          simp only [List.getElem?_toArray, List.getElem?_cons_zero, List.getElem?_cons_succ] at c0 c1 c2 c3 c4
          have hmr3 : RowAt w2 34 5 (.slice (some ⟨b, off, none⟩) n cap) n (m.flatMap kcells) := by
            have := hmr2.out
            unfold KRow at this
            rw [hml] at this
            exact this
          have f0 := hmr3.free (off + q * 5)
          have f1 := hmr3.free (off + q * 5 + 1)
          have f2 := hmr3.free (off + q * 5 + 2)
          have f3 := hmr3.free (off + q * 5 + 3)
          have f4 := hmr3.free (off + q * 5 + 4)
          have q0 : (0 : Int) ≤ (q : Int) := by omega
          have q1 : (q : Int) < (n : Int) := by omega
          have hcl : ∀ i, i < 5 → ∃ u, w2.cell? ⟨b, off + q * 5 + i, none⟩ = some u := fun i hi => by
            rw [Nat.add_assoc, hmr3.cell (q * 5 + i) (by omega), kcells_get m q i (by omega) hi]
            have : i < (kcells m[q]).length := by show i < 5; exact hi
            exact ⟨_, List.getElem?_eq_getElem this⟩
          obtain ⟨d0, hd0⟩ := hcl 0 (by omega)
          obtain ⟨d1, hd1⟩ := hcl 1 (by omega)
          obtain ⟨d2, hd2⟩ := hcl 2 (by omega)
          obtain ⟨d3, hd3⟩ := hcl 3 (by omega)
          obtain ⟨d4, hd4⟩ := hcl 4 (by omega)
          simp only [Nat.add_zero] at hd0
          clear hmr3 hcl
          have hMS := Lib.hid (KRow_set hmr2.out hml.symm q (by omega) ⟨x0, x1, x2, x3, x4⟩)
          have hJ3 := Lib.hid (HS.out _ _ _ hJ2.out (((((((Chg.refl (fun j => Value.ownBlock (.slice (some ⟨b, off, none⟩) n cap) = some j) w2).set (p := ⟨b, off + q * 5, none⟩) (fun _ => rfl) (.int .i64 x0)).set (p := ⟨b, off + q * 5 + 1, none⟩) (fun _ => rfl) (.int .i64 x1)).set (p := ⟨b, off + q * 5 + 2, none⟩) (fun _ => rfl) (.int .i64 x2)).set (p := ⟨b, off + q * 5 + 3, none⟩) (fun _ => rfl) (.int .i64 x3)).set (p := ⟨b, off + q * 5 + 4, none⟩) (fun _ => rfl) (.int .i64 x4))))
          go_wp2_with fail
          go_roundg g
          case measure => omega
          case rel =>
            refine ⟨q + 1, j + 1, by go_num, by go_num, by omega, by omega, by omega, ⟨m.set q ⟨x0, x1, x2, x3, x4⟩, by rw [List.length_set]; exact hml, hMS.out, ?_, ?_⟩, hJ3.out, by simp; omega⟩
            · rw [take_snoc _ q ⟨x0, x1, x2, x3, x4⟩ (by rw [List.getElem?_set_self (by omega)]), List.take_set_of_le (Nat.le_refl q), HMT.out, HTS.out, List.filter_append]
              simp [hb]
            · rw [List.drop_set, if_pos (by omega)]; exact hcut.out
        · go_wp2_with fail
          go_roundg g
          case measure => omega
          case rel =>
            refine ⟨q, j + 1, rfl, by go_num, by omega, by omega, by omega, ⟨m, hml, hmr2.out, ?_, hcut.out⟩, hJ2.out, by omega⟩
            rw [HTS.out, List.filter_append, HMT.out]; simp [hb]
      · obtain rfl : j = n := by omega
        have i2 : ¬ (j : Int) < (j : Int) := by omega
        obtain ⟨m, hml, hmr, hmt, hmd⟩ := hm.out
        obtain ⟨b, off, cap', hv, hc⟩ := RowAt.formS hmr (by omega)
        rw [hml] at hv
        cases hv
        have hmr' : RowAt wr 34 5 (.slice (some ⟨b, off, none⟩) j cap) j (m.flatMap kcells) := by
          have := hmr
          unfold KRow at this
          rw [hml] at this
          exact this
        obtain ⟨iK, hk0, hk1, hk2, hk3⟩ := info_parts infoK
        obtain ⟨w3, hclr, hrow3, hgrow3⟩ := run_clear_row (P := Try.prog) wr 90 34 0 iK _ 5 Try.underlying90 zeroK rfl (by decide) hmr' q (cap - q) (by omega)
        have hclr2 : ∀ ty, (Builtin.clear_ #[90] ty #[.slice (some ⟨b, off + q * 5, none⟩) (j - q) (cap - q)]).run Try.prog wr = .ok (.tuple #[]) w3 := fun ty => hclr
        have hlt : l.take j = l := List.take_of_length_le (by rw [HN.out]; exact Nat.le_refl _)
        have hrow4 : Hid (KRow w3 (.slice (some ⟨b, off, none⟩) q cap) (l.filter fun x => !p x)) := by
          have e : (m.flatMap kcells).take (q * 5) = (m.take q).flatMap kcells := by
            have h1 : m.flatMap kcells = (m.take q).flatMap kcells ++ (m.drop q).flatMap kcells := by rw [← List.flatMap_append, List.take_append_drop]
            rw [h1]
            exact List.take_left' (by rw [kcells_len, List.length_take]; omega)
          have hlq : (l.filter fun x => !p x).length = q := by
            have h2 := congrArg List.length hmt
            rw [hlt, List.length_take] at h2
            omega
          show RowAt w3 _ 5 _ _ _
          rw [hlq]
          rw [e, hmt, hlt] at hrow3
          exact hrow3
        have hJ3 : Hid (J l w3) := by
          have := HS.out _ _ w3 hJr.out ((Chg.refl _ wr).grown hgrow3 (fun k _ e => by cases e; rfl))
          rw [hlt] at this
          exact this
        have hs3 : w.heap.size ≤ w3.heap.size := Nat.le_trans hsr hgrow3.size
        have hlq2 : q ≤ cap := by omega
        clear hm hmr hmr' hmt hmd hclr hrow3 hgrow3 hlt
        have q0 : (0 : Int) ≤ (q : Int) := by omega
        have q1 : (q : Int) ≤ (j : Int) := by omega
        have q2 : (q : Int) ≤ (cap : Int) := by omega
        go_wp2_with fail
        go_ret
        exact ⟨_, rfl, hrow4.out, hJ3.out, fun k hk => hk, hs3⟩
  · have hr1 : Hid (KRow w1 (.slice ad n cap) (l.filter fun x => !p x)) := by
      rw [List.filter_eq_self.2 (fun y hy => by rw [hp y hy]; rfl)]
      have := HR.out
      rw [HN.out] at this
      exact RowAt.same this hk1
    have hj1 := Lib.hid hj
    clear hp hj hk1
    go_wp2_with fail
    go_ret
    exact ⟨_, rfl, hr1.out, hj1.out, fun _ h => h, hs1⟩
end Go.Proofs.Ytkidnmjaioejaaa.Cx
