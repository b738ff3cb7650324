/- A handle's clauses, in their order, walked. Condition: what XTreeText's functions want. -/
import Derived.Test.YtaklmocjaokkpaaGreatDoorTreeText
import Derived.OwnWalk
namespace Go.Proofs.YtaklmocjaokkpaaGreatDoor.Tr
set_option linter.unusedVariables false
set_option linter.unusedSimpArgs false
open Go.RowKit Go.Shelf Go.Proofs.YtaklmocjaokkpaaGreatDoor.Mem

def lastK : Nat → List Nd → Nat
  | a, [] => a
  | _, x :: l => lastK x.kind l
def tst (last : Nat) (x : Nd) : Bool := decide (last ≤ x.kind) && (!decide (x.kind = last) || decide (x.kind = 18)) && decide (17 ≤ x.kind)
theorem lastK_snoc (y : Nd) : ∀ (l : List Nd) (a : Nat), lastK a (l ++ [y]) = y.kind
  | [], _ => rfl
  | x :: l, _ => lastK_snoc y l x.kind
theorem orderB_snoc (y : Nd) : ∀ (l : List Nd) (a : Nat), orderB a (l ++ [y]) = (orderB a l && tst (lastK a l) y)
  | [], a => by
    simp only [List.nil_append, orderB, tst, lastK, Bool.and_true, Bool.true_and]
    rfl
  | x :: l, a => by
    rw [List.cons_append, orderB, orderB, orderB_snoc y l x.kind]
    simp only [lastK, Bool.and_assoc]
theorem orderB_pre (q : List Nd) : ∀ (p : List Nd) (a : Nat), orderB a (p ++ q) = true → orderB a p = true
  | [], _, _ => rfl
  | x :: p, a, h => by
    rw [List.cons_append, orderB, Bool.and_eq_true] at h
    rw [orderB, h.1, orderB_pre q p _ h.2]
    rfl
theorem opsOf_snoc (l : List Nd) (y : Nd) : opsOf (l ++ [y]) = opsOf l ++ (if y.kind = 18 then [y.text] else []) := by
  unfold opsOf
  rw [List.filter_append, List.map_append]
  by_cases h : y.kind = 18 <;> simp [h]
theorem opsOf_len (l : List Nd) : (opsOf l).length ≤ l.length := by
  unfold opsOf
  rw [List.length_map]
  exact List.length_filter_le _ _
theorem row_strs {w : World} {e : TypeId} {v : Value} {l : List ByteArray} (h : RowAt w e 1 v l.length (l.map Value.string)) : StrsIn w v l := by
  rcases h.2 with ⟨rfl, h0⟩ | ⟨g, off, cap, cur, rfl, hg, h1, h2, _⟩
  · exact ⟨none, 0, by rw [h0], by omega, by unfold maxLen; omega, fun i s hi => by
      have := (List.getElem?_eq_some_iff.1 hi).1
      omega⟩
  · refine ⟨_, cap, rfl, h1, h2, fun i s hi => ⟨g, off, rfl, lt_of_block hg, ?_⟩⟩
    have hi2 := (List.getElem?_eq_some_iff.1 hi).1
    rw [RowAt.cell h i (by omega), List.getElem?_map, hi]
    rfl
theorem snoc_take {α : Type} {l : List α} {j : Nat} {y : α} (h : l[j]? = some y) : l.take (j + 1) = l.take j ++ [y] := by
  rw [List.take_add_one, h]; rfl
theorem infoS : (Tryz.prog.info? 9).map (fun i => (i.zero, i.size, i.bytes)) = some (some (.string ⟨#[]⟩), 1, 16) := by kernel_rfl
theorem clausesB_no {l : List Nd} {j : Nat} (h : orderB 16 (l.take j) = false) : clausesB l = false := by
  unfold clausesB
  cases ho : orderB 16 l with
  | false => rfl
  | true =>
    rw [← List.take_append_drop j l] at ho
    rw [orderB_pre _ _ _ ho] at h
    cases h
set_option maxRecDepth 100000 in
set_option maxHeartbeats 8000000 in
theorem tclauses_calls (l : List Nd) (ak : Option Addr) (ck : Nat) (w : World) (hk : KidsIn w ak 0 l) (hle : l.length ≤ ck) (hcm : ck ≤ maxLen) (hlen : l.length ≤ 1048576) (hgl : Lx.Glob w) :
    Calls Tryz.prog 66 #[.slice ak l.length ck] w fun e w' => e = .returned (.bool (clausesB l)) ∧ Chg (fun _ => False) w w' := by
  obtain ⟨m, hm⟩ : ∃ m, l.length = m := ⟨_, rfl⟩
  have HM := Lib.hid hm
  have HK := Lib.hid hk
  have HG := Lib.hid hgl
  rw [hm] at hle hlen ⊢
  have hmx : ck ≤ 9223372036854775807 := by unfold maxLen at hcm; omega
  obtain ⟨res, hres⟩ : ∃ res, clausesB l = res := ⟨_, rfl⟩
  have HRES := Lib.hid hres
  rw [hres]
  have HCM := Lib.hid hcm
  clear hm hk hgl hcm hres
  obtain ⟨iS, hj0, hj1, hj2, hj3⟩ := info_parts infoS
  go_enter Tryz.func66, Tryz.ntmps66
  go_wp2_with fail
  go_loopg [3, 4, 9] (m + 1) (fun g vl vo vi wr => ∃ (j : Nat), vi = .int .i64 j ∧ vl = .int .u8 (lastK 16 (l.take j) : Nat) ∧ j ≤ m ∧ m < g + j ∧ Hid (orderB 16 (l.take j) = true) ∧ Hid (RowAt wr 9 1 vo (opsOf (l.take j)).length ((opsOf (l.take j)).map Value.string)) ∧ Hid (∀ b, vo.ownBlock = some b → w.heap.size ≤ b) ∧ Hid (Chg (fun _ => False) w wr))
  case atStart => exact ⟨0, rfl, rfl, by omega, by omega, Lib.hid rfl, Lib.hid (RowAt.nil _ _ _), Lib.hid (fun b h => by cases h), Lib.hid (Chg.refl _ _)⟩
  case round =>
    obtain ⟨j, rfl, rfl, hj, hg, hor, hrow, hown, hC⟩ := hrel
    by_cases hlt : j < m
    · obtain ⟨gk', rfl⟩ : ∃ q, gk = q + 1 := ⟨gk - 1, by omega⟩
      obtain ⟨b, off, nv', kv', y, rfl, hy, hym, c0, c1, c2, c3, c4, hin⟩ := kid_cells (HK.out.kept hC.out) j (by rw [HM.out]; exact hlt)
      have HOS : Hid (orderB 16 (l.take (j + 1)) = tst (lastK 16 (l.take j)) y) := Lib.hid (by rw [snoc_take hy, orderB_snoc, hor.out]; rfl)
      have HLS : Hid (lastK 16 (l.take (j + 1)) = y.kind) := Lib.hid (by rw [snoc_take hy, lastK_snoc])
      have HPS : Hid (opsOf (l.take (j + 1)) = opsOf (l.take j) ++ (if y.kind = 18 then [y.text] else [])) := Lib.hid (by rw [snoc_take hy, opsOf_snoc])
      have hop : (opsOf (l.take j)).length ≤ m := Nat.le_trans (opsOf_len _) (by rw [List.length_take]; omega)
      obtain ⟨la, hla⟩ : ∃ la, lastK 16 (l.take j) = la := ⟨_, rfl⟩
      obtain ⟨og, hog⟩ : ∃ og, opsOf (l.take j) = og := ⟨_, rfl⟩
      rw [hla] at HOS ⊢
      rw [hog] at hrow HPS hop
      have hkb := hin.kind
      have i0 : (0 : Int) ≤ (j : Int) := by omega
      have i1 : (j : Int) < (m : Int) := by omega
      obtain ⟨kd, hkd⟩ : ∃ kd, y.kind = kd := ⟨_, rfl⟩
      obtain ⟨tx, htx⟩ : ∃ tx, y.text = tx := ⟨_, rfl⟩
      obtain ⟨nn, hnn⟩ : ∃ nn, y.n = nn := ⟨_, rfl⟩
      unfold tst at HOS
      rw [hkd] at HOS HLS HPS c0 hkb
      rw [htx] at HPS c2
      rw [hnn] at c1
      obtain ⟨an', cn', ak', ck', rfl, rfl, _⟩ := hin.forms
      generalize y.names.length = ln at c3
      generalize y.kids.length = lk at c4
      clear hla hog hy hym hin hkd htx hnn
      have HN : ∀ X : Bool, Hid (res = X) → res = X := fun _ h => h.out
      by_cases t1 : kd < la
      · have hr : res = false := by rw [← HRES.out]; exact clausesB_no (j := j + 1) (by rw [HOS.out, decide_eq_false (by omega)]; rfl)
        subst hr
        have t1' : (kd : Int) < (la : Int) := by omega
        go_wp2_with fail
        go_ret
        exact ⟨rfl, hC.out.alloc _⟩
      have t1' : ¬ (kd : Int) < (la : Int) := by omega
      by_cases t2 : kd = la ∧ ¬ kd = 18
      · have hr : res = false := by rw [← HRES.out]; exact clausesB_no (j := j + 1) (by rw [HOS.out, decide_eq_true t2.1, decide_eq_false t2.2]; simp)
        subst hr
        have t2' : (kd : Int) = (la : Int) := by omega
        have t3' : ¬ (kd : Int) = 18 := by omega
        have t4' : ¬ (la : Int) = 18 := by omega
        go_wp2_with fail
        go_ret
        exact ⟨rfl, hC.out.alloc _⟩
      by_cases t3 : kd < 17
      · have hr : res = false := by rw [← HRES.out]; exact clausesB_no (j := j + 1) (by rw [HOS.out, show decide (17 ≤ kd) = false from decide_eq_false (by omega)]; simp)
        subst hr
        have t2' : ¬ (kd : Int) = (la : Int) := by omega
        have t3' : (kd : Int) < 17 := by omega
        go_wp2_with fail
        go_ret
        exact ⟨rfl, hC.out.alloc _⟩
      have HOT : Hid (orderB 16 (l.take (j + 1)) = true) := Lib.hid (by
        rw [HOS.out, decide_eq_true (by omega : la ≤ kd), show decide (17 ≤ kd) = true from decide_eq_true (by omega)]
        by_cases e : kd = la
        · rw [decide_eq_true (by omega : kd = 18)]; simp
        · rw [decide_eq_false e]; simp)
      have t5 : ¬ (kd : Int) < 17 := by omega
      clear HOS HN
      by_cases t18 : kd = 18
      · subst t18
        rw [if_pos rfl] at HPS
        have hq : ((18 : Nat) : Int) = 18 := rfl
        rw [hq] at c0 t1' t5
        have key : (la : Int) = 18 ∨ ¬ (18 : Int) = (la : Int) := by omega
        clear t1 t2 t3
        have hwl : Tryz.prog.underlying 22 = some (.slice 9) := Tryz.underlying22
        rcases key with e | e
        · obtain rfl : la = 18 := by omega
          have hq2 : ((18 : Nat) : Int) = 18 := rfl
          clear e t1' t5
          rw [hq2]
          go_wp2_with (at_builtin; refine wpList_append_row _ rfl _ _ 22 rfl 9 iS _ 1 16 hwl hj0 hj1 hj2 hj3 rfl (by decide) u4 og.length (og.map Value.string) rfl ?ya1 ⟨wr.heap.size + 1, 0, none⟩ 1 1 [.string tx] rfl rfl ?ya2 ?ya3 (by decide) ?ya4 ?ya5 _ rfl ?_)
          case ya1 => exact hrow.out.kept (((Chg.refl (fun _ => False) wr).alloc _).alloc _) (fun _ _ h => h)
          case ya2 => have h := World.news_of_block (blk_new (wr.alloc (.cells #[.int .u8 18, .int .i64 nn, .string tx, .slice an' ln cn', .slice ak' lk ck'] 25)) (.cells #[.string tx] 9)); simpa using h
          case ya3 => simp [Value.oneCell']
          case ya4 => unfold maxLen; omega
          case ya5 => omega
          intro gg off2 cap2 w3 hrow3 hgrow3 hat3 hlt3
          have hA3 : Chg (fun b => u4.ownBlock = some b) wr w3 := (((Chg.refl _ wr).alloc _).alloc _).grown hgrow3 (fun b _ e => e)
          have hC3 : Hid (Chg (fun _ => False) w w3) := hC.out.andThen hA3 (fun b hb e => by have := hown.out b e; omega)
          have hR3 : Hid (RowAt w3 9 1 (.slice (some ⟨gg, off2, none⟩) (og.length + 1) cap2) (og ++ [tx]).length ((og ++ [tx]).map Value.string)) := by
            rw [List.length_append, List.map_append]
            exact Lib.hid hrow3
          have hO3 : Hid (∀ b, (Value.slice (some ⟨gg, off2, none⟩) (og.length + 1) cap2).ownBlock = some b → w.heap.size ≤ b) := Lib.hid fun b hb => by
            have hgb : gg = b := by simpa [Value.ownBlock] using hb
            have hsr := hC.out.size
            rcases hat3 with h | h
            · exact hown.out b (by rw [← hgb]; exact h)
            · omega
          clear hrow3 hgrow3 hat3 hlt3 hA3
          go_wp2_with fail
          go_roundg gk'
          case measure => omega
          case rel => exact ⟨j + 1, by go_num, by rw [HLS.out]; rfl, by omega, by omega, HOT, by rw [HPS.out]; exact hR3, hO3, hC3⟩
        ·
          go_wp2_with (at_builtin; refine wpList_append_row _ rfl _ _ 22 rfl 9 iS _ 1 16 hwl hj0 hj1 hj2 hj3 rfl (by decide) u4 og.length (og.map Value.string) rfl ?ya1 ⟨wr.heap.size + 1, 0, none⟩ 1 1 [.string tx] rfl rfl ?ya2 ?ya3 (by decide) ?ya4 ?ya5 _ rfl ?_)
          case ya1 => exact hrow.out.kept (((Chg.refl (fun _ => False) wr).alloc _).alloc _) (fun _ _ h => h)
          case ya3 => simp [Value.oneCell']
          case ya4 => unfold maxLen; omega
          case ya5 => omega
          intro gg off2 cap2 w3 hrow3 hgrow3 hat3 hlt3
          have hA3 : Chg (fun b => u4.ownBlock = some b) wr w3 := (((Chg.refl _ wr).alloc _).alloc _).grown hgrow3 (fun b _ e => e)
          have hC3 : Hid (Chg (fun _ => False) w w3) := hC.out.andThen hA3 (fun b hb e => by have := hown.out b e; omega)
          have hR3 : Hid (RowAt w3 9 1 (.slice (some ⟨gg, off2, none⟩) (og.length + 1) cap2) (og ++ [tx]).length ((og ++ [tx]).map Value.string)) := by
            rw [List.length_append, List.map_append]
            exact Lib.hid hrow3
          have hO3 : Hid (∀ b, (Value.slice (some ⟨gg, off2, none⟩) (og.length + 1) cap2).ownBlock = some b → w.heap.size ≤ b) := Lib.hid fun b hb => by
            have hgb : gg = b := by simpa [Value.ownBlock] using hb
            have hsr := hC.out.size
            rcases hat3 with h | h
            · exact hown.out b (by rw [← hgb]; exact h)
            · omega
          clear hrow3 hgrow3 hat3 hlt3 hA3
          go_wp2_with fail
          go_roundg gk'
          case measure => omega
          case rel => exact ⟨j + 1, by go_num, by rw [HLS.out]; rfl, by omega, by omega, HOT, by rw [HPS.out]; exact hR3, hO3, hC3⟩
      · rw [if_neg t18, List.append_nil] at HPS
        have t2' : ¬ (kd : Int) = (la : Int) := by omega
        have t3' : ¬ (kd : Int) = 18 := by omega
        clear t1 t2 t3
        go_wp2_with fail
        go_roundg gk'
        case measure => omega
        case rel => exact ⟨j + 1, by go_num, by rw [HLS.out], by omega, by omega, HOT, by rw [HPS.out]; exact Lib.hid (hrow.out.kept ((Chg.refl (fun _ => False) wr).alloc _) (fun _ _ h => h)), hown, Lib.hid (hC.out.alloc _)⟩
    · obtain rfl : j = m := by omega
      have hall : l.take j = l := List.take_of_length_le (by rw [HM.out]; exact Nat.le_refl _)
      rw [hall] at hor hrow ⊢
      have hkk : ¬ (j : Int) < (j : Int) := by omega
      have HU := Lib.hid (tunlike_calls (opsOf l) u4 wr (row_strs hrow.out) (glob_later HG.out hC.out))
      have hr : unlike (opsOf l) = res := by rw [← HRES.out]; unfold clausesB; rw [hor.out]; rfl
      rw [hr] at HU
      clear hall hr
      go_wp2_with fail
      refine HU.out.mono ?_
      rintro e w1 ⟨rfl, hC1⟩
      have HC1 := Lib.hid (hC.out.trans hC1)
      clear hC1 HU
      go_wp2_with fail
      go_ret
      exact ⟨rfl, HC1.out⟩
end Go.Proofs.YtaklmocjaokkpaaGreatDoor.Tr
