/- The cache's Get and Len, and what a nil cache does, walked. Condition: the cache's block is known, its map and its row of keys. -/
import Derived.Test.YtkidnmjaioejaaaCachePut
namespace Go.Proofs.Ytkidnmjaioejaaa.Cx
set_option linter.unusedVariables false
set_option linter.unusedSimpArgs false
open Go.RowKit Go.Proofs.Ytkidnmjaioejaaa.Mem Go.Maps

def cget (l : List Ent) (k : Key) : List Ent := match find l k with | some x => put l k x | none => l
theorem put_perm {l : List Ent} (h : (l.map Prod.fst).Nodup) {k : Key} {x : Int} (hm : (k, x) ∈ l) : l.Perm (put l k x) := by
  unfold put
  refine List.Perm.trans ?_ (List.perm_append_comm (l₁ := [(k, x)]))
  induction l with
  | nil => cases hm
  | cons e l ih =>
    have h' := h
    rw [List.map_cons, List.nodup_cons] at h'
    rcases List.mem_cons.1 hm with rfl | hm2
    · rw [without_head h]
      exact List.Perm.refl _
    · have hne : e.1 ≠ k := fun e2 => h'.1 (by rw [e2]; exact List.mem_map.2 ⟨_, hm2, rfl⟩)
      have : without (e :: l) k = e :: without l k := by unfold without; rw [List.filter_cons_of_pos (by simp [hne])]
      rw [this]
      exact ((ih h'.2 hm2).cons e).trans (List.Perm.swap _ _ _)

set_option maxHeartbeats 1000000 in
theorem len_calls (c M lim : Nat) (v : Value) (l : List Ent) (w : World) (h : CacheAt w c M v lim l) :
    Calls Try.prog 20 #[.pointer (some ⟨c, 0, none⟩)] w fun e w' => e = .returned (.int .i64 (l.length : Int)) ∧ w' = w := by
  have c0 : w.cell? ⟨c, 0, none⟩ = some (.map (some M)) := cell_of h.blk 0
  have hlen := fun ty => h.map.len ty
  clear h
  go_enter Try.func20, Try.ntmps20
  go_wp2_with fail
  go_ret
  exact ⟨rfl, rfl⟩
theorem len_nil (w : World) : Calls Try.prog 20 #[.pointer none] w fun e w' => e = .returned (.int .i64 0) ∧ w' = w := by
  go_enter Try.func20, Try.ntmps20
  go_wp2_with fail
  go_ret
  exact ⟨rfl, rfl⟩
theorem put_nil (k : Key) (x : Int) (w : World) : Calls Try.prog 18 #[.pointer none, kv k, .int .i64 x] w fun e w' => (∃ u, e = .returned u) ∧ Below w.heap.size w w' := by
  simp only [kv]
  go_enter Try.func18, Try.ntmps18
  go_wp2_with fail
  refine bodyPost_ret (results_none rfl _ _ _) rfl ?_
  exact ⟨⟨_, rfl⟩, (Below.refl _ _).alloc (Nat.le_refl _) _⟩
theorem get_nil (k : Key) (w : World) : Calls Try.prog 19 #[.pointer none, kv k] w fun e w' => e = .returned (.tuple #[.int .i64 0, .bool false]) ∧ Below w.heap.size w w' := by
  simp only [kv]
  go_enter Try.func19, Try.ntmps19
  go_wp2_with fail
  go_ret2
  exact ⟨rfl, (Below.refl _ _).alloc (Nat.le_refl _) _⟩

set_option maxHeartbeats 4000000 in
theorem get_calls (c M lim : Nat) (v : Value) (l : List Ent) (k : Key) (w : World) (h : CacheAt w c M v lim l) (hk : k.ok) :
    Calls Try.prog 19 #[.pointer (some ⟨c, 0, none⟩), kv k] w fun e w' => e = .returned (.tuple #[.int .i64 ((find l k).getD 0), .bool (find l k).isSome]) ∧ ∃ v', CacheAt w' c M v' lim (cget l k) ∧
      Chg (foot c M v) w w' ∧ (∀ j, v'.ownBlock = some j → v.ownBlock = some j ∨ w.heap.size ≤ j) := by
  obtain ⟨w0, hw0⟩ : ∃ w0, w0 = w.alloc (.cells #[.int .i64 k.p, .int .i64 k.a, .int .i64 k.b, .int .i64 k.c, .int .i64 k.d] 34) := ⟨_, rfl⟩
  have hC0 : Chg (fun _ => False) w w0 := by rw [hw0]; exact (Chg.refl _ _).alloc _
  have h0 := h.chg hC0 (fun _ _ h => h)
  have hB : w0.heap[w.heap.size]? = some (.cells #[.int .i64 k.p, .int .i64 k.a, .int .i64 k.b, .int .i64 k.c, .int .i64 k.d] 34 (0, 0)) := by rw [hw0]; exact blk_new _ _
  have hlook := fun m => (h0.map.chg ((Chg.refl (fun _ => False) w0).drewN m) (fun h => h)).look h.good hk
  have hcl := lt_of_block h.blk
  have HH := Lib.hid h
  have H0 := Lib.hid h0
  have HB := Lib.hid hB
  have HC0 := Lib.hid hC0
  have HW0 := Lib.hid hw0
  have c0 : w0.cell? ⟨c, 0, none⟩ = some (.map (some M)) := cell_of h0.blk 0
  have b0 : w0.cell? ⟨w.heap.size, 0, none⟩ = _ := cell_of hB 0
  have b1 : w0.cell? ⟨w.heap.size, 1, none⟩ = _ := cell_of hB 1
  have b2 : w0.cell? ⟨w.heap.size, 2, none⟩ = _ := cell_of hB 2
  have b3 : w0.cell? ⟨w.heap.size, 3, none⟩ = _ := cell_of hB 3
  have b4 : w0.cell? ⟨w.heap.size, 4, none⟩ = _ := cell_of hB 4
  simp only [List.getElem?_toArray, List.getElem?_cons_zero, List.getElem?_cons_succ] at b0 b1 b2 b3 b4
  clear h h0 hB hC0
  rw [hw0] at c0 b0 b1 b2 b3 b4 hlook
  have HCG : Hid (cget l k = match find l k with | some x => put l k x | none => l) := rfl
  generalize hcg : cget l k = lg at HCG ⊢
  clear hcg
  rcases hf : find l k with _ | x
  · rw [hf] at hlook HCG
    simp only [Option.getD_none, Option.isSome_none] at hlook ⊢
    simp only [kv] at hlook ⊢
    go_enter Try.func19, Try.ntmps19
    go_wp2_with fail
    go_quiet (fail)
    go_wp2_with fail
    go_ret2
    rw [HCG.out]
    rw [← hw0]
    exact ⟨rfl, v, H0.out.chg ((Chg.refl (fun _ => False) w0).drewN _) (fun _ _ h => h), (HC0.out.mono (fun _ _ h => h.elim)).drewN _, fun j hj => .inl hj⟩
  · rw [hf] at hlook HCG
    simp only [Option.getD_some, Option.isSome_some] at hlook ⊢
    have HF := Lib.hid hf
    have HLK := Lib.hid (fun m => last_calls c (.map (some M)) v lim (l.map Prod.fst) k (w0.drewN m) (by have := HH.out.len; rw [List.length_map]; omega) ((Chg.refl (fun _ => False) w0).drewN m |>.blk H0.out.blk (fun h => h)) (H0.out.row.kept ((Chg.refl (fun _ => False) w0).drewN m) (fun _ _ h => h)) (fun j hj => (H0.out.own j hj).1))
    rw [hw0] at HLK
    simp only [kv] at hlook ⊢
    clear hf
    go_enter Try.func19, Try.ntmps19
    go_wp2_with fail
    go_quiet (fail)
    go_wp2_with fail
    refine (HLK.out _).mono ?_
    rintro e w2 ⟨⟨u, rfl⟩, v2, hcb2, hrow2, hC2, ho2⟩
    rw [← hw0] at hC2 ho2
    have hmem := (find_mem HH.out.good.1).1 HF.out
    have hA2 : Hid (CacheAt w2 c M v2 lim (put l k x)) := by
      rw [ks_put l k x] at hrow2
      refine HH.out.turned hcb2 ((((H0.out.map.chg ((Chg.refl (fun _ => False) w0).drewN _) (fun h => h)).chg hC2 (fun e => ?_))).perm (put_perm HH.out.good.1 hmem)) hrow2 (HH.out.good.put hk (HH.out.good.2 _ hmem).2) (fun j hj => ?_) ?_
      · rcases e with e | e
        · exact HH.out.cM e.symm
        · exact (HH.out.own M e).2 rfl
      · exact (ho2 j hj).imp id (fun h => Nat.le_trans HC0.out.size h)
      · rw [← (put_perm HH.out.good.1 hmem).length_eq]; exact HH.out.len
    have hC2' : Hid (Chg (foot c M v) w w2) := (((HC0.out.mono (fun _ _ h => h.elim)).drewN _).andThen hC2 (fun j _ e => e.elim .inl (fun h => .inr (.inr h))))
    have HO2 : Hid (∀ j, v2.ownBlock = some j → v.ownBlock = some j ∨ w.heap.size ≤ j) := fun j hj => (ho2 j hj).imp id (fun h => Nat.le_trans HC0.out.size h)
    clear hcb2 hrow2 hC2 ho2
    go_wp2_with fail
    go_ret2
    rw [HCG.out]
    exact ⟨rfl, v2, hA2.out, hC2'.out, HO2.out⟩
end Go.Proofs.Ytkidnmjaioejaaa.Cx
