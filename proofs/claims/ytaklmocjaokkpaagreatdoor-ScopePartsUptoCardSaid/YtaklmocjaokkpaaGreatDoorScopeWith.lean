/- scope's finder: what it holds; its 'with', walked: names are bound, a node is gone through, names are unbound. Condition: counts of at most 2^62; at most 2^20 + 1 names at once. -/
import Derived.Test.YtaklmocjaokkpaaGreatDoorScopeMap
import Derived.Test.YtaklmocjaokkpaaGreatDoorScopePlain
import Derived.Test.YtaklmocjaokkpaaGreatDoorTreeClauses
namespace Go.Proofs.YtaklmocjaokkpaaGreatDoor.Tr
set_option linter.unusedVariables false
set_option linter.unusedSimpArgs false
open Go.RowKit Go.Shelf Go.Proofs.YtaklmocjaokkpaaGreatDoor.Mem

/-- A finder: its map, and the names found. -/
structure FSt (f M : Nat) (c : ByteArray → Int) (v : Value) (F : List ByteArray) (W : World) : Prop where
  blk : W.heap[f]? = some (.cells #[.map (some M), v] 47 (0, 0))
  map : MapC W M c
  row : RowAt W 9 1 v F.length (F.map Value.string)
  ne : f ≠ M
  nf : v.ownBlock ≠ some f
  nm : v.ownBlock ≠ some M
/-- One step of it. -/
def FStp (f M : Nat) (v v' : Value) (w w' : World) : Prop := Chg (fun k => k = f ∨ k = M ∨ v.ownBlock = some k) w w' ∧ ∀ k, v'.ownBlock = some k → v.ownBlock = some k ∨ w.heap.size ≤ k
theorem FStp.trans {f M : Nat} {v v' v'' : Value} {a b c : World} (hf : f < a.heap.size) (hM : M < a.heap.size) (h : FStp f M v v' a b) (h' : FStp f M v' v'' b c) : FStp f M v v'' a c :=
  ⟨h.1.andThen h'.1 (fun k hk e => by
    rcases e with e | e | e
    · exact .inl e
    · exact .inr (.inl e)
    · rcases h.2 k e with e1 | e1
      · exact .inr (.inr e1)
      · omega), fun k hk => by
    rcases h'.2 k hk with e | e
    · exact h.2 k e
    · have := h.1.size
      exact .inr (by omega)⟩
theorem FStp.refl (f M : Nat) (v : Value) (w : World) : FStp f M v v w w := ⟨Chg.refl _ w, fun k hk => .inl hk⟩
theorem FStp.of {f M : Nat} {v : Value} {w w' : World} (h : Chg (fun k => k = M) w w') : FStp f M v v w w' := ⟨h.mono (fun k _ e => .inr (.inl e)), fun k hk => .inl hk⟩
theorem FStp.none {f M : Nat} {v : Value} {w w' : World} (h : Chg (fun _ => False) w w') : FStp f M v v w w' := ⟨h.mono (fun k _ e => e.elim), fun k hk => .inl hk⟩
theorem FSt.lf {f M : Nat} {c : ByteArray → Int} {v : Value} {F : List ByteArray} {W : World} (h : FSt f M c v F W) : f < W.heap.size := lt_of_block h.blk
theorem FSt.lm {f M : Nat} {c : ByteArray → Int} {v : Value} {F : List ByteArray} {W : World} (h : FSt f M c v F W) : M < W.heap.size := h.map.lt
theorem FSt.later {f M : Nat} {c : ByteArray → Int} {v : Value} {F : List ByteArray} {w w' : World} (h : FSt f M c v F w) (hc : Chg (fun _ => False) w w') : FSt f M c v F w' :=
  ⟨hc.blk h.blk (fun e => e), h.map.chg hc (fun e => e), h.row.kept hc (fun _ _ e => e), h.ne, h.nf, h.nm⟩
theorem FSt.mapped {f M : Nat} {c d : ByteArray → Int} {v : Value} {F : List ByteArray} {w w' : World} (h : FSt f M c v F w) (hc : Chg (fun k => k = M) w w') (hm : MapC w' M d) : FSt f M d v F w' :=
  ⟨hc.blk h.blk h.ne, hm, h.row.kept hc (fun k hk e => h.nm (by rw [hk, e])), h.ne, h.nf, h.nm⟩
theorem FSt.eq {f M : Nat} {c d : ByteArray → Int} {v : Value} {F : List ByteArray} {w : World} (h : FSt f M c v F w) (e : ∀ s, c s = d s) : FSt f M d v F w :=
  ⟨h.blk, h.map.eq e, h.row, h.ne, h.nf, h.nm⟩
/-- All of it is newer than a world. -/
def Over (w0 : World) (f M : Nat) (v : Value) : Prop := w0.heap.size ≤ f ∧ w0.heap.size ≤ M ∧ ∀ k, v.ownBlock = some k → w0.heap.size ≤ k
theorem Over.kept {w0 w w' : World} {f M : Nat} {v v' : Value} (h : Over w0 f M v) (hc : Chg (fun _ => False) w0 w) (hs : FStp f M v v' w w') : Over w0 f M v' ∧ Chg (fun _ => False) w0 w' :=
  ⟨⟨h.1, h.2.1, fun k hk => by
    rcases hs.2 k hk with e | e
    · exact h.2.2 k e
    · have := hc.size; omega⟩, hc.andThen hs.1 (fun k hk e => by
    rcases e with e | e | e
    · have := h.1; omega
    · have := h.2.1; omega
    · have := h.2.2 k e; omega)⟩
/-- A row of texts that the finder doesn't turn. -/
def Away (f M : Nat) (v nsv : Value) (w : World) : Prop := ∀ b, nsv.ownBlock = some b → b ≠ f ∧ b ≠ M ∧ v.ownBlock ≠ some b ∧ b < w.heap.size
theorem Away.kept {f M : Nat} {v v' nsv : Value} {w w' : World} (h : Away f M v nsv w) (hs : FStp f M v v' w w') : Away f M v' nsv w' := fun b hb => by
  obtain ⟨h1, h2, h3, h4⟩ := h b hb
  refine ⟨h1, h2, fun e => ?_, Nat.lt_of_lt_of_le h4 hs.1.size⟩
  rcases hs.2 b e with e | e
  · exact h3 e
  · omega
theorem StrsIn.chg {F : Nat → Prop} {w w' : World} {v : Value} {l : List ByteArray} (h : StrsIn w v l) (hc : Chg F w w') (hf : ∀ b, v.ownBlock = some b → ¬ F b) : StrsIn w' v l := by
  obtain ⟨ad, cap, h1, h2, h3, h4⟩ := h
  refine ⟨ad, cap, h1, h2, h3, fun i s hi => ?_⟩
  obtain ⟨b, off, e1, e2, e3⟩ := h4 i s hi
  exact ⟨b, off, e1, Nat.lt_of_lt_of_le e2 hc.size, hc.cell e3 (hf b (by rw [h1, e1]; rfl))⟩
theorem StrsIn.step {f M : Nat} {v v' nsv : Value} {l : List ByteArray} {w w' : World} (h : StrsIn w nsv l) (ha : Away f M v nsv w) (hs : FStp f M v v' w w') : StrsIn w' nsv l :=
  h.chg hs.1 (fun b hb e => by
    obtain ⟨h1, h2, h3, _⟩ := ha b hb
    rcases e with e | e | e
    · exact h1 e
    · exact h2 e
    · exact h3 e)
/-- What the finder's 'node' does at a node. -/
def NodeOk (w0 : World) (f M : Nat) (x : Nd) (nv kv : Value) (B : Int) : Prop := ∀ (v : Value) (F : List ByteArray) (c : ByteArray → Int) (w : World), Chg (fun _ => False) w0 w → Over w0 f M v → FSt f M c v F w → (∀ s, 0 ≤ c s ∧ c s ≤ B) → F.length + sizeN x ≤ 1073741824 →
  Calls Tryz.prog 32 #[.pointer (some ⟨f, 0, none⟩), ndV x nv kv] w fun e w' => e = .returned (.tuple #[]) ∧ ∃ v', FSt f M c v' (addF c F (occN x)) w' ∧ FStp f M v v' w w'
set_option maxRecDepth 100000 in
set_option maxHeartbeats 4000000 in
theorem with_calls {w0 : World} {f M : Nat} {x : Nd} {nv kv : Value} {B : Int} (hn : NodeOk w0 f M x nv kv (B + 2097152)) (hB : B ≤ 4611686018427387904) (hin : NdIn w0 nv kv x) (ns : List ByteArray) (nsv : Value) (hns : ns.length ≤ 1048577) (v : Value) (F : List ByteArray) (c : ByteArray → Int) (w : World)
    (hC : Chg (fun _ => False) w0 w) (hO : Over w0 f M v) (hS : FSt f M c v F w) (hc : ∀ s, 0 ≤ c s ∧ c s ≤ B) (hF : F.length + sizeN x ≤ 1073741824) (hst : StrsIn w nsv ns) (haw : Away f M v nsv w) :
    Calls Tryz.prog 57 #[.pointer (some ⟨f, 0, none⟩), ndV x nv kv, nsv] w fun e w' => e = .returned (.tuple #[]) ∧ ∃ v', FSt f M c v' (addF c F ((occN x).filter fun s => !memB s ns)) w' ∧ FStp f M v v' w w' := by
  obtain ⟨m, hm⟩ : ∃ m, ns.length = m := ⟨_, rfl⟩
  obtain ⟨w1, hw1⟩ : ∃ w1, w.alloc (ndBox x nv kv) = w1 := ⟨_, rfl⟩
  have hC1 : Chg (fun _ => False) w w1 := by rw [← hw1]; exact (Chg.refl _ w).alloc _
  have hbx : w1.heap[w.heap.size]? = some (ndBox x nv kv) := by rw [← hw1]; exact blk_new w _
  have HM := Lib.hid hm
  have HS1 := Lib.hid (hS.later hC1)
  have HC1 := Lib.hid (hC.trans hC1)
  have HBX := Lib.hid hbx
  have HNE : Hid (w.heap.size ≠ f ∧ w.heap.size ≠ M ∧ v.ownBlock ≠ some w.heap.size) := Lib.hid ⟨by have := hS.lf; omega, by have := hS.lm; omega, fun e => by have := hS.row.lt _ e; omega⟩
  have HST1 := Lib.hid (hst.kept hC1)
  have HAW1 := Lib.hid (haw.kept (FStp.none hC1))
  have HW := Lib.hid (⟨hC1, hO, hS.lf, hS.lm⟩ : Chg (fun _ => False) w w1 ∧ Over w0 f M v ∧ f < w.heap.size ∧ M < w.heap.size)
  have HN := Lib.hid hn
  have HCC := Lib.hid hc
  obtain ⟨ad, cap, hnv, hle, hcm, _⟩ := hst
  have hmx : cap ≤ 9223372036854775807 := by unfold maxLen at hcm; omega
  obtain ⟨an, cn, ak, ck, rfl, rfl, _⟩ := hin.forms
  subst hnv
  rw [hm] at hle hns HST1 HAW1 ⊢
  unfold ndBox at hw1 hbx HBX
  unfold ndV
  clear hn hC hO hS hc haw hC1 hbx hcm hm hin
  have tm : Tryz.prog.underlying 45 = some (.map 9 3) := Tryz.underlying45
  have ts : Tryz.prog.underlying 9 = some .string := Tryz.underlying9
  have tz : ∀ W : World, (zeroValue 3).run Tryz.prog W = .ok (.int .i64 0) W := fun W => by kernel_rfl
  go_enter Tryz.func57, Tryz.ntmps57
  go_wp2_with fail
  go_loopg [12] (m + 1) (fun g vi wr => ∃ (k : Nat), vi = .int .i64 k ∧ k ≤ m ∧ m < g + k ∧ Hid (FSt f M (bump c (ns.take k)) v F wr ∧ Chg (fun j => j = M) w1 wr))
  case atStart => exact ⟨0, rfl, by omega, by omega, Lib.hid ⟨HS1.out.eq fun s => (bump_nil c s).symm, Chg.refl _ _⟩⟩
  case round =>
    obtain ⟨k, rfl, hk, hg, hI⟩ := hrel
    by_cases hlt : k < m
    · obtain ⟨gk', rfl⟩ : ∃ q, gk = q + 1 := ⟨gk - 1, by omega⟩
      obtain ⟨s, hs⟩ : ∃ s, ns[k]? = some s := ⟨_, List.getElem?_eq_getElem (by rw [HM.out]; exact hlt)⟩
      have hsr : StrsIn wr (.slice ad m cap) ns := HST1.out.step HAW1.out (FStp.of hI.out.2)
      obtain ⟨ad', cap', e1, _, _, e4⟩ := hsr
      simp only [Value.slice.injEq] at e1
      obtain ⟨rfl, _, rfl⟩ := e1
      obtain ⟨q, off, rfl, _, c0⟩ := e4 k s hs
      have c1 : wr.cell? ⟨f, 0, none⟩ = some (.map (some M)) := cell_of hI.out.1.blk 0
      have HSS := Lib.hid hs
      obtain ⟨n, hnn⟩ : ∃ n, bump c (ns.take k) s = n := ⟨_, rfl⟩
      have hL := run_lookupC (P := Tryz.prog) wr _ _ _ tm ts (tz wr) hI.out.1.map s
      obtain ⟨wa, hU, hM', hCa⟩ := run_updateC (P := Tryz.prog) wr _ _ _ tm ts hI.out.1.map s (n + 1)
      have hbd := bump_le HCC.out (l := ns.take k) (m := k) (List.length_take_le _ _) s
      have HIA : Hid (FSt f M (bump c (ns.take (k + 1))) v F wa ∧ Chg (fun j => j = M) w1 wa) := Lib.hid ⟨(hI.out.1.mapped hCa hM').eq fun x => by rw [← hnn]; exact bump_up hs x, hI.out.2.trans hCa⟩
      rw [hnn] at hL hbd
      obtain ⟨n0, n1⟩ := hbd
      have i0 : (0 : Int) ≤ (k : Int) := by omega
      have i1 : (k : Int) < (m : Int) := by omega
      have n2 : n ≤ 4611686018428436481 := by omega
      clear hM' hCa hnn hs hI n1
      go_wp2_with fail
      go_roundg gk'
      case measure => omega
      case rel => exact ⟨k + 1, by go_num, by omega, by omega, HIA⟩
    · obtain rfl : k = m := by omega
      have hkk : ¬ ((k : Nat) : Int) < ((k : Nat) : Int) := by omega
      have hall : ns.take k = ns := List.take_of_length_le (by rw [HM.out]; exact Nat.le_refl _)
      rw [hall] at hI
      clear hall
      have hbr : wr.heap[w.heap.size]? = some (.cells #[.int .u8 x.kind, .int .i64 x.n, .string x.text, .slice an x.names.length cn, .slice ak x.kids.length ck] 25) := hI.out.2.blk HBX.out HNE.out.2.1
      have a0 := cell_of hbr 0
      have a1 := cell_of hbr 1
      have a2 := cell_of hbr 2
      have a3 := cell_of hbr 3
      have a4 := cell_of hbr 4
      have HKW := HW.out.2.1.kept HC1.out (FStp.of hI.out.2)
      have HND := Lib.hid (HN.out v F (bump c ns) wr HKW.2 HKW.1 hI.out.1 (fun s => by have := bump_le HCC.out (l := ns) (m := 1048577) (by rw [HM.out]; exact hns) s; omega) hF)
      have HSTR := Lib.hid (HST1.out.step HAW1.out (FStp.of (f := f) (v := v) hI.out.2))
      have HAWR := Lib.hid (HAW1.out.kept (FStp.of (f := f) (v := v) hI.out.2))
      have HSP := Lib.hid (FStp.of (f := f) (v := v) hI.out.2)
      unfold ndV at HND
      clear hbr HKW hI
      go_wp2_with fail
      refine HND.out.mono ?_
      rintro e w3 ⟨rfl, v', hS3, hP3⟩
      have HF2 := Lib.hid (addF_bump (fun s => (HCC.out s).1) ns (occN x) F)
      obtain ⟨F', hF'⟩ : ∃ F', addF (bump c ns) F (occN x) = F' := ⟨_, rfl⟩
      rw [hF'] at hS3 HF2
      have HS3 := Lib.hid hS3
      have HP3 := Lib.hid (FStp.trans (by have := HC1.out.size; exact HS1.out.lf) HS1.out.lm HSP.out hP3)
      have HST3 := Lib.hid (HSTR.out.step HAWR.out hP3)
      have HAW3 := Lib.hid (HAWR.out.kept hP3)
      clear hS3 hP3 HSTR HAWR hF' HND a0 a1 a2 a3 a4 HSP HST1 HAW1
      go_wp2_with fail
      go_loopg [29] (k + 1) (fun g vi wr => ∃ (j : Nat), vi = .int .i64 j ∧ j ≤ k ∧ k < g + j ∧ Hid (FSt f M (bump c (ns.drop j)) v' F' wr ∧ Chg (fun i => i = M) w3 wr))
      case atStart => exact ⟨0, rfl, by omega, by omega, Lib.hid ⟨HS3.out, Chg.refl _ _⟩⟩
      case round =>
        obtain ⟨j, rfl, hj, hg2, hI⟩ := hrel
        by_cases hlt2 : j < k
        · obtain ⟨gk', rfl⟩ : ∃ q, gk = q + 1 := ⟨gk - 1, by omega⟩
          obtain ⟨s, hs⟩ : ∃ s, ns[j]? = some s := ⟨_, List.getElem?_eq_getElem (by rw [HM.out]; exact hlt2)⟩
          have hsr : StrsIn wr (.slice ad k cap) ns := HST3.out.step HAW3.out (FStp.of hI.out.2)
          obtain ⟨ad', cap', e1, _, _, e4⟩ := hsr
          simp only [Value.slice.injEq] at e1
          obtain ⟨rfl, _, rfl⟩ := e1
          obtain ⟨q, off, rfl, _, c0⟩ := e4 j s hs
          have c1 : wr.cell? ⟨f, 0, none⟩ = some (.map (some M)) := cell_of hI.out.1.blk 0
          obtain ⟨n, hnn⟩ : ∃ n, bump c (ns.drop j) s = n := ⟨_, rfl⟩
          have hL := run_lookupC (P := Tryz.prog) wr _ _ _ tm ts (tz wr) hI.out.1.map s
          obtain ⟨wa, hU, hM', hCa⟩ := run_updateC (P := Tryz.prog) wr _ _ _ tm ts hI.out.1.map s (n - 1)
          have hbd := bump_le HCC.out (l := ns.drop j) (m := 1048577) (by rw [List.length_drop, HM.out]; omega) s
          have hup : ∀ y, (if y = s then n - 1 else bump c (ns.drop j) y) = bump c (ns.drop (j + 1)) y := fun y => by rw [← hnn]; exact bump_down hs y
          have hIA : FSt f M (bump c (ns.drop (j + 1))) v' F' wa ∧ Chg (fun i => i = M) w3 wa := ⟨(hI.out.1.mapped hCa hM').eq hup, hI.out.2.trans hCa⟩
          have c2 : wa.cell? ⟨f, 0, none⟩ = some (.map (some M)) := cell_of hIA.1.blk 0
          have hL2 := run_lookupC (P := Tryz.prog) wa _ _ _ tm ts (tz wa) hIA.1.map s
          have hns2 : bump c (ns.drop (j + 1)) s = n - 1 := by rw [← hup s, if_pos rfl]
          obtain ⟨wb, hD, hMb, hCb⟩ := run_deleteC (P := Tryz.prog) wa _ _ _ tm ts hIA.1.map s
          have HIA := Lib.hid hIA
          have HIB : n - 1 = 0 → Hid (FSt f M (bump c (ns.drop (j + 1))) v' F' wb ∧ Chg (fun i => i = M) w3 wb) := fun h0 => Lib.hid ⟨(hIA.1.mapped hCb hMb).eq fun y => by
            by_cases e : y = s
            · rw [if_pos e, e, hns2, h0]
            · rw [if_neg e], hIA.2.trans hCb⟩
          rw [hnn] at hL hbd
          rw [hns2] at hL2
          obtain ⟨n0, n1⟩ := hbd
          have i0 : (0 : Int) ≤ (j : Int) := by omega
          have i1 : (j : Int) < (k : Int) := by omega
          have n2 : n ≤ 4611686018428436481 := by omega
          clear hM' hCa hnn hs hI n1 hup hIA hns2 hMb hCb
          by_cases hz : n - 1 = 0
          · have HIC := HIB hz
            clear HIB
            obtain rfl : n = 1 := by omega
            have hz1 : (1 : Int) - 1 = 0 := rfl
            rw [hz1] at hU hL2
            clear hz hz1
            go_wp2_with fail
            go_roundg gk'
            case measure => omega
            case rel => exact ⟨j + 1, by go_num, by omega, by omega, HIC⟩
          · clear HIB
            go_wp2_with fail
            go_roundg gk'
            case measure => omega
            case rel => exact ⟨j + 1, by go_num, by omega, by omega, HIA⟩
        · obtain rfl : j = k := by omega
          have hkk2 : ¬ ((j : Nat) : Int) < ((j : Nat) : Int) := by omega
          have hall : ns.drop j = [] := List.drop_eq_nil_of_le (by rw [HM.out]; exact Nat.le_refl _)
          rw [hall] at hI
          clear hall
          go_wp2_with fail
          go_end0
          exact ⟨rfl, v', by rw [← HF2.out]; exact hI.out.1.eq fun s => bump_nil c s, (FStp.trans HW.out.2.2.1 HW.out.2.2.2 (FStp.none HW.out.1) HP3.out).trans HW.out.2.2.1 HW.out.2.2.2 (FStp.of hI.out.2)⟩
end Go.Proofs.YtaklmocjaokkpaaGreatDoor.Tr
