/- The finder's 'node', walked: it tells the unbound names of a node that is right, in order, each once, and leaves the counts as they were. Condition: the finder and its map are newer than the node. -/
import Derived.Test.YtaklmocjaokkpaaGreatDoorScopeWith
import Derived.Test.YtaklmocjaokkpaaGreatDoorTreeUnlike
import Derived.Test.YtaklmocjaokkpaaGreatDoorTreeRParts
import Derived.Test.YtaklmocjaokkpaaGreatDoorBase
namespace Go.Proofs.YtaklmocjaokkpaaGreatDoor.Tr
set_option linter.unusedVariables false
set_option linter.unusedSimpArgs false
open Go.RowKit Go.Shelf Go.Proofs.YtaklmocjaokkpaaGreatDoor.Mem

section
variable {P : Program}
theorem run_append_strs (w : World) (t ty e : TypeId) (i : TypeInfo) (z : Value) (bytes : Nat) (ht : P.underlying t = some (.slice e)) (hi : P.info? e = some i) (hz : i.zero = some z)
    (hsize : i.size = 1) (hby : i.bytes = bytes) (hzs : z.cells.size = 1)
    (v : Value) (n : Nat) (xs : List Value) (hown : RowAt w e 1 v n xs) (x : Value) (l : List ByteArray) (hsrc : StrsIn w x l)
    (h63 : n + l.length ≤ maxLen) (hbytes : (n + l.length) * bytes ≤ 140737488355328) :
    ∃ v' w', (Builtin.append_ #[t, t] ty #[v, x]).run P w = .ok v' w' ∧ RowAt w' e 1 v' (n + l.length) (xs ++ l.map Value.string) ∧ w.grownBy w' v.ownBlock ∧
      (∀ k, v'.ownBlock = some k → v.ownBlock = some k ∨ k = w.heap.size) := by
  obtain ⟨ad, cap, rfl, h1, h2, h3⟩ := hsrc
  cases l with
  | nil =>
    obtain ⟨ad2, cap2, rfl, hc1, hc2⟩ := hown.form
    exact ⟨_, w, run_append_none w t ty e i ht hi ad2 n cap2 hc1 ad cap, by simpa using hown, ⟨rfl, rfl, rfl, Nat.le_refl _, fun _ _ _ => rfl⟩, fun k hk => .inl hk⟩
  | cons s l =>
    obtain ⟨b, off, rfl, _, _⟩ := h3 0 s rfl
    refine run_append_row w t ty e i z 1 bytes ht hi hz hsize hby hzs (by omega) v n xs hown ⟨b, off, none⟩ (s :: l).length cap ((s :: l).map Value.string) (by simp) (fun j u hu => ?_) (fun u hu => ?_) (by simp) h63 hbytes
    · rw [List.getElem?_map] at hu
      obtain ⟨y, hy, rfl⟩ := Option.map_eq_some_iff.1 hu
      obtain ⟨b', off', e, _, hc⟩ := h3 j y hy
      have e2 : b = b' ∧ off = off' := by simpa using e
      obtain ⟨rfl, rfl⟩ := e2
      have hadd : (⟨b, off, none⟩ : Addr).add j = ⟨b, off + j, none⟩ := by unfold Addr.add; split <;> simp_all
      rw [hadd]
      exact hc
    · obtain ⟨y, _, rfl⟩ := List.mem_map.1 hu
      rfl
theorem step_append_strs {ops : Array Oper} {o : Oper} {a : Act} (w : World) {K : Act → World → Prop} {Q : Exit → Act → World → Prop} {E : Prop} (hgd : o.guard = none) (s x : Operand) (t : TypeId)
    (ho : o.op = .call { callee := .builtin .append, args := #[s, x], argTypes := #[t, t] })
    (e : TypeId) (i : TypeInfo) (z : Value) (bytes : Nat) (ht : P.underlying t = some (.slice e)) (hi : P.info? e = some i) (hz : i.zero = some z)
    (hsize : i.size = 1) (hby : i.bytes = bytes) (hzs : z.cells.size = 1)
    (v : Value) (n : Nat) (xs : List Value) (hs : a.eval s = v) (hown : RowAt w e 1 v n xs)
    (xv : Value) (l : List ByteArray) (hx : a.eval x = xv) (hsrc : StrsIn w xv l)
    (h63 : n + l.length ≤ maxLen) (hbytes : (n + l.length) * bytes ≤ 140737488355328) (H : Nat) (hH : w.heap.size = H)
    (h : ∀ ad cap w', RowAt w' e 1 (.slice ad (n + l.length) cap) (n + l.length) (xs ++ l.map Value.string) → w.grownBy w' v.ownBlock → (∀ g, (Value.slice ad (n + l.length) cap).ownBlock = some g → (v.ownBlock = some g ∨ g = H) ∧ g < w'.heap.size) → K (a.put o.dst (.slice ad (n + l.length) cap)) w') :
    if Region.wanted o (yielded ops a.tmps) = true then Oper.wp P o a w K Q else E := by
  have hw : Region.wanted o (yielded ops a.tmps) = true := by simp [Region.wanted, hgd]
  rw [if_pos hw]
  obtain ⟨v', w', hr, h2, h3, h4⟩ := run_append_strs (P := P) w t o.type e i z bytes ht hi hz hsize hby hzs v n xs hown xv l hsrc h63 hbytes
  unfold Oper.wp execOp
  simp only [ho, resolve, invoke, builtin, Sem.run_bind, Sem.run_pure, Result.andThen_ok, List.map_toArray, List.map_cons, List.map_nil, hs, hx, hr]
  obtain ⟨ad, cap, rfl, _⟩ := h2.form
  exact h ad cap w' h2 h3 (fun g hg => ⟨by have := h4 g hg; rw [hH] at this; exact this, h2.lt g hg⟩)
end
theorem new_atS (w : World) (o : Obj) (B : Nat) (h : w.heap.size = B) : (w.alloc o).heap[B]? = some o := by
  subst h
  exact blk_new w o
theorem cell_alS {w : World} {b i : Nat} {u : Value} (o : Obj) (h : w.cell? ⟨b, i, none⟩ = some u) : (w.alloc o).cell? ⟨b, i, none⟩ = some u := ((Chg.refl (fun _ => False) w).alloc o).cell h (fun e => e)
/-- A part of a node, read in a later world. -/
theorem kid_get {w0 W : World} {ad : Option Addr} {l : List Nd} (h : KidsIn w0 ad 0 l) (hc : Chg (fun _ => False) w0 W) (j : Nat) (hj : j < l.length) : ∃ b off nv kv x, ad = some ⟨b, off, none⟩ ∧ l[j]? = some x ∧ x ∈ l ∧ W.cell? ⟨b, off + j * 5, none⟩ = some (.int .u8 x.kind) ∧ W.cell? ⟨b, off + j * 5 + 1, none⟩ = some (.int .i64 x.n) ∧
    W.cell? ⟨b, off + j * 5 + 2, none⟩ = some (.string x.text) ∧ W.cell? ⟨b, off + j * 5 + 3, none⟩ = some nv ∧ W.cell? ⟨b, off + j * 5 + 4, none⟩ = some kv ∧ NdIn w0 nv kv x := by
  obtain ⟨b, off, nv, kv, x, e1, e2, e3, c0, c1, c2, c3, c4, hin⟩ := kid_cells h j hj
  exact ⟨b, off, nv, kv, x, e1, e2, e3, hc.cell c0 (fun e => e), hc.cell c1 (fun e => e), hc.cell c2 (fun e => e), hc.cell c3 (fun e => e), hc.cell c4 (fun e => e), hin⟩
/-- What is known where the finder comes to a node. -/
structure NC (w0 : World) (f M : Nat) (x : Nd) (nv kv : Value) (B : Int) (v : Value) (F : List ByteArray) (c : ByteArray → Int) (w : World) : Prop where
  hC : Chg (fun _ => False) w0 w
  hO : Over w0 f M v
  hS : FSt f M c v F w
  hc : ∀ s, 0 ≤ c s ∧ c s ≤ B
  hF : F.length + sizeN x ≤ 1073741824
  hin : NdIn w0 nv kv x
  hnm : x.names.length ≤ 1048576
  hB : B ≤ 4611686018427387904
  ih : ∀ y ∈ x.kids, ∀ nv kv, NdIn w0 nv kv y → NodeOk w0 f M y nv kv (B + 2097152)
abbrev NodeG (f M : Nat) (x : Nd) (nv kv v : Value) (F : List ByteArray) (c : ByteArray → Int) (w : World) : Prop :=
  Calls Tryz.prog 32 #[.pointer (some ⟨f, 0, none⟩), ndV x nv kv] w fun e w' => e = .returned (.tuple #[]) ∧ ∃ v', FSt f M c v' (addF c F (occN x)) w' ∧ FStp f M v v' w w'
theorem tmS : Tryz.prog.underlying 45 = some (.map 9 3) := Tryz.underlying45
theorem tsS : Tryz.prog.underlying 9 = some .string := Tryz.underlying9
theorem tzS (W : World) : (zeroValue 3).run Tryz.prog W = .ok (.int .i64 0) W := by kernel_rfl
theorem twS : Tryz.prog.underlying 22 = some (.slice 9) := Tryz.underlying22
theorem kids_le (l : List Nd) : ∀ (j : Nat) (y : Nd), l[j]? = some y → ((l.take j).map occN).flatten.length + sizeN y ≤ sizesN l := by
  induction l with
  | nil => intro j y h; cases h
  | cons x l ih =>
    intro j y h
    rw [sizesN]
    cases j with
    | zero =>
      obtain rfl : x = y := by simpa using h
      simp
    | succ j =>
      have h1 := ih j y (by simpa using h)
      have h2 := occN_len x
      simp only [List.take_succ_cons, List.map_cons, List.flatten_cons, List.length_append]
      omega
theorem flat_take (l : List Nd) (j : Nat) (y : Nd) (h : l[j]? = some y) : ((l.take (j + 1)).map occN).flatten = ((l.take j).map occN).flatten ++ occN y := by
  rw [List.take_add_one, h, List.map_append, List.flatten_append]
  simp
theorem Away.mono {f M : Nat} {v nsv : Value} {w w' : World} (h : Away f M v nsv w) (hc : Chg (fun _ => False) w w') : Away f M v nsv w' := fun b hb => by
  obtain ⟨h1, h2, h3, h4⟩ := h b hb
  exact ⟨h1, h2, h3, Nat.lt_of_lt_of_le h4 hc.size⟩
/-- A node's own names are older than the finder; a row without a name lies nowhere that counts. -/
theorem names_away {w0 w : World} {f M : Nat} {v nsv : Value} {l : List ByteArray} (h : StrsIn w0 nsv l) (hl : l ≠ []) (hO : Over w0 f M v) (hC : Chg (fun _ => False) w0 w) : Away f M v nsv w := fun b hb => by
  obtain ⟨ad, cap, rfl, _, _, h4⟩ := h
  obtain ⟨s, hs⟩ : ∃ s, l[0]? = some s := by
    cases l with
    | nil => exact absurd rfl hl
    | cons s l => exact ⟨s, rfl⟩
  obtain ⟨q, off, rfl, hlt, _⟩ := h4 0 s hs
  have : q = b := by simpa [Value.ownBlock] using hb
  subst this
  have := hC.size
  exact ⟨by have := hO.1; omega, by have := hO.2.1; omega, fun e => by have := hO.2.2 q e; omega, by omega⟩
theorem news_one {w : World} {b : Nat} {s : ByteArray} (h : w.heap[b]? = some (.cells #[.string s] 9 (0, 0))) : ∀ j u, [Value.string s][j]? = some u → w.cell? ((⟨b, 0, none⟩ : Addr).add j) = some u := by
  intro j u hu
  cases j with
  | zero =>
    obtain rfl : Value.string s = u := by simpa using hu
    exact cell_of h 0
  | succ j => simp at hu
theorem own_new {v0 v : Value} {w5 : World} {H B b : Nat} (h : ∀ g, v.ownBlock = some g → (v0.ownBlock = some g ∨ g = H) ∧ g < w5.heap.size) (h0 : v0.ownBlock = some b) (hb : B ≤ b) (hH : B ≤ H) : ∀ q, v.ownBlock = some q → B ≤ q ∧ q < w5.heap.size := fun q hq => by
  obtain ⟨h1, h2⟩ := h q hq
  refine ⟨?_, h2⟩
  rcases h1 with e | e
  · rw [h0] at e
    cases e
    exact hb
  · rw [e]; exact hH
theorem away_new {f M : Nat} {v nsv : Value} {w1 w5 : World} (hf : f < w1.heap.size) (hm : M < w1.heap.size) (hv : ∀ k, v.ownBlock = some k → k < w1.heap.size) (h : ∀ q, nsv.ownBlock = some q → w1.heap.size ≤ q ∧ q < w5.heap.size) : Away f M v nsv w5 := fun q hq => by
  obtain ⟨h1, h2⟩ := h q hq
  exact ⟨by omega, by omega, fun e => by have := hv q e; omega, h2⟩
theorem row_oneS {w : World} {b : Nat} {s : ByteArray} (h : w.heap[b]? = some (.cells #[.string s] 9 (0, 0))) : RowAt w 9 1 (.slice (some ⟨b, 0, none⟩) 1 1) 1 [.string s] :=
  ⟨rfl, .inr ⟨b, 0, 1, #[.string s], rfl, h, Nat.le_refl _, by unfold maxLen; omega, by simp, rfl⟩⟩
theorem row_strs2 {w : World} {e : TypeId} {v : Value} {tx : ByteArray} {l : List ByteArray} {m : Nat} (hm : l.length = m) (h : RowAt w e 1 v (1 + m) ([.string tx] ++ l.map Value.string)) : StrsIn w v (tx :: l) := by
  refine row_strs (e := e) ?_
  rw [List.length_cons, hm, Nat.add_comm]
  exact h
/-- The finder's row, one name longer. -/
theorem five_end {f M : Nat} {c : ByteArray → Int} {ad : Option Addr} {cap n : Nat} {F : List ByteArray} {tx : ByteArray} {w2 w5 : World} {g off cap5 : Nat} (h : FSt f M c (.slice ad n cap) F w2) (hn : F.length = n)
    (hC : Chg (fun k => (Value.slice ad n cap).ownBlock = some k) w2 w5) (hr : RowAt w5 9 1 (.slice (some ⟨g, off, none⟩) (n + 1) cap5) (n + 1) (F.map Value.string ++ [.string tx])) {H : Nat} (ha : (Value.slice ad n cap).ownBlock = some g ∨ g = H) (hlt : g < w5.heap.size) (hH : w2.heap.size ≤ H := by simp; try omega) :
    FSt f M c (.slice (some ⟨g, off, none⟩) (n + 1) cap5) (F ++ [tx]) (w5.setCell ⟨f, 1, none⟩ (.slice (some ⟨g, off, none⟩) (n + 1) cap5)) ∧ FStp f M (.slice ad n cap) (.slice (some ⟨g, off, none⟩) (n + 1) cap5) w2 (w5.setCell ⟨f, 1, none⟩ (.slice (some ⟨g, off, none⟩) (n + 1) cap5)) := by
  have hb := hC.blk h.blk (fun e => h.nf e)
  have hlf := h.lf
  have hlm := h.lm
  have hg : g ≠ f ∧ g ≠ M := by
    rcases ha with e | e
    · exact ⟨fun e2 => h.nf (by rw [← e2]; exact e), fun e2 => h.nm (by rw [← e2]; exact e)⟩
    · exact ⟨by omega, by omega⟩
  have hS : Chg (fun j => j = f) w5 (w5.setCell ⟨f, 1, none⟩ (.slice (some ⟨g, off, none⟩) (n + 1) cap5)) := Chg.set (p := ⟨f, 1, none⟩) (F := fun j => j = f) (Chg.refl _ w5) (fun _ => rfl) _
  refine ⟨⟨?_, (h.map.chg hC (fun e => h.nm e)).chg hS (fun e => h.ne e.symm), ?_, h.ne, ?_, ?_⟩, ?_, ?_⟩
  · have := blk_set hb 1 (.slice (some ⟨g, off, none⟩) (n + 1) cap5)
    simpa using this
  · have := hr.kept hS (fun k hk e => hg.1 (by
      have : g = k := by simpa [Value.ownBlock] using hk
      rw [this]; exact e))
    rw [List.map_append, List.length_append]
    rw [hn]
    exact this
  · intro e
    exact hg.1 (by simpa [Value.ownBlock] using e)
  · intro e
    exact hg.2 (by simpa [Value.ownBlock] using e)
  · exact (hC.mono (fun _ _ e => .inr (.inr e))).andThen hS (fun k _ e => .inl e)
  · intro k hk
    have : g = k := by simpa [Value.ownBlock] using hk
    subst this
    rcases ha with e | e
    · exact .inl e
    · exact .inr (by omega)
set_option maxRecDepth 100000 in
set_option maxHeartbeats 4000000 in
theorem node_5 {w0 : World} {f M : Nat} {x : Nd} {nv kv : Value} {B : Int} {v : Value} {F : List ByteArray} {c : ByteArray → Int} {w : World} (h : NC w0 f M x nv kv B v F c w) (hk : x.kind = 5) : NodeG f M x nv kv v F c w := by
  obtain ⟨hC, hO, hS, hc, hF, hin, hnm, hB, hih⟩ := h
  obtain ⟨w1, hw1⟩ : ∃ w1, w.alloc (ndBox x nv kv) = w1 := ⟨_, rfl⟩
  have hC1 : Chg (fun _ => False) w w1 := by rw [← hw1]; exact (Chg.refl _ w).alloc _
  have HBX := Lib.hid (show w1.heap[w.heap.size]? = some (ndBox x nv kv) by rw [← hw1]; exact blk_new w _)
  have HS1 := Lib.hid (hS.later hC1)
  have HC1 := Lib.hid hC1
  have HC01 := Lib.hid (hC.trans hC1)
  have HO := Lib.hid hO
  have HLW := Lib.hid (⟨hS.lf, hS.lm⟩ : f < w.heap.size ∧ M < w.heap.size)
  have HP1 := Lib.hid (FStp.none (f := f) (M := M) (v := v) hC1)
  have HNE : Hid (w.heap.size ≠ f ∧ w.heap.size ≠ M ∧ v.ownBlock ≠ some w.heap.size) := Lib.hid ⟨by have := hS.lf; omega, by have := hS.lm; omega, fun e => by have := hS.row.lt _ e; omega⟩
  have HCC := Lib.hid hc
  have HF := Lib.hid hF
  have HIN := Lib.hid hin
  have HNM := Lib.hid hnm
  have HBB := Lib.hid hB
  have HIH := Lib.hid hih
  have HSZ : Hid (sizeN x = 1 + sizesN x.kids) := Lib.hid (sizeN_is x)
  have HFS : Hid (addF c F (occN x) = stepF c F x.text) := Lib.hid (by rw [occN_is, hk]; exact addF_one c F x.text)

  obtain ⟨tx, htx⟩ : ∃ tx, x.text = tx := ⟨_, rfl⟩
  have HTX := Lib.hid htx
  have hkz : (x.kind : Int) = 5 := by rw [hk]; rfl
  obtain ⟨an, cn, ak, ck, rfl, rfl, hnc, hncm, hkc, hkcm, hkk⟩ := hin.forms
  have HKK := Lib.hid hkk
  have hck2 : ck ≤ 9223372036854775807 := by unfold maxLen at hkcm; omega
  have hcn2 : cn ≤ 9223372036854775807 := by unfold maxLen at hncm; omega
  have HNS := Lib.hid (HIN.out.names.kept HC01.out)
  unfold ndBox at HBX hw1
  unfold NodeG ndV
  rw [htx, hkz] at HBX hw1
  rw [htx, hkz]
  have a0 := cell_of HBX.out 0
  have a1 := cell_of HBX.out 1
  have a2 := cell_of HBX.out 2
  have a3 := cell_of HBX.out 3
  have a4 := cell_of HBX.out 4
  have c0 : w1.cell? ⟨f, 0, none⟩ = some (.map (some M)) := cell_of HS1.out.blk 0
  have c1 : w1.cell? ⟨f, 1, none⟩ = some v := cell_of HS1.out.blk 1
  obtain ⟨ad, cap, rfl, hcp1, hcp2⟩ := hS.row.form
  have hFl := hF
  have hcap2 : cap ≤ 9223372036854775807 := by unfold maxLen at hcp2; omega
  obtain ⟨iS, hj0, hj1, hj2, hj3⟩ := info_parts infoS
  have hL := fun q => run_lookupC (P := Tryz.prog) (w1.drewN q) _ _ _ tmS tsS (tzS _) (HS1.out.later ((Chg.refl _ w1).drewN q)).map tx
  have HCT := Lib.hid (fun q => scontains_calls tx F (.slice ad F.length cap) (w1.drewN q) (row_strs (HS1.out.later ((Chg.refl _ w1).drewN q)).row))
  obtain ⟨n, hn⟩ : ∃ n, F.length = n := ⟨_, rfl⟩
  have HH := Lib.hid hn
  obtain ⟨ct, hct⟩ : ∃ ct, c tx = ct := ⟨_, rfl⟩
  rw [htx] at HFS
  unfold stepF at HFS
  simp only [hct] at hL
  rw [hct] at HFS
  simp only [hn] at HCT
  rw [hn] at HP1 HNE HO c1 hcp1 hFl ⊢
  clear hS hcp2 hk hct
  have HS1' : Hid (FSt f M c (.slice ad n cap) F w1) := Lib.hid (by rw [← HH.out]; exact HS1.out)
  clear hC hO hc hF hin hnm hB hih hC1 hkk hncm hkcm
  go_enter Tryz.func32, Tryz.ntmps32
  by_cases h0 : ct = 0
  · subst h0
    rw [if_pos rfl] at HFS
    obtain ⟨mb, hmb⟩ : ∃ mb, memB tx F = mb := ⟨_, rfl⟩
    rw [hmb] at HFS
    simp only [hmb] at HCT
    clear hmb
    cases mb with
    | true =>
      rw [if_pos rfl] at HFS
      go_wp2_with fail
      go_quiet ((go_at_call 56; exact Calls.quiet_of_same (HCT.out _)))
      go_wp2_with fail
      go_end0
      exact ⟨rfl, _, by rw [HFS.out]; exact HS1'.out.later ((Chg.refl _ w1).drewN _), HP1.out.trans HLW.out.1 HLW.out.2 (FStp.none ((Chg.refl _ w1).drewN _))⟩
    | false =>
      rw [if_neg (by decide)] at HFS
      go_wp2_with fail
      go_quiet ((go_at_call 56; exact Calls.quiet_of_same (HCT.out _)))
      obtain ⟨w2, hw2⟩ : ∃ w2, w1.drewN nq = w2 := ⟨_, rfl⟩
      have hC2 : Chg (fun _ => False) w1 w2 := by rw [← hw2]; exact (Chg.refl _ w1).drewN _
      rw [hw2]
      have HS2 := Lib.hid (HS1'.out.later hC2)
      have HP2 := Lib.hid (FStp.none (f := f) (M := M) (v := .slice ad n cap) hC2)
      have HR2 : Hid (RowAt w2 9 1 (.slice ad n cap) n (F.map Value.string)) := Lib.hid (by have := HS2.out.row; rw [HH.out] at this; exact this)
      have a2 := hC2.cell a2 (fun e => e)
      have c1 := hC2.cell c1 (fun e => e)
      clear hC2 hw2 HCT HS1' HS1 hL a0 a1 a3 a4 c0 HBX
      go_wp2_with fail
      focus
        refine wp_region_T (S := fun W => W.cell? ⟨f, 1, none⟩ = some (.slice ad n cap) ∧ W.cell? ⟨w.heap.size, 2, none⟩ = some (.string tx)) 9 3 rfl (by kernel_rfl) ?_ (fun hHeld => ?_)
        · exact ⟨by assumption, by assumption⟩
        refine wpAnyT_take (i := 0) (v := ?tv1) rfl (by kernel_rfl) (by decide) (by kernel_rfl) (by kernel_rfl) (fun _ _ _ h => h) (Or.inl ⟨by rfl, ?ty1⟩) (by assumption) ?tr1
        case ty1 => intro w hSw; (try dsimp only at hSw); go_simp; (try with_reducible rfl)
        try simp only [Act.put, List.setIfInBounds_toArray, List.set_cons_zero, List.set_cons_succ, List.getElem_toArray, List.getElem_cons_zero, List.getElem_cons_succ, Nat.zero_add]
        refine wpAnyT_take (i := 1) (v := ?tv2) rfl (by kernel_rfl) (by decide) (by kernel_rfl) (by kernel_rfl) (fun _ _ _ h => h) (Or.inl ⟨by rfl, ?ty2⟩) (by assumption) ?tr2
        case ty2 => intro w hSw; (try dsimp only at hSw); go_simp; (try with_reducible rfl)
        try simp only [Act.put, List.setIfInBounds_toArray, List.set_cons_zero, List.set_cons_succ, List.getElem_toArray, List.getElem_cons_zero, List.getElem_cons_succ, Nat.zero_add]
        refine wpAnyT_take (i := 2) (v := ?tv3) rfl (by kernel_rfl) (by decide) (by kernel_rfl) (by kernel_rfl) (fun _ _ _ h => h) (Or.inl ⟨by rfl, ?ty3⟩) (by assumption) ?tr3
        case ty3 => intro w hSw; (try dsimp only at hSw); go_simp; (try with_reducible rfl)
        try simp only [Act.put, List.setIfInBounds_toArray, List.set_cons_zero, List.set_cons_succ, List.getElem_toArray, List.getElem_cons_zero, List.getElem_cons_succ, Nat.zero_add]
        refine wpAnyT_take (i := 3) (v := ?tv4) rfl (by kernel_rfl) (by decide) (by kernel_rfl) (by kernel_rfl) (fun _ _ _ h => h) (Or.inl ⟨by rfl, ?ty4⟩) (by assumption) ?tr4
        case ty4 => intro w hSw; (try dsimp only at hSw); go_simp; (try with_reducible rfl)
        try simp only [Act.put, List.setIfInBounds_toArray, List.set_cons_zero, List.set_cons_succ, List.getElem_toArray, List.getElem_cons_zero, List.getElem_cons_succ, Nat.zero_add]
        refine wpAnyT_take (i := 4) (v := ?tv5) rfl (by kernel_rfl) (by decide) (by kernel_rfl) (by kernel_rfl) (fun _ _ _ h => h) (Or.inl ⟨by rfl, ?ty5⟩) (by assumption) ?tr5
        case ty5 => intro w hSw; (try dsimp only at hSw); go_simp; (try with_reducible rfl)
        try simp only [Act.put, List.setIfInBounds_toArray, List.set_cons_zero, List.set_cons_succ, List.getElem_toArray, List.getElem_cons_zero, List.getElem_cons_succ, Nat.zero_add]
        refine wpAnyT_take (i := 5) (v := ?tv6) rfl (by kernel_rfl) (by decide) (by kernel_rfl) (by kernel_rfl) (fun _ _ _ h => h) (Or.inl ⟨by rfl, ?ty6⟩) (by assumption) ?tr6
        case ty6 => intro w hSw; (try dsimp only at hSw); go_simp; (try with_reducible rfl)
        try simp only [Act.put, List.setIfInBounds_toArray, List.set_cons_zero, List.set_cons_succ, List.getElem_toArray, List.getElem_cons_zero, List.getElem_cons_succ, Nat.zero_add]
        refine wpAnyT_take (i := 6) (v := ?tv7) rfl (by kernel_rfl) (by decide) (by kernel_rfl) (by kernel_rfl) (fun _ _ _ h => h) (Or.inl ⟨by rfl, ?ty7⟩) (by assumption) ?tr7
        case ty7 => intro w hSw; (try dsimp only at hSw); go_simp; (try with_reducible rfl)
        try simp only [Act.put, List.setIfInBounds_toArray, List.set_cons_zero, List.set_cons_succ, List.getElem_toArray, List.getElem_cons_zero, List.getElem_cons_succ, Nat.zero_add]
        refine wpAnyT_ready (rs := [7]) (by kernel_rfl) (by kernel_rfl) ?_
        refine AllReadyT.cons rfl (fun K hK => ?_) ?_
        · go_simp
          refine hK.out _ _ ?_ (fun hHeld => ?_)
          · first | exact ⟨by assumption, by assumption⟩ | exact ⟨cell_alS _ hHeld.1, cell_alS _ hHeld.2⟩
          clear hK K
          try simp only [Act.put, List.setIfInBounds_toArray, List.set_cons_zero, List.set_cons_succ, List.getElem_toArray, List.getElem_cons_zero, List.getElem_cons_succ, Nat.zero_add]
          refine wpAnyT_ready (rs := [8]) (by kernel_rfl) (by kernel_rfl) ?_
          refine AllReadyT.cons rfl (fun K hK => ?_) ?_
          · refine step_append_row _ (by rfl) _ _ _ (by rfl) 9 iS _ 1 16 twS hj0 hj1 hj2 hj3 rfl (by omega) (.slice ad n cap) n (F.map Value.string) (by rfl) (HR2.out.kept ?nc (fun _ _ h => h)) ⟨w2.heap.size, 0, none⟩ 1 1 [.string tx] (by rfl) rfl ?nb ?ny (by decide) (by unfold maxLen; omega) (by omega) _ (by rfl) ?_
            case nb => exact news_one (new_atS _ _ _ (by simp))
            case ny => intro u hu; simp only [List.mem_cons, List.not_mem_nil, or_false] at hu; subst hu; rfl
            case nc => (repeat (first | exact Chg.refl _ _ | apply Chg.alloc | apply Chg.drew | apply Chg.drewN))
            intro gg off cap5 w5 hrow5 hgrow5 hat5 hlt5
            have hC5 : Chg (fun k => (Value.slice ad n cap).ownBlock = some k) w2 w5 := (by refine Chg.grown ?_ hgrow5 (fun k hk e => e); (repeat (first | exact Chg.refl _ _ | apply Chg.alloc | apply Chg.drew | apply Chg.drewN)))
            have q1 := hC5.cell c1 (fun e => HS2.out.nf e)
            have q2 := hC5.cell a2 (fun e => HNE.out.2.2 e)
            have q4 : w5.frozen? ⟨f, 1, none⟩ = false := (by have hb := hC5.blk HS2.out.blk (fun e => HS2.out.nf e); exact free_of hb 1)
            refine hK.out _ _ ?_ (fun hHeld => ?_)
            · first | exact ⟨by assumption, by assumption⟩ | exact ⟨cell_alS _ hHeld.1, cell_alS _ hHeld.2⟩
            clear hK K
            try simp only [Act.put, List.setIfInBounds_toArray, List.set_cons_zero, List.set_cons_succ, List.getElem_toArray, List.getElem_cons_zero, List.getElem_cons_succ, Nat.zero_add]
            refine wpAnyT_done (by kernel_rfl) ?_
            simp only [List.drop_succ_cons, List.drop_zero]
            have HEND := Lib.hid (five_end HS2.out HH.out hC5 hrow5 hat5 hlt5)
            clear hrow5 hgrow5 hat5 hC5 hlt5
            go_wp2_with fail
            go_end0
            exact ⟨rfl, _, by rw [HFS.out]; exact HEND.out.1, (HP1.out.trans HLW.out.1 HLW.out.2 HP2.out).trans HLW.out.1 HLW.out.2 HEND.out.2⟩
          exact AllReadyT.nil
        exact AllReadyT.nil
  · have HFS2 : Hid (addF c F (occN x) = F) := Lib.hid (by rw [HFS.out, if_neg h0])
    clear HFS HCT
    go_wp2_with fail
    go_quiet (fail)
    go_wp2_with fail
    go_end0
    exact ⟨rfl, _, by rw [HFS2.out]; exact HS1'.out.later ((Chg.refl _ w1).drewN _), HP1.out.trans HLW.out.1 HLW.out.2 (FStp.none ((Chg.refl _ w1).drewN _))⟩
set_option maxRecDepth 100000 in
set_option maxHeartbeats 4000000 in
theorem node_17 {w0 : World} {f M : Nat} {x : Nd} {nv kv : Value} {B : Int} {v : Value} {F : List ByteArray} {c : ByteArray → Int} {w : World} (h : NC w0 f M x nv kv B v F c w) (hk : x.kind = 17) (hkl : x.kids.length = 1) (hne : x.names ≠ []) : NodeG f M x nv kv v F c w := by
  obtain ⟨hC, hO, hS, hc, hF, hin, hnm, hB, hih⟩ := h
  obtain ⟨w1, hw1⟩ : ∃ w1, w.alloc (ndBox x nv kv) = w1 := ⟨_, rfl⟩
  have hC1 : Chg (fun _ => False) w w1 := by rw [← hw1]; exact (Chg.refl _ w).alloc _
  have HBX := Lib.hid (show w1.heap[w.heap.size]? = some (ndBox x nv kv) by rw [← hw1]; exact blk_new w _)
  have HS1 := Lib.hid (hS.later hC1)
  have HC1 := Lib.hid hC1
  have HC01 := Lib.hid (hC.trans hC1)
  have HO := Lib.hid hO
  have HLW := Lib.hid (⟨hS.lf, hS.lm⟩ : f < w.heap.size ∧ M < w.heap.size)
  have HP1 := Lib.hid (FStp.none (f := f) (M := M) (v := v) hC1)
  have HNE : Hid (w.heap.size ≠ f ∧ w.heap.size ≠ M ∧ v.ownBlock ≠ some w.heap.size) := Lib.hid ⟨by have := hS.lf; omega, by have := hS.lm; omega, fun e => by have := hS.row.lt _ e; omega⟩
  have HCC := Lib.hid hc
  have HF := Lib.hid hF
  have HIN := Lib.hid hin
  have HNM := Lib.hid hnm
  have HBB := Lib.hid hB
  have HIH := Lib.hid hih
  have HSZ : Hid (sizeN x = 1 + sizesN x.kids) := Lib.hid (sizeN_is x)

  obtain ⟨tx, htx⟩ : ∃ tx, x.text = tx := ⟨_, rfl⟩
  have HTX := Lib.hid htx
  have hkz : (x.kind : Int) = 17 := by rw [hk]; rfl
  obtain ⟨an, cn, ak, ck, rfl, rfl, hnc, hncm, hkc, hkcm, hkk⟩ := hin.forms
  have HKK := Lib.hid hkk
  have hck2 : ck ≤ 9223372036854775807 := by unfold maxLen at hkcm; omega
  have hcn2 : cn ≤ 9223372036854775807 := by unfold maxLen at hncm; omega
  have HNS := Lib.hid (HIN.out.names.kept HC01.out)
  unfold ndBox at HBX hw1
  unfold NodeG ndV
  rw [htx, hkz] at HBX hw1
  rw [htx, hkz]
  have a0 := cell_of HBX.out 0
  have a1 := cell_of HBX.out 1
  have a2 := cell_of HBX.out 2
  have a3 := cell_of HBX.out 3
  have a4 := cell_of HBX.out 4
  have c0 : w1.cell? ⟨f, 0, none⟩ = some (.map (some M)) := cell_of HS1.out.blk 0
  have c1 : w1.cell? ⟨f, 1, none⟩ = some v := cell_of HS1.out.blk 1
  obtain ⟨y, hys⟩ : ∃ y, x.kids = [y] := List.length_eq_one_iff.1 hkl
  have hy0 : x.kids[0]? = some y := by rw [hys]; rfl
  obtain ⟨b, off, nv', kv', y', rfl, hy', hym, k0, k1, k2, k3, k4, hyin⟩ := kid_get HKK.out HC01.out 0 (by rw [hkl]; decide)
  obtain rfl : y = y' := by rw [hy0] at hy'; exact Option.some.inj hy'
  simp only [Nat.zero_mul, Nat.add_zero] at k0 k1 k2 k3 k4
  have HY := Lib.hid (HIH.out y hym nv' kv' hyin)
  have HYI := Lib.hid hyin
  have hszy : sizeN y ≤ sizeN x := by rw [HSZ.out, hys, sizesN]; omega
  have HFY := Lib.hid (show F.length + sizeN y ≤ 1073741824 by have := HF.out; omega)
  have HOX : Hid (occN x = (occN y).filter fun s => !memB s (x.names)) := Lib.hid (by rw [occN_is, hk, hys]; simp [comb])
  obtain ⟨an', cn', ak', ck', rfl, rfl, _⟩ := hyin.forms
  rw [hkl] at a4 HBX hw1 hkc ⊢
  clear hyin hy0 hy' hym hys hszy
  obtain ⟨m, hm⟩ : ∃ m, x.names.length = m := ⟨_, rfl⟩
  have HMM := Lib.hid hm
  have HAWX := Lib.hid (names_away HIN.out.names hne HO.out HC01.out)
  rw [hm] at HAWX HNS a3 HBX hw1 hnc ⊢
  have i0 : (0 : Int) < 1 := by decide
  have HAW : Hid (Away f M v (.slice an m cn) w1) := HAWX
  clear hm hS hk
  clear hC hO hc hF hin hnm hB hih hC1 hkk hncm hkcm
  go_enter Tryz.func32, Tryz.ntmps32
  go_wp2_with fail
  refine wp_region_T (S := fun W => W.cell? ⟨w.heap.size, 3, none⟩ = some (.slice an m cn) ∧ W.cell? ⟨w.heap.size, 4, none⟩ = some (.slice (some ⟨b, off, none⟩) 1 ck) ∧ W.cell? ⟨b, off, none⟩ = some (.int .u8 y.kind) ∧ W.cell? ⟨b, off + 1, none⟩ = some (.int .i64 y.n) ∧ W.cell? ⟨b, off + 2, none⟩ = some (.string y.text) ∧ W.cell? ⟨b, off + 3, none⟩ = some (.slice an' y.names.length cn') ∧ W.cell? ⟨b, off + 4, none⟩ = some (.slice ak' y.kids.length ck')) 7 1 rfl (by kernel_rfl) ?_ (fun hHeld => ?_)
  · exact ⟨by assumption, by assumption, by assumption, by assumption, by assumption, by assumption, by assumption⟩
  refine wpAnyT_take (i := 0) (v := ?tv8) rfl (by kernel_rfl) (by decide) (by kernel_rfl) (by kernel_rfl) (fun _ _ _ h => h) (Or.inl ⟨by rfl, ?ty8⟩) (by assumption) ?tr8
  case ty8 => intro w hSw; (try dsimp only at hSw); go_simp; (try with_reducible rfl)
  try simp only [Act.put, List.setIfInBounds_toArray, List.set_cons_zero, List.set_cons_succ, List.getElem_toArray, List.getElem_cons_zero, List.getElem_cons_succ, Nat.zero_add]
  refine wpAnyT_take (i := 1) (v := ?tv9) rfl (by kernel_rfl) (by decide) (by kernel_rfl) (by kernel_rfl) (fun _ _ _ h => h) (Or.inl ⟨by rfl, ?ty9⟩) (by assumption) ?tr9
  case ty9 => intro w hSw; (try dsimp only at hSw); go_simp; (try with_reducible rfl)
  try simp only [Act.put, List.setIfInBounds_toArray, List.set_cons_zero, List.set_cons_succ, List.getElem_toArray, List.getElem_cons_zero, List.getElem_cons_succ, Nat.zero_add]
  refine wpAnyT_take (i := 2) (v := ?tv10) rfl (by kernel_rfl) (by decide) (by kernel_rfl) (by kernel_rfl) (fun _ _ _ h => h) (Or.inl ⟨by rfl, ?ty10⟩) (by assumption) ?tr10
  case ty10 => intro w hSw; (try dsimp only at hSw); go_simp; (try with_reducible rfl)
  try simp only [Act.put, List.setIfInBounds_toArray, List.set_cons_zero, List.set_cons_succ, List.getElem_toArray, List.getElem_cons_zero, List.getElem_cons_succ, Nat.zero_add]
  refine wpAnyT_take (i := 3) (v := ?tv11) rfl (by kernel_rfl) (by decide) (by kernel_rfl) (by kernel_rfl) (fun _ _ _ h => h) (Or.inl ⟨by rfl, ?ty11⟩) (by assumption) ?tr11
  case ty11 => intro w hSw; (try dsimp only at hSw); go_simp; (try with_reducible rfl)
  try simp only [Act.put, List.setIfInBounds_toArray, List.set_cons_zero, List.set_cons_succ, List.getElem_toArray, List.getElem_cons_zero, List.getElem_cons_succ, Nat.zero_add]
  refine wpAnyT_take (i := 4) (v := ?tv12) rfl (by kernel_rfl) (by decide) (by kernel_rfl) (by kernel_rfl) (fun _ _ _ h => h) (Or.inl ⟨by rfl, ?ty12⟩) (by assumption) ?tr12
  case ty12 => intro w hSw; (try dsimp only at hSw); go_simp; (try with_reducible rfl)
  try simp only [Act.put, List.setIfInBounds_toArray, List.set_cons_zero, List.set_cons_succ, List.getElem_toArray, List.getElem_cons_zero, List.getElem_cons_succ, Nat.zero_add]
  refine wpAnyT_take (i := 5) (v := ?tv13) rfl (by kernel_rfl) (by decide) (by kernel_rfl) (by kernel_rfl) (fun _ _ _ h => h) (Or.inl ⟨by rfl, ?ty13⟩) (by assumption) ?tr13
  case ty13 => intro w hSw; (try dsimp only at hSw); go_simp; (try with_reducible rfl)
  try simp only [Act.put, List.setIfInBounds_toArray, List.set_cons_zero, List.set_cons_succ, List.getElem_toArray, List.getElem_cons_zero, List.getElem_cons_succ, Nat.zero_add]
  refine wpAnyT_take (i := 6) (v := ?tv14) rfl (by kernel_rfl) (by decide) (by kernel_rfl) (by kernel_rfl) (fun _ _ _ h => h) (Or.inl ⟨by rfl, ?ty14⟩) (by assumption) ?tr14
  case ty14 => intro w hSw; (try dsimp only at hSw); go_simp; (try with_reducible rfl)
  try simp only [Act.put, List.setIfInBounds_toArray, List.set_cons_zero, List.set_cons_succ, List.getElem_toArray, List.getElem_cons_zero, List.getElem_cons_succ, Nat.zero_add]
  refine wpAnyT_done (by kernel_rfl) ?_
  simp only [List.drop_succ_cons, List.drop_zero]
  have HC2 := Lib.hid (HC01.out.drew)
  have HCALL := Lib.hid (with_calls HY.out HBB.out HYI.out x.names (.slice an m cn) (by have := HNM.out; omega) v F c w1.drew HC2.out HO.out (HS1.out.later (Chg.refl _ w1).drew) HCC.out HFY.out (HNS.out.kept (Chg.refl _ w1).drew) (HAW.out.mono (Chg.refl _ w1).drew))
  unfold ndV at HCALL
  go_wp2_with fail
  refine HCALL.out.mono ?_
  rintro e w3 ⟨rfl, v', hS3, hP3⟩
  have H3 := Lib.hid hS3
  have H4 := Lib.hid hP3
  clear hS3 hP3 HCALL
  go_wp2_with fail
  go_end0
  exact ⟨rfl, v', by rw [HOX.out]; exact H3.out, ((HP1.out.trans HLW.out.1 HLW.out.2 (FStp.none (Chg.refl _ w1).drew))).trans HLW.out.1 HLW.out.2 H4.out⟩
set_option maxRecDepth 100000 in
set_option maxHeartbeats 4000000 in
theorem node_18 {w0 : World} {f M : Nat} {x : Nd} {nv kv : Value} {B : Int} {v : Value} {F : List ByteArray} {c : ByteArray → Int} {w : World} (h : NC w0 f M x nv kv B v F c w) (hk : x.kind = 18) (hkl : x.kids.length = 1) (hne : x.names ≠ []) : NodeG f M x nv kv v F c w := by
  obtain ⟨hC, hO, hS, hc, hF, hin, hnm, hB, hih⟩ := h
  obtain ⟨w1, hw1⟩ : ∃ w1, w.alloc (ndBox x nv kv) = w1 := ⟨_, rfl⟩
  have hC1 : Chg (fun _ => False) w w1 := by rw [← hw1]; exact (Chg.refl _ w).alloc _
  have HBX := Lib.hid (show w1.heap[w.heap.size]? = some (ndBox x nv kv) by rw [← hw1]; exact blk_new w _)
  have HS1 := Lib.hid (hS.later hC1)
  have HC1 := Lib.hid hC1
  have HC01 := Lib.hid (hC.trans hC1)
  have HO := Lib.hid hO
  have HLW := Lib.hid (⟨hS.lf, hS.lm⟩ : f < w.heap.size ∧ M < w.heap.size)
  have HP1 := Lib.hid (FStp.none (f := f) (M := M) (v := v) hC1)
  have HNE : Hid (w.heap.size ≠ f ∧ w.heap.size ≠ M ∧ v.ownBlock ≠ some w.heap.size) := Lib.hid ⟨by have := hS.lf; omega, by have := hS.lm; omega, fun e => by have := hS.row.lt _ e; omega⟩
  have HCC := Lib.hid hc
  have HF := Lib.hid hF
  have HIN := Lib.hid hin
  have HNM := Lib.hid hnm
  have HBB := Lib.hid hB
  have HIH := Lib.hid hih
  have HSZ : Hid (sizeN x = 1 + sizesN x.kids) := Lib.hid (sizeN_is x)

  obtain ⟨tx, htx⟩ : ∃ tx, x.text = tx := ⟨_, rfl⟩
  have HTX := Lib.hid htx
  have hkz : (x.kind : Int) = 18 := by rw [hk]; rfl
  obtain ⟨an, cn, ak, ck, rfl, rfl, hnc, hncm, hkc, hkcm, hkk⟩ := hin.forms
  have HKK := Lib.hid hkk
  have hck2 : ck ≤ 9223372036854775807 := by unfold maxLen at hkcm; omega
  have hcn2 : cn ≤ 9223372036854775807 := by unfold maxLen at hncm; omega
  have HNS := Lib.hid (HIN.out.names.kept HC01.out)
  unfold ndBox at HBX hw1
  unfold NodeG ndV
  rw [htx, hkz] at HBX hw1
  rw [htx, hkz]
  have a0 := cell_of HBX.out 0
  have a1 := cell_of HBX.out 1
  have a2 := cell_of HBX.out 2
  have a3 := cell_of HBX.out 3
  have a4 := cell_of HBX.out 4
  have c0 : w1.cell? ⟨f, 0, none⟩ = some (.map (some M)) := cell_of HS1.out.blk 0
  have c1 : w1.cell? ⟨f, 1, none⟩ = some v := cell_of HS1.out.blk 1
  obtain ⟨y, hys⟩ : ∃ y, x.kids = [y] := List.length_eq_one_iff.1 hkl
  have hy0 : x.kids[0]? = some y := by rw [hys]; rfl
  obtain ⟨b, off, nv', kv', y', rfl, hy', hym, k0, k1, k2, k3, k4, hyin⟩ := kid_get HKK.out HC01.out 0 (by rw [hkl]; decide)
  obtain rfl : y = y' := by rw [hy0] at hy'; exact Option.some.inj hy'
  simp only [Nat.zero_mul, Nat.add_zero] at k0 k1 k2 k3 k4
  have HY := Lib.hid (HIH.out y hym nv' kv' hyin)
  have HYI := Lib.hid hyin
  have hszy : sizeN y ≤ sizeN x := by rw [HSZ.out, hys, sizesN]; omega
  have HFY := Lib.hid (show F.length + sizeN y ≤ 1073741824 by have := HF.out; omega)
  have HOX : Hid (occN x = (occN y).filter fun s => !memB s (x.names)) := Lib.hid (by rw [occN_is, hk, hys]; simp [comb])
  obtain ⟨an', cn', ak', ck', rfl, rfl, _⟩ := hyin.forms
  rw [hkl] at a4 HBX hw1 hkc ⊢
  clear hyin hy0 hy' hym hys hszy
  obtain ⟨m, hm⟩ : ∃ m, x.names.length = m := ⟨_, rfl⟩
  have HMM := Lib.hid hm
  have HAWX := Lib.hid (names_away HIN.out.names hne HO.out HC01.out)
  rw [hm] at HAWX HNS a3 HBX hw1 hnc ⊢
  have i0 : (0 : Int) < 1 := by decide
  have HAW : Hid (Away f M v (.slice an m cn) w1) := HAWX
  clear hm hS hk
  clear hC hO hc hF hin hnm hB hih hC1 hkk hncm hkcm
  go_enter Tryz.func32, Tryz.ntmps32
  go_wp2_with fail
  refine wp_region_T (S := fun W => W.cell? ⟨w.heap.size, 3, none⟩ = some (.slice an m cn) ∧ W.cell? ⟨w.heap.size, 4, none⟩ = some (.slice (some ⟨b, off, none⟩) 1 ck) ∧ W.cell? ⟨b, off, none⟩ = some (.int .u8 y.kind) ∧ W.cell? ⟨b, off + 1, none⟩ = some (.int .i64 y.n) ∧ W.cell? ⟨b, off + 2, none⟩ = some (.string y.text) ∧ W.cell? ⟨b, off + 3, none⟩ = some (.slice an' y.names.length cn') ∧ W.cell? ⟨b, off + 4, none⟩ = some (.slice ak' y.kids.length ck')) 7 1 rfl (by kernel_rfl) ?_ (fun hHeld => ?_)
  · exact ⟨by assumption, by assumption, by assumption, by assumption, by assumption, by assumption, by assumption⟩
  refine wpAnyT_take (i := 0) (v := ?tv15) rfl (by kernel_rfl) (by decide) (by kernel_rfl) (by kernel_rfl) (fun _ _ _ h => h) (Or.inl ⟨by rfl, ?ty15⟩) (by assumption) ?tr15
  case ty15 => intro w hSw; (try dsimp only at hSw); go_simp; (try with_reducible rfl)
  try simp only [Act.put, List.setIfInBounds_toArray, List.set_cons_zero, List.set_cons_succ, List.getElem_toArray, List.getElem_cons_zero, List.getElem_cons_succ, Nat.zero_add]
  refine wpAnyT_take (i := 1) (v := ?tv16) rfl (by kernel_rfl) (by decide) (by kernel_rfl) (by kernel_rfl) (fun _ _ _ h => h) (Or.inl ⟨by rfl, ?ty16⟩) (by assumption) ?tr16
  case ty16 => intro w hSw; (try dsimp only at hSw); go_simp; (try with_reducible rfl)
  try simp only [Act.put, List.setIfInBounds_toArray, List.set_cons_zero, List.set_cons_succ, List.getElem_toArray, List.getElem_cons_zero, List.getElem_cons_succ, Nat.zero_add]
  refine wpAnyT_take (i := 2) (v := ?tv17) rfl (by kernel_rfl) (by decide) (by kernel_rfl) (by kernel_rfl) (fun _ _ _ h => h) (Or.inl ⟨by rfl, ?ty17⟩) (by assumption) ?tr17
  case ty17 => intro w hSw; (try dsimp only at hSw); go_simp; (try with_reducible rfl)
  try simp only [Act.put, List.setIfInBounds_toArray, List.set_cons_zero, List.set_cons_succ, List.getElem_toArray, List.getElem_cons_zero, List.getElem_cons_succ, Nat.zero_add]
  refine wpAnyT_take (i := 3) (v := ?tv18) rfl (by kernel_rfl) (by decide) (by kernel_rfl) (by kernel_rfl) (fun _ _ _ h => h) (Or.inl ⟨by rfl, ?ty18⟩) (by assumption) ?tr18
  case ty18 => intro w hSw; (try dsimp only at hSw); go_simp; (try with_reducible rfl)
  try simp only [Act.put, List.setIfInBounds_toArray, List.set_cons_zero, List.set_cons_succ, List.getElem_toArray, List.getElem_cons_zero, List.getElem_cons_succ, Nat.zero_add]
  refine wpAnyT_take (i := 4) (v := ?tv19) rfl (by kernel_rfl) (by decide) (by kernel_rfl) (by kernel_rfl) (fun _ _ _ h => h) (Or.inl ⟨by rfl, ?ty19⟩) (by assumption) ?tr19
  case ty19 => intro w hSw; (try dsimp only at hSw); go_simp; (try with_reducible rfl)
  try simp only [Act.put, List.setIfInBounds_toArray, List.set_cons_zero, List.set_cons_succ, List.getElem_toArray, List.getElem_cons_zero, List.getElem_cons_succ, Nat.zero_add]
  refine wpAnyT_take (i := 5) (v := ?tv20) rfl (by kernel_rfl) (by decide) (by kernel_rfl) (by kernel_rfl) (fun _ _ _ h => h) (Or.inl ⟨by rfl, ?ty20⟩) (by assumption) ?tr20
  case ty20 => intro w hSw; (try dsimp only at hSw); go_simp; (try with_reducible rfl)
  try simp only [Act.put, List.setIfInBounds_toArray, List.set_cons_zero, List.set_cons_succ, List.getElem_toArray, List.getElem_cons_zero, List.getElem_cons_succ, Nat.zero_add]
  refine wpAnyT_take (i := 6) (v := ?tv21) rfl (by kernel_rfl) (by decide) (by kernel_rfl) (by kernel_rfl) (fun _ _ _ h => h) (Or.inl ⟨by rfl, ?ty21⟩) (by assumption) ?tr21
  case ty21 => intro w hSw; (try dsimp only at hSw); go_simp; (try with_reducible rfl)
  try simp only [Act.put, List.setIfInBounds_toArray, List.set_cons_zero, List.set_cons_succ, List.getElem_toArray, List.getElem_cons_zero, List.getElem_cons_succ, Nat.zero_add]
  refine wpAnyT_done (by kernel_rfl) ?_
  simp only [List.drop_succ_cons, List.drop_zero]
  have HC2 := Lib.hid (HC01.out.drew)
  have HCALL := Lib.hid (with_calls HY.out HBB.out HYI.out x.names (.slice an m cn) (by have := HNM.out; omega) v F c w1.drew HC2.out HO.out (HS1.out.later (Chg.refl _ w1).drew) HCC.out HFY.out (HNS.out.kept (Chg.refl _ w1).drew) (HAW.out.mono (Chg.refl _ w1).drew))
  unfold ndV at HCALL
  go_wp2_with fail
  refine HCALL.out.mono ?_
  rintro e w3 ⟨rfl, v', hS3, hP3⟩
  have H3 := Lib.hid hS3
  have H4 := Lib.hid hP3
  clear hS3 hP3 HCALL
  go_wp2_with fail
  go_end0
  exact ⟨rfl, v', by rw [HOX.out]; exact H3.out, ((HP1.out.trans HLW.out.1 HLW.out.2 (FStp.none (Chg.refl _ w1).drew))).trans HLW.out.1 HLW.out.2 H4.out⟩
set_option maxRecDepth 100000 in
set_option maxHeartbeats 4000000 in
theorem node_6 {w0 : World} {f M : Nat} {x : Nd} {nv kv : Value} {B : Int} {v : Value} {F : List ByteArray} {c : ByteArray → Int} {w : World} (h : NC w0 f M x nv kv B v F c w) (hk : x.kind = 6) (hkl : x.kids.length = 1) : NodeG f M x nv kv v F c w := by
  obtain ⟨hC, hO, hS, hc, hF, hin, hnm, hB, hih⟩ := h
  obtain ⟨w1, hw1⟩ : ∃ w1, w.alloc (ndBox x nv kv) = w1 := ⟨_, rfl⟩
  have hC1 : Chg (fun _ => False) w w1 := by rw [← hw1]; exact (Chg.refl _ w).alloc _
  have HBX := Lib.hid (show w1.heap[w.heap.size]? = some (ndBox x nv kv) by rw [← hw1]; exact blk_new w _)
  have HS1 := Lib.hid (hS.later hC1)
  have HC1 := Lib.hid hC1
  have HC01 := Lib.hid (hC.trans hC1)
  have HO := Lib.hid hO
  have HLW := Lib.hid (⟨hS.lf, hS.lm⟩ : f < w.heap.size ∧ M < w.heap.size)
  have HP1 := Lib.hid (FStp.none (f := f) (M := M) (v := v) hC1)
  have HNE : Hid (w.heap.size ≠ f ∧ w.heap.size ≠ M ∧ v.ownBlock ≠ some w.heap.size) := Lib.hid ⟨by have := hS.lf; omega, by have := hS.lm; omega, fun e => by have := hS.row.lt _ e; omega⟩
  have HCC := Lib.hid hc
  have HF := Lib.hid hF
  have HIN := Lib.hid hin
  have HNM := Lib.hid hnm
  have HBB := Lib.hid hB
  have HIH := Lib.hid hih
  have HSZ : Hid (sizeN x = 1 + sizesN x.kids) := Lib.hid (sizeN_is x)

  obtain ⟨tx, htx⟩ : ∃ tx, x.text = tx := ⟨_, rfl⟩
  have HTX := Lib.hid htx
  have hkz : (x.kind : Int) = 6 := by rw [hk]; rfl
  obtain ⟨an, cn, ak, ck, rfl, rfl, hnc, hncm, hkc, hkcm, hkk⟩ := hin.forms
  have HKK := Lib.hid hkk
  have hck2 : ck ≤ 9223372036854775807 := by unfold maxLen at hkcm; omega
  have hcn2 : cn ≤ 9223372036854775807 := by unfold maxLen at hncm; omega
  have HNS := Lib.hid (HIN.out.names.kept HC01.out)
  unfold ndBox at HBX hw1
  unfold NodeG ndV
  rw [htx, hkz] at HBX hw1
  rw [htx, hkz]
  have a0 := cell_of HBX.out 0
  have a1 := cell_of HBX.out 1
  have a2 := cell_of HBX.out 2
  have a3 := cell_of HBX.out 3
  have a4 := cell_of HBX.out 4
  have c0 : w1.cell? ⟨f, 0, none⟩ = some (.map (some M)) := cell_of HS1.out.blk 0
  have c1 : w1.cell? ⟨f, 1, none⟩ = some v := cell_of HS1.out.blk 1
  obtain ⟨y, hys⟩ : ∃ y, x.kids = [y] := List.length_eq_one_iff.1 hkl
  have hy0 : x.kids[0]? = some y := by rw [hys]; rfl
  obtain ⟨b, off, nv', kv', y', rfl, hy', hym, k0, k1, k2, k3, k4, hyin⟩ := kid_get HKK.out HC01.out 0 (by rw [hkl]; decide)
  obtain rfl : y = y' := by rw [hy0] at hy'; exact Option.some.inj hy'
  simp only [Nat.zero_mul, Nat.add_zero] at k0 k1 k2 k3 k4
  have HY := Lib.hid (HIH.out y hym nv' kv' hyin)
  have HYI := Lib.hid hyin
  have hszy : sizeN y ≤ sizeN x := by rw [HSZ.out, hys, sizesN]; omega
  have HFY := Lib.hid (show F.length + sizeN y ≤ 1073741824 by have := HF.out; omega)
  have HOX : Hid (occN x = (occN y).filter fun s => !memB s (x.text :: x.names)) := Lib.hid (by rw [occN_is, hk, hys]; simp [comb])
  obtain ⟨an', cn', ak', ck', rfl, rfl, _⟩ := hyin.forms
  rw [hkl] at a4 HBX hw1 hkc ⊢
  clear hyin hy0 hy' hym hys hszy
  obtain ⟨m, hm⟩ : ∃ m, x.names.length = m := ⟨_, rfl⟩
  have HMM := Lib.hid hm
  rw [htx] at HOX
  rw [hm] at HNS a3 HBX hw1 hnc HNM ⊢
  have i0 : (0 : Int) < 1 := by decide
  have hnm2 := HNM.out
  obtain ⟨iS, hj0, hj1, hj2, hj3⟩ := info_parts infoS
  clear hm hS hk
  clear hC hO hc hF hin hB hih hC1 hkk hncm hkcm
  go_enter Tryz.func32, Tryz.ntmps32
  go_wp2_with fail
  refine wp_region_T (S := fun W => W.cell? ⟨w.heap.size, 2, none⟩ = some (.string tx) ∧ W.cell? ⟨w.heap.size, 3, none⟩ = some (.slice an m cn) ∧ W.cell? ⟨w.heap.size, 4, none⟩ = some (.slice (some ⟨b, off, none⟩) 1 ck) ∧ W.cell? ⟨b, off, none⟩ = some (.int .u8 y.kind) ∧ W.cell? ⟨b, off + 1, none⟩ = some (.int .i64 y.n) ∧ W.cell? ⟨b, off + 2, none⟩ = some (.string y.text) ∧ W.cell? ⟨b, off + 3, none⟩ = some (.slice an' y.names.length cn') ∧ W.cell? ⟨b, off + 4, none⟩ = some (.slice ak' y.kids.length ck')) 11 1 rfl (by kernel_rfl) ?_ (fun hHeld => ?_)
  · exact ⟨by assumption, by assumption, by assumption, by assumption, by assumption, by assumption, by assumption, by assumption⟩
  refine wpAnyT_take (i := 0) (v := ?tv22) rfl (by kernel_rfl) (by decide) (by kernel_rfl) (by kernel_rfl) (fun _ _ _ h => h) (Or.inl ⟨by rfl, ?ty22⟩) (by assumption) ?tr22
  case ty22 => intro w hSw; (try dsimp only at hSw); go_simp; (try with_reducible rfl)
  try simp only [Act.put, List.setIfInBounds_toArray, List.set_cons_zero, List.set_cons_succ, List.getElem_toArray, List.getElem_cons_zero, List.getElem_cons_succ, Nat.zero_add]
  refine wpAnyT_take (i := 1) (v := ?tv23) rfl (by kernel_rfl) (by decide) (by kernel_rfl) (by kernel_rfl) (fun _ _ _ h => h) (Or.inl ⟨by rfl, ?ty23⟩) (by assumption) ?tr23
  case ty23 => intro w hSw; (try dsimp only at hSw); go_simp; (try with_reducible rfl)
  try simp only [Act.put, List.setIfInBounds_toArray, List.set_cons_zero, List.set_cons_succ, List.getElem_toArray, List.getElem_cons_zero, List.getElem_cons_succ, Nat.zero_add]
  refine wpAnyT_take (i := 2) (v := ?tv24) rfl (by kernel_rfl) (by decide) (by kernel_rfl) (by kernel_rfl) (fun _ _ _ h => h) (Or.inl ⟨by rfl, ?ty24⟩) (by assumption) ?tr24
  case ty24 => intro w hSw; (try dsimp only at hSw); go_simp; (try with_reducible rfl)
  try simp only [Act.put, List.setIfInBounds_toArray, List.set_cons_zero, List.set_cons_succ, List.getElem_toArray, List.getElem_cons_zero, List.getElem_cons_succ, Nat.zero_add]
  refine wpAnyT_take (i := 3) (v := ?tv25) rfl (by kernel_rfl) (by decide) (by kernel_rfl) (by kernel_rfl) (fun _ _ _ h => h) (Or.inl ⟨by rfl, ?ty25⟩) (by assumption) ?tr25
  case ty25 => intro w hSw; (try dsimp only at hSw); go_simp; (try with_reducible rfl)
  try simp only [Act.put, List.setIfInBounds_toArray, List.set_cons_zero, List.set_cons_succ, List.getElem_toArray, List.getElem_cons_zero, List.getElem_cons_succ, Nat.zero_add]
  refine wpAnyT_take (i := 4) (v := ?tv26) rfl (by kernel_rfl) (by decide) (by kernel_rfl) (by kernel_rfl) (fun _ _ _ h => h) (Or.inl ⟨by rfl, ?ty26⟩) (by assumption) ?tr26
  case ty26 => intro w hSw; (try dsimp only at hSw); go_simp; (try with_reducible rfl)
  try simp only [Act.put, List.setIfInBounds_toArray, List.set_cons_zero, List.set_cons_succ, List.getElem_toArray, List.getElem_cons_zero, List.getElem_cons_succ, Nat.zero_add]
  refine wpAnyT_take (i := 5) (v := ?tv27) rfl (by kernel_rfl) (by decide) (by kernel_rfl) (by kernel_rfl) (fun _ _ _ h => h) (Or.inl ⟨by rfl, ?ty27⟩) (by assumption) ?tr27
  case ty27 => intro w hSw; (try dsimp only at hSw); go_simp; (try with_reducible rfl)
  try simp only [Act.put, List.setIfInBounds_toArray, List.set_cons_zero, List.set_cons_succ, List.getElem_toArray, List.getElem_cons_zero, List.getElem_cons_succ, Nat.zero_add]
  refine wpAnyT_take (i := 6) (v := ?tv28) rfl (by kernel_rfl) (by decide) (by kernel_rfl) (by kernel_rfl) (fun _ _ _ h => h) (Or.inl ⟨by rfl, ?ty28⟩) (by assumption) ?tr28
  case ty28 => intro w hSw; (try dsimp only at hSw); go_simp; (try with_reducible rfl)
  try simp only [Act.put, List.setIfInBounds_toArray, List.set_cons_zero, List.set_cons_succ, List.getElem_toArray, List.getElem_cons_zero, List.getElem_cons_succ, Nat.zero_add]
  refine wpAnyT_take (i := 8) (v := ?tv29) rfl (by kernel_rfl) (by decide) (by kernel_rfl) (by kernel_rfl) (fun _ _ _ h => h) (Or.inl ⟨by rfl, ?ty29⟩) (by assumption) ?tr29
  case ty29 => intro w hSw; (try dsimp only at hSw); go_simp; (try with_reducible rfl)
  try simp only [Act.put, List.setIfInBounds_toArray, List.set_cons_zero, List.set_cons_succ, List.getElem_toArray, List.getElem_cons_zero, List.getElem_cons_succ, Nat.zero_add]
  refine wpAnyT_take (i := 9) (v := ?tv30) rfl (by kernel_rfl) (by decide) (by kernel_rfl) (by kernel_rfl) (fun _ _ _ h => h) (Or.inl ⟨by rfl, ?ty30⟩) (by assumption) ?tr30
  case ty30 => intro w hSw; (try dsimp only at hSw); go_simp; (try with_reducible rfl)
  try simp only [Act.put, List.setIfInBounds_toArray, List.set_cons_zero, List.set_cons_succ, List.getElem_toArray, List.getElem_cons_zero, List.getElem_cons_succ, Nat.zero_add]
  refine wpAnyT_ready (rs := [7]) (by kernel_rfl) (by kernel_rfl) ?_
  refine AllReadyT.cons rfl (fun K hK => ?_) ?_
  · go_simp
    refine hK.out _ _ ?_ (fun hHeld => ?_)
    · first | exact ⟨by assumption, by assumption, by assumption, by assumption, by assumption, by assumption, by assumption, by assumption⟩ | exact ⟨cell_alS _ hHeld.1, cell_alS _ hHeld.2.1, cell_alS _ hHeld.2.2.1, cell_alS _ hHeld.2.2.2.1, cell_alS _ hHeld.2.2.2.2.1, cell_alS _ hHeld.2.2.2.2.2.1, cell_alS _ hHeld.2.2.2.2.2.2.1, cell_alS _ hHeld.2.2.2.2.2.2.2⟩ | exact ⟨hCq.cell a2 (fun e => e), hCq.cell a3 (fun e => e), hCq.cell a4 (fun e => e), hCq.cell k0 (fun e => e), hCq.cell k1 (fun e => e), hCq.cell k2 (fun e => e), hCq.cell k3 (fun e => e), hCq.cell k4 (fun e => e)⟩
    clear hK K
    try simp only [Act.put, List.setIfInBounds_toArray, List.set_cons_zero, List.set_cons_succ, List.getElem_toArray, List.getElem_cons_zero, List.getElem_cons_succ, Nat.zero_add]
    refine wpAnyT_ready (rs := [10]) (by kernel_rfl) (by kernel_rfl) ?_
    refine AllReadyT.cons rfl (fun K hK => ?_) ?_
    · refine step_append_strs _ (by rfl) _ _ _ (by rfl) 9 iS _ 16 twS hj0 hj1 hj2 hj3 rfl (.slice (some ⟨w1.heap.size, 0, none⟩) 1 1) 1 [.string tx] (by rfl) ?nb (.slice an m cn) x.names (by rfl) (HNS.out.kept ?nc) (by rw [HMM.out]; unfold maxLen; omega) (by rw [HMM.out]; omega) _ (by rfl) ?_
      case nb => exact row_oneS (new_atS _ _ _ (by simp))
      case nc => (repeat (first | exact Chg.refl _ _ | apply Chg.alloc | apply Chg.drew | apply Chg.drewN))
      rw [HMM.out]
      intro ad5 cap5 w5 hrow5 hgrow5 hat5
      have hCq : Chg (fun _ => False) w1 w5 := (by refine Chg.grown ?_ hgrow5 (fun k hk e => ?_); (focus (repeat (first | exact Chg.refl _ _ | apply Chg.alloc | apply Chg.drew | apply Chg.drewN))); (have e2 : w1.heap.size = k := (by simpa [Value.ownBlock] using e); omega))
      refine hK.out _ _ ?_ (fun hHeld => ?_)
      · first | exact ⟨by assumption, by assumption, by assumption, by assumption, by assumption, by assumption, by assumption, by assumption⟩ | exact ⟨cell_alS _ hHeld.1, cell_alS _ hHeld.2.1, cell_alS _ hHeld.2.2.1, cell_alS _ hHeld.2.2.2.1, cell_alS _ hHeld.2.2.2.2.1, cell_alS _ hHeld.2.2.2.2.2.1, cell_alS _ hHeld.2.2.2.2.2.2.1, cell_alS _ hHeld.2.2.2.2.2.2.2⟩ | exact ⟨hCq.cell a2 (fun e => e), hCq.cell a3 (fun e => e), hCq.cell a4 (fun e => e), hCq.cell k0 (fun e => e), hCq.cell k1 (fun e => e), hCq.cell k2 (fun e => e), hCq.cell k3 (fun e => e), hCq.cell k4 (fun e => e)⟩
      clear hK K
      try simp only [Act.put, List.setIfInBounds_toArray, List.set_cons_zero, List.set_cons_succ, List.getElem_toArray, List.getElem_cons_zero, List.getElem_cons_succ, Nat.zero_add]
      refine wpAnyT_done (by kernel_rfl) ?_
      simp only [List.drop_succ_cons, List.drop_zero]
      have HCQ := Lib.hid hCq
      have HR5 : Hid (StrsIn w5 (.slice ad5 (1 + m) cap5) (tx :: x.names)) := Lib.hid (row_strs2 HMM.out hrow5)
      have HA5 : Hid (Away f M v (.slice ad5 (1 + m) cap5) w5) := Lib.hid (away_new HS1.out.lf HS1.out.lm HS1.out.row.lt (own_new hat5 rfl (Nat.le_refl _) (by simp)))
      have HCALL := Lib.hid (with_calls HY.out HBB.out HYI.out (tx :: x.names) (.slice ad5 (1 + m) cap5) (by rw [List.length_cons, HMM.out]; omega) v F c w5 (HC01.out.trans HCQ.out) HO.out (HS1.out.later HCQ.out) HCC.out HFY.out HR5.out HA5.out)
      unfold ndV at HCALL
      clear hCq hrow5 hgrow5 hat5 HR5 HA5
      go_wp2_with fail
      refine HCALL.out.mono ?_
      rintro e w6 ⟨rfl, v', hS3, hP3⟩
      have H3 := Lib.hid hS3
      have H4 := Lib.hid hP3
      clear hS3 hP3 HCALL
      go_wp2_with fail
      go_end0
      exact ⟨rfl, v', by rw [HOX.out]; exact H3.out, ((HP1.out.trans HLW.out.1 HLW.out.2 (FStp.none HCQ.out))).trans HLW.out.1 HLW.out.2 H4.out⟩
    exact AllReadyT.nil
  exact AllReadyT.nil
set_option maxRecDepth 100000 in
set_option maxHeartbeats 4000000 in
theorem node_8 {w0 : World} {f M : Nat} {x : Nd} {nv kv : Value} {B : Int} {v : Value} {F : List ByteArray} {c : ByteArray → Int} {w : World} (h : NC w0 f M x nv kv B v F c w) (hk : x.kind = 8) (hkl : x.kids.length = 2) : NodeG f M x nv kv v F c w := by
  obtain ⟨hC, hO, hS, hc, hF, hin, hnm, hB, hih⟩ := h
  obtain ⟨w1, hw1⟩ : ∃ w1, w.alloc (ndBox x nv kv) = w1 := ⟨_, rfl⟩
  have hC1 : Chg (fun _ => False) w w1 := by rw [← hw1]; exact (Chg.refl _ w).alloc _
  have HBX := Lib.hid (show w1.heap[w.heap.size]? = some (ndBox x nv kv) by rw [← hw1]; exact blk_new w _)
  have HS1 := Lib.hid (hS.later hC1)
  have HC1 := Lib.hid hC1
  have HC01 := Lib.hid (hC.trans hC1)
  have HO := Lib.hid hO
  have HLW := Lib.hid (⟨hS.lf, hS.lm⟩ : f < w.heap.size ∧ M < w.heap.size)
  have HP1 := Lib.hid (FStp.none (f := f) (M := M) (v := v) hC1)
  have HNE : Hid (w.heap.size ≠ f ∧ w.heap.size ≠ M ∧ v.ownBlock ≠ some w.heap.size) := Lib.hid ⟨by have := hS.lf; omega, by have := hS.lm; omega, fun e => by have := hS.row.lt _ e; omega⟩
  have HCC := Lib.hid hc
  have HF := Lib.hid hF
  have HIN := Lib.hid hin
  have HNM := Lib.hid hnm
  have HBB := Lib.hid hB
  have HIH := Lib.hid hih
  have HSZ : Hid (sizeN x = 1 + sizesN x.kids) := Lib.hid (sizeN_is x)

  obtain ⟨tx, htx⟩ : ∃ tx, x.text = tx := ⟨_, rfl⟩
  have HTX := Lib.hid htx
  have hkz : (x.kind : Int) = 8 := by rw [hk]; rfl
  obtain ⟨an, cn, ak, ck, rfl, rfl, hnc, hncm, hkc, hkcm, hkk⟩ := hin.forms
  have HKK := Lib.hid hkk
  have hck2 : ck ≤ 9223372036854775807 := by unfold maxLen at hkcm; omega
  have hcn2 : cn ≤ 9223372036854775807 := by unfold maxLen at hncm; omega
  have HNS := Lib.hid (HIN.out.names.kept HC01.out)
  unfold ndBox at HBX hw1
  unfold NodeG ndV
  rw [htx, hkz] at HBX hw1
  rw [htx, hkz]
  have a0 := cell_of HBX.out 0
  have a1 := cell_of HBX.out 1
  have a2 := cell_of HBX.out 2
  have a3 := cell_of HBX.out 3
  have a4 := cell_of HBX.out 4
  have c0 : w1.cell? ⟨f, 0, none⟩ = some (.map (some M)) := cell_of HS1.out.blk 0
  have c1 : w1.cell? ⟨f, 1, none⟩ = some v := cell_of HS1.out.blk 1
  obtain ⟨y0, y1, hys⟩ : ∃ y0 y1, x.kids = [y0, y1] := by
    match hq : x.kids, hkl with
    | [p, q], _ => exact ⟨p, q, rfl⟩
  obtain ⟨b, off, nv', kv', y', rfl, hy', hym, k0, k1, k2, k3, k4, hyin⟩ := kid_get HKK.out HC01.out 0 (by rw [hkl]; decide)
  obtain rfl : y0 = y' := by rw [hys] at hy'; exact Option.some.inj hy'
  simp only [Nat.zero_mul, Nat.add_zero] at k0 k1 k2 k3 k4
  have HK1 : Hid (∀ W, Chg (fun _ => False) w0 W → ∃ nv kv, W.cell? ⟨b, off + 5, none⟩ = some (.int .u8 y1.kind) ∧ W.cell? ⟨b, off + 5 + 1, none⟩ = some (.int .i64 y1.n) ∧ W.cell? ⟨b, off + 5 + 2, none⟩ = some (.string y1.text) ∧ W.cell? ⟨b, off + 5 + 3, none⟩ = some nv ∧ W.cell? ⟨b, off + 5 + 4, none⟩ = some kv ∧ NdIn w0 nv kv y1) := Lib.hid fun W hW => by
    obtain ⟨b', off', nv1, kv1, y', e, hy', _, g0, g1, g2, g3, g4, gin⟩ := kid_get HKK.out hW 1 (by rw [hkl]; decide)
    have e2 : b = b' ∧ off = off' := by simpa using e
    obtain ⟨rfl, rfl⟩ := e2
    obtain rfl : y1 = y' := by rw [hys] at hy'; exact Option.some.inj hy'
    simp only [Nat.one_mul] at g0 g1 g2 g3 g4
    exact ⟨nv1, kv1, g0, g1, g2, g3, g4, gin⟩
  have HY0 := Lib.hid (HIH.out y0 hym nv' kv' hyin)
  have hym1 : y1 ∈ x.kids := by rw [hys]; simp
  have HY1 := Lib.hid (fun nv kv h => HIH.out y1 hym1 nv kv h)
  have hszs : sizeN x = 1 + (sizeN y0 + sizeN y1) := by rw [HSZ.out, hys, sizesN, sizesN, sizesN]; omega
  have HFY := Lib.hid (show F.length + sizeN y0 ≤ 1073741824 ∧ F.length + sizeN y0 + sizeN y1 ≤ 1073741824 by have := HF.out; omega)
  have HOX : Hid (occN x = occN y0 ++ (occN y1).filter fun s => !memB s [tx]) := Lib.hid (by rw [occN_is, hk, hys, ← HTX.out]; simp [comb])
  obtain ⟨an', cn', ak', ck', rfl, rfl, _⟩ := hyin.forms
  rw [hkl] at a4 HBX hw1 hkc ⊢
  have HND := Lib.hid (HY0.out v F c w1 HC01.out HO.out HS1.out (fun s => by have := HCC.out s; omega) HFY.out.1)
  unfold ndV at HND
  have i0 : (0 : Int) < 2 := by decide
  have i1 : (1 : Int) < 2 := by decide
  clear hyin hy' hym hym1 hys hszs hS hk hkl
  clear hC hO hc hF hin hnm hB hih hC1 hkk hncm hkcm
  go_enter Tryz.func32, Tryz.ntmps32
  go_wp2_with fail
  refine HND.out.mono ?_
  rintro e w2 ⟨rfl, v1, hS2, hP2⟩
  obtain ⟨F1, hF1⟩ : ∃ F1, addF c F (occN y0) = F1 := ⟨_, rfl⟩
  have HF1 := Lib.hid hF1
  rw [hF1] at hS2
  have HKW := Lib.hid (HO.out.kept HC01.out hP2)
  have hb2 := hP2.1.blk HBX.out (fun e => by
    rcases e with e | e | e
    · exact HNE.out.1 e
    · exact HNE.out.2.1 e
    · exact HNE.out.2.2 e)
  have HB2 := Lib.hid hb2
  have a2 := cell_of hb2 2
  have a4 := cell_of hb2 4
  obtain ⟨nv2, kv2, k0, k1, k2, k3, k4, hyin2⟩ := HK1.out w2 HKW.out.2
  have HYI := Lib.hid hyin2
  have HYC := Lib.hid (HY1.out nv2 kv2 hyin2)
  obtain ⟨an2, cn2, ak2, ck2, rfl, rfl, _⟩ := hyin2.forms
  have HS2 := Lib.hid hS2
  have HP2 := Lib.hid hP2
  have HLF : Hid (F1.length + sizeN y1 ≤ 1073741824) := Lib.hid (by
    have h1 := addF_len c (occN y0) F
    have h2 := occN_len y0
    have h3 := HFY.out.2
    rw [HF1.out] at h1
    omega)
  clear hS2 hP2 hb2 hyin2 HND hF1
  go_wp2_with fail
  refine wp_region_T (S := fun W => W.cell? ⟨w.heap.size, 2, none⟩ = some (.string tx) ∧ W.cell? ⟨w.heap.size, 4, none⟩ = some (.slice (some ⟨b, off, none⟩) 2 ck) ∧ W.cell? ⟨b, off + 5, none⟩ = some (.int .u8 y1.kind) ∧ W.cell? ⟨b, off + 5 + 1, none⟩ = some (.int .i64 y1.n) ∧ W.cell? ⟨b, off + 5 + 2, none⟩ = some (.string y1.text) ∧ W.cell? ⟨b, off + 5 + 3, none⟩ = some (.slice an2 y1.names.length cn2) ∧ W.cell? ⟨b, off + 5 + 4, none⟩ = some (.slice ak2 y1.kids.length ck2)) 8 1 rfl (by kernel_rfl) ?_ (fun hHeld => ?_)
  · exact ⟨by assumption, by assumption, by assumption, by assumption, by assumption, by assumption, by assumption⟩
  refine wpAnyT_take (i := 0) (v := ?tv31) rfl (by kernel_rfl) (by decide) (by kernel_rfl) (by kernel_rfl) (fun _ _ _ h => h) (Or.inl ⟨by rfl, ?ty31⟩) (by assumption) ?tr31
  case ty31 => intro w hSw; (try dsimp only at hSw); go_simp; (try with_reducible rfl)
  try simp only [Act.put, List.setIfInBounds_toArray, List.set_cons_zero, List.set_cons_succ, List.getElem_toArray, List.getElem_cons_zero, List.getElem_cons_succ, Nat.zero_add]
  refine wpAnyT_take (i := 1) (v := ?tv32) rfl (by kernel_rfl) (by decide) (by kernel_rfl) (by kernel_rfl) (fun _ _ _ h => h) (Or.inl ⟨by rfl, ?ty32⟩) (by assumption) ?tr32
  case ty32 => intro w hSw; (try dsimp only at hSw); go_simp; (try with_reducible rfl)
  try simp only [Act.put, List.setIfInBounds_toArray, List.set_cons_zero, List.set_cons_succ, List.getElem_toArray, List.getElem_cons_zero, List.getElem_cons_succ, Nat.zero_add]
  refine wpAnyT_take (i := 2) (v := ?tv33) rfl (by kernel_rfl) (by decide) (by kernel_rfl) (by kernel_rfl) (fun _ _ _ h => h) (Or.inl ⟨by rfl, ?ty33⟩) (by assumption) ?tr33
  case ty33 => intro w hSw; (try dsimp only at hSw); go_simp; (try with_reducible rfl)
  try simp only [Act.put, List.setIfInBounds_toArray, List.set_cons_zero, List.set_cons_succ, List.getElem_toArray, List.getElem_cons_zero, List.getElem_cons_succ, Nat.zero_add]
  refine wpAnyT_take (i := 3) (v := ?tv34) rfl (by kernel_rfl) (by decide) (by kernel_rfl) (by kernel_rfl) (fun _ _ _ h => h) (Or.inl ⟨by rfl, ?ty34⟩) (by assumption) ?tr34
  case ty34 => intro w hSw; (try dsimp only at hSw); go_simp; (try with_reducible rfl)
  try simp only [Act.put, List.setIfInBounds_toArray, List.set_cons_zero, List.set_cons_succ, List.getElem_toArray, List.getElem_cons_zero, List.getElem_cons_succ, Nat.zero_add]
  refine wpAnyT_take (i := 4) (v := ?tv35) rfl (by kernel_rfl) (by decide) (by kernel_rfl) (by kernel_rfl) (fun _ _ _ h => h) (Or.inl ⟨by rfl, ?ty35⟩) (by assumption) ?tr35
  case ty35 => intro w hSw; (try dsimp only at hSw); go_simp; (try with_reducible rfl)
  try simp only [Act.put, List.setIfInBounds_toArray, List.set_cons_zero, List.set_cons_succ, List.getElem_toArray, List.getElem_cons_zero, List.getElem_cons_succ, Nat.zero_add]
  refine wpAnyT_take (i := 5) (v := ?tv36) rfl (by kernel_rfl) (by decide) (by kernel_rfl) (by kernel_rfl) (fun _ _ _ h => h) (Or.inl ⟨by rfl, ?ty36⟩) (by assumption) ?tr36
  case ty36 => intro w hSw; (try dsimp only at hSw); go_simp; (try with_reducible rfl)
  try simp only [Act.put, List.setIfInBounds_toArray, List.set_cons_zero, List.set_cons_succ, List.getElem_toArray, List.getElem_cons_zero, List.getElem_cons_succ, Nat.zero_add]
  refine wpAnyT_take (i := 6) (v := ?tv37) rfl (by kernel_rfl) (by decide) (by kernel_rfl) (by kernel_rfl) (fun _ _ _ h => h) (Or.inl ⟨by rfl, ?ty37⟩) (by assumption) ?tr37
  case ty37 => intro w hSw; (try dsimp only at hSw); go_simp; (try with_reducible rfl)
  try simp only [Act.put, List.setIfInBounds_toArray, List.set_cons_zero, List.set_cons_succ, List.getElem_toArray, List.getElem_cons_zero, List.getElem_cons_succ, Nat.zero_add]
  refine wpAnyT_ready (rs := [7]) (by kernel_rfl) (by kernel_rfl) ?_
  refine AllReadyT.cons rfl (fun K hK => ?_) ?_
  · go_simp
    refine hK.out _ _ ?_ (fun hHeld => ?_)
    · first | exact ⟨by assumption, by assumption, by assumption, by assumption, by assumption, by assumption, by assumption⟩ | exact ⟨cell_alS _ hHeld.1, cell_alS _ hHeld.2.1, cell_alS _ hHeld.2.2.1, cell_alS _ hHeld.2.2.2.1, cell_alS _ hHeld.2.2.2.2.1, cell_alS _ hHeld.2.2.2.2.2.1, cell_alS _ hHeld.2.2.2.2.2.2⟩
    clear hK K
    try simp only [Act.put, List.setIfInBounds_toArray, List.set_cons_zero, List.set_cons_succ, List.getElem_toArray, List.getElem_cons_zero, List.getElem_cons_succ, Nat.zero_add]
    refine wpAnyT_done (by kernel_rfl) ?_
    simp only [List.drop_succ_cons, List.drop_zero]
    have HCQ : Hid (Chg (fun _ => False) w2 (w2.drew.alloc (.cells #[.string tx] 9))) := Lib.hid ((Chg.refl _ w2).drew.alloc _)
    have HR5 : Hid (StrsIn (w2.drew.alloc (.cells #[.string tx] 9)) (.slice (some ⟨w2.heap.size, 0, none⟩) 1 1) [tx]) := Lib.hid (row_strs (e := 9) (l := [tx]) (row_oneS (new_atS _ _ _ (by simp))))
    have HA5 : Hid (Away f M v1 (.slice (some ⟨w2.heap.size, 0, none⟩) 1 1) (w2.drew.alloc (.cells #[.string tx] 9))) := Lib.hid (fun q hq => by have e2 : w2.heap.size = q := (by simpa [Value.ownBlock] using hq); subst e2; have h1 := HS2.out.lf; have h2 := HS2.out.lm; have h3 := HS2.out.row.lt; exact ⟨by omega, by omega, fun e => (by have := h3 _ e; omega), by simp⟩)
    have HCALL := Lib.hid (with_calls HYC.out HBB.out HYI.out [tx] (.slice (some ⟨w2.heap.size, 0, none⟩) 1 1) (by simp) v1 F1 c _ (HKW.out.2.trans HCQ.out) HKW.out.1 (HS2.out.later HCQ.out) HCC.out HLF.out HR5.out HA5.out)
    unfold ndV at HCALL
    clear HR5 HA5
    go_wp2_with fail
    refine HCALL.out.mono ?_
    rintro e w6 ⟨rfl, v', hS3, hP3⟩
    have H3 := Lib.hid hS3
    have H4 := Lib.hid hP3
    clear hS3 hP3 HCALL
    go_wp2_with fail
    go_end0
    exact ⟨rfl, v', by rw [HOX.out, addF_append, HF1.out]; exact H3.out, ((HP1.out.trans HLW.out.1 HLW.out.2 HP2.out).trans HLW.out.1 HLW.out.2 (FStp.none HCQ.out)).trans HLW.out.1 HLW.out.2 H4.out⟩
  exact AllReadyT.nil
set_option maxRecDepth 100000 in
set_option maxHeartbeats 4000000 in
theorem node_else {w0 : World} {f M : Nat} {x : Nd} {nv kv : Value} {B : Int} {v : Value} {F : List ByteArray} {c : ByteArray → Int} {w : World} (h : NC w0 f M x nv kv B v F c w) (h5 : x.kind ≠ 5) (h6 : x.kind ≠ 6) (h8 : x.kind ≠ 8) (h17 : x.kind ≠ 17) (h18 : x.kind ≠ 18) : NodeG f M x nv kv v F c w := by
  obtain ⟨hC, hO, hS, hc, hF, hin, hnm, hB, hih⟩ := h
  obtain ⟨w1, hw1⟩ : ∃ w1, w.alloc (ndBox x nv kv) = w1 := ⟨_, rfl⟩
  have hC1 : Chg (fun _ => False) w w1 := by rw [← hw1]; exact (Chg.refl _ w).alloc _
  have HBX := Lib.hid (show w1.heap[w.heap.size]? = some (ndBox x nv kv) by rw [← hw1]; exact blk_new w _)
  have HS1 := Lib.hid (hS.later hC1)
  have HC1 := Lib.hid hC1
  have HC01 := Lib.hid (hC.trans hC1)
  have HO := Lib.hid hO
  have HLW := Lib.hid (⟨hS.lf, hS.lm⟩ : f < w.heap.size ∧ M < w.heap.size)
  have HP1 := Lib.hid (FStp.none (f := f) (M := M) (v := v) hC1)
  have HNE : Hid (w.heap.size ≠ f ∧ w.heap.size ≠ M ∧ v.ownBlock ≠ some w.heap.size) := Lib.hid ⟨by have := hS.lf; omega, by have := hS.lm; omega, fun e => by have := hS.row.lt _ e; omega⟩
  have HCC := Lib.hid hc
  have HF := Lib.hid hF
  have HIN := Lib.hid hin
  have HNM := Lib.hid hnm
  have HBB := Lib.hid hB
  have HIH := Lib.hid hih
  have HSZ : Hid (sizeN x = 1 + sizesN x.kids) := Lib.hid (sizeN_is x)

  obtain ⟨tx, htx⟩ : ∃ tx, x.text = tx := ⟨_, rfl⟩
  have HTX := Lib.hid htx
  obtain ⟨z, hz⟩ : ∃ z : Int, (x.kind : Int) = z := ⟨_, rfl⟩
  have hkz := hz
  obtain ⟨an, cn, ak, ck, rfl, rfl, hnc, hncm, hkc, hkcm, hkk⟩ := hin.forms
  have HKK := Lib.hid hkk
  have hck2 : ck ≤ 9223372036854775807 := by unfold maxLen at hkcm; omega
  have hcn2 : cn ≤ 9223372036854775807 := by unfold maxLen at hncm; omega
  have HNS := Lib.hid (HIN.out.names.kept HC01.out)
  unfold ndBox at HBX hw1
  unfold NodeG ndV
  rw [htx, hkz] at HBX hw1
  rw [htx, hkz]
  have a0 := cell_of HBX.out 0
  have a1 := cell_of HBX.out 1
  have a2 := cell_of HBX.out 2
  have a3 := cell_of HBX.out 3
  have a4 := cell_of HBX.out 4
  have c0 : w1.cell? ⟨f, 0, none⟩ = some (.map (some M)) := cell_of HS1.out.blk 0
  have c1 : w1.cell? ⟨f, 1, none⟩ = some v := cell_of HS1.out.blk 1
  have hkb := HIN.out.kind
  have HOX : Hid (occN x = (x.kids.map occN).flatten) := Lib.hid (by
    rw [occN_is]
    unfold comb
    rw [if_neg h5, if_neg h6, if_neg h8, if_neg (by omega)])
  have i5 : ¬ z = 5 := by omega
  have i6 : ¬ z = 6 := by omega
  have i8 : ¬ z = 8 := by omega
  have i17 : ¬ z = 17 := by omega
  have i18 : ¬ z = 18 := by omega
  have b5 : (z == 5) = false := beq_eq_false_iff_ne.2 i5
  have b6 : (z == 6) = false := beq_eq_false_iff_ne.2 i6
  have b8 : (z == 8) = false := beq_eq_false_iff_ne.2 i8
  have b17 : (z == 17) = false := beq_eq_false_iff_ne.2 i17
  have b18 : (z == 18) = false := beq_eq_false_iff_ne.2 i18
  have iz : 0 ≤ z ∧ z ≤ 255 := by omega
  obtain ⟨m, hm⟩ : ∃ m, x.kids.length = m := ⟨_, rfl⟩
  have HMM := Lib.hid hm
  rw [hm] at a4 HBX hw1 hkc ⊢
  clear hz hkz hkb hm hS h5 h6 h8 h17 h18
  clear hC hO hc hF hin hnm hB hih hC1 hkk hncm hkcm
  go_enter Tryz.func32, Tryz.ntmps32
  go_wp2_with fail
  go_loopg [11] (m + 1) (fun g vi wr => ∃ (j : Nat), vi = .int .i64 j ∧ j ≤ m ∧ m < g + j ∧ Hid (∃ v', FSt f M c v' (addF c F ((x.kids.take j).map occN).flatten) wr ∧ FStp f M v v' w1 wr))
  case atStart => exact ⟨0, rfl, by omega, by omega, Lib.hid ⟨_, HS1.out, FStp.refl _ _ _ _⟩⟩
  case round =>
    obtain ⟨j, rfl, hj, hg, hI⟩ := hrel
    by_cases hlt : j < m
    · obtain ⟨gk', rfl⟩ : ∃ q, gk = q + 1 := ⟨gk - 1, by omega⟩
      obtain ⟨v', hI1, hI2⟩ := hI.out
      have HKW := HO.out.kept HC01.out hI2
      obtain ⟨b, off, nv', kv', y, rfl, hy, hym, k0, k1, k2, k3, k4, hyin⟩ := kid_get HKK.out HKW.2 j (by rw [HMM.out]; exact hlt)
      have hfl := flat_take x.kids j y hy
      have hle := kids_le x.kids j y hy
      have hlen : (addF c F ((x.kids.take j).map occN).flatten).length + sizeN y ≤ 1073741824 := by
        have h1 := addF_len c ((x.kids.take j).map occN).flatten F
        have h2 := HF.out
        have h3 := HSZ.out
        omega
      have HN := Lib.hid (fun W (hW : Chg (fun _ => False) wr W) => HIH.out y hym nv' kv' hyin v' _ c W (HKW.2.trans hW) HKW.1 (hI1.later hW) (fun s => by have := HCC.out s; omega) hlen)
      rw [← addF_append, ← hfl] at HN
      have HI1 := Lib.hid hI1
      have HI2 := Lib.hid hI2
      obtain ⟨an', cn', ak', ck', rfl, rfl, _⟩ := hyin.forms
      unfold ndV at HN
      have j0 : (0 : Int) ≤ (j : Int) := by omega
      have j1 : (j : Int) < (m : Int) := by omega
      clear hI hI1 hI2 HKW hy hym hyin hfl hle hlen
      go_wp2_with fail
      refine (HN.out _ ((Chg.refl _ wr).alloc _)).mono ?_
      rintro e w3 ⟨rfl, v3, hS3, hP3⟩
      have HST : Hid (∃ v', FSt f M c v' (addF c F ((x.kids.take (j + 1)).map occN).flatten) w3 ∧ FStp f M v v' w1 w3) := Lib.hid ⟨v3, hS3, (HI2.out.trans HS1.out.lf HS1.out.lm (FStp.none ((Chg.refl _ wr).alloc _))).trans HS1.out.lf HS1.out.lm hP3⟩
      clear hS3 hP3 HN HI1 HI2
      go_wp2_with fail
      go_roundg gk'
      case measure => omega
      case rel => exact ⟨j + 1, by go_num, by omega, by omega, HST⟩
    · obtain rfl : j = m := by omega
      have hkk : ¬ ((j : Nat) : Int) < ((j : Nat) : Int) := by omega
      have hall : x.kids.take j = x.kids := List.take_of_length_le (by rw [HMM.out]; exact Nat.le_refl _)
      rw [hall, ← HOX.out] at hI
      clear hall
      go_wp2_with fail
      go_end0
      obtain ⟨v', hI1, hI2⟩ := hI.out
      exact ⟨rfl, v', hI1, HP1.out.trans HLW.out.1 HLW.out.2 hI2⟩
theorem right_names {x : Nd} {deep : Nat} (h : rightB x deep = true) (hk : x.kind = 17 ∨ x.kind = 18) : x.names ≠ [] := by
  obtain ⟨many, least, most, hs, _, _, _, h1⟩ := right_shape h
  rcases hk with e | e <;> (rw [e] at hs; simp only [shapeOf, Option.some.injEq, Prod.mk.injEq] at hs; have := h1 _ hs.1.symm; intro e2; rw [e2] at this; simp at this)
/-- The finder's 'node' at a right node. -/
theorem node_calls {w0 : World} {f M : Nat} : ∀ (x : Nd) (nv kv : Value) (deep : Nat), NdIn w0 nv kv x → rightB x deep = true → Fine x → NodeOk w0 f M x nv kv ((deep : Int) * 2097152) := by
  intro x
  induction x using Nd.ind with
  | h x ih =>
    intro nv kv deep hin hr hfi v F c w hC hO hS hc hF
    have hd := right_deep hr
    have hnc : NC w0 f M x nv kv ((deep : Int) * 2097152) v F c w := ⟨hC, hO, hS, hc, hF, hin, hfi.manyNames, by omega, fun y hy nv' kv' hin' => by
      have := ih y hy nv' kv' (deep + 1) hin' (right_kid hr y hy) (hfi.kid y hy)
      have e : ((deep + 1 : Nat) : Int) * 2097152 = (deep : Int) * 2097152 + 2097152 := by omega
      rw [e] at this
      exact this⟩
    by_cases h5 : x.kind = 5
    · exact node_5 hnc h5
    by_cases h6 : x.kind = 6
    · exact node_6 hnc h6 (right_kids1 hr (.inl h6))
    by_cases h8 : x.kind = 8
    · exact node_8 hnc h8 (right_kids2 hr h8)
    by_cases h17 : x.kind = 17
    · exact node_17 hnc h17 (right_kids1 hr (.inr (.inl h17))) (right_names hr (.inl h17))
    by_cases h18 : x.kind = 18
    · exact node_18 hnc h18 (right_kids1 hr (.inr (.inr h18))) (right_names hr (.inr h18))
    exact node_else hnc h5 h6 h8 h17 h18
end Go.Proofs.YtaklmocjaokkpaaGreatDoor.Tr
