/- The free names of a do are those of its parts, in order, each once; a function's are those of its body but its own and its parameters: the statement, walked. Condition: nodes of weight at most 2^20; what XTreeText's functions want of the library's variables. -/
import Derived.Test.YtaklmocjaokkpaaGreatDoorScopeBindsLaw
namespace Go.Proofs.YtaklmocjaokkpaaGreatDoor.Tr
set_option linter.unusedVariables false
set_option linter.unusedSimpArgs false
open Go.RowKit Go.Shelf Go.Proofs.YtaklmocjaokkpaaGreatDoor.Mem

theorem less_head {deep k : Nat} {n : Int} {t : ByteArray} {ns : List ByteArray} {ks : List Nd} (h : headB (deep + 1) k n t ns ks = true) : headB deep k n t ns ks = true := by
  unfold headB at h ⊢
  cases hs : shapeOf k with
  | none => rw [hs] at h; cases h
  | some q =>
    obtain ⟨many, least, most⟩ := q
    rw [hs] at h
    by_cases hd : deep + 1 ≤ 60
    · rw [decide_eq_true hd] at h
      simp only [decide_eq_true (show deep ≤ 60 by omega)]
      exact h
    · rw [decide_eq_false hd] at h
      simp at h
theorem less_right : ∀ (x : Nd) (deep : Nat), rightB x (deep + 1) = true → rightB x deep = true := by
  intro x
  induction x using Nd.ind with
  | h x ih =>
    intro deep h
    rw [rightB_is, Bool.and_eq_true, kidsB_all, List.all_eq_true] at h ⊢
    exact ⟨less_head h.1, fun y hy => ih y hy (deep + 1) (h.2 y hy)⟩
/-- The parts of a do that may be may be. -/
theorem do_parts {a b : Nd} (h : mayB (doN2 a b) = true) : mayB a = true ∧ mayB b = true := by
  unfold mayB at h
  simp only [Bool.and_eq_true, decide_eq_true_eq] at h
  have hs : sizeN (doN2 a b) = 1 + (sizeN a + sizeN b) := by rw [doN2, sizeN, sizesN, sizesN, sizesN]; omega
  have hr := h.1.2
  have hk := hr
  rw [rightB_is, Bool.and_eq_true] at hk
  have hh : headB 1 10 0 ⟨#[]⟩ [] [a, b] = true := hk.1
  unfold headB at hh
  simp only [shapeOf, Bool.and_eq_true, List.all_cons, List.all_nil, decide_eq_true_eq] at hh
  have hka : a.kind < 17 ∧ b.kind < 17 := by
    have := hh.2
    simpa using this
  have ha := less_right a 1 (right_kid hr a (by simp [doN2, Nd.kids]))
  have hb := less_right b 1 (right_kid hr b (by simp [doN2, Nd.kids]))
  unfold mayB
  rw [ha, hb, decide_eq_true hka.1, decide_eq_true hka.2, decide_eq_true (show sizeN a ≤ 4000 by omega), decide_eq_true (show sizeN b ≤ 4000 by omega)]
  exact ⟨rfl, rfl⟩
theorem do_ok {a b : Nd} (ha : Fine a ∧ Small a) (hb : Fine b ∧ Small b) : Fine (doN2 a b) ∧ Small (doN2 a b) := by
  have hm : ∀ y ∈ (doN2 a b).kids, Fine y ∧ Small y := fun y hy => by
    have : y = a ∨ y = b := by simpa [doN2, Nd.kids] using hy
    rcases this with rfl | rfl
    · exact ha
    · exact hb
  exact ⟨Fine.mk' (show (0 : Nat) ≤ 1048576 by omega) (fun s h => by cases h) (Nat.zero_le _) (show (2 : Nat) ≤ 1048576 by omega) (Fines.mk fun y hy => (hm y hy).1), Small.mk' (show (0 : Nat) ≤ 1048576 by omega) (show (2 : Nat) ≤ 1048576 by omega) (Smalls.mk fun y hy => (hm y hy).2)⟩
theorem fun_ok {a : Nd} {p : ByteArray} (ha : Fine a ∧ Small a) (hp : p.size ≤ 1048576) : Fine (funN a p) ∧ Small (funN a p) := by
  have hm : ∀ y ∈ (funN a p).kids, Fine y ∧ Small y := fun y hy => by
    have : y = a := by simpa [funN, Nd.kids] using hy
    subst this
    exact ha
  have hn : ∀ s ∈ (funN a p).names, s.size ≤ 1048576 := fun s h => by
    have e : s = p := by simpa [funN, Nd.names] using h
    rw [e]
    exact hp
  exact ⟨Fine.mk' (show (1 : Nat) ≤ 1048576 by omega) hn (show (1 : Nat) ≤ 1048576 by omega) (show (1 : Nat) ≤ 1048576 by omega) (Fines.mk fun y hy => (hm y hy).1), Small.mk' (show (1 : Nat) ≤ 1048576 by omega) (show (1 : Nat) ≤ 1048576 by omega) (Smalls.mk fun y hy => (hm y hy).2)⟩
theorem fun_in {w : World} {a : Nd} {nva kva : Value} {b c : Nat} (p : ByteArray) (h : w.heap[b]? = some (.cells #[.int .u8 a.kind, .int .i64 a.n, .string a.text, nva, kva] 25)) (hp : w.heap[c]? = some (.cells #[.string p] 9 (0, 0))) (ha : NdIn w nva kva a) :
    NdIn w (.slice (some ⟨c, 0, none⟩) 1 1) (.slice (some ⟨b, 0, none⟩) 1 1) (funN a p) :=
  NdIn.of (show (6 : Nat) < 256 by decide) (show (-9223372036854775808 : Int) ≤ 0 ∧ (0 : Int) ≤ 9223372036854775807 by decide) (row_strs (e := 9) (l := [p]) (row_oneS hp)) ⟨some ⟨b, 0, none⟩, 1, rfl, Nat.le_refl _, by unfold maxLen; decide, kids_one h rfl rfl rfl ha⟩
theorem row_noneS {w : World} {b : Nat} (h : w.heap[b]? = some (.cells #[] 9 (0, 0))) : RowAt w 9 1 (.slice (some ⟨b, 0, none⟩) 0 0) 0 [] :=
  ⟨rfl, .inr ⟨b, 0, 0, #[], rfl, h, Nat.le_refl _, Nat.zero_le _, by simp, rfl⟩⟩
theorem wpList_append_strs {P : Program} {ops : Array Oper} {rest : List Oper} {o : Oper} {a : Act} (w : World) {Q : Exit → Act → World → Prop} (hgd : o.guard = none) (s x : Operand) (t : TypeId)
    (ho : o.op = .call { callee := .builtin .append, args := #[s, x], argTypes := #[t, t] })
    (e : TypeId) (i : TypeInfo) (z : Value) (bytes : Nat) (ht : P.underlying t = some (.slice e)) (hi : P.info? e = some i) (hz : i.zero = some z)
    (hsize : i.size = 1) (hby : i.bytes = bytes) (hzs : z.cells.size = 1)
    (v : Value) (n : Nat) (xs : List Value) (hs : a.eval s = v) (hown : RowAt w e 1 v n xs)
    (xv : Value) (l : List ByteArray) (hx : a.eval x = xv) (hsrc : StrsIn w xv l)
    (h63 : n + l.length ≤ maxLen) (hbytes : (n + l.length) * bytes ≤ 140737488355328)
    (h : ∀ ad cap w', RowAt w' e 1 (.slice ad (n + l.length) cap) (n + l.length) (xs ++ l.map Value.string) → w.grownBy w' v.ownBlock → (∀ g, (Value.slice ad (n + l.length) cap).ownBlock = some g → (v.ownBlock = some g ∨ g = w.heap.size) ∧ g < w'.heap.size) → wpList P ops Q rest (a.put o.dst (.slice ad (n + l.length) cap)) w') :
    wpList P ops Q (o :: rest) a w :=
  wpList_plain hgd fun K hK => by
    obtain ⟨v', w', hr, h2, h3, h4⟩ := run_append_strs (P := P) w t o.type e i z bytes ht hi hz hsize hby hzs v n xs hown xv l hsrc h63 hbytes
    unfold Oper.wp execOp
    simp only [ho, resolve, invoke, builtin, Sem.run_bind, Sem.run_pure, Result.andThen_ok, List.map_toArray, List.map_cons, List.map_nil, hs, hx, hr]
    obtain ⟨ad, cap, rfl, _⟩ := h2.form
    exact hK _ _ (h ad cap w' h2 h3 (fun g hg => ⟨h4 g hg, h2.lt g hg⟩))
theorem one_cellS (y : ByteArray) : ∀ u ∈ [Value.string y], u.oneCell' = true := fun u hu => by
  simp only [List.mem_cons, List.not_mem_nil, or_false] at hu
  subst hu
  rfl
/-- A row of texts that the call holds: the names F. -/
structure Held (w : World) (B : Nat) (v : Value) (F : List ByteArray) (n : Nat) : Prop where
  row : RowAt w 9 1 v n (F.map Value.string)
  len : F.length = n
  new : ∀ k, v.ownBlock = some k → B ≤ k
theorem Held.strs {w : World} {B : Nat} {v : Value} {F : List ByteArray} {n : Nat} (h : Held w B v F n) : StrsIn w v F := row_strs (by rw [h.len]; exact h.row)
theorem Held.later {w w' : World} {B : Nat} {v : Value} {F : List ByteArray} {n : Nat} (h : Held w B v F n) (hc : Chg (fun _ => False) w w') : Held w' B v F n := ⟨h.row.kept hc (fun _ _ e => e), h.len, h.new⟩
/-- A text's place in a row. -/
theorem strs_at {w : World} {ad : Option Addr} {n cap : Nat} {l : List ByteArray} (h : StrsIn w (.slice ad n cap) l) {i : Nat} {s : ByteArray} (hs : l[i]? = some s) : ∃ b off, ad = some ⟨b, off, none⟩ ∧ w.cell? ⟨b, off + i, none⟩ = some (.string s) := by
  obtain ⟨ad', cap', e, _, _, h4⟩ := h
  simp only [Value.slice.injEq] at e
  obtain ⟨rfl, _, rfl⟩ := e
  obtain ⟨b, off, e1, _, e3⟩ := h4 i s hs
  exact ⟨b, off, e1, e3⟩
theorem strs_cap {w : World} {v : Value} {l : List ByteArray} (h : StrsIn w v l) : ∃ ad cap, v = .slice ad l.length cap ∧ l.length ≤ cap ∧ cap ≤ 9223372036854775807 := by
  obtain ⟨ad, cap, e, h1, h2, _⟩ := h
  exact ⟨ad, cap, e, h1, by unfold maxLen at h2; omega⟩
theorem held_cap {w : World} {B n cap : Nat} {ad : Option Addr} {F : List ByteArray} (h : Held w B (.slice ad n cap) F n) : n ≤ cap ∧ cap ≤ 9223372036854775807 := by
  obtain ⟨ad', cap', e, h1, h2⟩ := h.row.form
  simp only [Value.slice.injEq] at e
  obtain ⟨_, _, rfl⟩ := e
  exact ⟨h1, by unfold maxLen at h2; omega⟩
/-- A text's place in a row that is older than what was turned since. -/
theorem strs_old {w0 V : World} {ad : Option Addr} {n cap : Nat} {l : List ByteArray} (h : StrsIn w0 (.slice ad n cap) l) (hc : Chg (fun k => w0.heap.size ≤ k) w0 V) {i : Nat} {s : ByteArray} (hs : l[i]? = some s) : ∃ b off, ad = some ⟨b, off, none⟩ ∧ V.cell? ⟨b, off + i, none⟩ = some (.string s) := by
  obtain ⟨ad', cap', e, _, _, h4⟩ := h
  simp only [Value.slice.injEq] at e
  obtain ⟨rfl, _, rfl⟩ := e
  obtain ⟨b, off, e1, hlt, e3⟩ := h4 i s hs
  exact ⟨b, off, e1, hc.cell e3 (fun e => Nat.not_lt.2 e hlt)⟩
/-- The row, one name longer, or as it was. -/
theorem held_more {wr w' : World} {B n : Nat} {v v' : Value} {F : List ByteArray} {s : ByteArray} {H : Nat} (h : Held wr B v F n) (hr : RowAt w' 9 1 v' (n + 1) (F.map Value.string ++ [.string s])) (hg : ∀ g, v'.ownBlock = some g → v.ownBlock = some g ∨ g = H) (hH : B ≤ H) : Held w' B v' (F ++ [s]) (n + 1) :=
  ⟨by rw [List.map_append]; exact hr, by rw [List.length_append, h.len]; rfl, fun k hk => by
    rcases hg k hk with e | e
    · exact h.new k e
    · omega⟩
def qP (p : ByteArray) : ByteArray → Bool := fun s => !memB s [sX, p]
theorem qP_x {p y : ByteArray} (h : y = sX) : qP p y = false := by
  subst h
  unfold qP
  rw [memB_mem.2 (List.mem_cons_self ..)]
  rfl
theorem qP_p {p y : ByteArray} (h : y = p) : qP p y = false := by
  subst h
  unfold qP
  rw [memB_mem.2 (List.mem_cons_of_mem _ (List.mem_cons_self ..))]
  rfl
theorem qP_no {p y : ByteArray} (h1 : ¬ y = sX) (h2 : ¬ y = p) : qP p y = true := by
  unfold qP
  cases hm : memB y [sX, p] with
  | false => rfl
  | true =>
    have := memB_mem.1 hm
    simp only [List.mem_cons, List.not_mem_nil, or_false] at this
    rcases this with e | e
    · exact absurd e h1
    · exact absurd e h2
set_option maxRecDepth 100000 in
set_option maxHeartbeats 8000000 in
theorem scopeParts_calls (a : Nd) (nv kv : Value) (b : Nd) (nvb kvb : Value) (p : ByteArray) (w : World) (h : NdIn w nv kv a) (h' : NdIn w nvb kvb b) (hwt : wt a ≤ 1048576) (hwb : wt b ≤ 1048576) (hg : Gm w) :
    Calls Tryz.prog 4 #[ndV a nv kv, ndV b nvb kvb, .string p] w fun e w' => e = .returned (.bool true) ∧ Chg (fun _ => False) w w' := by
  have hoa := fine_wt a hwt
  have hob := fine_wt b hwb
  have hsa := size_wt a
  have hsb := size_wt b
  have HA := Lib.hid (fun W (hW : Chg (fun _ => False) w W) => sawake_calls W (hg.later hW))
  obtain ⟨an, cn, ak, ck, rfl, rfl, _⟩ := h.forms
  obtain ⟨an', cn', ak', ck', rfl, rfl, _⟩ := h'.forms
  obtain ⟨iS, hj0, hj1, hj2, hj3⟩ := info_parts infoS
  obtain ⟨w1, hw1⟩ : ∃ w1, w.alloc (.cells #[.int .u8 a.kind, .int .i64 a.n, .string a.text, .slice an a.names.length cn, .slice ak a.kids.length ck] 25) = w1 := ⟨_, rfl⟩
  obtain ⟨w2, hw2⟩ : ∃ w2, w1.alloc (.cells #[.int .u8 b.kind, .int .i64 b.n, .string b.text, .slice an' b.names.length cn', .slice ak' b.kids.length ck'] 25) = w2 := ⟨_, rfl⟩
  obtain ⟨w3, hw3⟩ : ∃ w3, w2.alloc (.cells #[.int .u8 a.kind, .int .i64 a.n, .string a.text, .slice an a.names.length cn, .slice ak a.kids.length ck, .int .u8 b.kind, .int .i64 b.n, .string b.text, .slice an' b.names.length cn', .slice ak' b.kids.length ck'] 25) = w3 := ⟨_, rfl⟩
  obtain ⟨w4, hw4⟩ : ∃ w4, w3.alloc (.cells #[.int .u8 10, .int .i64 0, .string ⟨#[]⟩, .slice none 0 0, .slice (some ⟨w2.heap.size, 0, none⟩) 2 2] 25) = w4 := ⟨_, rfl⟩
  obtain ⟨w5, hw5⟩ : ∃ w5, w4.alloc (.cells #[.string p] 9) = w5 := ⟨_, rfl⟩
  obtain ⟨w6, hw6⟩ : ∃ w6, w5.alloc (.cells #[.int .u8 a.kind, .int .i64 a.n, .string a.text, .slice an a.names.length cn, .slice ak a.kids.length ck] 25) = w6 := ⟨_, rfl⟩
  obtain ⟨w7, hw7⟩ : ∃ w7, w6.alloc (.cells #[.int .u8 6, .int .i64 0, .string ⟨#[120]⟩, .slice (some ⟨w4.heap.size, 0, none⟩) 1 1, .slice (some ⟨w5.heap.size, 0, none⟩) 1 1] 25) = w7 := ⟨_, rfl⟩
  have c1 : Chg (fun _ => False) w w1 := by rw [← hw1]; exact (Chg.refl _ w).alloc _
  have c2 : Chg (fun _ => False) w1 w2 := by rw [← hw2]; exact (Chg.refl _ w1).alloc _
  have c3 : Chg (fun _ => False) w2 w3 := by rw [← hw3]; exact (Chg.refl _ w2).alloc _
  have c4 : Chg (fun _ => False) w3 w4 := by rw [← hw4]; exact (Chg.refl _ w3).alloc _
  have c5 : Chg (fun _ => False) w4 w5 := by rw [← hw5]; exact (Chg.refl _ w4).alloc _
  have c6 : Chg (fun _ => False) w5 w6 := by rw [← hw6]; exact (Chg.refl _ w5).alloc _
  have c7 : Chg (fun _ => False) w6 w7 := by rw [← hw7]; exact (Chg.refl _ w6).alloc _
  have c67 := c6.trans c7
  have c57 := c5.trans c67
  have c47 := c4.trans c57
  have c37 := c3.trans c47
  have c27 := c2.trans c37
  have hC7 := c1.trans c27
  have b1 : w1.heap[w.heap.size]? = some (.cells #[.int .u8 a.kind, .int .i64 a.n, .string a.text, .slice an a.names.length cn, .slice ak a.kids.length ck] 25) := by rw [← hw1]; exact blk_new w _
  have b2 : w2.heap[w1.heap.size]? = some (.cells #[.int .u8 b.kind, .int .i64 b.n, .string b.text, .slice an' b.names.length cn', .slice ak' b.kids.length ck'] 25) := by rw [← hw2]; exact blk_new w1 _
  have b3 := c47.blk (show w3.heap[w2.heap.size]? = _ by rw [← hw3]; exact blk_new w2 _) (fun e => e)
  have b4 := c57.blk (show w4.heap[w3.heap.size]? = _ by rw [← hw4]; exact blk_new w3 _) (fun e => e)
  have b5 := c67.blk (show w5.heap[w4.heap.size]? = _ by rw [← hw5]; exact blk_new w4 _) (fun e => e)
  have b6 := c7.blk (show w6.heap[w5.heap.size]? = _ by rw [← hw6]; exact blk_new w5 _) (fun e => e)
  have b7 : w7.heap[w6.heap.size]? = some (.cells #[.int .u8 6, .int .i64 0, .string ⟨#[120]⟩, .slice (some ⟨w4.heap.size, 0, none⟩) 1 1, .slice (some ⟨w5.heap.size, 0, none⟩) 1 1] 25) := by rw [← hw7]; exact blk_new w6 _
  have hind : NdIn w7 (.slice none 0 0) (.slice (some ⟨w2.heap.size, 0, none⟩) 2 2) (doN2 a b) :=
    node_in w7 10 0 _ [a, b] w2.heap.size 2 rfl (by decide) (by decide) (by decide) (two_in b3 (h.kept hC7) (h'.kept hC7))
  have hinf := fun_in p b6 b5 (h.kept hC7)
  have hod := do_ok hoa hob
  have hszd : sizeN (doN2 a b) = 1 + (sizeN a + sizeN b) := by rw [doN2, sizeN, sizesN, sizesN, sizesN]; omega
  have HGR := Lib.hid (fun W (hW : Chg (fun _ => False) w7 W) => great_calls (doN2 a b) _ _ 0 W (hind.kept hW) (by omega) (by omega))
  have HRD := Lib.hid (fun W (hW : Chg (fun _ => False) w7 W) => rmay_calls (doN2 a b) _ _ W (hind.kept hW) hod.1 (by omega))
  have HRF := Lib.hid (fun (hp : p.size ≤ 100) W (hW : Chg (fun _ => False) w7 W) => rmay_calls (funN a p) _ _ W (hinf.kept hW) (fun_ok hoa (by omega)).1 (by rw [funN, sizeN, sizesN, sizesN]; omega))
  have HFD := Lib.hid (fun W (hW : Chg (fun _ => False) w7 W) => free_calls (doN2 a b) _ _ W (hind.kept hW) (hg.later (hC7.trans hW)) hod.2 hod.1)
  have HFF := Lib.hid (fun (hp : p.size ≤ 100) W (hW : Chg (fun _ => False) w7 W) => free_calls (funN a p) _ _ W (hinf.kept hW) (hg.later (hC7.trans hW)) (fun_ok hoa (by omega)).2 (fun_ok hoa (by omega)).1)
  have HFA := Lib.hid (fun W (hW : Chg (fun _ => False) w7 W) => free_calls a _ _ W (h.kept (hC7.trans hW)) (hg.later (hC7.trans hW)) hoa.2 hoa.1)
  have HFB := Lib.hid (fun W (hW : Chg (fun _ => False) w7 W) => free_calls b _ _ W (h'.kept (hC7.trans hW)) (hg.later (hC7.trans hW)) hob.2 hob.1)
  have HLL : Hid ((freeB a).length ≤ 1048576 ∧ (freeB b).length ≤ 1048576) := Lib.hid ⟨by have := free_len a; omega, by have := free_len b; omega⟩
  simp only [ndV_is] at HGR HRD HRF HFD HFF HFA HFB
  simp only [show (doN2 a b).kind = 10 from rfl, show (doN2 a b).n = 0 from rfl, show (doN2 a b).text = ⟨#[]⟩ from rfl, show ((10 : Nat) : Int) = 10 from rfl] at HGR HRD HFD
  simp only [show (funN a p).kind = 6 from rfl, show (funN a p).n = 0 from rfl, show (funN a p).text = ⟨#[120]⟩ from rfl, show ((6 : Nat) : Int) = 6 from rfl] at HRF HFF
  obtain ⟨gr, hgr⟩ : ∃ gr, greatB (doN2 a b) 0 = gr := ⟨_, rfl⟩
  obtain ⟨md, hmd⟩ : ∃ md, mayB (doN2 a b) = md := ⟨_, rfl⟩
  obtain ⟨mf, hmf⟩ : ∃ mf, mayB (funN a p) = mf := ⟨_, rfl⟩
  have HMD := Lib.hid hmd
  have HMF := Lib.hid hmf
  simp only [hgr] at HGR
  simp only [hmd] at HRD
  simp only [hmf] at HRF
  have HC7 := Lib.hid hC7
  have HBA := Lib.hid (c27.blk b1 (fun e => e))
  have HBB := Lib.hid (c37.blk b2 (fun e => e))
  have HBD := Lib.hid b4
  have HBF := Lib.hid b7
  have HB7 := Lib.hid (fun W (hW : Chg (fun _ => False) w7 W) => (⟨hW.blk HBA.out (fun e => e), hW.blk HBB.out (fun e => e)⟩ : W.heap[w.heap.size]? = some (.cells #[.int .u8 a.kind, .int .i64 a.n, .string a.text, .slice an a.names.length cn, .slice ak a.kids.length ck] 25) ∧ W.heap[w1.heap.size]? = some (.cells #[.int .u8 b.kind, .int .i64 b.n, .string b.text, .slice an' b.names.length cn', .slice ak' b.kids.length ck'] 25)))
  have p0 := cell_of b1 0
  have r0 := cell_of b2 0
  have p1 := cell_of b1 1
  have r1 := cell_of b2 1
  have p2 := cell_of b1 2
  have r2 := cell_of b2 2
  have p3 := cell_of b1 3
  have r3 := cell_of b2 3
  have p4 := cell_of b1 4
  have r4 := cell_of b2 4
  have u0 := c2.cell p0 (fun e => e)
  have s0 := (c2.trans (c3.trans (c4.trans c5))).cell p0 (fun e => e)
  have u1 := c2.cell p1 (fun e => e)
  have s1 := (c2.trans (c3.trans (c4.trans c5))).cell p1 (fun e => e)
  have u2 := c2.cell p2 (fun e => e)
  have s2 := (c2.trans (c3.trans (c4.trans c5))).cell p2 (fun e => e)
  have u3 := c2.cell p3 (fun e => e)
  have s3 := (c2.trans (c3.trans (c4.trans c5))).cell p3 (fun e => e)
  have u4 := c2.cell p4 (fun e => e)
  have s4 := (c2.trans (c3.trans (c4.trans c5))).cell p4 (fun e => e)
  have d0 := cell_of b4 0
  have f0 := cell_of b7 0
  have d1 := cell_of b4 1
  have f1 := cell_of b7 1
  have d2 := cell_of b4 2
  have f2 := cell_of b7 2
  have d3 := cell_of b4 3
  have f3 := cell_of b7 3
  have d4 := cell_of b4 4
  have f4 := cell_of b7 4
  rw [ndV_is, ndV_is]
  clear h h' hoa hob hsa hsb hwt hwb hg c1 c2 c3 c4 c5 c6 c7 c67 c57 c47 c37 c27 hC7 b1 b2 b3 b4 b5 b6 b7 hind hinf hod hszd hgr hmd hmf
  go_enter Tryz.func4, Tryz.ntmps4
  go_wp2_with fail
  refine (HGR.out _ (Chg.refl _ _)).mono ?_
  rintro e w8 ⟨rfl, hC8⟩
  have HC8 := Lib.hid hC8
  clear p0 p1 p2 p3 p4 r0 r1 r2 r3 r4 u0 u1 u2 u3 u4 s0 s1 s2 s3 s4 d0 d1 d2 d3 d4 f0 f1 f2 f3 f4 hw1 hw2 hw3 hw4 hw5 hw6 hw7
  have hqd := hC8.blk HBD.out (fun e => e)
  have d0 := cell_of hqd 0
  have d1 := cell_of hqd 1
  have d2 := cell_of hqd 2
  have d3 := cell_of hqd 3
  have d4 := cell_of hqd 4
  clear hqd
  have hqf := hC8.blk HBF.out (fun e => e)
  have f0 := cell_of hqf 0
  have f1 := cell_of hqf 1
  have f2 := cell_of hqf 2
  have f3 := cell_of hqf 3
  have f4 := cell_of hqf 4
  clear hqf
  have HC8W := Lib.hid (HC7.out.trans hC8)
  clear hC8 HGR
  cases gr with
  | true =>
    go_wp2_with fail
    refine (HA.out _ HC8W.out).mono ?_
    rintro e w9 ⟨rfl, hCw9⟩
    have HCw9 := Lib.hid (HC8W.out.trans hCw9)
    clear hCw9 HA
    go_wp2_with fail
    go_ret
    exact ⟨rfl, HCw9.out⟩
  | false =>
  by_cases hlong : 100 < p.size
  · have hl1 : (100 : Int) < (p.size : Int) := by omega
    clear hlong
    go_wp2_with fail
    refine (HA.out _ HC8W.out).mono ?_
    rintro e w9 ⟨rfl, hCw9⟩
    have HCw9 := Lib.hid (HC8W.out.trans hCw9)
    clear hCw9 HA
    go_wp2_with fail
    go_ret
    exact ⟨rfl, HCw9.out⟩
  have hl1 : ¬ (100 : Int) < (p.size : Int) := by omega
  have HPS : Hid (p.size ≤ 100) := Lib.hid (by omega)
  clear hlong
  go_wp2_with fail
  refine (HRD.out _ HC8.out).mono ?_
  rintro e w9 ⟨rfl, hC9⟩
  have HC9 := Lib.hid (HC8.out.trans hC9)
  clear d0 d1 d2 d3 d4 f0 f1 f2 f3 f4 HC8W
  have hqd := HC9.out.blk HBD.out (fun e => e)
  have d0 := cell_of hqd 0
  have d1 := cell_of hqd 1
  have d2 := cell_of hqd 2
  have d3 := cell_of hqd 3
  have d4 := cell_of hqd 4
  clear hqd
  have hqf := HC9.out.blk HBF.out (fun e => e)
  have f0 := cell_of hqf 0
  have f1 := cell_of hqf 1
  have f2 := cell_of hqf 2
  have f3 := cell_of hqf 3
  have f4 := cell_of hqf 4
  clear hqf
  have HC9W := Lib.hid (HC7.out.trans HC9.out)
  clear hC9 HRD HC8
  cases md with
  | false =>
    go_wp2_with fail
    refine (HA.out _ HC9W.out).mono ?_
    rintro e w10 ⟨rfl, hCw10⟩
    have HCw10 := Lib.hid (HC9W.out.trans hCw10)
    clear hCw10 HA
    go_wp2_with fail
    go_ret
    exact ⟨rfl, HCw10.out⟩
  | true =>
  go_wp2_with fail
  refine (HRF.out HPS.out _ HC9.out).mono ?_
  rintro e w10 ⟨rfl, hC10⟩
  have HC10 := Lib.hid (HC9.out.trans hC10)
  have HC10W := Lib.hid (HC7.out.trans HC10.out)
  clear d0 d1 d2 d3 d4 f0 f1 f2 f3 f4 HC9W hC10 HRF HC9
  cases mf with
  | false =>
    go_wp2_with fail
    refine (HA.out _ HC10W.out).mono ?_
    rintro e w11 ⟨rfl, hCw11⟩
    have HCw11 := Lib.hid (HC10W.out.trans hCw11)
    clear hCw11 HA
    go_wp2_with fail
    go_ret
    exact ⟨rfl, HCw11.out⟩
  | true =>
  obtain ⟨hma, hmb⟩ := do_parts HMD.out
  obtain ⟨la, hla⟩ : ∃ la, freeB a = la := ⟨_, rfl⟩
  obtain ⟨lb, hlb⟩ : ∃ lb, freeB b = lb := ⟨_, rfl⟩
  simp only [show freeP a = freeB a from if_pos hma, hla] at HFA
  simp only [show freeP b = freeB b from if_pos hmb, hlb] at HFB
  have hfd : freeP (doN2 a b) = addZ la lb := by rw [show freeP (doN2 a b) = freeB (doN2 a b) from if_pos HMD.out, free_do, hla, hlb]
  have hff : freeP (funN a p) = la.filter (qP p) := by rw [show freeP (funN a p) = freeB (funN a p) from if_pos HMF.out, free_fun, hla]; rfl
  simp only [hfd] at HFD
  simp only [hff] at HFF
  rw [hla, hlb] at HLL
  have hcw := HC10.out
  have hq := HB7.out _ hcw
  have a0 := cell_of hq.1 0
  have a1 := cell_of hq.1 1
  have a2 := cell_of hq.1 2
  have a3 := cell_of hq.1 3
  have a4 := cell_of hq.1 4
  have b0 := cell_of hq.2 0
  have b1 := cell_of hq.2 1
  have b2 := cell_of hq.2 2
  have b3 := cell_of hq.2 3
  have b4 := cell_of hq.2 4
  clear hq hma hmb hla hlb hfd hff HMD HMF
  go_wp2_with fail
  first
    | go_region_with (first | (go_at_call_of 17 (Value.string a.text); refine (HFA.out _ (by first | exact hcw | exact hcw.drew)).mono ?_; rintro e wt ⟨vl, rfl, hsl, hct⟩; (try (have hsm := hsm.kept hct)); (first | (have hcw := hcw.trans hct) | (have hcw := (hcw.drew).trans hct)); have hq := HB7.out _ hcw; have a0 := cell_of hq.1 0; have a1 := cell_of hq.1 1; have a2 := cell_of hq.1 2; have a3 := cell_of hq.1 3; have a4 := cell_of hq.1 4; have b0 := cell_of hq.2 0; have b1 := cell_of hq.2 1; have b2 := cell_of hq.2 2; have b3 := cell_of hq.2 3; have b4 := cell_of hq.2 4; clear hq) | (go_at_call_of 17 (Value.string b.text); refine (HFB.out _ (by first | exact hcw | exact hcw.drew)).mono ?_; rintro e wt ⟨vm, rfl, hsm, hct⟩; (try (have hsl := hsl.kept hct)); (first | (have hcw := hcw.trans hct) | (have hcw := (hcw.drew).trans hct)); have hq := HB7.out _ hcw; have a0 := cell_of hq.1 0; have a1 := cell_of hq.1 1; have a2 := cell_of hq.1 2; have a3 := cell_of hq.1 3; have a4 := cell_of hq.1 4; have b0 := cell_of hq.2 0; have b1 := cell_of hq.2 1; have b2 := cell_of hq.2 2; have b3 := cell_of hq.2 3; have b4 := cell_of hq.2 4; clear hq))
    | fail
  all_goals
    have HC11 := Lib.hid hcw
    have HSL := Lib.hid hsl
    have HSM := Lib.hid hsm
    obtain ⟨adl, capl, rfl, hlel, hcapl⟩ := strs_cap hsl
    obtain ⟨adm, capm, rfl, hlem, hcapm⟩ := strs_cap hsm
    obtain ⟨nl, hnl⟩ : ∃ nl, la.length = nl := ⟨_, rfl⟩
    obtain ⟨nm, hnm⟩ : ∃ nm, lb.length = nm := ⟨_, rfl⟩
    have HNL := Lib.hid hnl
    have HNM := Lib.hid hnm
    rw [hnl] at HSL hlel ⊢
    rw [hnm] at HSM hlem ⊢
    have hbl := HLL.out
    rw [hnl, hnm] at hbl
    have HWT := Lib.hid HC11.out.size
    clear a0 a1 a2 a3 a4 b0 b1 b2 b3 b4 hsl hsm hcw HFA HFB HB7 HBA HBB hnl hnm
    have HYA : Hid (RowAt (wt.alloc (.cells #[] 9)) 9 1 (.slice (some ⟨wt.heap.size, 0, none⟩) 0 0) 0 []) := Lib.hid (row_noneS (new_atS _ _ _ rfl))
    have HYB : Hid (StrsIn (wt.alloc (.cells #[] 9)) (.slice adl nl capl) la) := Lib.hid (HSL.out.kept ((Chg.refl _ wt).alloc _))
    have HYC : Hid (0 + la.length ≤ maxLen ∧ (0 + la.length) * 16 ≤ 140737488355328) := Lib.hid (by rw [HNL.out]; unfold maxLen; omega)
    go_wp2_with (at_builtin; refine wpList_append_strs _ rfl _ _ 22 rfl 9 iS _ 16 twS hj0 hj1 hj2 hj3 rfl (.slice (some ⟨wt.heap.size, 0, none⟩) 0 0) 0 [] rfl HYA.out (.slice adl nl capl) la rfl HYB.out HYC.out.1 HYC.out.2 ?_)
    clear HYA HYB HYC
    rw [HNL.out]
    try simp only [Nat.zero_add, List.nil_append]
    intro adw capw w12 hrow12 hgrow12 hat12
    have hC12 : Chg (fun _ => False) wt w12 := ((Chg.refl _ wt).alloc _).grown hgrow12 (fun k hk e => by have e2 : wt.heap.size = k := by simpa [Value.ownBlock] using e
                                                                                                         omega)
    have HW12 : Hid (Held w12 wt.heap.size (.slice adw nl capw) la nl) := Lib.hid ⟨hrow12, HNL.out, fun k hk => by
      rcases (hat12 k hk).1 with e | e
      · have e2 : wt.heap.size = k := by simpa [Value.ownBlock] using e
        omega
      · rw [e]; simp⟩
    have HC12 : Hid (Chg (fun k => wt.heap.size ≤ k) wt w12) := Lib.hid (hC12.mono (fun _ _ e => e.elim))
    clear hrow12 hgrow12 hat12 hC12
    go_wp2_with fail
    go_loopg [11, 12] (nm + 1) (fun g sv vi wr => ∃ (i n : Nat) (ad : Option Addr) (cap : Nat), sv = .slice ad n cap ∧ vi = .int .i64 i ∧ i ≤ nm ∧ nm < g + i ∧ n ≤ nl + i ∧ Hid (Held wr wt.heap.size (.slice ad n cap) (addZ la (lb.take i)) n ∧ Chg (fun k => wt.heap.size ≤ k) wt wr))
    case atStart => exact ⟨0, nl, adw, capw, rfl, rfl, by omega, by omega, by omega, Lib.hid ⟨HW12.out, HC12.out⟩⟩
    case round =>
      obtain ⟨i, n, ad, cap, rfl, rfl, hi, hg, hn, hI⟩ := hrel
      obtain ⟨hnc, hcm⟩ := held_cap hI.out.1
      by_cases hlt : i < nm
      · obtain ⟨gk', rfl⟩ : ∃ q, gk = q + 1 := ⟨gk - 1, by omega⟩
        obtain ⟨y, hy⟩ : ∃ y, lb[i]? = some y := ⟨_, List.getElem?_eq_getElem (by rw [HNM.out]; exact hlt)⟩
        have hsn : addZ la (lb.take (i + 1)) = if memB y (addZ la (lb.take i)) = true then addZ la (lb.take i) else addZ la (lb.take i) ++ [y] := by
          rw [List.take_add_one, hy]
          exact addZ_snoc la (lb.take i) y
        obtain ⟨Fi, hFi⟩ : ∃ Fi, addZ la (lb.take i) = Fi := ⟨_, rfl⟩
        rw [hFi] at hsn hI
        have HSN := Lib.hid hsn
        have HY : Hid (∀ V, Chg (fun k => wt.heap.size ≤ k) wt V → ∃ b off, adm = some ⟨b, off, none⟩ ∧ V.cell? ⟨b, off + i, none⟩ = some (.string y)) := Lib.hid fun V hV => strs_old HSM.out hV hy
        have i0 : (0 : Int) ≤ (i : Int) := by omega
        have i1 : (i : Int) < (nm : Int) := by omega
        have i2 : i < nm := hlt
        clear hy hsn hFi hlt
        go_wp2_with fail
        go_loopg [13, 14] (n + 1) (fun g fv kv wr => ∃ (k : Nat) (f : Bool), fv = .bool f ∧ kv = .int .i64 k ∧ k ≤ n ∧ n < g + k ∧ Hid (f = memB y (Fi.take k)) ∧ Hid (Held wr wt.heap.size (.slice ad n cap) Fi n ∧ Chg (fun k => wt.heap.size ≤ k) wt wr))
        case atStart => exact ⟨0, false, rfl, rfl, by omega, by omega, Lib.hid rfl, hI⟩
        case round =>
          obtain ⟨k, f, rfl, rfl, hk, hg2, hf, hCK⟩ := hrel
          by_cases hlt2 : k < n
          · obtain ⟨gk', rfl⟩ : ∃ q, gk = q + 1 := ⟨gk - 1, by omega⟩
            obtain ⟨u, hu⟩ : ∃ u, Fi[k]? = some u := ⟨_, List.getElem?_eq_getElem (by rw [hCK.out.1.len]; exact hlt2)⟩
            have hnx := memB_take y u Fi k hu
            rw [← hf.out] at hnx
            have HNX := Lib.hid hnx
            have k0 : (0 : Int) ≤ (k : Int) := by omega
            have k1 : (k : Int) < (n : Int) := by omega
            obtain ⟨b, off, rfl, cy⟩ := HY.out _ hCK.out.2
            have hst := hCK.out.1.strs
            obtain ⟨b2, off2, rfl, cu⟩ := strs_at hst hu
            clear hst hu hnx hf
            cases f with
            | true =>
              go_wp2_with fail
              go_quiet (fail)
              go_wp2_with fail
              go_roundg gk'
              case measure => omega
              case rel => exact ⟨k + 1, true, rfl, by go_num, by omega, by omega, Lib.hid (by rw [HNX.out]; rfl), Lib.hid ⟨hCK.out.1.later ((Chg.refl _ _).drewN _), hCK.out.2.drewN _⟩⟩
            | false =>
              by_cases hxs : u = y
              · have hxb : (u.toList == y.toList) = true := by rw [hxs]; exact beq_self_eq_true _
                go_wp2_with fail
                go_quiet (fail)
                go_wp2_with fail
                go_roundg gk'
                case measure => omega
                case rel => exact ⟨k + 1, true, rfl, by go_num, by omega, by omega, Lib.hid (by rw [HNX.out, decide_eq_true hxs]; rfl), Lib.hid ⟨hCK.out.1.later ((Chg.refl _ _).drewN _), hCK.out.2.drewN _⟩⟩
              · have hxb : (u.toList == y.toList) = false := toList_ne hxs
                go_wp2_with fail
                go_quiet (fail)
                go_wp2_with fail
                go_roundg gk'
                case measure => omega
                case rel => exact ⟨k + 1, false, rfl, by go_num, by omega, by omega, Lib.hid (by rw [HNX.out, decide_eq_false hxs]; rfl), Lib.hid ⟨hCK.out.1.later ((Chg.refl _ _).drewN _), hCK.out.2.drewN _⟩⟩
          · obtain rfl : k = n := by omega
            have hkk : ¬ ((k : Nat) : Int) < ((k : Nat) : Int) := by omega
            have hall : Fi.take k = Fi := List.take_of_length_le (by rw [hCK.out.1.len]; exact Nat.le_refl _)
            rw [hall] at hf
            have HF := Lib.hid hf.out
            clear hall hf hlt2 hk hg2
            cases f with
            | true =>
              have HNF : Hid (addZ la (lb.take (i + 1)) = Fi) := Lib.hid (by rw [HSN.out, if_pos HF.out.symm])
              go_wp2_with fail
              go_roundg gk'
              case measure => omega
              case rel => exact ⟨i + 1, k, ad, cap, rfl, by go_num, by omega, by omega, by omega, by rw [HNF.out]; exact hCK⟩
            | false =>
              have HNF : Hid (addZ la (lb.take (i + 1)) = Fi ++ [y]) := Lib.hid (by rw [HSN.out, if_neg (by rw [← HF.out]; decide)])
              obtain ⟨b, off, rfl, cy⟩ := HY.out _ hCK.out.2
              have HYA := Lib.hid (hCK.out.1.row.kept ((Chg.refl (fun _ => False) wr).alloc (.cells #[.string y] 9)) (fun _ _ h => h))
              have HYB := Lib.hid (news_one (new_atS wr (.cells #[.string y] 9) wr.heap.size rfl))
              have HYC := Lib.hid (one_cellS y)
              have HYD : Hid (k + 1 ≤ maxLen ∧ (k + 1) * 16 ≤ 140737488355328) := Lib.hid (by unfold maxLen; omega)
              go_wp2_with (at_builtin; refine wpList_append_row _ rfl _ _ 22 rfl 9 iS _ 1 16 twS hj0 hj1 hj2 hj3 rfl (by decide) (.slice ad k cap) k (Fi.map Value.string) rfl HYA.out ⟨wr.heap.size, 0, none⟩ 1 1 [.string y] rfl rfl HYB.out HYC.out (by decide) HYD.out.1 HYD.out.2 _ rfl ?_)
              clear HYA HYB HYC HYD
              intro gg off2 cap2 w3 hrow3 hgrow3 hat3 hlt3
              have HR3 : Hid (Held w3 wt.heap.size (.slice (some ⟨gg, off2, none⟩) (k + 1) cap2) (Fi ++ [y]) (k + 1) ∧ Chg (fun k => wt.heap.size ≤ k) wt w3) := Lib.hid ⟨held_more hCK.out.1 hrow3 (fun g hg => by
                have e : gg = g := by simpa [Value.ownBlock] using hg
                rw [← e]; exact hat3) (by have := hCK.out.2.size; simp; omega), (hCK.out.2.alloc _).grown hgrow3 (fun q hq e => hCK.out.1.new q e)⟩
              clear hrow3 hgrow3 hat3 hlt3 hCK
              go_wp2_with fail
              go_roundg gk'
              case measure => omega
              case rel => exact ⟨i + 1, k + 1, _, _, rfl, by go_num, by omega, by omega, by omega, by rw [HNF.out]; exact HR3⟩
      · obtain rfl : i = nm := by omega
        have hkk : ¬ ((i : Nat) : Int) < ((i : Nat) : Int) := by omega
        have hall : lb.take i = lb := List.take_of_length_le (by rw [HNM.out]; exact Nat.le_refl _)
        rw [hall] at hI
        obtain ⟨G, hG⟩ : ∃ G, addZ la lb = G := ⟨_, rfl⟩
        rw [hG] at hI
        simp only [hG] at HFD
        have HC7R : Hid (Chg (fun _ => False) w7 wr) := Lib.hid (HC11.out.andThen hI.out.2 (fun q hq (e : wt.heap.size ≤ q) => by have := HWT.out; omega))
        have HFG := Lib.hid (HFD.out _ HC7R.out)
        have hbd := HC7R.out.blk HBD.out (fun e => e)
        have d0 := cell_of hbd 0
        have d1 := cell_of hbd 1
        have d2 := cell_of hbd 2
        have d3 := cell_of hbd 3
        have d4 := cell_of hbd 4
        clear hall hG hbd HFD hlt hi hg
        go_wp2_with fail
        refine HFG.out.mono ?_
        rintro e w13 ⟨vg, rfl, hsg, hct⟩
        have HC713 := Lib.hid (HC7R.out.trans hct)
        have HH13 : Hid (Held w13 wt.heap.size (.slice ad n cap) G n ∧ StrsIn w13 vg G ∧ Chg (fun k => wt.heap.size ≤ k) wt w13) := Lib.hid ⟨hI.out.1.later hct, hsg, hI.out.2.trans (hct.mono (fun _ _ e => e.elim))⟩
        have hlen := hI.out.1.len
        obtain ⟨adg, capg, rfl, hgl, hgc⟩ := strs_cap hsg
        rw [hlen] at HH13 hgl ⊢
        clear hI hsg hct HFG d0 d1 d2 d3 d4 hlen HC7R
        go_wp2_with fail
        go_loopg [16] (n + 1) (fun g vi wr => ∃ (j : Nat), vi = .int .i64 j ∧ j ≤ n ∧ n < g + j ∧ Hid (Held wr wt.heap.size (.slice ad n cap) G n ∧ StrsIn wr (.slice adg n capg) G ∧ Chg (fun k => wt.heap.size ≤ k) wt wr))
        case atStart => exact ⟨0, rfl, by omega, by omega, HH13⟩
        case round =>
          obtain ⟨j, rfl, hj, hg3, hJ⟩ := hrel
          by_cases hlt3 : j < n
          · obtain ⟨gk', rfl⟩ : ∃ q, gk = q + 1 := ⟨gk - 1, by omega⟩
            obtain ⟨y, hy⟩ : ∃ y, G[j]? = some y := ⟨_, List.getElem?_eq_getElem (by rw [hJ.out.1.len]; exact hlt3)⟩
            have j0 : (0 : Int) ≤ (j : Int) := by omega
            have j1 : (j : Int) < (n : Int) := by omega
            have hst := hJ.out.1.strs
            obtain ⟨b, off, rfl, cy⟩ := strs_at hst hy
            obtain ⟨b2, off2, rfl, cu⟩ := strs_at hJ.out.2.1 hy
            clear hst hy
            go_wp2_with fail
            go_quiet (fail)
            go_wp2_with fail
            go_roundg gk'
            case measure => omega
            case rel => exact ⟨j + 1, by go_num, by omega, by omega, Lib.hid ⟨hJ.out.1.later ((Chg.refl _ _).drewN _), hJ.out.2.1.kept ((Chg.refl _ _).drewN _), hJ.out.2.2.drewN _⟩⟩
          · obtain rfl : j = n := by omega
            have hkk3 : ¬ ((j : Nat) : Int) < ((j : Nat) : Int) := by omega
            have HC7S : Hid (Chg (fun _ => False) w7 wr) := Lib.hid (HC11.out.andThen hJ.out.2.2 (fun q hq (e : wt.heap.size ≤ q) => by have := HWT.out; omega))
            have HFO := Lib.hid (HFF.out HPS.out _ HC7S.out)
            have hbf := HC7S.out.blk HBF.out (fun e => e)
            have f0 := cell_of hbf 0
            have f1 := cell_of hbf 1
            have f2 := cell_of hbf 2
            have f3 := cell_of hbf 3
            have f4 := cell_of hbf 4
            clear hbf HFF hlt3 hg3 hj
            go_wp2_with fail
            refine HFO.out.mono ?_
            rintro e w14 ⟨vo, rfl, hso, hct⟩
            have HH14 : Hid (StrsIn w14 vo (la.filter (qP p)) ∧ Chg (fun k => wt.heap.size ≤ k) wt w14) := Lib.hid ⟨hso, hJ.out.2.2.trans (hct.mono (fun _ _ e => e.elim))⟩
            obtain ⟨ado, capo, rfl, hol, hoc⟩ := strs_cap hso
            obtain ⟨lo, hlo⟩ : ∃ lo, la.filter (qP p) = lo := ⟨_, rfl⟩
            obtain ⟨no, hno⟩ : ∃ no, lo.length = no := ⟨_, rfl⟩
            have HLO := Lib.hid hlo
            have HNO := Lib.hid hno
            rw [hlo] at HH14 hol ⊢
            rw [hno] at HH14 hol ⊢
            have hle : no ≤ nl := by rw [← hno, ← hlo, ← HNL.out]; exact List.length_filter_le _ _
            clear hso hct HFO hJ f0 f1 f2 f3 f4 HC7S hlo hno
            go_wp2_with fail
            go_loopg [18, 19] (nl + 1) (fun g cv vi wr => ∃ (i c : Nat), cv = .int .i64 c ∧ vi = .int .i64 i ∧ i ≤ nl ∧ nl < g + i ∧ c ≤ i ∧ Hid (c = ((la.take i).filter (qP p)).length) ∧ Hid (StrsIn wr (.slice ado no capo) lo ∧ Chg (fun k => wt.heap.size ≤ k) wt wr))
            case atStart => exact ⟨0, 0, rfl, rfl, by omega, by omega, by omega, Lib.hid rfl, HH14⟩
            case round =>
              obtain ⟨i, c, rfl, rfl, hi4, hg4, hci, hcc, hK⟩ := hrel
              by_cases hlt4 : i < nl
              · obtain ⟨gk', rfl⟩ : ∃ q, gk = q + 1 := ⟨gk - 1, by omega⟩
                obtain ⟨y, hy⟩ : ∃ y, la[i]? = some y := ⟨_, List.getElem?_eq_getElem (by rw [HNL.out]; exact hlt4)⟩
                have k0 : (0 : Int) ≤ (i : Int) := by omega
                have k1 : (i : Int) < (nl : Int) := by omega
                obtain ⟨b, off, rfl, cy⟩ := strs_old HSL.out hK.out.2 hy
                have HY := Lib.hid hy
                by_cases hx : y = sX
                · have HQ := Lib.hid (filter_not (q := qP p) hy (qP_x hx))
                  have hyx : y = ⟨#[120]⟩ := hx
                  subst hyx
                  clear hy hx
                  go_wp2_with fail
                  go_roundg gk'
                  case measure => omega
                  case rel => exact ⟨i + 1, c, rfl, by go_num, by omega, by omega, by omega, Lib.hid (by rw [HQ.out]; exact hcc.out), hK⟩
                have hxb : (y.toList == [120]) = false := by
                  have := toList_ne (u := y) (y := ⟨#[120]⟩) hx
                  simpa [ByteArray.toList_eq] using this
                by_cases hp : y = p
                · have HQ := Lib.hid (filter_not (q := qP p) hy (qP_p hp))
                  have hpb : (y.toList == p.toList) = true := by rw [hp]; exact beq_self_eq_true _
                  clear hy hp
                  go_wp2_with fail
                  go_roundg gk'
                  case measure => omega
                  case rel => exact ⟨i + 1, c, rfl, by go_num, by omega, by omega, by omega, Lib.hid (by rw [HQ.out]; exact hcc.out), hK⟩
                have hpb : (y.toList == p.toList) = false := toList_ne hp
                obtain ⟨hq1, hq2⟩ := filter_at (q := qP p) hy (qP_no hx hp)
                rw [HLO.out, ← hcc.out] at hq1
                rw [← hcc.out] at hq2
                have HQ := Lib.hid hq2
                have hcn : c < no := by
                  have := (List.getElem?_eq_some_iff.1 hq1).1
                  rw [HNO.out] at this
                  exact this
                have c0 : (0 : Int) ≤ (c : Int) := by omega
                have c1 : (c : Int) < (no : Int) := by omega
                have c2 : ¬ (no : Int) ≤ (c : Int) := by omega
                have c3 : decide ((no : Int) ≤ (c : Int)) = false := decide_eq_false c2
                obtain ⟨b2, off2, rfl, cu⟩ := strs_at hK.out.1 hq1
                clear hy hq1 hq2 hcc
                go_wp2_with fail
                go_quiet (fail)
                go_wp2_with fail
                go_roundg gk'
                case measure => omega
                case rel => exact ⟨i + 1, c + 1, by go_num, by go_num, by omega, by omega, by omega, Lib.hid HQ.out.symm, Lib.hid ⟨hK.out.1.kept ((Chg.refl _ _).drewN _), hK.out.2.drewN _⟩⟩
              · obtain rfl : i = nl := by omega
                have hkk4 : ¬ ((i : Nat) : Int) < ((i : Nat) : Int) := by omega
                have hall : la.take i = la := List.take_of_length_le (by rw [HNL.out]; exact Nat.le_refl _)
                have hcno : c = no := by rw [hcc.out, hall, HLO.out, HNO.out]
                subst hcno
                have HCE : Hid (Chg (fun _ => False) w wr) := Lib.hid ((HC7.out.trans HC11.out).andThen hK.out.2 (fun q hq (e : wt.heap.size ≤ q) => by have := HWT.out; have := HC7.out.size; omega))
                clear hall hcc
                go_wp2_with fail
                refine (HA.out _ HCE.out).mono ?_
                rintro e w15 ⟨rfl, hCw15⟩
                have HCw15 := Lib.hid (HCE.out.trans hCw15)
                clear hCw15 HA
                go_wp2_with fail
                go_ret
                exact ⟨rfl, HCw15.out⟩
end Go.Proofs.YtaklmocjaokkpaaGreatDoor.Tr
