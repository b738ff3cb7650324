/- A strings.Builder that lies in another struct's field: its check, a byte, a text, walked. Condition: at most 2^46 bytes. -/
import Derived.Test.YtaklmocjaokkpaaGreatDoorTreeShow
import Derived.Test.YtaklmocjaokkpaaGreatDoorTreeHead2
import Derived.BigCall
import Derived.Shelf.Abstract
namespace Go.Proofs.YtaklmocjaokkpaaGreatDoor.Tr
set_option linter.unusedVariables false
set_option linter.unusedSimpArgs false
open Go.RowKit Go.Shelf Go.Proofs.YtaklmocjaokkpaaGreatDoor.Mem

theorem run_str (w : World) (ty : TypeId) (v : Value) (l : List UInt8) (s : ByteArray) (h : Rw w v l) (hne : l ≠ []) (hl : l.length + s.size ≤ 70368744177664) :
    ∃ v' w', (Builtin.append_ #[50, 9] ty #[v, .string s]).run Tryz.prog w = .ok v' w' ∧ AppOk w w' v v' (l ++ bl s) := by
  obtain ⟨i, hi, hz0, hz1, hz2⟩ := info_parts Lx.infoB
  have hz : (Value.int IntKind.u8 0).cells.size = 1 := rfl
  have hbl : (bl s).length = s.size := bl_len s
  rcases h with ⟨rfl, rfl⟩ | ⟨g, cap, cur, rfl, hg, h1, h2, h3, h4⟩
  · exact absurd rfl hne
  · by_cases hroom : l.length + s.size ≤ cap
    · have hr := Lib.run_append_room_stringF (P := Tryz.prog) w 50 9 ty 5 i Tryz.underlying50 Tryz.underlying9 hi hz1 g l.length cap cur (0, 0) hg (Nat.zero_le _) s hroom (by omega)
      refine ⟨_, _, hr, .inr ⟨g, cap, _, by rw [List.length_append, hbl], setRow_heap w g cur _ 5 _ hg, by rw [List.length_append, hbl]; exact hroom, h2, ?_, ?_⟩, ⟨rfl, rfl, rfl, by simp, fun k _ hk => setRow_other w g k _ (fun e => hk (by simp [Value.ownBlock, e]))⟩, fun k hk => .inl hk⟩
      · simp only [List.size_toArray, List.length_append, List.length_take, List.length_drop, Array.length_toList, Lib.strCells_length]
        omega
      · have := take_setrow cur.toList l (bl s) h4
        rw [hbl] at this
        exact this
    · have hr := Lib.run_append_grow_string (P := Tryz.prog) w 50 9 ty 5 i (.int .u8 0) Tryz.underlying50 Tryz.underlying9 hi hz0 ⟨g, 0, none⟩ l.length cap (Lib.byteCells l) (by rw [hz1, Lib.byteCells_length, Nat.mul_one]) (fun j u hu => by
        have hj : j < l.length := by have := (List.getElem?_eq_some_iff.1 hu).1; rwa [Lib.byteCells_length] at this
        have hadd : (⟨g, 0, none⟩ : Addr).add j = ⟨g, j, none⟩ := by unfold Addr.add; split <;> simp_all
        rw [hadd, cell_of hg, ← Array.getElem?_toList, ← hu, ← h4, List.getElem?_take, if_pos hj]) s (by omega) (by omega) (by rw [hz2]; exact growslice_fits (by omega) (by omega))
      have hgr := grown_new w (l ++ bl s) ((Lib.byteCells l).toArray ++ (Lib.strCells s).toArray) (l.length + s.size) cap (by rw [List.length_append, hbl]) (by rw [Array.toList_append, Lib.byteCells_append]; rfl) (by unfold maxLen; omega) _ hz (Value.ownBlock (.slice (some ⟨g, 0, none⟩) l.length cap))
      exact ⟨_, _, hr, hgr.1, hgr.2, fun k hk => .inr (by simpa [Value.ownBlock] using hk.symm)⟩
section
variable {P : Program}
theorem wpList_app {ops : Array Oper} {rest : List Oper} {o : Oper} {a : Act} (w : World) {Q : Exit → Act → World → Prop} (hgd : o.guard = none) (s x : Operand) (t u : TypeId)
    (ho : o.op = .call { callee := .builtin .append, args := #[s, x], argTypes := #[t, u] }) (v xv : Value) (hs : a.eval s = v) (hx : a.eval x = xv) (v' : Value) (w' : World) (hr : ∀ ty, (Builtin.append_ #[t, u] ty #[v, xv]).run P w = .ok v' w')
    (h : wpList P ops Q rest (a.put o.dst v') w') : wpList P ops Q (o :: rest) a w := by
  refine wpList_plain hgd fun _ hK => ?_
  unfold Oper.wp execOp
  simp only [ho, resolve, invoke, builtin, Sem.run_bind, Sem.run_pure, Result.andThen_ok, List.map_toArray, List.map_cons, List.map_nil, hs, hx, hr]
  exact hK _ _ h
end
/-- The builder in the shower's field. -/
def BF (b : Nat) (v : Value) (l : List UInt8) (W : World) : Prop :=
  (∃ p, (p = .pointer none ∨ p = .pointer (some ⟨b, 1, none⟩)) ∧ W.heap[b]? = some (.cells #[.nilIface, p, v] 112 (0, 0))) ∧ Rw W v l ∧ v.ownBlock ≠ some b
/-- One step of it. -/
def Stp (b : Nat) (v v' : Value) (w w' : World) : Prop := Chg (fun k => k = b ∨ v.ownBlock = some k) w w' ∧ ∀ k, v'.ownBlock = some k → v.ownBlock = some k ∨ w.heap.size ≤ k
theorem lies52 : liesAt Tryz.prog Tryz.prog.depth 112 (3 / Tryz.prog.cellsOf 112) 1 52 1 = true := by kernel_rfl
set_option maxRecDepth 100000 in
set_option maxHeartbeats 1000000 in
theorem cc_calls (b : Nat) (v : Value) (l : List UInt8) (w : World) (h : BF b v l w) :
    Calls Tryz.prog 79 #[.pointer (some ⟨b, 1, none⟩)] w fun e w' => e = .returned (.tuple #[]) ∧ w'.heap[b]? = some (.cells #[.nilIface, .pointer (some ⟨b, 1, none⟩), v] 112 (0, 0)) ∧ Chg (fun k => k = b) w w' := by
  obtain ⟨⟨p, hp, hb⟩, _, _⟩ := h
  obtain ⟨j, hj, hjs⟩ := Option.map_eq_some_iff.1 Tryz.Builder_Extra_156.sizeBuilder
  have hsh : w.shape? b = some (112, 3) := by simp [World.shape?, hb]
  have h0 := cell_of hb 1
  have hfz := free_of hb 1
  have t70 : Tryz.prog.underlying 49 = some (.pointer 52) := Tryz.underlying49
  have t164 : Tryz.prog.underlying 125 = some .unsafePointer := Tryz.underlying125
  rcases hp with rfl | rfl
  · go_enter Tryz.func79, Tryz.ntmps79
    go_wp2
    rw [Lib.run_to_unsafe w ⟨b, 1, none⟩ t70 t164 hj (by rw [hjs]; decide) hsh (show (1 : Nat) < 3 by decide)]
    simp only [Result.andThen]
    rw [Oper.upon_value]
    go_wp2
    rw [run_callFunc_extern Tryz.func102 (by kernel_rfl) (by kernel_rfl) (by kernel_rfl) (e := Extern.AbiNoEscape.same) (by kernel_rfl)]
    rw [Lib.run_noEscape]
    simp only [Result.andThen]
    rw [Oper.upon_value]
    go_wp2
    rw [Lib.run_from_unsafe w ⟨b, 1, none⟩ t164 t70 hj hsh lies52]
    simp only [Result.andThen]
    rw [Oper.upon_value]
    go_wp2
    go_end0
    exact ⟨rfl, by simpa using blk_set hb 1 (.pointer (some ⟨b, 1, none⟩)), Chg.set (F := fun k => k = b) (p := ⟨b, 1, none⟩) (Chg.refl _ w) (fun _ => rfl) _⟩
  · go_enter Tryz.func79, Tryz.ntmps79
    go_wp2
    rw [Lib.run_neq_ptr_same w ⟨b, 1, none⟩ t70 hj]
    go_wp2
    go_end0
    exact ⟨rfl, hb, Chg.refl _ w⟩
end Go.Proofs.YtaklmocjaokkpaaGreatDoor.Tr
