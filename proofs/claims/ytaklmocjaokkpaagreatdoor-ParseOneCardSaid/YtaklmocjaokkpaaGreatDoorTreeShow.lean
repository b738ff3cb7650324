/- A strings.Builder that lies in another struct's field, written by the call that made it: its check, a byte, a text. Condition: at most 2^46 bytes. -/
import Derived.Test.YtaklmocjaokkpaaGreatDoorTreeBld
import Derived.Test.YtaklmocjaokkpaaGreatDoorLexB
namespace Go.Proofs.YtaklmocjaokkpaaGreatDoor.Tr
set_option linter.unusedVariables false
set_option linter.unusedSimpArgs false
open Go.RowKit Go.Shelf Go.Proofs.YtaklmocjaokkpaaGreatDoor.Mem

/-- A row of bytes of the call's own, from its block's first cell on, not frozen; or none yet. -/
def Rw (W : World) (v : Value) (l : List UInt8) : Prop :=
  (v = .slice none 0 0 ∧ l = []) ∨ ∃ g cap cur, v = .slice (some ⟨g, 0, none⟩) l.length cap ∧ W.heap[g]? = some (.cells cur 5 (0, 0)) ∧ l.length ≤ cap ∧ cap ≤ maxLen ∧ cap ≤ cur.size ∧ cur.toList.take l.length = Lib.byteCells l
theorem Rw.form {W : World} {v : Value} {l : List UInt8} (h : Rw W v l) : ∃ ad cap, v = .slice ad l.length cap := by
  rcases h with ⟨rfl, rfl⟩ | ⟨g, cap, cur, rfl, _⟩
  · exact ⟨_, _, rfl⟩
  · exact ⟨_, _, rfl⟩
theorem Rw.kept {F : Nat → Prop} {W W' : World} {v : Value} {l : List UInt8} (h : Rw W v l) (hc : Chg F W W') (hf : ∀ k, v.ownBlock = some k → ¬ F k) : Rw W' v l := by
  rcases h with h | ⟨g, cap, cur, rfl, h1, r⟩
  · exact .inl h
  · exact .inr ⟨g, cap, cur, rfl, hc.blk h1 (hf g rfl), r⟩
theorem take_setrow (cur : List Value) (l m : List UInt8) (h : cur.take l.length = Lib.byteCells l) : (cur.take l.length ++ Lib.byteCells m ++ cur.drop (l.length + m.length)).take (l ++ m).length = Lib.byteCells (l ++ m) := by
  rw [h, Lib.byteCells_append, ← Lib.byteCells_append]
  have : (l ++ m).length = (Lib.byteCells (l ++ m)).length := (Lib.byteCells_length _).symm
  rw [this]
  exact List.take_left
/-- What an append hands back. -/
def AppOk (w w' : World) (v v' : Value) (l' : List UInt8) : Prop := Rw w' v' l' ∧ w.grownBy w' v.ownBlock ∧ ∀ k, v'.ownBlock = some k → v.ownBlock = some k ∨ k = w.heap.size
theorem grown_new (w : World) (l : List UInt8) (xs : Array Value) (n old : Nat) (hn : n = l.length) (hx : xs.toList = Lib.byteCells l) (hm : n ≤ maxLen) (z : Array Value) (hz : z.size = 1) (row : Option Nat) :
    Rw (w.drew.alloc (.cells (xs ++ Builtin.zeroCells z (grownCap w n old 5 - n)) 5)) (.slice (some ⟨w.heap.size, 0, none⟩) n (grownCap w n old 5)) l ∧
    w.grownBy (w.drew.alloc (.cells (xs ++ Builtin.zeroCells z (grownCap w n old 5 - n)) 5)) row := by
  subst hn
  have hge := grownCap_ge w l.length old 5
  have hxs : xs.size = l.length := by rw [← Array.length_toList, hx, Lib.byteCells_length]
  refine ⟨.inr ⟨w.heap.size, _, _, rfl, heap_alloc_new w.drew _, hge, grownCap_le_maxLen w l.length old 5 hm, ?_, ?_⟩, ⟨rfl, rfl, rfl, by simp, fun k hk _ => _root_.Go.heap_alloc_old w.drew _ hk⟩⟩
  · simp only [Array.size_append, size_zeroCells, hz, hxs]
    omega
  · rw [Array.toList_append, hx]
    have : l.length = (Lib.byteCells l).length := (Lib.byteCells_length _).symm
    rw [this]
    exact List.take_left
theorem run_byte (w : World) (ty : TypeId) (v : Value) (l : List UInt8) (c : UInt8) (a : Addr) (cc : Nat) (h : Rw w v l) (hc : w.cell? a = some (.int .u8 c.toNat)) (hl : l.length + 1 ≤ 70368744177664) :
    ∃ v' w', (Builtin.append_ #[50, 50] ty #[v, .slice (some a) 1 cc]).run Tryz.prog w = .ok v' w' ∧ AppOk w w' v v' (l ++ [c]) := by
  obtain ⟨i, hi, hz0, hz1, hz2⟩ := info_parts Lx.infoB
  have hnews : ∀ j u, ([.int .u8 c.toNat] : List Value)[j]? = some u → w.cell? (a.add j) = some u := by
    intro j u hu
    match j, hu with
    | 0, hu => simp at hu; subst hu; simpa [Addr.add] using hc
  have hz : (Value.int IntKind.u8 0).cells.size = 1 := rfl
  rcases h with ⟨rfl, rfl⟩ | ⟨g, cap, cur, rfl, hg, h1, h2, h3, h4⟩
  · have hr := run_append_nil (P := Tryz.prog) w 50 ty 5 i (.int .u8 0) Tryz.underlying50 hi hz0 a 1 cc [.int .u8 c.toNat] (by rw [hz1]; rfl) hnews (by omega) (by omega) (by rw [hz2]; omega)
    have hgr := grown_new w [c] #[.int .u8 c.toNat] 1 0 rfl rfl (by unfold maxLen; omega) _ hz (Value.ownBlock (.slice none 0 0))
    exact ⟨_, _, hr, hgr.1, hgr.2, fun k hk => .inr (by simpa [Value.ownBlock] using hk.symm)⟩
  · by_cases hroom : l.length + 1 ≤ cap
    · have hr := run_append_room_off (P := Tryz.prog) w 50 ty 5 i Tryz.underlying50 hi g 0 l.length cap cur hg a 1 cc [.int .u8 c.toNat] (by rw [hz1]; rfl) hnews (by intro u hu; simp at hu; subst hu; rfl) hroom (by rw [hz1]; simp; omega)
      rw [hz1] at hr
      refine ⟨_, _, hr, .inr ⟨g, cap, _, by simp, setRow_heap w g cur _ 5 _ hg, by simpa using hroom, h2, ?_, ?_⟩, ⟨rfl, rfl, rfl, by simp, fun k _ hk => setRow_other w g k _ (fun e => hk (by simp [Value.ownBlock, e]))⟩, fun k hk => .inl hk⟩
      · simp only [List.size_toArray, List.length_append, List.length_take, List.length_drop, Array.length_toList, List.length_cons, List.length_nil]
        omega
      · have := take_setrow cur.toList l [c] h4
        simpa [Lib.byteCells] using this
    · have hr := run_append_grow (P := Tryz.prog) w 50 ty 5 i (.int .u8 0) Tryz.underlying50 hi hz0 ⟨g, 0, none⟩ l.length cap (Lib.byteCells l) (by rw [hz1, Lib.byteCells_length, Nat.mul_one]) (fun j u hu => by
        have hj : j < l.length := by have := (List.getElem?_eq_some_iff.1 hu).1; rwa [Lib.byteCells_length] at this
        have hadd : (⟨g, 0, none⟩ : Addr).add j = ⟨g, j, none⟩ := by unfold Addr.add; split <;> simp_all
        rw [hadd, cell_of hg, ← Array.getElem?_toList, ← hu, ← h4, List.getElem?_take, if_pos hj]) a 1 cc [.int .u8 c.toNat] (by rw [hz1]; rfl) hnews (by omega) (by omega) (by rw [hz2]; exact growslice_fits (by omega) (by omega))
      have hgr := grown_new w (l ++ [c]) ((Lib.byteCells l).toArray ++ #[.int .u8 c.toNat]) (l.length + 1) cap (by simp) (by simp [Lib.byteCells]) (by unfold maxLen; omega) _ hz (Value.ownBlock (.slice (some ⟨g, 0, none⟩) l.length cap))
      exact ⟨_, _, hr, hgr.1, hgr.2, fun k hk => .inr (by simpa [Value.ownBlock] using hk.symm)⟩
end Go.Proofs.YtaklmocjaokkpaaGreatDoor.Tr
