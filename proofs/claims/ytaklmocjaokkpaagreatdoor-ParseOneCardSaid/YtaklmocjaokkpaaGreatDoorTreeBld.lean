/- A strings.Builder of the call's own: what its writers do, and what they leave be. Condition: at most 2^47 bytes. -/
import Derived.Test.YtaklmocjaokkpaaGreatDoorTreeHead
namespace Go.Proofs.YtaklmocjaokkpaaGreatDoor.Tr
set_option linter.unusedVariables false
set_option linter.unusedSimpArgs false
open Go.RowKit Go.Shelf Go.Proofs.YtaklmocjaokkpaaGreatDoor.Mem

set_option maxRecDepth 100000 in
/-- The writers' own layings (the shelf's tool does not find them at this program). -/
theorem lay166 : Go.Proofs.Lays.n166 Tryz.prog Tryz.lays156_ren := { Tryz.lays156, Tryz.Builder_Extra_156 with }
def ren167 : Go.Shelf.Ren := ⟨fun | 167 => 63 | 240 => 79 | 276 => 102 | n => n, Tryz.lays156_ren.t, fun n => n⟩
set_option maxRecDepth 100000 in
theorem lay167 : Go.Proofs.Lays.n167 Tryz.prog ren167 := { Tryz.lays156, Tryz.Builder_Extra_156 with
  f167 := Tryz.func63.trans (congrArg some (by kernel_rfl))
  f240 := Tryz.func79.trans (congrArg some (by kernel_rfl))
  f276 := Tryz.func102.trans (congrArg some (by kernel_rfl)) }
set_option maxRecDepth 100000 in
theorem extra167 : Builder.Extra Tryz.prog ren167 := { Tryz.Builder_Extra_156 with }
/-- The builder in block b holds the bytes l. -/
def Bld (b : Nat) (l : List UInt8) (w : World) : Prop := Lib.IsBuilderF 52 5 b b (Lib.byteCells l) w
/-- All but the builder, and rows of bytes, stands as it stood. -/
def Kp (b : Nat) (w w' : World) : Prop := Below b w w' ∧ Lib.OthersKept 5 (some b) w w'
theorem Kp.refl (b : Nat) (w : World) : Kp b w w := ⟨Below.refl _ _, Lib.OthersKept.refl _ _ _⟩
theorem Kp.trans {b : Nat} {w1 w2 w3 : World} (h : Kp b w1 w2) (k : Kp b w2 w3) : Kp b w1 w3 := ⟨h.1.trans k.1, h.2.trans k.2⟩
theorem Kp.of {b : Nat} {w w' : World} (h : Chg (fun _ => False) w w') (hb : b ≤ w.heap.size) : Kp b w w' :=
  ⟨h.toBelow hb (fun _ _ e => e.elim), fun k o hk _ _ => h.blk hk (fun e => e)⟩
theorem Kp.chg {b : Nat} {w0 w w' : World} (h : Kp b w w') (hc : Chg (fun _ => False) w0 w) (hb : w0.heap.size ≤ b) : Chg (fun _ => False) w0 w' :=
  hc.below h.1 (fun k hk h1 => by omega)
theorem Kp.box {b c : Nat} {w w' : World} {cs : Array Value} {t : TypeId} {fr : Nat × Nat} (h : Kp b w w') (hc : w.heap[c]? = some (.cells cs t fr)) (hb : c ≠ b) (ht : t ≠ 5) : w'.heap[c]? = some (.cells cs t fr) :=
  h.2 c _ hc (fun e => hb (Option.some.inj e)) (fun c' fz e => ht (by cases e; rfl))
theorem Bld.lt {b : Nat} {l : List UInt8} {w : World} (h : Bld b l w) : b < w.heap.size := by
  rcases h with h | h
  · exact h.lt
  · exact h.lt
theorem Bld.later {b : Nat} {l : List UInt8} {w w' : World} (h : Bld b l w) (hc : Chg (fun _ => False) w w') : Bld b l w' := by
  rcases h with h | h
  · left
    obtain ⟨hB, v, hb, hown, hne⟩ := h
    refine ⟨hB, v, hc.blk hb (fun e => e), ⟨hown.1, ?_⟩, hne⟩
    rcases hown.2 with hn | ⟨g, cap, cur, fz, hv, hbg, hg, rest⟩
    · exact .inl hn
    · exact .inr ⟨g, cap, cur, fz, hv, hbg, hc.blk hg (fun e => e), rest⟩
  · right
    obtain ⟨hB, v, hb, hown, hne⟩ := h
    refine ⟨hB, v, hc.blk hb (fun e => e), ⟨hown.1, ?_⟩, hne⟩
    rcases hown.2 with hn | ⟨g, cap, cur, fz, hv, hbg, hg, rest⟩
    · exact .inl hn
    · exact .inr ⟨g, cap, cur, fz, hv, hbg, hc.blk hg (fun e => e), rest⟩
theorem bld_new (w : World) : Bld w.heap.size [] (w.alloc (.cells #[.pointer none, .slice none 0 0] 52)) :=
  Lib.IsBuilderF.of (Lib.fresh_isBuilder 52 5 w)
theorem strCells_byte (s : ByteArray) : Lib.strCells s = Lib.byteCells (bl s) := rfl
theorem wstr_calls (b : Nat) (l : List UInt8) (s : ByteArray) (w : World) (h : Bld b l w) (hl : l.length + s.size ≤ 140737488355328) :
    Calls Tryz.prog 58 #[.pointer (some ⟨b, 0, none⟩), .string s] w fun e w' => e = .returned (.tuple #[.int .i64 s.size, .nilIface]) ∧ Bld b (l ++ bl s) w' ∧ Kp b w w' := by
  refine (Any.Builder_WriteString_k lay166 Tryz.Builder_Extra_156 b b (Lib.byteCells l) s w h (by rw [Lib.byteCells_length]; exact hl) (Nat.le_of_lt h.lt)).mono ?_
  rintro e w' ⟨rfl, h1, h2, h3⟩
  refine ⟨rfl, .inr ?_, h2, h3⟩
  rw [Lib.byteCells_append, ← strCells_byte]
  exact h1
theorem wbyte_calls (b : Nat) (l : List UInt8) (c : UInt8) (w : World) (h : Bld b l w) (hl : l.length + 1 ≤ 140737488355328) :
    Calls Tryz.prog 63 #[.pointer (some ⟨b, 0, none⟩), .int .u8 (c.toNat : Int)] w fun e w' => e = .returned .nilIface ∧ Bld b (l ++ [c]) w' ∧ Kp b w w' := by
  refine (Any.Builder_WriteByte_k lay167 extra167 b b (Lib.byteCells l) (c.toNat : Int) w h (by rw [Lib.byteCells_length]; exact hl) (Nat.le_of_lt h.lt)).mono ?_
  rintro e w' ⟨rfl, h1, h2, h3⟩
  refine ⟨rfl, .inr ?_, h2, h3⟩
  rw [Lib.byteCells_append]
  exact h1
theorem bstr_calls (b : Nat) (l : List UInt8) (w : World) (h : Bld b l w) :
    Calls Tryz.prog 34 #[.pointer (some ⟨b, 0, none⟩)] w fun e w' => e = .returned (.string ⟨l.toArray⟩) ∧ Bld b l w' ∧ Kp b w w' := by
  refine (Tryz.Builder_String_any_k b b l w h (Nat.le_of_lt h.lt)).mono ?_
  rintro e w' ⟨rfl, h1, h2, h3⟩
  exact ⟨rfl, h1, h2, h3⟩
end Go.Proofs.YtaklmocjaokkpaaGreatDoor.Tr
