/- The word that a node's text begins with, and the names behind it: the program's, walked. Condition: a clause of kind return has a name; the text is of at most 2^46 bytes. -/
import Derived.Test.YtaklmocjaokkpaaGreatDoorTreePrintPlain
import Derived.Test.YtaklmocjaokkpaaGreatDoorTreeSizes
import Derived.Test.YtaklmocjaokkpaaGreatDoorTreeRTakes
import Derived.Test.YtaklmocjaokkpaaGreatDoorShelf
import Derived.Shelf.Abstract
namespace Go.Proofs.YtaklmocjaokkpaaGreatDoor.Tr
set_option linter.unusedVariables false
set_option linter.unusedSimpArgs false
open Go.RowKit Go.Shelf Go.Proofs.YtaklmocjaokkpaaGreatDoor.Mem

theorem join_calls (ns : List ByteArray) (nv : Value) (w : World) (h : StrsIn w nv ns) (hl : ns.length ≤ 140737488355328) (hj : (joinL ns).length ≤ 140737488355328) :
    Calls Tryz.prog 83 #[nv, .string ⟨#[32]⟩] w fun e w' => e = .returned (.string ⟨(joinL ns).toArray⟩) ∧ Chg (fun _ => False) w w' := by
  obtain ⟨ad, cap, rfl, h1, h2, h3⟩ := h
  cases ns with
  | nil =>
    refine (Any.strings_Join_none Tryz.lays156 Tryz.Builder_Extra_156 ad cap ⟨#[32]⟩ w).mono ?_
    rintro e w' ⟨rfl, rfl⟩
    exact ⟨rfl, Chg.refl _ _⟩
  | cons x l =>
    obtain ⟨b, off, rfl, hb, _⟩ := h3 0 x rfl
    refine (Tryz.strings_Join b off cap (x :: l) ⟨#[32]⟩ w (fun j y hy => ?_) hb hl h1 hj).mono ?_
    · obtain ⟨b', off', e, _, hc⟩ := h3 j y hy
      cases e
      exact hc
    · rintro e w' ⟨rfl, hbl⟩
      exact ⟨rfl, (Chg.refl _ _).callee hbl⟩
theorem ba_app (l : List UInt8) (s : ByteArray) : (⟨l.toArray⟩ : ByteArray) ++ s = ⟨(l ++ bl s).toArray⟩ := by
  apply ByteArray.ext; simp [bl]
theorem ba_app2 (l m : List UInt8) : (⟨l.toArray⟩ : ByteArray) ++ ⟨m.toArray⟩ = ⟨(l ++ m).toArray⟩ := by
  apply ByteArray.ext; simp
theorem ba_id (s : ByteArray) : s = ⟨(bl s).toArray⟩ := by
  apply ByteArray.ext; simp [bl]
end Go.Proofs.YtaklmocjaokkpaaGreatDoor.Tr
