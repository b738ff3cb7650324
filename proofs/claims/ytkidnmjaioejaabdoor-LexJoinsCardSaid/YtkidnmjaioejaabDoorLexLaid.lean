/- What the rows list of the package-level variables gives the walks: the two errors of strconv hold interface values; and a world that bears all that is listed. -/
import Derived.Test.YtkidnmjaioejaabDoorRows
import Derived.Test.YtkidnmjaioejaabDoorLexWalk1
import Derived.Lib.LaidU8
import Derived.LaidLaws
import Derived.LaidHandle
import Derived.Lay
import Derived.MakeChecks
namespace Go.Proofs.YtkidnmjaioejaabDoor.Lx
open Go.RowKit Go.ChangeShapes Go.Proofs.YtkidnmjaioejaabDoor.Mem

theorem cell_of_reads {W : World} {n nm : String} {d : DataW Unit} {g ti : Nat} {ms : Array (String × TypeId)} (h : Lib.VarReads Tryd.prog W n (.iface nm d)) (hg : Tryd.prog.globalNamed n = some g)
    (ht : (Tryd.prog.globals[g]?).map (·.type) = some ti) (hi : Tryd.prog.underlying ti = some (.interface ms)) : ∃ te pe, W.cell? ⟨g, 0, none⟩ = some (.iface te pe) := by
  obtain ⟨g0, t0, cs, f, p, hg0, ht0, hv, hd⟩ := h
  obtain rfl := Option.some.inj (hg.symm.trans hg0)
  obtain rfl := Option.some.inj (ht.symm.trans ht0)
  obtain ⟨f1, u, v, hc, _, _⟩ := iface_of_trod hi hd
  obtain ⟨l⟩ := cs
  subst hc
  exact ⟨u, v, by simpa using World.var?_cell hg hv 0⟩
theorem glob_of_laid {W : World} {l : List (String × DataW Unit)} (h : laidMet Tryd.prog l W) (h1 : ("strconv.ErrSyntax", Rows.laid_strconv_ErrSyntax) ∈ l) (h2 : ("strconv.ErrRange", Rows.laid_strconv_ErrRange) ∈ l) : Glob W :=
  ⟨cell_of_reads (Lib.laidMet.reads h h1) (by kernel_rfl) (by kernel_rfl) Tryd.underlying57, cell_of_reads (Lib.laidMet.reads h h2) (by kernel_rfl) (by kernel_rfl) Tryd.underlying57⟩
/-- What the six rows list. -/
def listed : List (String × DataW Unit) := Rows.lexTokensRow.laid
theorem listed_glob {W : World} (h : laidMetH Tryd.prog listed W) : Glob W := by
  rw [MakeChecks.laidMetH_plain _ _ _ (by kernel_rfl)] at h
  exact glob_of_laid h (by simp [listed, Rows.lexTokensRow]) (by simp [listed, Rows.lexTokensRow])
theorem lies (os : Os) (args : Array Value) : laidMetH Tryd.prog listed ((World.laidAll Tryd.prog os listed).forCall (fun _ _ => 0) ⟨#[], args, []⟩).memory := by
  rw [MakeChecks.laidMetH_plain _ _ _ (by kernel_rfl)]
  exact laidMet_laidAll _ (by kernel_rfl) (by kernel_rfl)
theorem shaped (os : Os) (args : Array Value) : ((World.laidAll Tryd.prog os listed).forCall (fun _ _ => 0) ⟨#[], args, []⟩).Shaped Tryd.prog := World.shaped_of_ZipB (by kernel_rfl) (by kernel_rfl)
end Go.Proofs.YtkidnmjaioejaabDoor.Lx
