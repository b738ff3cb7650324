/- What the rows list of strconv's table gives FormatInt's contract; numbers and texts in quotes are printed as the walks want. No condition of ours. -/
import Derived.Test.YtaklmocjaokkpaaGreatDoorTreeLaid
import Derived.Test.YtaklmocjaokkpaaGreatDoorTreeShow5
import Derived.Lib.LaidTab
import Derived.Lib.AppendIntMem
import Derived.Stop.LaidErr
namespace Go.Proofs.YtaklmocjaokkpaaGreatDoor.Tr
set_option linter.unusedVariables false
open Go.RowKit Go.ChangeShapes Go.Proofs.YtaklmocjaokkpaaGreatDoor.Mem

theorem tab_later {W W' : World} (h : Lib.TabIs Tryz.prog W "internal/strconv.uint64pow10" .u64 Lib.pow10Tab) (hc : Chg (fun _ => False) W W') : Lib.TabIs Tryz.prog W' "internal/strconv.uint64pow10" .u64 Lib.pow10Tab :=
  (Lib.tabBelow_of_tabIs h) W' (hc.toBelow (Nat.le_refl _) (fun _ _ e => e.elim))
theorem listed_tab {W : World} (h : laidMetH Tryz.prog listed W) : Lib.TabIs Tryz.prog W "internal/strconv.uint64pow10" .u64 Lib.pow10Tab := by
  rw [MakeChecks.laidMetH_plain _ _ _ (by kernel_rfl)] at h
  have h3 : laidMet Tryz.prog (("internal/strconv.uint64pow10", Rows.laid_internal_strconv_uint64pow10) :: (listed.drop 3)) W := (laidMet.tail (laidMet.tail h))
  exact Lib.tabIs_of_head (g := 1) (k := .u64) (zs := Lib.pow10Tab) (t := 140) (e := 96) (n := 20) (by kernel_rfl) (by kernel_rfl) Tryz.underlying140 Tryz.underlying96 (by kernel_rfl) (by kernel_rfl) h3
theorem fmt_ok {w : World} (h : Lib.TabIs Tryz.prog w "internal/strconv.uint64pow10" .u64 Lib.pow10Tab) : FmtOk inR w := fun n W hn hc =>
  (Tryz.strconv_FormatInt_10 n hn.1 hn.2 W (tab_later h hc)).mono fun e w' ⟨he, k, os, hw⟩ => ⟨he, by
    subst hw
    exact ⟨rfl, rfl, rfl, Lib.size_grow W k os, fun j hj _ => Lib.heap_grow_old W k os j hj⟩⟩
end Go.Proofs.YtaklmocjaokkpaaGreatDoor.Tr
