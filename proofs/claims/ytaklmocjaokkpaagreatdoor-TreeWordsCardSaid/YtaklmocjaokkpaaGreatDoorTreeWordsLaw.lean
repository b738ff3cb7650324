/- How many parts any word takes is the document's: the statement, walked. Condition: what XTreeText's functions want of the library's variables. -/
import Derived.Test.YtaklmocjaokkpaaGreatDoorTreeAwake
import Derived.Test.YtaklmocjaokkpaaGreatDoorTreeRTakes
namespace Go.Proofs.YtaklmocjaokkpaaGreatDoor.Tr
set_option linter.unusedVariables false
set_option linter.unusedSimpArgs false
open Go.RowKit Go.Shelf Go.Proofs.YtaklmocjaokkpaaGreatDoor.Mem

set_option maxRecDepth 100000 in
set_option maxHeartbeats 1000000 in
theorem treeWords_calls (s : ByteArray) (w : World) (hg : Gm w) : Calls Tryz.prog 7 #[.string s] w fun e w' => e = .returned (.bool true) ∧ Chg (fun _ => False) w w' := by
  have HA := Lib.hid (fun W (hW : Chg (fun _ => False) w W) => awake_calls W (hg.later hW))
  by_cases hlong : 100 < s.size
  · have h1 : (100 : Int) < (s.size : Int) := by omega
    clear hg
    go_enter Tryz.func7, Tryz.ntmps7
    go_wp2_with fail
    refine (HA.out _ (Chg.refl _ _)).mono ?_
    rintro e w1 ⟨rfl, hC1⟩
    go_wp2_with fail
    go_ret
    exact ⟨rfl, hC1⟩
  · have h1 : ¬ (100 : Int) < (s.size : Int) := by omega
    obtain ⟨m, hm⟩ := hg.2
    have HT := Lib.hid (ttakes_calls s m w (by omega) hm)
    have HR := Lib.hid (fun W => rtakes_calls s W)
    obtain ⟨t, ht⟩ : ∃ t, takes s = t := ⟨_, rfl⟩
    rw [ht] at HT HR
    clear hg hm ht
    go_enter Tryz.func7, Tryz.ntmps7
    go_wp2_with fail
    refine HT.out.mono ?_
    rintro e w1 ⟨rfl, hC1⟩
    have HC1 := Lib.hid hC1
    clear hC1 HT
    go_wp2_with fail
    refine (HR.out _).mono ?_
    rintro e w2 ⟨rfl, hC2⟩
    have HC2 := Lib.hid (HC1.out.trans hC2)
    clear hC2 HR HC1
    go_wp2_with fail
    refine (HA.out _ HC2.out).mono ?_
    rintro e w3 ⟨rfl, hC3⟩
    have HC3 := Lib.hid (HC2.out.trans hC3)
    clear hC3 HA HC2
    go_wp2_with fail
    go_ret
    exact ⟨rfl, HC3.out⟩
end Go.Proofs.YtaklmocjaokkpaaGreatDoor.Tr
