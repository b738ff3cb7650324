/- show's Quote, walked: a text as it is shown. Condition: a text of at most 70000 bytes. -/
import Derived.Test.YtaklmocjaokkpaaGreatDoorTreeShow4
import Derived.Test.YtaklmocjaokkpaaGreatDoorTreePrintsLaw
namespace Go.Proofs.YtaklmocjaokkpaaGreatDoor.Tr
set_option linter.unusedVariables false
set_option linter.unusedSimpArgs false
open Go.RowKit Go.Shelf Go.Proofs.YtaklmocjaokkpaaGreatDoor.Mem

set_option maxRecDepth 100000 in
set_option maxHeartbeats 1000000 in
theorem shquote_calls (s : ByteArray) (w : World) (hs : s.size ≤ 70000) :
    Calls Tryz.prog 61 #[.string s] w fun e w' => e = .returned (.string ⟨(Lx.quote (bl s)).toArray⟩) ∧ Chg (fun _ => False) w w' := by
  obtain ⟨w1, hw1⟩ : ∃ w1, w.alloc (.cells #[.nilIface, .pointer none, .slice none 0 0] 112) = w1 := ⟨_, rfl⟩
  have hb : w1.heap[w.heap.size]? = some (.cells #[.nilIface, .pointer none, .slice none 0 0] 112 (0, 0)) := by rw [← hw1]; exact blk_new w _
  have hc1 : Chg (fun _ => False) w w1 := by rw [← hw1]; exact (Chg.refl _ w).alloc _
  have hbf : BF w.heap.size (.slice none 0 0) [] w1 := ⟨⟨_, .inl rfl, hb⟩, .inl ⟨rfl, rfl⟩, by simp [Value.ownBlock]⟩
  have HSQ := Lib.hid (squote_calls w.heap.size s w1 hbf hs)
  clear hbf hb
  go_enter Tryz.func61, Tryz.ntmps61
  go_wp2_with fail
  refine HSQ.out.mono ?_
  rintro e w2 ⟨rfl, v, hbf, hc2, hown⟩
  have HFS := Lib.hid (fstr_calls w.heap.size v _ w2 hbf (by unfold Lx.quote; simp))
  have HC := Lib.hid (⟨hc1, hc2, hown⟩ : Chg (fun _ => False) w w1 ∧ Chg (fun k => w.heap.size ≤ k) w1 w2 ∧ ∀ k, v.ownBlock = some k → w.heap.size ≤ k)
  clear hbf hc1 hc2 hown
  go_wp2_with fail
  refine HFS.out.mono ?_
  rintro e w3 ⟨rfl, hc3⟩
  have HC3 := Lib.hid hc3
  clear hc3
  go_wp2_with fail
  go_ret
  refine ⟨rfl, ?_⟩
  obtain ⟨a1, a2, a3⟩ := HC.out
  exact (a1.andThen a2 (fun k hk e => by omega)).andThen HC3.out (fun k hk e => by have := a3 k e; omega)
theorem quo_ok (w : World) : QuoOk okQ w := fun s W h _ => shquote_calls s W h
end Go.Proofs.YtaklmocjaokkpaaGreatDoor.Tr
