/- The free names of a do are those of its parts, in order, each once; a function's are those of its body but its own and its parameters: the given row, where what comes in is of bulk at most 2^20, and the card that ties what it lists. No condition of ours. -/
import Derived.Test.YtaklmocjaokkpaaGreatDoorTreeLaid
import Derived.Test.YtaklmocjaokkpaaGreatDoorTreeArg
import Derived.Test.YtaklmocjaokkpaaGreatDoorScopePartsLaw
import Derived.Test.YtaklmocjaokkpaaGreatDoorTie
import Derived.Test.YtaklmocjaokkpaaGreatDoorCards
import Derived.WalkKit
import Derived.ProofKit
import Derived.OpenShut
import Derived.ShutString
import Derived.ChangeOld
import Derived.Below
import Derived.SevenTiedAt
import Derived.Deep.DeepHandedRow
import Derived.Deep.DeepWitnessRowRef
namespace Go.Proofs.YtaklmocjaokkpaaGreatDoor.scopeParts
open Go.ChangeShapes Go.WideShapes Go.ChangeAt Go.RowKit
open Go.ChangeMaps (open_string shut_string)
set_option linter.unusedVariables false
set_option linter.unusedSimpArgs false
theorem own : ownKnob Tryz.prog.godebug = none := by kernel_rfl
def argN : Value := .agg #[.int .u8 0, .int .i64 0, .string ⟨#[]⟩, .slice none 0 0, .slice none 0 0]
theorem reads (os : Os) {H : Type} (enc : TypeId × Value → H) : ∃ places, DataW.whole enc Tryz.prog ((World.laidAll Tryz.prog os Tr.listed).forCall (fun _ _ => 0) ⟨#[], #[argN, argN, .string ⟨#[]⟩], []⟩).memory Tryz.f4.params.toList Rows.scopePartsSpec.vars false #[argN, argN, .string ⟨#[]⟩].toList 8 = some ([.agg [.lit (.int .u8 0), .lit (.int .i64 0), .lit (.string []), .nil, .nil], .agg [.lit (.int .u8 0), .lit (.int .i64 0), .lit (.string []), .nil, .nil], .lit (.string [])], [], places) :=
  ⟨[], by kernel_rfl⟩
set_option maxRecDepth 100000 in
theorem lifted (os : Os) (started : os.Started) (H : Type) (enc : TypeId × Value → H) (F : Stop.Interp) :
    ReturnsInHanded {} Tryz.checked os 4 .any ((Rows.OpenSpec.upto Rows.scopePartsSpec).preRow enc Tryz.prog Tryz.f4 Rows.scopePartsUptoRow.domain false Rows.scopePartsUptoRow.laid) (((Rows.OpenSpec.upto Rows.scopePartsSpec).at F).post enc Tryz.prog Tryz.f4 false true false false) := by
  obtain ⟨places, hx⟩ := reads os enc
  refine returnsInHanded_of_row (C := Tryz.checked) (s := Rows.OpenSpec.upto Rows.scopePartsSpec) own started (by kernel_rfl) Tryz.func4
    (witness_row_atRef (enc := enc) (C := Tryz.checked) false (World.laidAll Tryz.prog os Tr.listed) #[argN, argN, .string ⟨#[]⟩] (World.laidAll_os _ _ _) (by kernel_rfl) (by kernel_rfl) (by kernel_rfl)
      (OpenSpec.preRow_of_cond 8 hx (by kernel_rfl) (fun k hk => by cases hk; kernel_rfl) (by kernel_rfl) (Tr.lies os _))) ?_
  intro W base args ds gs before hval0 hW _ hcond _ hL hsh _
  have hval : ∀ (j : Nat) t v, Tryz.f4.params[j]? = some t → args[j]? = some v → Value.okWide Tryz.prog W .any base t v := hval0
  have hW' := hW
  obtain ⟨p, q, hA0, hV, rfl, _, _⟩ := hW
  have hA : DataW.TrodAll enc Tryz.prog W 0 (fun _ => true) true Tryz.f4.params.toList args.toList ds p := hA0
  rw [Tryz.params4] at hA hval
  obtain ⟨v0, vs0, d0, ds0, p0, q0, hargs, rfl, rfl, h0, r0⟩ := trodAll_cons hA
  obtain ⟨v1, vs1, d1, ds1, p1, q1, rfl, rfl, rfl, h1, r1⟩ := trodAll_cons r0
  obtain ⟨v2, vs2, d2, ds2, p2, q2, rfl, rfl, rfl, h2, r2⟩ := trodAll_cons r1
  obtain ⟨rfl, rfl, rfl⟩ := trodAll_nil r2
  obtain rfl : args = #[v0, v1, v2] := by cases args; simp_all
  obtain ⟨rfl, rfl⟩ := trodVars_none hV
  obtain ⟨nd0, nv0, kv0, hv0, hin0, hwt0⟩ := Tr.open_arg (hval 0 25 v0 rfl rfl) h0
  have hlt0 : ∀ x ∈ p0, x.block < W.heap.size := fun x hx => DataW.TrodAll.lt hA0 x (by simp [hx])
  obtain ⟨nd1, nv1, kv1, hv1, hin1, hwt1⟩ := Tr.open_arg (hval 1 25 v1 rfl rfl) h1
  have hlt1 : ∀ x ∈ p1, x.block < W.heap.size := fun x hx => DataW.TrodAll.lt hA0 x (by simp [hx])
  obtain ⟨a2, rfl, rfl, rfl, wf2⟩ := open_string Tryz.underlying9 (hval 2 9 v2 rfl rfl) h2
  have hk : Rows.uptoSmall H ([d0, d1, .lit (.string a2.data.toList)] ++ []) = true := hcond _ rfl
  have hbulk : Rows.uptoBulkAll ([d0, d1, .lit (.string a2.data.toList)] ++ []) ≤ 1048576 := of_decide_eq_true hk
  simp only [List.append_nil, Rows.uptoBulkAll] at hbulk
  have hwt0' : Tr.wt nd0 ≤ 1048576 := by omega
  have hwt1' : Tr.wt nd1 ≤ 1048576 := by omega
  subst hv0
  subst hv1
  refine (Tr.scopeParts_calls nd0 nv0 kv0 nd1 nv1 kv1 a2 W hin0 hin1 hwt0' hwt1'  (Tr.listed_gm hL hsh)).mono fun e W' ⟨he, hch⟩ => ?_
  have bel : Below W.heap.size W W' := hch.toBelow (Nat.le_refl _) (fun _ _ e => e.elim)
  subst he
  exact ⟨_, rfl, _, _, _, [], _, [], hW', trodAll_mk1 (shut_bool Tryz.underlying4 _), (trodAll_cons_mk (Tr.arg_again Tr.recN Tr.rowN bel h0 hlt0) (trodAll_cons_mk (Tr.arg_again Tr.recN Tr.rowN bel h1 hlt1) (trodAll_cons_mk (shut_string Tryz.underlying9 wf2) trodAll_mk0))), rfl, bel.frame _, fun h => by cases h⟩
theorem over : Rows.ScopePartsUptoSaid :=
  OpenClaim.holds_of_cond 4 Tryz.f4 rfl rfl rfl rfl rfl rfl rfl ⟨rfl, rfl, rfl, rfl, rfl⟩ rfl rfl rfl rfl rfl (by kernel_rfl) Tryz.func4 (by kernel_rfl)
    (of_decide_eq_true (by kernel_rfl)) (by unfold Func.isWrapper; first | (rw [if_pos (by decide +kernel)]; kernel_rfl) | (rw [if_neg (by decide +kernel)]; exact ⟨rfl, rfl⟩))
    (fun os started H enc _ F => by rw [OpenClaim.pre_eq_preRow]; exact lifted os started H enc F)
end Go.Proofs.YtaklmocjaokkpaaGreatDoor.scopeParts
namespace Go.Proofs.YtaklmocjaokkpaaGreatDoor
/-- The tied card. -/
theorem scopeParts_card : Rows.ScopePartsUptoCardSaid :=
  Claim7.holds_tied_plain_at .later [] _ _ _ _
    scopeParts.over (fun _ h => by cases h) (by kernel_rfl) (fun _ h => by cases h) scopePartsUpto_row_tie rfl ⟨rfl, rfl⟩ (by kernel_rfl) rfl
    (fun f fn hf hfn => by
      obtain rfl : f = 4 := Option.some.inj ((show Tryz.prog.funcNamed "sacristan/sacristanlaw07.ScopeParts" = some 4 by kernel_rfl).symm.trans hf) |>.symm
      obtain rfl : fn = Tryz.f4 := (Option.some.inj (Tryz.func4.symm.trans hfn)).symm
      exact ⟨by kernel_rfl, fun j t ht => by
        rw [Tryz.params4] at ht
        have hm : t ∈ [25, 25, 9] := by simpa using Array.mem_of_getElem? ht
        have hall : ([25, 25, 9].all fun u => !Tryz.prog.wantsStandIn u) = true := by kernel_rfl
        exact (show Tryz.prog.wantsStandIn t = false by simpa using List.all_eq_true.1 hall t hm)⟩)
    (by kernel_rfl)
end Go.Proofs.YtaklmocjaokkpaaGreatDoor
