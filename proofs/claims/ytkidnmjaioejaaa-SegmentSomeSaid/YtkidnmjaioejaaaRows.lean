/-
  No cell of these rows narrows 'for every input' (looked for: loops, veiled, ifaces, maps, wideKeys, modest, calm, conditions, laid).
  DERIVED. THE GIVEN ROWS OF THIS SEAT. 10 by the template 'for every input the law returns true; each argument reads behind the call as it read before'; 0 by the template 'total and deterministic' (their statements: YtkidnmjaioejaaaTotals.lean).
  GIVEN WITH THE SEED: the statements are not yours to turn. If you find one false, say at which input.
  Laid BY PROGRAM, IN A SANDBOX (cutbox-rows.mjs): the forced cells as the released guide's own fill.sh prints them over the translation 9eedc291cf986566… (all of the seat's roots in one cut). By AI agents, Wed Nov 11 2026. No macro, syntax, notation, axiom, sorry.
-/
import Derived.Test.YtkidnmjaioejaaaChecked
import GoSem.Claim
import GoSem.ClaimJoined
import GoSem.ClaimMapViews
import Derived.JoinedTies
import Derived.KernelRfl
namespace Go.Proofs.Ytkidnmjaioejaaa
/- THE CELL 'sum', in the pinned program and in every row, IS THE sha256 OF THE DUMP (.gsa) THAT YtkidnmjaioejaaaProg.lean LOADS. Nothing in Lean hashes anything: it is a label: what it is worth is what the hold of that sum in a sandbox is worth. -/
noncomputable def Try.pinned : Pinned := { name := "ytkidnmjaioejaaa", sum := "9eedc291cf986566a639b888c03b1f34bb8e13470d93a5411d5f6a80d18ecd65", checked := Try.checked }
namespace Rows
def none {H : Type} : Left H := { results := [], args := [] }

/-- 'sacristanlaw24.BoundEnough': WHATEVER THE INPUT: true; the input reads as it did. -/
def boundEnoughSpec : ChangeSpec := { name := "boundEnough", fn := fun _ => fun
  | [d1, d2] => { results := [.lit (.bool true)], args := [d1, d2] }
  | _ => none }
def boundEnoughRow : OpenClaim := { program := "ytkidnmjaioejaaa", sum := "9eedc291cf986566a639b888c03b1f34bb8e13470d93a5411d5f6a80d18ecd65", func := "sacristan/sacristanlaw24.BoundEnough", spec := "boundEnough", plainKeys := false, apart := false }
def BoundEnoughSaid : Prop := boundEnoughRow.holds Try.pinned (OpenSpec.ofChange boundEnoughSpec)

/-- ITS FALSE NEIGHBOUR: 'it returns false'. Refute it at one input. -/
def boundEnoughWrong : ChangeSpec := { name := "boundEnough", fn := fun _ => fun
  | [d1, d2] => { results := [.lit (.bool false)], args := [d1, d2] }
  | _ => none }
def BoundEnoughWrongFalsely : Prop := boundEnoughRow.holds Try.pinned (OpenSpec.ofChange boundEnoughWrong)

/-- 'sacristanlaw24.BoundGrows': WHATEVER THE INPUT: true; the input reads as it did. -/
def boundGrowsSpec : ChangeSpec := { name := "boundGrows", fn := fun _ => fun
  | [d1, d2, d3, d4] => { results := [.lit (.bool true)], args := [d1, d2, d3, d4] }
  | _ => none }
def boundGrowsRow : OpenClaim := { program := "ytkidnmjaioejaaa", sum := "9eedc291cf986566a639b888c03b1f34bb8e13470d93a5411d5f6a80d18ecd65", func := "sacristan/sacristanlaw24.BoundGrows", spec := "boundGrows", plainKeys := false, apart := false }
def BoundGrowsSaid : Prop := boundGrowsRow.holds Try.pinned (OpenSpec.ofChange boundGrowsSpec)

/-- ITS FALSE NEIGHBOUR: 'it returns false'. Refute it at one input. -/
def boundGrowsWrong : ChangeSpec := { name := "boundGrows", fn := fun _ => fun
  | [d1, d2, d3, d4] => { results := [.lit (.bool false)], args := [d1, d2, d3, d4] }
  | _ => none }
def BoundGrowsWrongFalsely : Prop := boundGrowsRow.holds Try.pinned (OpenSpec.ofChange boundGrowsWrong)

/-- 'sacristanlaw21.CacheYoung': WHATEVER THE INPUT: true; the input reads as it did. -/
def cacheYoungSpec : ChangeSpec := { name := "cacheYoung", fn := fun _ => fun
  | [d1, d2, d3] => { results := [.lit (.bool true)], args := [d1, d2, d3] }
  | _ => none }
def cacheYoungRow : OpenClaim := { program := "ytkidnmjaioejaaa", sum := "9eedc291cf986566a639b888c03b1f34bb8e13470d93a5411d5f6a80d18ecd65", func := "sacristan/sacristanlaw21.CacheYoung", spec := "cacheYoung", unfollowed := true, recurses := true, plainKeys := false, apart := false }
def CacheYoungSaid : Prop := cacheYoungRow.holds Try.pinned (OpenSpec.ofChange cacheYoungSpec)

/-- ITS FALSE NEIGHBOUR: 'it returns false'. Refute it at one input. -/
def cacheYoungWrong : ChangeSpec := { name := "cacheYoung", fn := fun _ => fun
  | [d1, d2, d3] => { results := [.lit (.bool false)], args := [d1, d2, d3] }
  | _ => none }
def CacheYoungWrongFalsely : Prop := cacheYoungRow.holds Try.pinned (OpenSpec.ofChange cacheYoungWrong)

/-- 'sacristanlaw21.CachePlays': WHATEVER THE INPUT: true; the input reads as it did. -/
def cachePlaysSpec : ChangeSpec := { name := "cachePlays", fn := fun _ => fun
  | [d1, d2] => { results := [.lit (.bool true)], args := [d1, d2] }
  | _ => none }
def cachePlaysRow : OpenClaim := { program := "ytkidnmjaioejaaa", sum := "9eedc291cf986566a639b888c03b1f34bb8e13470d93a5411d5f6a80d18ecd65", func := "sacristan/sacristanlaw21.CachePlays", spec := "cachePlays", unfollowed := true, recurses := true, plainKeys := false, apart := false }
def CachePlaysSaid : Prop := cachePlaysRow.holds Try.pinned (OpenSpec.ofChange cachePlaysSpec)

/-- ITS FALSE NEIGHBOUR: 'it returns false'. Refute it at one input. -/
def cachePlaysWrong : ChangeSpec := { name := "cachePlays", fn := fun _ => fun
  | [d1, d2] => { results := [.lit (.bool false)], args := [d1, d2] }
  | _ => none }
def CachePlaysWrongFalsely : Prop := cachePlaysRow.holds Try.pinned (OpenSpec.ofChange cachePlaysWrong)

/-- 'sacristanlaw21.CacheFull': WHATEVER THE INPUT: true; the input reads as it did. -/
def cacheFullSpec : ChangeSpec := { name := "cacheFull", fn := fun _ => fun
  | [d1, d2] => { results := [.lit (.bool true)], args := [d1, d2] }
  | _ => none }
def cacheFullRow : OpenClaim := { program := "ytkidnmjaioejaaa", sum := "9eedc291cf986566a639b888c03b1f34bb8e13470d93a5411d5f6a80d18ecd65", func := "sacristan/sacristanlaw21.CacheFull", spec := "cacheFull", unfollowed := true, recurses := true, plainKeys := false, apart := false }
def CacheFullSaid : Prop := cacheFullRow.holds Try.pinned (OpenSpec.ofChange cacheFullSpec)

/-- ITS FALSE NEIGHBOUR: 'it returns false'. Refute it at one input. -/
def cacheFullWrong : ChangeSpec := { name := "cacheFull", fn := fun _ => fun
  | [d1, d2] => { results := [.lit (.bool false)], args := [d1, d2] }
  | _ => none }
def CacheFullWrongFalsely : Prop := cacheFullRow.holds Try.pinned (OpenSpec.ofChange cacheFullWrong)

/-- 'sacristanlaw13.SegmentPlays': WHATEVER THE INPUT: true; the input reads as it did. -/
def segmentPlaysSpec : ChangeSpec := { name := "segmentPlays", fn := fun _ => fun
  | [d] => { results := [.lit (.bool true)], args := [d] }
  | _ => none }
def segmentPlaysRow : OpenClaim := { program := "ytkidnmjaioejaaa", sum := "9eedc291cf986566a639b888c03b1f34bb8e13470d93a5411d5f6a80d18ecd65", func := "sacristan/sacristanlaw13.SegmentPlays", spec := "segmentPlays", unfollowed := true, recurses := true, plainKeys := false, apart := false }
def SegmentPlaysSaid : Prop := segmentPlaysRow.holds Try.pinned (OpenSpec.ofChange segmentPlaysSpec)

/-- ITS FALSE NEIGHBOUR: 'it returns false'. Refute it at one input. -/
def segmentPlaysWrong : ChangeSpec := { name := "segmentPlays", fn := fun _ => fun
  | [d] => { results := [.lit (.bool false)], args := [d] }
  | _ => none }
def SegmentPlaysWrongFalsely : Prop := segmentPlaysRow.holds Try.pinned (OpenSpec.ofChange segmentPlaysWrong)

/-- 'sacristanlaw13.SegmentBack': WHATEVER THE INPUT: true; the input reads as it did. -/
def segmentBackSpec : ChangeSpec := { name := "segmentBack", fn := fun _ => fun
  | [d1, d2] => { results := [.lit (.bool true)], args := [d1, d2] }
  | _ => none }
def segmentBackRow : OpenClaim := { program := "ytkidnmjaioejaaa", sum := "9eedc291cf986566a639b888c03b1f34bb8e13470d93a5411d5f6a80d18ecd65", func := "sacristan/sacristanlaw13.SegmentBack", spec := "segmentBack", unfollowed := true, recurses := true, plainKeys := false, apart := false }
def SegmentBackSaid : Prop := segmentBackRow.holds Try.pinned (OpenSpec.ofChange segmentBackSpec)

/-- ITS FALSE NEIGHBOUR: 'it returns false'. Refute it at one input. -/
def segmentBackWrong : ChangeSpec := { name := "segmentBack", fn := fun _ => fun
  | [d1, d2] => { results := [.lit (.bool false)], args := [d1, d2] }
  | _ => none }
def SegmentBackWrongFalsely : Prop := segmentBackRow.holds Try.pinned (OpenSpec.ofChange segmentBackWrong)

/-- 'sacristanlaw13.SegmentNil': WHATEVER THE INPUT: true; the input reads as it did. -/
def segmentNilSpec : ChangeSpec := { name := "segmentNil", fn := fun _ => fun
  | [d] => { results := [.lit (.bool true)], args := [d] }
  | _ => none }
def segmentNilRow : OpenClaim := { program := "ytkidnmjaioejaaa", sum := "9eedc291cf986566a639b888c03b1f34bb8e13470d93a5411d5f6a80d18ecd65", func := "sacristan/sacristanlaw13.SegmentNil", spec := "segmentNil", unfollowed := true, recurses := true, plainKeys := false, apart := false }
def SegmentNilSaid : Prop := segmentNilRow.holds Try.pinned (OpenSpec.ofChange segmentNilSpec)

/-- ITS FALSE NEIGHBOUR: 'it returns false'. Refute it at one input. -/
def segmentNilWrong : ChangeSpec := { name := "segmentNil", fn := fun _ => fun
  | [d] => { results := [.lit (.bool false)], args := [d] }
  | _ => none }
def SegmentNilWrongFalsely : Prop := segmentNilRow.holds Try.pinned (OpenSpec.ofChange segmentNilWrong)

/-- 'sacristanlaw13.SegmentOwn': WHATEVER THE INPUT: true; the input reads as it did. -/
def segmentOwnSpec : ChangeSpec := { name := "segmentOwn", fn := fun _ => fun
  | [d1, d2] => { results := [.lit (.bool true)], args := [d1, d2] }
  | _ => none }
def segmentOwnRow : OpenClaim := { program := "ytkidnmjaioejaaa", sum := "9eedc291cf986566a639b888c03b1f34bb8e13470d93a5411d5f6a80d18ecd65", func := "sacristan/sacristanlaw13.SegmentOwn", spec := "segmentOwn", unfollowed := true, recurses := true, plainKeys := false, apart := false }
def SegmentOwnSaid : Prop := segmentOwnRow.holds Try.pinned (OpenSpec.ofChange segmentOwnSpec)

/-- ITS FALSE NEIGHBOUR: 'it returns false'. Refute it at one input. -/
def segmentOwnWrong : ChangeSpec := { name := "segmentOwn", fn := fun _ => fun
  | [d1, d2] => { results := [.lit (.bool false)], args := [d1, d2] }
  | _ => none }
def SegmentOwnWrongFalsely : Prop := segmentOwnRow.holds Try.pinned (OpenSpec.ofChange segmentOwnWrong)

/-- 'sacristanlaw13.SegmentSome': WHATEVER THE INPUT: true; the input reads as it did. -/
def segmentSomeSpec : ChangeSpec := { name := "segmentSome", fn := fun _ => fun
  | [d1, d2, d3] => { results := [.lit (.bool true)], args := [d1, d2, d3] }
  | _ => none }
def segmentSomeRow : OpenClaim := { program := "ytkidnmjaioejaaa", sum := "9eedc291cf986566a639b888c03b1f34bb8e13470d93a5411d5f6a80d18ecd65", func := "sacristan/sacristanlaw13.SegmentSome", spec := "segmentSome", unfollowed := true, recurses := true, plainKeys := false, apart := false }
def SegmentSomeSaid : Prop := segmentSomeRow.holds Try.pinned (OpenSpec.ofChange segmentSomeSpec)

/-- ITS FALSE NEIGHBOUR: 'it returns false'. Refute it at one input. -/
def segmentSomeWrong : ChangeSpec := { name := "segmentSome", fn := fun _ => fun
  | [d1, d2, d3] => { results := [.lit (.bool false)], args := [d1, d2, d3] }
  | _ => none }
def SegmentSomeWrongFalsely : Prop := segmentSomeRow.holds Try.pinned (OpenSpec.ofChange segmentSomeWrong)

/- THE SECOND FORM. 'bulk': how many values and letters a reading holds, each counted each time it is reached (what is shared counts as often as it is met; a slice's spare places count too). A statement '..UptoSaid' is the law's where the arguments, and the package variables that the reading takes, are together of bulk at most 1048576: NARROWER than '..Said'. Prove '..Said' where nothing that the law and all that it calls make is longer than what came in: it says more and counts as full. Else prove '..UptoSaid'. A law counts once. -/
mutual
def uptoBulk {H : Type} : DataW H → Nat
  | .lit (.string bytes) => bytes.length + 1
  | .lit _ => 1
  | .nil => 1
  | .ptr d => uptoBulk d + 1
  | .slice elems spare => uptoBulkAll elems + uptoBulkAll spare + 1
  | .agg parts => uptoBulkAll parts + 1
  | .iface _ d => uptoBulk d + 1
  | .map entries => uptoBulkEntries entries + 1
  | .held _ => 1
def uptoBulkAll {H : Type} : List (DataW H) → Nat
  | [] => 0
  | d :: r => uptoBulk d + uptoBulkAll r
def uptoBulkEntries {H : Type} : List (Lit × DataW H) → Nat
  | [] => 0
  | x :: r => uptoBulkEntry x + uptoBulkEntries r
def uptoBulkEntry {H : Type} : Lit × DataW H → Nat
  | (.string bytes, d) => bytes.length + uptoBulk d + 1
  | (_, d) => uptoBulk d + 1
 end
def uptoSmall : (H : Type) → List (DataW H) → Bool := fun _ ds => decide (uptoBulkAll ds ≤ 1048576)
def OpenSpec.upto (s : _root_.Go.ChangeSpec) : _root_.Go.OpenSpec := { _root_.Go.OpenSpec.ofChange s with cond := some uptoSmall }

/-- 'sacristanlaw24.BoundEnough', WHERE WHAT IT READS IS OF BULK AT MOST 1048576: true; the input reads as it did. -/
def boundEnoughUptoRow : OpenClaim := { program := "ytkidnmjaioejaaa", sum := "9eedc291cf986566a639b888c03b1f34bb8e13470d93a5411d5f6a80d18ecd65", func := "sacristan/sacristanlaw24.BoundEnough", spec := "boundEnough", plainKeys := false, apart := false, narrowed := true }
def BoundEnoughUptoSaid : Prop := boundEnoughUptoRow.holds Try.pinned (OpenSpec.upto boundEnoughSpec)

/-- 'sacristanlaw24.BoundGrows', WHERE WHAT IT READS IS OF BULK AT MOST 1048576: true; the input reads as it did. -/
def boundGrowsUptoRow : OpenClaim := { program := "ytkidnmjaioejaaa", sum := "9eedc291cf986566a639b888c03b1f34bb8e13470d93a5411d5f6a80d18ecd65", func := "sacristan/sacristanlaw24.BoundGrows", spec := "boundGrows", plainKeys := false, apart := false, narrowed := true }
def BoundGrowsUptoSaid : Prop := boundGrowsUptoRow.holds Try.pinned (OpenSpec.upto boundGrowsSpec)

/-- 'sacristanlaw21.CacheYoung', WHERE WHAT IT READS IS OF BULK AT MOST 1048576: true; the input reads as it did. -/
def cacheYoungUptoRow : OpenClaim := { program := "ytkidnmjaioejaaa", sum := "9eedc291cf986566a639b888c03b1f34bb8e13470d93a5411d5f6a80d18ecd65", func := "sacristan/sacristanlaw21.CacheYoung", spec := "cacheYoung", unfollowed := true, recurses := true, plainKeys := false, apart := false, narrowed := true }
def CacheYoungUptoSaid : Prop := cacheYoungUptoRow.holds Try.pinned (OpenSpec.upto cacheYoungSpec)

/-- 'sacristanlaw21.CachePlays', WHERE WHAT IT READS IS OF BULK AT MOST 1048576: true; the input reads as it did. -/
def cachePlaysUptoRow : OpenClaim := { program := "ytkidnmjaioejaaa", sum := "9eedc291cf986566a639b888c03b1f34bb8e13470d93a5411d5f6a80d18ecd65", func := "sacristan/sacristanlaw21.CachePlays", spec := "cachePlays", unfollowed := true, recurses := true, plainKeys := false, apart := false, narrowed := true }
def CachePlaysUptoSaid : Prop := cachePlaysUptoRow.holds Try.pinned (OpenSpec.upto cachePlaysSpec)

/-- 'sacristanlaw21.CacheFull', WHERE WHAT IT READS IS OF BULK AT MOST 1048576: true; the input reads as it did. -/
def cacheFullUptoRow : OpenClaim := { program := "ytkidnmjaioejaaa", sum := "9eedc291cf986566a639b888c03b1f34bb8e13470d93a5411d5f6a80d18ecd65", func := "sacristan/sacristanlaw21.CacheFull", spec := "cacheFull", unfollowed := true, recurses := true, plainKeys := false, apart := false, narrowed := true }
def CacheFullUptoSaid : Prop := cacheFullUptoRow.holds Try.pinned (OpenSpec.upto cacheFullSpec)

/-- 'sacristanlaw13.SegmentPlays', WHERE WHAT IT READS IS OF BULK AT MOST 1048576: true; the input reads as it did. -/
def segmentPlaysUptoRow : OpenClaim := { program := "ytkidnmjaioejaaa", sum := "9eedc291cf986566a639b888c03b1f34bb8e13470d93a5411d5f6a80d18ecd65", func := "sacristan/sacristanlaw13.SegmentPlays", spec := "segmentPlays", unfollowed := true, recurses := true, plainKeys := false, apart := false, narrowed := true }
def SegmentPlaysUptoSaid : Prop := segmentPlaysUptoRow.holds Try.pinned (OpenSpec.upto segmentPlaysSpec)

/-- 'sacristanlaw13.SegmentBack', WHERE WHAT IT READS IS OF BULK AT MOST 1048576: true; the input reads as it did. -/
def segmentBackUptoRow : OpenClaim := { program := "ytkidnmjaioejaaa", sum := "9eedc291cf986566a639b888c03b1f34bb8e13470d93a5411d5f6a80d18ecd65", func := "sacristan/sacristanlaw13.SegmentBack", spec := "segmentBack", unfollowed := true, recurses := true, plainKeys := false, apart := false, narrowed := true }
def SegmentBackUptoSaid : Prop := segmentBackUptoRow.holds Try.pinned (OpenSpec.upto segmentBackSpec)

/-- 'sacristanlaw13.SegmentNil', WHERE WHAT IT READS IS OF BULK AT MOST 1048576: true; the input reads as it did. -/
def segmentNilUptoRow : OpenClaim := { program := "ytkidnmjaioejaaa", sum := "9eedc291cf986566a639b888c03b1f34bb8e13470d93a5411d5f6a80d18ecd65", func := "sacristan/sacristanlaw13.SegmentNil", spec := "segmentNil", unfollowed := true, recurses := true, plainKeys := false, apart := false, narrowed := true }
def SegmentNilUptoSaid : Prop := segmentNilUptoRow.holds Try.pinned (OpenSpec.upto segmentNilSpec)

/-- 'sacristanlaw13.SegmentOwn', WHERE WHAT IT READS IS OF BULK AT MOST 1048576: true; the input reads as it did. -/
def segmentOwnUptoRow : OpenClaim := { program := "ytkidnmjaioejaaa", sum := "9eedc291cf986566a639b888c03b1f34bb8e13470d93a5411d5f6a80d18ecd65", func := "sacristan/sacristanlaw13.SegmentOwn", spec := "segmentOwn", unfollowed := true, recurses := true, plainKeys := false, apart := false, narrowed := true }
def SegmentOwnUptoSaid : Prop := segmentOwnUptoRow.holds Try.pinned (OpenSpec.upto segmentOwnSpec)

/-- 'sacristanlaw13.SegmentSome', WHERE WHAT IT READS IS OF BULK AT MOST 1048576: true; the input reads as it did. -/
def segmentSomeUptoRow : OpenClaim := { program := "ytkidnmjaioejaaa", sum := "9eedc291cf986566a639b888c03b1f34bb8e13470d93a5411d5f6a80d18ecd65", func := "sacristan/sacristanlaw13.SegmentSome", spec := "segmentSome", unfollowed := true, recurses := true, plainKeys := false, apart := false, narrowed := true }
def SegmentSomeUptoSaid : Prop := segmentSomeUptoRow.holds Try.pinned (OpenSpec.upto segmentSomeSpec)

end Rows
end Go.Proofs.Ytkidnmjaioejaaa
