/-
  No cell of these rows narrows 'for every input' (looked for: loops, veiled, ifaces, maps, wideKeys, modest, calm, conditions, laid).
  DERIVED. THE GIVEN ROWS OF THIS SEAT. 7 by the template 'for every input the law returns true; each argument reads behind the call as it read before'; 0 by the template 'total and deterministic' (their statements: YtimdlmdaiemjlaaTotals.lean).
  GIVEN WITH THE SEED: the statements are not yours to turn. If you find one false, say at which input.
  Laid BY PROGRAM, IN A SANDBOX (cutbox-rows.mjs): the forced cells as the released guide's own fill.sh prints them over the translation 99a39e02970378f0… (all of the seat's roots in one cut). By AI agents, Wed Nov 11 2026. No macro, syntax, notation, axiom, sorry.
-/
import Derived.Test.YtimdlmdaiemjlaaChecked
import GoSem.Claim
import GoSem.ClaimJoined
import GoSem.ClaimMapViews
import Derived.JoinedTies
import Derived.KernelRfl
namespace Go.Proofs.Ytimdlmdaiemjlaa
/- THE CELL 'sum', in the pinned program and in every row, IS THE sha256 OF THE DUMP (.gsa) THAT YtimdlmdaiemjlaaProg.lean LOADS. Nothing in Lean hashes anything: it is a label: what it is worth is what the hold of that sum in a sandbox is worth. -/
noncomputable def Try.pinned : Pinned := { name := "ytimdlmdaiemjlaa", sum := "99a39e02970378f077094e788290fb752c9aa909c56751574f205630d42f951e", checked := Try.checked }
namespace Rows
def none {H : Type} : Left H := { results := [], args := [] }

/-- 'sawmilllaw32.StackPlaces': WHATEVER THE INPUT: true; the input reads as it did. -/
def stackPlacesSpec : ChangeSpec := { name := "stackPlaces", fn := fun _ => fun
  | [d1, d2] => { results := [.lit (.bool true)], args := [d1, d2] }
  | _ => none }
def stackPlacesRow : OpenClaim := { program := "ytimdlmdaiemjlaa", sum := "99a39e02970378f077094e788290fb752c9aa909c56751574f205630d42f951e", func := "sawmill/sawmilllaw32.StackPlaces", spec := "stackPlaces", named := ["math/bits.divideError", "math/bits.overflowError"], apart := false }
def StackPlacesSaid : Prop := stackPlacesRow.holds Try.pinned (OpenSpec.ofChange stackPlacesSpec)

/-- ITS FALSE NEIGHBOUR: 'it returns false'. Refute it at one input. -/
def stackPlacesWrong : ChangeSpec := { name := "stackPlaces", fn := fun _ => fun
  | [d1, d2] => { results := [.lit (.bool false)], args := [d1, d2] }
  | _ => none }
def StackPlacesWrongFalsely : Prop := stackPlacesRow.holds Try.pinned (OpenSpec.ofChange stackPlacesWrong)

/-- 'sawmilllaw32.StackSizes': WHATEVER THE INPUT: true; the input reads as it did. -/
def stackSizesSpec : ChangeSpec := { name := "stackSizes", fn := fun _ => fun
  | [d1, d2, d3] => { results := [.lit (.bool true)], args := [d1, d2, d3] }
  | _ => none }
def stackSizesRow : OpenClaim := { program := "ytimdlmdaiemjlaa", sum := "99a39e02970378f077094e788290fb752c9aa909c56751574f205630d42f951e", func := "sawmill/sawmilllaw32.StackSizes", spec := "stackSizes", named := ["math/bits.divideError", "math/bits.overflowError"], apart := false }
def StackSizesSaid : Prop := stackSizesRow.holds Try.pinned (OpenSpec.ofChange stackSizesSpec)

/-- ITS FALSE NEIGHBOUR: 'it returns false'. Refute it at one input. -/
def stackSizesWrong : ChangeSpec := { name := "stackSizes", fn := fun _ => fun
  | [d1, d2, d3] => { results := [.lit (.bool false)], args := [d1, d2, d3] }
  | _ => none }
def StackSizesWrongFalsely : Prop := stackSizesRow.holds Try.pinned (OpenSpec.ofChange stackSizesWrong)

/-- 'sawmilllaw32.StackWeights': WHATEVER THE INPUT: true; the input reads as it did. -/
def stackWeightsSpec : ChangeSpec := { name := "stackWeights", fn := fun _ => fun
  | [d1, d2, d3] => { results := [.lit (.bool true)], args := [d1, d2, d3] }
  | _ => none }
def stackWeightsRow : OpenClaim := { program := "ytimdlmdaiemjlaa", sum := "99a39e02970378f077094e788290fb752c9aa909c56751574f205630d42f951e", func := "sawmill/sawmilllaw32.StackWeights", spec := "stackWeights", named := ["math/bits.divideError", "math/bits.overflowError"], apart := false }
def StackWeightsSaid : Prop := stackWeightsRow.holds Try.pinned (OpenSpec.ofChange stackWeightsSpec)

/-- ITS FALSE NEIGHBOUR: 'it returns false'. Refute it at one input. -/
def stackWeightsWrong : ChangeSpec := { name := "stackWeights", fn := fun _ => fun
  | [d1, d2, d3] => { results := [.lit (.bool false)], args := [d1, d2, d3] }
  | _ => none }
def StackWeightsWrongFalsely : Prop := stackWeightsRow.holds Try.pinned (OpenSpec.ofChange stackWeightsWrong)

/-- 'sawmilllaw32.StackSplits': WHATEVER THE INPUT: true; the input reads as it did. -/
def stackSplitsSpec : ChangeSpec := { name := "stackSplits", fn := fun _ => fun
  | [d1, d2] => { results := [.lit (.bool true)], args := [d1, d2] }
  | _ => none }
def stackSplitsRow : OpenClaim := { program := "ytimdlmdaiemjlaa", sum := "99a39e02970378f077094e788290fb752c9aa909c56751574f205630d42f951e", func := "sawmill/sawmilllaw32.StackSplits", spec := "stackSplits", named := ["math/bits.divideError", "math/bits.overflowError"], apart := false }
def StackSplitsSaid : Prop := stackSplitsRow.holds Try.pinned (OpenSpec.ofChange stackSplitsSpec)

/-- ITS FALSE NEIGHBOUR: 'it returns false'. Refute it at one input. -/
def stackSplitsWrong : ChangeSpec := { name := "stackSplits", fn := fun _ => fun
  | [d1, d2] => { results := [.lit (.bool false)], args := [d1, d2] }
  | _ => none }
def StackSplitsWrongFalsely : Prop := stackSplitsRow.holds Try.pinned (OpenSpec.ofChange stackSplitsWrong)

/-- 'sawmilllaw32.StackKeeps': WHATEVER THE INPUT: true; the input reads as it did. -/
def stackKeepsSpec : ChangeSpec := { name := "stackKeeps", fn := fun _ => fun
  | [d1, d2] => { results := [.lit (.bool true)], args := [d1, d2] }
  | _ => none }
def stackKeepsRow : OpenClaim := { program := "ytimdlmdaiemjlaa", sum := "99a39e02970378f077094e788290fb752c9aa909c56751574f205630d42f951e", func := "sawmill/sawmilllaw32.StackKeeps", spec := "stackKeeps", named := ["math/bits.divideError", "math/bits.overflowError"], apart := false }
def StackKeepsSaid : Prop := stackKeepsRow.holds Try.pinned (OpenSpec.ofChange stackKeepsSpec)

/-- ITS FALSE NEIGHBOUR: 'it returns false'. Refute it at one input. -/
def stackKeepsWrong : ChangeSpec := { name := "stackKeeps", fn := fun _ => fun
  | [d1, d2] => { results := [.lit (.bool false)], args := [d1, d2] }
  | _ => none }
def StackKeepsWrongFalsely : Prop := stackKeepsRow.holds Try.pinned (OpenSpec.ofChange stackKeepsWrong)

/-- 'sawmilllaw32.StackGrows': WHATEVER THE INPUT: true; the input reads as it did. -/
def stackGrowsSpec : ChangeSpec := { name := "stackGrows", fn := fun _ => fun
  | [d1, d2, d3] => { results := [.lit (.bool true)], args := [d1, d2, d3] }
  | _ => none }
def stackGrowsRow : OpenClaim := { program := "ytimdlmdaiemjlaa", sum := "99a39e02970378f077094e788290fb752c9aa909c56751574f205630d42f951e", func := "sawmill/sawmilllaw32.StackGrows", spec := "stackGrows", named := ["math/bits.divideError", "math/bits.overflowError"], apart := false }
def StackGrowsSaid : Prop := stackGrowsRow.holds Try.pinned (OpenSpec.ofChange stackGrowsSpec)

/-- ITS FALSE NEIGHBOUR: 'it returns false'. Refute it at one input. -/
def stackGrowsWrong : ChangeSpec := { name := "stackGrows", fn := fun _ => fun
  | [d1, d2, d3] => { results := [.lit (.bool false)], args := [d1, d2, d3] }
  | _ => none }
def StackGrowsWrongFalsely : Prop := stackGrowsRow.holds Try.pinned (OpenSpec.ofChange stackGrowsWrong)

/-- 'sawmilllaw32.StackWeighs': WHATEVER THE INPUT: true; the input reads as it did. -/
def stackWeighsSpec : ChangeSpec := { name := "stackWeighs", fn := fun _ => fun
  | [d1, d2, d3] => { results := [.lit (.bool true)], args := [d1, d2, d3] }
  | _ => none }
def stackWeighsRow : OpenClaim := { program := "ytimdlmdaiemjlaa", sum := "99a39e02970378f077094e788290fb752c9aa909c56751574f205630d42f951e", func := "sawmill/sawmilllaw32.StackWeighs", spec := "stackWeighs", named := ["math/bits.divideError", "math/bits.overflowError"], apart := false }
def StackWeighsSaid : Prop := stackWeighsRow.holds Try.pinned (OpenSpec.ofChange stackWeighsSpec)

/-- ITS FALSE NEIGHBOUR: 'it returns false'. Refute it at one input. -/
def stackWeighsWrong : ChangeSpec := { name := "stackWeighs", fn := fun _ => fun
  | [d1, d2, d3] => { results := [.lit (.bool false)], args := [d1, d2, d3] }
  | _ => none }
def StackWeighsWrongFalsely : Prop := stackWeighsRow.holds Try.pinned (OpenSpec.ofChange stackWeighsWrong)

/- THE SECOND FORM. 'bulk': how many values and letters a reading holds, each counted each time it is reached (what is shared counts as often as it is met; a slice's spare places count too). A statement '..UptoSaid' is the law's where the arguments, and the package variables that the reading takes, are together of bulk at most 1048576: NARROWER than '..Said'. Prove '..Said' where nothing that the law and all that it calls make is longer than what came in: it says more and counts as full. Else prove '..UptoSaid'. A law counts once. -/
mutual
def uptoBulk {H : Type} : DataW H → Nat
  | .lit (.string bytes) => bytes.length + 1
  | .lit _ => 1
  | .nil => 1
  | .ptr d => uptoBulk d + 1
  | .slice elems spare => uptoBulkAll elems + uptoBulkAll spare + 1
  | .agg parts => uptoBulkAll parts + 1
  | .iface _ d => uptoBulk d + 1
  | .map entries => uptoBulkEntries entries + 1
  | .held _ => 1
def uptoBulkAll {H : Type} : List (DataW H) → Nat
  | [] => 0
  | d :: r => uptoBulk d + uptoBulkAll r
def uptoBulkEntries {H : Type} : List (Lit × DataW H) → Nat
  | [] => 0
  | x :: r => uptoBulkEntry x + uptoBulkEntries r
def uptoBulkEntry {H : Type} : Lit × DataW H → Nat
  | (.string bytes, d) => bytes.length + uptoBulk d + 1
  | (_, d) => uptoBulk d + 1
 end
def uptoSmall : (H : Type) → List (DataW H) → Bool := fun _ ds => decide (uptoBulkAll ds ≤ 1048576)
def OpenSpec.upto (s : _root_.Go.ChangeSpec) : _root_.Go.OpenSpec := { _root_.Go.OpenSpec.ofChange s with cond := some uptoSmall }

/-- 'sawmilllaw32.StackPlaces', WHERE WHAT IT READS IS OF BULK AT MOST 1048576: true; the input reads as it did. -/
def stackPlacesUptoRow : OpenClaim := { program := "ytimdlmdaiemjlaa", sum := "99a39e02970378f077094e788290fb752c9aa909c56751574f205630d42f951e", func := "sawmill/sawmilllaw32.StackPlaces", spec := "stackPlaces", named := ["math/bits.divideError", "math/bits.overflowError"], apart := false, narrowed := true }
def StackPlacesUptoSaid : Prop := stackPlacesUptoRow.holds Try.pinned (OpenSpec.upto stackPlacesSpec)

/-- 'sawmilllaw32.StackSizes', WHERE WHAT IT READS IS OF BULK AT MOST 1048576: true; the input reads as it did. -/
def stackSizesUptoRow : OpenClaim := { program := "ytimdlmdaiemjlaa", sum := "99a39e02970378f077094e788290fb752c9aa909c56751574f205630d42f951e", func := "sawmill/sawmilllaw32.StackSizes", spec := "stackSizes", named := ["math/bits.divideError", "math/bits.overflowError"], apart := false, narrowed := true }
def StackSizesUptoSaid : Prop := stackSizesUptoRow.holds Try.pinned (OpenSpec.upto stackSizesSpec)

/-- 'sawmilllaw32.StackWeights', WHERE WHAT IT READS IS OF BULK AT MOST 1048576: true; the input reads as it did. -/
def stackWeightsUptoRow : OpenClaim := { program := "ytimdlmdaiemjlaa", sum := "99a39e02970378f077094e788290fb752c9aa909c56751574f205630d42f951e", func := "sawmill/sawmilllaw32.StackWeights", spec := "stackWeights", named := ["math/bits.divideError", "math/bits.overflowError"], apart := false, narrowed := true }
def StackWeightsUptoSaid : Prop := stackWeightsUptoRow.holds Try.pinned (OpenSpec.upto stackWeightsSpec)

/-- 'sawmilllaw32.StackSplits', WHERE WHAT IT READS IS OF BULK AT MOST 1048576: true; the input reads as it did. -/
def stackSplitsUptoRow : OpenClaim := { program := "ytimdlmdaiemjlaa", sum := "99a39e02970378f077094e788290fb752c9aa909c56751574f205630d42f951e", func := "sawmill/sawmilllaw32.StackSplits", spec := "stackSplits", named := ["math/bits.divideError", "math/bits.overflowError"], apart := false, narrowed := true }
def StackSplitsUptoSaid : Prop := stackSplitsUptoRow.holds Try.pinned (OpenSpec.upto stackSplitsSpec)

/-- 'sawmilllaw32.StackKeeps', WHERE WHAT IT READS IS OF BULK AT MOST 1048576: true; the input reads as it did. -/
def stackKeepsUptoRow : OpenClaim := { program := "ytimdlmdaiemjlaa", sum := "99a39e02970378f077094e788290fb752c9aa909c56751574f205630d42f951e", func := "sawmill/sawmilllaw32.StackKeeps", spec := "stackKeeps", named := ["math/bits.divideError", "math/bits.overflowError"], apart := false, narrowed := true }
def StackKeepsUptoSaid : Prop := stackKeepsUptoRow.holds Try.pinned (OpenSpec.upto stackKeepsSpec)

/-- 'sawmilllaw32.StackGrows', WHERE WHAT IT READS IS OF BULK AT MOST 1048576: true; the input reads as it did. -/
def stackGrowsUptoRow : OpenClaim := { program := "ytimdlmdaiemjlaa", sum := "99a39e02970378f077094e788290fb752c9aa909c56751574f205630d42f951e", func := "sawmill/sawmilllaw32.StackGrows", spec := "stackGrows", named := ["math/bits.divideError", "math/bits.overflowError"], apart := false, narrowed := true }
def StackGrowsUptoSaid : Prop := stackGrowsUptoRow.holds Try.pinned (OpenSpec.upto stackGrowsSpec)

/-- 'sawmilllaw32.StackWeighs', WHERE WHAT IT READS IS OF BULK AT MOST 1048576: true; the input reads as it did. -/
def stackWeighsUptoRow : OpenClaim := { program := "ytimdlmdaiemjlaa", sum := "99a39e02970378f077094e788290fb752c9aa909c56751574f205630d42f951e", func := "sawmill/sawmilllaw32.StackWeighs", spec := "stackWeighs", named := ["math/bits.divideError", "math/bits.overflowError"], apart := false, narrowed := true }
def StackWeighsUptoSaid : Prop := stackWeighsUptoRow.holds Try.pinned (OpenSpec.upto stackWeighsSpec)

end Rows
end Go.Proofs.Ytimdlmdaiemjlaa
