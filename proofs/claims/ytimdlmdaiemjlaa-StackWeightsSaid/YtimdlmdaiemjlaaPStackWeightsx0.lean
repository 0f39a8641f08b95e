-- Written for this claim by a program (a turned copy of the print tool): Lean checks it.
import Derived.Test.YtimdlmdaiemjlaaProg
import Derived.Below
import Derived.Deep.Draws
import Derived.Deep.AppendLies
import Derived.Maps.AppendAt
import Derived.OwnWalk
import Derived.Laws.BytesArg
import Derived.Laws.MakeOwn
import Derived.Laws.OwnMore
import Derived.Deep.OwnRows
import Derived.Tactics
import Derived.Lib.ConvBytes
import Derived.Laws.Slices
import Derived.WalkKit
import Derived.KernelRfl
import Derived.RowKit3
import Derived.Deep.LoopGhost
import Derived.Deep.QuietTactic
import Derived.BigQuiet
import Derived.WideLaws
import Derived.Deep.DeepCutAuto
import Derived.Deep.CutBlock
import Derived.Deep.RegionHeld3
import Derived.Laws.Rows
import Derived.Lib.AppendStr
import Derived.ArgAppend
import Derived.Laws.IdiomCopy
import Derived.OrdersHeld
import Derived.Laws.BitsLemmas
import Derived.RowKit
import Derived.Test.YtimdlmdaiemjlaaWWords
import Derived.Test.YtimdlmdaiemjlaaWLast
import Derived.Test.YtimdlmdaiemjlaaWTab
import Derived.Test.YtimdlmdaiemjlaaWFour
import Derived.Test.YtimdlmdaiemjlaaWQPut
import Derived.Test.YtimdlmdaiemjlaaWApart
import Derived.Test.YtimdlmdaiemjlaaWArr
import Derived.Test.YtimdlmdaiemjlaaWZeros
import Derived.Test.YtimdlmdaiemjlaaWFoot
import Derived.Test.YtimdlmdaiemjlaaWKept
import Derived.Test.YtimdlmdaiemjlaaWShare
import Derived.Test.YtimdlmdaiemjlaaWN
import Derived.Test.YtimdlmdaiemjlaaWFootNe
import Derived.Test.YtimdlmdaiemjlaaWAt
import Derived.Test.YtimdlmdaiemjlaaWEqStruct
import Derived.Test.YtimdlmdaiemjlaaWRepsOne
import Derived.Test.YtimdlmdaiemjlaaWInv
import Derived.Test.YtimdlmdaiemjlaaWInvWords
import Derived.Test.YtimdlmdaiemjlaaWGuard
import Derived.Test.YtimdlmdaiemjlaaWNEv
import Derived.Test.YtimdlmdaiemjlaaWMore
namespace Go.Proofs.Ytimdlmdaiemjlaa.PStackWeights
open Go.RowKit Go.Proofs.YtimdlmdaiemjlaaW.PrintWords Go.Proofs.YtimdlmdaiemjlaaW.PrintLast Go.Proofs.YtimdlmdaiemjlaaW.PrintMore
attribute [local go_sem] max2_int min2_int max_two min_two max_three min_three max_four min_four   -- for this text's walks alone
set_option linter.unusedVariables false
set_option linter.unusedSimpArgs false



def errW : Option Int → Value
  | none => .nilIface
  | some c => .iface 0 (.int .i64 c)
theorem errW_none : errW none = .nilIface := rfl
theorem errW_some (c : Int) : errW (some c) = .iface 0 (.int .i64 c) := rfl

theorem info3 : (Try.prog.info? 3).map (fun i => (i.zero, i.size, i.bytes)) = some (some (.int .i64 0), 1, 8) := by kernel_rfl
-- the values' own types

end Go.Proofs.Ytimdlmdaiemjlaa.PStackWeights
