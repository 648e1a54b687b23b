/- Functions that the law FnRatios reaches, walked: each Go function comes to the answers of the Lean function beside it. Conditions: none of its own. Written by programs. -/
import Derived.Test.YtneiadniopmcnaaProg
import Derived.Below
import Derived.Deep.Draws
import Derived.Deep.AppendLies
import Derived.Maps.AppendAt
import Derived.OwnWalk
import Derived.Laws.BytesArg
import Derived.Laws.MakeOwn
import Derived.Laws.OwnMore
import Derived.Deep.OwnRows
import Derived.Tactics
import Derived.Lib.ConvBytes
import Derived.Laws.Slices
import Derived.WalkKit
import Derived.KernelRfl
import Derived.RowKit3
import Derived.Deep.LoopGhost
import Derived.Deep.QuietTactic
import Derived.BigQuiet
import Derived.WideLaws
import Derived.Deep.DeepCutAuto
import Derived.Deep.CutBlock
import Derived.Deep.RegionHeld3
import Derived.Laws.Rows
import Derived.Lib.AppendStr
import Derived.ArgAppend
import Derived.Laws.IdiomCopy
import Derived.OrdersHeld
import Derived.Laws.BitsLemmas
import Derived.RowKit
import Derived.Test.YtneiadniopmcnaaWWords
import Derived.Test.YtneiadniopmcnaaWLast
import Derived.Test.YtneiadniopmcnaaWTab
import Derived.Test.YtneiadniopmcnaaWFour
import Derived.Test.YtneiadniopmcnaaWQPut
import Derived.Test.YtneiadniopmcnaaWApart
import Derived.Test.YtneiadniopmcnaaWArr
import Derived.Test.YtneiadniopmcnaaWZeros
import Derived.Test.YtneiadniopmcnaaWFoot
import Derived.Test.YtneiadniopmcnaaWKept
import Derived.Test.YtneiadniopmcnaaWShare
import Derived.Test.YtneiadniopmcnaaWN
import Derived.Test.YtneiadniopmcnaaWFootNe
import Derived.Test.YtneiadniopmcnaaWAt
import Derived.Test.YtneiadniopmcnaaWEqStruct
import Derived.Test.YtneiadniopmcnaaWRepsOne
import Derived.Test.YtneiadniopmcnaaWInv
import Derived.Test.YtneiadniopmcnaaWInvWords
import Derived.Test.YtneiadniopmcnaaWGuard
import Derived.Test.YtneiadniopmcnaaWNEv
import Derived.Test.YtneiadniopmcnaaWMore
namespace Go.Proofs.Ytneiadniopmcnaa.PFnRatios
open Go.RowKit Go.Proofs.YtneiadniopmcnaaW.PrintWords Go.Proofs.YtneiadniopmcnaaW.PrintLast Go.Proofs.YtneiadniopmcnaaW.PrintMore
attribute [local go_sem] max2_int min2_int max_two min_two max_three min_three max_four min_four   -- for this text's walks alone
set_option linter.unusedVariables false
set_option linter.unusedSimpArgs false



def errW : Option Int → Value
  | none => .nilIface
  | some c => .iface 0 (.int .i64 c)
theorem errW_none : errW none = .nilIface := rfl
theorem errW_some (c : Int) : errW (some c) = .iface 0 (.int .i64 c) := rfl

theorem info3 : (Try.prog.info? 3).map (fun i => (i.zero, i.size, i.bytes)) = some (some (.int .i64 0), 1, 8) := by kernel_rfl
-- the values' own types

end Go.Proofs.Ytneiadniopmcnaa.PFnRatios
