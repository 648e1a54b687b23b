/- Functions that the law FnExactDeriveFromString reaches, walked: each Go function comes to the answers of the Lean function beside it. Conditions: none of its own. Written by programs. -/
import Derived.Test.YtdfjpnpkgigolaaProg
import Derived.Below
import Derived.Deep.Draws
import Derived.Deep.AppendLies
import Derived.Maps.AppendAt
import Derived.OwnWalk
import Derived.Laws.BytesArg
import Derived.Laws.MakeOwn
import Derived.Laws.OwnMore
import Derived.Deep.OwnRows
import Derived.Tactics
import Derived.Lib.ConvBytes
import Derived.Laws.Slices
import Derived.WalkKit
import Derived.KernelRfl
import Derived.RowKit3
import Derived.Deep.LoopGhost
import Derived.Deep.QuietTactic
import Derived.BigQuiet
import Derived.WideLaws
import Derived.Deep.DeepCutAuto
import Derived.Deep.CutBlock
import Derived.Deep.RegionHeld3
import Derived.Laws.Rows
import Derived.Lib.AppendStr
import Derived.ArgAppend
import Derived.Laws.IdiomCopy
import Derived.OrdersHeld
import Derived.Laws.BitsLemmas
import Derived.RowKit
import Derived.Test.YtdfjpnpkgigolaaWWords
import Derived.Test.YtdfjpnpkgigolaaWLast
import Derived.Test.YtdfjpnpkgigolaaWTab
import Derived.Test.YtdfjpnpkgigolaaWFour
import Derived.Test.YtdfjpnpkgigolaaWQPut
import Derived.Test.YtdfjpnpkgigolaaWApart
import Derived.Test.YtdfjpnpkgigolaaWArr
import Derived.Test.YtdfjpnpkgigolaaWZeros
import Derived.Test.YtdfjpnpkgigolaaWFoot
import Derived.Test.YtdfjpnpkgigolaaWKept
import Derived.Test.YtdfjpnpkgigolaaWShare
import Derived.Test.YtdfjpnpkgigolaaWN
import Derived.Test.YtdfjpnpkgigolaaWFootNe
import Derived.Test.YtdfjpnpkgigolaaWAt
import Derived.Test.YtdfjpnpkgigolaaWEqStruct
import Derived.Test.YtdfjpnpkgigolaaWRepsOne
import Derived.Test.YtdfjpnpkgigolaaWInv
import Derived.Test.YtdfjpnpkgigolaaWInvWords
import Derived.Test.YtdfjpnpkgigolaaWGuard
import Derived.Test.YtdfjpnpkgigolaaWNEv
import Derived.Test.YtdfjpnpkgigolaaWMore
namespace Go.Proofs.Ytdfjpnpkgigolaa.PFnExactDeriveFromString
open Go.RowKit Go.Proofs.YtdfjpnpkgigolaaW.PrintWords Go.Proofs.YtdfjpnpkgigolaaW.PrintLast Go.Proofs.YtdfjpnpkgigolaaW.PrintMore
attribute [local go_sem] max2_int min2_int max_two min_two max_three min_three max_four min_four   -- for this text's walks alone
set_option linter.unusedVariables false
set_option linter.unusedSimpArgs false



def errW : Option Int → Value
  | none => .nilIface
  | some c => .iface 0 (.int .i64 c)
theorem errW_none : errW none = .nilIface := rfl
theorem errW_some (c : Int) : errW (some c) = .iface 0 (.int .i64 c) := rfl

theorem info3 : (Try.prog.info? 3).map (fun i => (i.zero, i.size, i.bytes)) = some (some (.int .i64 0), 1, 8) := by kernel_rfl
theorem info5 : (Try.prog.info? 5).map (fun i => (i.zero, i.size, i.bytes)) = some (some (.int .u8 0), 1, 1) := by kernel_rfl
-- the values' own types

end Go.Proofs.Ytdfjpnpkgigolaa.PFnExactDeriveFromString
