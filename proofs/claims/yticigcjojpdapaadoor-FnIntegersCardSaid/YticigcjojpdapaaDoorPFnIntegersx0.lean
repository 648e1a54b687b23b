/- Functions that the law FnIntegers reaches, walked: each Go function comes to the answers of the Lean function beside it. Conditions: none of its own. Written by programs. -/
import Derived.Test.YticigcjojpdapaaDoorProg
import Derived.Below
import Derived.Deep.Draws
import Derived.Deep.AppendLies
import Derived.Maps.AppendAt
import Derived.OwnWalk
import Derived.Laws.BytesArg
import Derived.Laws.MakeOwn
import Derived.Laws.OwnMore
import Derived.Deep.OwnRows
import Derived.Tactics
import Derived.Lib.ConvBytes
import Derived.Laws.Slices
import Derived.WalkKit
import Derived.KernelRfl
import Derived.RowKit3
import Derived.Deep.LoopGhost
import Derived.Deep.QuietTactic
import Derived.BigQuiet
import Derived.WideLaws
import Derived.Deep.DeepCutAuto
import Derived.Deep.CutBlock
import Derived.Deep.RegionHeld3
import Derived.Laws.Rows
import Derived.Lib.AppendStr
import Derived.ArgAppend
import Derived.Laws.IdiomCopy
import Derived.OrdersHeld
import Derived.Laws.BitsLemmas
import Derived.RowKit
import Derived.Test.YticigcjojpdapaaDoorWWords
import Derived.Test.YticigcjojpdapaaDoorWLast
import Derived.Test.YticigcjojpdapaaDoorWTab
import Derived.Test.YticigcjojpdapaaDoorWFour
import Derived.Test.YticigcjojpdapaaDoorWQPut
import Derived.Test.YticigcjojpdapaaDoorWApart
import Derived.Test.YticigcjojpdapaaDoorWArr
import Derived.Test.YticigcjojpdapaaDoorWZeros
import Derived.Test.YticigcjojpdapaaDoorWFoot
import Derived.Test.YticigcjojpdapaaDoorWKept
import Derived.Test.YticigcjojpdapaaDoorWShare
import Derived.Test.YticigcjojpdapaaDoorWN
import Derived.Test.YticigcjojpdapaaDoorWFootNe
import Derived.Test.YticigcjojpdapaaDoorWAt
import Derived.Test.YticigcjojpdapaaDoorWEqStruct
import Derived.Test.YticigcjojpdapaaDoorWRepsOne
import Derived.Test.YticigcjojpdapaaDoorWInv
import Derived.Test.YticigcjojpdapaaDoorWInvWords
import Derived.Test.YticigcjojpdapaaDoorWGuard
import Derived.Test.YticigcjojpdapaaDoorWNEv
import Derived.Test.YticigcjojpdapaaDoorWMore
namespace Go.Proofs.YticigcjojpdapaaDoor.PFnIntegers
open Go.RowKit Go.Proofs.YticigcjojpdapaaDoorW.PrintWords Go.Proofs.YticigcjojpdapaaDoorW.PrintLast Go.Proofs.YticigcjojpdapaaDoorW.PrintMore
attribute [local go_sem] max2_int min2_int max_two min_two max_three min_three max_four min_four   -- for this text's walks alone
set_option linter.unusedVariables false
set_option linter.unusedSimpArgs false



def errW : Option Int → Value
  | none => .nilIface
  | some c => .iface 0 (.int .i64 c)
theorem errW_none : errW none = .nilIface := rfl
theorem errW_some (c : Int) : errW (some c) = .iface 0 (.int .i64 c) := rfl

theorem info3 : (Tryd.prog.info? 3).map (fun i => (i.zero, i.size, i.bytes)) = some (some (.int .i64 0), 1, 8) := by kernel_rfl
theorem info5 : (Tryd.prog.info? 5).map (fun i => (i.zero, i.size, i.bytes)) = some (some (.int .u8 0), 1, 1) := by kernel_rfl
theorem info9 : (Tryd.prog.info? 9).map (fun i => (i.zero, i.size, i.bytes)) = some (some (.string ⟨#[]⟩), 1, 16) := by kernel_rfl
-- the values' own types

end Go.Proofs.YticigcjojpdapaaDoor.PFnIntegers
