-- Written by wip/xprint.py, this session's own program over the kit's print.py. Lean checks it.
import Derived.Test.YtcmpmciadacapaaDoorProg
import Derived.Test.YtcmpmciadacapaaDoorExtB
import Derived.Test.YtcmpmciadacapaaDoorExtU
import Derived.Test.YtcmpmciadacapaaDoorPLeaf3
import Derived.Below
import Derived.Deep.Draws
import Derived.Deep.AppendLies
import Derived.Maps.AppendAt
import Derived.OwnWalk
import Derived.Laws.BytesArg
import Derived.Laws.MakeOwn
import Derived.Laws.OwnMore
import Derived.Deep.OwnRows
import Derived.Tactics
import Derived.Lib.ConvBytes
import Derived.Laws.Slices
import Derived.WalkKit
import Derived.KernelRfl
import Derived.RowKit3
import Derived.Deep.LoopGhost
import Derived.Deep.QuietTactic
import Derived.BigQuiet
import Derived.WideLaws
import Derived.Deep.DeepCutAuto
import Derived.Deep.CutBlock
import Derived.Deep.RegionHeld3
import Derived.Laws.Rows
import Derived.Lib.AppendStr
import Derived.ArgAppend
import Derived.Laws.IdiomCopy
import Derived.OrdersHeld
import Derived.Laws.BitsLemmas
import Derived.RowKit
import Derived.Test.YtcmpmciadacapaaDoorWWords
import Derived.Test.YtcmpmciadacapaaDoorWLast
import Derived.Test.YtcmpmciadacapaaDoorWTab
import Derived.Test.YtcmpmciadacapaaDoorWFour
import Derived.Test.YtcmpmciadacapaaDoorWQPut
import Derived.Test.YtcmpmciadacapaaDoorWApart
import Derived.Test.YtcmpmciadacapaaDoorWArr
import Derived.Test.YtcmpmciadacapaaDoorWZeros
import Derived.Test.YtcmpmciadacapaaDoorWFoot
import Derived.Test.YtcmpmciadacapaaDoorWKept
import Derived.Test.YtcmpmciadacapaaDoorWShare
import Derived.Test.YtcmpmciadacapaaDoorWN
import Derived.Test.YtcmpmciadacapaaDoorWFootNe
import Derived.Test.YtcmpmciadacapaaDoorWAt
import Derived.Test.YtcmpmciadacapaaDoorWEqStruct
import Derived.Test.YtcmpmciadacapaaDoorWRepsOne
import Derived.Test.YtcmpmciadacapaaDoorWInv
import Derived.Test.YtcmpmciadacapaaDoorWInvWords
import Derived.Test.YtcmpmciadacapaaDoorWGuard
import Derived.Test.YtcmpmciadacapaaDoorWNEv
import Derived.Test.YtcmpmciadacapaaDoorWMore
namespace Go.Proofs.YtcmpmciadacapaaDoor.PHeads
open Go.RowKit Go.Proofs.YtcmpmciadacapaaDoorW.PrintWords Go.Proofs.YtcmpmciadacapaaDoorW.PrintLast Go.Proofs.YtcmpmciadacapaaDoorW.PrintMore Go.Proofs.YtcmpmciadacapaaDoor.X Go.Proofs.YtcmpmciadacapaaDoor.PLeaf
attribute [local go_sem] max2_int min2_int max_two min_two max_three min_three max_four min_four   -- for this text's walks alone
set_option linter.unusedVariables false
set_option linter.unusedSimpArgs false



def errW : Option Int → Value
  | none => .nilIface
  | some c => .iface 0 (.int .i64 c)
theorem errW_none : errW none = .nilIface := rfl
theorem errW_some (c : Int) : errW (some c) = .iface 0 (.int .i64 c) := rfl

-- the values' own types

end Go.Proofs.YtcmpmciadacapaaDoor.PHeads
