-- PRINTED BY print.sh 35421559b90ae4d0a3588c463048766b98c2df88dd9212a6774a882060cdf62d: not written by this session
import Derived.Test.YtiflfafniciebaaProg
import Derived.Below
import Derived.Deep.Draws
import Derived.Deep.AppendLies
import Derived.Maps.AppendAt
import Derived.OwnWalk
import Derived.Laws.BytesArg
import Derived.Laws.MakeOwn
import Derived.Laws.OwnMore
import Derived.Deep.OwnRows
import Derived.Tactics
import Derived.Lib.ConvBytes
import Derived.Laws.Slices
import Derived.WalkKit
import Derived.KernelRfl
import Derived.RowKit3
import Derived.Deep.LoopGhost
import Derived.Deep.QuietTactic
import Derived.BigQuiet
import Derived.WideLaws
import Derived.Deep.DeepCutAuto
import Derived.Deep.CutBlock
import Derived.Deep.RegionHeld3
import Derived.Laws.Rows
import Derived.Lib.AppendStr
import Derived.ArgAppend
import Derived.Laws.IdiomCopy
import Derived.OrdersHeld
import Derived.Laws.BitsLemmas
import Derived.RowKit
import Derived.Test.YtiflfafniciebaaWWords
import Derived.Test.YtiflfafniciebaaWLast
import Derived.Test.YtiflfafniciebaaWTab
import Derived.Test.YtiflfafniciebaaWFour
import Derived.Test.YtiflfafniciebaaWQPut
import Derived.Test.YtiflfafniciebaaWApart
import Derived.Test.YtiflfafniciebaaWArr
import Derived.Test.YtiflfafniciebaaWZeros
import Derived.Test.YtiflfafniciebaaWFoot
import Derived.Test.YtiflfafniciebaaWKept
import Derived.Test.YtiflfafniciebaaWShare
import Derived.Test.YtiflfafniciebaaWN
import Derived.Test.YtiflfafniciebaaWFootNe
import Derived.Test.YtiflfafniciebaaWAt
import Derived.Test.YtiflfafniciebaaWEqStruct
import Derived.Test.YtiflfafniciebaaWRepsOne
import Derived.Test.YtiflfafniciebaaWInv
import Derived.Test.YtiflfafniciebaaWInvWords
import Derived.Test.YtiflfafniciebaaWGuard
import Derived.Test.YtiflfafniciebaaWNEv
import Derived.Test.YtiflfafniciebaaWMore
namespace Go.Proofs.Ytiflfafniciebaa.PFixedCuts
open Go.RowKit Go.Proofs.YtiflfafniciebaaW.PrintWords Go.Proofs.YtiflfafniciebaaW.PrintLast Go.Proofs.YtiflfafniciebaaW.PrintMore
attribute [local go_sem] max2_int min2_int max_two min_two max_three min_three max_four min_four   -- for this text's walks alone
set_option linter.unusedVariables false
set_option linter.unusedSimpArgs false



def errW : Option Int → Value
  | none => .nilIface
  | some c => .iface 0 (.int .i64 c)
theorem errW_none : errW none = .nilIface := rfl
theorem errW_some (c : Int) : errW (some c) = .iface 0 (.int .i64 c) := rfl

-- the values' own types

end Go.Proofs.Ytiflfafniciebaa.PFixedCuts
