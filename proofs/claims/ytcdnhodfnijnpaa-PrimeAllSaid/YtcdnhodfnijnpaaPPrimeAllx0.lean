-- PRINTED BY print.sh 35421559b90ae4d0a3588c463048766b98c2df88dd9212a6774a882060cdf62d: not written by this session
import Derived.Test.YtcdnhodfnijnpaaProg
import Derived.Below
import Derived.Deep.Draws
import Derived.Deep.AppendLies
import Derived.Maps.AppendAt
import Derived.OwnWalk
import Derived.Laws.BytesArg
import Derived.Laws.MakeOwn
import Derived.Laws.OwnMore
import Derived.Deep.OwnRows
import Derived.Tactics
import Derived.Lib.ConvBytes
import Derived.Laws.Slices
import Derived.WalkKit
import Derived.KernelRfl
import Derived.RowKit3
import Derived.Deep.LoopGhost
import Derived.Deep.QuietTactic
import Derived.BigQuiet
import Derived.WideLaws
import Derived.Deep.DeepCutAuto
import Derived.Deep.CutBlock
import Derived.Deep.RegionHeld3
import Derived.Laws.Rows
import Derived.Lib.AppendStr
import Derived.ArgAppend
import Derived.Laws.IdiomCopy
import Derived.OrdersHeld
import Derived.Laws.BitsLemmas
import Derived.RowKit
import Derived.Test.YtcdnhodfnijnpaaWWords
import Derived.Test.YtcdnhodfnijnpaaWLast
import Derived.Test.YtcdnhodfnijnpaaWTab
import Derived.Test.YtcdnhodfnijnpaaWFour
import Derived.Test.YtcdnhodfnijnpaaWQPut
import Derived.Test.YtcdnhodfnijnpaaWApart
import Derived.Test.YtcdnhodfnijnpaaWArr
import Derived.Test.YtcdnhodfnijnpaaWZeros
import Derived.Test.YtcdnhodfnijnpaaWFoot
import Derived.Test.YtcdnhodfnijnpaaWKept
import Derived.Test.YtcdnhodfnijnpaaWShare
import Derived.Test.YtcdnhodfnijnpaaWN
import Derived.Test.YtcdnhodfnijnpaaWFootNe
import Derived.Test.YtcdnhodfnijnpaaWAt
import Derived.Test.YtcdnhodfnijnpaaWEqStruct
import Derived.Test.YtcdnhodfnijnpaaWRepsOne
import Derived.Test.YtcdnhodfnijnpaaWInv
import Derived.Test.YtcdnhodfnijnpaaWInvWords
import Derived.Test.YtcdnhodfnijnpaaWGuard
import Derived.Test.YtcdnhodfnijnpaaWNEv
import Derived.Test.YtcdnhodfnijnpaaWMore
namespace Go.Proofs.Ytcdnhodfnijnpaa.PPrimeAll
open Go.RowKit Go.Proofs.YtcdnhodfnijnpaaW.PrintWords Go.Proofs.YtcdnhodfnijnpaaW.PrintLast Go.Proofs.YtcdnhodfnijnpaaW.PrintMore
attribute [local go_sem] max2_int min2_int max_two min_two max_three min_three max_four min_four   -- for this text's walks alone
set_option linter.unusedVariables false
set_option linter.unusedSimpArgs false



def errW : Option Int → Value
  | none => .nilIface
  | some c => .iface 0 (.int .i64 c)
theorem errW_none : errW none = .nilIface := rfl
theorem errW_some (c : Int) : errW (some c) = .iface 0 (.int .i64 c) := rfl

theorem info4 : (Try.prog.info? 4).map (fun i => (i.zero, i.size, i.bytes)) = some (some (.bool false), 1, 1) := by kernel_rfl
-- the values' own types

end Go.Proofs.Ytcdnhodfnijnpaa.PPrimeAll
