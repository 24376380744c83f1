-- PRINTED BY print.sh 35421559b90ae4d0a3588c463048766b98c2df88dd9212a6774a882060cdf62d: not written by this session
import Derived.Test.YtbgaflmnkjfdaaaProg
import Derived.Below
import Derived.Deep.Draws
import Derived.Deep.AppendLies
import Derived.Maps.AppendAt
import Derived.OwnWalk
import Derived.Laws.BytesArg
import Derived.Laws.MakeOwn
import Derived.Laws.OwnMore
import Derived.Deep.OwnRows
import Derived.Tactics
import Derived.Lib.ConvBytes
import Derived.Laws.Slices
import Derived.WalkKit
import Derived.KernelRfl
import Derived.RowKit3
import Derived.Deep.LoopGhost
import Derived.Deep.QuietTactic
import Derived.BigQuiet
import Derived.WideLaws
import Derived.Deep.DeepCutAuto
import Derived.Deep.CutBlock
import Derived.Deep.RegionHeld3
import Derived.Laws.Rows
import Derived.Lib.AppendStr
import Derived.ArgAppend
import Derived.Laws.IdiomCopy
import Derived.OrdersHeld
import Derived.Laws.BitsLemmas
import Derived.RowKit
import Derived.Test.YtbgaflmnkjfdaaaWWords
import Derived.Test.YtbgaflmnkjfdaaaWLast
import Derived.Test.YtbgaflmnkjfdaaaWTab
import Derived.Test.YtbgaflmnkjfdaaaWFour
import Derived.Test.YtbgaflmnkjfdaaaWQPut
import Derived.Test.YtbgaflmnkjfdaaaWApart
import Derived.Test.YtbgaflmnkjfdaaaWArr
import Derived.Test.YtbgaflmnkjfdaaaWZeros
import Derived.Test.YtbgaflmnkjfdaaaWFoot
import Derived.Test.YtbgaflmnkjfdaaaWKept
import Derived.Test.YtbgaflmnkjfdaaaWShare
import Derived.Test.YtbgaflmnkjfdaaaWN
import Derived.Test.YtbgaflmnkjfdaaaWFootNe
import Derived.Test.YtbgaflmnkjfdaaaWAt
import Derived.Test.YtbgaflmnkjfdaaaWEqStruct
import Derived.Test.YtbgaflmnkjfdaaaWRepsOne
import Derived.Test.YtbgaflmnkjfdaaaWInv
import Derived.Test.YtbgaflmnkjfdaaaWInvWords
import Derived.Test.YtbgaflmnkjfdaaaWGuard
import Derived.Test.YtbgaflmnkjfdaaaWNEv
import Derived.Test.YtbgaflmnkjfdaaaWMore
namespace Go.Proofs.Ytbgaflmnkjfdaaa.PFnExactRunsOf
open Go.RowKit Go.Proofs.YtbgaflmnkjfdaaaW.PrintWords Go.Proofs.YtbgaflmnkjfdaaaW.PrintLast Go.Proofs.YtbgaflmnkjfdaaaW.PrintMore
attribute [local go_sem] max2_int min2_int max_two min_two max_three min_three max_four min_four   -- for this text's walks alone
set_option linter.unusedVariables false
set_option linter.unusedSimpArgs false



def errW : Option Int → Value
  | none => .nilIface
  | some c => .iface 0 (.int .i64 c)
theorem errW_none : errW none = .nilIface := rfl
theorem errW_some (c : Int) : errW (some c) = .iface 0 (.int .i64 c) := rfl

theorem info5 : (Try.prog.info? 5).map (fun i => (i.zero, i.size, i.bytes)) = some (some (.int .u8 0), 1, 1) := by kernel_rfl
-- the values' own types

end Go.Proofs.Ytbgaflmnkjfdaaa.PFnExactRunsOf
