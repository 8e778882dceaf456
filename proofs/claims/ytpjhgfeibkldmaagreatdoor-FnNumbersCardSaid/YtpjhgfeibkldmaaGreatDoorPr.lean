/- What the program's reference computes in texts of whole numbers, function by function: printed by the kit's print.sh, cut to what is used. Under no condition. -/
import Derived.Test.YtpjhgfeibkldmaaGreatDoorProg
import Derived.Below
import Derived.Deep.Draws
import Derived.Deep.AppendLies
import Derived.Maps.AppendAt
import Derived.OwnWalk
import Derived.Laws.BytesArg
import Derived.Laws.MakeOwn
import Derived.Laws.OwnMore
import Derived.Deep.OwnRows
import Derived.Tactics
import Derived.Lib.ConvBytes
import Derived.Laws.Slices
import Derived.WalkKit
import Derived.KernelRfl
import Derived.RowKit3
import Derived.Deep.LoopGhost
import Derived.Deep.QuietTactic
import Derived.BigQuiet
import Derived.WideLaws
import Derived.Deep.DeepCutAuto
import Derived.Deep.CutBlock
import Derived.Deep.RegionHeld3
import Derived.Laws.Rows
import Derived.Lib.AppendStr
import Derived.ArgAppend
import Derived.Laws.IdiomCopy
import Derived.OrdersHeld
import Derived.Laws.BitsLemmas
import Derived.RowKit
import Derived.Test.YtpjhgfeibkldmaaGreatDoorWWords
import Derived.Test.YtpjhgfeibkldmaaGreatDoorWLast
import Derived.Test.YtpjhgfeibkldmaaGreatDoorWQPut
import Derived.Test.YtpjhgfeibkldmaaGreatDoorWApart
import Derived.Test.YtpjhgfeibkldmaaGreatDoorWArr
import Derived.Test.YtpjhgfeibkldmaaGreatDoorWZeros
import Derived.Test.YtpjhgfeibkldmaaGreatDoorWFoot
import Derived.Test.YtpjhgfeibkldmaaGreatDoorWKept
import Derived.Test.YtpjhgfeibkldmaaGreatDoorWShare
import Derived.Test.YtpjhgfeibkldmaaGreatDoorWRepsOne
import Derived.Test.YtpjhgfeibkldmaaGreatDoorWN
import Derived.Test.YtpjhgfeibkldmaaGreatDoorWNEv
import Derived.Test.YtpjhgfeibkldmaaGreatDoorWMore
namespace Go.Proofs.YtpjhgfeibkldmaaGreatDoor.Pr
open Go.RowKit Go.Proofs.YtpjhgfeibkldmaaGreatDoorW.PrintWords Go.Proofs.YtpjhgfeibkldmaaGreatDoorW.PrintLast Go.Proofs.YtpjhgfeibkldmaaGreatDoorW.PrintMore
attribute [local go_sem] max2_int min2_int max_two min_two max_three min_three max_four min_four   -- for this text's walks alone
set_option linter.unusedVariables false
set_option linter.unusedSimpArgs false



theorem info2 : (Tryz.prog.info? 2).map (fun i => (i.zero, i.size, i.bytes)) = some (some (.int .i64 0), 1, 8) := by kernel_rfl
theorem info5 : (Tryz.prog.info? 5).map (fun i => (i.zero, i.size, i.bytes)) = some (some (.int .u8 0), 1, 1) := by kernel_rfl
theorem info9 : (Tryz.prog.info? 9).map (fun i => (i.zero, i.size, i.bytes)) = some (some (.string ⟨#[]⟩), 1, 16) := by kernel_rfl
-- the values' own types

end Go.Proofs.YtpjhgfeibkldmaaGreatDoor.Pr

