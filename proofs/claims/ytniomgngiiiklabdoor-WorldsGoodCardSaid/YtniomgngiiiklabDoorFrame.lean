/- What every law's row of this seat needs besides its walk: two closed facts on the program. -/
import Derived.Test.YtniomgngiiiklabDoorRows
import Derived.Test.YtniomgngiiiklabDoorRep
import Derived.ProofKit
import Derived.OpenShut
import Derived.ShutString
import Derived.ChangeOld
import Derived.Deep.Slices
import Derived.Deep.Fields
import Derived.Lib.SmallJoins
import Derived.ChangeSame
namespace Go.Proofs.YtniomgngiiiklabDoor
theorem own : ownKnob Tryd.prog.godebug = none := by kernel_rfl
theorem laidOut : laidOutB Tryd.prog = true := by kernel_rfl
end Go.Proofs.YtniomgngiiiklabDoor
