/- What every law's row of this seat needs besides its walk: two closed facts on the program. -/
import Derived.Test.YtniomgngiiiklaaRows
import Derived.Test.YtniomgngiiiklaaRep
import Derived.ProofKit
import Derived.OpenShut
import Derived.ShutString
import Derived.ChangeOld
import Derived.Deep.Slices
import Derived.Deep.Fields
import Derived.Lib.SmallJoins
import Derived.ChangeSame
namespace Go.Proofs.Ytniomgngiiiklaa
theorem own : ownKnob Try.prog.godebug = none := by kernel_rfl
theorem laidOut : laidOutB Try.prog = true := by kernel_rfl
end Go.Proofs.Ytniomgngiiiklaa
