/- Two closed facts of the program. -/
import Derived.Test.YtkibhinpbpgkeaaS
namespace Go.Proofs.Ytkibhinpbpgkeaa
theorem Try.own : ownKnob Try.prog.godebug = none := by kernel_rfl
theorem Try.laidOut : laidOutB Try.prog = true := by kernel_rfl
end Go.Proofs.Ytkibhinpbpgkeaa
