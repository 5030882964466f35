/- Two closed facts of the program. -/
import Derived.Test.YtpfceochplghlaaC
import Derived.Test.YtpfceochplghlaaFrame
namespace Go.Proofs.Ytpfceochplghlaa
theorem Try.own : ownKnob Try.prog.godebug = none := by kernel_rfl
theorem Try.laidOut : laidOutB Try.prog = true := by kernel_rfl
end Go.Proofs.Ytpfceochplghlaa
