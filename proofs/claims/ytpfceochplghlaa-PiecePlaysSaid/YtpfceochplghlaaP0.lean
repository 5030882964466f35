/- Two closed facts of the program. -/
import Derived.Test.YtpfceochplghlaaC
import Derived.Test.YtpfceochplghlaaFrame
namespace Go.Proofs.Ytpfceochplghlaa
theorem Try.own : ownKnob Try.prog.godebug = none := by kernel_rfl
theorem cells21 : Try.prog.cellsOf 21 = 1 := by kernel_rfl
theorem bytes21 : Try.prog.bytesOf 21 = 4 := by kernel_rfl
theorem Try.laidOut : laidOutB Try.prog = true := by kernel_rfl
end Go.Proofs.Ytpfceochplghlaa
