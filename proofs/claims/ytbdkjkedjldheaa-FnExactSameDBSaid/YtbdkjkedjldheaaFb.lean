/- Two closed facts of the program. -/
import Derived.Test.YtbdkjkedjldheaaChecked
import Derived.WalkKit
import Derived.ProofKit
namespace Go.Proofs.YtbdkjkedjldheaaFb
theorem laid : laidOutB Try.checked.prog = true := by kernel_rfl
theorem heard : Try.checked.prog.stopsHeard = true := by kernel_rfl
end Go.Proofs.YtbdkjkedjldheaaFb
