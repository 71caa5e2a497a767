/- A closed fact of the program, by itself: beside others it takes too much memory. -/
import Derived.Test.YtbdkjkedjldheaaChecked
import Derived.WalkKit
import Derived.ProofKit
namespace Go.Proofs.YtbdkjkedjldheaaFa
theorem may : Try.checked.prog.mayEnter = true := by kernel_rfl
end Go.Proofs.YtbdkjkedjldheaaFa
