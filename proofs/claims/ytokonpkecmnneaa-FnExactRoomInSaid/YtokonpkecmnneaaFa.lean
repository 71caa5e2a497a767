/- A closed fact of the program, by itself: beside others it takes too much memory. -/
import Derived.Test.YtokonpkecmnneaaChecked
import Derived.WalkKit
import Derived.ProofKit
namespace Go.Proofs.YtokonpkecmnneaaFa
theorem may : Try.checked.prog.mayEnter = true := by kernel_rfl
end Go.Proofs.YtokonpkecmnneaaFa
