/- The row's closed facts, one by one. -/
import Derived.Test.YtbdkjkedjldheaaRows
import Derived.Test.YtbdkjkedjldheaaFa
import Derived.Test.YtbdkjkedjldheaaFb
namespace Go.Proofs.Ytbdkjkedjldheaa.fnExactSameDB
open Go.ChangeShapes Go.WideShapes Go.ChangeAt Go.RowKit
theorem z1 : (Rows.fnExactSameDBRow.inPlace == Try.checked.prog.inPlace 3) = true := by kernel_rfl
theorem z2 : (Rows.fnExactSameDBRow.unfollowed == Try.checked.prog.unfollowed 3) = true := by kernel_rfl
theorem z3 : (Rows.fnExactSameDBRow.recurses == Try.checked.prog.recurses 3) = true := by kernel_rfl
theorem z4 : (Rows.fnExactSameDBRow.named == Try.checked.prog.varsNamed 3) = true := by kernel_rfl
theorem closed : joinedFacts Try.checked.prog 3 Try.f3 Rows.fnExactSameDBSpec Rows.fnExactSameDBRow = true := by
  unfold joinedFacts
  rw [YtbdkjkedjldheaaFa.may, z1, z2, z3, z4, YtbdkjkedjldheaaFb.laid, YtbdkjkedjldheaaFb.heard]
  kernel_rfl
end Go.Proofs.Ytbdkjkedjldheaa.fnExactSameDB
