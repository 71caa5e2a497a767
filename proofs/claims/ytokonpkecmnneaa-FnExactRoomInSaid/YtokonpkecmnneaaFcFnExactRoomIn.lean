/- The row's closed facts, one by one. -/
import Derived.Test.YtokonpkecmnneaaRows
import Derived.Test.YtokonpkecmnneaaFa
import Derived.Test.YtokonpkecmnneaaFb
namespace Go.Proofs.Ytokonpkecmnneaa.fnExactRoomIn
open Go.ChangeShapes Go.WideShapes Go.ChangeAt Go.RowKit
theorem z1 : (Rows.fnExactRoomInRow.inPlace == Try.checked.prog.inPlace 13) = true := by kernel_rfl
theorem z2 : (Rows.fnExactRoomInRow.unfollowed == Try.checked.prog.unfollowed 13) = true := by kernel_rfl
theorem z3 : (Rows.fnExactRoomInRow.recurses == Try.checked.prog.recurses 13) = true := by kernel_rfl
theorem z4 : (Rows.fnExactRoomInRow.named == Try.checked.prog.varsNamed 13) = true := by kernel_rfl
theorem closed : joinedFacts Try.checked.prog 13 Try.f13 Rows.fnExactRoomInSpec Rows.fnExactRoomInRow = true := by
  unfold joinedFacts
  rw [YtokonpkecmnneaaFa.may, z1, z2, z3, z4, YtokonpkecmnneaaFb.laid, YtokonpkecmnneaaFb.heard]
  kernel_rfl
end Go.Proofs.Ytokonpkecmnneaa.fnExactRoomIn
