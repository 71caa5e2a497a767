/- The row's closed facts, one by one. -/
import Derived.Test.YtokonpkecmnneaaRows
import Derived.Test.YtokonpkecmnneaaFa
import Derived.Test.YtokonpkecmnneaaFb
namespace Go.Proofs.Ytokonpkecmnneaa.fnExactWearOfZone
open Go.ChangeShapes Go.WideShapes Go.ChangeAt Go.RowKit
theorem z1 : (Rows.fnExactWearOfZoneRow.inPlace == Try.checked.prog.inPlace 14) = true := by kernel_rfl
theorem z2 : (Rows.fnExactWearOfZoneRow.unfollowed == Try.checked.prog.unfollowed 14) = true := by kernel_rfl
theorem z3 : (Rows.fnExactWearOfZoneRow.recurses == Try.checked.prog.recurses 14) = true := by kernel_rfl
theorem z4 : (Rows.fnExactWearOfZoneRow.named == Try.checked.prog.varsNamed 14) = true := by kernel_rfl
theorem closed : joinedFacts Try.checked.prog 14 Try.f14 Rows.fnExactWearOfZoneSpec Rows.fnExactWearOfZoneRow = true := by
  unfold joinedFacts
  rw [YtokonpkecmnneaaFa.may, z1, z2, z3, z4, YtokonpkecmnneaaFb.laid, YtokonpkecmnneaaFb.heard]
  kernel_rfl
end Go.Proofs.Ytokonpkecmnneaa.fnExactWearOfZone
