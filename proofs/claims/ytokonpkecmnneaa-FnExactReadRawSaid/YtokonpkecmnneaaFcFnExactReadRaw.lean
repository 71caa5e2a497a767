/- The row's closed facts, one by one. -/
import Derived.Test.YtokonpkecmnneaaRows
import Derived.Test.YtokonpkecmnneaaFa
import Derived.Test.YtokonpkecmnneaaFb
namespace Go.Proofs.Ytokonpkecmnneaa.fnExactReadRaw
open Go.ChangeShapes Go.WideShapes Go.ChangeAt Go.RowKit
theorem z1 : (Rows.fnExactReadRawRow.inPlace == Try.checked.prog.inPlace 4) = true := by kernel_rfl
theorem z2 : (Rows.fnExactReadRawRow.unfollowed == Try.checked.prog.unfollowed 4) = true := by kernel_rfl
theorem z3 : (Rows.fnExactReadRawRow.recurses == Try.checked.prog.recurses 4) = true := by kernel_rfl
theorem z4 : (Rows.fnExactReadRawRow.named == Try.checked.prog.varsNamed 4) = true := by kernel_rfl
theorem closed : joinedFacts Try.checked.prog 4 Try.f4 Rows.fnExactReadRawSpec Rows.fnExactReadRawRow = true := by
  unfold joinedFacts
  rw [YtokonpkecmnneaaFa.may, z1, z2, z3, z4, YtokonpkecmnneaaFb.laid, YtokonpkecmnneaaFb.heard]
  kernel_rfl
end Go.Proofs.Ytokonpkecmnneaa.fnExactReadRaw
