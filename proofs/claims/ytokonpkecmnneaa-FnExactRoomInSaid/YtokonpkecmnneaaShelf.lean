/- Contracts of the library's functions at this program, laid by the shelf's own tool. -/
import Derived.Shelf.Small.Strs
import Derived.Shelf.Strings.Repeat
import Derived.Test.YtokonpkecmnneaaProg
namespace Go.Proofs
open Go.Shelf
def Try.lays106_ren : Go.Shelf.Ren := ⟨fun | 106 => 298 | 213 => 315 | 265 => 326 | n => n, fun | 9 => 9 | 3 => 3 | n => n, fun | n => n⟩
theorem Try.lays106 : Go.Proofs.Lays.n106 Try.prog Try.lays106_ren := {
  mixed := by kernel_rfl
  f106 := Try.func298.trans (congrArg some (by kernel_rfl))
  f213 := Try.func315.trans (congrArg some (by kernel_rfl))
  f265 := Try.func326.trans (congrArg some (by kernel_rfl))
  t3 := Try.underlying3
  a3 := Try.isAgg3
  z3 := Try.sizeOf3
  v3 := Try.zeroValue3
  t9 := Try.underlying9
  a9 := Try.isAgg9
  z9 := Try.sizeOf9
  v9 := Try.zeroValue9 }
open Go.RowKit in
theorem Try.strings_Compare (a b : ByteArray) (w : World) :
    Calls Try.prog 298 #[.string a, .string b] w fun e w' => e = .returned (.int .i64 (Lib.compareBytes a.data.toList b.data.toList)) ∧ w' = w := Any.strings_Compare Try.lays106 a b w
def Try.lays105_ren : Go.Shelf.Ren := ⟨fun | 105 => 311 | 212 => 285 | 99 => 321 | 165 => 322 | 166 => 323 | 170 => 324 | 169 => 325 | 263 => 312 | 264 => 313 | 206 => 328 | 240 => 329 | 241 => 330 | 276 => 331 | 277 => 332 | n => n, fun | 9 => 9 | 3 => 3 | 4 => 4 | 20 => 20 | 0 => 0 | 46 => 190 | 109 => 289 | 5 => 5 | 72 => 315 | 76 => 319 | 51 => 304 | 146 => 305 | 53 => 88 | 148 => 307 | 70 => 313 | 37 => 85 | 75 => 318 | 127 => 323 | 164 => 324 | 80 => 236 | n => n, fun | n => n⟩
theorem Try.lays105 : Go.Proofs.Lays.n105 Try.prog Try.lays105_ren := {
  mixed := by kernel_rfl
  f99 := Try.func321.trans (congrArg some (by kernel_rfl))
  f105 := Try.func311.trans (congrArg some (by kernel_rfl))
  f165 := Try.func322.trans (congrArg some (by kernel_rfl))
  f166 := Try.func323.trans (congrArg some (by kernel_rfl))
  f169 := Try.func325.trans (congrArg some (by kernel_rfl))
  f170 := Try.func324.trans (congrArg some (by kernel_rfl))
  f206 := Try.func328.trans (congrArg some (by kernel_rfl))
  f212 := Try.func285.trans (congrArg some (by kernel_rfl))
  f240 := Try.func329.trans (congrArg some (by kernel_rfl))
  f241 := Try.func330.trans (congrArg some (by kernel_rfl))
  f263 := Try.func312.trans (congrArg some (by kernel_rfl))
  f264 := Try.func313.trans (congrArg some (by kernel_rfl))
  f276 := Try.func331.trans (congrArg some (by kernel_rfl))
  f277 := Try.func332.trans (congrArg some (by kernel_rfl))
  t0 := Try.underlying0
  a0 := Try.isAgg0
  z0 := Try.sizeOf0
  v0 := Try.zeroValue0
  t3 := Try.underlying3
  a3 := Try.isAgg3
  z3 := Try.sizeOf3
  v3 := Try.zeroValue3
  t4 := Try.underlying4
  a4 := Try.isAgg4
  z4 := Try.sizeOf4
  v4 := Try.zeroValue4
  t5 := Try.underlying5
  a5 := Try.isAgg5
  z5 := Try.sizeOf5
  v5 := Try.zeroValue5
  t9 := Try.underlying9
  a9 := Try.isAgg9
  z9 := Try.sizeOf9
  v9 := Try.zeroValue9
  t20 := Try.underlying20
  a20 := Try.isAgg20
  z20 := Try.sizeOf20
  v20 := Try.zeroValue20
  t37 := Try.underlying85
  a37 := Try.isAgg85
  z37 := Try.sizeOf85
  v37 := Try.zeroValue85
  t46 := Try.underlying190
  a46 := Try.isAgg190
  z46 := Try.sizeOf190
  v46 := Try.zeroValue190
  t51 := Try.underlying304
  a51 := Try.isAgg304
  z51 := Try.sizeOf304
  v51 := Try.zeroValue304
  t53 := Try.underlying88
  a53 := Try.isAgg88
  z53 := Try.sizeOf88
  v53 := Try.zeroValue88
  t70 := Try.underlying313
  a70 := Try.isAgg313
  z70 := Try.sizeOf313
  v70 := Try.zeroValue313
  t72 := Try.underlying315
  a72 := Try.isAgg315
  z72 := Try.sizeOf315
  v72 := Try.zeroValue315
  t75 := Try.underlying318
  a75 := Try.isAgg318
  z75 := Try.sizeOf318
  v75 := Try.zeroValue318
  t76 := Try.underlying319
  a76 := Try.isAgg319
  z76 := Try.sizeOf319
  v76 := Try.zeroValue319
  t109 := Try.underlying289
  a109 := Try.isAgg289
  z109 := Try.sizeOf289
  v109 := Try.zeroValue289
  t127 := Try.underlying323
  a127 := Try.isAgg323
  z127 := Try.sizeOf323
  v127 := Try.zeroValue323
  t146 := Try.underlying305
  a146 := Try.isAgg305
  z146 := Try.sizeOf305
  v146 := Try.zeroValue305
  t148 := Try.underlying307
  a148 := Try.isAgg307
  z148 := Try.sizeOf307
  v148 := Try.zeroValue307
  t164 := Try.underlying324
  a164 := Try.isAgg324
  z164 := Try.sizeOf324
  v164 := Try.zeroValue324 }
theorem Try.Builder_Extra_105 : Builder.Extra Try.prog Try.lays105_ren := {
  sizeBuilder := by kernel_rfl
  liesBuilder := by kernel_rfl
  t5 := Try.underlying5
  a5 := Try.isAgg5
  z5 := Try.sizeOf5
  v5 := Try.zeroValue5
  infoByte := by kernel_rfl
  cellsByte := by kernel_rfl
  sizeByte := by kernel_rfl
  neB5 := by decide }
open Go.RowKit Go.Lib in
theorem Try.strings_Repeat (s : ByteArray) (c : Nat) (w : World) (hc : c ≤ 9223372036854775807) (hlen : s.size * c ≤ 140737488355328) :
    Calls Try.prog 311 #[.string s, .int .i64 c] w fun e w' => e = .returned (.string ⟨(Lib.repeatL s.data.toList c).toArray⟩) ∧ Below w.heap.size w w' := Any.strings_Repeat Try.lays105 Try.Builder_Extra_105 s c w hc hlen
end Go.Proofs
