-- made by mp, a turned copy of the print: proofs of this session's
import Derived.Test.YtokonpkecmnneaaQFnExactRoomInx0
import Derived.Test.YtokonpkecmnneaaQFnExactRoomInx3
import Derived.Test.YtokonpkecmnneaaQFnExactRoomInx4
import Derived.Test.YtokonpkecmnneaaQFnExactRoomInx5
import Derived.Test.YtokonpkecmnneaaQFnExactRoomInx6
import Derived.Test.YtokonpkecmnneaaHk
namespace Go.Proofs.Ytokonpkecmnneaa.QFnExactRoomInx
open Go.RowKit Go.Proofs.YtokonpkecmnneaaW.PrintWords Go.Proofs.YtokonpkecmnneaaW.PrintLast Go.Proofs.YtokonpkecmnneaaW.PrintMore
open Go.Proofs.YtokonpkecmnneaaHw Go.Proofs.YtokonpkecmnneaaHo Go.Proofs.YtokonpkecmnneaaHm Go.Proofs.YtokonpkecmnneaaHk
attribute [local go_sem] binOp_leq_hw binOp_geq_hw binOp_gtr_hw
attribute [local go_sem] max2_int min2_int max_two min_two max_three min_three max_four min_four   -- for this text's walks alone
set_option linter.unusedVariables false
set_option linter.unusedSimpArgs false

/-! ### spec_ValidDevice: function 181 -/
mutual
def spec_ValidDevice.j0 : Nat → Bool → Int → Int → Int → List (S218) → Int → Int → Bool → Int → List (S276) → Option (Bool)
 | 0, _, _, _, _, _, _, _, _, _, _ => none
 | k + 1, x27, x147000, x147001, x147002, x147003, x147004, x147005, x147006, x147007, x147008 => if x27 = true then (some false) else (spec_ValidDevice.l0 k (([] : List Int)) 0 x147000 x147001 x147002 x147003 x147004 x147005 x147006 x147007 x147008)
def spec_ValidDevice.l0 : Nat → List Int → Int → Int → Int → Int → List (S218) → Int → Int → Bool → Int → List (S276) → Option (Bool)
 | 0, _, _, _, _, _, _, _, _, _, _, _ => none
 | k + 1, x3, x4, x147000, x147001, x147002, x147003, x147004, x147005, x147006, x147007, x147008 => if x4 < (x147008.length : Int) then (if 0 ≤ x4 then ((spec_l16Blocks.f k x147000 x147001 x147002 ((rd_T276 x147008 x4).f0) ((rd_T276 x147008 x4).f1) ((rd_T276 x147008 x4).f2) ((rd_T276 x147008 x4).f3) ((rd_T276 x147008 x4).f4) ((rd_T276 x147008 x4).f5)).bind fun t154 => (if t154 = true then ((spec_l16Counts.f k x147000 x147001 x147002 ((rd_T276 x147008 x4).f0) ((rd_T276 x147008 x4).f1) ((rd_T276 x147008 x4).f2) ((rd_T276 x147008 x4).f3) ((rd_T276 x147008 x4).f4) ((rd_T276 x147008 x4).f5)).bind fun t155 => (if t155 = true then ((spec_l16State.f k x147000 x147001 x147002 x147003 x147004 x147005 x147006 x147007 ((rd_T276 x147008 x4).f0) ((rd_T276 x147008 x4).f1) ((rd_T276 x147008 x4).f2) ((rd_T276 x147008 x4).f3) ((rd_T276 x147008 x4).f4) ((rd_T276 x147008 x4).f5)).bind fun t156 => (spec_ValidDevice.j2 k x3 x4 (!t156) x147000 x147001 x147002 x147003 x147004 x147005 x147006 x147007 x147008 ((rd_T276 x147008 x4).f0) ((rd_T276 x147008 x4).f1) ((rd_T276 x147008 x4).f2) ((rd_T276 x147008 x4).f3) ((rd_T276 x147008 x4).f4) ((rd_T276 x147008 x4).f5))) else (spec_ValidDevice.j2 k x3 x4 true x147000 x147001 x147002 x147003 x147004 x147005 x147006 x147007 x147008 ((rd_T276 x147008 x4).f0) ((rd_T276 x147008 x4).f1) ((rd_T276 x147008 x4).f2) ((rd_T276 x147008 x4).f3) ((rd_T276 x147008 x4).f4) ((rd_T276 x147008 x4).f5)))) else (spec_ValidDevice.j2 k x3 x4 true x147000 x147001 x147002 x147003 x147004 x147005 x147006 x147007 x147008 ((rd_T276 x147008 x4).f0) ((rd_T276 x147008 x4).f1) ((rd_T276 x147008 x4).f2) ((rd_T276 x147008 x4).f3) ((rd_T276 x147008 x4).f4) ((rd_T276 x147008 x4).f5)))) else (none)) else (some true)
def spec_ValidDevice.j2 : Nat → List Int → Int → Bool → Int → Int → Int → List (S218) → Int → Int → Bool → Int → List (S276) → Int → List Int → Int → Int → List Int → List ByteArray → Option (Bool)
 | 0, _, _, _, _, _, _, _, _, _, _, _, _, _, _, _, _, _, _ => none
 | k + 1, x3, x4, x61, x147000, x147001, x147002, x147003, x147004, x147005, x147006, x147007, x147008, x154000, x154001, x154002, x154003, x154004, x154005 => if x61 = true then (some false) else (spec_ValidDevice.l1 k x3 x4 0 x147000 x147001 x147002 x147003 x147004 x147005 x147006 x147007 x147008 x154000 x154001 x154002 x154003 x154004 x154005)
def spec_ValidDevice.l1 : Nat → List Int → Int → Int → Int → Int → Int → List (S218) → Int → Int → Bool → Int → List (S276) → Int → List Int → Int → Int → List Int → List ByteArray → Option (Bool)
 | 0, _, _, _, _, _, _, _, _, _, _, _, _, _, _, _, _, _, _ => none
 | k + 1, x3, x4, x6, x147000, x147001, x147002, x147003, x147004, x147005, x147006, x147007, x147008, x154000, x154001, x154002, x154003, x154004, x154005 => if x6 < (x154001.length : Int) then (if 0 ≤ x6 then ((spec_l00Has.f k x3 (rd x154001 x6)).bind fun t158 => (if t158 = true then (some false) else (if x3.length < 17592186044416 then (spec_ValidDevice.l1 k (x3 ++ [rd x154001 x6]) x4 (wrap64 (x6 + 1)) x147000 x147001 x147002 x147003 x147004 x147005 x147006 x147007 x147008 x154000 x154001 x154002 x154003 x154004 x154005) else (none)))) else (none)) else (spec_ValidDevice.l0 k x3 (wrap64 (x4 + 1)) x147000 x147001 x147002 x147003 x147004 x147005 x147006 x147007 x147008)
end
def spec_ValidDevice.f (k : Nat) (a0_0 : Int) (a0_1 : Int) (a0_2 : Int) (l0_3 : List (S218)) (a0_4 : Int) (a0_5 : Int) (a0_6 : Bool) (a0_7 : Int) (l0_8 : List (S276)) : Option (Bool) := (spec_ValidFlash.f k a0_0 a0_1 a0_2 l0_3 a0_4 a0_5 a0_6 a0_7).bind fun t147 => (if t147 = true then (if (l0_8.length : Int) < 1 then (spec_ValidDevice.j0 k true a0_0 a0_1 a0_2 l0_3 a0_4 a0_5 a0_6 a0_7 l0_8) else ((spec_l00Min.f 12 a0_1).bind fun t148 => (spec_ValidDevice.j0 k (decide ((l0_8.length : Int) > t148)) a0_0 a0_1 a0_2 l0_3 a0_4 a0_5 a0_6 a0_7 l0_8))) else (spec_ValidDevice.j0 k true a0_0 a0_1 a0_2 l0_3 a0_4 a0_5 a0_6 a0_7 l0_8))
theorem spec_ValidDevice.mono_l : ∀ k, (∀ y0 y1 y2 y3 y4 y5 y6 y7 y8 y9, LeO (spec_ValidDevice.j0 k y0 y1 y2 y3 y4 y5 y6 y7 y8 y9) (spec_ValidDevice.j0 (k + 1) y0 y1 y2 y3 y4 y5 y6 y7 y8 y9)) ∧ (∀ y0 y1 y2 y3 y4 y5 y6 y7 y8 y9 y10, LeO (spec_ValidDevice.l0 k y0 y1 y2 y3 y4 y5 y6 y7 y8 y9 y10) (spec_ValidDevice.l0 (k + 1) y0 y1 y2 y3 y4 y5 y6 y7 y8 y9 y10)) ∧ (∀ y0 y1 y2 y3 y4 y5 y6 y7 y8 y9 y10 y11 y12 y13 y14 y15 y16 y17, LeO (spec_ValidDevice.j2 k y0 y1 y2 y3 y4 y5 y6 y7 y8 y9 y10 y11 y12 y13 y14 y15 y16 y17) (spec_ValidDevice.j2 (k + 1) y0 y1 y2 y3 y4 y5 y6 y7 y8 y9 y10 y11 y12 y13 y14 y15 y16 y17)) ∧ (∀ y0 y1 y2 y3 y4 y5 y6 y7 y8 y9 y10 y11 y12 y13 y14 y15 y16 y17, LeO (spec_ValidDevice.l1 k y0 y1 y2 y3 y4 y5 y6 y7 y8 y9 y10 y11 y12 y13 y14 y15 y16 y17) (spec_ValidDevice.l1 (k + 1) y0 y1 y2 y3 y4 y5 y6 y7 y8 y9 y10 y11 y12 y13 y14 y15 y16 y17))
 | 0 => ⟨fun _ _ _ _ _ _ _ _ _ _ r h => by simp [spec_ValidDevice.j0] at h, fun _ _ _ _ _ _ _ _ _ _ _ r h => by simp [spec_ValidDevice.l0] at h, fun _ _ _ _ _ _ _ _ _ _ _ _ _ _ _ _ _ _ r h => by simp [spec_ValidDevice.j2] at h, fun _ _ _ _ _ _ _ _ _ _ _ _ _ _ _ _ _ _ r h => by simp [spec_ValidDevice.l1] at h⟩
 | k + 1 => by
  obtain ⟨ih0, ih1, ih2, ih3⟩ := spec_ValidDevice.mono_l k
  refine ⟨?_, ?_, ?_, ?_⟩
  ·intro y0 y1 y2 y3 y4 y5 y6 y7 y8 y9
   unfold spec_ValidDevice.j0
   repeat' first
   | (with_reducible exact ih0 _ _ _ _ _ _ _ _ _ _)
   | (with_reducible exact ih1 _ _ _ _ _ _ _ _ _ _ _)
   | (with_reducible exact ih2 _ _ _ _ _ _ _ _ _ _ _ _ _ _ _ _ _ _)
   | (with_reducible exact ih3 _ _ _ _ _ _ _ _ _ _ _ _ _ _ _ _ _ _)
   | (with_reducible exact spec_ValidFlash.mono _ _ _ _ _ _ _ _ _)
   | (with_reducible exact spec_l00Has.mono _ _ _)
   | (with_reducible exact spec_l16Blocks.mono _ _ _ _ _ _ _ _ _ _)
   | (with_reducible exact spec_l16Counts.mono _ _ _ _ _ _ _ _ _ _)
   | (with_reducible exact spec_l16State.mono _ _ _ _ _ _ _ _ _ _ _ _ _ _ _)
   | (with_reducible exact LeO.refl _)
   | (with_reducible exact LeO.none _)
   | (with_reducible refine LeO.ite ?_ ?_)
   | (with_reducible refine LeO.bind ?_ (fun _ => ?_))
   | exact ih0 _ _ _ _ _ _ _ _ _ _
   | exact ih1 _ _ _ _ _ _ _ _ _ _ _
   | exact ih2 _ _ _ _ _ _ _ _ _ _ _ _ _ _ _ _ _ _
   | exact ih3 _ _ _ _ _ _ _ _ _ _ _ _ _ _ _ _ _ _
   | exact spec_ValidFlash.mono _ _ _ _ _ _ _ _ _
   | exact spec_l00Has.mono _ _ _
   | exact spec_l16Blocks.mono _ _ _ _ _ _ _ _ _ _
   | exact spec_l16Counts.mono _ _ _ _ _ _ _ _ _ _
   | exact spec_l16State.mono _ _ _ _ _ _ _ _ _ _ _ _ _ _ _
   | exact LeO.none _
   | refine LeO.ite ?_ ?_
   | refine LeO.bind ?_ (fun _ => ?_)
  ·intro y0 y1 y2 y3 y4 y5 y6 y7 y8 y9 y10
   unfold spec_ValidDevice.l0
   repeat' first
   | (with_reducible exact ih0 _ _ _ _ _ _ _ _ _ _)
   | (with_reducible exact ih1 _ _ _ _ _ _ _ _ _ _ _)
   | (with_reducible exact ih2 _ _ _ _ _ _ _ _ _ _ _ _ _ _ _ _ _ _)
   | (with_reducible exact ih3 _ _ _ _ _ _ _ _ _ _ _ _ _ _ _ _ _ _)
   | (with_reducible exact spec_ValidFlash.mono _ _ _ _ _ _ _ _ _)
   | (with_reducible exact spec_l00Has.mono _ _ _)
   | (with_reducible exact spec_l16Blocks.mono _ _ _ _ _ _ _ _ _ _)
   | (with_reducible exact spec_l16Counts.mono _ _ _ _ _ _ _ _ _ _)
   | (with_reducible exact spec_l16State.mono _ _ _ _ _ _ _ _ _ _ _ _ _ _ _)
   | (with_reducible exact LeO.refl _)
   | (with_reducible exact LeO.none _)
   | (with_reducible refine LeO.ite ?_ ?_)
   | (with_reducible refine LeO.bind ?_ (fun _ => ?_))
   | exact ih0 _ _ _ _ _ _ _ _ _ _
   | exact ih1 _ _ _ _ _ _ _ _ _ _ _
   | exact ih2 _ _ _ _ _ _ _ _ _ _ _ _ _ _ _ _ _ _
   | exact ih3 _ _ _ _ _ _ _ _ _ _ _ _ _ _ _ _ _ _
   | exact spec_ValidFlash.mono _ _ _ _ _ _ _ _ _
   | exact spec_l00Has.mono _ _ _
   | exact spec_l16Blocks.mono _ _ _ _ _ _ _ _ _ _
   | exact spec_l16Counts.mono _ _ _ _ _ _ _ _ _ _
   | exact spec_l16State.mono _ _ _ _ _ _ _ _ _ _ _ _ _ _ _
   | exact LeO.none _
   | refine LeO.ite ?_ ?_
   | refine LeO.bind ?_ (fun _ => ?_)
  ·intro y0 y1 y2 y3 y4 y5 y6 y7 y8 y9 y10 y11 y12 y13 y14 y15 y16 y17
   unfold spec_ValidDevice.j2
   repeat' first
   | (with_reducible exact ih0 _ _ _ _ _ _ _ _ _ _)
   | (with_reducible exact ih1 _ _ _ _ _ _ _ _ _ _ _)
   | (with_reducible exact ih2 _ _ _ _ _ _ _ _ _ _ _ _ _ _ _ _ _ _)
   | (with_reducible exact ih3 _ _ _ _ _ _ _ _ _ _ _ _ _ _ _ _ _ _)
   | (with_reducible exact spec_ValidFlash.mono _ _ _ _ _ _ _ _ _)
   | (with_reducible exact spec_l00Has.mono _ _ _)
   | (with_reducible exact spec_l16Blocks.mono _ _ _ _ _ _ _ _ _ _)
   | (with_reducible exact spec_l16Counts.mono _ _ _ _ _ _ _ _ _ _)
   | (with_reducible exact spec_l16State.mono _ _ _ _ _ _ _ _ _ _ _ _ _ _ _)
   | (with_reducible exact LeO.refl _)
   | (with_reducible exact LeO.none _)
   | (with_reducible refine LeO.ite ?_ ?_)
   | (with_reducible refine LeO.bind ?_ (fun _ => ?_))
   | exact ih0 _ _ _ _ _ _ _ _ _ _
   | exact ih1 _ _ _ _ _ _ _ _ _ _ _
   | exact ih2 _ _ _ _ _ _ _ _ _ _ _ _ _ _ _ _ _ _
   | exact ih3 _ _ _ _ _ _ _ _ _ _ _ _ _ _ _ _ _ _
   | exact spec_ValidFlash.mono _ _ _ _ _ _ _ _ _
   | exact spec_l00Has.mono _ _ _
   | exact spec_l16Blocks.mono _ _ _ _ _ _ _ _ _ _
   | exact spec_l16Counts.mono _ _ _ _ _ _ _ _ _ _
   | exact spec_l16State.mono _ _ _ _ _ _ _ _ _ _ _ _ _ _ _
   | exact LeO.none _
   | refine LeO.ite ?_ ?_
   | refine LeO.bind ?_ (fun _ => ?_)
  ·intro y0 y1 y2 y3 y4 y5 y6 y7 y8 y9 y10 y11 y12 y13 y14 y15 y16 y17
   unfold spec_ValidDevice.l1
   repeat' first
   | (with_reducible exact ih0 _ _ _ _ _ _ _ _ _ _)
   | (with_reducible exact ih1 _ _ _ _ _ _ _ _ _ _ _)
   | (with_reducible exact ih2 _ _ _ _ _ _ _ _ _ _ _ _ _ _ _ _ _ _)
   | (with_reducible exact ih3 _ _ _ _ _ _ _ _ _ _ _ _ _ _ _ _ _ _)
   | (with_reducible exact spec_ValidFlash.mono _ _ _ _ _ _ _ _ _)
   | (with_reducible exact spec_l00Has.mono _ _ _)
   | (with_reducible exact spec_l16Blocks.mono _ _ _ _ _ _ _ _ _ _)
   | (with_reducible exact spec_l16Counts.mono _ _ _ _ _ _ _ _ _ _)
   | (with_reducible exact spec_l16State.mono _ _ _ _ _ _ _ _ _ _ _ _ _ _ _)
   | (with_reducible exact LeO.refl _)
   | (with_reducible exact LeO.none _)
   | (with_reducible refine LeO.ite ?_ ?_)
   | (with_reducible refine LeO.bind ?_ (fun _ => ?_))
   | exact ih0 _ _ _ _ _ _ _ _ _ _
   | exact ih1 _ _ _ _ _ _ _ _ _ _ _
   | exact ih2 _ _ _ _ _ _ _ _ _ _ _ _ _ _ _ _ _ _
   | exact ih3 _ _ _ _ _ _ _ _ _ _ _ _ _ _ _ _ _ _
   | exact spec_ValidFlash.mono _ _ _ _ _ _ _ _ _
   | exact spec_l00Has.mono _ _ _
   | exact spec_l16Blocks.mono _ _ _ _ _ _ _ _ _ _
   | exact spec_l16Counts.mono _ _ _ _ _ _ _ _ _ _
   | exact spec_l16State.mono _ _ _ _ _ _ _ _ _ _ _ _ _ _ _
   | exact LeO.none _
   | refine LeO.ite ?_ ?_
   | refine LeO.bind ?_ (fun _ => ?_)
theorem spec_ValidDevice.mono : ∀ a0 a1 a2 a3 a4 a5 a6 a7 a8 k, LeO (spec_ValidDevice.f k a0 a1 a2 a3 a4 a5 a6 a7 a8) (spec_ValidDevice.f (k + 1) a0 a1 a2 a3 a4 a5 a6 a7 a8) := by
 intro a0 a1 a2 a3 a4 a5 a6 a7 a8 k
 obtain ⟨ih0, ih1, ih2, ih3⟩ := spec_ValidDevice.mono_l k
 unfold spec_ValidDevice.f
 repeat' first
   | (with_reducible exact ih0 _ _ _ _ _ _ _ _ _ _)
   | (with_reducible exact ih1 _ _ _ _ _ _ _ _ _ _ _)
   | (with_reducible exact ih2 _ _ _ _ _ _ _ _ _ _ _ _ _ _ _ _ _ _)
   | (with_reducible exact ih3 _ _ _ _ _ _ _ _ _ _ _ _ _ _ _ _ _ _)
   | (with_reducible exact spec_ValidFlash.mono _ _ _ _ _ _ _ _ _)
   | (with_reducible exact spec_l00Has.mono _ _ _)
   | (with_reducible exact spec_l16Blocks.mono _ _ _ _ _ _ _ _ _ _)
   | (with_reducible exact spec_l16Counts.mono _ _ _ _ _ _ _ _ _ _)
   | (with_reducible exact spec_l16State.mono _ _ _ _ _ _ _ _ _ _ _ _ _ _ _)
   | (with_reducible exact LeO.refl _)
   | (with_reducible exact LeO.none _)
   | (with_reducible refine LeO.ite ?_ ?_)
   | (with_reducible refine LeO.bind ?_ (fun _ => ?_))
   | exact ih0 _ _ _ _ _ _ _ _ _ _
   | exact ih1 _ _ _ _ _ _ _ _ _ _ _
   | exact ih2 _ _ _ _ _ _ _ _ _ _ _ _ _ _ _ _ _ _
   | exact ih3 _ _ _ _ _ _ _ _ _ _ _ _ _ _ _ _ _ _
   | exact spec_ValidFlash.mono _ _ _ _ _ _ _ _ _
   | exact spec_l00Has.mono _ _ _
   | exact spec_l16Blocks.mono _ _ _ _ _ _ _ _ _ _
   | exact spec_l16Counts.mono _ _ _ _ _ _ _ _ _ _
   | exact spec_l16State.mono _ _ _ _ _ _ _ _ _ _ _ _ _ _ _
   | exact LeO.none _
   | refine LeO.ite ?_ ?_
   | refine LeO.bind ?_ (fun _ => ?_)
def spec_ValidDevice.T1 : Bool × List (List Nat × List Nat) := (true, [([], []), ([0], [0]), ([1], [1]), ([2], [2]), ([3, 2], [3]), ([4], [4]), ([5, 4], [4, 5]), ([6, 4], [4, 6]), ([7, 4], [4, 7]), ([4, 8], [4, 8]), ([9, 4], [9]), ([10], [10]), ([11, 10], [10, 11]), ([12, 10], [10, 12]), ([10], [10]), ([14, 10], [10, 14]), ([15, 10], [10, 15]), ([16, 10], [10, 16]), ([17, 10, 10], [10, 17]), ([13, 18, 10], [10, 13, 18]), ([10, 19], [10, 19])])
def spec_ValidDevice.B1 : List Nat := [0, 1, 3, 7, 15, 31, 63, 127, 255, 511, 1023, 2047, 4095, 8191, 2047, 18431, 51199, 116735, 247807, 524287, 1048575]
theorem spec_ValidDevice.tab1 : rtab .any (opsOf Try.f181 1) = spec_ValidDevice.T1 := by kernel_rfl
theorem spec_ValidDevice.bits1 : waitsOk spec_ValidDevice.T1.2 spec_ValidDevice.B1 = true := by kernel_rfl
set_option maxHeartbeats 8000000 in
set_option maxRecDepth 100000 in
theorem spec_ValidDevice.calls (k : Nat) (a0_0 : Int) (a0_1 : Int) (a0_2 : Int) (A0_3 : Option Addr) (c0_3 : Nat) (l0_3 : List (S218)) (a0_4 : Int) (a0_5 : Int) (a0_6 : Bool) (a0_7 : Int) (A0_8 : Option Addr) (c0_8 : Nat) (l0_8 : List (S276)) (r : Bool) (w : World) (hr0_3 : Kd.C k218 w A0_3 l0_3.length l0_3) (hc0_3 : l0_3.length ≤ c0_3) (hr0_8 : Kd.C k276 w A0_8 l0_8.length l0_8) (hc0_8 : l0_8.length ≤ c0_8) (h : spec_ValidDevice.f k a0_0 a0_1 a0_2 l0_3 a0_4 a0_5 a0_6 a0_7 l0_8 = some r) :
  Calls Try.prog 181 #[.agg #[.int .i64 a0_0, .int .i64 a0_1, .int .i64 a0_2, .slice A0_3 l0_3.length c0_3, .int .i64 a0_4, .int .i64 a0_5, .bool a0_6, .int .i64 a0_7, .slice A0_8 l0_8.length c0_8]] w fun e w' => e = .returned (.bool r) ∧ Below w.heap.size w w' := by
 have hu126 := Try.underlying126
 have hu45 := Try.underlying45
 have hu276 := Try.underlying276
 have hu42 := Try.underlying42
 have HR0_3 := Aside0.mk hr0_3
 have HC0_3 := Aside0.mk hc0_3
 clear hr0_3 hc0_3
 have HR0_8 := Aside0.mk hr0_8
 have HC0_8 := Aside0.mk hc0_8
 clear hr0_8 hc0_8
 have HB := Aside0.mk (Below.refl w.heap.size w)
 have H := h; unfold spec_ValidDevice.f at H
 clear h
 have HC2 := Aside0.mk H
 clear H
 go_enter Try.func181, Try.ntmps181
 go_upto_region 1 with (first | ((with_reducible refine gate_dst (N := 1) rfl ?_); (try (refine gate_guard (by rfl) ?_; dsimp only)); refine box_event ?hg (N := 1) ?hd (cs := #[.int .i64 a0_0, .int .i64 a0_1, .int .i64 a0_2, .slice A0_3 l0_3.length c0_3, .int .i64 a0_4, .int .i64 a0_5, .bool a0_6, .int .i64 a0_7, .slice A0_8 l0_8.length c0_8]) (t := 126) ?hr ?_; (case hd => rfl); (case hg => rfl); (case hr => first | (go_simp; done) | (go_simp; rfl)); intro gb146 hg w3 hbox hb; have BK146 := Aside0.mk (hbox); have GW146 := Aside0.mk ((by rw [hg]; exact (below_size (bw_ HB.out)) : w.heap.size ≤ gb146)); have GE146 := Nonempty.intro GW146.out; replace HB := Aside0.mk (below_step (bw_ HB.out) hb); clear hb hbox hg))
 (try simp only [Act.put, List.setIfInBounds_toArray, List.set_cons_zero, List.set_cons_succ])
 go_cut [27] (fun v27 wc => ∃ (kq : Nat) (x27_1 : Bool), v27 = .bool x27_1 ∧ Aside0 (spec_ValidDevice.j0 kq x27_1 a0_0 a0_1 a0_2 l0_3 a0_4 a0_5 a0_6 a0_7 l0_8 = some r) ∧ Aside0 (kq ≤ k) ∧ Aside0 (wc.heap[gb146]? = some (.cells #[.int .i64 a0_0, .int .i64 a0_1, .int .i64 a0_2, (.slice A0_3 l0_3.length c0_3), .int .i64 a0_4, .int .i64 a0_5, .bool a0_6, .int .i64 a0_7, (.slice A0_8 l0_8.length c0_8)] 126 (0, 0))) ∧ Aside0 (Below w.heap.size w wc))
 case first =>
  have H := HC2.out
  clear HC2
  replace H := Option.bind_eq_some_iff.mp H
  obtain ⟨t147, A40, H⟩ := H
  have A4 := Aside0.mk A40
  clear A40
  by_cases c5 : t147 = true
  ·subst c5
   rw [if_pos rfl] at H
   by_cases c6 : (l0_8.length : Int) < 1
   ·rw [if_pos c6] at H
    have c6b0 : decide ((l0_8.length : Int) < 1) = true := decide_eq_true c6
    have c6b1 : decide (l0_8.length < 1) = true := decide_eq_true (by omega)
    clear c6
    (first | rw [c6b0] | (simp only [i64_w, i32_w]; rw [c6b0]) | skip)
    have H' := Aside0.mk H
    clear H
    try go_wp2
    replace BK146 := Aside0.mk (blk_drew BK146.out)
    replace HB := Aside0.mk (below_drew1 HB.out)
    refine start_ (n := 21) (S := fun w' => w'.cell? ⟨gb146, 0, none⟩ = some (.int .i64 a0_0) ∧ w'.cell? ⟨gb146, 1, none⟩ = some (.int .i64 a0_1) ∧ w'.cell? ⟨gb146, 2, none⟩ = some (.int .i64 a0_2) ∧ w'.cell? ⟨gb146, 3, none⟩ = some (.slice A0_3 l0_3.length c0_3) ∧ w'.cell? ⟨gb146, 4, none⟩ = some (.int .i64 a0_4) ∧ w'.cell? ⟨gb146, 5, none⟩ = some (.int .i64 a0_5) ∧ w'.cell? ⟨gb146, 6, none⟩ = some (.bool a0_6) ∧ w'.cell? ⟨gb146, 7, none⟩ = some (.int .i64 a0_7) ∧ w'.cell? ⟨gb146, 8, none⟩ = some (.slice A0_8 l0_8.length c0_8)) (ds := []) (Array.replicate 21 false) (by kernel_rfl) rfl rfl ⟨(blk_cell BK146.out 0).trans rfl, (blk_cell BK146.out 1).trans rfl, (blk_cell BK146.out 2).trans rfl, (blk_cell BK146.out 3).trans rfl, (blk_cell BK146.out 4).trans rfl, (blk_cell BK146.out 5).trans rfl, (blk_cell BK146.out 6).trans rfl, (blk_cell BK146.out 7).trans rfl, (blk_cell BK146.out 8).trans rfl⟩ (fun hHeld => ?_); refine with_tabW spec_ValidDevice.tab1 spec_ValidDevice.bits1 (fun HT_ HW_ => ?_)
    generalize w3.drew = w7 at BK146 HB hHeld ⊢
    refine pu_ (v := ?_) (a' := ?_) 0 7 (bl_ 21 1) rfl rfl HT_.out (by kernel_rfl) (fun _ _ _ h => h) (.inl ⟨by rfl, ?_⟩) ?_ ?_
    rotate_left
    ·intro w'
     go_simp
     with_reducible rfl
    rotate_left
    ·simp only [Act.put, q1_, q2_, q3_, i64_w, i32_w]
     rfl
    refine tk_ (v := ?_) (a' := ?_) 1 8 (bl_ 21 3) rfl rfl HT_.out HW_.out (by kernel_rfl) (fun _ _ _ h => h) (.inl ⟨by rfl, ?_⟩) hHeld ?_ ?_
    rotate_left
    ·rintro w' ⟨s0, s1, s2, s3, s4, s5, s6, s7, s8⟩
     go_simp
     with_reducible rfl
    rotate_left
    ·simp only [Act.put, q1_, q2_, q3_, i64_w, i32_w]
     rfl
    refine one_ (i := 2) (N := some 9) (bl_ 21 7) rfl rfl (one_of HT_.out (by kernel_rfl)) (by decide) (fun K hK => ?_)
    refine goes_ Try.func92 (by kernel_rfl) rfl #[.agg #[.int .i64 a0_0, .int .i64 a0_1, .int .i64 a0_2, .slice A0_3 l0_3.length c0_3, .int .i64 a0_4, .int .i64 a0_5, .bool a0_6, .int .i64 a0_7]] (by rfl) rfl rfl (by (try simp only [List.map_toArray, List.map_cons, List.map_nil]); first | done | rfl | (simp only [List.length_drop, List.length_take]; rfl)) ?_
    with_reducible refine (spec_ValidFlash.calls k a0_0 a0_1 a0_2 _ _ l0_3 a0_4 a0_5 a0_6 a0_7 true _ ?side1 ?side2 A4.out).mono ?_
    (case side1 => exact Kd.C_below HR0_3.out (bw_ HB.out))
    (case side2 => exact HC0_3.out)
    rintro e w8 ⟨rfl, hb⟩
    refine ⟨_, rfl, ?_⟩
    replace BK146 := Aside0.mk (blk_below (bk_ BK146.out) hb)
    replace HB := Aside0.mk (below_step (bw_ HB.out) hb)
    refine hK.out _ _ ⟨(blk_cell BK146.out 0).trans rfl, (blk_cell BK146.out 1).trans rfl, (blk_cell BK146.out 2).trans rfl, (blk_cell BK146.out 3).trans rfl, (blk_cell BK146.out 4).trans rfl, (blk_cell BK146.out 5).trans rfl, (blk_cell BK146.out 6).trans rfl, (blk_cell BK146.out 7).trans rfl, (blk_cell BK146.out 8).trans rfl⟩ (fun hHeld => ?_)
    clear hK K
    refine norm_ (a' := ?_) ?_ ?_
    rotate_left
    ·show Act.put _ (some 9) _ = _
     simp only [Act.put, q1_, q2_, q3_, i64_w, i32_w]
     rfl
    refine pu_ (v := ?_) (a' := ?_) 3 10 (bl_ 21 15) rfl rfl HT_.out (by kernel_rfl) (fun _ _ _ h => h) (.inl ⟨by rfl, ?_⟩) ?_ ?_
    rotate_left
    ·intro w'
     go_simp
     with_reducible rfl
    rotate_left
    ·simp only [Act.put, q1_, q2_, q3_, i64_w, i32_w]
     rfl
    refine pu_ (v := ?_) (a' := ?_) 4 11 (bl_ 21 31) rfl rfl HT_.out (by kernel_rfl) (fun _ _ _ h => h) (.inl ⟨by rfl, ?_⟩) ?_ ?_
    rotate_left
    ·intro w'
     go_simp
     with_reducible rfl
    rotate_left
    ·simp only [Act.put, q1_, q2_, q3_, i64_w, i32_w]
     rfl
    refine pu_ (v := ?_) (a' := ?_) 5 12 (bl_ 21 63) rfl rfl HT_.out (by kernel_rfl) (fun _ _ _ h => h) (.inl ⟨by rfl, ?_⟩) ?_ ?_
    rotate_left
    ·intro w'
     go_simp
     with_reducible rfl
    rotate_left
    ·simp only [Act.put, q1_, q2_, q3_, i64_w, i32_w]
     rfl
    refine tk_ (v := ?_) (a' := ?_) 6 13 (bl_ 21 127) rfl rfl HT_.out HW_.out (by kernel_rfl) (fun _ _ _ h => h) (.inl ⟨by rfl, ?_⟩) hHeld ?_ ?_
    rotate_left
    ·rintro w' ⟨s0, s1, s2, s3, s4, s5, s6, s7, s8⟩
     go_simp
     with_reducible rfl
    rotate_left
    ·simp only [Act.put, q1_, q2_, q3_, i64_w, i32_w]
     rfl
    refine pu_ (v := ?_) (a' := ?_) 7 14 (bl_ 21 255) rfl rfl HT_.out (by kernel_rfl) (fun _ _ _ h => h) (.inl ⟨by rfl, ?_⟩) ?_ ?_
    rotate_left
    ·intro w'
     go_simp
     with_reducible rfl
    rotate_left
    ·simp only [Act.put, q1_, q2_, q3_, i64_w, i32_w]
     rfl
    refine pu_ (v := ?_) (a' := ?_) 8 15 (bl_ 21 511) rfl rfl HT_.out (by kernel_rfl) (fun _ _ _ h => h) (.inl ⟨by rfl, ?_⟩) ?_ ?_
    rotate_left
    ·intro w'
     go_simp
     with_reducible rfl
    rotate_left
    ·simp only [Act.put, q1_, q2_, q3_, i64_w, i32_w]
     rfl
    refine pu_ (v := ?_) (a' := ?_) 9 16 (bl_ 21 1023) rfl rfl HT_.out (by kernel_rfl) (fun _ _ _ h => h) (.inl ⟨by rfl, ?_⟩) ?_ ?_
    rotate_left
    ·intro w'
     go_simp
     with_reducible rfl
    rotate_left
    ·simp only [Act.put, q1_, q2_, q3_, i64_w, i32_w]
     rfl
    refine pu_ (v := ?_) (a' := ?_) 10 17 (bl_ 21 2047) rfl rfl HT_.out (by kernel_rfl) (fun _ _ _ h => h) (.inl ⟨by rfl, ?_⟩) ?_ ?_
    rotate_left
    ·intro w'
     go_simp
     with_reducible rfl
    rotate_left
    ·simp only [Act.put, q1_, q2_, q3_, i64_w, i32_w]
     rfl
    refine pure_ (i := 11) (N := some 18) (v := undef) (a' := ?_) (bl_ 21 4095) rfl rfl (any_of HT_.out (by kernel_rfl)) (fun _ _ _ h => h) (Or.inr ⟨by rfl, rfl⟩) ?_ ?_
    rotate_left
    ·simp only [Act.put, q1_, q2_, q3_, i64_w, i32_w]
     rfl
    refine pure_ (i := 12) (N := some 19) (v := undef) (a' := ?_) (bl_ 21 8191) rfl rfl (any_of HT_.out (by kernel_rfl)) (fun _ _ _ h => h) (Or.inr ⟨by rfl, rfl⟩) ?_ ?_
    rotate_left
    ·simp only [Act.put, q1_, q2_, q3_, i64_w, i32_w]
     rfl
    refine pure_ (i := 13) (N := some 20) (v := undef) (a' := ?_) (bl_ 21 16383) rfl rfl (any_of HT_.out (by kernel_rfl)) (fun _ _ _ h => h) (Or.inr ⟨by rfl, rfl⟩) ?_ ?_
    rotate_left
    ·simp only [Act.put, q1_, q2_, q3_, i64_w, i32_w]
     rfl
    refine pure_ (i := 14) (N := some 21) (v := undef) (a' := ?_) (bl_ 21 32767) rfl rfl (any_of HT_.out (by kernel_rfl)) (fun _ _ _ h => h) (Or.inr ⟨by rfl, rfl⟩) ?_ ?_
    rotate_left
    ·simp only [Act.put, q1_, q2_, q3_, i64_w, i32_w]
     rfl
    refine pure_ (i := 15) (N := some 22) (v := undef) (a' := ?_) (bl_ 21 65535) rfl rfl (any_of HT_.out (by kernel_rfl)) (fun _ _ _ h => h) (Or.inr ⟨by rfl, rfl⟩) ?_ ?_
    rotate_left
    ·simp only [Act.put, q1_, q2_, q3_, i64_w, i32_w]
     rfl
    refine pure_ (i := 16) (N := some 23) (v := undef) (a' := ?_) (bl_ 21 131071) rfl rfl (any_of HT_.out (by kernel_rfl)) (fun _ _ _ h => h) (Or.inr ⟨by rfl, rfl⟩) ?_ ?_
    rotate_left
    ·simp only [Act.put, q1_, q2_, q3_, i64_w, i32_w]
     rfl
    refine pure_ (i := 17) (N := some 24) (v := undef) (a' := ?_) (bl_ 21 262143) rfl rfl (any_of HT_.out (by kernel_rfl)) (fun _ _ _ h => h) (Or.inr ⟨by rfl, rfl⟩) ?_ ?_
    rotate_left
    ·simp only [Act.put, q1_, q2_, q3_, i64_w, i32_w]
     rfl
    refine pure_ (i := 18) (N := some 25) (v := undef) (a' := ?_) (bl_ 21 524287) rfl rfl (any_of HT_.out (by kernel_rfl)) (fun _ _ _ h => h) (Or.inr ⟨by rfl, rfl⟩) ?_ ?_
    rotate_left
    ·simp only [Act.put, q1_, q2_, q3_, i64_w, i32_w]
     rfl
    refine pure_ (i := 19) (N := some 26) (v := undef) (a' := ?_) (bl_ 21 1048575) rfl rfl (any_of HT_.out (by kernel_rfl)) (fun _ _ _ h => h) (Or.inr ⟨by rfl, rfl⟩) ?_ ?_
    rotate_left
    ·simp only [Act.put, q1_, q2_, q3_, i64_w, i32_w]
     rfl
    refine pu_ (v := ?_) (a' := ?_) 20 27 (bl_ 21 2097151) rfl rfl HT_.out (by kernel_rfl) (fun _ _ _ h => h) (.inl ⟨by rfl, ?_⟩) ?_ ?_
    rotate_left
    ·intro w'
     go_simp
     with_reducible rfl
    rotate_left
    ·simp only [Act.put, q1_, q2_, q3_, i64_w, i32_w]
     rfl
    refine done_ (done_of HT_.out (by kernel_rfl)) ?_
    try go_wp2
    go_meet
    case rel => exact ⟨_, (true), (by first | rfl | (simp; done) | (simp [*]; done)), H', ⟨by first | omega | exact Nat.le_refl _⟩, ⟨bk_ BK146.out⟩, ⟨bw_ HB.out⟩⟩
   rw [if_neg c6] at H
   have c6b0 : decide ((l0_8.length : Int) < 1) = false := decide_eq_false c6
   have c6b1 : decide (l0_8.length < 1) = false := decide_eq_false (by omega)
   clear c6
   (first | rw [c6b0] | (simp only [i64_w, i32_w]; rw [c6b0]) | skip)
   replace H := Option.bind_eq_some_iff.mp H
   obtain ⟨t148, A90, H⟩ := H
   have A9 := Aside0.mk A90
   clear A90
   have H' := Aside0.mk H
   clear H
   try go_wp2
   replace BK146 := Aside0.mk (blk_drew BK146.out)
   replace HB := Aside0.mk (below_drew1 HB.out)
   refine start_ (n := 21) (S := fun w' => w'.cell? ⟨gb146, 0, none⟩ = some (.int .i64 a0_0) ∧ w'.cell? ⟨gb146, 1, none⟩ = some (.int .i64 a0_1) ∧ w'.cell? ⟨gb146, 2, none⟩ = some (.int .i64 a0_2) ∧ w'.cell? ⟨gb146, 3, none⟩ = some (.slice A0_3 l0_3.length c0_3) ∧ w'.cell? ⟨gb146, 4, none⟩ = some (.int .i64 a0_4) ∧ w'.cell? ⟨gb146, 5, none⟩ = some (.int .i64 a0_5) ∧ w'.cell? ⟨gb146, 6, none⟩ = some (.bool a0_6) ∧ w'.cell? ⟨gb146, 7, none⟩ = some (.int .i64 a0_7) ∧ w'.cell? ⟨gb146, 8, none⟩ = some (.slice A0_8 l0_8.length c0_8)) (ds := []) (Array.replicate 21 false) (by kernel_rfl) rfl rfl ⟨(blk_cell BK146.out 0).trans rfl, (blk_cell BK146.out 1).trans rfl, (blk_cell BK146.out 2).trans rfl, (blk_cell BK146.out 3).trans rfl, (blk_cell BK146.out 4).trans rfl, (blk_cell BK146.out 5).trans rfl, (blk_cell BK146.out 6).trans rfl, (blk_cell BK146.out 7).trans rfl, (blk_cell BK146.out 8).trans rfl⟩ (fun hHeld => ?_); refine with_tabW spec_ValidDevice.tab1 spec_ValidDevice.bits1 (fun HT_ HW_ => ?_)
   generalize w3.drew = w10 at BK146 HB hHeld ⊢
   refine pu_ (v := ?_) (a' := ?_) 0 7 (bl_ 21 1) rfl rfl HT_.out (by kernel_rfl) (fun _ _ _ h => h) (.inl ⟨by rfl, ?_⟩) ?_ ?_
   rotate_left
   ·intro w'
    go_simp
    with_reducible rfl
   rotate_left
   ·simp only [Act.put, q1_, q2_, q3_, i64_w, i32_w]
    rfl
   refine tk_ (v := ?_) (a' := ?_) 1 8 (bl_ 21 3) rfl rfl HT_.out HW_.out (by kernel_rfl) (fun _ _ _ h => h) (.inl ⟨by rfl, ?_⟩) hHeld ?_ ?_
   rotate_left
   ·rintro w' ⟨s0, s1, s2, s3, s4, s5, s6, s7, s8⟩
    go_simp
    with_reducible rfl
   rotate_left
   ·simp only [Act.put, q1_, q2_, q3_, i64_w, i32_w]
    rfl
   refine one_ (i := 2) (N := some 9) (bl_ 21 7) rfl rfl (one_of HT_.out (by kernel_rfl)) (by decide) (fun K hK => ?_)
   refine goes_ Try.func92 (by kernel_rfl) rfl #[.agg #[.int .i64 a0_0, .int .i64 a0_1, .int .i64 a0_2, .slice A0_3 l0_3.length c0_3, .int .i64 a0_4, .int .i64 a0_5, .bool a0_6, .int .i64 a0_7]] (by rfl) rfl rfl (by (try simp only [List.map_toArray, List.map_cons, List.map_nil]); first | done | rfl | (simp only [List.length_drop, List.length_take]; rfl)) ?_
   with_reducible refine (spec_ValidFlash.calls k a0_0 a0_1 a0_2 _ _ l0_3 a0_4 a0_5 a0_6 a0_7 true _ ?side1 ?side2 A4.out).mono ?_
   (case side1 => exact Kd.C_below HR0_3.out (bw_ HB.out))
   (case side2 => exact HC0_3.out)
   rintro e w11 ⟨rfl, hb⟩
   refine ⟨_, rfl, ?_⟩
   replace BK146 := Aside0.mk (blk_below (bk_ BK146.out) hb)
   replace HB := Aside0.mk (below_step (bw_ HB.out) hb)
   refine hK.out _ _ ⟨(blk_cell BK146.out 0).trans rfl, (blk_cell BK146.out 1).trans rfl, (blk_cell BK146.out 2).trans rfl, (blk_cell BK146.out 3).trans rfl, (blk_cell BK146.out 4).trans rfl, (blk_cell BK146.out 5).trans rfl, (blk_cell BK146.out 6).trans rfl, (blk_cell BK146.out 7).trans rfl, (blk_cell BK146.out 8).trans rfl⟩ (fun hHeld => ?_)
   clear hK K
   refine norm_ (a' := ?_) ?_ ?_
   rotate_left
   ·show Act.put _ (some 9) _ = _
    simp only [Act.put, q1_, q2_, q3_, i64_w, i32_w]
    rfl
   refine pu_ (v := ?_) (a' := ?_) 3 10 (bl_ 21 15) rfl rfl HT_.out (by kernel_rfl) (fun _ _ _ h => h) (.inl ⟨by rfl, ?_⟩) ?_ ?_
   rotate_left
   ·intro w'
    go_simp
    with_reducible rfl
   rotate_left
   ·simp only [Act.put, q1_, q2_, q3_, i64_w, i32_w]
    rfl
   refine pu_ (v := ?_) (a' := ?_) 4 11 (bl_ 21 31) rfl rfl HT_.out (by kernel_rfl) (fun _ _ _ h => h) (.inl ⟨by rfl, ?_⟩) ?_ ?_
   rotate_left
   ·intro w'
    go_simp
    with_reducible rfl
   rotate_left
   ·simp only [Act.put, q1_, q2_, q3_, i64_w, i32_w]
    rfl
   refine pu_ (v := ?_) (a' := ?_) 5 12 (bl_ 21 63) rfl rfl HT_.out (by kernel_rfl) (fun _ _ _ h => h) (.inl ⟨by rfl, ?_⟩) ?_ ?_
   rotate_left
   ·intro w'
    go_simp
    with_reducible rfl
   rotate_left
   ·simp only [Act.put, q1_, q2_, q3_, i64_w, i32_w]
    rfl
   refine tk_ (v := ?_) (a' := ?_) 6 13 (bl_ 21 127) rfl rfl HT_.out HW_.out (by kernel_rfl) (fun _ _ _ h => h) (.inl ⟨by rfl, ?_⟩) hHeld ?_ ?_
   rotate_left
   ·rintro w' ⟨s0, s1, s2, s3, s4, s5, s6, s7, s8⟩
    go_simp
    with_reducible rfl
   rotate_left
   ·simp only [Act.put, q1_, q2_, q3_, i64_w, i32_w]
    rfl
   refine pu_ (v := ?_) (a' := ?_) 7 14 (bl_ 21 255) rfl rfl HT_.out (by kernel_rfl) (fun _ _ _ h => h) (.inl ⟨by rfl, ?_⟩) ?_ ?_
   rotate_left
   ·intro w'
    go_simp
    with_reducible rfl
   rotate_left
   ·simp only [Act.put, q1_, q2_, q3_, i64_w, i32_w]
    rfl
   refine pu_ (v := ?_) (a' := ?_) 8 15 (bl_ 21 511) rfl rfl HT_.out (by kernel_rfl) (fun _ _ _ h => h) (.inl ⟨by rfl, ?_⟩) ?_ ?_
   rotate_left
   ·intro w'
    go_simp
    with_reducible rfl
   rotate_left
   ·simp only [Act.put, q1_, q2_, q3_, i64_w, i32_w]
    rfl
   refine pu_ (v := ?_) (a' := ?_) 9 16 (bl_ 21 1023) rfl rfl HT_.out (by kernel_rfl) (fun _ _ _ h => h) (.inl ⟨by rfl, ?_⟩) ?_ ?_
   rotate_left
   ·intro w'
    go_simp
    with_reducible rfl
   rotate_left
   ·simp only [Act.put, q1_, q2_, q3_, i64_w, i32_w]
    rfl
   refine pu_ (v := ?_) (a' := ?_) 10 17 (bl_ 21 2047) rfl rfl HT_.out (by kernel_rfl) (fun _ _ _ h => h) (.inl ⟨by rfl, ?_⟩) ?_ ?_
   rotate_left
   ·intro w'
    go_simp
    with_reducible rfl
   rotate_left
   ·simp only [Act.put, q1_, q2_, q3_, i64_w, i32_w]
    rfl
   refine pu_ (v := ?_) (a' := ?_) 11 18 (bl_ 21 4095) rfl rfl HT_.out (by kernel_rfl) (fun _ _ _ h => h) (.inl ⟨by rfl, ?_⟩) ?_ ?_
   rotate_left
   ·intro w'
    go_simp
    with_reducible rfl
   rotate_left
   ·simp only [Act.put, q1_, q2_, q3_, i64_w, i32_w]
    rfl
   refine pu_ (v := ?_) (a' := ?_) 14 21 (bl_ 21 20479) rfl rfl HT_.out (by kernel_rfl) (fun _ _ _ h => h) (.inl ⟨by rfl, ?_⟩) ?_ ?_
   rotate_left
   ·intro w'
    go_simp
    with_reducible rfl
   rotate_left
   ·simp only [Act.put, q1_, q2_, q3_, i64_w, i32_w]
    rfl
   refine pu_ (v := ?_) (a' := ?_) 15 22 (bl_ 21 53247) rfl rfl HT_.out (by kernel_rfl) (fun _ _ _ h => h) (.inl ⟨by rfl, ?_⟩) ?_ ?_
   rotate_left
   ·intro w'
    go_simp
    with_reducible rfl
   rotate_left
   ·simp only [Act.put, q1_, q2_, q3_, i64_w, i32_w]
    rfl
   refine pu_ (v := ?_) (a' := ?_) 16 23 (bl_ 21 118783) rfl rfl HT_.out (by kernel_rfl) (fun _ _ _ h => h) (.inl ⟨by rfl, ?_⟩) ?_ ?_
   rotate_left
   ·intro w'
    go_simp
    with_reducible rfl
   rotate_left
   ·simp only [Act.put, q1_, q2_, q3_, i64_w, i32_w]
    rfl
   refine tk_ (v := ?_) (a' := ?_) 12 19 (bl_ 21 122879) rfl rfl HT_.out HW_.out (by kernel_rfl) (fun _ _ _ h => h) (.inl ⟨by rfl, ?_⟩) hHeld ?_ ?_
   rotate_left
   ·rintro w' ⟨s0, s1, s2, s3, s4, s5, s6, s7, s8⟩
    go_simp
    with_reducible rfl
   rotate_left
   ·simp only [Act.put, q1_, q2_, q3_, i64_w, i32_w]
    rfl
   refine pu_ (v := ?_) (a' := ?_) 13 20 (bl_ 21 131071) rfl rfl HT_.out (by kernel_rfl) (fun _ _ _ h => h) (.inl ⟨by rfl, ?_⟩) ?_ ?_
   rotate_left
   ·intro w'
    go_simp
    with_reducible rfl
   rotate_left
   ·simp only [Act.put, q1_, q2_, q3_, i64_w, i32_w]
    rfl
   refine tk_ (v := ?_) (a' := ?_) 17 24 (bl_ 21 262143) rfl rfl HT_.out HW_.out (by kernel_rfl) (fun _ _ _ h => h) (.inl ⟨by rfl, ?_⟩) hHeld ?_ ?_
   rotate_left
   ·rintro w' ⟨s0, s1, s2, s3, s4, s5, s6, s7, s8⟩
    go_simp
    with_reducible rfl
   rotate_left
   ·simp only [Act.put, q1_, q2_, q3_, i64_w, i32_w]
    rfl
   refine one_ (i := 18) (N := some 25) (bl_ 21 524287) rfl rfl (one_of HT_.out (by kernel_rfl)) (by decide) (fun K hK => ?_)
   refine goes_ Try.func217 (by kernel_rfl) rfl #[.int .i64 12, .int .i64 a0_1] (by rfl) rfl rfl (by (try simp only [List.map_toArray, List.map_cons, List.map_nil]); first | done | rfl | (simp only [List.length_drop, List.length_take]; rfl)) ?_
   with_reducible refine (spec_l00Min.calls 12 a0_1 t148 _ A9.out).mono ?_
   rintro e w' ⟨rfl, ⟨nd, rfl⟩⟩
   refine ⟨_, rfl, ?_⟩
   refine hK.out _ _ ⟨(blk_cell BK146.out 0).trans rfl, (blk_cell BK146.out 1).trans rfl, (blk_cell BK146.out 2).trans rfl, (blk_cell BK146.out 3).trans rfl, (blk_cell BK146.out 4).trans rfl, (blk_cell BK146.out 5).trans rfl, (blk_cell BK146.out 6).trans rfl, (blk_cell BK146.out 7).trans rfl, (blk_cell BK146.out 8).trans rfl⟩ (fun hHeld => ?_)
   clear hK K
   refine norm_ (a' := ?_) ?_ ?_
   rotate_left
   ·show Act.put _ (some 25) _ = _
    simp only [Act.put, q1_, q2_, q3_, i64_w, i32_w]
    rfl
   refine pu_ (v := ?_) (a' := ?_) 19 26 (bl_ 21 1048575) rfl rfl HT_.out (by kernel_rfl) (fun _ _ _ h => h) (.inl ⟨by rfl, ?_⟩) ?_ ?_
   rotate_left
   ·intro w'
    go_simp
    with_reducible rfl
   rotate_left
   ·simp only [Act.put, q1_, q2_, q3_, i64_w, i32_w]
    rfl
   refine pu_ (v := ?_) (a' := ?_) 20 27 (bl_ 21 2097151) rfl rfl HT_.out (by kernel_rfl) (fun _ _ _ h => h) (.inl ⟨by rfl, ?_⟩) ?_ ?_
   rotate_left
   ·intro w'
    go_simp
    with_reducible rfl
   rotate_left
   ·simp only [Act.put, q1_, q2_, q3_, i64_w, i32_w]
    rfl
   refine done_ (done_of HT_.out (by kernel_rfl)) ?_
   try go_wp2
   go_meet
   case rel => exact ⟨_, (decide ((l0_8.length : Int) > t148)), (by first | rfl | (simp; done) | (simp [*]; done)), H', ⟨by first | omega | exact Nat.le_refl _⟩, ⟨bk_ BK146.out⟩, ⟨bw_ HB.out⟩⟩
  replace c5 := Bool.eq_false_iff.mpr c5
  subst c5
  rw [if_neg (show ¬ (false = true) by decide)] at H
  have H' := Aside0.mk H
  clear H
  try go_wp2
  replace BK146 := Aside0.mk (blk_drew BK146.out)
  replace HB := Aside0.mk (below_drew1 HB.out)
  refine start_ (n := 21) (S := fun w' => w'.cell? ⟨gb146, 0, none⟩ = some (.int .i64 a0_0) ∧ w'.cell? ⟨gb146, 1, none⟩ = some (.int .i64 a0_1) ∧ w'.cell? ⟨gb146, 2, none⟩ = some (.int .i64 a0_2) ∧ w'.cell? ⟨gb146, 3, none⟩ = some (.slice A0_3 l0_3.length c0_3) ∧ w'.cell? ⟨gb146, 4, none⟩ = some (.int .i64 a0_4) ∧ w'.cell? ⟨gb146, 5, none⟩ = some (.int .i64 a0_5) ∧ w'.cell? ⟨gb146, 6, none⟩ = some (.bool a0_6) ∧ w'.cell? ⟨gb146, 7, none⟩ = some (.int .i64 a0_7) ∧ w'.cell? ⟨gb146, 8, none⟩ = some (.slice A0_8 l0_8.length c0_8)) (ds := []) (Array.replicate 21 false) (by kernel_rfl) rfl rfl ⟨(blk_cell BK146.out 0).trans rfl, (blk_cell BK146.out 1).trans rfl, (blk_cell BK146.out 2).trans rfl, (blk_cell BK146.out 3).trans rfl, (blk_cell BK146.out 4).trans rfl, (blk_cell BK146.out 5).trans rfl, (blk_cell BK146.out 6).trans rfl, (blk_cell BK146.out 7).trans rfl, (blk_cell BK146.out 8).trans rfl⟩ (fun hHeld => ?_); refine with_tabW spec_ValidDevice.tab1 spec_ValidDevice.bits1 (fun HT_ HW_ => ?_)
  generalize w3.drew = w12 at BK146 HB hHeld ⊢
  refine pu_ (v := ?_) (a' := ?_) 0 7 (bl_ 21 1) rfl rfl HT_.out (by kernel_rfl) (fun _ _ _ h => h) (.inl ⟨by rfl, ?_⟩) ?_ ?_
  rotate_left
  ·intro w'
   go_simp
   with_reducible rfl
  rotate_left
  ·simp only [Act.put, q1_, q2_, q3_, i64_w, i32_w]
   rfl
  refine tk_ (v := ?_) (a' := ?_) 1 8 (bl_ 21 3) rfl rfl HT_.out HW_.out (by kernel_rfl) (fun _ _ _ h => h) (.inl ⟨by rfl, ?_⟩) hHeld ?_ ?_
  rotate_left
  ·rintro w' ⟨s0, s1, s2, s3, s4, s5, s6, s7, s8⟩
   go_simp
   with_reducible rfl
  rotate_left
  ·simp only [Act.put, q1_, q2_, q3_, i64_w, i32_w]
   rfl
  refine one_ (i := 2) (N := some 9) (bl_ 21 7) rfl rfl (one_of HT_.out (by kernel_rfl)) (by decide) (fun K hK => ?_)
  refine goes_ Try.func92 (by kernel_rfl) rfl #[.agg #[.int .i64 a0_0, .int .i64 a0_1, .int .i64 a0_2, .slice A0_3 l0_3.length c0_3, .int .i64 a0_4, .int .i64 a0_5, .bool a0_6, .int .i64 a0_7]] (by rfl) rfl rfl (by (try simp only [List.map_toArray, List.map_cons, List.map_nil]); first | done | rfl | (simp only [List.length_drop, List.length_take]; rfl)) ?_
  with_reducible refine (spec_ValidFlash.calls k a0_0 a0_1 a0_2 _ _ l0_3 a0_4 a0_5 a0_6 a0_7 false _ ?side1 ?side2 A4.out).mono ?_
  (case side1 => exact Kd.C_below HR0_3.out (bw_ HB.out))
  (case side2 => exact HC0_3.out)
  rintro e w13 ⟨rfl, hb⟩
  refine ⟨_, rfl, ?_⟩
  replace BK146 := Aside0.mk (blk_below (bk_ BK146.out) hb)
  replace HB := Aside0.mk (below_step (bw_ HB.out) hb)
  refine hK.out _ _ ⟨(blk_cell BK146.out 0).trans rfl, (blk_cell BK146.out 1).trans rfl, (blk_cell BK146.out 2).trans rfl, (blk_cell BK146.out 3).trans rfl, (blk_cell BK146.out 4).trans rfl, (blk_cell BK146.out 5).trans rfl, (blk_cell BK146.out 6).trans rfl, (blk_cell BK146.out 7).trans rfl, (blk_cell BK146.out 8).trans rfl⟩ (fun hHeld => ?_)
  clear hK K
  refine norm_ (a' := ?_) ?_ ?_
  rotate_left
  ·show Act.put _ (some 9) _ = _
   simp only [Act.put, q1_, q2_, q3_, i64_w, i32_w]
   rfl
  refine pu_ (v := ?_) (a' := ?_) 3 10 (bl_ 21 15) rfl rfl HT_.out (by kernel_rfl) (fun _ _ _ h => h) (.inl ⟨by rfl, ?_⟩) ?_ ?_
  rotate_left
  ·intro w'
   go_simp
   with_reducible rfl
  rotate_left
  ·simp only [Act.put, q1_, q2_, q3_, i64_w, i32_w]
   rfl
  refine pu_ (v := ?_) (a' := ?_) 4 11 (bl_ 21 31) rfl rfl HT_.out (by kernel_rfl) (fun _ _ _ h => h) (.inl ⟨by rfl, ?_⟩) ?_ ?_
  rotate_left
  ·intro w'
   go_simp
   with_reducible rfl
  rotate_left
  ·simp only [Act.put, q1_, q2_, q3_, i64_w, i32_w]
   rfl
  refine pure_ (i := 5) (N := some 12) (v := undef) (a' := ?_) (bl_ 21 63) rfl rfl (any_of HT_.out (by kernel_rfl)) (fun _ _ _ h => h) (Or.inr ⟨by rfl, rfl⟩) ?_ ?_
  rotate_left
  ·simp only [Act.put, q1_, q2_, q3_, i64_w, i32_w]
   rfl
  refine pure_ (i := 6) (N := some 13) (v := undef) (a' := ?_) (bl_ 21 127) rfl rfl (any_of HT_.out (by kernel_rfl)) (fun _ _ _ h => h) (Or.inr ⟨by rfl, rfl⟩) ?_ ?_
  rotate_left
  ·simp only [Act.put, q1_, q2_, q3_, i64_w, i32_w]
   rfl
  refine pure_ (i := 7) (N := some 14) (v := undef) (a' := ?_) (bl_ 21 255) rfl rfl (any_of HT_.out (by kernel_rfl)) (fun _ _ _ h => h) (Or.inr ⟨by rfl, rfl⟩) ?_ ?_
  rotate_left
  ·simp only [Act.put, q1_, q2_, q3_, i64_w, i32_w]
   rfl
  refine pure_ (i := 8) (N := some 15) (v := undef) (a' := ?_) (bl_ 21 511) rfl rfl (any_of HT_.out (by kernel_rfl)) (fun _ _ _ h => h) (Or.inr ⟨by rfl, rfl⟩) ?_ ?_
  rotate_left
  ·simp only [Act.put, q1_, q2_, q3_, i64_w, i32_w]
   rfl
  refine pu_ (v := ?_) (a' := ?_) 9 16 (bl_ 21 1023) rfl rfl HT_.out (by kernel_rfl) (fun _ _ _ h => h) (.inl ⟨by rfl, ?_⟩) ?_ ?_
  rotate_left
  ·intro w'
   go_simp
   with_reducible rfl
  rotate_left
  ·simp only [Act.put, q1_, q2_, q3_, i64_w, i32_w]
   rfl
  refine pu_ (v := ?_) (a' := ?_) 10 17 (bl_ 21 2047) rfl rfl HT_.out (by kernel_rfl) (fun _ _ _ h => h) (.inl ⟨by rfl, ?_⟩) ?_ ?_
  rotate_left
  ·intro w'
   go_simp
   with_reducible rfl
  rotate_left
  ·simp only [Act.put, q1_, q2_, q3_, i64_w, i32_w]
   rfl
  refine pure_ (i := 11) (N := some 18) (v := undef) (a' := ?_) (bl_ 21 4095) rfl rfl (any_of HT_.out (by kernel_rfl)) (fun _ _ _ h => h) (Or.inr ⟨by rfl, rfl⟩) ?_ ?_
  rotate_left
  ·simp only [Act.put, q1_, q2_, q3_, i64_w, i32_w]
   rfl
  refine pure_ (i := 12) (N := some 19) (v := undef) (a' := ?_) (bl_ 21 8191) rfl rfl (any_of HT_.out (by kernel_rfl)) (fun _ _ _ h => h) (Or.inr ⟨by rfl, rfl⟩) ?_ ?_
  rotate_left
  ·simp only [Act.put, q1_, q2_, q3_, i64_w, i32_w]
   rfl
  refine pure_ (i := 13) (N := some 20) (v := undef) (a' := ?_) (bl_ 21 16383) rfl rfl (any_of HT_.out (by kernel_rfl)) (fun _ _ _ h => h) (Or.inr ⟨by rfl, rfl⟩) ?_ ?_
  rotate_left
  ·simp only [Act.put, q1_, q2_, q3_, i64_w, i32_w]
   rfl
  refine pure_ (i := 14) (N := some 21) (v := undef) (a' := ?_) (bl_ 21 32767) rfl rfl (any_of HT_.out (by kernel_rfl)) (fun _ _ _ h => h) (Or.inr ⟨by rfl, rfl⟩) ?_ ?_
  rotate_left
  ·simp only [Act.put, q1_, q2_, q3_, i64_w, i32_w]
   rfl
  refine pure_ (i := 15) (N := some 22) (v := undef) (a' := ?_) (bl_ 21 65535) rfl rfl (any_of HT_.out (by kernel_rfl)) (fun _ _ _ h => h) (Or.inr ⟨by rfl, rfl⟩) ?_ ?_
  rotate_left
  ·simp only [Act.put, q1_, q2_, q3_, i64_w, i32_w]
   rfl
  refine pure_ (i := 16) (N := some 23) (v := undef) (a' := ?_) (bl_ 21 131071) rfl rfl (any_of HT_.out (by kernel_rfl)) (fun _ _ _ h => h) (Or.inr ⟨by rfl, rfl⟩) ?_ ?_
  rotate_left
  ·simp only [Act.put, q1_, q2_, q3_, i64_w, i32_w]
   rfl
  refine pure_ (i := 17) (N := some 24) (v := undef) (a' := ?_) (bl_ 21 262143) rfl rfl (any_of HT_.out (by kernel_rfl)) (fun _ _ _ h => h) (Or.inr ⟨by rfl, rfl⟩) ?_ ?_
  rotate_left
  ·simp only [Act.put, q1_, q2_, q3_, i64_w, i32_w]
   rfl
  refine pure_ (i := 18) (N := some 25) (v := undef) (a' := ?_) (bl_ 21 524287) rfl rfl (any_of HT_.out (by kernel_rfl)) (fun _ _ _ h => h) (Or.inr ⟨by rfl, rfl⟩) ?_ ?_
  rotate_left
  ·simp only [Act.put, q1_, q2_, q3_, i64_w, i32_w]
   rfl
  refine pure_ (i := 19) (N := some 26) (v := undef) (a' := ?_) (bl_ 21 1048575) rfl rfl (any_of HT_.out (by kernel_rfl)) (fun _ _ _ h => h) (Or.inr ⟨by rfl, rfl⟩) ?_ ?_
  rotate_left
  ·simp only [Act.put, q1_, q2_, q3_, i64_w, i32_w]
   rfl
  refine pu_ (v := ?_) (a' := ?_) 20 27 (bl_ 21 2097151) rfl rfl HT_.out (by kernel_rfl) (fun _ _ _ h => h) (.inl ⟨by rfl, ?_⟩) ?_ ?_
  rotate_left
  ·intro w'
   go_simp
   with_reducible rfl
  rotate_left
  ·simp only [Act.put, q1_, q2_, q3_, i64_w, i32_w]
   rfl
  refine done_ (done_of HT_.out (by kernel_rfl)) ?_
  try go_wp2
  go_meet
  case rel => exact ⟨_, (true), (by first | rfl | (simp; done) | (simp [*]; done)), H', ⟨by first | omega | exact Nat.le_refl _⟩, ⟨bk_ BK146.out⟩, ⟨bw_ HB.out⟩⟩
 case rest =>
  clear HC2
  obtain ⟨kq, x27_1, rfl, HA, HJ1, BK146, HB⟩ := hcut
  cases kq with
  | zero => exact absurd HA.out (by simp [spec_ValidDevice.j0])
  | succ kj1 =>
   have H := HA.out
   clear HA
   simp only [spec_ValidDevice.j0] at H
   by_cases c14 : x27_1 = true
   ·subst c14
    rw [if_pos rfl] at H
    obtain rfl := Option.some.inj H
    go_wp2
    go_ret
    exact ⟨by first | rfl | (simp [errW_none, errW_some] <;> rfl) | (simp [*, errW_none, errW_some] <;> rfl), bw_ HB.out⟩
   replace c14 := Bool.eq_false_iff.mpr c14
   subst c14
   rw [if_neg (show ¬ (false = true) by decide)] at H
   obtain ⟨y149, hy149⟩ : ∃ y_ : List Int, y_ = (([] : List Int)) := ⟨_, rfl⟩
   replace H : (spec_ValidDevice.l0 kj1 y149 0 a0_0 a0_1 a0_2 l0_3 a0_4 a0_5 a0_6 a0_7 l0_8) = some r := by first | (rw [hy149]; with_reducible exact H) | (have H2_ := (Option.bind_some _ _).symm.trans H; rw [hy149]; with_reducible exact H2_) | (have H2_ := (Option.bind_some _ _).symm.trans H; with_reducible exact H2_) | with_reducible exact H | (rw [hy149]; exact H) | exact H
   have Ny149 := Aside0.mk hy149
   clear hy149
   have H' := Aside0.mk H
   clear H
   go_wp2_with (first | ((with_reducible refine gate_dst (N := 28) rfl ?_); (try (refine gate_guard (by rfl) ?_; dsimp only)); refine Kd.R_lit (Kd.int .i64) _ 2 ?hg (N := 28) ?hd (xs := ([] : List Int)) (inner := []) (ok := fun _ => True) (okp := fun _ => True) ?hr ?hp (fun _ hk => hk) trivial (Below.refl _ _) (Nat.le_refl _) (by simp) ?_; (case hd => rfl); (case hg => rfl); (case hr => first | (go_simp; done) | (go_simp; rfl)); (case hp => exact (Reps.none _ _)); intro v150 w15 ho16 hb hg_ hnew_; clear hg_ hnew_; (first | rw [← Ny149.out] at ho16 | (simp only [Int.reduceToNat] at ho16; rw [← Ny149.out] at ho16)); have HO151 := Aside0.mk (Kd.R_lower ho16 (below_size (bw_ HB.out))); replace BK146 := Aside0.mk (blk_below (bk_ BK146.out) hb); replace HB := Aside0.mk (below_step (bw_ HB.out) hb); clear hb ho16))
   go_loopg [3, 4] kj1 (fun kq v3 v4 w' => ∃ (x3_2 : List Int) (x4_2 : Int), v4 = .int .i64 x4_2 ∧ Aside0 (spec_ValidDevice.l0 kq x3_2 x4_2 a0_0 a0_1 a0_2 l0_3 a0_4 a0_5 a0_6 a0_7 l0_8 = some r) ∧ Aside0 (kq ≤ kj1) ∧ Aside0 (Kd.R (Kd.int .i64) 2 w' w.heap.size (fun _ => True) v3 x3_2) ∧ Aside0 (w'.heap[gb146]? = some (.cells #[.int .i64 a0_0, .int .i64 a0_1, .int .i64 a0_2, (.slice A0_3 l0_3.length c0_3), .int .i64 a0_4, .int .i64 a0_5, .bool a0_6, .int .i64 a0_7, (.slice A0_8 l0_8.length c0_8)] 126 (0, 0))) ∧ Aside0 (Below w.heap.size w w'))
   case atStart => exact ⟨(y149), (0), (by first | rfl | (simp; done) | (simp [*]; done)), H', ⟨Nat.le_refl _⟩, ⟨Kd.R_below HO151.out st_⟩, ⟨bk_ BK146.out⟩, ⟨bw_ HB.out⟩⟩
   case round =>
    clear H'
    obtain ⟨x3_2, x4_2, rfl, HA, HK2, HO_3, BK146, HB⟩ := hrel
    cases gk with
    | zero => exact absurd HA.out (by simp [spec_ValidDevice.l0])
    | succ k2 =>
     have H := HA.out
     clear HA
     simp only [spec_ValidDevice.l0] at H
     by_cases c17 : x4_2 < (l0_8.length : Int)
     ·rw [if_pos c17] at H
      have c17b0 : decide (x4_2 < (l0_8.length : Int)) = true := decide_eq_true c17
      clear c17
      by_cases c18 : 0 ≤ x4_2
      ·rw [if_pos c18] at H
       have c18b0 : decide (0 ≤ x4_2) = true := decide_eq_true c18
       clear c18
       have HC19 := Aside0.mk H
       clear H
       obtain ⟨hcz20_0, hcz20_1, hcz20_2, hcz20_3, hcz20_4, hcz20_5, hcz20_6, hcz20_7, hcz20_8⟩ := cells9 BK146.out
       obtain ⟨hfz20_0, hfz20_1, hfz20_2, hfz20_3, hfz20_4, hfz20_5, hfz20_6, hfz20_7, hfz20_8⟩ := frozen9 BK146.out
       have p152 : 0 ≤ (x4_2 : Int) := of_decide_eq_true (by first | (with_reducible assumption) | assumption)
       have q152 : x4_2 < (l0_8.length : Int) := of_decide_eq_true (by first | (with_reducible assumption) | assumption)
       obtain ⟨ad152, A152_1, c152_1, A152_4, c152_4, A152_5, c152_5, e152, hx152_0, hx152_1, hx152_2, hx152_3, hx152_4, hx152_5, hl152_1, hi152_1, hl152_4, hi152_4, hl152_5, hi152_5⟩ := at_T276 HR0_8.out x4_2 p152 q152
       cases e152
       replace hx152_0 := (HB.out.cell (World.block_lt_of_cell? w _ hx152_0)).trans hx152_0
       replace hx152_1 := (HB.out.cell (World.block_lt_of_cell? w _ hx152_1)).trans hx152_1
       replace hx152_2 := (HB.out.cell (World.block_lt_of_cell? w _ hx152_2)).trans hx152_2
       replace hx152_3 := (HB.out.cell (World.block_lt_of_cell? w _ hx152_3)).trans hx152_3
       replace hx152_4 := (HB.out.cell (World.block_lt_of_cell? w _ hx152_4)).trans hx152_4
       replace hx152_5 := (HB.out.cell (World.block_lt_of_cell? w _ hx152_5)).trans hx152_5
       have HR152_1 := Aside0.mk hi152_1
       have HC152_1 := Aside0.mk hl152_1
       clear hi152_1 hl152_1
       have HR152_4 := Aside0.mk hi152_4
       have HC152_4 := Aside0.mk hl152_4
       clear hi152_4 hl152_4
       have HR152_5 := Aside0.mk hi152_5
       have HC152_5 := Aside0.mk hl152_5
       clear hi152_5 hl152_5
       replace p152 := eq_true p152
       replace q152 := eq_true q152
       go_upto_region 8 with (first | ((with_reducible refine gate_dst (N := 5) rfl ?_); (try (refine gate_guard (by rfl) ?_; dsimp only)); refine box_event ?hg (N := 5) ?hd (cs := #[.int .i64 0, .slice none 0 0, .int .i64 0, .int .i64 0, .slice none 0 0, .slice none 0 0]) (t := 276) ?hr ?_; (case hd => rfl); (case hg => rfl); (case hr => first | (go_simp; done) | (go_simp; rfl)); intro gb153 hg w21 hbox hb; replace HO_3 := Aside0.mk (Kd.R_below (Kd.R_below HO_3.out st_) hb); have BK153 := Aside0.mk (hbox); have GW153 := Aside0.mk ((by rw [hg]; exact (below_size (bw_ HB.out)) : w.heap.size ≤ gb153)); have GE153 := Nonempty.intro GW153.out; replace HB := Aside0.mk (below_step (bw_ HB.out) hb); have NB146_153 := Aside0.mk ((by rw [hg]; exact Nat.ne_of_lt (blk_lt (bk_ BK146.out)) : gb146 ≠ gb153)); have NB153_146 := Aside0.mk ((by rw [hg]; exact Nat.ne_of_gt (blk_lt (bk_ BK146.out)) : gb153 ≠ gb146)); replace BK146 := Aside0.mk (blk_below (bk_ BK146.out) hb); clear hb hbox hg; have hnb22 := NB153_146.out; have hnc22 := NB146_153.out; obtain ⟨hcz23_0, hcz23_1, hcz23_2, hcz23_3, hcz23_4, hcz23_5⟩ := cells6 BK153.out; obtain ⟨hfz23_0, hfz23_1, hfz23_2, hfz23_3, hfz23_4, hfz23_5⟩ := frozen6 BK153.out))
       (try simp only [Act.put, List.setIfInBounds_toArray, List.set_cons_zero, List.set_cons_succ])
       go_cut [61] (fun v61 wc => ∃ (kq : Nat) (x61_18 : Bool), v61 = .bool x61_18 ∧ Aside0 (spec_ValidDevice.j2 kq x3_2 x4_2 x61_18 a0_0 a0_1 a0_2 l0_3 a0_4 a0_5 a0_6 a0_7 l0_8 ((rd_T276 l0_8 x4_2).f0) ((rd_T276 l0_8 x4_2).f1) ((rd_T276 l0_8 x4_2).f2) ((rd_T276 l0_8 x4_2).f3) ((rd_T276 l0_8 x4_2).f4) ((rd_T276 l0_8 x4_2).f5) = some r) ∧ Aside0 (kq ≤ k2) ∧ Aside0 (Kd.R (Kd.int .i64) 2 wc w.heap.size (fun _ => True) u3 x3_2) ∧ Aside0 (wc.heap[gb146]? = some (.cells #[.int .i64 a0_0, .int .i64 a0_1, .int .i64 a0_2, (.slice A0_3 l0_3.length c0_3), .int .i64 a0_4, .int .i64 a0_5, .bool a0_6, .int .i64 a0_7, (.slice (some ad152) l0_8.length c0_8)] 126 (0, 0))) ∧ Aside0 (wc.heap[gb153]? = some (.cells #[.int .i64 ((rd_T276 l0_8 x4_2).f0), (.slice A152_1 ((rd_T276 l0_8 x4_2).f1).length c152_1), .int .i64 ((rd_T276 l0_8 x4_2).f2), .int .i64 ((rd_T276 l0_8 x4_2).f3), (.slice A152_4 ((rd_T276 l0_8 x4_2).f4).length c152_4), (.slice A152_5 ((rd_T276 l0_8 x4_2).f5).length c152_5)] 276 (0, 0))) ∧ Aside0 (Below w.heap.size w wc))
       case first =>
        have H := HC19.out
        clear HC19
        replace H := Option.bind_eq_some_iff.mp H
        obtain ⟨t154, A240, H⟩ := H
        have A24 := Aside0.mk A240
        clear A240
        by_cases c25 : t154 = true
        ·subst c25
         rw [if_pos rfl] at H
         replace H := Option.bind_eq_some_iff.mp H
         obtain ⟨t155, A260, H⟩ := H
         have A26 := Aside0.mk A260
         clear A260
         by_cases c27 : t155 = true
         ·subst c27
          rw [if_pos rfl] at H
          replace H := Option.bind_eq_some_iff.mp H
          obtain ⟨t156, A280, H⟩ := H
          have A28 := Aside0.mk A280
          clear A280
          have H' := Aside0.mk H
          clear H
          have hnb29 := NB146_153.out
          have hnc29 := NB153_146.out
          obtain ⟨hcz30_0, hcz30_1, hcz30_2, hcz30_3, hcz30_4, hcz30_5, hcz30_6, hcz30_7, hcz30_8⟩ := cells9 BK146.out
          obtain ⟨hfz30_0, hfz30_1, hfz30_2, hfz30_3, hfz30_4, hfz30_5, hfz30_6, hfz30_7, hfz30_8⟩ := frozen9 BK146.out
          obtain ⟨hcz31_0, hcz31_1, hcz31_2, hcz31_3, hcz31_4, hcz31_5⟩ := cells6 BK153.out
          obtain ⟨hfz31_0, hfz31_1, hfz31_2, hfz31_3, hfz31_4, hfz31_5⟩ := frozen6 BK153.out
          go_wp2_with (first | ((with_reducible refine gate_callee (f := 264) rfl ?_); refine goesL_ (some 45) rfl rfl Try.func264 (by kernel_rfl) rfl #[.agg #[.int .i64 a0_0, .int .i64 a0_1, .int .i64 a0_2], .agg #[.int .i64 ((rd_T276 l0_8 x4_2).f0), .slice A152_1 ((rd_T276 l0_8 x4_2).f1).length c152_1, .int .i64 ((rd_T276 l0_8 x4_2).f2), .int .i64 ((rd_T276 l0_8 x4_2).f3), .slice A152_4 ((rd_T276 l0_8 x4_2).f4).length c152_4, .slice A152_5 ((rd_T276 l0_8 x4_2).f5).length c152_5]] rfl (by (try simp only [List.map_toArray, List.map_cons, List.map_nil]); first | done | rfl | (simp only [List.length_drop, List.length_take]; rfl)) ?_; (with_reducible refine (spec_l16Blocks.calls k2 a0_0 a0_1 a0_2 ((rd_T276 l0_8 x4_2).f0) _ _ ((rd_T276 l0_8 x4_2).f1) ((rd_T276 l0_8 x4_2).f2) ((rd_T276 l0_8 x4_2).f3) _ _ ((rd_T276 l0_8 x4_2).f4) _ _ ((rd_T276 l0_8 x4_2).f5) true _ ?side1 ?side2 ?side3 ?side4 ?side5 ?side6 A24.out).mono ?_); (case side1 => exact Kd.C_below HR152_1.out (bw_ HB.out)); (case side2 => exact HC152_1.out); (case side3 => exact Kd.C_below HR152_4.out (bw_ HB.out)); (case side4 => exact HC152_4.out); (case side5 => exact Kd.C_below HR152_5.out (bw_ HB.out)); (case side6 => exact HC152_5.out); rintro e w32 ⟨rfl, hb⟩; refine ⟨_, rfl, ?_⟩; replace HO_3 := Aside0.mk (Kd.R_below (by (with_reducible repeat (first | apply Kd.R_alloc | apply Kd.R_drewN | apply Kd.R_drew)); exact (Kd.R_mono (Kd.R_far (p := ⟨gb153, 5, none⟩) (Kd.R_far (p := ⟨gb153, 4, none⟩) (Kd.R_far (p := ⟨gb153, 3, none⟩) (Kd.R_far (p := ⟨gb153, 2, none⟩) (Kd.R_far (p := ⟨gb153, 1, none⟩) (Kd.R_far (p := ⟨gb153, 0, none⟩) (Kd.R_types HO_3.out BK153.out (by decide)) (fun _ hk => hk.2) (.int .i64 ((rd_T276 l0_8 x4_2).f0))) (fun _ hk => hk.2) (.slice A152_1 ((rd_T276 l0_8 x4_2).f1).length c152_1)) (fun _ hk => hk.2) (.int .i64 ((rd_T276 l0_8 x4_2).f2))) (fun _ hk => hk.2) (.int .i64 ((rd_T276 l0_8 x4_2).f3))) (fun _ hk => hk.2) (.slice A152_4 ((rd_T276 l0_8 x4_2).f4).length c152_4)) (fun _ hk => hk.2) (.slice A152_5 ((rd_T276 l0_8 x4_2).f5).length c152_5)) (fun _ h_ => h_.1))) hb); replace BK146 := Aside0.mk (blk_below (g := gb146) (o := .cells #[.int .i64 a0_0, .int .i64 a0_1, .int .i64 a0_2, .slice A0_3 l0_3.length c0_3, .int .i64 a0_4, .int .i64 a0_5, .bool a0_6, .int .i64 a0_7, .slice (some ad152) l0_8.length c0_8] 126 (0, 0)) (by (with_reducible repeat (first | refine blk_drewN ?_ _ | refine blk_drew ?_ | refine blk_alloc ?_ _)); refine blk_far ?_ NB146_153.out _; (with_reducible repeat (first | refine blk_drewN ?_ _ | refine blk_drew ?_ | refine blk_alloc ?_ _)); refine blk_far ?_ NB146_153.out _; (with_reducible repeat (first | refine blk_drewN ?_ _ | refine blk_drew ?_ | refine blk_alloc ?_ _)); refine blk_far ?_ NB146_153.out _; (with_reducible repeat (first | refine blk_drewN ?_ _ | refine blk_drew ?_ | refine blk_alloc ?_ _)); refine blk_far ?_ NB146_153.out _; (with_reducible repeat (first | refine blk_drewN ?_ _ | refine blk_drew ?_ | refine blk_alloc ?_ _)); refine blk_far ?_ NB146_153.out _; (with_reducible repeat (first | refine blk_drewN ?_ _ | refine blk_drew ?_ | refine blk_alloc ?_ _)); refine blk_far ?_ NB146_153.out _; (with_reducible repeat (first | refine blk_drewN ?_ _ | refine blk_drew ?_ | refine blk_alloc ?_ _)); exact BK146.out) hb); replace BK153 := Aside0.mk (blk_below (g := gb153) (o := .cells #[.int .i64 ((rd_T276 l0_8 x4_2).f0), .slice A152_1 ((rd_T276 l0_8 x4_2).f1).length c152_1, .int .i64 ((rd_T276 l0_8 x4_2).f2), .int .i64 ((rd_T276 l0_8 x4_2).f3), .slice A152_4 ((rd_T276 l0_8 x4_2).f4).length c152_4, .slice A152_5 ((rd_T276 l0_8 x4_2).f5).length c152_5] 276 (0, 0)) (by (with_reducible repeat (first | refine blk_drewN ?_ _ | refine blk_drew ?_ | refine blk_alloc ?_ _)); refine blk_put (cs := #[.int .i64 ((rd_T276 l0_8 x4_2).f0), .slice A152_1 ((rd_T276 l0_8 x4_2).f1).length c152_1, .int .i64 ((rd_T276 l0_8 x4_2).f2), .int .i64 ((rd_T276 l0_8 x4_2).f3), .slice A152_4 ((rd_T276 l0_8 x4_2).f4).length c152_4, .slice none 0 0]) ?_ 5 _ rfl; (with_reducible repeat (first | refine blk_drewN ?_ _ | refine blk_drew ?_ | refine blk_alloc ?_ _)); refine blk_put (cs := #[.int .i64 ((rd_T276 l0_8 x4_2).f0), .slice A152_1 ((rd_T276 l0_8 x4_2).f1).length c152_1, .int .i64 ((rd_T276 l0_8 x4_2).f2), .int .i64 ((rd_T276 l0_8 x4_2).f3), .slice none 0 0, .slice none 0 0]) ?_ 4 _ rfl; (with_reducible repeat (first | refine blk_drewN ?_ _ | refine blk_drew ?_ | refine blk_alloc ?_ _)); refine blk_put (cs := #[.int .i64 ((rd_T276 l0_8 x4_2).f0), .slice A152_1 ((rd_T276 l0_8 x4_2).f1).length c152_1, .int .i64 ((rd_T276 l0_8 x4_2).f2), .int .i64 0, .slice none 0 0, .slice none 0 0]) ?_ 3 _ rfl; (with_reducible repeat (first | refine blk_drewN ?_ _ | refine blk_drew ?_ | refine blk_alloc ?_ _)); refine blk_put (cs := #[.int .i64 ((rd_T276 l0_8 x4_2).f0), .slice A152_1 ((rd_T276 l0_8 x4_2).f1).length c152_1, .int .i64 0, .int .i64 0, .slice none 0 0, .slice none 0 0]) ?_ 2 _ rfl; (with_reducible repeat (first | refine blk_drewN ?_ _ | refine blk_drew ?_ | refine blk_alloc ?_ _)); refine blk_put (cs := #[.int .i64 ((rd_T276 l0_8 x4_2).f0), .slice none 0 0, .int .i64 0, .int .i64 0, .slice none 0 0, .slice none 0 0]) ?_ 1 _ rfl; (with_reducible repeat (first | refine blk_drewN ?_ _ | refine blk_drew ?_ | refine blk_alloc ?_ _)); refine blk_put (cs := #[.int .i64 0, .slice none 0 0, .int .i64 0, .int .i64 0, .slice none 0 0, .slice none 0 0]) ?_ 0 _ rfl; (with_reducible repeat (first | refine blk_drewN ?_ _ | refine blk_drew ?_ | refine blk_alloc ?_ _)); exact BK153.out) hb); replace HB := Aside0.mk (below_step (bw_ HB.out) hb); (try clear hb); obtain ⟨hcz33_0, hcz33_1, hcz33_2, hcz33_3, hcz33_4, hcz33_5, hcz33_6, hcz33_7, hcz33_8⟩ := cells9 BK146.out; obtain ⟨hfz33_0, hfz33_1, hfz33_2, hfz33_3, hfz33_4, hfz33_5, hfz33_6, hfz33_7, hfz33_8⟩ := frozen9 BK146.out; obtain ⟨hcz34_0, hcz34_1, hcz34_2, hcz34_3, hcz34_4, hcz34_5⟩ := cells6 BK153.out; obtain ⟨hfz34_0, hfz34_1, hfz34_2, hfz34_3, hfz34_4, hfz34_5⟩ := frozen6 BK153.out) | (go_at_call 265; (with_reducible refine (spec_l16Counts.calls k2 a0_0 a0_1 a0_2 ((rd_T276 l0_8 x4_2).f0) _ _ ((rd_T276 l0_8 x4_2).f1) ((rd_T276 l0_8 x4_2).f2) ((rd_T276 l0_8 x4_2).f3) _ _ ((rd_T276 l0_8 x4_2).f4) _ _ ((rd_T276 l0_8 x4_2).f5) true _ ?side1 ?side2 ?side3 ?side4 ?side5 ?side6 A26.out).mono ?_); (case side1 => exact Kd.C_below HR152_1.out (bw_ HB.out)); (case side2 => exact HC152_1.out); (case side3 => exact Kd.C_below HR152_4.out (bw_ HB.out)); (case side4 => exact HC152_4.out); (case side5 => exact Kd.C_below HR152_5.out (bw_ HB.out)); (case side6 => exact HC152_5.out); rintro e w35 ⟨rfl, hb⟩; replace HO_3 := Aside0.mk (Kd.R_below (Kd.R_below HO_3.out st_) hb); replace BK146 := Aside0.mk (blk_below (bk_ BK146.out) hb); replace BK153 := Aside0.mk (blk_below (bk_ BK153.out) hb); replace HB := Aside0.mk (below_step (bw_ HB.out) hb); (try clear hb); obtain ⟨hcz36_0, hcz36_1, hcz36_2, hcz36_3, hcz36_4, hcz36_5, hcz36_6, hcz36_7, hcz36_8⟩ := cells9 BK146.out; obtain ⟨hfz36_0, hfz36_1, hfz36_2, hfz36_3, hfz36_4, hfz36_5, hfz36_6, hfz36_7, hfz36_8⟩ := frozen9 BK146.out; obtain ⟨hcz37_0, hcz37_1, hcz37_2, hcz37_3, hcz37_4, hcz37_5⟩ := cells6 BK153.out; obtain ⟨hfz37_0, hfz37_1, hfz37_2, hfz37_3, hfz37_4, hfz37_5⟩ := frozen6 BK153.out) | (go_at_call 266; (with_reducible refine (spec_l16State.calls k2 a0_0 a0_1 a0_2 _ _ l0_3 a0_4 a0_5 a0_6 a0_7 ((rd_T276 l0_8 x4_2).f0) _ _ ((rd_T276 l0_8 x4_2).f1) ((rd_T276 l0_8 x4_2).f2) ((rd_T276 l0_8 x4_2).f3) _ _ ((rd_T276 l0_8 x4_2).f4) _ _ ((rd_T276 l0_8 x4_2).f5) t156 _ ?side1 ?side2 ?side3 ?side4 ?side5 ?side6 ?side7 ?side8 A28.out).mono ?_); (case side1 => exact Kd.C_below HR0_3.out (bw_ HB.out)); (case side2 => exact HC0_3.out); (case side3 => exact Kd.C_below HR152_1.out (bw_ HB.out)); (case side4 => exact HC152_1.out); (case side5 => exact Kd.C_below HR152_4.out (bw_ HB.out)); (case side6 => exact HC152_4.out); (case side7 => exact Kd.C_below HR152_5.out (bw_ HB.out)); (case side8 => exact HC152_5.out); rintro e w38 ⟨rfl, hb⟩; replace HO_3 := Aside0.mk (Kd.R_below (Kd.R_below HO_3.out st_) hb); replace BK146 := Aside0.mk (blk_below (bk_ BK146.out) hb); replace BK153 := Aside0.mk (blk_below (bk_ BK153.out) hb); replace HB := Aside0.mk (below_step (bw_ HB.out) hb); (try clear hb)))
          go_meet
          case rel => exact ⟨_, (!t156), (by first | rfl | (simp; done) | (simp [*]; done)), H', ⟨by have := HJ1.out; have := HK2.out; first | omega | exact Nat.le_refl _⟩, ⟨Kd.R_below HO_3.out st_⟩, ⟨bk_ BK146.out⟩, ⟨bk_ BK153.out⟩, ⟨bw_ HB.out⟩⟩
         replace c27 := Bool.eq_false_iff.mpr c27
         subst c27
         rw [if_neg (show ¬ (false = true) by decide)] at H
         have H' := Aside0.mk H
         clear H
         have hnb39 := NB146_153.out
         have hnc39 := NB153_146.out
         obtain ⟨hcz40_0, hcz40_1, hcz40_2, hcz40_3, hcz40_4, hcz40_5, hcz40_6, hcz40_7, hcz40_8⟩ := cells9 BK146.out
         obtain ⟨hfz40_0, hfz40_1, hfz40_2, hfz40_3, hfz40_4, hfz40_5, hfz40_6, hfz40_7, hfz40_8⟩ := frozen9 BK146.out
         obtain ⟨hcz41_0, hcz41_1, hcz41_2, hcz41_3, hcz41_4, hcz41_5⟩ := cells6 BK153.out
         obtain ⟨hfz41_0, hfz41_1, hfz41_2, hfz41_3, hfz41_4, hfz41_5⟩ := frozen6 BK153.out
         go_wp2_with (first | ((with_reducible refine gate_callee (f := 264) rfl ?_); refine goesL_ (some 45) rfl rfl Try.func264 (by kernel_rfl) rfl #[.agg #[.int .i64 a0_0, .int .i64 a0_1, .int .i64 a0_2], .agg #[.int .i64 ((rd_T276 l0_8 x4_2).f0), .slice A152_1 ((rd_T276 l0_8 x4_2).f1).length c152_1, .int .i64 ((rd_T276 l0_8 x4_2).f2), .int .i64 ((rd_T276 l0_8 x4_2).f3), .slice A152_4 ((rd_T276 l0_8 x4_2).f4).length c152_4, .slice A152_5 ((rd_T276 l0_8 x4_2).f5).length c152_5]] rfl (by (try simp only [List.map_toArray, List.map_cons, List.map_nil]); first | done | rfl | (simp only [List.length_drop, List.length_take]; rfl)) ?_; (with_reducible refine (spec_l16Blocks.calls k2 a0_0 a0_1 a0_2 ((rd_T276 l0_8 x4_2).f0) _ _ ((rd_T276 l0_8 x4_2).f1) ((rd_T276 l0_8 x4_2).f2) ((rd_T276 l0_8 x4_2).f3) _ _ ((rd_T276 l0_8 x4_2).f4) _ _ ((rd_T276 l0_8 x4_2).f5) true _ ?side1 ?side2 ?side3 ?side4 ?side5 ?side6 A24.out).mono ?_); (case side1 => exact Kd.C_below HR152_1.out (bw_ HB.out)); (case side2 => exact HC152_1.out); (case side3 => exact Kd.C_below HR152_4.out (bw_ HB.out)); (case side4 => exact HC152_4.out); (case side5 => exact Kd.C_below HR152_5.out (bw_ HB.out)); (case side6 => exact HC152_5.out); rintro e w42 ⟨rfl, hb⟩; refine ⟨_, rfl, ?_⟩; replace HO_3 := Aside0.mk (Kd.R_below (by (with_reducible repeat (first | apply Kd.R_alloc | apply Kd.R_drewN | apply Kd.R_drew)); exact (Kd.R_mono (Kd.R_far (p := ⟨gb153, 5, none⟩) (Kd.R_far (p := ⟨gb153, 4, none⟩) (Kd.R_far (p := ⟨gb153, 3, none⟩) (Kd.R_far (p := ⟨gb153, 2, none⟩) (Kd.R_far (p := ⟨gb153, 1, none⟩) (Kd.R_far (p := ⟨gb153, 0, none⟩) (Kd.R_types HO_3.out BK153.out (by decide)) (fun _ hk => hk.2) (.int .i64 ((rd_T276 l0_8 x4_2).f0))) (fun _ hk => hk.2) (.slice A152_1 ((rd_T276 l0_8 x4_2).f1).length c152_1)) (fun _ hk => hk.2) (.int .i64 ((rd_T276 l0_8 x4_2).f2))) (fun _ hk => hk.2) (.int .i64 ((rd_T276 l0_8 x4_2).f3))) (fun _ hk => hk.2) (.slice A152_4 ((rd_T276 l0_8 x4_2).f4).length c152_4)) (fun _ hk => hk.2) (.slice A152_5 ((rd_T276 l0_8 x4_2).f5).length c152_5)) (fun _ h_ => h_.1))) hb); replace BK146 := Aside0.mk (blk_below (g := gb146) (o := .cells #[.int .i64 a0_0, .int .i64 a0_1, .int .i64 a0_2, .slice A0_3 l0_3.length c0_3, .int .i64 a0_4, .int .i64 a0_5, .bool a0_6, .int .i64 a0_7, .slice (some ad152) l0_8.length c0_8] 126 (0, 0)) (by (with_reducible repeat (first | refine blk_drewN ?_ _ | refine blk_drew ?_ | refine blk_alloc ?_ _)); refine blk_far ?_ NB146_153.out _; (with_reducible repeat (first | refine blk_drewN ?_ _ | refine blk_drew ?_ | refine blk_alloc ?_ _)); refine blk_far ?_ NB146_153.out _; (with_reducible repeat (first | refine blk_drewN ?_ _ | refine blk_drew ?_ | refine blk_alloc ?_ _)); refine blk_far ?_ NB146_153.out _; (with_reducible repeat (first | refine blk_drewN ?_ _ | refine blk_drew ?_ | refine blk_alloc ?_ _)); refine blk_far ?_ NB146_153.out _; (with_reducible repeat (first | refine blk_drewN ?_ _ | refine blk_drew ?_ | refine blk_alloc ?_ _)); refine blk_far ?_ NB146_153.out _; (with_reducible repeat (first | refine blk_drewN ?_ _ | refine blk_drew ?_ | refine blk_alloc ?_ _)); refine blk_far ?_ NB146_153.out _; (with_reducible repeat (first | refine blk_drewN ?_ _ | refine blk_drew ?_ | refine blk_alloc ?_ _)); exact BK146.out) hb); replace BK153 := Aside0.mk (blk_below (g := gb153) (o := .cells #[.int .i64 ((rd_T276 l0_8 x4_2).f0), .slice A152_1 ((rd_T276 l0_8 x4_2).f1).length c152_1, .int .i64 ((rd_T276 l0_8 x4_2).f2), .int .i64 ((rd_T276 l0_8 x4_2).f3), .slice A152_4 ((rd_T276 l0_8 x4_2).f4).length c152_4, .slice A152_5 ((rd_T276 l0_8 x4_2).f5).length c152_5] 276 (0, 0)) (by (with_reducible repeat (first | refine blk_drewN ?_ _ | refine blk_drew ?_ | refine blk_alloc ?_ _)); refine blk_put (cs := #[.int .i64 ((rd_T276 l0_8 x4_2).f0), .slice A152_1 ((rd_T276 l0_8 x4_2).f1).length c152_1, .int .i64 ((rd_T276 l0_8 x4_2).f2), .int .i64 ((rd_T276 l0_8 x4_2).f3), .slice A152_4 ((rd_T276 l0_8 x4_2).f4).length c152_4, .slice none 0 0]) ?_ 5 _ rfl; (with_reducible repeat (first | refine blk_drewN ?_ _ | refine blk_drew ?_ | refine blk_alloc ?_ _)); refine blk_put (cs := #[.int .i64 ((rd_T276 l0_8 x4_2).f0), .slice A152_1 ((rd_T276 l0_8 x4_2).f1).length c152_1, .int .i64 ((rd_T276 l0_8 x4_2).f2), .int .i64 ((rd_T276 l0_8 x4_2).f3), .slice none 0 0, .slice none 0 0]) ?_ 4 _ rfl; (with_reducible repeat (first | refine blk_drewN ?_ _ | refine blk_drew ?_ | refine blk_alloc ?_ _)); refine blk_put (cs := #[.int .i64 ((rd_T276 l0_8 x4_2).f0), .slice A152_1 ((rd_T276 l0_8 x4_2).f1).length c152_1, .int .i64 ((rd_T276 l0_8 x4_2).f2), .int .i64 0, .slice none 0 0, .slice none 0 0]) ?_ 3 _ rfl; (with_reducible repeat (first | refine blk_drewN ?_ _ | refine blk_drew ?_ | refine blk_alloc ?_ _)); refine blk_put (cs := #[.int .i64 ((rd_T276 l0_8 x4_2).f0), .slice A152_1 ((rd_T276 l0_8 x4_2).f1).length c152_1, .int .i64 0, .int .i64 0, .slice none 0 0, .slice none 0 0]) ?_ 2 _ rfl; (with_reducible repeat (first | refine blk_drewN ?_ _ | refine blk_drew ?_ | refine blk_alloc ?_ _)); refine blk_put (cs := #[.int .i64 ((rd_T276 l0_8 x4_2).f0), .slice none 0 0, .int .i64 0, .int .i64 0, .slice none 0 0, .slice none 0 0]) ?_ 1 _ rfl; (with_reducible repeat (first | refine blk_drewN ?_ _ | refine blk_drew ?_ | refine blk_alloc ?_ _)); refine blk_put (cs := #[.int .i64 0, .slice none 0 0, .int .i64 0, .int .i64 0, .slice none 0 0, .slice none 0 0]) ?_ 0 _ rfl; (with_reducible repeat (first | refine blk_drewN ?_ _ | refine blk_drew ?_ | refine blk_alloc ?_ _)); exact BK153.out) hb); replace HB := Aside0.mk (below_step (bw_ HB.out) hb); (try clear hb); obtain ⟨hcz43_0, hcz43_1, hcz43_2, hcz43_3, hcz43_4, hcz43_5, hcz43_6, hcz43_7, hcz43_8⟩ := cells9 BK146.out; obtain ⟨hfz43_0, hfz43_1, hfz43_2, hfz43_3, hfz43_4, hfz43_5, hfz43_6, hfz43_7, hfz43_8⟩ := frozen9 BK146.out; obtain ⟨hcz44_0, hcz44_1, hcz44_2, hcz44_3, hcz44_4, hcz44_5⟩ := cells6 BK153.out; obtain ⟨hfz44_0, hfz44_1, hfz44_2, hfz44_3, hfz44_4, hfz44_5⟩ := frozen6 BK153.out) | (go_at_call 265; (with_reducible refine (spec_l16Counts.calls k2 a0_0 a0_1 a0_2 ((rd_T276 l0_8 x4_2).f0) _ _ ((rd_T276 l0_8 x4_2).f1) ((rd_T276 l0_8 x4_2).f2) ((rd_T276 l0_8 x4_2).f3) _ _ ((rd_T276 l0_8 x4_2).f4) _ _ ((rd_T276 l0_8 x4_2).f5) false _ ?side1 ?side2 ?side3 ?side4 ?side5 ?side6 A26.out).mono ?_); (case side1 => exact Kd.C_below HR152_1.out (bw_ HB.out)); (case side2 => exact HC152_1.out); (case side3 => exact Kd.C_below HR152_4.out (bw_ HB.out)); (case side4 => exact HC152_4.out); (case side5 => exact Kd.C_below HR152_5.out (bw_ HB.out)); (case side6 => exact HC152_5.out); rintro e w45 ⟨rfl, hb⟩; replace HO_3 := Aside0.mk (Kd.R_below (Kd.R_below HO_3.out st_) hb); replace BK146 := Aside0.mk (blk_below (bk_ BK146.out) hb); replace BK153 := Aside0.mk (blk_below (bk_ BK153.out) hb); replace HB := Aside0.mk (below_step (bw_ HB.out) hb); (try clear hb)))
         go_meet
         case rel => exact ⟨_, (true), (by first | rfl | (simp; done) | (simp [*]; done)), H', ⟨by have := HJ1.out; have := HK2.out; first | omega | exact Nat.le_refl _⟩, ⟨Kd.R_below HO_3.out st_⟩, ⟨bk_ BK146.out⟩, ⟨bk_ BK153.out⟩, ⟨bw_ HB.out⟩⟩
        replace c25 := Bool.eq_false_iff.mpr c25
        subst c25
        rw [if_neg (show ¬ (false = true) by decide)] at H
        have H' := Aside0.mk H
        clear H
        have hnb46 := NB146_153.out
        have hnc46 := NB153_146.out
        obtain ⟨hcz47_0, hcz47_1, hcz47_2, hcz47_3, hcz47_4, hcz47_5, hcz47_6, hcz47_7, hcz47_8⟩ := cells9 BK146.out
        obtain ⟨hfz47_0, hfz47_1, hfz47_2, hfz47_3, hfz47_4, hfz47_5, hfz47_6, hfz47_7, hfz47_8⟩ := frozen9 BK146.out
        obtain ⟨hcz48_0, hcz48_1, hcz48_2, hcz48_3, hcz48_4, hcz48_5⟩ := cells6 BK153.out
        obtain ⟨hfz48_0, hfz48_1, hfz48_2, hfz48_3, hfz48_4, hfz48_5⟩ := frozen6 BK153.out
        go_wp2_with (first | ((with_reducible refine gate_callee (f := 264) rfl ?_); refine goesL_ (some 45) rfl rfl Try.func264 (by kernel_rfl) rfl #[.agg #[.int .i64 a0_0, .int .i64 a0_1, .int .i64 a0_2], .agg #[.int .i64 ((rd_T276 l0_8 x4_2).f0), .slice A152_1 ((rd_T276 l0_8 x4_2).f1).length c152_1, .int .i64 ((rd_T276 l0_8 x4_2).f2), .int .i64 ((rd_T276 l0_8 x4_2).f3), .slice A152_4 ((rd_T276 l0_8 x4_2).f4).length c152_4, .slice A152_5 ((rd_T276 l0_8 x4_2).f5).length c152_5]] rfl (by (try simp only [List.map_toArray, List.map_cons, List.map_nil]); first | done | rfl | (simp only [List.length_drop, List.length_take]; rfl)) ?_; (with_reducible refine (spec_l16Blocks.calls k2 a0_0 a0_1 a0_2 ((rd_T276 l0_8 x4_2).f0) _ _ ((rd_T276 l0_8 x4_2).f1) ((rd_T276 l0_8 x4_2).f2) ((rd_T276 l0_8 x4_2).f3) _ _ ((rd_T276 l0_8 x4_2).f4) _ _ ((rd_T276 l0_8 x4_2).f5) false _ ?side1 ?side2 ?side3 ?side4 ?side5 ?side6 A24.out).mono ?_); (case side1 => exact Kd.C_below HR152_1.out (bw_ HB.out)); (case side2 => exact HC152_1.out); (case side3 => exact Kd.C_below HR152_4.out (bw_ HB.out)); (case side4 => exact HC152_4.out); (case side5 => exact Kd.C_below HR152_5.out (bw_ HB.out)); (case side6 => exact HC152_5.out); rintro e w49 ⟨rfl, hb⟩; refine ⟨_, rfl, ?_⟩; replace HO_3 := Aside0.mk (Kd.R_below (by (with_reducible repeat (first | apply Kd.R_alloc | apply Kd.R_drewN | apply Kd.R_drew)); exact (Kd.R_mono (Kd.R_far (p := ⟨gb153, 5, none⟩) (Kd.R_far (p := ⟨gb153, 4, none⟩) (Kd.R_far (p := ⟨gb153, 3, none⟩) (Kd.R_far (p := ⟨gb153, 2, none⟩) (Kd.R_far (p := ⟨gb153, 1, none⟩) (Kd.R_far (p := ⟨gb153, 0, none⟩) (Kd.R_types HO_3.out BK153.out (by decide)) (fun _ hk => hk.2) (.int .i64 ((rd_T276 l0_8 x4_2).f0))) (fun _ hk => hk.2) (.slice A152_1 ((rd_T276 l0_8 x4_2).f1).length c152_1)) (fun _ hk => hk.2) (.int .i64 ((rd_T276 l0_8 x4_2).f2))) (fun _ hk => hk.2) (.int .i64 ((rd_T276 l0_8 x4_2).f3))) (fun _ hk => hk.2) (.slice A152_4 ((rd_T276 l0_8 x4_2).f4).length c152_4)) (fun _ hk => hk.2) (.slice A152_5 ((rd_T276 l0_8 x4_2).f5).length c152_5)) (fun _ h_ => h_.1))) hb); replace BK146 := Aside0.mk (blk_below (g := gb146) (o := .cells #[.int .i64 a0_0, .int .i64 a0_1, .int .i64 a0_2, .slice A0_3 l0_3.length c0_3, .int .i64 a0_4, .int .i64 a0_5, .bool a0_6, .int .i64 a0_7, .slice (some ad152) l0_8.length c0_8] 126 (0, 0)) (by (with_reducible repeat (first | refine blk_drewN ?_ _ | refine blk_drew ?_ | refine blk_alloc ?_ _)); refine blk_far ?_ NB146_153.out _; (with_reducible repeat (first | refine blk_drewN ?_ _ | refine blk_drew ?_ | refine blk_alloc ?_ _)); refine blk_far ?_ NB146_153.out _; (with_reducible repeat (first | refine blk_drewN ?_ _ | refine blk_drew ?_ | refine blk_alloc ?_ _)); refine blk_far ?_ NB146_153.out _; (with_reducible repeat (first | refine blk_drewN ?_ _ | refine blk_drew ?_ | refine blk_alloc ?_ _)); refine blk_far ?_ NB146_153.out _; (with_reducible repeat (first | refine blk_drewN ?_ _ | refine blk_drew ?_ | refine blk_alloc ?_ _)); refine blk_far ?_ NB146_153.out _; (with_reducible repeat (first | refine blk_drewN ?_ _ | refine blk_drew ?_ | refine blk_alloc ?_ _)); refine blk_far ?_ NB146_153.out _; (with_reducible repeat (first | refine blk_drewN ?_ _ | refine blk_drew ?_ | refine blk_alloc ?_ _)); exact BK146.out) hb); replace BK153 := Aside0.mk (blk_below (g := gb153) (o := .cells #[.int .i64 ((rd_T276 l0_8 x4_2).f0), .slice A152_1 ((rd_T276 l0_8 x4_2).f1).length c152_1, .int .i64 ((rd_T276 l0_8 x4_2).f2), .int .i64 ((rd_T276 l0_8 x4_2).f3), .slice A152_4 ((rd_T276 l0_8 x4_2).f4).length c152_4, .slice A152_5 ((rd_T276 l0_8 x4_2).f5).length c152_5] 276 (0, 0)) (by (with_reducible repeat (first | refine blk_drewN ?_ _ | refine blk_drew ?_ | refine blk_alloc ?_ _)); refine blk_put (cs := #[.int .i64 ((rd_T276 l0_8 x4_2).f0), .slice A152_1 ((rd_T276 l0_8 x4_2).f1).length c152_1, .int .i64 ((rd_T276 l0_8 x4_2).f2), .int .i64 ((rd_T276 l0_8 x4_2).f3), .slice A152_4 ((rd_T276 l0_8 x4_2).f4).length c152_4, .slice none 0 0]) ?_ 5 _ rfl; (with_reducible repeat (first | refine blk_drewN ?_ _ | refine blk_drew ?_ | refine blk_alloc ?_ _)); refine blk_put (cs := #[.int .i64 ((rd_T276 l0_8 x4_2).f0), .slice A152_1 ((rd_T276 l0_8 x4_2).f1).length c152_1, .int .i64 ((rd_T276 l0_8 x4_2).f2), .int .i64 ((rd_T276 l0_8 x4_2).f3), .slice none 0 0, .slice none 0 0]) ?_ 4 _ rfl; (with_reducible repeat (first | refine blk_drewN ?_ _ | refine blk_drew ?_ | refine blk_alloc ?_ _)); refine blk_put (cs := #[.int .i64 ((rd_T276 l0_8 x4_2).f0), .slice A152_1 ((rd_T276 l0_8 x4_2).f1).length c152_1, .int .i64 ((rd_T276 l0_8 x4_2).f2), .int .i64 0, .slice none 0 0, .slice none 0 0]) ?_ 3 _ rfl; (with_reducible repeat (first | refine blk_drewN ?_ _ | refine blk_drew ?_ | refine blk_alloc ?_ _)); refine blk_put (cs := #[.int .i64 ((rd_T276 l0_8 x4_2).f0), .slice A152_1 ((rd_T276 l0_8 x4_2).f1).length c152_1, .int .i64 0, .int .i64 0, .slice none 0 0, .slice none 0 0]) ?_ 2 _ rfl; (with_reducible repeat (first | refine blk_drewN ?_ _ | refine blk_drew ?_ | refine blk_alloc ?_ _)); refine blk_put (cs := #[.int .i64 ((rd_T276 l0_8 x4_2).f0), .slice none 0 0, .int .i64 0, .int .i64 0, .slice none 0 0, .slice none 0 0]) ?_ 1 _ rfl; (with_reducible repeat (first | refine blk_drewN ?_ _ | refine blk_drew ?_ | refine blk_alloc ?_ _)); refine blk_put (cs := #[.int .i64 0, .slice none 0 0, .int .i64 0, .int .i64 0, .slice none 0 0, .slice none 0 0]) ?_ 0 _ rfl; (with_reducible repeat (first | refine blk_drewN ?_ _ | refine blk_drew ?_ | refine blk_alloc ?_ _)); exact BK153.out) hb); replace HB := Aside0.mk (below_step (bw_ HB.out) hb); (try clear hb)))
        go_meet
        case rel => exact ⟨_, (true), (by first | rfl | (simp; done) | (simp [*]; done)), H', ⟨by have := HJ1.out; have := HK2.out; first | omega | exact Nat.le_refl _⟩, ⟨Kd.R_below HO_3.out st_⟩, ⟨bk_ BK146.out⟩, ⟨bk_ BK153.out⟩, ⟨bw_ HB.out⟩⟩
       case rest =>
        clear HC19
        obtain ⟨kq, x61_18, rfl, HA, HJ18, HO_3, BK146, BK153, HB⟩ := hcut
        cases kq with
        | zero => exact absurd HA.out (by simp [spec_ValidDevice.j2])
        | succ kj18 =>
         have H := HA.out
         clear HA
         simp only [spec_ValidDevice.j2] at H
         by_cases c50 : x61_18 = true
         ·subst c50
          rw [if_pos rfl] at H
          obtain rfl := Option.some.inj H
          go_wp2
          go_ret
          exact ⟨by first | rfl | (simp [errW_none, errW_some] <;> rfl) | (simp [*, errW_none, errW_some] <;> rfl), bw_ HB.out⟩
         replace c50 := Bool.eq_false_iff.mpr c50
         subst c50
         rw [if_neg (show ¬ (false = true) by decide)] at H
         have H' := Aside0.mk H
         clear H
         go_wp2
         go_loopg [3, 6] kj18 (fun kq v3 v6 w' => ∃ (x3_4 : List Int) (x6_4 : Int), v6 = .int .i64 x6_4 ∧ Aside0 (spec_ValidDevice.l1 kq x3_4 x4_2 x6_4 a0_0 a0_1 a0_2 l0_3 a0_4 a0_5 a0_6 a0_7 l0_8 ((rd_T276 l0_8 x4_2).f0) ((rd_T276 l0_8 x4_2).f1) ((rd_T276 l0_8 x4_2).f2) ((rd_T276 l0_8 x4_2).f3) ((rd_T276 l0_8 x4_2).f4) ((rd_T276 l0_8 x4_2).f5) = some r) ∧ Aside0 (kq ≤ kj18) ∧ Aside0 (Kd.R (Kd.int .i64) 2 w' w.heap.size (fun _ => True) v3 x3_4) ∧ Aside0 (w'.heap[gb146]? = some (.cells #[.int .i64 a0_0, .int .i64 a0_1, .int .i64 a0_2, (.slice A0_3 l0_3.length c0_3), .int .i64 a0_4, .int .i64 a0_5, .bool a0_6, .int .i64 a0_7, (.slice (some ad152) l0_8.length c0_8)] 126 (0, 0))) ∧ Aside0 (w'.heap[gb153]? = some (.cells #[.int .i64 ((rd_T276 l0_8 x4_2).f0), (.slice A152_1 ((rd_T276 l0_8 x4_2).f1).length c152_1), .int .i64 ((rd_T276 l0_8 x4_2).f2), .int .i64 ((rd_T276 l0_8 x4_2).f3), (.slice A152_4 ((rd_T276 l0_8 x4_2).f4).length c152_4), (.slice A152_5 ((rd_T276 l0_8 x4_2).f5).length c152_5)] 276 (0, 0))) ∧ Aside0 (Below w.heap.size w w'))
         case atStart => exact ⟨(x3_2), (0), (by first | rfl | (simp; done) | (simp [*]; done)), H', ⟨Nat.le_refl _⟩, ⟨Kd.R_below HO_3.out st_⟩, ⟨bk_ BK146.out⟩, ⟨bk_ BK153.out⟩, ⟨bw_ HB.out⟩⟩
         case round =>
          clear H'
          obtain ⟨x3_4, x6_4, rfl, HA, HK4, HO_3, BK146, BK153, HB⟩ := hrel
          cases gk with
          | zero => exact absurd HA.out (by simp [spec_ValidDevice.l1])
          | succ k4 =>
           have H := HA.out
           clear HA
           simp only [spec_ValidDevice.l1] at H
           by_cases c51 : x6_4 < (((rd_T276 l0_8 x4_2).f1).length : Int)
           ·rw [if_pos c51] at H
            have c51b0 : decide (x6_4 < (((rd_T276 l0_8 x4_2).f1).length : Int)) = true := decide_eq_true c51
            clear c51
            by_cases c52 : 0 ≤ x6_4
            ·rw [if_pos c52] at H
             have c52b0 : decide (0 ≤ x6_4) = true := decide_eq_true c52
             clear c52
             replace H := Option.bind_eq_some_iff.mp H
             obtain ⟨t158, A530, H⟩ := H
             have A53 := Aside0.mk A530
             clear A530
             by_cases c54 : t158 = true
             ·subst c54
              rw [if_pos rfl] at H
              obtain rfl := Option.some.inj H
              have hnb55 := NB153_146.out
              have hnc55 := NB146_153.out
              obtain ⟨hcz56_0, hcz56_1, hcz56_2, hcz56_3, hcz56_4, hcz56_5⟩ := cells6 BK153.out
              obtain ⟨hfz56_0, hfz56_1, hfz56_2, hfz56_3, hfz56_4, hfz56_5⟩ := frozen6 BK153.out
              have p157 : 0 ≤ (x6_4 : Int) := of_decide_eq_true (by first | (with_reducible assumption) | assumption)
              have q157 : x6_4 < (((rd_T276 l0_8 x4_2).f1).length : Int) := of_decide_eq_true (by first | (with_reducible assumption) | assumption)
              obtain ⟨ad157, e157, hx157_0⟩ := Kd.at_int HR152_1.out x6_4 p157 q157
              cases e157
              replace hx157_0 := (HB.out.cell (World.block_lt_of_cell? w _ hx157_0)).trans hx157_0
              replace p157 := eq_true p157
              replace q157 := eq_true q157
              obtain ⟨Ao57, co57, eo57⟩ := Kd.R_slice HO_3.out
              subst eo57
              go_wp2_with (first | ((with_reducible refine gate_callee (f := 159) rfl ?_); refine goesL_ (some 75) rfl rfl Try.func159 (by kernel_rfl) rfl #[.slice Ao57 x3_4.length co57, .int .i64 (rd ((rd_T276 l0_8 x4_2).f1) x6_4)] rfl (by (try simp only [List.map_toArray, List.map_cons, List.map_nil]); first | done | rfl | (simp only [List.length_drop, List.length_take]; rfl)) ?_; (with_reducible refine (spec_l00Has.calls k4 _ _ x3_4 (rd ((rd_T276 l0_8 x4_2).f1) x6_4) true _ ?side1 ?side2 A53.out).mono ?_); (case side1 => repeat (first | exact (Kd.R_reads' HO_3.out).2.2 | (with_reducible refine Kd.C_alloc ?_ _) | (with_reducible refine Kd.C_drewN ?_ _) | (with_reducible refine Kd.C_drew ?_))); (case side2 => exact (Kd.R_reads' HO_3.out).2.1); rintro e w' ⟨rfl, ⟨nd, rfl⟩⟩; refine ⟨_, rfl, ?_⟩))
              go_ret
              exact ⟨by first | rfl | (simp [errW_none, errW_some] <;> rfl) | (simp [*, errW_none, errW_some] <;> rfl), bw_ HB.out⟩
             replace c54 := Bool.eq_false_iff.mpr c54
             subst c54
             rw [if_neg (show ¬ (false = true) by decide)] at H
             by_cases c58 : x3_4.length < 17592186044416
             ·rw [if_pos c58] at H
              have LMc58 := Aside0.mk c58
              clear c58
              obtain ⟨y160, hy160⟩ : ∃ y_ : List Int, y_ = (x3_4 ++ [rd ((rd_T276 l0_8 x4_2).f1) x6_4]) := ⟨_, rfl⟩
              replace H : (spec_ValidDevice.l1 k4 y160 x4_2 (wrap64 (x6_4 + 1)) a0_0 a0_1 a0_2 l0_3 a0_4 a0_5 a0_6 a0_7 l0_8 ((rd_T276 l0_8 x4_2).f0) ((rd_T276 l0_8 x4_2).f1) ((rd_T276 l0_8 x4_2).f2) ((rd_T276 l0_8 x4_2).f3) ((rd_T276 l0_8 x4_2).f4) ((rd_T276 l0_8 x4_2).f5)) = some r := by first | (rw [hy160]; with_reducible exact H) | (have H2_ := (Option.bind_some _ _).symm.trans H; rw [hy160]; with_reducible exact H2_) | (have H2_ := (Option.bind_some _ _).symm.trans H; with_reducible exact H2_) | with_reducible exact H | (rw [hy160]; exact H) | exact H
              have Ny160 := Aside0.mk hy160
              clear hy160
              have H' := Aside0.mk H
              clear H
              have hnb59 := NB153_146.out
              have hnc59 := NB146_153.out
              obtain ⟨hcz60_0, hcz60_1, hcz60_2, hcz60_3, hcz60_4, hcz60_5⟩ := cells6 BK153.out
              obtain ⟨hfz60_0, hfz60_1, hfz60_2, hfz60_3, hfz60_4, hfz60_5⟩ := frozen6 BK153.out
              have p157 : 0 ≤ (x6_4 : Int) := of_decide_eq_true (by first | (with_reducible assumption) | assumption)
              have q157 : x6_4 < (((rd_T276 l0_8 x4_2).f1).length : Int) := of_decide_eq_true (by first | (with_reducible assumption) | assumption)
              obtain ⟨ad157, e157, hx157_0⟩ := Kd.at_int HR152_1.out x6_4 p157 q157
              cases e157
              replace hx157_0 := (HB.out.cell (World.block_lt_of_cell? w _ hx157_0)).trans hx157_0
              replace p157 := eq_true p157
              replace q157 := eq_true q157
              obtain ⟨Ao61, co61, eo61⟩ := Kd.R_slice HO_3.out
              subst eo61
              go_wp2_with (first | ((with_reducible refine gate_callee (f := 159) rfl ?_); refine goesL_ (some 75) rfl rfl Try.func159 (by kernel_rfl) rfl #[.slice Ao61 x3_4.length co61, .int .i64 (rd ((rd_T276 l0_8 x4_2).f1) x6_4)] rfl (by (try simp only [List.map_toArray, List.map_cons, List.map_nil]); first | done | rfl | (simp only [List.length_drop, List.length_take]; rfl)) ?_; (with_reducible refine (spec_l00Has.calls k4 _ _ x3_4 (rd ((rd_T276 l0_8 x4_2).f1) x6_4) false _ ?side1 ?side2 A53.out).mono ?_); (case side1 => repeat (first | exact (Kd.R_reads' HO_3.out).2.2 | (with_reducible refine Kd.C_alloc ?_ _) | (with_reducible refine Kd.C_drewN ?_ _) | (with_reducible refine Kd.C_drew ?_))); (case side2 => exact (Kd.R_reads' HO_3.out).2.1); rintro e w' ⟨rfl, ⟨nd, rfl⟩⟩; refine ⟨_, rfl, ?_⟩; have p159 : 0 ≤ (x6_4 : Int) := of_decide_eq_true (by first | (with_reducible assumption) | assumption); have q159 : x6_4 < (((rd_T276 l0_8 x4_2).f1).length : Int) := of_decide_eq_true (by first | (with_reducible assumption) | assumption); obtain ⟨ad159, e159, hx159_0⟩ := Kd.at_int HR152_1.out x6_4 p159 q159; obtain rfl : ad157 = ad159 := (by injection e159); replace hx159_0 := (HB.out.cell (World.block_lt_of_cell? w _ hx159_0)).trans hx159_0; replace p159 := eq_true p159; replace q159 := eq_true q159) | ((with_reducible refine gate_builtin (b := .append) (xs := #[.tmp 76, .tmp 82]) rfl ?_); (try (refine gate_guard (by rfl) ?_; dsimp only)); at_builtin; refine Kd.R_append (Kd.int .i64) (w0 := w) w.heap.size rfl (.tmp 76) (.tmp 82) 23 2 (.int .i64 0) 8 rfl Try.underlying23 info2 rfl (by decide) (by omega) (.slice Ao61 x3_4.length co61) x3_4 (rd ((rd_T276 l0_8 x4_2).f1) x6_4) [.int .i64 (rd ((rd_T276 l0_8 x4_2).f1) x6_4)] (fun _ => True) (fun _ => False) rfl rfl ?aP (fun _ hk => hk.elim) ?aF ?aO ?aB ?aS ?aL ?_; (case aP => exact rfl); (case aB => exact (bw_ HB.out)); (case aF => exact (fun _ _ => trivial)); (case aO => exact (Kd.R_below HO_3.out st_)); (case aS => exact (below_size (bw_ HB.out))); (case aL => have := LMc58.out; omega); intro v161 w62 ho hb hg hat; rw [← Ny160.out] at ho; replace BK146 := Aside0.mk (blk_grown (bk_ BK146.out) hg (Kd.R_ne HO_3.out BK146.out (by decide))); replace BK153 := Aside0.mk (blk_grown (bk_ BK153.out) hg (Kd.R_ne HO_3.out BK153.out (by decide))); replace HB := Aside0.mk (hb); have HO162 := Aside0.mk (ho); clear HO_3; clear ho hb hg hat))
              go_roundg k4
              case measure => have := HJ1.out; have := HK2.out; have := HJ18.out; have := HK4.out; omega
              case rel => exact ⟨(y160), (wrap64 (x6_4 + 1)), (by first | rfl | (simp; done) | (simp [*]; done)), H', ⟨by have := HJ1.out; have := HK2.out; have := HJ18.out; have := HK4.out; omega⟩, ⟨Kd.R_below HO162.out st_⟩, ⟨bk_ BK146.out⟩, ⟨bk_ BK153.out⟩, ⟨bw_ HB.out⟩⟩
             rw [if_neg c58] at H
             exact absurd H (by simp)
            rw [if_neg c52] at H
            exact absurd H (by simp)
           rw [if_neg c51] at H
           have c51b0 : decide (x6_4 < (((rd_T276 l0_8 x4_2).f1).length : Int)) = false := decide_eq_false c51
           clear c51
           have H' := Aside0.mk H
           clear H
           have hnb63 := NB153_146.out
           have hnc63 := NB146_153.out
           obtain ⟨hcz64_0, hcz64_1, hcz64_2, hcz64_3, hcz64_4, hcz64_5⟩ := cells6 BK153.out
           obtain ⟨hfz64_0, hfz64_1, hfz64_2, hfz64_3, hfz64_4, hfz64_5⟩ := frozen6 BK153.out
           go_wp2
           go_roundg k4
           case measure => have := HJ1.out; have := HK2.out; have := HJ18.out; have := HK4.out; omega
           case rel => exact ⟨(x3_4), (wrap64 (x4_2 + 1)), (by first | rfl | (simp; done) | (simp [*]; done)), H', ⟨by have := HJ1.out; have := HK2.out; have := HJ18.out; have := HK4.out; omega⟩, ⟨Kd.R_below HO_3.out st_⟩, ⟨bk_ BK146.out⟩, ⟨bw_ HB.out⟩⟩
      rw [if_neg c18] at H
      exact absurd H (by simp)
     rw [if_neg c17] at H
     have c17b0 : decide (x4_2 < (l0_8.length : Int)) = false := decide_eq_false c17
     clear c17
     obtain rfl := Option.some.inj H
     obtain ⟨hcz65_0, hcz65_1, hcz65_2, hcz65_3, hcz65_4, hcz65_5, hcz65_6, hcz65_7, hcz65_8⟩ := cells9 BK146.out
     obtain ⟨hfz65_0, hfz65_1, hfz65_2, hfz65_3, hfz65_4, hfz65_5, hfz65_6, hfz65_7, hfz65_8⟩ := frozen9 BK146.out
     go_wp2
     go_ret
     exact ⟨by first | rfl | (simp [errW_none, errW_some] <;> rfl) | (simp [*, errW_none, errW_some] <;> rfl), bw_ HB.out⟩

end Go.Proofs.Ytokonpkecmnneaa.QFnExactRoomInx
