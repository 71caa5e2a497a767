-- made by mp, a turned copy of the print: proofs of this session's
import Derived.Test.YtokonpkecmnneaaQFnExactRoomInx0
import Derived.Test.YtokonpkecmnneaaQFnExactRoomInx9
import Derived.Test.YtokonpkecmnneaaQFnExactRoomInx10
import Derived.Test.YtokonpkecmnneaaQFnExactRoomInx11
import Derived.Test.YtokonpkecmnneaaQFnExactRoomInx12
import Derived.Test.YtokonpkecmnneaaQFnExactRoomInx13
import Derived.Test.YtokonpkecmnneaaHk
namespace Go.Proofs.Ytokonpkecmnneaa.QFnExactRoomInx
open Go.RowKit Go.Proofs.YtokonpkecmnneaaW.PrintWords Go.Proofs.YtokonpkecmnneaaW.PrintLast Go.Proofs.YtokonpkecmnneaaW.PrintMore
open Go.Proofs.YtokonpkecmnneaaHw Go.Proofs.YtokonpkecmnneaaHo Go.Proofs.YtokonpkecmnneaaHm Go.Proofs.YtokonpkecmnneaaHk
attribute [local go_sem] binOp_leq_hw binOp_geq_hw binOp_gtr_hw
attribute [local go_sem] max2_int min2_int max_two min_two max_three min_three max_four min_four   -- for this text's walks alone
set_option linter.unusedVariables false
set_option linter.unusedSimpArgs false

/-! ### impl_ValidDevice: function 185 -/
mutual
def impl_ValidDevice.j0 : Nat → Bool → Int → Int → Int → List (S218) → Int → Int → Bool → Int → List (S276) → Option (Bool)
 | 0, _, _, _, _, _, _, _, _, _, _ => none
 | k + 1, x23, x290000, x290001, x290002, x290003, x290004, x290005, x290006, x290007, x290008 => if x23 = true then (some false) else (impl_ValidDevice.l0 k x290008 (x290008.length : Int) 0 x290000 x290001 x290002 x290003 x290004 x290005 x290006 x290007 x290008 ([] : List Int))
def impl_ValidDevice.l0 : Nat → List (S276) → Int → Int → Int → Int → Int → List (S218) → Int → Int → Bool → Int → List (S276) → List Int → Option (Bool)
 | 0, _, _, _, _, _, _, _, _, _, _, _, _, _ => none
 | k + 1, x26, x27, x28, x290000, x290001, x290002, x290003, x290004, x290005, x290006, x290007, x290008, x293000 => if x28 < x27 then (if 0 ≤ x28 then (if x28 < (x26.length : Int) then ((impl_Device_placesOk.f k x290000 x290001 x290002 x290003 x290004 x290005 x290006 x290007 x290008 ((rd_T276 x26 x28).f0) ((rd_T276 x26 x28).f1) ((rd_T276 x26 x28).f2) ((rd_T276 x26 x28).f3) ((rd_T276 x26 x28).f4) ((rd_T276 x26 x28).f5)).bind fun t295 => (if t295 = true then ((impl_Device_contentsOk.f k x290000 x290001 x290002 x290003 x290004 x290005 x290006 x290007 x290008 ((rd_T276 x26 x28).f0) ((rd_T276 x26 x28).f1) ((rd_T276 x26 x28).f2) ((rd_T276 x26 x28).f3) ((rd_T276 x26 x28).f4) ((rd_T276 x26 x28).f5)).bind fun t296 => (if t296 = true then ((impl_Device_stateOk.f x290000 x290001 x290002 x290003 x290004 x290005 x290006 x290007 x290008 ((rd_T276 x26 x28).f0) ((rd_T276 x26 x28).f1) ((rd_T276 x26 x28).f2) ((rd_T276 x26 x28).f3) ((rd_T276 x26 x28).f4) ((rd_T276 x26 x28).f5)).bind fun t297 => (impl_ValidDevice.j2 k x26 x27 x28 (!t297) x290000 x290001 x290002 x290003 x290004 x290005 x290006 x290007 x290008 x293000 ((rd_T276 x26 x28).f0) ((rd_T276 x26 x28).f1) ((rd_T276 x26 x28).f2) ((rd_T276 x26 x28).f3) ((rd_T276 x26 x28).f4) ((rd_T276 x26 x28).f5))) else (impl_ValidDevice.j2 k x26 x27 x28 true x290000 x290001 x290002 x290003 x290004 x290005 x290006 x290007 x290008 x293000 ((rd_T276 x26 x28).f0) ((rd_T276 x26 x28).f1) ((rd_T276 x26 x28).f2) ((rd_T276 x26 x28).f3) ((rd_T276 x26 x28).f4) ((rd_T276 x26 x28).f5)))) else (impl_ValidDevice.j2 k x26 x27 x28 true x290000 x290001 x290002 x290003 x290004 x290005 x290006 x290007 x290008 x293000 ((rd_T276 x26 x28).f0) ((rd_T276 x26 x28).f1) ((rd_T276 x26 x28).f2) ((rd_T276 x26 x28).f3) ((rd_T276 x26 x28).f4) ((rd_T276 x26 x28).f5)))) else (none)) else (none)) else (some true)
def impl_ValidDevice.j2 : Nat → List (S276) → Int → Int → Bool → Int → Int → Int → List (S218) → Int → Int → Bool → Int → List (S276) → List Int → Int → List Int → Int → Int → List Int → List ByteArray → Option (Bool)
 | 0, _, _, _, _, _, _, _, _, _, _, _, _, _, _, _, _, _, _, _, _ => none
 | k + 1, x26, x27, x28, x44, x290000, x290001, x290002, x290003, x290004, x290005, x290006, x290007, x290008, x293000, x295000, x295001, x295002, x295003, x295004, x295005 => if x44 = true then (some false) else (impl_ValidDevice.l1 k x26 x27 x28 x295001 (x295001.length : Int) 0 x290000 x290001 x290002 x290003 x290004 x290005 x290006 x290007 x290008 x293000)
def impl_ValidDevice.l1 : Nat → List (S276) → Int → Int → List Int → Int → Int → Int → Int → Int → List (S218) → Int → Int → Bool → Int → List (S276) → List Int → Option (Bool)
 | 0, _, _, _, _, _, _, _, _, _, _, _, _, _, _, _, _ => none
 | k + 1, x26, x27, x28, x46, x47, x48, x290000, x290001, x290002, x290003, x290004, x290005, x290006, x290007, x290008, x293000 => if x48 < x47 then (if 0 ≤ x48 then (if x48 < (x46.length : Int) then (if lookOk (rd x46 x48) x293000 = true then (if (inSet (rd x46 x48) x293000) = true then (some false) else (if addOk (rd x46 x48) x293000 = true then (impl_ValidDevice.l1 k x26 x27 x28 x46 x47 (wrap64 (x48 + 1)) x290000 x290001 x290002 x290003 x290004 x290005 x290006 x290007 x290008 ((rd x46 x48) :: x293000)) else (none))) else (none)) else (none)) else (none)) else (impl_ValidDevice.l0 k x26 x27 (wrap64 (x28 + 1)) x290000 x290001 x290002 x290003 x290004 x290005 x290006 x290007 x290008 x293000)
end
def impl_ValidDevice.f (k : Nat) (a0_0 : Int) (a0_1 : Int) (a0_2 : Int) (l0_3 : List (S218)) (a0_4 : Int) (a0_5 : Int) (a0_6 : Bool) (a0_7 : Int) (l0_8 : List (S276)) : Option (Bool) := (impl_ValidFlash.f k a0_0 a0_1 a0_2 l0_3 a0_4 a0_5 a0_6 a0_7).bind fun t290 => (if t290 = true then ((impl_within.f (l0_8.length : Int) 1 (mn 12 a0_1)).bind fun t291 => (impl_ValidDevice.j0 k (!t291) a0_0 a0_1 a0_2 l0_3 a0_4 a0_5 a0_6 a0_7 l0_8)) else (impl_ValidDevice.j0 k true a0_0 a0_1 a0_2 l0_3 a0_4 a0_5 a0_6 a0_7 l0_8))
theorem impl_ValidDevice.mono_l : ∀ k, (∀ y0 y1 y2 y3 y4 y5 y6 y7 y8 y9, LeO (impl_ValidDevice.j0 k y0 y1 y2 y3 y4 y5 y6 y7 y8 y9) (impl_ValidDevice.j0 (k + 1) y0 y1 y2 y3 y4 y5 y6 y7 y8 y9)) ∧ (∀ y0 y1 y2 y3 y4 y5 y6 y7 y8 y9 y10 y11 y12, LeO (impl_ValidDevice.l0 k y0 y1 y2 y3 y4 y5 y6 y7 y8 y9 y10 y11 y12) (impl_ValidDevice.l0 (k + 1) y0 y1 y2 y3 y4 y5 y6 y7 y8 y9 y10 y11 y12)) ∧ (∀ y0 y1 y2 y3 y4 y5 y6 y7 y8 y9 y10 y11 y12 y13 y14 y15 y16 y17 y18 y19, LeO (impl_ValidDevice.j2 k y0 y1 y2 y3 y4 y5 y6 y7 y8 y9 y10 y11 y12 y13 y14 y15 y16 y17 y18 y19) (impl_ValidDevice.j2 (k + 1) y0 y1 y2 y3 y4 y5 y6 y7 y8 y9 y10 y11 y12 y13 y14 y15 y16 y17 y18 y19)) ∧ (∀ y0 y1 y2 y3 y4 y5 y6 y7 y8 y9 y10 y11 y12 y13 y14 y15, LeO (impl_ValidDevice.l1 k y0 y1 y2 y3 y4 y5 y6 y7 y8 y9 y10 y11 y12 y13 y14 y15) (impl_ValidDevice.l1 (k + 1) y0 y1 y2 y3 y4 y5 y6 y7 y8 y9 y10 y11 y12 y13 y14 y15))
 | 0 => ⟨fun _ _ _ _ _ _ _ _ _ _ r h => by simp [impl_ValidDevice.j0] at h, fun _ _ _ _ _ _ _ _ _ _ _ _ _ r h => by simp [impl_ValidDevice.l0] at h, fun _ _ _ _ _ _ _ _ _ _ _ _ _ _ _ _ _ _ _ _ r h => by simp [impl_ValidDevice.j2] at h, fun _ _ _ _ _ _ _ _ _ _ _ _ _ _ _ _ r h => by simp [impl_ValidDevice.l1] at h⟩
 | k + 1 => by
  obtain ⟨ih0, ih1, ih2, ih3⟩ := impl_ValidDevice.mono_l k
  refine ⟨?_, ?_, ?_, ?_⟩
  ·intro y0 y1 y2 y3 y4 y5 y6 y7 y8 y9
   unfold impl_ValidDevice.j0
   repeat' first
   | (with_reducible exact ih0 _ _ _ _ _ _ _ _ _ _)
   | (with_reducible exact ih1 _ _ _ _ _ _ _ _ _ _ _ _ _)
   | (with_reducible exact ih2 _ _ _ _ _ _ _ _ _ _ _ _ _ _ _ _ _ _ _ _)
   | (with_reducible exact ih3 _ _ _ _ _ _ _ _ _ _ _ _ _ _ _ _)
   | (with_reducible exact impl_Device_contentsOk.mono _ _ _ _ _ _ _ _ _ _ _ _ _ _ _ _)
   | (with_reducible exact impl_Device_placesOk.mono _ _ _ _ _ _ _ _ _ _ _ _ _ _ _ _)
   | (with_reducible exact impl_ValidFlash.mono _ _ _ _ _ _ _ _ _)
   | (with_reducible exact LeO.refl _)
   | (with_reducible exact LeO.none _)
   | (with_reducible refine LeO.ite ?_ ?_)
   | (with_reducible refine LeO.bind ?_ (fun _ => ?_))
   | exact ih0 _ _ _ _ _ _ _ _ _ _
   | exact ih1 _ _ _ _ _ _ _ _ _ _ _ _ _
   | exact ih2 _ _ _ _ _ _ _ _ _ _ _ _ _ _ _ _ _ _ _ _
   | exact ih3 _ _ _ _ _ _ _ _ _ _ _ _ _ _ _ _
   | exact impl_Device_contentsOk.mono _ _ _ _ _ _ _ _ _ _ _ _ _ _ _ _
   | exact impl_Device_placesOk.mono _ _ _ _ _ _ _ _ _ _ _ _ _ _ _ _
   | exact impl_ValidFlash.mono _ _ _ _ _ _ _ _ _
   | exact LeO.none _
   | refine LeO.ite ?_ ?_
   | refine LeO.bind ?_ (fun _ => ?_)
  ·intro y0 y1 y2 y3 y4 y5 y6 y7 y8 y9 y10 y11 y12
   unfold impl_ValidDevice.l0
   repeat' first
   | (with_reducible exact ih0 _ _ _ _ _ _ _ _ _ _)
   | (with_reducible exact ih1 _ _ _ _ _ _ _ _ _ _ _ _ _)
   | (with_reducible exact ih2 _ _ _ _ _ _ _ _ _ _ _ _ _ _ _ _ _ _ _ _)
   | (with_reducible exact ih3 _ _ _ _ _ _ _ _ _ _ _ _ _ _ _ _)
   | (with_reducible exact impl_Device_contentsOk.mono _ _ _ _ _ _ _ _ _ _ _ _ _ _ _ _)
   | (with_reducible exact impl_Device_placesOk.mono _ _ _ _ _ _ _ _ _ _ _ _ _ _ _ _)
   | (with_reducible exact impl_ValidFlash.mono _ _ _ _ _ _ _ _ _)
   | (with_reducible exact LeO.refl _)
   | (with_reducible exact LeO.none _)
   | (with_reducible refine LeO.ite ?_ ?_)
   | (with_reducible refine LeO.bind ?_ (fun _ => ?_))
   | exact ih0 _ _ _ _ _ _ _ _ _ _
   | exact ih1 _ _ _ _ _ _ _ _ _ _ _ _ _
   | exact ih2 _ _ _ _ _ _ _ _ _ _ _ _ _ _ _ _ _ _ _ _
   | exact ih3 _ _ _ _ _ _ _ _ _ _ _ _ _ _ _ _
   | exact impl_Device_contentsOk.mono _ _ _ _ _ _ _ _ _ _ _ _ _ _ _ _
   | exact impl_Device_placesOk.mono _ _ _ _ _ _ _ _ _ _ _ _ _ _ _ _
   | exact impl_ValidFlash.mono _ _ _ _ _ _ _ _ _
   | exact LeO.none _
   | refine LeO.ite ?_ ?_
   | refine LeO.bind ?_ (fun _ => ?_)
  ·intro y0 y1 y2 y3 y4 y5 y6 y7 y8 y9 y10 y11 y12 y13 y14 y15 y16 y17 y18 y19
   unfold impl_ValidDevice.j2
   repeat' first
   | (with_reducible exact ih0 _ _ _ _ _ _ _ _ _ _)
   | (with_reducible exact ih1 _ _ _ _ _ _ _ _ _ _ _ _ _)
   | (with_reducible exact ih2 _ _ _ _ _ _ _ _ _ _ _ _ _ _ _ _ _ _ _ _)
   | (with_reducible exact ih3 _ _ _ _ _ _ _ _ _ _ _ _ _ _ _ _)
   | (with_reducible exact impl_Device_contentsOk.mono _ _ _ _ _ _ _ _ _ _ _ _ _ _ _ _)
   | (with_reducible exact impl_Device_placesOk.mono _ _ _ _ _ _ _ _ _ _ _ _ _ _ _ _)
   | (with_reducible exact impl_ValidFlash.mono _ _ _ _ _ _ _ _ _)
   | (with_reducible exact LeO.refl _)
   | (with_reducible exact LeO.none _)
   | (with_reducible refine LeO.ite ?_ ?_)
   | (with_reducible refine LeO.bind ?_ (fun _ => ?_))
   | exact ih0 _ _ _ _ _ _ _ _ _ _
   | exact ih1 _ _ _ _ _ _ _ _ _ _ _ _ _
   | exact ih2 _ _ _ _ _ _ _ _ _ _ _ _ _ _ _ _ _ _ _ _
   | exact ih3 _ _ _ _ _ _ _ _ _ _ _ _ _ _ _ _
   | exact impl_Device_contentsOk.mono _ _ _ _ _ _ _ _ _ _ _ _ _ _ _ _
   | exact impl_Device_placesOk.mono _ _ _ _ _ _ _ _ _ _ _ _ _ _ _ _
   | exact impl_ValidFlash.mono _ _ _ _ _ _ _ _ _
   | exact LeO.none _
   | refine LeO.ite ?_ ?_
   | refine LeO.bind ?_ (fun _ => ?_)
  ·intro y0 y1 y2 y3 y4 y5 y6 y7 y8 y9 y10 y11 y12 y13 y14 y15
   unfold impl_ValidDevice.l1
   repeat' first
   | (with_reducible exact ih0 _ _ _ _ _ _ _ _ _ _)
   | (with_reducible exact ih1 _ _ _ _ _ _ _ _ _ _ _ _ _)
   | (with_reducible exact ih2 _ _ _ _ _ _ _ _ _ _ _ _ _ _ _ _ _ _ _ _)
   | (with_reducible exact ih3 _ _ _ _ _ _ _ _ _ _ _ _ _ _ _ _)
   | (with_reducible exact impl_Device_contentsOk.mono _ _ _ _ _ _ _ _ _ _ _ _ _ _ _ _)
   | (with_reducible exact impl_Device_placesOk.mono _ _ _ _ _ _ _ _ _ _ _ _ _ _ _ _)
   | (with_reducible exact impl_ValidFlash.mono _ _ _ _ _ _ _ _ _)
   | (with_reducible exact LeO.refl _)
   | (with_reducible exact LeO.none _)
   | (with_reducible refine LeO.ite ?_ ?_)
   | (with_reducible refine LeO.bind ?_ (fun _ => ?_))
   | exact ih0 _ _ _ _ _ _ _ _ _ _
   | exact ih1 _ _ _ _ _ _ _ _ _ _ _ _ _
   | exact ih2 _ _ _ _ _ _ _ _ _ _ _ _ _ _ _ _ _ _ _ _
   | exact ih3 _ _ _ _ _ _ _ _ _ _ _ _ _ _ _ _
   | exact impl_Device_contentsOk.mono _ _ _ _ _ _ _ _ _ _ _ _ _ _ _ _
   | exact impl_Device_placesOk.mono _ _ _ _ _ _ _ _ _ _ _ _ _ _ _ _
   | exact impl_ValidFlash.mono _ _ _ _ _ _ _ _ _
   | exact LeO.none _
   | refine LeO.ite ?_ ?_
   | refine LeO.bind ?_ (fun _ => ?_)
theorem impl_ValidDevice.mono : ∀ a0 a1 a2 a3 a4 a5 a6 a7 a8 k, LeO (impl_ValidDevice.f k a0 a1 a2 a3 a4 a5 a6 a7 a8) (impl_ValidDevice.f (k + 1) a0 a1 a2 a3 a4 a5 a6 a7 a8) := by
 intro a0 a1 a2 a3 a4 a5 a6 a7 a8 k
 obtain ⟨ih0, ih1, ih2, ih3⟩ := impl_ValidDevice.mono_l k
 unfold impl_ValidDevice.f
 repeat' first
   | (with_reducible exact ih0 _ _ _ _ _ _ _ _ _ _)
   | (with_reducible exact ih1 _ _ _ _ _ _ _ _ _ _ _ _ _)
   | (with_reducible exact ih2 _ _ _ _ _ _ _ _ _ _ _ _ _ _ _ _ _ _ _ _)
   | (with_reducible exact ih3 _ _ _ _ _ _ _ _ _ _ _ _ _ _ _ _)
   | (with_reducible exact impl_Device_contentsOk.mono _ _ _ _ _ _ _ _ _ _ _ _ _ _ _ _)
   | (with_reducible exact impl_Device_placesOk.mono _ _ _ _ _ _ _ _ _ _ _ _ _ _ _ _)
   | (with_reducible exact impl_ValidFlash.mono _ _ _ _ _ _ _ _ _)
   | (with_reducible exact LeO.refl _)
   | (with_reducible exact LeO.none _)
   | (with_reducible refine LeO.ite ?_ ?_)
   | (with_reducible refine LeO.bind ?_ (fun _ => ?_))
   | exact ih0 _ _ _ _ _ _ _ _ _ _
   | exact ih1 _ _ _ _ _ _ _ _ _ _ _ _ _
   | exact ih2 _ _ _ _ _ _ _ _ _ _ _ _ _ _ _ _ _ _ _ _
   | exact ih3 _ _ _ _ _ _ _ _ _ _ _ _ _ _ _ _
   | exact impl_Device_contentsOk.mono _ _ _ _ _ _ _ _ _ _ _ _ _ _ _ _
   | exact impl_Device_placesOk.mono _ _ _ _ _ _ _ _ _ _ _ _ _ _ _ _
   | exact impl_ValidFlash.mono _ _ _ _ _ _ _ _ _
   | exact LeO.none _
   | refine LeO.ite ?_ ?_
   | refine LeO.bind ?_ (fun _ => ?_)
set_option maxHeartbeats 8000000 in
set_option maxRecDepth 100000 in
theorem impl_ValidDevice.calls (k : Nat) (a0_0 : Int) (a0_1 : Int) (a0_2 : Int) (A0_3 : Option Addr) (c0_3 : Nat) (l0_3 : List (S218)) (a0_4 : Int) (a0_5 : Int) (a0_6 : Bool) (a0_7 : Int) (A0_8 : Option Addr) (c0_8 : Nat) (l0_8 : List (S276)) (r : Bool) (w : World) (hr0_3 : Kd.C k218 w A0_3 l0_3.length l0_3) (hc0_3 : l0_3.length ≤ c0_3) (hr0_8 : Kd.C k276 w A0_8 l0_8.length l0_8) (hc0_8 : l0_8.length ≤ c0_8) (h : impl_ValidDevice.f k a0_0 a0_1 a0_2 l0_3 a0_4 a0_5 a0_6 a0_7 l0_8 = some r) :
  Calls Try.prog 185 #[.agg #[.int .i64 a0_0, .int .i64 a0_1, .int .i64 a0_2, .slice A0_3 l0_3.length c0_3, .int .i64 a0_4, .int .i64 a0_5, .bool a0_6, .int .i64 a0_7, .slice A0_8 l0_8.length c0_8]] w fun e w' => e = .returned (.bool r) ∧ Below w.heap.size w w' := by
 have hu126 := Try.underlying126
 have hu45 := Try.underlying45
 have hu276 := Try.underlying276
 have HR0_3 := Aside0.mk hr0_3
 have HC0_3 := Aside0.mk hc0_3
 clear hr0_3 hc0_3
 have HR0_8 := Aside0.mk hr0_8
 have HC0_8 := Aside0.mk hc0_8
 clear hr0_8 hc0_8
 have HB := Aside0.mk (Below.refl w.heap.size w)
 have H := h; unfold impl_ValidDevice.f at H
 clear h
 have HC2 := Aside0.mk H
 clear H
 go_enter Try.func185, Try.ntmps185
 go_upto_region 1 with (first | ((with_reducible refine gate_dst (N := 1) rfl ?_); (try (refine gate_guard (by rfl) ?_; dsimp only)); refine box_event ?hg (N := 1) ?hd (cs := #[.int .i64 a0_0, .int .i64 a0_1, .int .i64 a0_2, .slice A0_3 l0_3.length c0_3, .int .i64 a0_4, .int .i64 a0_5, .bool a0_6, .int .i64 a0_7, .slice A0_8 l0_8.length c0_8]) (t := 126) ?hr ?_; (case hd => rfl); (case hg => rfl); (case hr => first | (go_simp; done) | (go_simp; rfl)); intro gb289 hg w3 hbox hb; have BK289 := Aside0.mk (hbox); have GW289 := Aside0.mk ((by rw [hg]; exact (below_size (bw_ HB.out)) : w.heap.size ≤ gb289)); have GE289 := Nonempty.intro GW289.out; replace HB := Aside0.mk (below_step (bw_ HB.out) hb); clear hb hbox hg))
 (try simp only [Act.put, List.setIfInBounds_toArray, List.set_cons_zero, List.set_cons_succ])
 go_cut [23] (fun v23 wc => ∃ (kq : Nat) (x23_1 : Bool), v23 = .bool x23_1 ∧ Aside0 (impl_ValidDevice.j0 kq x23_1 a0_0 a0_1 a0_2 l0_3 a0_4 a0_5 a0_6 a0_7 l0_8 = some r) ∧ Aside0 (kq ≤ k) ∧ Aside0 (wc.heap[gb289]? = some (.cells #[.int .i64 a0_0, .int .i64 a0_1, .int .i64 a0_2, (.slice A0_3 l0_3.length c0_3), .int .i64 a0_4, .int .i64 a0_5, .bool a0_6, .int .i64 a0_7, (.slice A0_8 l0_8.length c0_8)] 126 (0, 0))) ∧ Aside0 (Below w.heap.size w wc))
 case first =>
  have H := HC2.out
  clear HC2
  replace H := Option.bind_eq_some_iff.mp H
  obtain ⟨t290, A40, H⟩ := H
  have A4 := Aside0.mk A40
  clear A40
  by_cases c5 : t290 = true
  ·subst c5
   rw [if_pos rfl] at H
   obtain ⟨ji6, hji6⟩ : ∃ j_ : Int, (mn 12 a0_1) = j_ := ⟨_, rfl⟩
   replace H : ((impl_within.f (l0_8.length : Int) 1 (ji6)).bind fun t291 => (impl_ValidDevice.j0 k (!t291) a0_0 a0_1 a0_2 l0_3 a0_4 a0_5 a0_6 a0_7 l0_8)) = some r := by first | (rw [hji6] at H; exact H) | (simp only [hji6] at H ⊢; exact H)
   (try rw [hji6] at A4)
   (try (have hji6h : ji6 ≤ 12 := by (rw [← hji6]; unfold mn; (repeat' split) <;> omega)))
   (try (have hji6g : ji6 ≤ 64 := by omega))
   have hji6_ : (if a0_1 < 12 then a0_1 else 12) = ji6 := hji6
   replace H := Option.bind_eq_some_iff.mp H
   obtain ⟨t291, A70, H⟩ := H
   have A7 := Aside0.mk A70
   clear A70
   have H' := Aside0.mk H
   clear H
   obtain ⟨hcz8_0, hcz8_1, hcz8_2, hcz8_3, hcz8_4, hcz8_5, hcz8_6, hcz8_7, hcz8_8⟩ := cells9 BK289.out
   obtain ⟨hfz8_0, hfz8_1, hfz8_2, hfz8_3, hfz8_4, hfz8_5, hfz8_6, hfz8_7, hfz8_8⟩ := frozen9 BK289.out
   go_wp2_with (first | ((with_reducible refine gate_callee (f := 97) rfl ?_); refine goesL_ (some 10) rfl rfl Try.func97 (by kernel_rfl) rfl #[.agg #[.int .i64 a0_0, .int .i64 a0_1, .int .i64 a0_2, .slice A0_3 l0_3.length c0_3, .int .i64 a0_4, .int .i64 a0_5, .bool a0_6, .int .i64 a0_7]] rfl (by (try simp only [List.map_toArray, List.map_cons, List.map_nil]); first | done | rfl | (simp only [List.length_drop, List.length_take]; rfl)) ?_; (with_reducible refine (impl_ValidFlash.calls k a0_0 a0_1 a0_2 _ _ l0_3 a0_4 a0_5 a0_6 a0_7 true _ ?side1 ?side2 A4.out).mono ?_); (case side1 => exact Kd.C_below HR0_3.out (bw_ HB.out)); (case side2 => exact HC0_3.out); rintro e w9 ⟨rfl, hb⟩; refine ⟨_, rfl, ?_⟩; replace BK289 := Aside0.mk (blk_below (bk_ BK289.out) hb); replace HB := Aside0.mk (below_step (bw_ HB.out) hb); (try clear hb); obtain ⟨hcz10_0, hcz10_1, hcz10_2, hcz10_3, hcz10_4, hcz10_5, hcz10_6, hcz10_7, hcz10_8⟩ := cells9 BK289.out; obtain ⟨hfz10_0, hfz10_1, hfz10_2, hfz10_3, hfz10_4, hfz10_5, hfz10_6, hfz10_7, hfz10_8⟩ := frozen9 BK289.out) | (go_at_call 154; (with_reducible refine (impl_within.calls (l0_8.length : Int) 1 ji6 t291 _ A7.out).mono ?_); rintro e w' ⟨rfl, ⟨nd, rfl⟩⟩))
   go_meet
   case rel => exact ⟨_, (!t291), (by first | rfl | (simp; done) | (simp [*]; done)), H', ⟨by first | omega | exact Nat.le_refl _⟩, ⟨bk_ BK289.out⟩, ⟨bw_ HB.out⟩⟩
  replace c5 := Bool.eq_false_iff.mpr c5
  subst c5
  rw [if_neg (show ¬ (false = true) by decide)] at H
  have H' := Aside0.mk H
  clear H
  obtain ⟨hcz11_0, hcz11_1, hcz11_2, hcz11_3, hcz11_4, hcz11_5, hcz11_6, hcz11_7, hcz11_8⟩ := cells9 BK289.out
  obtain ⟨hfz11_0, hfz11_1, hfz11_2, hfz11_3, hfz11_4, hfz11_5, hfz11_6, hfz11_7, hfz11_8⟩ := frozen9 BK289.out
  go_wp2_with (first | ((with_reducible refine gate_callee (f := 97) rfl ?_); refine goesL_ (some 10) rfl rfl Try.func97 (by kernel_rfl) rfl #[.agg #[.int .i64 a0_0, .int .i64 a0_1, .int .i64 a0_2, .slice A0_3 l0_3.length c0_3, .int .i64 a0_4, .int .i64 a0_5, .bool a0_6, .int .i64 a0_7]] rfl (by (try simp only [List.map_toArray, List.map_cons, List.map_nil]); first | done | rfl | (simp only [List.length_drop, List.length_take]; rfl)) ?_; (with_reducible refine (impl_ValidFlash.calls k a0_0 a0_1 a0_2 _ _ l0_3 a0_4 a0_5 a0_6 a0_7 false _ ?side1 ?side2 A4.out).mono ?_); (case side1 => exact Kd.C_below HR0_3.out (bw_ HB.out)); (case side2 => exact HC0_3.out); rintro e w12 ⟨rfl, hb⟩; refine ⟨_, rfl, ?_⟩; replace BK289 := Aside0.mk (blk_below (bk_ BK289.out) hb); replace HB := Aside0.mk (below_step (bw_ HB.out) hb); (try clear hb)))
  go_meet
  case rel => exact ⟨_, (true), (by first | rfl | (simp; done) | (simp [*]; done)), H', ⟨by first | omega | exact Nat.le_refl _⟩, ⟨bk_ BK289.out⟩, ⟨bw_ HB.out⟩⟩
 case rest =>
  clear HC2
  obtain ⟨kq, x23_1, rfl, HA, HJ1, BK289, HB⟩ := hcut
  cases kq with
  | zero => exact absurd HA.out (by simp [impl_ValidDevice.j0])
  | succ kj1 =>
   have H := HA.out
   clear HA
   simp only [impl_ValidDevice.j0] at H
   by_cases c13 : x23_1 = true
   ·subst c13
    rw [if_pos rfl] at H
    obtain rfl := Option.some.inj H
    go_wp2
    go_ret
    exact ⟨by first | rfl | (simp [errW_none, errW_some] <;> rfl) | (simp [*, errW_none, errW_some] <;> rfl), bw_ HB.out⟩
   replace c13 := Bool.eq_false_iff.mpr c13
   subst c13
   rw [if_neg (show ¬ (false = true) by decide)] at H
   have H' := Aside0.mk H
   clear H
   go_wp2_with (first | ((with_reducible refine gate_dst (N := 24) rfl ?_); (try (refine gate_guard (by rfl) ?_; dsimp only)); refine map_event rfl (N := 24) rfl 228 rfl ?_; intro gb292 hg w14 hbox hb; have BK292 := Aside0.mk (hbox); have GW292 := Aside0.mk ((by rw [hg]; exact (below_size (bw_ HB.out)) : w.heap.size ≤ gb292)); have GE292 := Nonempty.intro GW292.out; replace HB := Aside0.mk (below_step (bw_ HB.out) hb); have NB289_292 := Aside0.mk ((by rw [hg]; exact Nat.ne_of_lt (blk_lt (bk_ BK289.out)) : gb289 ≠ gb292)); have NB292_289 := Aside0.mk ((by rw [hg]; exact Nat.ne_of_gt (blk_lt (bk_ BK289.out)) : gb292 ≠ gb289)); replace BK289 := Aside0.mk (blk_below (bk_ BK289.out) hb); clear hb hbox hg; have hnb15 := NB289_292.out; have hnc15 := NB292_289.out; obtain ⟨hcz16_0, hcz16_1, hcz16_2, hcz16_3, hcz16_4, hcz16_5, hcz16_6, hcz16_7, hcz16_8⟩ := cells9 BK289.out; obtain ⟨hfz16_0, hfz16_1, hfz16_2, hfz16_3, hfz16_4, hfz16_5, hfz16_6, hfz16_7, hfz16_8⟩ := frozen9 BK289.out))
   go_loopg [28] kj1 (fun kq v28 w' => ∃ (x28_2 : Int) (x293000_2 : List Int), v28 = .int .i64 x28_2 ∧ Aside0 (impl_ValidDevice.l0 kq l0_8 (l0_8.length : Int) x28_2 a0_0 a0_1 a0_2 l0_3 a0_4 a0_5 a0_6 a0_7 l0_8 x293000_2 = some r) ∧ Aside0 (kq ≤ kj1) ∧ Aside0 (w'.heap[gb289]? = some (.cells #[.int .i64 a0_0, .int .i64 a0_1, .int .i64 a0_2, (.slice A0_3 l0_3.length c0_3), .int .i64 a0_4, .int .i64 a0_5, .bool a0_6, .int .i64 a0_7, (.slice A0_8 l0_8.length c0_8)] 126 (0, 0))) ∧ Aside0 (w'.heap[gb292]? = some (setO x293000_2)) ∧ Aside0 (Below w.heap.size w w'))
   case atStart => exact ⟨(0), (([] : List Int)), (by first | rfl | (simp; done) | (simp [*]; done)), H', ⟨Nat.le_refl _⟩, ⟨bk_ BK289.out⟩, ⟨bk_ BK292.out⟩, ⟨bw_ HB.out⟩⟩
   case round =>
    clear H'
    obtain ⟨x28_2, x293000_2, rfl, HA, HK2, BK289, BK292, HB⟩ := hrel
    cases gk with
    | zero => exact absurd HA.out (by simp [impl_ValidDevice.l0])
    | succ k2 =>
     have H := HA.out
     clear HA
     simp only [impl_ValidDevice.l0] at H
     by_cases c17 : x28_2 < (l0_8.length : Int)
     ·rw [if_pos c17] at H
      have c17b0 : decide (x28_2 < (l0_8.length : Int)) = true := decide_eq_true c17
      clear c17
      by_cases c18 : 0 ≤ x28_2
      ·rw [if_pos c18] at H
       have c18b0 : decide (0 ≤ x28_2) = true := decide_eq_true c18
       clear c18
       by_cases c19 : x28_2 < (l0_8.length : Int)
       ·rw [if_pos c19] at H
        have c19b0 : decide (x28_2 < (l0_8.length : Int)) = true := decide_eq_true c19
        clear c19
        have HC20 := Aside0.mk H
        clear H
        have p293 : 0 ≤ (x28_2 : Int) := of_decide_eq_true (by first | (with_reducible assumption) | assumption)
        have q293 : x28_2 < (l0_8.length : Int) := of_decide_eq_true (by first | (with_reducible assumption) | assumption)
        obtain ⟨ad293, A293_1, c293_1, A293_4, c293_4, A293_5, c293_5, e293, hx293_0, hx293_1, hx293_2, hx293_3, hx293_4, hx293_5, hl293_1, hi293_1, hl293_4, hi293_4, hl293_5, hi293_5⟩ := at_T276 HR0_8.out x28_2 p293 q293
        cases e293
        replace hx293_0 := (HB.out.cell (World.block_lt_of_cell? w _ hx293_0)).trans hx293_0
        replace hx293_1 := (HB.out.cell (World.block_lt_of_cell? w _ hx293_1)).trans hx293_1
        replace hx293_2 := (HB.out.cell (World.block_lt_of_cell? w _ hx293_2)).trans hx293_2
        replace hx293_3 := (HB.out.cell (World.block_lt_of_cell? w _ hx293_3)).trans hx293_3
        replace hx293_4 := (HB.out.cell (World.block_lt_of_cell? w _ hx293_4)).trans hx293_4
        replace hx293_5 := (HB.out.cell (World.block_lt_of_cell? w _ hx293_5)).trans hx293_5
        have HR293_1 := Aside0.mk hi293_1
        have HC293_1 := Aside0.mk hl293_1
        clear hi293_1 hl293_1
        have HR293_4 := Aside0.mk hi293_4
        have HC293_4 := Aside0.mk hl293_4
        clear hi293_4 hl293_4
        have HR293_5 := Aside0.mk hi293_5
        have HC293_5 := Aside0.mk hl293_5
        clear hi293_5 hl293_5
        replace p293 := eq_true p293
        replace q293 := eq_true q293
        go_upto_region 7 with (first | ((with_reducible refine gate_dst (N := 5) rfl ?_); (try (refine gate_guard (by rfl) ?_; dsimp only)); refine box_event ?hg (N := 5) ?hd (cs := #[.int .i64 0, .slice none 0 0, .int .i64 0, .int .i64 0, .slice none 0 0, .slice none 0 0]) (t := 276) ?hr ?_; (case hd => rfl); (case hg => rfl); (case hr => first | (go_simp; done) | (go_simp; rfl)); intro gb294 hg w21 hbox hb; have BK294 := Aside0.mk (hbox); have GW294 := Aside0.mk ((by rw [hg]; exact (below_size (bw_ HB.out)) : w.heap.size ≤ gb294)); have GE294 := Nonempty.intro GW294.out; replace HB := Aside0.mk (below_step (bw_ HB.out) hb); have NB289_294 := Aside0.mk ((by rw [hg]; exact Nat.ne_of_lt (blk_lt (bk_ BK289.out)) : gb289 ≠ gb294)); have NB294_289 := Aside0.mk ((by rw [hg]; exact Nat.ne_of_gt (blk_lt (bk_ BK289.out)) : gb294 ≠ gb289)); replace BK289 := Aside0.mk (blk_below (bk_ BK289.out) hb); have NB292_294 := Aside0.mk ((by rw [hg]; exact Nat.ne_of_lt (blk_lt (bk_ BK292.out)) : gb292 ≠ gb294)); have NB294_292 := Aside0.mk ((by rw [hg]; exact Nat.ne_of_gt (blk_lt (bk_ BK292.out)) : gb294 ≠ gb292)); replace BK292 := Aside0.mk (blk_below (bk_ BK292.out) hb); clear hb hbox hg; have hnb22 := NB294_289.out; have hnc22 := NB289_294.out; have hnb23 := NB294_292.out; have hnc23 := NB292_294.out; obtain ⟨hcz24_0, hcz24_1, hcz24_2, hcz24_3, hcz24_4, hcz24_5⟩ := cells6 BK294.out; obtain ⟨hfz24_0, hfz24_1, hfz24_2, hfz24_3, hfz24_4, hfz24_5⟩ := frozen6 BK294.out))
        (try simp only [Act.put, List.setIfInBounds_toArray, List.set_cons_zero, List.set_cons_succ])
        go_cut [44] (fun v44 wc => ∃ (kq : Nat) (x44_19 : Bool), v44 = .bool x44_19 ∧ Aside0 (impl_ValidDevice.j2 kq l0_8 (l0_8.length : Int) x28_2 x44_19 a0_0 a0_1 a0_2 l0_3 a0_4 a0_5 a0_6 a0_7 l0_8 x293000_2 ((rd_T276 l0_8 x28_2).f0) ((rd_T276 l0_8 x28_2).f1) ((rd_T276 l0_8 x28_2).f2) ((rd_T276 l0_8 x28_2).f3) ((rd_T276 l0_8 x28_2).f4) ((rd_T276 l0_8 x28_2).f5) = some r) ∧ Aside0 (kq ≤ k2) ∧ Aside0 (wc.heap[gb289]? = some (.cells #[.int .i64 a0_0, .int .i64 a0_1, .int .i64 a0_2, (.slice A0_3 l0_3.length c0_3), .int .i64 a0_4, .int .i64 a0_5, .bool a0_6, .int .i64 a0_7, (.slice (some ad293) l0_8.length c0_8)] 126 (0, 0))) ∧ Aside0 (wc.heap[gb292]? = some (setO x293000_2)) ∧ Aside0 (wc.heap[gb294]? = some (.cells #[.int .i64 ((rd_T276 l0_8 x28_2).f0), (.slice A293_1 ((rd_T276 l0_8 x28_2).f1).length c293_1), .int .i64 ((rd_T276 l0_8 x28_2).f2), .int .i64 ((rd_T276 l0_8 x28_2).f3), (.slice A293_4 ((rd_T276 l0_8 x28_2).f4).length c293_4), (.slice A293_5 ((rd_T276 l0_8 x28_2).f5).length c293_5)] 276 (0, 0))) ∧ Aside0 (Below w.heap.size w wc))
        case first =>
         have H := HC20.out
         clear HC20
         replace H := Option.bind_eq_some_iff.mp H
         obtain ⟨t295, A250, H⟩ := H
         have A25 := Aside0.mk A250
         clear A250
         by_cases c26 : t295 = true
         ·subst c26
          rw [if_pos rfl] at H
          replace H := Option.bind_eq_some_iff.mp H
          obtain ⟨t296, A270, H⟩ := H
          have A27 := Aside0.mk A270
          clear A270
          by_cases c28 : t296 = true
          ·subst c28
           rw [if_pos rfl] at H
           replace H := Option.bind_eq_some_iff.mp H
           obtain ⟨t297, A290, H⟩ := H
           have A29 := Aside0.mk A290
           clear A290
           have H' := Aside0.mk H
           clear H
           have hnb30 := NB294_289.out
           have hnc30 := NB289_294.out
           have hnb31 := NB294_292.out
           have hnc31 := NB292_294.out
           obtain ⟨hcz32_0, hcz32_1, hcz32_2, hcz32_3, hcz32_4, hcz32_5⟩ := cells6 BK294.out
           obtain ⟨hfz32_0, hfz32_1, hfz32_2, hfz32_3, hfz32_4, hfz32_5⟩ := frozen6 BK294.out
           go_wp2_with (first | ((with_reducible refine gate_callee (f := 268) rfl ?_); refine goesL_ (some 33) rfl rfl Try.func268 (by kernel_rfl) rfl #[.pointer (some ⟨gb289, 0, none⟩), .agg #[.int .i64 ((rd_T276 l0_8 x28_2).f0), .slice A293_1 ((rd_T276 l0_8 x28_2).f1).length c293_1, .int .i64 ((rd_T276 l0_8 x28_2).f2), .int .i64 ((rd_T276 l0_8 x28_2).f3), .slice A293_4 ((rd_T276 l0_8 x28_2).f4).length c293_4, .slice A293_5 ((rd_T276 l0_8 x28_2).f5).length c293_5]] rfl (by (try simp only [List.map_toArray, List.map_cons, List.map_nil]); first | done | rfl | (simp only [List.length_drop, List.length_take]; rfl)) ?_; (with_reducible refine (impl_Device_placesOk.calls k2 gb289 a0_0 a0_1 a0_2 A0_3 c0_3 l0_3 a0_4 a0_5 a0_6 a0_7 (some ad293) c0_8 l0_8 ((rd_T276 l0_8 x28_2).f0) _ _ ((rd_T276 l0_8 x28_2).f1) ((rd_T276 l0_8 x28_2).f2) ((rd_T276 l0_8 x28_2).f3) _ _ ((rd_T276 l0_8 x28_2).f4) _ _ ((rd_T276 l0_8 x28_2).f5) true _ ?side1 ?side2 ?side3 ?side4 ?side5 ?side6 ?side7 ?side8 ?side9 ?side10 ?side11 A25.out).mono ?_); (case side1 => exact Kd.C_below HR0_3.out (bw_ HB.out)); (case side2 => exact HC0_3.out); (case side3 => exact Kd.C_below HR0_8.out (bw_ HB.out)); (case side4 => exact HC0_8.out); (case side5 => exact Kd.C_below HR293_1.out (bw_ HB.out)); (case side6 => exact HC293_1.out); (case side7 => exact Kd.C_below HR293_4.out (bw_ HB.out)); (case side8 => exact HC293_4.out); (case side9 => exact Kd.C_below HR293_5.out (bw_ HB.out)); (case side10 => exact HC293_5.out); (case side11 => (with_reducible repeat (first | refine blk_drewN ?_ _ | refine blk_drew ?_ | refine blk_alloc ?_ _)); refine blk_far ?_ NB289_294.out _; (with_reducible repeat (first | refine blk_drewN ?_ _ | refine blk_drew ?_ | refine blk_alloc ?_ _)); refine blk_far ?_ NB289_294.out _; (with_reducible repeat (first | refine blk_drewN ?_ _ | refine blk_drew ?_ | refine blk_alloc ?_ _)); refine blk_far ?_ NB289_294.out _; (with_reducible repeat (first | refine blk_drewN ?_ _ | refine blk_drew ?_ | refine blk_alloc ?_ _)); refine blk_far ?_ NB289_294.out _; (with_reducible repeat (first | refine blk_drewN ?_ _ | refine blk_drew ?_ | refine blk_alloc ?_ _)); refine blk_far ?_ NB289_294.out _; (with_reducible repeat (first | refine blk_drewN ?_ _ | refine blk_drew ?_ | refine blk_alloc ?_ _)); refine blk_far ?_ NB289_294.out _; (with_reducible repeat (first | refine blk_drewN ?_ _ | refine blk_drew ?_ | refine blk_alloc ?_ _)); exact BK289.out); rintro e w33 ⟨rfl, hb⟩; refine ⟨_, rfl, ?_⟩; replace BK289 := Aside0.mk (blk_below (g := gb289) (o := .cells #[.int .i64 a0_0, .int .i64 a0_1, .int .i64 a0_2, .slice A0_3 l0_3.length c0_3, .int .i64 a0_4, .int .i64 a0_5, .bool a0_6, .int .i64 a0_7, .slice (some ad293) l0_8.length c0_8] 126 (0, 0)) (by (with_reducible repeat (first | refine blk_drewN ?_ _ | refine blk_drew ?_ | refine blk_alloc ?_ _)); refine blk_far ?_ NB289_294.out _; (with_reducible repeat (first | refine blk_drewN ?_ _ | refine blk_drew ?_ | refine blk_alloc ?_ _)); refine blk_far ?_ NB289_294.out _; (with_reducible repeat (first | refine blk_drewN ?_ _ | refine blk_drew ?_ | refine blk_alloc ?_ _)); refine blk_far ?_ NB289_294.out _; (with_reducible repeat (first | refine blk_drewN ?_ _ | refine blk_drew ?_ | refine blk_alloc ?_ _)); refine blk_far ?_ NB289_294.out _; (with_reducible repeat (first | refine blk_drewN ?_ _ | refine blk_drew ?_ | refine blk_alloc ?_ _)); refine blk_far ?_ NB289_294.out _; (with_reducible repeat (first | refine blk_drewN ?_ _ | refine blk_drew ?_ | refine blk_alloc ?_ _)); refine blk_far ?_ NB289_294.out _; (with_reducible repeat (first | refine blk_drewN ?_ _ | refine blk_drew ?_ | refine blk_alloc ?_ _)); exact BK289.out) hb); replace BK292 := Aside0.mk (blk_below (g := gb292) (o := setO x293000_2) (by (with_reducible repeat (first | refine blk_drewN ?_ _ | refine blk_drew ?_ | refine blk_alloc ?_ _)); refine blk_farO ?_ NB292_294.out _; (with_reducible repeat (first | refine blk_drewN ?_ _ | refine blk_drew ?_ | refine blk_alloc ?_ _)); refine blk_farO ?_ NB292_294.out _; (with_reducible repeat (first | refine blk_drewN ?_ _ | refine blk_drew ?_ | refine blk_alloc ?_ _)); refine blk_farO ?_ NB292_294.out _; (with_reducible repeat (first | refine blk_drewN ?_ _ | refine blk_drew ?_ | refine blk_alloc ?_ _)); refine blk_farO ?_ NB292_294.out _; (with_reducible repeat (first | refine blk_drewN ?_ _ | refine blk_drew ?_ | refine blk_alloc ?_ _)); refine blk_farO ?_ NB292_294.out _; (with_reducible repeat (first | refine blk_drewN ?_ _ | refine blk_drew ?_ | refine blk_alloc ?_ _)); refine blk_farO ?_ NB292_294.out _; (with_reducible repeat (first | refine blk_drewN ?_ _ | refine blk_drew ?_ | refine blk_alloc ?_ _)); exact BK292.out) hb); replace BK294 := Aside0.mk (blk_below (g := gb294) (o := .cells #[.int .i64 ((rd_T276 l0_8 x28_2).f0), .slice A293_1 ((rd_T276 l0_8 x28_2).f1).length c293_1, .int .i64 ((rd_T276 l0_8 x28_2).f2), .int .i64 ((rd_T276 l0_8 x28_2).f3), .slice A293_4 ((rd_T276 l0_8 x28_2).f4).length c293_4, .slice A293_5 ((rd_T276 l0_8 x28_2).f5).length c293_5] 276 (0, 0)) (by (with_reducible repeat (first | refine blk_drewN ?_ _ | refine blk_drew ?_ | refine blk_alloc ?_ _)); refine blk_put (cs := #[.int .i64 ((rd_T276 l0_8 x28_2).f0), .slice A293_1 ((rd_T276 l0_8 x28_2).f1).length c293_1, .int .i64 ((rd_T276 l0_8 x28_2).f2), .int .i64 ((rd_T276 l0_8 x28_2).f3), .slice A293_4 ((rd_T276 l0_8 x28_2).f4).length c293_4, .slice none 0 0]) ?_ 5 _ rfl; (with_reducible repeat (first | refine blk_drewN ?_ _ | refine blk_drew ?_ | refine blk_alloc ?_ _)); refine blk_put (cs := #[.int .i64 ((rd_T276 l0_8 x28_2).f0), .slice A293_1 ((rd_T276 l0_8 x28_2).f1).length c293_1, .int .i64 ((rd_T276 l0_8 x28_2).f2), .int .i64 ((rd_T276 l0_8 x28_2).f3), .slice none 0 0, .slice none 0 0]) ?_ 4 _ rfl; (with_reducible repeat (first | refine blk_drewN ?_ _ | refine blk_drew ?_ | refine blk_alloc ?_ _)); refine blk_put (cs := #[.int .i64 ((rd_T276 l0_8 x28_2).f0), .slice A293_1 ((rd_T276 l0_8 x28_2).f1).length c293_1, .int .i64 ((rd_T276 l0_8 x28_2).f2), .int .i64 0, .slice none 0 0, .slice none 0 0]) ?_ 3 _ rfl; (with_reducible repeat (first | refine blk_drewN ?_ _ | refine blk_drew ?_ | refine blk_alloc ?_ _)); refine blk_put (cs := #[.int .i64 ((rd_T276 l0_8 x28_2).f0), .slice A293_1 ((rd_T276 l0_8 x28_2).f1).length c293_1, .int .i64 0, .int .i64 0, .slice none 0 0, .slice none 0 0]) ?_ 2 _ rfl; (with_reducible repeat (first | refine blk_drewN ?_ _ | refine blk_drew ?_ | refine blk_alloc ?_ _)); refine blk_put (cs := #[.int .i64 ((rd_T276 l0_8 x28_2).f0), .slice none 0 0, .int .i64 0, .int .i64 0, .slice none 0 0, .slice none 0 0]) ?_ 1 _ rfl; (with_reducible repeat (first | refine blk_drewN ?_ _ | refine blk_drew ?_ | refine blk_alloc ?_ _)); refine blk_put (cs := #[.int .i64 0, .slice none 0 0, .int .i64 0, .int .i64 0, .slice none 0 0, .slice none 0 0]) ?_ 0 _ rfl; (with_reducible repeat (first | refine blk_drewN ?_ _ | refine blk_drew ?_ | refine blk_alloc ?_ _)); exact BK294.out) hb); replace HB := Aside0.mk (below_step (bw_ HB.out) hb); (try clear hb); obtain ⟨hcz34_0, hcz34_1, hcz34_2, hcz34_3, hcz34_4, hcz34_5⟩ := cells6 BK294.out; obtain ⟨hfz34_0, hfz34_1, hfz34_2, hfz34_3, hfz34_4, hfz34_5⟩ := frozen6 BK294.out) | (go_at_call 269; (with_reducible refine (impl_Device_contentsOk.calls k2 gb289 a0_0 a0_1 a0_2 A0_3 c0_3 l0_3 a0_4 a0_5 a0_6 a0_7 (some ad293) c0_8 l0_8 ((rd_T276 l0_8 x28_2).f0) _ _ ((rd_T276 l0_8 x28_2).f1) ((rd_T276 l0_8 x28_2).f2) ((rd_T276 l0_8 x28_2).f3) _ _ ((rd_T276 l0_8 x28_2).f4) _ _ ((rd_T276 l0_8 x28_2).f5) true _ ?side1 ?side2 ?side3 ?side4 ?side5 ?side6 ?side7 ?side8 ?side9 ?side10 ?side11 A27.out).mono ?_); (case side1 => exact Kd.C_below HR0_3.out (bw_ HB.out)); (case side2 => exact HC0_3.out); (case side3 => exact Kd.C_below HR0_8.out (bw_ HB.out)); (case side4 => exact HC0_8.out); (case side5 => exact Kd.C_below HR293_1.out (bw_ HB.out)); (case side6 => exact HC293_1.out); (case side7 => exact Kd.C_below HR293_4.out (bw_ HB.out)); (case side8 => exact HC293_4.out); (case side9 => exact Kd.C_below HR293_5.out (bw_ HB.out)); (case side10 => exact HC293_5.out); (case side11 => (with_reducible repeat (first | refine blk_drewN ?_ _ | refine blk_drew ?_ | refine blk_alloc ?_ _)); exact BK289.out); rintro e w35 ⟨rfl, hb⟩; replace BK289 := Aside0.mk (blk_below (bk_ BK289.out) hb); replace BK292 := Aside0.mk (blk_below (bk_ BK292.out) hb); replace BK294 := Aside0.mk (blk_below (bk_ BK294.out) hb); replace HB := Aside0.mk (below_step (bw_ HB.out) hb); (try clear hb); obtain ⟨hcz36_0, hcz36_1, hcz36_2, hcz36_3, hcz36_4, hcz36_5⟩ := cells6 BK294.out; obtain ⟨hfz36_0, hfz36_1, hfz36_2, hfz36_3, hfz36_4, hfz36_5⟩ := frozen6 BK294.out) | (go_at_call 270; (with_reducible refine (impl_Device_stateOk.calls gb289 a0_0 a0_1 a0_2 A0_3 c0_3 l0_3 a0_4 a0_5 a0_6 a0_7 (some ad293) c0_8 l0_8 ((rd_T276 l0_8 x28_2).f0) _ _ ((rd_T276 l0_8 x28_2).f1) ((rd_T276 l0_8 x28_2).f2) ((rd_T276 l0_8 x28_2).f3) _ _ ((rd_T276 l0_8 x28_2).f4) _ _ ((rd_T276 l0_8 x28_2).f5) t297 _ ?side1 ?side2 ?side3 ?side4 ?side5 ?side6 ?side7 ?side8 ?side9 ?side10 ?side11 A29.out).mono ?_); (case side1 => exact Kd.C_below HR0_3.out (bw_ HB.out)); (case side2 => exact HC0_3.out); (case side3 => exact Kd.C_below HR0_8.out (bw_ HB.out)); (case side4 => exact HC0_8.out); (case side5 => exact Kd.C_below HR293_1.out (bw_ HB.out)); (case side6 => exact HC293_1.out); (case side7 => exact Kd.C_below HR293_4.out (bw_ HB.out)); (case side8 => exact HC293_4.out); (case side9 => exact Kd.C_below HR293_5.out (bw_ HB.out)); (case side10 => exact HC293_5.out); (case side11 => (with_reducible repeat (first | refine blk_drewN ?_ _ | refine blk_drew ?_ | refine blk_alloc ?_ _)); exact BK289.out); rintro e w37 ⟨rfl, hb⟩; replace BK289 := Aside0.mk (blk_below (bk_ BK289.out) hb); replace BK292 := Aside0.mk (blk_below (bk_ BK292.out) hb); replace BK294 := Aside0.mk (blk_below (bk_ BK294.out) hb); replace HB := Aside0.mk (below_step (bw_ HB.out) hb); (try clear hb)))
           go_meet
           case rel => exact ⟨_, (!t297), (by first | rfl | (simp; done) | (simp [*]; done)), H', ⟨by have := HJ1.out; have := HK2.out; first | omega | exact Nat.le_refl _⟩, ⟨bk_ BK289.out⟩, ⟨bk_ BK292.out⟩, ⟨bk_ BK294.out⟩, ⟨bw_ HB.out⟩⟩
          replace c28 := Bool.eq_false_iff.mpr c28
          subst c28
          rw [if_neg (show ¬ (false = true) by decide)] at H
          have H' := Aside0.mk H
          clear H
          have hnb38 := NB294_289.out
          have hnc38 := NB289_294.out
          have hnb39 := NB294_292.out
          have hnc39 := NB292_294.out
          obtain ⟨hcz40_0, hcz40_1, hcz40_2, hcz40_3, hcz40_4, hcz40_5⟩ := cells6 BK294.out
          obtain ⟨hfz40_0, hfz40_1, hfz40_2, hfz40_3, hfz40_4, hfz40_5⟩ := frozen6 BK294.out
          go_wp2_with (first | ((with_reducible refine gate_callee (f := 268) rfl ?_); refine goesL_ (some 33) rfl rfl Try.func268 (by kernel_rfl) rfl #[.pointer (some ⟨gb289, 0, none⟩), .agg #[.int .i64 ((rd_T276 l0_8 x28_2).f0), .slice A293_1 ((rd_T276 l0_8 x28_2).f1).length c293_1, .int .i64 ((rd_T276 l0_8 x28_2).f2), .int .i64 ((rd_T276 l0_8 x28_2).f3), .slice A293_4 ((rd_T276 l0_8 x28_2).f4).length c293_4, .slice A293_5 ((rd_T276 l0_8 x28_2).f5).length c293_5]] rfl (by (try simp only [List.map_toArray, List.map_cons, List.map_nil]); first | done | rfl | (simp only [List.length_drop, List.length_take]; rfl)) ?_; (with_reducible refine (impl_Device_placesOk.calls k2 gb289 a0_0 a0_1 a0_2 A0_3 c0_3 l0_3 a0_4 a0_5 a0_6 a0_7 (some ad293) c0_8 l0_8 ((rd_T276 l0_8 x28_2).f0) _ _ ((rd_T276 l0_8 x28_2).f1) ((rd_T276 l0_8 x28_2).f2) ((rd_T276 l0_8 x28_2).f3) _ _ ((rd_T276 l0_8 x28_2).f4) _ _ ((rd_T276 l0_8 x28_2).f5) true _ ?side1 ?side2 ?side3 ?side4 ?side5 ?side6 ?side7 ?side8 ?side9 ?side10 ?side11 A25.out).mono ?_); (case side1 => exact Kd.C_below HR0_3.out (bw_ HB.out)); (case side2 => exact HC0_3.out); (case side3 => exact Kd.C_below HR0_8.out (bw_ HB.out)); (case side4 => exact HC0_8.out); (case side5 => exact Kd.C_below HR293_1.out (bw_ HB.out)); (case side6 => exact HC293_1.out); (case side7 => exact Kd.C_below HR293_4.out (bw_ HB.out)); (case side8 => exact HC293_4.out); (case side9 => exact Kd.C_below HR293_5.out (bw_ HB.out)); (case side10 => exact HC293_5.out); (case side11 => (with_reducible repeat (first | refine blk_drewN ?_ _ | refine blk_drew ?_ | refine blk_alloc ?_ _)); refine blk_far ?_ NB289_294.out _; (with_reducible repeat (first | refine blk_drewN ?_ _ | refine blk_drew ?_ | refine blk_alloc ?_ _)); refine blk_far ?_ NB289_294.out _; (with_reducible repeat (first | refine blk_drewN ?_ _ | refine blk_drew ?_ | refine blk_alloc ?_ _)); refine blk_far ?_ NB289_294.out _; (with_reducible repeat (first | refine blk_drewN ?_ _ | refine blk_drew ?_ | refine blk_alloc ?_ _)); refine blk_far ?_ NB289_294.out _; (with_reducible repeat (first | refine blk_drewN ?_ _ | refine blk_drew ?_ | refine blk_alloc ?_ _)); refine blk_far ?_ NB289_294.out _; (with_reducible repeat (first | refine blk_drewN ?_ _ | refine blk_drew ?_ | refine blk_alloc ?_ _)); refine blk_far ?_ NB289_294.out _; (with_reducible repeat (first | refine blk_drewN ?_ _ | refine blk_drew ?_ | refine blk_alloc ?_ _)); exact BK289.out); rintro e w41 ⟨rfl, hb⟩; refine ⟨_, rfl, ?_⟩; replace BK289 := Aside0.mk (blk_below (g := gb289) (o := .cells #[.int .i64 a0_0, .int .i64 a0_1, .int .i64 a0_2, .slice A0_3 l0_3.length c0_3, .int .i64 a0_4, .int .i64 a0_5, .bool a0_6, .int .i64 a0_7, .slice (some ad293) l0_8.length c0_8] 126 (0, 0)) (by (with_reducible repeat (first | refine blk_drewN ?_ _ | refine blk_drew ?_ | refine blk_alloc ?_ _)); refine blk_far ?_ NB289_294.out _; (with_reducible repeat (first | refine blk_drewN ?_ _ | refine blk_drew ?_ | refine blk_alloc ?_ _)); refine blk_far ?_ NB289_294.out _; (with_reducible repeat (first | refine blk_drewN ?_ _ | refine blk_drew ?_ | refine blk_alloc ?_ _)); refine blk_far ?_ NB289_294.out _; (with_reducible repeat (first | refine blk_drewN ?_ _ | refine blk_drew ?_ | refine blk_alloc ?_ _)); refine blk_far ?_ NB289_294.out _; (with_reducible repeat (first | refine blk_drewN ?_ _ | refine blk_drew ?_ | refine blk_alloc ?_ _)); refine blk_far ?_ NB289_294.out _; (with_reducible repeat (first | refine blk_drewN ?_ _ | refine blk_drew ?_ | refine blk_alloc ?_ _)); refine blk_far ?_ NB289_294.out _; (with_reducible repeat (first | refine blk_drewN ?_ _ | refine blk_drew ?_ | refine blk_alloc ?_ _)); exact BK289.out) hb); replace BK292 := Aside0.mk (blk_below (g := gb292) (o := setO x293000_2) (by (with_reducible repeat (first | refine blk_drewN ?_ _ | refine blk_drew ?_ | refine blk_alloc ?_ _)); refine blk_farO ?_ NB292_294.out _; (with_reducible repeat (first | refine blk_drewN ?_ _ | refine blk_drew ?_ | refine blk_alloc ?_ _)); refine blk_farO ?_ NB292_294.out _; (with_reducible repeat (first | refine blk_drewN ?_ _ | refine blk_drew ?_ | refine blk_alloc ?_ _)); refine blk_farO ?_ NB292_294.out _; (with_reducible repeat (first | refine blk_drewN ?_ _ | refine blk_drew ?_ | refine blk_alloc ?_ _)); refine blk_farO ?_ NB292_294.out _; (with_reducible repeat (first | refine blk_drewN ?_ _ | refine blk_drew ?_ | refine blk_alloc ?_ _)); refine blk_farO ?_ NB292_294.out _; (with_reducible repeat (first | refine blk_drewN ?_ _ | refine blk_drew ?_ | refine blk_alloc ?_ _)); refine blk_farO ?_ NB292_294.out _; (with_reducible repeat (first | refine blk_drewN ?_ _ | refine blk_drew ?_ | refine blk_alloc ?_ _)); exact BK292.out) hb); replace BK294 := Aside0.mk (blk_below (g := gb294) (o := .cells #[.int .i64 ((rd_T276 l0_8 x28_2).f0), .slice A293_1 ((rd_T276 l0_8 x28_2).f1).length c293_1, .int .i64 ((rd_T276 l0_8 x28_2).f2), .int .i64 ((rd_T276 l0_8 x28_2).f3), .slice A293_4 ((rd_T276 l0_8 x28_2).f4).length c293_4, .slice A293_5 ((rd_T276 l0_8 x28_2).f5).length c293_5] 276 (0, 0)) (by (with_reducible repeat (first | refine blk_drewN ?_ _ | refine blk_drew ?_ | refine blk_alloc ?_ _)); refine blk_put (cs := #[.int .i64 ((rd_T276 l0_8 x28_2).f0), .slice A293_1 ((rd_T276 l0_8 x28_2).f1).length c293_1, .int .i64 ((rd_T276 l0_8 x28_2).f2), .int .i64 ((rd_T276 l0_8 x28_2).f3), .slice A293_4 ((rd_T276 l0_8 x28_2).f4).length c293_4, .slice none 0 0]) ?_ 5 _ rfl; (with_reducible repeat (first | refine blk_drewN ?_ _ | refine blk_drew ?_ | refine blk_alloc ?_ _)); refine blk_put (cs := #[.int .i64 ((rd_T276 l0_8 x28_2).f0), .slice A293_1 ((rd_T276 l0_8 x28_2).f1).length c293_1, .int .i64 ((rd_T276 l0_8 x28_2).f2), .int .i64 ((rd_T276 l0_8 x28_2).f3), .slice none 0 0, .slice none 0 0]) ?_ 4 _ rfl; (with_reducible repeat (first | refine blk_drewN ?_ _ | refine blk_drew ?_ | refine blk_alloc ?_ _)); refine blk_put (cs := #[.int .i64 ((rd_T276 l0_8 x28_2).f0), .slice A293_1 ((rd_T276 l0_8 x28_2).f1).length c293_1, .int .i64 ((rd_T276 l0_8 x28_2).f2), .int .i64 0, .slice none 0 0, .slice none 0 0]) ?_ 3 _ rfl; (with_reducible repeat (first | refine blk_drewN ?_ _ | refine blk_drew ?_ | refine blk_alloc ?_ _)); refine blk_put (cs := #[.int .i64 ((rd_T276 l0_8 x28_2).f0), .slice A293_1 ((rd_T276 l0_8 x28_2).f1).length c293_1, .int .i64 0, .int .i64 0, .slice none 0 0, .slice none 0 0]) ?_ 2 _ rfl; (with_reducible repeat (first | refine blk_drewN ?_ _ | refine blk_drew ?_ | refine blk_alloc ?_ _)); refine blk_put (cs := #[.int .i64 ((rd_T276 l0_8 x28_2).f0), .slice none 0 0, .int .i64 0, .int .i64 0, .slice none 0 0, .slice none 0 0]) ?_ 1 _ rfl; (with_reducible repeat (first | refine blk_drewN ?_ _ | refine blk_drew ?_ | refine blk_alloc ?_ _)); refine blk_put (cs := #[.int .i64 0, .slice none 0 0, .int .i64 0, .int .i64 0, .slice none 0 0, .slice none 0 0]) ?_ 0 _ rfl; (with_reducible repeat (first | refine blk_drewN ?_ _ | refine blk_drew ?_ | refine blk_alloc ?_ _)); exact BK294.out) hb); replace HB := Aside0.mk (below_step (bw_ HB.out) hb); (try clear hb); obtain ⟨hcz42_0, hcz42_1, hcz42_2, hcz42_3, hcz42_4, hcz42_5⟩ := cells6 BK294.out; obtain ⟨hfz42_0, hfz42_1, hfz42_2, hfz42_3, hfz42_4, hfz42_5⟩ := frozen6 BK294.out) | (go_at_call 269; (with_reducible refine (impl_Device_contentsOk.calls k2 gb289 a0_0 a0_1 a0_2 A0_3 c0_3 l0_3 a0_4 a0_5 a0_6 a0_7 (some ad293) c0_8 l0_8 ((rd_T276 l0_8 x28_2).f0) _ _ ((rd_T276 l0_8 x28_2).f1) ((rd_T276 l0_8 x28_2).f2) ((rd_T276 l0_8 x28_2).f3) _ _ ((rd_T276 l0_8 x28_2).f4) _ _ ((rd_T276 l0_8 x28_2).f5) false _ ?side1 ?side2 ?side3 ?side4 ?side5 ?side6 ?side7 ?side8 ?side9 ?side10 ?side11 A27.out).mono ?_); (case side1 => exact Kd.C_below HR0_3.out (bw_ HB.out)); (case side2 => exact HC0_3.out); (case side3 => exact Kd.C_below HR0_8.out (bw_ HB.out)); (case side4 => exact HC0_8.out); (case side5 => exact Kd.C_below HR293_1.out (bw_ HB.out)); (case side6 => exact HC293_1.out); (case side7 => exact Kd.C_below HR293_4.out (bw_ HB.out)); (case side8 => exact HC293_4.out); (case side9 => exact Kd.C_below HR293_5.out (bw_ HB.out)); (case side10 => exact HC293_5.out); (case side11 => (with_reducible repeat (first | refine blk_drewN ?_ _ | refine blk_drew ?_ | refine blk_alloc ?_ _)); exact BK289.out); rintro e w43 ⟨rfl, hb⟩; replace BK289 := Aside0.mk (blk_below (bk_ BK289.out) hb); replace BK292 := Aside0.mk (blk_below (bk_ BK292.out) hb); replace BK294 := Aside0.mk (blk_below (bk_ BK294.out) hb); replace HB := Aside0.mk (below_step (bw_ HB.out) hb); (try clear hb)))
          go_meet
          case rel => exact ⟨_, (true), (by first | rfl | (simp; done) | (simp [*]; done)), H', ⟨by have := HJ1.out; have := HK2.out; first | omega | exact Nat.le_refl _⟩, ⟨bk_ BK289.out⟩, ⟨bk_ BK292.out⟩, ⟨bk_ BK294.out⟩, ⟨bw_ HB.out⟩⟩
         replace c26 := Bool.eq_false_iff.mpr c26
         subst c26
         rw [if_neg (show ¬ (false = true) by decide)] at H
         have H' := Aside0.mk H
         clear H
         have hnb44 := NB294_289.out
         have hnc44 := NB289_294.out
         have hnb45 := NB294_292.out
         have hnc45 := NB292_294.out
         obtain ⟨hcz46_0, hcz46_1, hcz46_2, hcz46_3, hcz46_4, hcz46_5⟩ := cells6 BK294.out
         obtain ⟨hfz46_0, hfz46_1, hfz46_2, hfz46_3, hfz46_4, hfz46_5⟩ := frozen6 BK294.out
         go_wp2_with (first | ((with_reducible refine gate_callee (f := 268) rfl ?_); refine goesL_ (some 33) rfl rfl Try.func268 (by kernel_rfl) rfl #[.pointer (some ⟨gb289, 0, none⟩), .agg #[.int .i64 ((rd_T276 l0_8 x28_2).f0), .slice A293_1 ((rd_T276 l0_8 x28_2).f1).length c293_1, .int .i64 ((rd_T276 l0_8 x28_2).f2), .int .i64 ((rd_T276 l0_8 x28_2).f3), .slice A293_4 ((rd_T276 l0_8 x28_2).f4).length c293_4, .slice A293_5 ((rd_T276 l0_8 x28_2).f5).length c293_5]] rfl (by (try simp only [List.map_toArray, List.map_cons, List.map_nil]); first | done | rfl | (simp only [List.length_drop, List.length_take]; rfl)) ?_; (with_reducible refine (impl_Device_placesOk.calls k2 gb289 a0_0 a0_1 a0_2 A0_3 c0_3 l0_3 a0_4 a0_5 a0_6 a0_7 (some ad293) c0_8 l0_8 ((rd_T276 l0_8 x28_2).f0) _ _ ((rd_T276 l0_8 x28_2).f1) ((rd_T276 l0_8 x28_2).f2) ((rd_T276 l0_8 x28_2).f3) _ _ ((rd_T276 l0_8 x28_2).f4) _ _ ((rd_T276 l0_8 x28_2).f5) false _ ?side1 ?side2 ?side3 ?side4 ?side5 ?side6 ?side7 ?side8 ?side9 ?side10 ?side11 A25.out).mono ?_); (case side1 => exact Kd.C_below HR0_3.out (bw_ HB.out)); (case side2 => exact HC0_3.out); (case side3 => exact Kd.C_below HR0_8.out (bw_ HB.out)); (case side4 => exact HC0_8.out); (case side5 => exact Kd.C_below HR293_1.out (bw_ HB.out)); (case side6 => exact HC293_1.out); (case side7 => exact Kd.C_below HR293_4.out (bw_ HB.out)); (case side8 => exact HC293_4.out); (case side9 => exact Kd.C_below HR293_5.out (bw_ HB.out)); (case side10 => exact HC293_5.out); (case side11 => (with_reducible repeat (first | refine blk_drewN ?_ _ | refine blk_drew ?_ | refine blk_alloc ?_ _)); refine blk_far ?_ NB289_294.out _; (with_reducible repeat (first | refine blk_drewN ?_ _ | refine blk_drew ?_ | refine blk_alloc ?_ _)); refine blk_far ?_ NB289_294.out _; (with_reducible repeat (first | refine blk_drewN ?_ _ | refine blk_drew ?_ | refine blk_alloc ?_ _)); refine blk_far ?_ NB289_294.out _; (with_reducible repeat (first | refine blk_drewN ?_ _ | refine blk_drew ?_ | refine blk_alloc ?_ _)); refine blk_far ?_ NB289_294.out _; (with_reducible repeat (first | refine blk_drewN ?_ _ | refine blk_drew ?_ | refine blk_alloc ?_ _)); refine blk_far ?_ NB289_294.out _; (with_reducible repeat (first | refine blk_drewN ?_ _ | refine blk_drew ?_ | refine blk_alloc ?_ _)); refine blk_far ?_ NB289_294.out _; (with_reducible repeat (first | refine blk_drewN ?_ _ | refine blk_drew ?_ | refine blk_alloc ?_ _)); exact BK289.out); rintro e w47 ⟨rfl, hb⟩; refine ⟨_, rfl, ?_⟩; replace BK289 := Aside0.mk (blk_below (g := gb289) (o := .cells #[.int .i64 a0_0, .int .i64 a0_1, .int .i64 a0_2, .slice A0_3 l0_3.length c0_3, .int .i64 a0_4, .int .i64 a0_5, .bool a0_6, .int .i64 a0_7, .slice (some ad293) l0_8.length c0_8] 126 (0, 0)) (by (with_reducible repeat (first | refine blk_drewN ?_ _ | refine blk_drew ?_ | refine blk_alloc ?_ _)); refine blk_far ?_ NB289_294.out _; (with_reducible repeat (first | refine blk_drewN ?_ _ | refine blk_drew ?_ | refine blk_alloc ?_ _)); refine blk_far ?_ NB289_294.out _; (with_reducible repeat (first | refine blk_drewN ?_ _ | refine blk_drew ?_ | refine blk_alloc ?_ _)); refine blk_far ?_ NB289_294.out _; (with_reducible repeat (first | refine blk_drewN ?_ _ | refine blk_drew ?_ | refine blk_alloc ?_ _)); refine blk_far ?_ NB289_294.out _; (with_reducible repeat (first | refine blk_drewN ?_ _ | refine blk_drew ?_ | refine blk_alloc ?_ _)); refine blk_far ?_ NB289_294.out _; (with_reducible repeat (first | refine blk_drewN ?_ _ | refine blk_drew ?_ | refine blk_alloc ?_ _)); refine blk_far ?_ NB289_294.out _; (with_reducible repeat (first | refine blk_drewN ?_ _ | refine blk_drew ?_ | refine blk_alloc ?_ _)); exact BK289.out) hb); replace BK292 := Aside0.mk (blk_below (g := gb292) (o := setO x293000_2) (by (with_reducible repeat (first | refine blk_drewN ?_ _ | refine blk_drew ?_ | refine blk_alloc ?_ _)); refine blk_farO ?_ NB292_294.out _; (with_reducible repeat (first | refine blk_drewN ?_ _ | refine blk_drew ?_ | refine blk_alloc ?_ _)); refine blk_farO ?_ NB292_294.out _; (with_reducible repeat (first | refine blk_drewN ?_ _ | refine blk_drew ?_ | refine blk_alloc ?_ _)); refine blk_farO ?_ NB292_294.out _; (with_reducible repeat (first | refine blk_drewN ?_ _ | refine blk_drew ?_ | refine blk_alloc ?_ _)); refine blk_farO ?_ NB292_294.out _; (with_reducible repeat (first | refine blk_drewN ?_ _ | refine blk_drew ?_ | refine blk_alloc ?_ _)); refine blk_farO ?_ NB292_294.out _; (with_reducible repeat (first | refine blk_drewN ?_ _ | refine blk_drew ?_ | refine blk_alloc ?_ _)); refine blk_farO ?_ NB292_294.out _; (with_reducible repeat (first | refine blk_drewN ?_ _ | refine blk_drew ?_ | refine blk_alloc ?_ _)); exact BK292.out) hb); replace BK294 := Aside0.mk (blk_below (g := gb294) (o := .cells #[.int .i64 ((rd_T276 l0_8 x28_2).f0), .slice A293_1 ((rd_T276 l0_8 x28_2).f1).length c293_1, .int .i64 ((rd_T276 l0_8 x28_2).f2), .int .i64 ((rd_T276 l0_8 x28_2).f3), .slice A293_4 ((rd_T276 l0_8 x28_2).f4).length c293_4, .slice A293_5 ((rd_T276 l0_8 x28_2).f5).length c293_5] 276 (0, 0)) (by (with_reducible repeat (first | refine blk_drewN ?_ _ | refine blk_drew ?_ | refine blk_alloc ?_ _)); refine blk_put (cs := #[.int .i64 ((rd_T276 l0_8 x28_2).f0), .slice A293_1 ((rd_T276 l0_8 x28_2).f1).length c293_1, .int .i64 ((rd_T276 l0_8 x28_2).f2), .int .i64 ((rd_T276 l0_8 x28_2).f3), .slice A293_4 ((rd_T276 l0_8 x28_2).f4).length c293_4, .slice none 0 0]) ?_ 5 _ rfl; (with_reducible repeat (first | refine blk_drewN ?_ _ | refine blk_drew ?_ | refine blk_alloc ?_ _)); refine blk_put (cs := #[.int .i64 ((rd_T276 l0_8 x28_2).f0), .slice A293_1 ((rd_T276 l0_8 x28_2).f1).length c293_1, .int .i64 ((rd_T276 l0_8 x28_2).f2), .int .i64 ((rd_T276 l0_8 x28_2).f3), .slice none 0 0, .slice none 0 0]) ?_ 4 _ rfl; (with_reducible repeat (first | refine blk_drewN ?_ _ | refine blk_drew ?_ | refine blk_alloc ?_ _)); refine blk_put (cs := #[.int .i64 ((rd_T276 l0_8 x28_2).f0), .slice A293_1 ((rd_T276 l0_8 x28_2).f1).length c293_1, .int .i64 ((rd_T276 l0_8 x28_2).f2), .int .i64 0, .slice none 0 0, .slice none 0 0]) ?_ 3 _ rfl; (with_reducible repeat (first | refine blk_drewN ?_ _ | refine blk_drew ?_ | refine blk_alloc ?_ _)); refine blk_put (cs := #[.int .i64 ((rd_T276 l0_8 x28_2).f0), .slice A293_1 ((rd_T276 l0_8 x28_2).f1).length c293_1, .int .i64 0, .int .i64 0, .slice none 0 0, .slice none 0 0]) ?_ 2 _ rfl; (with_reducible repeat (first | refine blk_drewN ?_ _ | refine blk_drew ?_ | refine blk_alloc ?_ _)); refine blk_put (cs := #[.int .i64 ((rd_T276 l0_8 x28_2).f0), .slice none 0 0, .int .i64 0, .int .i64 0, .slice none 0 0, .slice none 0 0]) ?_ 1 _ rfl; (with_reducible repeat (first | refine blk_drewN ?_ _ | refine blk_drew ?_ | refine blk_alloc ?_ _)); refine blk_put (cs := #[.int .i64 0, .slice none 0 0, .int .i64 0, .int .i64 0, .slice none 0 0, .slice none 0 0]) ?_ 0 _ rfl; (with_reducible repeat (first | refine blk_drewN ?_ _ | refine blk_drew ?_ | refine blk_alloc ?_ _)); exact BK294.out) hb); replace HB := Aside0.mk (below_step (bw_ HB.out) hb); (try clear hb)))
         go_meet
         case rel => exact ⟨_, (true), (by first | rfl | (simp; done) | (simp [*]; done)), H', ⟨by have := HJ1.out; have := HK2.out; first | omega | exact Nat.le_refl _⟩, ⟨bk_ BK289.out⟩, ⟨bk_ BK292.out⟩, ⟨bk_ BK294.out⟩, ⟨bw_ HB.out⟩⟩
        case rest =>
         clear HC20
         obtain ⟨kq, x44_19, rfl, HA, HJ19, BK289, BK292, BK294, HB⟩ := hcut
         cases kq with
         | zero => exact absurd HA.out (by simp [impl_ValidDevice.j2])
         | succ kj19 =>
          have H := HA.out
          clear HA
          simp only [impl_ValidDevice.j2] at H
          by_cases c48 : x44_19 = true
          ·subst c48
           rw [if_pos rfl] at H
           obtain rfl := Option.some.inj H
           go_wp2
           go_ret
           exact ⟨by first | rfl | (simp [errW_none, errW_some] <;> rfl) | (simp [*, errW_none, errW_some] <;> rfl), bw_ HB.out⟩
          replace c48 := Bool.eq_false_iff.mpr c48
          subst c48
          rw [if_neg (show ¬ (false = true) by decide)] at H
          have H' := Aside0.mk H
          clear H
          have hnb49 := NB294_289.out
          have hnc49 := NB289_294.out
          have hnb50 := NB294_292.out
          have hnc50 := NB292_294.out
          obtain ⟨hcz51_0, hcz51_1, hcz51_2, hcz51_3, hcz51_4, hcz51_5⟩ := cells6 BK294.out
          obtain ⟨hfz51_0, hfz51_1, hfz51_2, hfz51_3, hfz51_4, hfz51_5⟩ := frozen6 BK294.out
          go_wp2
          go_loopg [48] kj19 (fun kq v48 w' => ∃ (x48_4 : Int) (x293000_4 : List Int), v48 = .int .i64 x48_4 ∧ Aside0 (impl_ValidDevice.l1 kq l0_8 (l0_8.length : Int) x28_2 ((rd_T276 l0_8 x28_2).f1) (((rd_T276 l0_8 x28_2).f1).length : Int) x48_4 a0_0 a0_1 a0_2 l0_3 a0_4 a0_5 a0_6 a0_7 l0_8 x293000_4 = some r) ∧ Aside0 (kq ≤ kj19) ∧ Aside0 (w'.heap[gb289]? = some (.cells #[.int .i64 a0_0, .int .i64 a0_1, .int .i64 a0_2, (.slice A0_3 l0_3.length c0_3), .int .i64 a0_4, .int .i64 a0_5, .bool a0_6, .int .i64 a0_7, (.slice (some ad293) l0_8.length c0_8)] 126 (0, 0))) ∧ Aside0 (w'.heap[gb292]? = some (setO x293000_4)) ∧ Aside0 (w'.heap[gb294]? = some (.cells #[.int .i64 ((rd_T276 l0_8 x28_2).f0), (.slice A293_1 ((rd_T276 l0_8 x28_2).f1).length c293_1), .int .i64 ((rd_T276 l0_8 x28_2).f2), .int .i64 ((rd_T276 l0_8 x28_2).f3), (.slice A293_4 ((rd_T276 l0_8 x28_2).f4).length c293_4), (.slice A293_5 ((rd_T276 l0_8 x28_2).f5).length c293_5)] 276 (0, 0))) ∧ Aside0 (Below w.heap.size w w'))
          case atStart => exact ⟨(0), (x293000_2), (by first | rfl | (simp; done) | (simp [*]; done)), H', ⟨Nat.le_refl _⟩, ⟨bk_ BK289.out⟩, ⟨bk_ BK292.out⟩, ⟨bk_ BK294.out⟩, ⟨bw_ HB.out⟩⟩
          case round =>
           clear H'
           obtain ⟨x48_4, x293000_4, rfl, HA, HK4, BK289, BK292, BK294, HB⟩ := hrel
           cases gk with
           | zero => exact absurd HA.out (by simp [impl_ValidDevice.l1])
           | succ k4 =>
            have H := HA.out
            clear HA
            simp only [impl_ValidDevice.l1] at H
            by_cases c52 : x48_4 < (((rd_T276 l0_8 x28_2).f1).length : Int)
            ·rw [if_pos c52] at H
             have c52b0 : decide (x48_4 < (((rd_T276 l0_8 x28_2).f1).length : Int)) = true := decide_eq_true c52
             clear c52
             by_cases c53 : 0 ≤ x48_4
             ·rw [if_pos c53] at H
              have c53b0 : decide (0 ≤ x48_4) = true := decide_eq_true c53
              clear c53
              by_cases c54 : x48_4 < (((rd_T276 l0_8 x28_2).f1).length : Int)
              ·rw [if_pos c54] at H
               have c54b0 : decide (x48_4 < (((rd_T276 l0_8 x28_2).f1).length : Int)) = true := decide_eq_true c54
               clear c54
               by_cases c55 : lookOk (rd ((rd_T276 l0_8 x28_2).f1) x48_4) x293000_4 = true
               ·rw [if_pos c55] at H
                have c55b0 := eq_true c55
                have c55b1 : decide (lookOk (rd ((rd_T276 l0_8 x28_2).f1) x48_4) x293000_4 = true) = true := decide_eq_true c55
                clear c55
                by_cases c56 : (inSet (rd ((rd_T276 l0_8 x28_2).f1) x48_4) x293000_4) = true
                ·rw [if_pos c56] at H
                 have c56b0 : (inSet (rd ((rd_T276 l0_8 x28_2).f1) x48_4) x293000_4) = true := c56
                 clear c56
                 obtain rfl := Option.some.inj H
                 have p298 : 0 ≤ (x48_4 : Int) := of_decide_eq_true (by first | (with_reducible assumption) | assumption)
                 have q298 : x48_4 < (((rd_T276 l0_8 x28_2).f1).length : Int) := of_decide_eq_true (by first | (with_reducible assumption) | assumption)
                 obtain ⟨ad298, e298, hx298_0⟩ := Kd.at_int HR293_1.out x48_4 p298 q298
                 cases e298
                 replace hx298_0 := (HB.out.cell (World.block_lt_of_cell? w _ hx298_0)).trans hx298_0
                 replace p298 := eq_true p298
                 replace q298 := eq_true q298
                 go_wp2_with (first | ((with_reducible refine gate_dst (N := 54) rfl ?_); (try (refine gate_guard (by rfl) ?_; dsimp only)); refine wpList_look_set _ rfl _ _ 228 rfl 2 4 (Go.Maps.int_keyed Try.underlying2) Try.underlying2 Try.underlying228 Try.underlying4 (by kernel_rfl) gb292 x293000_4 rfl (bk_ BK292.out) _ rfl (of_eq_true (by first | (with_reducible assumption) | assumption)) _ (by first | (with_reducible assumption) | rfl) ?_))
                 go_ret
                 exact ⟨by first | rfl | (simp [errW_none, errW_some] <;> rfl) | (simp [*, errW_none, errW_some] <;> rfl), bw_ HB.out⟩
                rw [if_neg c56] at H
                have c56b0 : (inSet (rd ((rd_T276 l0_8 x28_2).f1) x48_4) x293000_4) = false := by simpa using c56
                clear c56
                by_cases c57 : addOk (rd ((rd_T276 l0_8 x28_2).f1) x48_4) x293000_4 = true
                ·rw [if_pos c57] at H
                 have c57b0 := eq_true c57
                 have c57b1 : decide (addOk (rd ((rd_T276 l0_8 x28_2).f1) x48_4) x293000_4 = true) = true := decide_eq_true c57
                 clear c57
                 have H' := Aside0.mk H
                 clear H
                 have p298 : 0 ≤ (x48_4 : Int) := of_decide_eq_true (by first | (with_reducible assumption) | assumption)
                 have q298 : x48_4 < (((rd_T276 l0_8 x28_2).f1).length : Int) := of_decide_eq_true (by first | (with_reducible assumption) | assumption)
                 obtain ⟨ad298, e298, hx298_0⟩ := Kd.at_int HR293_1.out x48_4 p298 q298
                 cases e298
                 replace hx298_0 := (HB.out.cell (World.block_lt_of_cell? w _ hx298_0)).trans hx298_0
                 replace p298 := eq_true p298
                 replace q298 := eq_true q298
                 go_wp2_with (first | ((with_reducible refine gate_dst (N := 54) rfl ?_); (try (refine gate_guard (by rfl) ?_; dsimp only)); refine wpList_look_set _ rfl _ _ 228 rfl 2 4 (Go.Maps.int_keyed Try.underlying2) Try.underlying2 Try.underlying228 Try.underlying4 (by kernel_rfl) gb292 x293000_4 rfl (bk_ BK292.out) _ rfl (of_eq_true (by first | (with_reducible assumption) | assumption)) _ (by first | (with_reducible assumption) | rfl) ?_) | (at_mapUpdate; refine wpList_add_set _ rfl _ _ _ 228 rfl 2 4 (Go.Maps.int_keyed Try.underlying2) Try.underlying2 Try.underlying228 Try.underlying4 gb292 x293000_4 rfl (bk_ BK292.out) _ rfl rfl (of_eq_true (by first | (with_reducible assumption) | assumption)) ?_; intro w58 hbox hg; replace BK289 := Aside0.mk (blk_grown (bk_ BK289.out) hg (by intro e_; exact NB289_292.out (Option.some.inj e_))); replace BK292 := Aside0.mk (hbox); replace BK294 := Aside0.mk (blk_grown (bk_ BK294.out) hg (by intro e_; exact NB294_292.out (Option.some.inj e_))); replace HB := Aside0.mk (pw_below_grown (bw_ HB.out) _ ((below_size (bw_ HB.out))) hg (fun k_ e_ => by cases e_; exact (GE292.elim id))); clear hbox hg))
                 go_roundg k4
                 case measure => have := HJ1.out; have := HK2.out; have := HJ19.out; have := HK4.out; omega
                 case rel => exact ⟨(wrap64 (x48_4 + 1)), (((rd ((rd_T276 l0_8 x28_2).f1) x48_4) :: x293000_4)), (by first | rfl | (simp; done) | (simp [*]; done)), H', ⟨by have := HJ1.out; have := HK2.out; have := HJ19.out; have := HK4.out; omega⟩, ⟨bk_ BK289.out⟩, ⟨bk_ BK292.out⟩, ⟨bk_ BK294.out⟩, ⟨bw_ HB.out⟩⟩
                rw [if_neg c57] at H
                exact absurd H (by simp)
               rw [if_neg c55] at H
               exact absurd H (by simp)
              rw [if_neg c54] at H
              exact absurd H (by simp)
             rw [if_neg c53] at H
             exact absurd H (by simp)
            rw [if_neg c52] at H
            have c52b0 : decide (x48_4 < (((rd_T276 l0_8 x28_2).f1).length : Int)) = false := decide_eq_false c52
            clear c52
            have H' := Aside0.mk H
            clear H
            go_wp2
            go_roundg k4
            case measure => have := HJ1.out; have := HK2.out; have := HJ19.out; have := HK4.out; omega
            case rel => exact ⟨(wrap64 (x28_2 + 1)), (x293000_4), (by first | rfl | (simp; done) | (simp [*]; done)), H', ⟨by have := HJ1.out; have := HK2.out; have := HJ19.out; have := HK4.out; omega⟩, ⟨bk_ BK289.out⟩, ⟨bk_ BK292.out⟩, ⟨bw_ HB.out⟩⟩
       rw [if_neg c19] at H
       exact absurd H (by simp)
      rw [if_neg c18] at H
      exact absurd H (by simp)
     rw [if_neg c17] at H
     have c17b0 : decide (x28_2 < (l0_8.length : Int)) = false := decide_eq_false c17
     clear c17
     obtain rfl := Option.some.inj H
     go_wp2
     go_ret
     exact ⟨by first | rfl | (simp [errW_none, errW_some] <;> rfl) | (simp [*, errW_none, errW_some] <;> rfl), bw_ HB.out⟩

end Go.Proofs.Ytokonpkecmnneaa.QFnExactRoomInx
