-- made by mp, a turned copy of the print: proofs of this session's
import Derived.Test.YtokonpkecmnneaaQFnExactWearOfZonex0
import Derived.Test.YtokonpkecmnneaaQFnExactWearOfZonex1
import Derived.Test.YtokonpkecmnneaaQFnExactWearOfZonex2
import Derived.Test.YtokonpkecmnneaaQFnExactWearOfZonex4
import Derived.Test.YtokonpkecmnneaaQFnExactWearOfZonex11
import Derived.Test.YtokonpkecmnneaaQFnExactWearOfZonex17
import Derived.Test.YtokonpkecmnneaaHk
namespace Go.Proofs.Ytokonpkecmnneaa.QFnExactWearOfZonex
open Go.RowKit Go.Proofs.YtokonpkecmnneaaW.PrintWords Go.Proofs.YtokonpkecmnneaaW.PrintLast Go.Proofs.YtokonpkecmnneaaW.PrintMore
open Go.Proofs.YtokonpkecmnneaaHw Go.Proofs.YtokonpkecmnneaaHo Go.Proofs.YtokonpkecmnneaaHm Go.Proofs.YtokonpkecmnneaaHk
attribute [local go_sem] binOp_leq_hw binOp_geq_hw binOp_gtr_hw
attribute [local go_sem] max2_int min2_int max_two min_two max_three min_three max_four min_four   -- for this text's walks alone
set_option linter.unusedVariables false
set_option linter.unusedSimpArgs false

/-! ### impl_Device_wearOf: function 189 -/
def impl_Device_wearOf.l0 : Nat → Int → List Int → Int → Int → Int → Int → Int → List (S218) → Int → Int → Bool → Int → List (S276) → Option (Int)
 | 0, _, _, _, _, _, _, _, _, _, _, _, _, _ => none
 | k + 1, x5, x15, x16, x17, x1000, x1001, x1002, x1003, x1004, x1005, x1006, x1007, x1008 => if x17 < x16 then (if 0 ≤ x17 then (if x17 < (x15.length : Int) then (if 0 ≤ (rd x15 x17) then (if (rd x15 x17) < (x1003.length : Int) then (impl_Device_wearOf.l0 k (wrap64 (x5 + ((rd_T218 x1003 (rd x15 x17)).f0))) x15 x16 (wrap64 (x17 + 1)) x1000 x1001 x1002 x1003 x1004 x1005 x1006 x1007 x1008) else (none)) else (none)) else (none)) else (none)) else (some x5)
def impl_Device_wearOf.f (k : Nat) (a0_0 : Int) (a0_1 : Int) (a0_2 : Int) (l0_3 : List (S218)) (a0_4 : Int) (a0_5 : Int) (a0_6 : Bool) (a0_7 : Int) (l0_8 : List (S276)) (a1 : Int) : Option (Int) := if 0 ≤ a1 then (if a1 < (l0_8.length : Int) then (impl_Device_wearOf.l0 k 0 ((rd_T276 l0_8 a1).f1) (((rd_T276 l0_8 a1).f1).length : Int) 0 a0_0 a0_1 a0_2 l0_3 a0_4 a0_5 a0_6 a0_7 l0_8) else (none)) else (none)
theorem impl_Device_wearOf.mono_l : ∀ k, (∀ y0 y1 y2 y3 y4 y5 y6 y7 y8 y9 y10 y11 y12, LeO (impl_Device_wearOf.l0 k y0 y1 y2 y3 y4 y5 y6 y7 y8 y9 y10 y11 y12) (impl_Device_wearOf.l0 (k + 1) y0 y1 y2 y3 y4 y5 y6 y7 y8 y9 y10 y11 y12))
 | 0 => fun _ _ _ _ _ _ _ _ _ _ _ _ _ r h => by simp [impl_Device_wearOf.l0] at h
 | k + 1 => by
  have ih0 := impl_Device_wearOf.mono_l k
  ·intro y0 y1 y2 y3 y4 y5 y6 y7 y8 y9 y10 y11 y12
   unfold impl_Device_wearOf.l0
   repeat' first
   | (with_reducible exact ih0 _ _ _ _ _ _ _ _ _ _ _ _ _)
   | (with_reducible exact LeO.refl _)
   | (with_reducible exact LeO.none _)
   | (with_reducible refine LeO.ite ?_ ?_)
   | (with_reducible refine LeO.bind ?_ (fun _ => ?_))
   | exact ih0 _ _ _ _ _ _ _ _ _ _ _ _ _
   | exact LeO.none _
   | refine LeO.ite ?_ ?_
   | refine LeO.bind ?_ (fun _ => ?_)
theorem impl_Device_wearOf.mono : ∀ a0 a1 a2 a3 a4 a5 a6 a7 a8 a9 k, LeO (impl_Device_wearOf.f k a0 a1 a2 a3 a4 a5 a6 a7 a8 a9) (impl_Device_wearOf.f (k + 1) a0 a1 a2 a3 a4 a5 a6 a7 a8 a9) := by
 intro a0 a1 a2 a3 a4 a5 a6 a7 a8 a9 k
 have ih0 := impl_Device_wearOf.mono_l k
 unfold impl_Device_wearOf.f
 repeat' first
   | (with_reducible exact ih0 _ _ _ _ _ _ _ _ _ _ _ _ _)
   | (with_reducible exact LeO.refl _)
   | (with_reducible exact LeO.none _)
   | (with_reducible refine LeO.ite ?_ ?_)
   | (with_reducible refine LeO.bind ?_ (fun _ => ?_))
   | exact ih0 _ _ _ _ _ _ _ _ _ _ _ _ _
   | exact LeO.none _
   | refine LeO.ite ?_ ?_
   | refine LeO.bind ?_ (fun _ => ?_)
set_option maxHeartbeats 8000000 in
set_option maxRecDepth 100000 in
theorem impl_Device_wearOf.calls (k : Nat) (g0_ : Nat) (a0_0 : Int) (a0_1 : Int) (a0_2 : Int) (A0_3 : Option Addr) (c0_3 : Nat) (l0_3 : List (S218)) (a0_4 : Int) (a0_5 : Int) (a0_6 : Bool) (a0_7 : Int) (A0_8 : Option Addr) (c0_8 : Nat) (l0_8 : List (S276)) (a1 : Int) (r : Int) (w : World) (hr0_3 : Kd.C k218 w A0_3 l0_3.length l0_3) (hc0_3 : l0_3.length ≤ c0_3) (hr0_8 : Kd.C k276 w A0_8 l0_8.length l0_8) (hc0_8 : l0_8.length ≤ c0_8) (hb0 : w.heap[g0_]? = some (.cells #[.int .i64 a0_0, .int .i64 a0_1, .int .i64 a0_2, .slice A0_3 l0_3.length c0_3, .int .i64 a0_4, .int .i64 a0_5, .bool a0_6, .int .i64 a0_7, .slice A0_8 l0_8.length c0_8] 126 (0, 0))) (h : impl_Device_wearOf.f k a0_0 a0_1 a0_2 l0_3 a0_4 a0_5 a0_6 a0_7 l0_8 a1 = some r) :
  Calls Try.prog 189 #[.pointer (some ⟨g0_, 0, none⟩), .int .i64 a1] w fun e w' => e = .returned (.int .i64 r) ∧ Drawn0 w w' := by
 have HR0_3 := Aside0.mk hr0_3
 have HC0_3 := Aside0.mk hc0_3
 clear hr0_3 hc0_3
 have HR0_8 := Aside0.mk hr0_8
 have HC0_8 := Aside0.mk hc0_8
 clear hr0_8 hc0_8
 have BK0 := Aside0.mk hb0
 clear hb0
 have H := h; unfold impl_Device_wearOf.f at H
 clear h
 by_cases c3 : 0 ≤ a1
 ·rw [if_pos c3] at H
  have c3b0 : decide (0 ≤ a1) = true := decide_eq_true c3
  clear c3
  by_cases c4 : a1 < (l0_8.length : Int)
  ·rw [if_pos c4] at H
   have c4b0 : decide (a1 < (l0_8.length : Int)) = true := decide_eq_true c4
   clear c4
   have H' := Aside0.mk H
   clear H
   obtain ⟨hcz5_0, hcz5_1, hcz5_2, hcz5_3, hcz5_4, hcz5_5, hcz5_6, hcz5_7, hcz5_8⟩ := cells9 BK0.out
   obtain ⟨hfz5_0, hfz5_1, hfz5_2, hfz5_3, hfz5_4, hfz5_5, hfz5_6, hfz5_7, hfz5_8⟩ := frozen9 BK0.out
   have p329 : 0 ≤ (a1 : Int) := of_decide_eq_true (by first | (with_reducible assumption) | assumption)
   have q329 : a1 < (l0_8.length : Int) := of_decide_eq_true (by first | (with_reducible assumption) | assumption)
   obtain ⟨ad329, A329_1, c329_1, A329_4, c329_4, A329_5, c329_5, e329, hx329_0, hx329_1, hx329_2, hx329_3, hx329_4, hx329_5, hl329_1, hi329_1, hl329_4, hi329_4, hl329_5, hi329_5⟩ := at_T276 HR0_8.out a1 p329 q329
   cases e329
   have HR329_1 := Aside0.mk hi329_1
   have HC329_1 := Aside0.mk hl329_1
   clear hi329_1 hl329_1
   have HR329_4 := Aside0.mk hi329_4
   have HC329_4 := Aside0.mk hl329_4
   clear hi329_4 hl329_4
   have HR329_5 := Aside0.mk hi329_5
   have HC329_5 := Aside0.mk hl329_5
   clear hi329_5 hl329_5
   replace p329 := eq_true p329
   replace q329 := eq_true q329
   go_enter Try.func189, Try.ntmps189
   go_wp2
   go_loopg [5, 17] k (fun kq v5 v17 w' => ∃ (x5_1 : Int) (x17_1 : Int), v5 = .int .i64 x5_1 ∧ v17 = .int .i64 x17_1 ∧ Aside0 (impl_Device_wearOf.l0 kq x5_1 ((rd_T276 l0_8 a1).f1) (((rd_T276 l0_8 a1).f1).length : Int) x17_1 a0_0 a0_1 a0_2 l0_3 a0_4 a0_5 a0_6 a0_7 l0_8 = some r) ∧ Aside0 (kq ≤ k) ∧ Drawn0 w w')
   case atStart => exact ⟨(0), (0), (by first | rfl | (simp; done) | (simp [*]; done)), (by first | rfl | (simp; done) | (simp [*]; done)), H', ⟨Nat.le_refl _⟩, by repeat (first | exact Drawn0.refl _ | apply Drawn0.step)⟩
   case round =>
    clear H'
    obtain ⟨x5_1, x17_1, rfl, rfl, HA, HK1, ⟨m1, rfl⟩⟩ := hrel
    cases gk with
    | zero => exact absurd HA.out (by simp [impl_Device_wearOf.l0])
    | succ k1 =>
     have H := HA.out
     clear HA
     simp only [impl_Device_wearOf.l0] at H
     by_cases c6 : x17_1 < (((rd_T276 l0_8 a1).f1).length : Int)
     ·rw [if_pos c6] at H
      have c6b0 : decide (x17_1 < (((rd_T276 l0_8 a1).f1).length : Int)) = true := decide_eq_true c6
      clear c6
      by_cases c7 : 0 ≤ x17_1
      ·rw [if_pos c7] at H
       have c7b0 : decide (0 ≤ x17_1) = true := decide_eq_true c7
       clear c7
       by_cases c8 : x17_1 < (((rd_T276 l0_8 a1).f1).length : Int)
       ·rw [if_pos c8] at H
        have c8b0 : decide (x17_1 < (((rd_T276 l0_8 a1).f1).length : Int)) = true := decide_eq_true c8
        clear c8
        by_cases c9 : 0 ≤ (rd ((rd_T276 l0_8 a1).f1) x17_1)
        ·rw [if_pos c9] at H
         have c9b0 : decide (0 ≤ (rd ((rd_T276 l0_8 a1).f1) x17_1)) = true := decide_eq_true c9
         clear c9
         by_cases c10 : (rd ((rd_T276 l0_8 a1).f1) x17_1) < (l0_3.length : Int)
         ·rw [if_pos c10] at H
          have c10b0 : decide ((rd ((rd_T276 l0_8 a1).f1) x17_1) < (l0_3.length : Int)) = true := decide_eq_true c10
          clear c10
          have H' := Aside0.mk H
          clear H
          have p330 : 0 ≤ (x17_1 : Int) := of_decide_eq_true (by first | (with_reducible assumption) | assumption)
          have q330 : x17_1 < (((rd_T276 l0_8 a1).f1).length : Int) := of_decide_eq_true (by first | (with_reducible assumption) | assumption)
          obtain ⟨ad330, e330, hx330_0⟩ := Kd.at_int HR329_1.out x17_1 p330 q330
          cases e330
          replace p330 := eq_true p330
          replace q330 := eq_true q330
          obtain ⟨hcz11_0, hcz11_1, hcz11_2, hcz11_3, hcz11_4, hcz11_5, hcz11_6, hcz11_7, hcz11_8⟩ := cells9 BK0.out
          obtain ⟨hfz11_0, hfz11_1, hfz11_2, hfz11_3, hfz11_4, hfz11_5, hfz11_6, hfz11_7, hfz11_8⟩ := frozen9 BK0.out
          have p331 : 0 ≤ ((rd ((rd_T276 l0_8 a1).f1) x17_1) : Int) := of_decide_eq_true (by first | (with_reducible assumption) | assumption)
          have q331 : (rd ((rd_T276 l0_8 a1).f1) x17_1) < (l0_3.length : Int) := of_decide_eq_true (by first | (with_reducible assumption) | assumption)
          obtain ⟨ad331, A331_3, c331_3, e331, hx331_0, hx331_1, hx331_2, hx331_3, hl331_3, hi331_3⟩ := at_T218 HR0_3.out (rd ((rd_T276 l0_8 a1).f1) x17_1) p331 q331
          cases e331
          have HR331_3 := Aside0.mk hi331_3
          have HC331_3 := Aside0.mk hl331_3
          clear hi331_3 hl331_3
          replace p331 := eq_true p331
          replace q331 := eq_true q331
          go_wp2
          go_roundg k1
          case measure => have := HK1.out; omega
          case rel => exact ⟨(wrap64 (x5_1 + ((rd_T218 l0_3 (rd ((rd_T276 l0_8 a1).f1) x17_1)).f0))), (wrap64 (x17_1 + 1)), (by first | rfl | (simp; done) | (simp [*]; done)), (by first | rfl | (simp; done) | (simp [*]; done)), H', ⟨by have := HK1.out; omega⟩, by repeat (first | exact Drawn0.refl _ | apply Drawn0.step)⟩
         rw [if_neg c10] at H
         exact absurd H (by simp)
        rw [if_neg c9] at H
        exact absurd H (by simp)
       rw [if_neg c8] at H
       exact absurd H (by simp)
      rw [if_neg c7] at H
      exact absurd H (by simp)
     rw [if_neg c6] at H
     have c6b0 : decide (x17_1 < (((rd_T276 l0_8 a1).f1).length : Int)) = false := decide_eq_false c6
     clear c6
     obtain rfl := Option.some.inj H
     go_wp2
     go_ret
     exact ⟨by first | rfl | (simp; done) | (simp [*]; done), by repeat (first | exact Drawn0.refl _ | apply Drawn0.step)⟩
  rw [if_neg c4] at H
  exact absurd H (by simp)
 rw [if_neg c3] at H
 exact absurd H (by simp)

/-! ### impl_WearOfZone: function 82 -/
def impl_WearOfZone.f (k : Nat) (a0_0 : Int) (a0_1 : Int) (a0_2 : Int) (l0_3 : List (S218)) (a0_4 : Int) (a0_5 : Int) (a0_6 : Bool) (a0_7 : Int) (l0_8 : List (S276)) (a1 : Int) : Option (Int) := (impl_ValidDevice.f k a0_0 a0_1 a0_2 l0_3 a0_4 a0_5 a0_6 a0_7 l0_8).bind fun t333 => (if t333 = true then ((impl_isIndex.f a1 (l0_8.length : Int)).bind fun t334 => (if t334 = true then ((impl_Device_wearOf.f k a0_0 a0_1 a0_2 l0_3 a0_4 a0_5 a0_6 a0_7 l0_8 a1).bind fun t335 => (some t335)) else (some 0))) else (some 0))
theorem impl_WearOfZone.mono : ∀ a0 a1 a2 a3 a4 a5 a6 a7 a8 a9 k, LeO (impl_WearOfZone.f k a0 a1 a2 a3 a4 a5 a6 a7 a8 a9) (impl_WearOfZone.f (k + 1) a0 a1 a2 a3 a4 a5 a6 a7 a8 a9) := by
 intro a0 a1 a2 a3 a4 a5 a6 a7 a8 a9 k
 unfold impl_WearOfZone.f
 repeat' first
   | (with_reducible exact impl_Device_wearOf.mono _ _ _ _ _ _ _ _ _ _ _)
   | (with_reducible exact impl_ValidDevice.mono _ _ _ _ _ _ _ _ _ _)
   | (with_reducible exact LeO.refl _)
   | (with_reducible exact LeO.none _)
   | (with_reducible refine LeO.ite ?_ ?_)
   | (with_reducible refine LeO.bind ?_ (fun _ => ?_))
   | exact impl_Device_wearOf.mono _ _ _ _ _ _ _ _ _ _ _
   | exact impl_ValidDevice.mono _ _ _ _ _ _ _ _ _ _
   | exact LeO.none _
   | refine LeO.ite ?_ ?_
   | refine LeO.bind ?_ (fun _ => ?_)
set_option maxHeartbeats 8000000 in
set_option maxRecDepth 100000 in
theorem impl_WearOfZone.calls (k : Nat) (a0_0 : Int) (a0_1 : Int) (a0_2 : Int) (A0_3 : Option Addr) (c0_3 : Nat) (l0_3 : List (S218)) (a0_4 : Int) (a0_5 : Int) (a0_6 : Bool) (a0_7 : Int) (A0_8 : Option Addr) (c0_8 : Nat) (l0_8 : List (S276)) (a1 : Int) (r : Int) (w : World) (hr0_3 : Kd.C k218 w A0_3 l0_3.length l0_3) (hc0_3 : l0_3.length ≤ c0_3) (hr0_8 : Kd.C k276 w A0_8 l0_8.length l0_8) (hc0_8 : l0_8.length ≤ c0_8) (h : impl_WearOfZone.f k a0_0 a0_1 a0_2 l0_3 a0_4 a0_5 a0_6 a0_7 l0_8 a1 = some r) :
  Calls Try.prog 82 #[.agg #[.int .i64 a0_0, .int .i64 a0_1, .int .i64 a0_2, .slice A0_3 l0_3.length c0_3, .int .i64 a0_4, .int .i64 a0_5, .bool a0_6, .int .i64 a0_7, .slice A0_8 l0_8.length c0_8], .int .i64 a1] w fun e w' => e = .returned (.int .i64 r) ∧ Below w.heap.size w w' := by
 have hu126 := Try.underlying126
 have HR0_3 := Aside0.mk hr0_3
 have HC0_3 := Aside0.mk hc0_3
 clear hr0_3 hc0_3
 have HR0_8 := Aside0.mk hr0_8
 have HC0_8 := Aside0.mk hc0_8
 clear hr0_8 hc0_8
 have HB := Aside0.mk (Below.refl w.heap.size w)
 have H := h; unfold impl_WearOfZone.f at H
 clear h
 replace H := Option.bind_eq_some_iff.mp H
 obtain ⟨t333, A30, H⟩ := H
 have A3 := Aside0.mk A30
 clear A30
 by_cases c4 : t333 = true
 ·subst c4
  rw [if_pos rfl] at H
  replace H := Option.bind_eq_some_iff.mp H
  obtain ⟨t334, A50, H⟩ := H
  have A5 := Aside0.mk A50
  clear A50
  by_cases c6 : t334 = true
  ·subst c6
   rw [if_pos rfl] at H
   replace H := Option.bind_eq_some_iff.mp H
   obtain ⟨t335, A70, H⟩ := H
   have A7 := Aside0.mk A70
   clear A70
   obtain rfl := Option.some.inj H
   go_enter Try.func82, Try.ntmps82
   go_wp2_with (first | ((with_reducible refine gate_dst (N := 2) rfl ?_); (try (refine gate_guard (by rfl) ?_; dsimp only)); refine box_event ?hg (N := 2) ?hd (cs := #[.int .i64 a0_0, .int .i64 a0_1, .int .i64 a0_2, .slice A0_3 l0_3.length c0_3, .int .i64 a0_4, .int .i64 a0_5, .bool a0_6, .int .i64 a0_7, .slice A0_8 l0_8.length c0_8]) (t := 126) ?hr ?_; (case hd => rfl); (case hg => rfl); (case hr => first | (go_simp; done) | (go_simp; rfl)); intro gb332 hg w8 hbox hb; have BK332 := Aside0.mk (hbox); have GW332 := Aside0.mk ((by rw [hg]; exact (below_size (bw_ HB.out)) : w.heap.size ≤ gb332)); have GE332 := Nonempty.intro GW332.out; replace HB := Aside0.mk (below_step (bw_ HB.out) hb); clear hb hbox hg; obtain ⟨hcz9_0, hcz9_1, hcz9_2, hcz9_3, hcz9_4, hcz9_5, hcz9_6, hcz9_7, hcz9_8⟩ := cells9 BK332.out; obtain ⟨hfz9_0, hfz9_1, hfz9_2, hfz9_3, hfz9_4, hfz9_5, hfz9_6, hfz9_7, hfz9_8⟩ := frozen9 BK332.out) | ((with_reducible refine gate_callee (f := 185) rfl ?_); refine goesL_ (some 6) rfl rfl Try.func185 (by kernel_rfl) rfl #[.agg #[.int .i64 a0_0, .int .i64 a0_1, .int .i64 a0_2, .slice A0_3 l0_3.length c0_3, .int .i64 a0_4, .int .i64 a0_5, .bool a0_6, .int .i64 a0_7, .slice A0_8 l0_8.length c0_8]] rfl (by (try simp only [List.map_toArray, List.map_cons, List.map_nil]); first | done | rfl | (simp only [List.length_drop, List.length_take]; rfl)) ?_; (with_reducible refine (impl_ValidDevice.calls k a0_0 a0_1 a0_2 _ _ l0_3 a0_4 a0_5 a0_6 a0_7 _ _ l0_8 true _ ?side1 ?side2 ?side3 ?side4 A3.out).mono ?_); (case side1 => exact Kd.C_below HR0_3.out (bw_ HB.out)); (case side2 => exact HC0_3.out); (case side3 => exact Kd.C_below HR0_8.out (bw_ HB.out)); (case side4 => exact HC0_8.out); rintro e w10 ⟨rfl, hb⟩; refine ⟨_, rfl, ?_⟩; replace BK332 := Aside0.mk (blk_below (bk_ BK332.out) hb); replace HB := Aside0.mk (below_step (bw_ HB.out) hb); (try clear hb); obtain ⟨hcz11_0, hcz11_1, hcz11_2, hcz11_3, hcz11_4, hcz11_5, hcz11_6, hcz11_7, hcz11_8⟩ := cells9 BK332.out; obtain ⟨hfz11_0, hfz11_1, hfz11_2, hfz11_3, hfz11_4, hfz11_5, hfz11_6, hfz11_7, hfz11_8⟩ := frozen9 BK332.out) | (go_at_call 169; (with_reducible refine (impl_isIndex.calls a1 (l0_8.length : Int) true _ A5.out).mono ?_); rintro e w' ⟨rfl, ⟨nd, rfl⟩⟩) | ((with_reducible refine gate_callee (f := 189) rfl ?_); refine goesL_ (some 17) rfl rfl Try.func189 (by kernel_rfl) rfl #[.pointer (some ⟨gb332, 0, none⟩), .int .i64 a1] rfl (by (try simp only [List.map_toArray, List.map_cons, List.map_nil]); first | done | rfl | (simp only [List.length_drop, List.length_take]; rfl)) ?_; (with_reducible refine (impl_Device_wearOf.calls k gb332 a0_0 a0_1 a0_2 A0_3 c0_3 l0_3 a0_4 a0_5 a0_6 a0_7 A0_8 c0_8 l0_8 a1 t335 _ ?side1 ?side2 ?side3 ?side4 ?side5 A7.out).mono ?_); (case side1 => exact Kd.C_below HR0_3.out (bw_ HB.out)); (case side2 => exact HC0_3.out); (case side3 => exact Kd.C_below HR0_8.out (bw_ HB.out)); (case side4 => exact HC0_8.out); (case side5 => (with_reducible repeat (first | refine blk_drewN ?_ _ | refine blk_drew ?_ | refine blk_alloc ?_ _)); exact BK332.out); rintro e w' ⟨rfl, ⟨nd, rfl⟩⟩; refine ⟨_, rfl, ?_⟩))
   go_ret
   exact ⟨by first | rfl | (simp [errW_none, errW_some] <;> rfl) | (simp [*, errW_none, errW_some] <;> rfl), bw_ HB.out⟩
  replace c6 := Bool.eq_false_iff.mpr c6
  subst c6
  rw [if_neg (show ¬ (false = true) by decide)] at H
  obtain rfl := Option.some.inj H
  go_enter Try.func82, Try.ntmps82
  go_wp2_with (first | ((with_reducible refine gate_dst (N := 2) rfl ?_); (try (refine gate_guard (by rfl) ?_; dsimp only)); refine box_event ?hg (N := 2) ?hd (cs := #[.int .i64 a0_0, .int .i64 a0_1, .int .i64 a0_2, .slice A0_3 l0_3.length c0_3, .int .i64 a0_4, .int .i64 a0_5, .bool a0_6, .int .i64 a0_7, .slice A0_8 l0_8.length c0_8]) (t := 126) ?hr ?_; (case hd => rfl); (case hg => rfl); (case hr => first | (go_simp; done) | (go_simp; rfl)); intro gb332 hg w12 hbox hb; have BK332 := Aside0.mk (hbox); have GW332 := Aside0.mk ((by rw [hg]; exact (below_size (bw_ HB.out)) : w.heap.size ≤ gb332)); have GE332 := Nonempty.intro GW332.out; replace HB := Aside0.mk (below_step (bw_ HB.out) hb); clear hb hbox hg; obtain ⟨hcz13_0, hcz13_1, hcz13_2, hcz13_3, hcz13_4, hcz13_5, hcz13_6, hcz13_7, hcz13_8⟩ := cells9 BK332.out; obtain ⟨hfz13_0, hfz13_1, hfz13_2, hfz13_3, hfz13_4, hfz13_5, hfz13_6, hfz13_7, hfz13_8⟩ := frozen9 BK332.out) | ((with_reducible refine gate_callee (f := 185) rfl ?_); refine goesL_ (some 6) rfl rfl Try.func185 (by kernel_rfl) rfl #[.agg #[.int .i64 a0_0, .int .i64 a0_1, .int .i64 a0_2, .slice A0_3 l0_3.length c0_3, .int .i64 a0_4, .int .i64 a0_5, .bool a0_6, .int .i64 a0_7, .slice A0_8 l0_8.length c0_8]] rfl (by (try simp only [List.map_toArray, List.map_cons, List.map_nil]); first | done | rfl | (simp only [List.length_drop, List.length_take]; rfl)) ?_; (with_reducible refine (impl_ValidDevice.calls k a0_0 a0_1 a0_2 _ _ l0_3 a0_4 a0_5 a0_6 a0_7 _ _ l0_8 true _ ?side1 ?side2 ?side3 ?side4 A3.out).mono ?_); (case side1 => exact Kd.C_below HR0_3.out (bw_ HB.out)); (case side2 => exact HC0_3.out); (case side3 => exact Kd.C_below HR0_8.out (bw_ HB.out)); (case side4 => exact HC0_8.out); rintro e w14 ⟨rfl, hb⟩; refine ⟨_, rfl, ?_⟩; replace BK332 := Aside0.mk (blk_below (bk_ BK332.out) hb); replace HB := Aside0.mk (below_step (bw_ HB.out) hb); (try clear hb); obtain ⟨hcz15_0, hcz15_1, hcz15_2, hcz15_3, hcz15_4, hcz15_5, hcz15_6, hcz15_7, hcz15_8⟩ := cells9 BK332.out; obtain ⟨hfz15_0, hfz15_1, hfz15_2, hfz15_3, hfz15_4, hfz15_5, hfz15_6, hfz15_7, hfz15_8⟩ := frozen9 BK332.out) | (go_at_call 169; (with_reducible refine (impl_isIndex.calls a1 (l0_8.length : Int) false _ A5.out).mono ?_); rintro e w' ⟨rfl, ⟨nd, rfl⟩⟩))
  go_ret
  exact ⟨by first | rfl | (simp [errW_none, errW_some] <;> rfl) | (simp [*, errW_none, errW_some] <;> rfl), bw_ HB.out⟩
 replace c4 := Bool.eq_false_iff.mpr c4
 subst c4
 rw [if_neg (show ¬ (false = true) by decide)] at H
 obtain rfl := Option.some.inj H
 go_enter Try.func82, Try.ntmps82
 go_wp2_with (first | ((with_reducible refine gate_dst (N := 2) rfl ?_); (try (refine gate_guard (by rfl) ?_; dsimp only)); refine box_event ?hg (N := 2) ?hd (cs := #[.int .i64 a0_0, .int .i64 a0_1, .int .i64 a0_2, .slice A0_3 l0_3.length c0_3, .int .i64 a0_4, .int .i64 a0_5, .bool a0_6, .int .i64 a0_7, .slice A0_8 l0_8.length c0_8]) (t := 126) ?hr ?_; (case hd => rfl); (case hg => rfl); (case hr => first | (go_simp; done) | (go_simp; rfl)); intro gb332 hg w16 hbox hb; have BK332 := Aside0.mk (hbox); have GW332 := Aside0.mk ((by rw [hg]; exact (below_size (bw_ HB.out)) : w.heap.size ≤ gb332)); have GE332 := Nonempty.intro GW332.out; replace HB := Aside0.mk (below_step (bw_ HB.out) hb); clear hb hbox hg; obtain ⟨hcz17_0, hcz17_1, hcz17_2, hcz17_3, hcz17_4, hcz17_5, hcz17_6, hcz17_7, hcz17_8⟩ := cells9 BK332.out; obtain ⟨hfz17_0, hfz17_1, hfz17_2, hfz17_3, hfz17_4, hfz17_5, hfz17_6, hfz17_7, hfz17_8⟩ := frozen9 BK332.out) | ((with_reducible refine gate_callee (f := 185) rfl ?_); refine goesL_ (some 6) rfl rfl Try.func185 (by kernel_rfl) rfl #[.agg #[.int .i64 a0_0, .int .i64 a0_1, .int .i64 a0_2, .slice A0_3 l0_3.length c0_3, .int .i64 a0_4, .int .i64 a0_5, .bool a0_6, .int .i64 a0_7, .slice A0_8 l0_8.length c0_8]] rfl (by (try simp only [List.map_toArray, List.map_cons, List.map_nil]); first | done | rfl | (simp only [List.length_drop, List.length_take]; rfl)) ?_; (with_reducible refine (impl_ValidDevice.calls k a0_0 a0_1 a0_2 _ _ l0_3 a0_4 a0_5 a0_6 a0_7 _ _ l0_8 false _ ?side1 ?side2 ?side3 ?side4 A3.out).mono ?_); (case side1 => exact Kd.C_below HR0_3.out (bw_ HB.out)); (case side2 => exact HC0_3.out); (case side3 => exact Kd.C_below HR0_8.out (bw_ HB.out)); (case side4 => exact HC0_8.out); rintro e w18 ⟨rfl, hb⟩; refine ⟨_, rfl, ?_⟩; replace BK332 := Aside0.mk (blk_below (bk_ BK332.out) hb); replace HB := Aside0.mk (below_step (bw_ HB.out) hb); (try clear hb)))
 go_ret
 exact ⟨by first | rfl | (simp [errW_none, errW_some] <;> rfl) | (simp [*, errW_none, errW_some] <;> rfl), bw_ HB.out⟩

/-! ### laws_FnExactWearOfZone: function 14 -/
def laws_FnExactWearOfZone.f (k : Nat) (a0_0 : Int) (a0_1 : Int) (a0_2 : Int) (l0_3 : List (S234)) (a0_4 : Int) (a0_5 : Int) (a0_6 : Bool) (a0_7 : Int) (l0_8 : List (S275)) (a1 : Int) : Option (Bool) := (laws_szDevice.f k a0_0 a0_1 a0_2 l0_3 a0_4 a0_5 a0_6 a0_7 l0_8 1048576).bind fun t337 => (if t337 < 0 then (some true) else ((laws_toDevice.f k a0_0 a0_1 a0_2 l0_3 a0_4 a0_5 a0_6 a0_7 l0_8).bind fun bt338 => ((spec_WearOfZone.f k bt338.1 bt338.2.1 bt338.2.2.1 bt338.2.2.2.1 bt338.2.2.2.2.1 bt338.2.2.2.2.2.1 bt338.2.2.2.2.2.2.1 bt338.2.2.2.2.2.2.2.1 bt338.2.2.2.2.2.2.2.2 a1).bind fun t351 => ((laws_toDevice.f k a0_0 a0_1 a0_2 l0_3 a0_4 a0_5 a0_6 a0_7 l0_8).bind fun bt352 => ((impl_WearOfZone.f k bt352.1 bt352.2.1 bt352.2.2.1 bt352.2.2.2.1 bt352.2.2.2.2.1 bt352.2.2.2.2.2.1 bt352.2.2.2.2.2.2.1 bt352.2.2.2.2.2.2.2.1 bt352.2.2.2.2.2.2.2.2 a1).bind fun t366 => (if t366 = t351 then ((laws_toDevice.f k a0_0 a0_1 a0_2 l0_3 a0_4 a0_5 a0_6 a0_7 l0_8).bind fun bt367 => ((laws_eqDevice.f k bt352.1 bt352.2.1 bt352.2.2.1 bt352.2.2.2.1 bt352.2.2.2.2.1 bt352.2.2.2.2.2.1 bt352.2.2.2.2.2.2.1 bt352.2.2.2.2.2.2.2.1 bt352.2.2.2.2.2.2.2.2 bt367.1 bt367.2.1 bt367.2.2.1 bt367.2.2.2.1 bt367.2.2.2.2.1 bt367.2.2.2.2.2.1 bt367.2.2.2.2.2.2.1 bt367.2.2.2.2.2.2.2.1 bt367.2.2.2.2.2.2.2.2).bind fun t380 => (if t380 = true then (some true) else (some false)))) else (some false)))))))
theorem laws_FnExactWearOfZone.mono : ∀ a0 a1 a2 a3 a4 a5 a6 a7 a8 a9 k, LeO (laws_FnExactWearOfZone.f k a0 a1 a2 a3 a4 a5 a6 a7 a8 a9) (laws_FnExactWearOfZone.f (k + 1) a0 a1 a2 a3 a4 a5 a6 a7 a8 a9) := by
 intro a0 a1 a2 a3 a4 a5 a6 a7 a8 a9 k
 unfold laws_FnExactWearOfZone.f
 repeat' first
   | (with_reducible exact impl_WearOfZone.mono _ _ _ _ _ _ _ _ _ _ _)
   | (with_reducible exact laws_eqDevice.mono _ _ _ _ _ _ _ _ _ _ _ _ _ _ _ _ _ _ _)
   | (with_reducible exact laws_szDevice.mono _ _ _ _ _ _ _ _ _ _ _)
   | (with_reducible exact laws_toDevice.mono _ _ _ _ _ _ _ _ _ _)
   | (with_reducible exact spec_WearOfZone.mono _ _ _ _ _ _ _ _ _ _ _)
   | (with_reducible exact LeO.refl _)
   | (with_reducible exact LeO.none _)
   | (with_reducible refine LeO.ite ?_ ?_)
   | (with_reducible refine LeO.bind ?_ (fun _ => ?_))
   | exact impl_WearOfZone.mono _ _ _ _ _ _ _ _ _ _ _
   | exact laws_eqDevice.mono _ _ _ _ _ _ _ _ _ _ _ _ _ _ _ _ _ _ _
   | exact laws_szDevice.mono _ _ _ _ _ _ _ _ _ _ _
   | exact laws_toDevice.mono _ _ _ _ _ _ _ _ _ _
   | exact spec_WearOfZone.mono _ _ _ _ _ _ _ _ _ _ _
   | exact LeO.none _
   | refine LeO.ite ?_ ?_
   | refine LeO.bind ?_ (fun _ => ?_)
set_option maxHeartbeats 8000000 in
set_option maxRecDepth 100000 in
theorem laws_FnExactWearOfZone.calls (k : Nat) (a0_0 : Int) (a0_1 : Int) (a0_2 : Int) (A0_3 : Option Addr) (c0_3 : Nat) (l0_3 : List (S234)) (a0_4 : Int) (a0_5 : Int) (a0_6 : Bool) (a0_7 : Int) (A0_8 : Option Addr) (c0_8 : Nat) (l0_8 : List (S275)) (a1 : Int) (r : Bool) (w : World) (hr0_3 : Kd.C k234 w A0_3 l0_3.length l0_3) (hc0_3 : l0_3.length ≤ c0_3) (hr0_8 : Kd.C k275 w A0_8 l0_8.length l0_8) (hc0_8 : l0_8.length ≤ c0_8) (h : laws_FnExactWearOfZone.f k a0_0 a0_1 a0_2 l0_3 a0_4 a0_5 a0_6 a0_7 l0_8 a1 = some r) :
  Calls Try.prog 14 #[.agg #[.int .i64 a0_0, .int .i64 a0_1, .int .i64 a0_2, .slice A0_3 l0_3.length c0_3, .int .i64 a0_4, .int .i64 a0_5, .bool a0_6, .int .i64 a0_7, .slice A0_8 l0_8.length c0_8], .int .i64 a1] w fun e w' => e = .returned (.bool r) ∧ Below w.heap.size w w' := by
 have hu121 := Try.underlying121
 have hu126 := Try.underlying126
 have HR0_3 := Aside0.mk hr0_3
 have HC0_3 := Aside0.mk hc0_3
 clear hr0_3 hc0_3
 have HR0_8 := Aside0.mk hr0_8
 have HC0_8 := Aside0.mk hc0_8
 clear hr0_8 hc0_8
 have HB := Aside0.mk (Below.refl w.heap.size w)
 have H := h; unfold laws_FnExactWearOfZone.f at H
 clear h
 replace H := Option.bind_eq_some_iff.mp H
 obtain ⟨t337, A30, H⟩ := H
 have A3 := Aside0.mk A30
 clear A30
 by_cases c4 : t337 < 0
 ·rw [if_pos c4] at H
  have c4b0 : decide (t337 < 0) = true := decide_eq_true c4
  clear c4
  obtain rfl := Option.some.inj H
  go_enter Try.func14, Try.ntmps14
  go_wp2_with (first | ((with_reducible refine gate_dst (N := 2) rfl ?_); refine box_event ?hg (N := 2) ?hd (cs := #[.int .i64 a0_0, .int .i64 a0_1, .int .i64 a0_2, .slice A0_3 l0_3.length c0_3, .int .i64 a0_4, .int .i64 a0_5, .bool a0_6, .int .i64 a0_7, .slice A0_8 l0_8.length c0_8]) (t := 121) ?hr ?_; (case hd => rfl); (case hg => rfl); (case hr => first | (go_simp; done) | (go_simp; rfl)); intro gb336 hg w5 hbox hb; have BK336 := Aside0.mk (hbox); have GW336 := Aside0.mk ((by rw [hg]; exact (below_size (bw_ HB.out)) : w.heap.size ≤ gb336)); have GE336 := Nonempty.intro GW336.out; replace HB := Aside0.mk (below_step (bw_ HB.out) hb); clear hb hbox hg; obtain ⟨hcz6_0, hcz6_1, hcz6_2, hcz6_3, hcz6_4, hcz6_5, hcz6_6, hcz6_7, hcz6_8⟩ := cells9 BK336.out; obtain ⟨hfz6_0, hfz6_1, hfz6_2, hfz6_3, hfz6_4, hfz6_5, hfz6_6, hfz6_7, hfz6_8⟩ := frozen9 BK336.out) | ((with_reducible refine gate_callee (f := 76) rfl ?_); refine goesL_ (some 11) rfl rfl Try.func76 (by kernel_rfl) rfl #[.agg #[.int .i64 a0_0, .int .i64 a0_1, .int .i64 a0_2, .slice A0_3 l0_3.length c0_3, .int .i64 a0_4, .int .i64 a0_5, .bool a0_6, .int .i64 a0_7, .slice A0_8 l0_8.length c0_8], .int .i64 1048576] rfl (by (try simp only [List.map_toArray, List.map_cons, List.map_nil]); first | done | rfl | (simp only [List.length_drop, List.length_take]; rfl)) ?_; (with_reducible refine (laws_szDevice.calls k a0_0 a0_1 a0_2 _ _ l0_3 a0_4 a0_5 a0_6 a0_7 _ _ l0_8 1048576 t337 _ ?side1 ?side2 ?side3 ?side4 A3.out).mono ?_); (case side1 => exact Kd.C_below HR0_3.out (bw_ HB.out)); (case side2 => exact HC0_3.out); (case side3 => exact Kd.C_below HR0_8.out (bw_ HB.out)); (case side4 => exact HC0_8.out); rintro e w7 ⟨rfl, hb⟩; refine ⟨_, rfl, ?_⟩; replace BK336 := Aside0.mk (blk_below (bk_ BK336.out) hb); replace HB := Aside0.mk (below_step (bw_ HB.out) hb); (try clear hb)))
  go_ret
  exact ⟨by first | rfl | (simp [errW_none, errW_some] <;> rfl) | (simp [*, errW_none, errW_some] <;> rfl), bw_ HB.out⟩
 rw [if_neg c4] at H
 have c4b0 : decide (t337 < 0) = false := decide_eq_false c4
 clear c4
 replace H := Option.bind_eq_some_iff.mp H
 obtain ⟨⟨t338, t339, t340, t341, t344, t345, t346, t347, t348⟩, A80, H⟩ := H
 have A8 := Aside0.mk A80
 clear A80
 replace H := Option.bind_eq_some_iff.mp H
 obtain ⟨t351, A90, H⟩ := H
 have A9 := Aside0.mk A90
 clear A90
 replace H := Option.bind_eq_some_iff.mp H
 obtain ⟨⟨t352, t353, t354, t355, t358, t359, t360, t361, t362⟩, A100, H⟩ := H
 have A10 := Aside0.mk A100
 clear A100
 replace H := Option.bind_eq_some_iff.mp H
 obtain ⟨t366, A110, H⟩ := H
 have A11 := Aside0.mk A110
 clear A110
 by_cases c12 : t366 = t351
 ·rw [if_pos c12] at H
  have c12b0 : (t366 == t351) = true := beq_iff_eq.mpr c12
  have c12b1 : (t366 != t351) = false := bne_eq_false_iff_eq.mpr c12
  clear c12
  replace H := Option.bind_eq_some_iff.mp H
  obtain ⟨⟨t367, t368, t369, t370, t373, t374, t375, t376, t377⟩, A130, H⟩ := H
  have A13 := Aside0.mk A130
  clear A130
  replace H := Option.bind_eq_some_iff.mp H
  obtain ⟨t380, A140, H⟩ := H
  have A14 := Aside0.mk A140
  clear A140
  by_cases c15 : t380 = true
  ·subst c15
   rw [if_pos rfl] at H
   obtain rfl := Option.some.inj H
   go_enter Try.func14, Try.ntmps14
   try go_wp2_with (first | ((with_reducible refine gate_dst (N := 2) rfl ?_); refine box_event ?hg (N := 2) ?hd (cs := #[.int .i64 a0_0, .int .i64 a0_1, .int .i64 a0_2, .slice A0_3 l0_3.length c0_3, .int .i64 a0_4, .int .i64 a0_5, .bool a0_6, .int .i64 a0_7, .slice A0_8 l0_8.length c0_8]) (t := 121) ?hr ?_; (case hd => rfl); (case hg => rfl); (case hr => first | (go_simp; done) | (go_simp; rfl)); intro gb336 hg w16 hbox hb; have BK336 := Aside0.mk (hbox); have GW336 := Aside0.mk ((by rw [hg]; exact (below_size (bw_ HB.out)) : w.heap.size ≤ gb336)); have GE336 := Nonempty.intro GW336.out; replace HB := Aside0.mk (below_step (bw_ HB.out) hb); clear hb hbox hg; obtain ⟨hcz17_0, hcz17_1, hcz17_2, hcz17_3, hcz17_4, hcz17_5, hcz17_6, hcz17_7, hcz17_8⟩ := cells9 BK336.out; obtain ⟨hfz17_0, hfz17_1, hfz17_2, hfz17_3, hfz17_4, hfz17_5, hfz17_6, hfz17_7, hfz17_8⟩ := frozen9 BK336.out) | ((with_reducible refine gate_callee (f := 76) rfl ?_); refine goesL_ (some 11) rfl rfl Try.func76 (by kernel_rfl) rfl #[.agg #[.int .i64 a0_0, .int .i64 a0_1, .int .i64 a0_2, .slice A0_3 l0_3.length c0_3, .int .i64 a0_4, .int .i64 a0_5, .bool a0_6, .int .i64 a0_7, .slice A0_8 l0_8.length c0_8], .int .i64 1048576] rfl (by (try simp only [List.map_toArray, List.map_cons, List.map_nil]); first | done | rfl | (simp only [List.length_drop, List.length_take]; rfl)) ?_; (with_reducible refine (laws_szDevice.calls k a0_0 a0_1 a0_2 _ _ l0_3 a0_4 a0_5 a0_6 a0_7 _ _ l0_8 1048576 t337 _ ?side1 ?side2 ?side3 ?side4 A3.out).mono ?_); (case side1 => exact Kd.C_below HR0_3.out (bw_ HB.out)); (case side2 => exact HC0_3.out); (case side3 => exact Kd.C_below HR0_8.out (bw_ HB.out)); (case side4 => exact HC0_8.out); rintro e w18 ⟨rfl, hb⟩; refine ⟨_, rfl, ?_⟩; replace BK336 := Aside0.mk (blk_below (bk_ BK336.out) hb); replace HB := Aside0.mk (below_step (bw_ HB.out) hb); (try clear hb); obtain ⟨hcz19_0, hcz19_1, hcz19_2, hcz19_3, hcz19_4, hcz19_5, hcz19_6, hcz19_7, hcz19_8⟩ := cells9 BK336.out; obtain ⟨hfz19_0, hfz19_1, hfz19_2, hfz19_3, hfz19_4, hfz19_5, hfz19_6, hfz19_7, hfz19_8⟩ := frozen9 BK336.out) | ((with_reducible refine gate_callee (f := 78) rfl ?_); refine goesL_ (some 15) rfl rfl Try.func78 (by kernel_rfl) rfl #[.agg #[.int .i64 a0_0, .int .i64 a0_1, .int .i64 a0_2, .slice A0_3 l0_3.length c0_3, .int .i64 a0_4, .int .i64 a0_5, .bool a0_6, .int .i64 a0_7, .slice A0_8 l0_8.length c0_8]] rfl (by (try simp only [List.map_toArray, List.map_cons, List.map_nil]); first | done | rfl | (simp only [List.length_drop, List.length_take]; rfl)) ?_; (with_reducible refine (laws_toDevice.calls k a0_0 a0_1 a0_2 _ _ l0_3 a0_4 a0_5 a0_6 a0_7 _ _ l0_8 t338 t339 t340 t341 t344 t345 t346 t347 t348 _ ?side1 ?side2 ?side3 ?side4 A8.out).mono ?_); (case side1 => exact Kd.C_below HR0_3.out (bw_ HB.out)); (case side2 => exact HC0_3.out); (case side3 => exact Kd.C_below HR0_8.out (bw_ HB.out)); (case side4 => exact HC0_8.out); rintro e w20 ⟨v342, v349, rfl, ho0, ho1, hb⟩; refine ⟨_, rfl, ?_⟩; have HO343 := Aside0.mk (Kd.S_lower ho0 (below_size (bw_ HB.out))); have HO350 := Aside0.mk (Kd.S_lower ho1 (below_size (bw_ HB.out))); replace BK336 := Aside0.mk (blk_below (bk_ BK336.out) hb); replace HB := Aside0.mk (below_step (bw_ HB.out) hb); (try clear hb); (try clear ho1); obtain ⟨Ao21, co21, eo21⟩ := Kd.S_slice HO343.out; subst eo21; obtain ⟨Ao22, co22, eo22⟩ := Kd.S_slice HO350.out; subst eo22) | ((with_reducible refine gate_callee (f := 81) rfl ?_); refine goesL_ (some 17) rfl rfl Try.func81 (by kernel_rfl) rfl #[.agg #[.int .i64 t338, .int .i64 t339, .int .i64 t340, .slice Ao21 t341.length co21, .int .i64 t344, .int .i64 t345, .bool t346, .int .i64 t347, .slice Ao22 t348.length co22], .int .i64 a1] rfl (by (try simp only [List.map_toArray, List.map_cons, List.map_nil]); first | done | rfl | (simp only [List.length_drop, List.length_take]; rfl)) ?_; (with_reducible refine (spec_WearOfZone.calls k t338 t339 t340 _ _ t341 t344 t345 t346 t347 _ _ t348 a1 t351 _ ?side1 ?side2 ?side3 ?side4 A9.out).mono ?_); (case side1 => repeat (first | exact (Kd.S_reads' HO343.out).2.2 | (with_reducible refine Kd.C_alloc ?_ _) | (with_reducible refine Kd.C_drewN ?_ _) | (with_reducible refine Kd.C_drew ?_))); (case side2 => exact (Kd.S_reads' HO343.out).2.1); (case side3 => repeat (first | exact (Kd.S_reads' HO350.out).2.2 | (with_reducible refine Kd.C_alloc ?_ _) | (with_reducible refine Kd.C_drewN ?_ _) | (with_reducible refine Kd.C_drew ?_))); (case side4 => exact (Kd.S_reads' HO350.out).2.1); rintro e w23 ⟨rfl, hb⟩; refine ⟨_, rfl, ?_⟩; replace HO343 := Aside0.mk (Kd.S_below (Kd.S_below HO343.out st_) hb); replace HO350 := Aside0.mk (Kd.S_below (Kd.S_below HO350.out st_) hb); replace BK336 := Aside0.mk (blk_below (bk_ BK336.out) hb); replace HB := Aside0.mk (below_step (bw_ HB.out) hb); (try clear hb); obtain ⟨hcz24_0, hcz24_1, hcz24_2, hcz24_3, hcz24_4, hcz24_5, hcz24_6, hcz24_7, hcz24_8⟩ := cells9 BK336.out; obtain ⟨hfz24_0, hfz24_1, hfz24_2, hfz24_3, hfz24_4, hfz24_5, hfz24_6, hfz24_7, hfz24_8⟩ := frozen9 BK336.out) | ((with_reducible refine gate_callee (f := 78) rfl ?_); refine goesL_ (some 19) rfl rfl Try.func78 (by kernel_rfl) rfl #[.agg #[.int .i64 a0_0, .int .i64 a0_1, .int .i64 a0_2, .slice A0_3 l0_3.length c0_3, .int .i64 a0_4, .int .i64 a0_5, .bool a0_6, .int .i64 a0_7, .slice A0_8 l0_8.length c0_8]] rfl (by (try simp only [List.map_toArray, List.map_cons, List.map_nil]); first | done | rfl | (simp only [List.length_drop, List.length_take]; rfl)) ?_; (with_reducible refine (laws_toDevice.calls k a0_0 a0_1 a0_2 _ _ l0_3 a0_4 a0_5 a0_6 a0_7 _ _ l0_8 t352 t353 t354 t355 t358 t359 t360 t361 t362 _ ?side1 ?side2 ?side3 ?side4 A10.out).mono ?_); (case side1 => exact Kd.C_below HR0_3.out (bw_ HB.out)); (case side2 => exact HC0_3.out); (case side3 => exact Kd.C_below HR0_8.out (bw_ HB.out)); (case side4 => exact HC0_8.out); rintro e w25 ⟨v356, v363, rfl, ho0, ho1, hb⟩; refine ⟨_, rfl, ?_⟩; have HO357 := Aside0.mk (Kd.S_lower (Kd.S_new' ho0 (Kd.S_lt (Kd.S_below HO343.out st_))) (below_size (bw_ HB.out))); replace HO343 := Aside0.mk (Kd.S_elder' (Kd.S_below HO343.out st_) (Kd.S_base ho0) hb); have HO364 := Aside0.mk (Kd.S_lower (Kd.S_new' ho1 (Kd.S_lt (Kd.S_below HO350.out st_))) (below_size (bw_ HB.out))); replace HO350 := Aside0.mk (Kd.S_elder' (Kd.S_below HO350.out st_) (Kd.S_base ho1) hb); replace BK336 := Aside0.mk (blk_below (bk_ BK336.out) hb); replace HB := Aside0.mk (below_step (bw_ HB.out) hb); (try clear hb); (try clear ho1)) | ((with_reducible refine gate_dst (N := 7) rfl ?_); refine box_event ?hg (N := 7) ?hd (cs := #[.int .i64 0, .int .i64 0, .int .i64 0, .slice none 0 0, .int .i64 0, .int .i64 0, .bool false, .int .i64 0, .slice none 0 0]) (t := 126) ?hr ?_; (case hd => rfl); (case hg => rfl); (case hr => first | (go_simp; done) | (go_simp; rfl)); intro gb365 hg w26 hbox hb; replace HO343 := Aside0.mk (Kd.S_below (Kd.S_below HO343.out st_) hb); replace HO350 := Aside0.mk (Kd.S_below (Kd.S_below HO350.out st_) hb); replace HO357 := Aside0.mk (Kd.S_below (Kd.S_below HO357.out st_) hb); replace HO364 := Aside0.mk (Kd.S_below (Kd.S_below HO364.out st_) hb); have BK365 := Aside0.mk (hbox); have GW365 := Aside0.mk ((by rw [hg]; exact (below_size (bw_ HB.out)) : w.heap.size ≤ gb365)); have GE365 := Nonempty.intro GW365.out; replace HB := Aside0.mk (below_step (bw_ HB.out) hb); have NB336_365 := Aside0.mk ((by rw [hg]; exact Nat.ne_of_lt (blk_lt (bk_ BK336.out)) : gb336 ≠ gb365)); have NB365_336 := Aside0.mk ((by rw [hg]; exact Nat.ne_of_gt (blk_lt (bk_ BK336.out)) : gb365 ≠ gb336)); replace BK336 := Aside0.mk (blk_below (bk_ BK336.out) hb); clear hb hbox hg; have hnb27 := NB365_336.out; have hnc27 := NB336_365.out; obtain ⟨hcz28_0, hcz28_1, hcz28_2, hcz28_3, hcz28_4, hcz28_5, hcz28_6, hcz28_7, hcz28_8⟩ := cells9 BK365.out; obtain ⟨hfz28_0, hfz28_1, hfz28_2, hfz28_3, hfz28_4, hfz28_5, hfz28_6, hfz28_7, hfz28_8⟩ := frozen9 BK365.out; obtain ⟨Ao29, co29, eo29⟩ := Kd.S_slice HO357.out; subst eo29; obtain ⟨Ao30, co30, eo30⟩ := Kd.S_slice HO364.out; subst eo30) | ((with_reducible refine gate_callee (f := 82) rfl ?_); refine goesL_ (some 22) rfl rfl Try.func82 (by kernel_rfl) rfl #[.agg #[.int .i64 t352, .int .i64 t353, .int .i64 t354, .slice Ao29 t355.length co29, .int .i64 t358, .int .i64 t359, .bool t360, .int .i64 t361, .slice Ao30 t362.length co30], .int .i64 a1] rfl (by (try simp only [List.map_toArray, List.map_cons, List.map_nil]); first | done | rfl | (simp only [List.length_drop, List.length_take]; rfl)) ?_; (with_reducible refine (impl_WearOfZone.calls k t352 t353 t354 _ _ t355 t358 t359 t360 t361 _ _ t362 a1 t366 _ ?side1 ?side2 ?side3 ?side4 A11.out).mono ?_); (case side1 => refine (Kd.S_reads' (e := 218) (base := w.heap.size) (ok := fun k_ => (True ∧ some k_ ≠ (.slice Ao21 t341.length co21 : Value).ownBlock)) (n := t355.length) (c := co29) ?_).2.2; exact (by (with_reducible repeat (first | apply Kd.S_alloc | apply Kd.S_drewN | apply Kd.S_drew)); exact (Kd.S_mono (Kd.S_far (p := ⟨gb365, 8, none⟩) (Kd.S_far (p := ⟨gb365, 7, none⟩) (Kd.S_far (p := ⟨gb365, 6, none⟩) (Kd.S_far (p := ⟨gb365, 5, none⟩) (Kd.S_far (p := ⟨gb365, 4, none⟩) (Kd.S_far (p := ⟨gb365, 3, none⟩) (Kd.S_far (p := ⟨gb365, 2, none⟩) (Kd.S_far (p := ⟨gb365, 1, none⟩) (Kd.S_far (p := ⟨gb365, 0, none⟩) (Kd.S_types HO357.out BK365.out (by decide)) (fun _ hk => hk.2) (.int .i64 t352)) (fun _ hk => hk.2) (.int .i64 t353)) (fun _ hk => hk.2) (.int .i64 t354)) (fun _ hk => hk.2) (.slice Ao29 t355.length co29)) (fun _ hk => hk.2) (.int .i64 t358)) (fun _ hk => hk.2) (.int .i64 t359)) (fun _ hk => hk.2) (.bool t360)) (fun _ hk => hk.2) (.int .i64 t361)) (fun _ hk => hk.2) (.slice Ao30 t362.length co30)) (fun _ h_ => h_.1)))); (case side2 => exact (Kd.S_reads' HO357.out).2.1); (case side3 => refine (Kd.S_reads' (e := 276) (base := w.heap.size) (ok := fun k_ => (True ∧ some k_ ≠ (.slice Ao22 t348.length co22 : Value).ownBlock)) (n := t362.length) (c := co30) ?_).2.2; exact (by (with_reducible repeat (first | apply Kd.S_alloc | apply Kd.S_drewN | apply Kd.S_drew)); exact (Kd.S_mono (Kd.S_far (p := ⟨gb365, 8, none⟩) (Kd.S_far (p := ⟨gb365, 7, none⟩) (Kd.S_far (p := ⟨gb365, 6, none⟩) (Kd.S_far (p := ⟨gb365, 5, none⟩) (Kd.S_far (p := ⟨gb365, 4, none⟩) (Kd.S_far (p := ⟨gb365, 3, none⟩) (Kd.S_far (p := ⟨gb365, 2, none⟩) (Kd.S_far (p := ⟨gb365, 1, none⟩) (Kd.S_far (p := ⟨gb365, 0, none⟩) (Kd.S_types HO364.out BK365.out (by decide)) (fun _ hk => hk.2) (.int .i64 t352)) (fun _ hk => hk.2) (.int .i64 t353)) (fun _ hk => hk.2) (.int .i64 t354)) (fun _ hk => hk.2) (.slice Ao29 t355.length co29)) (fun _ hk => hk.2) (.int .i64 t358)) (fun _ hk => hk.2) (.int .i64 t359)) (fun _ hk => hk.2) (.bool t360)) (fun _ hk => hk.2) (.int .i64 t361)) (fun _ hk => hk.2) (.slice Ao30 t362.length co30)) (fun _ h_ => h_.1)))); (case side4 => exact (Kd.S_reads' HO364.out).2.1); rintro e w31 ⟨rfl, hb⟩; refine ⟨_, rfl, ?_⟩; replace HO343 := Aside0.mk (Kd.S_below (by (with_reducible repeat (first | apply Kd.S_alloc | apply Kd.S_drewN | apply Kd.S_drew)); exact (Kd.S_mono (Kd.S_far (p := ⟨gb365, 8, none⟩) (Kd.S_far (p := ⟨gb365, 7, none⟩) (Kd.S_far (p := ⟨gb365, 6, none⟩) (Kd.S_far (p := ⟨gb365, 5, none⟩) (Kd.S_far (p := ⟨gb365, 4, none⟩) (Kd.S_far (p := ⟨gb365, 3, none⟩) (Kd.S_far (p := ⟨gb365, 2, none⟩) (Kd.S_far (p := ⟨gb365, 1, none⟩) (Kd.S_far (p := ⟨gb365, 0, none⟩) (Kd.S_types HO343.out BK365.out (by decide)) (fun _ hk => hk.2) (.int .i64 t352)) (fun _ hk => hk.2) (.int .i64 t353)) (fun _ hk => hk.2) (.int .i64 t354)) (fun _ hk => hk.2) (.slice Ao29 t355.length co29)) (fun _ hk => hk.2) (.int .i64 t358)) (fun _ hk => hk.2) (.int .i64 t359)) (fun _ hk => hk.2) (.bool t360)) (fun _ hk => hk.2) (.int .i64 t361)) (fun _ hk => hk.2) (.slice Ao30 t362.length co30)) (fun _ h_ => h_.1))) hb); replace HO350 := Aside0.mk (Kd.S_below (by (with_reducible repeat (first | apply Kd.S_alloc | apply Kd.S_drewN | apply Kd.S_drew)); exact (Kd.S_mono (Kd.S_far (p := ⟨gb365, 8, none⟩) (Kd.S_far (p := ⟨gb365, 7, none⟩) (Kd.S_far (p := ⟨gb365, 6, none⟩) (Kd.S_far (p := ⟨gb365, 5, none⟩) (Kd.S_far (p := ⟨gb365, 4, none⟩) (Kd.S_far (p := ⟨gb365, 3, none⟩) (Kd.S_far (p := ⟨gb365, 2, none⟩) (Kd.S_far (p := ⟨gb365, 1, none⟩) (Kd.S_far (p := ⟨gb365, 0, none⟩) (Kd.S_types HO350.out BK365.out (by decide)) (fun _ hk => hk.2) (.int .i64 t352)) (fun _ hk => hk.2) (.int .i64 t353)) (fun _ hk => hk.2) (.int .i64 t354)) (fun _ hk => hk.2) (.slice Ao29 t355.length co29)) (fun _ hk => hk.2) (.int .i64 t358)) (fun _ hk => hk.2) (.int .i64 t359)) (fun _ hk => hk.2) (.bool t360)) (fun _ hk => hk.2) (.int .i64 t361)) (fun _ hk => hk.2) (.slice Ao30 t362.length co30)) (fun _ h_ => h_.1))) hb); replace HO357 := Aside0.mk (Kd.S_below (by (with_reducible repeat (first | apply Kd.S_alloc | apply Kd.S_drewN | apply Kd.S_drew)); exact (Kd.S_mono (Kd.S_far (p := ⟨gb365, 8, none⟩) (Kd.S_far (p := ⟨gb365, 7, none⟩) (Kd.S_far (p := ⟨gb365, 6, none⟩) (Kd.S_far (p := ⟨gb365, 5, none⟩) (Kd.S_far (p := ⟨gb365, 4, none⟩) (Kd.S_far (p := ⟨gb365, 3, none⟩) (Kd.S_far (p := ⟨gb365, 2, none⟩) (Kd.S_far (p := ⟨gb365, 1, none⟩) (Kd.S_far (p := ⟨gb365, 0, none⟩) (Kd.S_types HO357.out BK365.out (by decide)) (fun _ hk => hk.2) (.int .i64 t352)) (fun _ hk => hk.2) (.int .i64 t353)) (fun _ hk => hk.2) (.int .i64 t354)) (fun _ hk => hk.2) (.slice Ao29 t355.length co29)) (fun _ hk => hk.2) (.int .i64 t358)) (fun _ hk => hk.2) (.int .i64 t359)) (fun _ hk => hk.2) (.bool t360)) (fun _ hk => hk.2) (.int .i64 t361)) (fun _ hk => hk.2) (.slice Ao30 t362.length co30)) (fun _ h_ => h_.1))) hb); replace HO364 := Aside0.mk (Kd.S_below (by (with_reducible repeat (first | apply Kd.S_alloc | apply Kd.S_drewN | apply Kd.S_drew)); exact (Kd.S_mono (Kd.S_far (p := ⟨gb365, 8, none⟩) (Kd.S_far (p := ⟨gb365, 7, none⟩) (Kd.S_far (p := ⟨gb365, 6, none⟩) (Kd.S_far (p := ⟨gb365, 5, none⟩) (Kd.S_far (p := ⟨gb365, 4, none⟩) (Kd.S_far (p := ⟨gb365, 3, none⟩) (Kd.S_far (p := ⟨gb365, 2, none⟩) (Kd.S_far (p := ⟨gb365, 1, none⟩) (Kd.S_far (p := ⟨gb365, 0, none⟩) (Kd.S_types HO364.out BK365.out (by decide)) (fun _ hk => hk.2) (.int .i64 t352)) (fun _ hk => hk.2) (.int .i64 t353)) (fun _ hk => hk.2) (.int .i64 t354)) (fun _ hk => hk.2) (.slice Ao29 t355.length co29)) (fun _ hk => hk.2) (.int .i64 t358)) (fun _ hk => hk.2) (.int .i64 t359)) (fun _ hk => hk.2) (.bool t360)) (fun _ hk => hk.2) (.int .i64 t361)) (fun _ hk => hk.2) (.slice Ao30 t362.length co30)) (fun _ h_ => h_.1))) hb); replace BK336 := Aside0.mk (blk_below (g := gb336) (o := .cells #[.int .i64 a0_0, .int .i64 a0_1, .int .i64 a0_2, .slice A0_3 l0_3.length c0_3, .int .i64 a0_4, .int .i64 a0_5, .bool a0_6, .int .i64 a0_7, .slice A0_8 l0_8.length c0_8] 121 (0, 0)) (by (with_reducible repeat (first | refine blk_drewN ?_ _ | refine blk_drew ?_ | refine blk_alloc ?_ _)); refine blk_far ?_ NB336_365.out _; (with_reducible repeat (first | refine blk_drewN ?_ _ | refine blk_drew ?_ | refine blk_alloc ?_ _)); refine blk_far ?_ NB336_365.out _; (with_reducible repeat (first | refine blk_drewN ?_ _ | refine blk_drew ?_ | refine blk_alloc ?_ _)); refine blk_far ?_ NB336_365.out _; (with_reducible repeat (first | refine blk_drewN ?_ _ | refine blk_drew ?_ | refine blk_alloc ?_ _)); refine blk_far ?_ NB336_365.out _; (with_reducible repeat (first | refine blk_drewN ?_ _ | refine blk_drew ?_ | refine blk_alloc ?_ _)); refine blk_far ?_ NB336_365.out _; (with_reducible repeat (first | refine blk_drewN ?_ _ | refine blk_drew ?_ | refine blk_alloc ?_ _)); refine blk_far ?_ NB336_365.out _; (with_reducible repeat (first | refine blk_drewN ?_ _ | refine blk_drew ?_ | refine blk_alloc ?_ _)); refine blk_far ?_ NB336_365.out _; (with_reducible repeat (first | refine blk_drewN ?_ _ | refine blk_drew ?_ | refine blk_alloc ?_ _)); refine blk_far ?_ NB336_365.out _; (with_reducible repeat (first | refine blk_drewN ?_ _ | refine blk_drew ?_ | refine blk_alloc ?_ _)); refine blk_far ?_ NB336_365.out _; (with_reducible repeat (first | refine blk_drewN ?_ _ | refine blk_drew ?_ | refine blk_alloc ?_ _)); exact BK336.out) hb); replace BK365 := Aside0.mk (blk_below (g := gb365) (o := .cells #[.int .i64 t352, .int .i64 t353, .int .i64 t354, .slice Ao29 t355.length co29, .int .i64 t358, .int .i64 t359, .bool t360, .int .i64 t361, .slice Ao30 t362.length co30] 126 (0, 0)) (by (with_reducible repeat (first | refine blk_drewN ?_ _ | refine blk_drew ?_ | refine blk_alloc ?_ _)); refine blk_put (cs := #[.int .i64 t352, .int .i64 t353, .int .i64 t354, .slice Ao29 t355.length co29, .int .i64 t358, .int .i64 t359, .bool t360, .int .i64 t361, .slice none 0 0]) ?_ 8 _ rfl; (with_reducible repeat (first | refine blk_drewN ?_ _ | refine blk_drew ?_ | refine blk_alloc ?_ _)); refine blk_put (cs := #[.int .i64 t352, .int .i64 t353, .int .i64 t354, .slice Ao29 t355.length co29, .int .i64 t358, .int .i64 t359, .bool t360, .int .i64 0, .slice none 0 0]) ?_ 7 _ rfl; (with_reducible repeat (first | refine blk_drewN ?_ _ | refine blk_drew ?_ | refine blk_alloc ?_ _)); refine blk_put (cs := #[.int .i64 t352, .int .i64 t353, .int .i64 t354, .slice Ao29 t355.length co29, .int .i64 t358, .int .i64 t359, .bool false, .int .i64 0, .slice none 0 0]) ?_ 6 _ rfl; (with_reducible repeat (first | refine blk_drewN ?_ _ | refine blk_drew ?_ | refine blk_alloc ?_ _)); refine blk_put (cs := #[.int .i64 t352, .int .i64 t353, .int .i64 t354, .slice Ao29 t355.length co29, .int .i64 t358, .int .i64 0, .bool false, .int .i64 0, .slice none 0 0]) ?_ 5 _ rfl; (with_reducible repeat (first | refine blk_drewN ?_ _ | refine blk_drew ?_ | refine blk_alloc ?_ _)); refine blk_put (cs := #[.int .i64 t352, .int .i64 t353, .int .i64 t354, .slice Ao29 t355.length co29, .int .i64 0, .int .i64 0, .bool false, .int .i64 0, .slice none 0 0]) ?_ 4 _ rfl; (with_reducible repeat (first | refine blk_drewN ?_ _ | refine blk_drew ?_ | refine blk_alloc ?_ _)); refine blk_put (cs := #[.int .i64 t352, .int .i64 t353, .int .i64 t354, .slice none 0 0, .int .i64 0, .int .i64 0, .bool false, .int .i64 0, .slice none 0 0]) ?_ 3 _ rfl; (with_reducible repeat (first | refine blk_drewN ?_ _ | refine blk_drew ?_ | refine blk_alloc ?_ _)); refine blk_put (cs := #[.int .i64 t352, .int .i64 t353, .int .i64 0, .slice none 0 0, .int .i64 0, .int .i64 0, .bool false, .int .i64 0, .slice none 0 0]) ?_ 2 _ rfl; (with_reducible repeat (first | refine blk_drewN ?_ _ | refine blk_drew ?_ | refine blk_alloc ?_ _)); refine blk_put (cs := #[.int .i64 t352, .int .i64 0, .int .i64 0, .slice none 0 0, .int .i64 0, .int .i64 0, .bool false, .int .i64 0, .slice none 0 0]) ?_ 1 _ rfl; (with_reducible repeat (first | refine blk_drewN ?_ _ | refine blk_drew ?_ | refine blk_alloc ?_ _)); refine blk_put (cs := #[.int .i64 0, .int .i64 0, .int .i64 0, .slice none 0 0, .int .i64 0, .int .i64 0, .bool false, .int .i64 0, .slice none 0 0]) ?_ 0 _ rfl; (with_reducible repeat (first | refine blk_drewN ?_ _ | refine blk_drew ?_ | refine blk_alloc ?_ _)); exact BK365.out) hb); replace HB := Aside0.mk (below_step (bw_ HB.out) hb); (try clear hb)))
   replace HO343 := Aside0.mk (Kd.S_drew HO343.out)
   replace HO350 := Aside0.mk (Kd.S_drew HO350.out)
   replace HO357 := Aside0.mk (Kd.S_drew HO357.out)
   replace HO364 := Aside0.mk (Kd.S_drew HO364.out)
   replace BK336 := Aside0.mk (blk_drew BK336.out)
   replace BK365 := Aside0.mk (blk_drew BK365.out)
   replace HB := Aside0.mk (below_drew1 HB.out)
   refine start_ (n := 5) (S := fun w' => w'.cell? ⟨gb365, 0, none⟩ = some (.int .i64 t352) ∧ w'.cell? ⟨gb365, 1, none⟩ = some (.int .i64 t353) ∧ w'.cell? ⟨gb365, 2, none⟩ = some (.int .i64 t354) ∧ w'.cell? ⟨gb365, 3, none⟩ = some (.slice Ao29 t355.length co29) ∧ w'.cell? ⟨gb365, 4, none⟩ = some (.int .i64 t358) ∧ w'.cell? ⟨gb365, 5, none⟩ = some (.int .i64 t359) ∧ w'.cell? ⟨gb365, 6, none⟩ = some (.bool t360) ∧ w'.cell? ⟨gb365, 7, none⟩ = some (.int .i64 t361) ∧ w'.cell? ⟨gb365, 8, none⟩ = some (.slice Ao30 t362.length co30) ∧ w'.cell? ⟨gb336, 0, none⟩ = some (.int .i64 a0_0) ∧ w'.cell? ⟨gb336, 1, none⟩ = some (.int .i64 a0_1) ∧ w'.cell? ⟨gb336, 2, none⟩ = some (.int .i64 a0_2) ∧ w'.cell? ⟨gb336, 3, none⟩ = some (.slice A0_3 l0_3.length c0_3) ∧ w'.cell? ⟨gb336, 4, none⟩ = some (.int .i64 a0_4) ∧ w'.cell? ⟨gb336, 5, none⟩ = some (.int .i64 a0_5) ∧ w'.cell? ⟨gb336, 6, none⟩ = some (.bool a0_6) ∧ w'.cell? ⟨gb336, 7, none⟩ = some (.int .i64 a0_7) ∧ w'.cell? ⟨gb336, 8, none⟩ = some (.slice A0_8 l0_8.length c0_8)) (ds := []) (Array.replicate 5 false) (by kernel_rfl) rfl rfl ⟨(blk_cell BK365.out 0).trans rfl, (blk_cell BK365.out 1).trans rfl, (blk_cell BK365.out 2).trans rfl, (blk_cell BK365.out 3).trans rfl, (blk_cell BK365.out 4).trans rfl, (blk_cell BK365.out 5).trans rfl, (blk_cell BK365.out 6).trans rfl, (blk_cell BK365.out 7).trans rfl, (blk_cell BK365.out 8).trans rfl, (blk_cell BK336.out 0).trans rfl, (blk_cell BK336.out 1).trans rfl, (blk_cell BK336.out 2).trans rfl, (blk_cell BK336.out 3).trans rfl, (blk_cell BK336.out 4).trans rfl, (blk_cell BK336.out 5).trans rfl, (blk_cell BK336.out 6).trans rfl, (blk_cell BK336.out 7).trans rfl, (blk_cell BK336.out 8).trans rfl⟩ (fun hHeld => ?_)
   generalize w31.drew = w32 at HO343 HO350 HO357 HO364 BK336 BK365 HB hHeld ⊢
   refine take_ (i := 0) (N := some 26) (v := ?_) (a' := ?_) (bl_ 5 1) rfl rfl (by kernel_rfl) (fun _ _ _ h => h) (Or.inl ⟨by rfl, ?_⟩) hHeld ?_ ?_
   rotate_left
   ·rintro w' ⟨s0, s1, s2, s3, s4, s5, s6, s7, s8, s9, s10, s11, s12, s13, s14, s15, s16, s17⟩
    go_simp
    with_reducible rfl
   rotate_left
   ·simp only [Act.put, q1_, q2_, q3_, i64_w, i32_w]
    rfl
   refine take_ (i := 1) (N := some 27) (v := ?_) (a' := ?_) (bl_ 5 3) rfl rfl (by kernel_rfl) (fun _ _ _ h => h) (Or.inl ⟨by rfl, ?_⟩) hHeld ?_ ?_
   rotate_left
   ·rintro w' ⟨s0, s1, s2, s3, s4, s5, s6, s7, s8, s9, s10, s11, s12, s13, s14, s15, s16, s17⟩
    go_simp
    with_reducible rfl
   rotate_left
   ·simp only [Act.put, q1_, q2_, q3_, i64_w, i32_w]
    rfl
   refine one_ (i := 2) (N := some 28) (bl_ 5 7) rfl rfl (by kernel_rfl) (by decide) (fun K hK => ?_)
   refine goes_ Try.func78 (by kernel_rfl) rfl #[.agg #[.int .i64 a0_0, .int .i64 a0_1, .int .i64 a0_2, .slice A0_3 l0_3.length c0_3, .int .i64 a0_4, .int .i64 a0_5, .bool a0_6, .int .i64 a0_7, .slice A0_8 l0_8.length c0_8]] (by rfl) rfl rfl (by (try simp only [List.map_toArray, List.map_cons, List.map_nil]); first | done | rfl | (simp only [List.length_drop, List.length_take]; rfl)) ?_
   with_reducible refine (laws_toDevice.calls k a0_0 a0_1 a0_2 _ _ l0_3 a0_4 a0_5 a0_6 a0_7 _ _ l0_8 t367 t368 t369 t370 t373 t374 t375 t376 t377 _ ?side1 ?side2 ?side3 ?side4 A13.out).mono ?_
   (case side1 => exact Kd.C_below HR0_3.out (bw_ HB.out))
   (case side2 => exact HC0_3.out)
   (case side3 => exact Kd.C_below HR0_8.out (bw_ HB.out))
   (case side4 => exact HC0_8.out)
   rintro e w33 ⟨v371, v378, rfl, ho0, ho1, hb⟩
   refine ⟨_, rfl, ?_⟩
   have HO372 := Aside0.mk (Kd.S_lower (Kd.S_new' (Kd.S_new' ho0 (Kd.S_lt (Kd.S_below HO343.out st_))) (Kd.S_lt (Kd.S_below HO357.out st_))) (below_size (bw_ HB.out)))
   replace HO343 := Aside0.mk (Kd.S_elder' (Kd.S_below HO343.out st_) (Kd.S_base ho0) hb)
   replace HO357 := Aside0.mk (Kd.S_elder' (Kd.S_below HO357.out st_) (Kd.S_base ho0) hb)
   have HO379 := Aside0.mk (Kd.S_lower (Kd.S_new' (Kd.S_new' ho1 (Kd.S_lt (Kd.S_below HO350.out st_))) (Kd.S_lt (Kd.S_below HO364.out st_))) (below_size (bw_ HB.out)))
   replace HO350 := Aside0.mk (Kd.S_elder' (Kd.S_below HO350.out st_) (Kd.S_base ho1) hb)
   replace HO364 := Aside0.mk (Kd.S_elder' (Kd.S_below HO364.out st_) (Kd.S_base ho1) hb)
   replace BK336 := Aside0.mk (blk_below (bk_ BK336.out) hb)
   replace BK365 := Aside0.mk (blk_below (bk_ BK365.out) hb)
   replace HB := Aside0.mk (below_step (bw_ HB.out) hb)
   (try clear ho1)
   obtain ⟨Ao34, co34, eo34⟩ := Kd.S_slice HO372.out
   (first | subst eo34 | (injection eo34 with f1_ f2_ f3_; have f4_ := f1_.symm; have f5_ := f3_.symm; clear f1_ f2_ f3_; subst f4_; subst f5_))
   obtain ⟨Ao35, co35, eo35⟩ := Kd.S_slice HO379.out
   (first | subst eo35 | (injection eo35 with f1_ f2_ f3_; have f4_ := f1_.symm; have f5_ := f3_.symm; clear f1_ f2_ f3_; subst f4_; subst f5_))
   refine hK.out _ _ ⟨(blk_cell BK365.out 0).trans rfl, (blk_cell BK365.out 1).trans rfl, (blk_cell BK365.out 2).trans rfl, (blk_cell BK365.out 3).trans rfl, (blk_cell BK365.out 4).trans rfl, (blk_cell BK365.out 5).trans rfl, (blk_cell BK365.out 6).trans rfl, (blk_cell BK365.out 7).trans rfl, (blk_cell BK365.out 8).trans rfl, (blk_cell BK336.out 0).trans rfl, (blk_cell BK336.out 1).trans rfl, (blk_cell BK336.out 2).trans rfl, (blk_cell BK336.out 3).trans rfl, (blk_cell BK336.out 4).trans rfl, (blk_cell BK336.out 5).trans rfl, (blk_cell BK336.out 6).trans rfl, (blk_cell BK336.out 7).trans rfl, (blk_cell BK336.out 8).trans rfl⟩ (fun hHeld => ?_)
   clear hK K
   refine norm_ (a' := ?_) ?_ ?_
   rotate_left
   ·show Act.put _ (some 28) _ = _
    simp only [Act.put, q1_, q2_, q3_, i64_w, i32_w]
    rfl
   refine one_ (i := 3) (N := some 29) (bl_ 5 15) rfl rfl (by kernel_rfl) (by decide) (fun K hK => ?_)
   refine goes_ Try.func80 (by kernel_rfl) rfl #[.agg #[.int .i64 t352, .int .i64 t353, .int .i64 t354, .slice Ao29 t355.length co29, .int .i64 t358, .int .i64 t359, .bool t360, .int .i64 t361, .slice Ao30 t362.length co30], .agg #[.int .i64 t367, .int .i64 t368, .int .i64 t369, .slice Ao34 t370.length co34, .int .i64 t373, .int .i64 t374, .bool t375, .int .i64 t376, .slice Ao35 t377.length co35]] (by rfl) rfl rfl (by (try simp only [List.map_toArray, List.map_cons, List.map_nil]); first | done | rfl | (simp only [List.length_drop, List.length_take]; rfl)) ?_
   with_reducible refine (laws_eqDevice.calls k t352 t353 t354 _ _ t355 t358 t359 t360 t361 _ _ t362 t367 t368 t369 _ _ t370 t373 t374 t375 t376 _ _ t377 true _ ?side1 ?side2 ?side3 ?side4 ?side5 ?side6 ?side7 ?side8 A14.out).mono ?_
   (case side1 => repeat (first | exact (Kd.S_reads' HO357.out).2.2 | (with_reducible refine Kd.C_alloc ?_ _) | (with_reducible refine Kd.C_drewN ?_ _) | (with_reducible refine Kd.C_drew ?_)))
   (case side2 => exact (Kd.S_reads' HO357.out).2.1)
   (case side3 => repeat (first | exact (Kd.S_reads' HO364.out).2.2 | (with_reducible refine Kd.C_alloc ?_ _) | (with_reducible refine Kd.C_drewN ?_ _) | (with_reducible refine Kd.C_drew ?_)))
   (case side4 => exact (Kd.S_reads' HO364.out).2.1)
   (case side5 => repeat (first | exact (Kd.S_reads' HO372.out).2.2 | (with_reducible refine Kd.C_alloc ?_ _) | (with_reducible refine Kd.C_drewN ?_ _) | (with_reducible refine Kd.C_drew ?_)))
   (case side6 => exact (Kd.S_reads' HO372.out).2.1)
   (case side7 => repeat (first | exact (Kd.S_reads' HO379.out).2.2 | (with_reducible refine Kd.C_alloc ?_ _) | (with_reducible refine Kd.C_drewN ?_ _) | (with_reducible refine Kd.C_drew ?_)))
   (case side8 => exact (Kd.S_reads' HO379.out).2.1)
   rintro e w36 ⟨rfl, hb⟩
   refine ⟨_, rfl, ?_⟩
   replace HO343 := Aside0.mk (Kd.S_below (Kd.S_below HO343.out st_) hb)
   replace HO350 := Aside0.mk (Kd.S_below (Kd.S_below HO350.out st_) hb)
   replace HO357 := Aside0.mk (Kd.S_below (Kd.S_below HO357.out st_) hb)
   replace HO364 := Aside0.mk (Kd.S_below (Kd.S_below HO364.out st_) hb)
   replace HO372 := Aside0.mk (Kd.S_below (Kd.S_below HO372.out st_) hb)
   replace HO379 := Aside0.mk (Kd.S_below (Kd.S_below HO379.out st_) hb)
   replace BK336 := Aside0.mk (blk_below (bk_ BK336.out) hb)
   replace BK365 := Aside0.mk (blk_below (bk_ BK365.out) hb)
   replace HB := Aside0.mk (below_step (bw_ HB.out) hb)
   refine hK.out _ _ ⟨(blk_cell BK365.out 0).trans rfl, (blk_cell BK365.out 1).trans rfl, (blk_cell BK365.out 2).trans rfl, (blk_cell BK365.out 3).trans rfl, (blk_cell BK365.out 4).trans rfl, (blk_cell BK365.out 5).trans rfl, (blk_cell BK365.out 6).trans rfl, (blk_cell BK365.out 7).trans rfl, (blk_cell BK365.out 8).trans rfl, (blk_cell BK336.out 0).trans rfl, (blk_cell BK336.out 1).trans rfl, (blk_cell BK336.out 2).trans rfl, (blk_cell BK336.out 3).trans rfl, (blk_cell BK336.out 4).trans rfl, (blk_cell BK336.out 5).trans rfl, (blk_cell BK336.out 6).trans rfl, (blk_cell BK336.out 7).trans rfl, (blk_cell BK336.out 8).trans rfl⟩ (fun hHeld => ?_)
   clear hK K
   refine norm_ (a' := ?_) ?_ ?_
   rotate_left
   ·show Act.put _ (some 29) _ = _
    simp only [Act.put, q1_, q2_, q3_, i64_w, i32_w]
    rfl
   refine pure_ (i := 4) (N := some 30) (v := ?_) (a' := ?_) (bl_ 5 31) rfl rfl (by kernel_rfl) (fun _ _ _ h => h) (Or.inl ⟨by rfl, ?_⟩) ?_ ?_
   rotate_left
   ·intro w'
    go_simp
    with_reducible rfl
   rotate_left
   ·simp only [Act.put, q1_, q2_, q3_, i64_w, i32_w]
    rfl
   refine done_ (by kernel_rfl) ?_
   try go_wp2
   go_ret
   exact ⟨by first | rfl | (simp [errW_none, errW_some] <;> rfl) | (simp [*, errW_none, errW_some] <;> rfl), bw_ HB.out⟩
  replace c15 := Bool.eq_false_iff.mpr c15
  subst c15
  rw [if_neg (show ¬ (false = true) by decide)] at H
  obtain rfl := Option.some.inj H
  go_enter Try.func14, Try.ntmps14
  try go_wp2_with (first | ((with_reducible refine gate_dst (N := 2) rfl ?_); refine box_event ?hg (N := 2) ?hd (cs := #[.int .i64 a0_0, .int .i64 a0_1, .int .i64 a0_2, .slice A0_3 l0_3.length c0_3, .int .i64 a0_4, .int .i64 a0_5, .bool a0_6, .int .i64 a0_7, .slice A0_8 l0_8.length c0_8]) (t := 121) ?hr ?_; (case hd => rfl); (case hg => rfl); (case hr => first | (go_simp; done) | (go_simp; rfl)); intro gb336 hg w37 hbox hb; have BK336 := Aside0.mk (hbox); have GW336 := Aside0.mk ((by rw [hg]; exact (below_size (bw_ HB.out)) : w.heap.size ≤ gb336)); have GE336 := Nonempty.intro GW336.out; replace HB := Aside0.mk (below_step (bw_ HB.out) hb); clear hb hbox hg; obtain ⟨hcz38_0, hcz38_1, hcz38_2, hcz38_3, hcz38_4, hcz38_5, hcz38_6, hcz38_7, hcz38_8⟩ := cells9 BK336.out; obtain ⟨hfz38_0, hfz38_1, hfz38_2, hfz38_3, hfz38_4, hfz38_5, hfz38_6, hfz38_7, hfz38_8⟩ := frozen9 BK336.out) | ((with_reducible refine gate_callee (f := 76) rfl ?_); refine goesL_ (some 11) rfl rfl Try.func76 (by kernel_rfl) rfl #[.agg #[.int .i64 a0_0, .int .i64 a0_1, .int .i64 a0_2, .slice A0_3 l0_3.length c0_3, .int .i64 a0_4, .int .i64 a0_5, .bool a0_6, .int .i64 a0_7, .slice A0_8 l0_8.length c0_8], .int .i64 1048576] rfl (by (try simp only [List.map_toArray, List.map_cons, List.map_nil]); first | done | rfl | (simp only [List.length_drop, List.length_take]; rfl)) ?_; (with_reducible refine (laws_szDevice.calls k a0_0 a0_1 a0_2 _ _ l0_3 a0_4 a0_5 a0_6 a0_7 _ _ l0_8 1048576 t337 _ ?side1 ?side2 ?side3 ?side4 A3.out).mono ?_); (case side1 => exact Kd.C_below HR0_3.out (bw_ HB.out)); (case side2 => exact HC0_3.out); (case side3 => exact Kd.C_below HR0_8.out (bw_ HB.out)); (case side4 => exact HC0_8.out); rintro e w39 ⟨rfl, hb⟩; refine ⟨_, rfl, ?_⟩; replace BK336 := Aside0.mk (blk_below (bk_ BK336.out) hb); replace HB := Aside0.mk (below_step (bw_ HB.out) hb); (try clear hb); obtain ⟨hcz40_0, hcz40_1, hcz40_2, hcz40_3, hcz40_4, hcz40_5, hcz40_6, hcz40_7, hcz40_8⟩ := cells9 BK336.out; obtain ⟨hfz40_0, hfz40_1, hfz40_2, hfz40_3, hfz40_4, hfz40_5, hfz40_6, hfz40_7, hfz40_8⟩ := frozen9 BK336.out) | ((with_reducible refine gate_callee (f := 78) rfl ?_); refine goesL_ (some 15) rfl rfl Try.func78 (by kernel_rfl) rfl #[.agg #[.int .i64 a0_0, .int .i64 a0_1, .int .i64 a0_2, .slice A0_3 l0_3.length c0_3, .int .i64 a0_4, .int .i64 a0_5, .bool a0_6, .int .i64 a0_7, .slice A0_8 l0_8.length c0_8]] rfl (by (try simp only [List.map_toArray, List.map_cons, List.map_nil]); first | done | rfl | (simp only [List.length_drop, List.length_take]; rfl)) ?_; (with_reducible refine (laws_toDevice.calls k a0_0 a0_1 a0_2 _ _ l0_3 a0_4 a0_5 a0_6 a0_7 _ _ l0_8 t338 t339 t340 t341 t344 t345 t346 t347 t348 _ ?side1 ?side2 ?side3 ?side4 A8.out).mono ?_); (case side1 => exact Kd.C_below HR0_3.out (bw_ HB.out)); (case side2 => exact HC0_3.out); (case side3 => exact Kd.C_below HR0_8.out (bw_ HB.out)); (case side4 => exact HC0_8.out); rintro e w41 ⟨v342, v349, rfl, ho0, ho1, hb⟩; refine ⟨_, rfl, ?_⟩; have HO343 := Aside0.mk (Kd.S_lower ho0 (below_size (bw_ HB.out))); have HO350 := Aside0.mk (Kd.S_lower ho1 (below_size (bw_ HB.out))); replace BK336 := Aside0.mk (blk_below (bk_ BK336.out) hb); replace HB := Aside0.mk (below_step (bw_ HB.out) hb); (try clear hb); (try clear ho1); obtain ⟨Ao42, co42, eo42⟩ := Kd.S_slice HO343.out; subst eo42; obtain ⟨Ao43, co43, eo43⟩ := Kd.S_slice HO350.out; subst eo43) | ((with_reducible refine gate_callee (f := 81) rfl ?_); refine goesL_ (some 17) rfl rfl Try.func81 (by kernel_rfl) rfl #[.agg #[.int .i64 t338, .int .i64 t339, .int .i64 t340, .slice Ao42 t341.length co42, .int .i64 t344, .int .i64 t345, .bool t346, .int .i64 t347, .slice Ao43 t348.length co43], .int .i64 a1] rfl (by (try simp only [List.map_toArray, List.map_cons, List.map_nil]); first | done | rfl | (simp only [List.length_drop, List.length_take]; rfl)) ?_; (with_reducible refine (spec_WearOfZone.calls k t338 t339 t340 _ _ t341 t344 t345 t346 t347 _ _ t348 a1 t351 _ ?side1 ?side2 ?side3 ?side4 A9.out).mono ?_); (case side1 => repeat (first | exact (Kd.S_reads' HO343.out).2.2 | (with_reducible refine Kd.C_alloc ?_ _) | (with_reducible refine Kd.C_drewN ?_ _) | (with_reducible refine Kd.C_drew ?_))); (case side2 => exact (Kd.S_reads' HO343.out).2.1); (case side3 => repeat (first | exact (Kd.S_reads' HO350.out).2.2 | (with_reducible refine Kd.C_alloc ?_ _) | (with_reducible refine Kd.C_drewN ?_ _) | (with_reducible refine Kd.C_drew ?_))); (case side4 => exact (Kd.S_reads' HO350.out).2.1); rintro e w44 ⟨rfl, hb⟩; refine ⟨_, rfl, ?_⟩; replace HO343 := Aside0.mk (Kd.S_below (Kd.S_below HO343.out st_) hb); replace HO350 := Aside0.mk (Kd.S_below (Kd.S_below HO350.out st_) hb); replace BK336 := Aside0.mk (blk_below (bk_ BK336.out) hb); replace HB := Aside0.mk (below_step (bw_ HB.out) hb); (try clear hb); obtain ⟨hcz45_0, hcz45_1, hcz45_2, hcz45_3, hcz45_4, hcz45_5, hcz45_6, hcz45_7, hcz45_8⟩ := cells9 BK336.out; obtain ⟨hfz45_0, hfz45_1, hfz45_2, hfz45_3, hfz45_4, hfz45_5, hfz45_6, hfz45_7, hfz45_8⟩ := frozen9 BK336.out) | ((with_reducible refine gate_callee (f := 78) rfl ?_); refine goesL_ (some 19) rfl rfl Try.func78 (by kernel_rfl) rfl #[.agg #[.int .i64 a0_0, .int .i64 a0_1, .int .i64 a0_2, .slice A0_3 l0_3.length c0_3, .int .i64 a0_4, .int .i64 a0_5, .bool a0_6, .int .i64 a0_7, .slice A0_8 l0_8.length c0_8]] rfl (by (try simp only [List.map_toArray, List.map_cons, List.map_nil]); first | done | rfl | (simp only [List.length_drop, List.length_take]; rfl)) ?_; (with_reducible refine (laws_toDevice.calls k a0_0 a0_1 a0_2 _ _ l0_3 a0_4 a0_5 a0_6 a0_7 _ _ l0_8 t352 t353 t354 t355 t358 t359 t360 t361 t362 _ ?side1 ?side2 ?side3 ?side4 A10.out).mono ?_); (case side1 => exact Kd.C_below HR0_3.out (bw_ HB.out)); (case side2 => exact HC0_3.out); (case side3 => exact Kd.C_below HR0_8.out (bw_ HB.out)); (case side4 => exact HC0_8.out); rintro e w46 ⟨v356, v363, rfl, ho0, ho1, hb⟩; refine ⟨_, rfl, ?_⟩; have HO357 := Aside0.mk (Kd.S_lower (Kd.S_new' ho0 (Kd.S_lt (Kd.S_below HO343.out st_))) (below_size (bw_ HB.out))); replace HO343 := Aside0.mk (Kd.S_elder' (Kd.S_below HO343.out st_) (Kd.S_base ho0) hb); have HO364 := Aside0.mk (Kd.S_lower (Kd.S_new' ho1 (Kd.S_lt (Kd.S_below HO350.out st_))) (below_size (bw_ HB.out))); replace HO350 := Aside0.mk (Kd.S_elder' (Kd.S_below HO350.out st_) (Kd.S_base ho1) hb); replace BK336 := Aside0.mk (blk_below (bk_ BK336.out) hb); replace HB := Aside0.mk (below_step (bw_ HB.out) hb); (try clear hb); (try clear ho1)) | ((with_reducible refine gate_dst (N := 7) rfl ?_); refine box_event ?hg (N := 7) ?hd (cs := #[.int .i64 0, .int .i64 0, .int .i64 0, .slice none 0 0, .int .i64 0, .int .i64 0, .bool false, .int .i64 0, .slice none 0 0]) (t := 126) ?hr ?_; (case hd => rfl); (case hg => rfl); (case hr => first | (go_simp; done) | (go_simp; rfl)); intro gb365 hg w47 hbox hb; replace HO343 := Aside0.mk (Kd.S_below (Kd.S_below HO343.out st_) hb); replace HO350 := Aside0.mk (Kd.S_below (Kd.S_below HO350.out st_) hb); replace HO357 := Aside0.mk (Kd.S_below (Kd.S_below HO357.out st_) hb); replace HO364 := Aside0.mk (Kd.S_below (Kd.S_below HO364.out st_) hb); have BK365 := Aside0.mk (hbox); have GW365 := Aside0.mk ((by rw [hg]; exact (below_size (bw_ HB.out)) : w.heap.size ≤ gb365)); have GE365 := Nonempty.intro GW365.out; replace HB := Aside0.mk (below_step (bw_ HB.out) hb); have NB336_365 := Aside0.mk ((by rw [hg]; exact Nat.ne_of_lt (blk_lt (bk_ BK336.out)) : gb336 ≠ gb365)); have NB365_336 := Aside0.mk ((by rw [hg]; exact Nat.ne_of_gt (blk_lt (bk_ BK336.out)) : gb365 ≠ gb336)); replace BK336 := Aside0.mk (blk_below (bk_ BK336.out) hb); clear hb hbox hg; have hnb48 := NB365_336.out; have hnc48 := NB336_365.out; obtain ⟨hcz49_0, hcz49_1, hcz49_2, hcz49_3, hcz49_4, hcz49_5, hcz49_6, hcz49_7, hcz49_8⟩ := cells9 BK365.out; obtain ⟨hfz49_0, hfz49_1, hfz49_2, hfz49_3, hfz49_4, hfz49_5, hfz49_6, hfz49_7, hfz49_8⟩ := frozen9 BK365.out; obtain ⟨Ao50, co50, eo50⟩ := Kd.S_slice HO357.out; subst eo50; obtain ⟨Ao51, co51, eo51⟩ := Kd.S_slice HO364.out; subst eo51) | ((with_reducible refine gate_callee (f := 82) rfl ?_); refine goesL_ (some 22) rfl rfl Try.func82 (by kernel_rfl) rfl #[.agg #[.int .i64 t352, .int .i64 t353, .int .i64 t354, .slice Ao50 t355.length co50, .int .i64 t358, .int .i64 t359, .bool t360, .int .i64 t361, .slice Ao51 t362.length co51], .int .i64 a1] rfl (by (try simp only [List.map_toArray, List.map_cons, List.map_nil]); first | done | rfl | (simp only [List.length_drop, List.length_take]; rfl)) ?_; (with_reducible refine (impl_WearOfZone.calls k t352 t353 t354 _ _ t355 t358 t359 t360 t361 _ _ t362 a1 t366 _ ?side1 ?side2 ?side3 ?side4 A11.out).mono ?_); (case side1 => refine (Kd.S_reads' (e := 218) (base := w.heap.size) (ok := fun k_ => (True ∧ some k_ ≠ (.slice Ao42 t341.length co42 : Value).ownBlock)) (n := t355.length) (c := co50) ?_).2.2; exact (by (with_reducible repeat (first | apply Kd.S_alloc | apply Kd.S_drewN | apply Kd.S_drew)); exact (Kd.S_mono (Kd.S_far (p := ⟨gb365, 8, none⟩) (Kd.S_far (p := ⟨gb365, 7, none⟩) (Kd.S_far (p := ⟨gb365, 6, none⟩) (Kd.S_far (p := ⟨gb365, 5, none⟩) (Kd.S_far (p := ⟨gb365, 4, none⟩) (Kd.S_far (p := ⟨gb365, 3, none⟩) (Kd.S_far (p := ⟨gb365, 2, none⟩) (Kd.S_far (p := ⟨gb365, 1, none⟩) (Kd.S_far (p := ⟨gb365, 0, none⟩) (Kd.S_types HO357.out BK365.out (by decide)) (fun _ hk => hk.2) (.int .i64 t352)) (fun _ hk => hk.2) (.int .i64 t353)) (fun _ hk => hk.2) (.int .i64 t354)) (fun _ hk => hk.2) (.slice Ao50 t355.length co50)) (fun _ hk => hk.2) (.int .i64 t358)) (fun _ hk => hk.2) (.int .i64 t359)) (fun _ hk => hk.2) (.bool t360)) (fun _ hk => hk.2) (.int .i64 t361)) (fun _ hk => hk.2) (.slice Ao51 t362.length co51)) (fun _ h_ => h_.1)))); (case side2 => exact (Kd.S_reads' HO357.out).2.1); (case side3 => refine (Kd.S_reads' (e := 276) (base := w.heap.size) (ok := fun k_ => (True ∧ some k_ ≠ (.slice Ao43 t348.length co43 : Value).ownBlock)) (n := t362.length) (c := co51) ?_).2.2; exact (by (with_reducible repeat (first | apply Kd.S_alloc | apply Kd.S_drewN | apply Kd.S_drew)); exact (Kd.S_mono (Kd.S_far (p := ⟨gb365, 8, none⟩) (Kd.S_far (p := ⟨gb365, 7, none⟩) (Kd.S_far (p := ⟨gb365, 6, none⟩) (Kd.S_far (p := ⟨gb365, 5, none⟩) (Kd.S_far (p := ⟨gb365, 4, none⟩) (Kd.S_far (p := ⟨gb365, 3, none⟩) (Kd.S_far (p := ⟨gb365, 2, none⟩) (Kd.S_far (p := ⟨gb365, 1, none⟩) (Kd.S_far (p := ⟨gb365, 0, none⟩) (Kd.S_types HO364.out BK365.out (by decide)) (fun _ hk => hk.2) (.int .i64 t352)) (fun _ hk => hk.2) (.int .i64 t353)) (fun _ hk => hk.2) (.int .i64 t354)) (fun _ hk => hk.2) (.slice Ao50 t355.length co50)) (fun _ hk => hk.2) (.int .i64 t358)) (fun _ hk => hk.2) (.int .i64 t359)) (fun _ hk => hk.2) (.bool t360)) (fun _ hk => hk.2) (.int .i64 t361)) (fun _ hk => hk.2) (.slice Ao51 t362.length co51)) (fun _ h_ => h_.1)))); (case side4 => exact (Kd.S_reads' HO364.out).2.1); rintro e w52 ⟨rfl, hb⟩; refine ⟨_, rfl, ?_⟩; replace HO343 := Aside0.mk (Kd.S_below (by (with_reducible repeat (first | apply Kd.S_alloc | apply Kd.S_drewN | apply Kd.S_drew)); exact (Kd.S_mono (Kd.S_far (p := ⟨gb365, 8, none⟩) (Kd.S_far (p := ⟨gb365, 7, none⟩) (Kd.S_far (p := ⟨gb365, 6, none⟩) (Kd.S_far (p := ⟨gb365, 5, none⟩) (Kd.S_far (p := ⟨gb365, 4, none⟩) (Kd.S_far (p := ⟨gb365, 3, none⟩) (Kd.S_far (p := ⟨gb365, 2, none⟩) (Kd.S_far (p := ⟨gb365, 1, none⟩) (Kd.S_far (p := ⟨gb365, 0, none⟩) (Kd.S_types HO343.out BK365.out (by decide)) (fun _ hk => hk.2) (.int .i64 t352)) (fun _ hk => hk.2) (.int .i64 t353)) (fun _ hk => hk.2) (.int .i64 t354)) (fun _ hk => hk.2) (.slice Ao50 t355.length co50)) (fun _ hk => hk.2) (.int .i64 t358)) (fun _ hk => hk.2) (.int .i64 t359)) (fun _ hk => hk.2) (.bool t360)) (fun _ hk => hk.2) (.int .i64 t361)) (fun _ hk => hk.2) (.slice Ao51 t362.length co51)) (fun _ h_ => h_.1))) hb); replace HO350 := Aside0.mk (Kd.S_below (by (with_reducible repeat (first | apply Kd.S_alloc | apply Kd.S_drewN | apply Kd.S_drew)); exact (Kd.S_mono (Kd.S_far (p := ⟨gb365, 8, none⟩) (Kd.S_far (p := ⟨gb365, 7, none⟩) (Kd.S_far (p := ⟨gb365, 6, none⟩) (Kd.S_far (p := ⟨gb365, 5, none⟩) (Kd.S_far (p := ⟨gb365, 4, none⟩) (Kd.S_far (p := ⟨gb365, 3, none⟩) (Kd.S_far (p := ⟨gb365, 2, none⟩) (Kd.S_far (p := ⟨gb365, 1, none⟩) (Kd.S_far (p := ⟨gb365, 0, none⟩) (Kd.S_types HO350.out BK365.out (by decide)) (fun _ hk => hk.2) (.int .i64 t352)) (fun _ hk => hk.2) (.int .i64 t353)) (fun _ hk => hk.2) (.int .i64 t354)) (fun _ hk => hk.2) (.slice Ao50 t355.length co50)) (fun _ hk => hk.2) (.int .i64 t358)) (fun _ hk => hk.2) (.int .i64 t359)) (fun _ hk => hk.2) (.bool t360)) (fun _ hk => hk.2) (.int .i64 t361)) (fun _ hk => hk.2) (.slice Ao51 t362.length co51)) (fun _ h_ => h_.1))) hb); replace HO357 := Aside0.mk (Kd.S_below (by (with_reducible repeat (first | apply Kd.S_alloc | apply Kd.S_drewN | apply Kd.S_drew)); exact (Kd.S_mono (Kd.S_far (p := ⟨gb365, 8, none⟩) (Kd.S_far (p := ⟨gb365, 7, none⟩) (Kd.S_far (p := ⟨gb365, 6, none⟩) (Kd.S_far (p := ⟨gb365, 5, none⟩) (Kd.S_far (p := ⟨gb365, 4, none⟩) (Kd.S_far (p := ⟨gb365, 3, none⟩) (Kd.S_far (p := ⟨gb365, 2, none⟩) (Kd.S_far (p := ⟨gb365, 1, none⟩) (Kd.S_far (p := ⟨gb365, 0, none⟩) (Kd.S_types HO357.out BK365.out (by decide)) (fun _ hk => hk.2) (.int .i64 t352)) (fun _ hk => hk.2) (.int .i64 t353)) (fun _ hk => hk.2) (.int .i64 t354)) (fun _ hk => hk.2) (.slice Ao50 t355.length co50)) (fun _ hk => hk.2) (.int .i64 t358)) (fun _ hk => hk.2) (.int .i64 t359)) (fun _ hk => hk.2) (.bool t360)) (fun _ hk => hk.2) (.int .i64 t361)) (fun _ hk => hk.2) (.slice Ao51 t362.length co51)) (fun _ h_ => h_.1))) hb); replace HO364 := Aside0.mk (Kd.S_below (by (with_reducible repeat (first | apply Kd.S_alloc | apply Kd.S_drewN | apply Kd.S_drew)); exact (Kd.S_mono (Kd.S_far (p := ⟨gb365, 8, none⟩) (Kd.S_far (p := ⟨gb365, 7, none⟩) (Kd.S_far (p := ⟨gb365, 6, none⟩) (Kd.S_far (p := ⟨gb365, 5, none⟩) (Kd.S_far (p := ⟨gb365, 4, none⟩) (Kd.S_far (p := ⟨gb365, 3, none⟩) (Kd.S_far (p := ⟨gb365, 2, none⟩) (Kd.S_far (p := ⟨gb365, 1, none⟩) (Kd.S_far (p := ⟨gb365, 0, none⟩) (Kd.S_types HO364.out BK365.out (by decide)) (fun _ hk => hk.2) (.int .i64 t352)) (fun _ hk => hk.2) (.int .i64 t353)) (fun _ hk => hk.2) (.int .i64 t354)) (fun _ hk => hk.2) (.slice Ao50 t355.length co50)) (fun _ hk => hk.2) (.int .i64 t358)) (fun _ hk => hk.2) (.int .i64 t359)) (fun _ hk => hk.2) (.bool t360)) (fun _ hk => hk.2) (.int .i64 t361)) (fun _ hk => hk.2) (.slice Ao51 t362.length co51)) (fun _ h_ => h_.1))) hb); replace BK336 := Aside0.mk (blk_below (g := gb336) (o := .cells #[.int .i64 a0_0, .int .i64 a0_1, .int .i64 a0_2, .slice A0_3 l0_3.length c0_3, .int .i64 a0_4, .int .i64 a0_5, .bool a0_6, .int .i64 a0_7, .slice A0_8 l0_8.length c0_8] 121 (0, 0)) (by (with_reducible repeat (first | refine blk_drewN ?_ _ | refine blk_drew ?_ | refine blk_alloc ?_ _)); refine blk_far ?_ NB336_365.out _; (with_reducible repeat (first | refine blk_drewN ?_ _ | refine blk_drew ?_ | refine blk_alloc ?_ _)); refine blk_far ?_ NB336_365.out _; (with_reducible repeat (first | refine blk_drewN ?_ _ | refine blk_drew ?_ | refine blk_alloc ?_ _)); refine blk_far ?_ NB336_365.out _; (with_reducible repeat (first | refine blk_drewN ?_ _ | refine blk_drew ?_ | refine blk_alloc ?_ _)); refine blk_far ?_ NB336_365.out _; (with_reducible repeat (first | refine blk_drewN ?_ _ | refine blk_drew ?_ | refine blk_alloc ?_ _)); refine blk_far ?_ NB336_365.out _; (with_reducible repeat (first | refine blk_drewN ?_ _ | refine blk_drew ?_ | refine blk_alloc ?_ _)); refine blk_far ?_ NB336_365.out _; (with_reducible repeat (first | refine blk_drewN ?_ _ | refine blk_drew ?_ | refine blk_alloc ?_ _)); refine blk_far ?_ NB336_365.out _; (with_reducible repeat (first | refine blk_drewN ?_ _ | refine blk_drew ?_ | refine blk_alloc ?_ _)); refine blk_far ?_ NB336_365.out _; (with_reducible repeat (first | refine blk_drewN ?_ _ | refine blk_drew ?_ | refine blk_alloc ?_ _)); refine blk_far ?_ NB336_365.out _; (with_reducible repeat (first | refine blk_drewN ?_ _ | refine blk_drew ?_ | refine blk_alloc ?_ _)); exact BK336.out) hb); replace BK365 := Aside0.mk (blk_below (g := gb365) (o := .cells #[.int .i64 t352, .int .i64 t353, .int .i64 t354, .slice Ao50 t355.length co50, .int .i64 t358, .int .i64 t359, .bool t360, .int .i64 t361, .slice Ao51 t362.length co51] 126 (0, 0)) (by (with_reducible repeat (first | refine blk_drewN ?_ _ | refine blk_drew ?_ | refine blk_alloc ?_ _)); refine blk_put (cs := #[.int .i64 t352, .int .i64 t353, .int .i64 t354, .slice Ao50 t355.length co50, .int .i64 t358, .int .i64 t359, .bool t360, .int .i64 t361, .slice none 0 0]) ?_ 8 _ rfl; (with_reducible repeat (first | refine blk_drewN ?_ _ | refine blk_drew ?_ | refine blk_alloc ?_ _)); refine blk_put (cs := #[.int .i64 t352, .int .i64 t353, .int .i64 t354, .slice Ao50 t355.length co50, .int .i64 t358, .int .i64 t359, .bool t360, .int .i64 0, .slice none 0 0]) ?_ 7 _ rfl; (with_reducible repeat (first | refine blk_drewN ?_ _ | refine blk_drew ?_ | refine blk_alloc ?_ _)); refine blk_put (cs := #[.int .i64 t352, .int .i64 t353, .int .i64 t354, .slice Ao50 t355.length co50, .int .i64 t358, .int .i64 t359, .bool false, .int .i64 0, .slice none 0 0]) ?_ 6 _ rfl; (with_reducible repeat (first | refine blk_drewN ?_ _ | refine blk_drew ?_ | refine blk_alloc ?_ _)); refine blk_put (cs := #[.int .i64 t352, .int .i64 t353, .int .i64 t354, .slice Ao50 t355.length co50, .int .i64 t358, .int .i64 0, .bool false, .int .i64 0, .slice none 0 0]) ?_ 5 _ rfl; (with_reducible repeat (first | refine blk_drewN ?_ _ | refine blk_drew ?_ | refine blk_alloc ?_ _)); refine blk_put (cs := #[.int .i64 t352, .int .i64 t353, .int .i64 t354, .slice Ao50 t355.length co50, .int .i64 0, .int .i64 0, .bool false, .int .i64 0, .slice none 0 0]) ?_ 4 _ rfl; (with_reducible repeat (first | refine blk_drewN ?_ _ | refine blk_drew ?_ | refine blk_alloc ?_ _)); refine blk_put (cs := #[.int .i64 t352, .int .i64 t353, .int .i64 t354, .slice none 0 0, .int .i64 0, .int .i64 0, .bool false, .int .i64 0, .slice none 0 0]) ?_ 3 _ rfl; (with_reducible repeat (first | refine blk_drewN ?_ _ | refine blk_drew ?_ | refine blk_alloc ?_ _)); refine blk_put (cs := #[.int .i64 t352, .int .i64 t353, .int .i64 0, .slice none 0 0, .int .i64 0, .int .i64 0, .bool false, .int .i64 0, .slice none 0 0]) ?_ 2 _ rfl; (with_reducible repeat (first | refine blk_drewN ?_ _ | refine blk_drew ?_ | refine blk_alloc ?_ _)); refine blk_put (cs := #[.int .i64 t352, .int .i64 0, .int .i64 0, .slice none 0 0, .int .i64 0, .int .i64 0, .bool false, .int .i64 0, .slice none 0 0]) ?_ 1 _ rfl; (with_reducible repeat (first | refine blk_drewN ?_ _ | refine blk_drew ?_ | refine blk_alloc ?_ _)); refine blk_put (cs := #[.int .i64 0, .int .i64 0, .int .i64 0, .slice none 0 0, .int .i64 0, .int .i64 0, .bool false, .int .i64 0, .slice none 0 0]) ?_ 0 _ rfl; (with_reducible repeat (first | refine blk_drewN ?_ _ | refine blk_drew ?_ | refine blk_alloc ?_ _)); exact BK365.out) hb); replace HB := Aside0.mk (below_step (bw_ HB.out) hb); (try clear hb)))
  replace HO343 := Aside0.mk (Kd.S_drew HO343.out)
  replace HO350 := Aside0.mk (Kd.S_drew HO350.out)
  replace HO357 := Aside0.mk (Kd.S_drew HO357.out)
  replace HO364 := Aside0.mk (Kd.S_drew HO364.out)
  replace BK336 := Aside0.mk (blk_drew BK336.out)
  replace BK365 := Aside0.mk (blk_drew BK365.out)
  replace HB := Aside0.mk (below_drew1 HB.out)
  refine start_ (n := 5) (S := fun w' => w'.cell? ⟨gb365, 0, none⟩ = some (.int .i64 t352) ∧ w'.cell? ⟨gb365, 1, none⟩ = some (.int .i64 t353) ∧ w'.cell? ⟨gb365, 2, none⟩ = some (.int .i64 t354) ∧ w'.cell? ⟨gb365, 3, none⟩ = some (.slice Ao50 t355.length co50) ∧ w'.cell? ⟨gb365, 4, none⟩ = some (.int .i64 t358) ∧ w'.cell? ⟨gb365, 5, none⟩ = some (.int .i64 t359) ∧ w'.cell? ⟨gb365, 6, none⟩ = some (.bool t360) ∧ w'.cell? ⟨gb365, 7, none⟩ = some (.int .i64 t361) ∧ w'.cell? ⟨gb365, 8, none⟩ = some (.slice Ao51 t362.length co51) ∧ w'.cell? ⟨gb336, 0, none⟩ = some (.int .i64 a0_0) ∧ w'.cell? ⟨gb336, 1, none⟩ = some (.int .i64 a0_1) ∧ w'.cell? ⟨gb336, 2, none⟩ = some (.int .i64 a0_2) ∧ w'.cell? ⟨gb336, 3, none⟩ = some (.slice A0_3 l0_3.length c0_3) ∧ w'.cell? ⟨gb336, 4, none⟩ = some (.int .i64 a0_4) ∧ w'.cell? ⟨gb336, 5, none⟩ = some (.int .i64 a0_5) ∧ w'.cell? ⟨gb336, 6, none⟩ = some (.bool a0_6) ∧ w'.cell? ⟨gb336, 7, none⟩ = some (.int .i64 a0_7) ∧ w'.cell? ⟨gb336, 8, none⟩ = some (.slice A0_8 l0_8.length c0_8)) (ds := []) (Array.replicate 5 false) (by kernel_rfl) rfl rfl ⟨(blk_cell BK365.out 0).trans rfl, (blk_cell BK365.out 1).trans rfl, (blk_cell BK365.out 2).trans rfl, (blk_cell BK365.out 3).trans rfl, (blk_cell BK365.out 4).trans rfl, (blk_cell BK365.out 5).trans rfl, (blk_cell BK365.out 6).trans rfl, (blk_cell BK365.out 7).trans rfl, (blk_cell BK365.out 8).trans rfl, (blk_cell BK336.out 0).trans rfl, (blk_cell BK336.out 1).trans rfl, (blk_cell BK336.out 2).trans rfl, (blk_cell BK336.out 3).trans rfl, (blk_cell BK336.out 4).trans rfl, (blk_cell BK336.out 5).trans rfl, (blk_cell BK336.out 6).trans rfl, (blk_cell BK336.out 7).trans rfl, (blk_cell BK336.out 8).trans rfl⟩ (fun hHeld => ?_)
  generalize w52.drew = w53 at HO343 HO350 HO357 HO364 BK336 BK365 HB hHeld ⊢
  refine take_ (i := 0) (N := some 26) (v := ?_) (a' := ?_) (bl_ 5 1) rfl rfl (by kernel_rfl) (fun _ _ _ h => h) (Or.inl ⟨by rfl, ?_⟩) hHeld ?_ ?_
  rotate_left
  ·rintro w' ⟨s0, s1, s2, s3, s4, s5, s6, s7, s8, s9, s10, s11, s12, s13, s14, s15, s16, s17⟩
   go_simp
   with_reducible rfl
  rotate_left
  ·simp only [Act.put, q1_, q2_, q3_, i64_w, i32_w]
   rfl
  refine take_ (i := 1) (N := some 27) (v := ?_) (a' := ?_) (bl_ 5 3) rfl rfl (by kernel_rfl) (fun _ _ _ h => h) (Or.inl ⟨by rfl, ?_⟩) hHeld ?_ ?_
  rotate_left
  ·rintro w' ⟨s0, s1, s2, s3, s4, s5, s6, s7, s8, s9, s10, s11, s12, s13, s14, s15, s16, s17⟩
   go_simp
   with_reducible rfl
  rotate_left
  ·simp only [Act.put, q1_, q2_, q3_, i64_w, i32_w]
   rfl
  refine one_ (i := 2) (N := some 28) (bl_ 5 7) rfl rfl (by kernel_rfl) (by decide) (fun K hK => ?_)
  refine goes_ Try.func78 (by kernel_rfl) rfl #[.agg #[.int .i64 a0_0, .int .i64 a0_1, .int .i64 a0_2, .slice A0_3 l0_3.length c0_3, .int .i64 a0_4, .int .i64 a0_5, .bool a0_6, .int .i64 a0_7, .slice A0_8 l0_8.length c0_8]] (by rfl) rfl rfl (by (try simp only [List.map_toArray, List.map_cons, List.map_nil]); first | done | rfl | (simp only [List.length_drop, List.length_take]; rfl)) ?_
  with_reducible refine (laws_toDevice.calls k a0_0 a0_1 a0_2 _ _ l0_3 a0_4 a0_5 a0_6 a0_7 _ _ l0_8 t367 t368 t369 t370 t373 t374 t375 t376 t377 _ ?side1 ?side2 ?side3 ?side4 A13.out).mono ?_
  (case side1 => exact Kd.C_below HR0_3.out (bw_ HB.out))
  (case side2 => exact HC0_3.out)
  (case side3 => exact Kd.C_below HR0_8.out (bw_ HB.out))
  (case side4 => exact HC0_8.out)
  rintro e w54 ⟨v371, v378, rfl, ho0, ho1, hb⟩
  refine ⟨_, rfl, ?_⟩
  have HO372 := Aside0.mk (Kd.S_lower (Kd.S_new' (Kd.S_new' ho0 (Kd.S_lt (Kd.S_below HO343.out st_))) (Kd.S_lt (Kd.S_below HO357.out st_))) (below_size (bw_ HB.out)))
  replace HO343 := Aside0.mk (Kd.S_elder' (Kd.S_below HO343.out st_) (Kd.S_base ho0) hb)
  replace HO357 := Aside0.mk (Kd.S_elder' (Kd.S_below HO357.out st_) (Kd.S_base ho0) hb)
  have HO379 := Aside0.mk (Kd.S_lower (Kd.S_new' (Kd.S_new' ho1 (Kd.S_lt (Kd.S_below HO350.out st_))) (Kd.S_lt (Kd.S_below HO364.out st_))) (below_size (bw_ HB.out)))
  replace HO350 := Aside0.mk (Kd.S_elder' (Kd.S_below HO350.out st_) (Kd.S_base ho1) hb)
  replace HO364 := Aside0.mk (Kd.S_elder' (Kd.S_below HO364.out st_) (Kd.S_base ho1) hb)
  replace BK336 := Aside0.mk (blk_below (bk_ BK336.out) hb)
  replace BK365 := Aside0.mk (blk_below (bk_ BK365.out) hb)
  replace HB := Aside0.mk (below_step (bw_ HB.out) hb)
  (try clear ho1)
  obtain ⟨Ao55, co55, eo55⟩ := Kd.S_slice HO372.out
  (first | subst eo55 | (injection eo55 with f1_ f2_ f3_; have f4_ := f1_.symm; have f5_ := f3_.symm; clear f1_ f2_ f3_; subst f4_; subst f5_))
  obtain ⟨Ao56, co56, eo56⟩ := Kd.S_slice HO379.out
  (first | subst eo56 | (injection eo56 with f1_ f2_ f3_; have f4_ := f1_.symm; have f5_ := f3_.symm; clear f1_ f2_ f3_; subst f4_; subst f5_))
  refine hK.out _ _ ⟨(blk_cell BK365.out 0).trans rfl, (blk_cell BK365.out 1).trans rfl, (blk_cell BK365.out 2).trans rfl, (blk_cell BK365.out 3).trans rfl, (blk_cell BK365.out 4).trans rfl, (blk_cell BK365.out 5).trans rfl, (blk_cell BK365.out 6).trans rfl, (blk_cell BK365.out 7).trans rfl, (blk_cell BK365.out 8).trans rfl, (blk_cell BK336.out 0).trans rfl, (blk_cell BK336.out 1).trans rfl, (blk_cell BK336.out 2).trans rfl, (blk_cell BK336.out 3).trans rfl, (blk_cell BK336.out 4).trans rfl, (blk_cell BK336.out 5).trans rfl, (blk_cell BK336.out 6).trans rfl, (blk_cell BK336.out 7).trans rfl, (blk_cell BK336.out 8).trans rfl⟩ (fun hHeld => ?_)
  clear hK K
  refine norm_ (a' := ?_) ?_ ?_
  rotate_left
  ·show Act.put _ (some 28) _ = _
   simp only [Act.put, q1_, q2_, q3_, i64_w, i32_w]
   rfl
  refine one_ (i := 3) (N := some 29) (bl_ 5 15) rfl rfl (by kernel_rfl) (by decide) (fun K hK => ?_)
  refine goes_ Try.func80 (by kernel_rfl) rfl #[.agg #[.int .i64 t352, .int .i64 t353, .int .i64 t354, .slice Ao50 t355.length co50, .int .i64 t358, .int .i64 t359, .bool t360, .int .i64 t361, .slice Ao51 t362.length co51], .agg #[.int .i64 t367, .int .i64 t368, .int .i64 t369, .slice Ao55 t370.length co55, .int .i64 t373, .int .i64 t374, .bool t375, .int .i64 t376, .slice Ao56 t377.length co56]] (by rfl) rfl rfl (by (try simp only [List.map_toArray, List.map_cons, List.map_nil]); first | done | rfl | (simp only [List.length_drop, List.length_take]; rfl)) ?_
  with_reducible refine (laws_eqDevice.calls k t352 t353 t354 _ _ t355 t358 t359 t360 t361 _ _ t362 t367 t368 t369 _ _ t370 t373 t374 t375 t376 _ _ t377 false _ ?side1 ?side2 ?side3 ?side4 ?side5 ?side6 ?side7 ?side8 A14.out).mono ?_
  (case side1 => repeat (first | exact (Kd.S_reads' HO357.out).2.2 | (with_reducible refine Kd.C_alloc ?_ _) | (with_reducible refine Kd.C_drewN ?_ _) | (with_reducible refine Kd.C_drew ?_)))
  (case side2 => exact (Kd.S_reads' HO357.out).2.1)
  (case side3 => repeat (first | exact (Kd.S_reads' HO364.out).2.2 | (with_reducible refine Kd.C_alloc ?_ _) | (with_reducible refine Kd.C_drewN ?_ _) | (with_reducible refine Kd.C_drew ?_)))
  (case side4 => exact (Kd.S_reads' HO364.out).2.1)
  (case side5 => repeat (first | exact (Kd.S_reads' HO372.out).2.2 | (with_reducible refine Kd.C_alloc ?_ _) | (with_reducible refine Kd.C_drewN ?_ _) | (with_reducible refine Kd.C_drew ?_)))
  (case side6 => exact (Kd.S_reads' HO372.out).2.1)
  (case side7 => repeat (first | exact (Kd.S_reads' HO379.out).2.2 | (with_reducible refine Kd.C_alloc ?_ _) | (with_reducible refine Kd.C_drewN ?_ _) | (with_reducible refine Kd.C_drew ?_)))
  (case side8 => exact (Kd.S_reads' HO379.out).2.1)
  rintro e w57 ⟨rfl, hb⟩
  refine ⟨_, rfl, ?_⟩
  replace HO343 := Aside0.mk (Kd.S_below (Kd.S_below HO343.out st_) hb)
  replace HO350 := Aside0.mk (Kd.S_below (Kd.S_below HO350.out st_) hb)
  replace HO357 := Aside0.mk (Kd.S_below (Kd.S_below HO357.out st_) hb)
  replace HO364 := Aside0.mk (Kd.S_below (Kd.S_below HO364.out st_) hb)
  replace HO372 := Aside0.mk (Kd.S_below (Kd.S_below HO372.out st_) hb)
  replace HO379 := Aside0.mk (Kd.S_below (Kd.S_below HO379.out st_) hb)
  replace BK336 := Aside0.mk (blk_below (bk_ BK336.out) hb)
  replace BK365 := Aside0.mk (blk_below (bk_ BK365.out) hb)
  replace HB := Aside0.mk (below_step (bw_ HB.out) hb)
  refine hK.out _ _ ⟨(blk_cell BK365.out 0).trans rfl, (blk_cell BK365.out 1).trans rfl, (blk_cell BK365.out 2).trans rfl, (blk_cell BK365.out 3).trans rfl, (blk_cell BK365.out 4).trans rfl, (blk_cell BK365.out 5).trans rfl, (blk_cell BK365.out 6).trans rfl, (blk_cell BK365.out 7).trans rfl, (blk_cell BK365.out 8).trans rfl, (blk_cell BK336.out 0).trans rfl, (blk_cell BK336.out 1).trans rfl, (blk_cell BK336.out 2).trans rfl, (blk_cell BK336.out 3).trans rfl, (blk_cell BK336.out 4).trans rfl, (blk_cell BK336.out 5).trans rfl, (blk_cell BK336.out 6).trans rfl, (blk_cell BK336.out 7).trans rfl, (blk_cell BK336.out 8).trans rfl⟩ (fun hHeld => ?_)
  clear hK K
  refine norm_ (a' := ?_) ?_ ?_
  rotate_left
  ·show Act.put _ (some 29) _ = _
   simp only [Act.put, q1_, q2_, q3_, i64_w, i32_w]
   rfl
  refine pure_ (i := 4) (N := some 30) (v := ?_) (a' := ?_) (bl_ 5 31) rfl rfl (by kernel_rfl) (fun _ _ _ h => h) (Or.inl ⟨by rfl, ?_⟩) ?_ ?_
  rotate_left
  ·intro w'
   go_simp
   with_reducible rfl
  rotate_left
  ·simp only [Act.put, q1_, q2_, q3_, i64_w, i32_w]
   rfl
  refine done_ (by kernel_rfl) ?_
  try go_wp2
  go_ret
  exact ⟨by first | rfl | (simp [errW_none, errW_some] <;> rfl) | (simp [*, errW_none, errW_some] <;> rfl), bw_ HB.out⟩
 rw [if_neg c12] at H
 have c12b0 : (t366 == t351) = false := beq_eq_false_iff_ne.mpr c12
 have c12b1 : (t366 != t351) = true := bne_iff_ne.mpr c12
 obtain rfl := Option.some.inj H
 go_enter Try.func14, Try.ntmps14
 go_wp2_with (first | ((with_reducible refine gate_dst (N := 2) rfl ?_); refine box_event ?hg (N := 2) ?hd (cs := #[.int .i64 a0_0, .int .i64 a0_1, .int .i64 a0_2, .slice A0_3 l0_3.length c0_3, .int .i64 a0_4, .int .i64 a0_5, .bool a0_6, .int .i64 a0_7, .slice A0_8 l0_8.length c0_8]) (t := 121) ?hr ?_; (case hd => rfl); (case hg => rfl); (case hr => first | (go_simp; done) | (go_simp; rfl)); intro gb336 hg w58 hbox hb; have BK336 := Aside0.mk (hbox); have GW336 := Aside0.mk ((by rw [hg]; exact (below_size (bw_ HB.out)) : w.heap.size ≤ gb336)); have GE336 := Nonempty.intro GW336.out; replace HB := Aside0.mk (below_step (bw_ HB.out) hb); clear hb hbox hg; obtain ⟨hcz59_0, hcz59_1, hcz59_2, hcz59_3, hcz59_4, hcz59_5, hcz59_6, hcz59_7, hcz59_8⟩ := cells9 BK336.out; obtain ⟨hfz59_0, hfz59_1, hfz59_2, hfz59_3, hfz59_4, hfz59_5, hfz59_6, hfz59_7, hfz59_8⟩ := frozen9 BK336.out) | ((with_reducible refine gate_callee (f := 76) rfl ?_); refine goesL_ (some 11) rfl rfl Try.func76 (by kernel_rfl) rfl #[.agg #[.int .i64 a0_0, .int .i64 a0_1, .int .i64 a0_2, .slice A0_3 l0_3.length c0_3, .int .i64 a0_4, .int .i64 a0_5, .bool a0_6, .int .i64 a0_7, .slice A0_8 l0_8.length c0_8], .int .i64 1048576] rfl (by (try simp only [List.map_toArray, List.map_cons, List.map_nil]); first | done | rfl | (simp only [List.length_drop, List.length_take]; rfl)) ?_; (with_reducible refine (laws_szDevice.calls k a0_0 a0_1 a0_2 _ _ l0_3 a0_4 a0_5 a0_6 a0_7 _ _ l0_8 1048576 t337 _ ?side1 ?side2 ?side3 ?side4 A3.out).mono ?_); (case side1 => exact Kd.C_below HR0_3.out (bw_ HB.out)); (case side2 => exact HC0_3.out); (case side3 => exact Kd.C_below HR0_8.out (bw_ HB.out)); (case side4 => exact HC0_8.out); rintro e w60 ⟨rfl, hb⟩; refine ⟨_, rfl, ?_⟩; replace BK336 := Aside0.mk (blk_below (bk_ BK336.out) hb); replace HB := Aside0.mk (below_step (bw_ HB.out) hb); (try clear hb); obtain ⟨hcz61_0, hcz61_1, hcz61_2, hcz61_3, hcz61_4, hcz61_5, hcz61_6, hcz61_7, hcz61_8⟩ := cells9 BK336.out; obtain ⟨hfz61_0, hfz61_1, hfz61_2, hfz61_3, hfz61_4, hfz61_5, hfz61_6, hfz61_7, hfz61_8⟩ := frozen9 BK336.out) | ((with_reducible refine gate_callee (f := 78) rfl ?_); refine goesL_ (some 15) rfl rfl Try.func78 (by kernel_rfl) rfl #[.agg #[.int .i64 a0_0, .int .i64 a0_1, .int .i64 a0_2, .slice A0_3 l0_3.length c0_3, .int .i64 a0_4, .int .i64 a0_5, .bool a0_6, .int .i64 a0_7, .slice A0_8 l0_8.length c0_8]] rfl (by (try simp only [List.map_toArray, List.map_cons, List.map_nil]); first | done | rfl | (simp only [List.length_drop, List.length_take]; rfl)) ?_; (with_reducible refine (laws_toDevice.calls k a0_0 a0_1 a0_2 _ _ l0_3 a0_4 a0_5 a0_6 a0_7 _ _ l0_8 t338 t339 t340 t341 t344 t345 t346 t347 t348 _ ?side1 ?side2 ?side3 ?side4 A8.out).mono ?_); (case side1 => exact Kd.C_below HR0_3.out (bw_ HB.out)); (case side2 => exact HC0_3.out); (case side3 => exact Kd.C_below HR0_8.out (bw_ HB.out)); (case side4 => exact HC0_8.out); rintro e w62 ⟨v342, v349, rfl, ho0, ho1, hb⟩; refine ⟨_, rfl, ?_⟩; have HO343 := Aside0.mk (Kd.S_lower ho0 (below_size (bw_ HB.out))); have HO350 := Aside0.mk (Kd.S_lower ho1 (below_size (bw_ HB.out))); replace BK336 := Aside0.mk (blk_below (bk_ BK336.out) hb); replace HB := Aside0.mk (below_step (bw_ HB.out) hb); (try clear hb); (try clear ho1); obtain ⟨Ao63, co63, eo63⟩ := Kd.S_slice HO343.out; subst eo63; obtain ⟨Ao64, co64, eo64⟩ := Kd.S_slice HO350.out; subst eo64) | ((with_reducible refine gate_callee (f := 81) rfl ?_); refine goesL_ (some 17) rfl rfl Try.func81 (by kernel_rfl) rfl #[.agg #[.int .i64 t338, .int .i64 t339, .int .i64 t340, .slice Ao63 t341.length co63, .int .i64 t344, .int .i64 t345, .bool t346, .int .i64 t347, .slice Ao64 t348.length co64], .int .i64 a1] rfl (by (try simp only [List.map_toArray, List.map_cons, List.map_nil]); first | done | rfl | (simp only [List.length_drop, List.length_take]; rfl)) ?_; (with_reducible refine (spec_WearOfZone.calls k t338 t339 t340 _ _ t341 t344 t345 t346 t347 _ _ t348 a1 t351 _ ?side1 ?side2 ?side3 ?side4 A9.out).mono ?_); (case side1 => repeat (first | exact (Kd.S_reads' HO343.out).2.2 | (with_reducible refine Kd.C_alloc ?_ _) | (with_reducible refine Kd.C_drewN ?_ _) | (with_reducible refine Kd.C_drew ?_))); (case side2 => exact (Kd.S_reads' HO343.out).2.1); (case side3 => repeat (first | exact (Kd.S_reads' HO350.out).2.2 | (with_reducible refine Kd.C_alloc ?_ _) | (with_reducible refine Kd.C_drewN ?_ _) | (with_reducible refine Kd.C_drew ?_))); (case side4 => exact (Kd.S_reads' HO350.out).2.1); rintro e w65 ⟨rfl, hb⟩; refine ⟨_, rfl, ?_⟩; replace HO343 := Aside0.mk (Kd.S_below (Kd.S_below HO343.out st_) hb); replace HO350 := Aside0.mk (Kd.S_below (Kd.S_below HO350.out st_) hb); replace BK336 := Aside0.mk (blk_below (bk_ BK336.out) hb); replace HB := Aside0.mk (below_step (bw_ HB.out) hb); (try clear hb); obtain ⟨hcz66_0, hcz66_1, hcz66_2, hcz66_3, hcz66_4, hcz66_5, hcz66_6, hcz66_7, hcz66_8⟩ := cells9 BK336.out; obtain ⟨hfz66_0, hfz66_1, hfz66_2, hfz66_3, hfz66_4, hfz66_5, hfz66_6, hfz66_7, hfz66_8⟩ := frozen9 BK336.out) | ((with_reducible refine gate_callee (f := 78) rfl ?_); refine goesL_ (some 19) rfl rfl Try.func78 (by kernel_rfl) rfl #[.agg #[.int .i64 a0_0, .int .i64 a0_1, .int .i64 a0_2, .slice A0_3 l0_3.length c0_3, .int .i64 a0_4, .int .i64 a0_5, .bool a0_6, .int .i64 a0_7, .slice A0_8 l0_8.length c0_8]] rfl (by (try simp only [List.map_toArray, List.map_cons, List.map_nil]); first | done | rfl | (simp only [List.length_drop, List.length_take]; rfl)) ?_; (with_reducible refine (laws_toDevice.calls k a0_0 a0_1 a0_2 _ _ l0_3 a0_4 a0_5 a0_6 a0_7 _ _ l0_8 t352 t353 t354 t355 t358 t359 t360 t361 t362 _ ?side1 ?side2 ?side3 ?side4 A10.out).mono ?_); (case side1 => exact Kd.C_below HR0_3.out (bw_ HB.out)); (case side2 => exact HC0_3.out); (case side3 => exact Kd.C_below HR0_8.out (bw_ HB.out)); (case side4 => exact HC0_8.out); rintro e w67 ⟨v356, v363, rfl, ho0, ho1, hb⟩; refine ⟨_, rfl, ?_⟩; have HO357 := Aside0.mk (Kd.S_lower (Kd.S_new' ho0 (Kd.S_lt (Kd.S_below HO343.out st_))) (below_size (bw_ HB.out))); replace HO343 := Aside0.mk (Kd.S_elder' (Kd.S_below HO343.out st_) (Kd.S_base ho0) hb); have HO364 := Aside0.mk (Kd.S_lower (Kd.S_new' ho1 (Kd.S_lt (Kd.S_below HO350.out st_))) (below_size (bw_ HB.out))); replace HO350 := Aside0.mk (Kd.S_elder' (Kd.S_below HO350.out st_) (Kd.S_base ho1) hb); replace BK336 := Aside0.mk (blk_below (bk_ BK336.out) hb); replace HB := Aside0.mk (below_step (bw_ HB.out) hb); (try clear hb); (try clear ho1)) | ((with_reducible refine gate_dst (N := 7) rfl ?_); refine box_event ?hg (N := 7) ?hd (cs := #[.int .i64 0, .int .i64 0, .int .i64 0, .slice none 0 0, .int .i64 0, .int .i64 0, .bool false, .int .i64 0, .slice none 0 0]) (t := 126) ?hr ?_; (case hd => rfl); (case hg => rfl); (case hr => first | (go_simp; done) | (go_simp; rfl)); intro gb365 hg w68 hbox hb; replace HO343 := Aside0.mk (Kd.S_below (Kd.S_below HO343.out st_) hb); replace HO350 := Aside0.mk (Kd.S_below (Kd.S_below HO350.out st_) hb); replace HO357 := Aside0.mk (Kd.S_below (Kd.S_below HO357.out st_) hb); replace HO364 := Aside0.mk (Kd.S_below (Kd.S_below HO364.out st_) hb); have BK365 := Aside0.mk (hbox); have GW365 := Aside0.mk ((by rw [hg]; exact (below_size (bw_ HB.out)) : w.heap.size ≤ gb365)); have GE365 := Nonempty.intro GW365.out; replace HB := Aside0.mk (below_step (bw_ HB.out) hb); have NB336_365 := Aside0.mk ((by rw [hg]; exact Nat.ne_of_lt (blk_lt (bk_ BK336.out)) : gb336 ≠ gb365)); have NB365_336 := Aside0.mk ((by rw [hg]; exact Nat.ne_of_gt (blk_lt (bk_ BK336.out)) : gb365 ≠ gb336)); replace BK336 := Aside0.mk (blk_below (bk_ BK336.out) hb); clear hb hbox hg; have hnb69 := NB365_336.out; have hnc69 := NB336_365.out; obtain ⟨hcz70_0, hcz70_1, hcz70_2, hcz70_3, hcz70_4, hcz70_5, hcz70_6, hcz70_7, hcz70_8⟩ := cells9 BK365.out; obtain ⟨hfz70_0, hfz70_1, hfz70_2, hfz70_3, hfz70_4, hfz70_5, hfz70_6, hfz70_7, hfz70_8⟩ := frozen9 BK365.out; obtain ⟨Ao71, co71, eo71⟩ := Kd.S_slice HO357.out; subst eo71; obtain ⟨Ao72, co72, eo72⟩ := Kd.S_slice HO364.out; subst eo72) | ((with_reducible refine gate_callee (f := 82) rfl ?_); refine goesL_ (some 22) rfl rfl Try.func82 (by kernel_rfl) rfl #[.agg #[.int .i64 t352, .int .i64 t353, .int .i64 t354, .slice Ao71 t355.length co71, .int .i64 t358, .int .i64 t359, .bool t360, .int .i64 t361, .slice Ao72 t362.length co72], .int .i64 a1] rfl (by (try simp only [List.map_toArray, List.map_cons, List.map_nil]); first | done | rfl | (simp only [List.length_drop, List.length_take]; rfl)) ?_; (with_reducible refine (impl_WearOfZone.calls k t352 t353 t354 _ _ t355 t358 t359 t360 t361 _ _ t362 a1 t366 _ ?side1 ?side2 ?side3 ?side4 A11.out).mono ?_); (case side1 => refine (Kd.S_reads' (e := 218) (base := w.heap.size) (ok := fun k_ => (True ∧ some k_ ≠ (.slice Ao63 t341.length co63 : Value).ownBlock)) (n := t355.length) (c := co71) ?_).2.2; exact (by (with_reducible repeat (first | apply Kd.S_alloc | apply Kd.S_drewN | apply Kd.S_drew)); exact (Kd.S_mono (Kd.S_far (p := ⟨gb365, 8, none⟩) (Kd.S_far (p := ⟨gb365, 7, none⟩) (Kd.S_far (p := ⟨gb365, 6, none⟩) (Kd.S_far (p := ⟨gb365, 5, none⟩) (Kd.S_far (p := ⟨gb365, 4, none⟩) (Kd.S_far (p := ⟨gb365, 3, none⟩) (Kd.S_far (p := ⟨gb365, 2, none⟩) (Kd.S_far (p := ⟨gb365, 1, none⟩) (Kd.S_far (p := ⟨gb365, 0, none⟩) (Kd.S_types HO357.out BK365.out (by decide)) (fun _ hk => hk.2) (.int .i64 t352)) (fun _ hk => hk.2) (.int .i64 t353)) (fun _ hk => hk.2) (.int .i64 t354)) (fun _ hk => hk.2) (.slice Ao71 t355.length co71)) (fun _ hk => hk.2) (.int .i64 t358)) (fun _ hk => hk.2) (.int .i64 t359)) (fun _ hk => hk.2) (.bool t360)) (fun _ hk => hk.2) (.int .i64 t361)) (fun _ hk => hk.2) (.slice Ao72 t362.length co72)) (fun _ h_ => h_.1)))); (case side2 => exact (Kd.S_reads' HO357.out).2.1); (case side3 => refine (Kd.S_reads' (e := 276) (base := w.heap.size) (ok := fun k_ => (True ∧ some k_ ≠ (.slice Ao64 t348.length co64 : Value).ownBlock)) (n := t362.length) (c := co72) ?_).2.2; exact (by (with_reducible repeat (first | apply Kd.S_alloc | apply Kd.S_drewN | apply Kd.S_drew)); exact (Kd.S_mono (Kd.S_far (p := ⟨gb365, 8, none⟩) (Kd.S_far (p := ⟨gb365, 7, none⟩) (Kd.S_far (p := ⟨gb365, 6, none⟩) (Kd.S_far (p := ⟨gb365, 5, none⟩) (Kd.S_far (p := ⟨gb365, 4, none⟩) (Kd.S_far (p := ⟨gb365, 3, none⟩) (Kd.S_far (p := ⟨gb365, 2, none⟩) (Kd.S_far (p := ⟨gb365, 1, none⟩) (Kd.S_far (p := ⟨gb365, 0, none⟩) (Kd.S_types HO364.out BK365.out (by decide)) (fun _ hk => hk.2) (.int .i64 t352)) (fun _ hk => hk.2) (.int .i64 t353)) (fun _ hk => hk.2) (.int .i64 t354)) (fun _ hk => hk.2) (.slice Ao71 t355.length co71)) (fun _ hk => hk.2) (.int .i64 t358)) (fun _ hk => hk.2) (.int .i64 t359)) (fun _ hk => hk.2) (.bool t360)) (fun _ hk => hk.2) (.int .i64 t361)) (fun _ hk => hk.2) (.slice Ao72 t362.length co72)) (fun _ h_ => h_.1)))); (case side4 => exact (Kd.S_reads' HO364.out).2.1); rintro e w73 ⟨rfl, hb⟩; refine ⟨_, rfl, ?_⟩; replace HO343 := Aside0.mk (Kd.S_below (by (with_reducible repeat (first | apply Kd.S_alloc | apply Kd.S_drewN | apply Kd.S_drew)); exact (Kd.S_mono (Kd.S_far (p := ⟨gb365, 8, none⟩) (Kd.S_far (p := ⟨gb365, 7, none⟩) (Kd.S_far (p := ⟨gb365, 6, none⟩) (Kd.S_far (p := ⟨gb365, 5, none⟩) (Kd.S_far (p := ⟨gb365, 4, none⟩) (Kd.S_far (p := ⟨gb365, 3, none⟩) (Kd.S_far (p := ⟨gb365, 2, none⟩) (Kd.S_far (p := ⟨gb365, 1, none⟩) (Kd.S_far (p := ⟨gb365, 0, none⟩) (Kd.S_types HO343.out BK365.out (by decide)) (fun _ hk => hk.2) (.int .i64 t352)) (fun _ hk => hk.2) (.int .i64 t353)) (fun _ hk => hk.2) (.int .i64 t354)) (fun _ hk => hk.2) (.slice Ao71 t355.length co71)) (fun _ hk => hk.2) (.int .i64 t358)) (fun _ hk => hk.2) (.int .i64 t359)) (fun _ hk => hk.2) (.bool t360)) (fun _ hk => hk.2) (.int .i64 t361)) (fun _ hk => hk.2) (.slice Ao72 t362.length co72)) (fun _ h_ => h_.1))) hb); replace HO350 := Aside0.mk (Kd.S_below (by (with_reducible repeat (first | apply Kd.S_alloc | apply Kd.S_drewN | apply Kd.S_drew)); exact (Kd.S_mono (Kd.S_far (p := ⟨gb365, 8, none⟩) (Kd.S_far (p := ⟨gb365, 7, none⟩) (Kd.S_far (p := ⟨gb365, 6, none⟩) (Kd.S_far (p := ⟨gb365, 5, none⟩) (Kd.S_far (p := ⟨gb365, 4, none⟩) (Kd.S_far (p := ⟨gb365, 3, none⟩) (Kd.S_far (p := ⟨gb365, 2, none⟩) (Kd.S_far (p := ⟨gb365, 1, none⟩) (Kd.S_far (p := ⟨gb365, 0, none⟩) (Kd.S_types HO350.out BK365.out (by decide)) (fun _ hk => hk.2) (.int .i64 t352)) (fun _ hk => hk.2) (.int .i64 t353)) (fun _ hk => hk.2) (.int .i64 t354)) (fun _ hk => hk.2) (.slice Ao71 t355.length co71)) (fun _ hk => hk.2) (.int .i64 t358)) (fun _ hk => hk.2) (.int .i64 t359)) (fun _ hk => hk.2) (.bool t360)) (fun _ hk => hk.2) (.int .i64 t361)) (fun _ hk => hk.2) (.slice Ao72 t362.length co72)) (fun _ h_ => h_.1))) hb); replace HO357 := Aside0.mk (Kd.S_below (by (with_reducible repeat (first | apply Kd.S_alloc | apply Kd.S_drewN | apply Kd.S_drew)); exact (Kd.S_mono (Kd.S_far (p := ⟨gb365, 8, none⟩) (Kd.S_far (p := ⟨gb365, 7, none⟩) (Kd.S_far (p := ⟨gb365, 6, none⟩) (Kd.S_far (p := ⟨gb365, 5, none⟩) (Kd.S_far (p := ⟨gb365, 4, none⟩) (Kd.S_far (p := ⟨gb365, 3, none⟩) (Kd.S_far (p := ⟨gb365, 2, none⟩) (Kd.S_far (p := ⟨gb365, 1, none⟩) (Kd.S_far (p := ⟨gb365, 0, none⟩) (Kd.S_types HO357.out BK365.out (by decide)) (fun _ hk => hk.2) (.int .i64 t352)) (fun _ hk => hk.2) (.int .i64 t353)) (fun _ hk => hk.2) (.int .i64 t354)) (fun _ hk => hk.2) (.slice Ao71 t355.length co71)) (fun _ hk => hk.2) (.int .i64 t358)) (fun _ hk => hk.2) (.int .i64 t359)) (fun _ hk => hk.2) (.bool t360)) (fun _ hk => hk.2) (.int .i64 t361)) (fun _ hk => hk.2) (.slice Ao72 t362.length co72)) (fun _ h_ => h_.1))) hb); replace HO364 := Aside0.mk (Kd.S_below (by (with_reducible repeat (first | apply Kd.S_alloc | apply Kd.S_drewN | apply Kd.S_drew)); exact (Kd.S_mono (Kd.S_far (p := ⟨gb365, 8, none⟩) (Kd.S_far (p := ⟨gb365, 7, none⟩) (Kd.S_far (p := ⟨gb365, 6, none⟩) (Kd.S_far (p := ⟨gb365, 5, none⟩) (Kd.S_far (p := ⟨gb365, 4, none⟩) (Kd.S_far (p := ⟨gb365, 3, none⟩) (Kd.S_far (p := ⟨gb365, 2, none⟩) (Kd.S_far (p := ⟨gb365, 1, none⟩) (Kd.S_far (p := ⟨gb365, 0, none⟩) (Kd.S_types HO364.out BK365.out (by decide)) (fun _ hk => hk.2) (.int .i64 t352)) (fun _ hk => hk.2) (.int .i64 t353)) (fun _ hk => hk.2) (.int .i64 t354)) (fun _ hk => hk.2) (.slice Ao71 t355.length co71)) (fun _ hk => hk.2) (.int .i64 t358)) (fun _ hk => hk.2) (.int .i64 t359)) (fun _ hk => hk.2) (.bool t360)) (fun _ hk => hk.2) (.int .i64 t361)) (fun _ hk => hk.2) (.slice Ao72 t362.length co72)) (fun _ h_ => h_.1))) hb); replace BK336 := Aside0.mk (blk_below (g := gb336) (o := .cells #[.int .i64 a0_0, .int .i64 a0_1, .int .i64 a0_2, .slice A0_3 l0_3.length c0_3, .int .i64 a0_4, .int .i64 a0_5, .bool a0_6, .int .i64 a0_7, .slice A0_8 l0_8.length c0_8] 121 (0, 0)) (by (with_reducible repeat (first | refine blk_drewN ?_ _ | refine blk_drew ?_ | refine blk_alloc ?_ _)); refine blk_far ?_ NB336_365.out _; (with_reducible repeat (first | refine blk_drewN ?_ _ | refine blk_drew ?_ | refine blk_alloc ?_ _)); refine blk_far ?_ NB336_365.out _; (with_reducible repeat (first | refine blk_drewN ?_ _ | refine blk_drew ?_ | refine blk_alloc ?_ _)); refine blk_far ?_ NB336_365.out _; (with_reducible repeat (first | refine blk_drewN ?_ _ | refine blk_drew ?_ | refine blk_alloc ?_ _)); refine blk_far ?_ NB336_365.out _; (with_reducible repeat (first | refine blk_drewN ?_ _ | refine blk_drew ?_ | refine blk_alloc ?_ _)); refine blk_far ?_ NB336_365.out _; (with_reducible repeat (first | refine blk_drewN ?_ _ | refine blk_drew ?_ | refine blk_alloc ?_ _)); refine blk_far ?_ NB336_365.out _; (with_reducible repeat (first | refine blk_drewN ?_ _ | refine blk_drew ?_ | refine blk_alloc ?_ _)); refine blk_far ?_ NB336_365.out _; (with_reducible repeat (first | refine blk_drewN ?_ _ | refine blk_drew ?_ | refine blk_alloc ?_ _)); refine blk_far ?_ NB336_365.out _; (with_reducible repeat (first | refine blk_drewN ?_ _ | refine blk_drew ?_ | refine blk_alloc ?_ _)); refine blk_far ?_ NB336_365.out _; (with_reducible repeat (first | refine blk_drewN ?_ _ | refine blk_drew ?_ | refine blk_alloc ?_ _)); exact BK336.out) hb); replace BK365 := Aside0.mk (blk_below (g := gb365) (o := .cells #[.int .i64 t352, .int .i64 t353, .int .i64 t354, .slice Ao71 t355.length co71, .int .i64 t358, .int .i64 t359, .bool t360, .int .i64 t361, .slice Ao72 t362.length co72] 126 (0, 0)) (by (with_reducible repeat (first | refine blk_drewN ?_ _ | refine blk_drew ?_ | refine blk_alloc ?_ _)); refine blk_put (cs := #[.int .i64 t352, .int .i64 t353, .int .i64 t354, .slice Ao71 t355.length co71, .int .i64 t358, .int .i64 t359, .bool t360, .int .i64 t361, .slice none 0 0]) ?_ 8 _ rfl; (with_reducible repeat (first | refine blk_drewN ?_ _ | refine blk_drew ?_ | refine blk_alloc ?_ _)); refine blk_put (cs := #[.int .i64 t352, .int .i64 t353, .int .i64 t354, .slice Ao71 t355.length co71, .int .i64 t358, .int .i64 t359, .bool t360, .int .i64 0, .slice none 0 0]) ?_ 7 _ rfl; (with_reducible repeat (first | refine blk_drewN ?_ _ | refine blk_drew ?_ | refine blk_alloc ?_ _)); refine blk_put (cs := #[.int .i64 t352, .int .i64 t353, .int .i64 t354, .slice Ao71 t355.length co71, .int .i64 t358, .int .i64 t359, .bool false, .int .i64 0, .slice none 0 0]) ?_ 6 _ rfl; (with_reducible repeat (first | refine blk_drewN ?_ _ | refine blk_drew ?_ | refine blk_alloc ?_ _)); refine blk_put (cs := #[.int .i64 t352, .int .i64 t353, .int .i64 t354, .slice Ao71 t355.length co71, .int .i64 t358, .int .i64 0, .bool false, .int .i64 0, .slice none 0 0]) ?_ 5 _ rfl; (with_reducible repeat (first | refine blk_drewN ?_ _ | refine blk_drew ?_ | refine blk_alloc ?_ _)); refine blk_put (cs := #[.int .i64 t352, .int .i64 t353, .int .i64 t354, .slice Ao71 t355.length co71, .int .i64 0, .int .i64 0, .bool false, .int .i64 0, .slice none 0 0]) ?_ 4 _ rfl; (with_reducible repeat (first | refine blk_drewN ?_ _ | refine blk_drew ?_ | refine blk_alloc ?_ _)); refine blk_put (cs := #[.int .i64 t352, .int .i64 t353, .int .i64 t354, .slice none 0 0, .int .i64 0, .int .i64 0, .bool false, .int .i64 0, .slice none 0 0]) ?_ 3 _ rfl; (with_reducible repeat (first | refine blk_drewN ?_ _ | refine blk_drew ?_ | refine blk_alloc ?_ _)); refine blk_put (cs := #[.int .i64 t352, .int .i64 t353, .int .i64 0, .slice none 0 0, .int .i64 0, .int .i64 0, .bool false, .int .i64 0, .slice none 0 0]) ?_ 2 _ rfl; (with_reducible repeat (first | refine blk_drewN ?_ _ | refine blk_drew ?_ | refine blk_alloc ?_ _)); refine blk_put (cs := #[.int .i64 t352, .int .i64 0, .int .i64 0, .slice none 0 0, .int .i64 0, .int .i64 0, .bool false, .int .i64 0, .slice none 0 0]) ?_ 1 _ rfl; (with_reducible repeat (first | refine blk_drewN ?_ _ | refine blk_drew ?_ | refine blk_alloc ?_ _)); refine blk_put (cs := #[.int .i64 0, .int .i64 0, .int .i64 0, .slice none 0 0, .int .i64 0, .int .i64 0, .bool false, .int .i64 0, .slice none 0 0]) ?_ 0 _ rfl; (with_reducible repeat (first | refine blk_drewN ?_ _ | refine blk_drew ?_ | refine blk_alloc ?_ _)); exact BK365.out) hb); replace HB := Aside0.mk (below_step (bw_ HB.out) hb); (try clear hb)))
 go_ret
 exact ⟨by first | rfl | (simp [errW_none, errW_some] <;> rfl) | (simp [*, errW_none, errW_some] <;> rfl), bw_ HB.out⟩

/-! the argument's own types -/
instance : Inhabited S35 := ⟨z35⟩
def IsQ35 (x : S35) : Prop := inK .i64 x.f0 ∧ inK .i64 x.f1 ∧ inK .i64 x.f2
theorem opS_35 {H : Type} {enc : TypeId × Value → H} {w : World} {spare : Nat → Bool} {held : Bool} : Opn enc Try.prog w spare held 35 k35 IsQ35 :=
 Opn.struct (fun x : S35 => (x.f0, x.f1, x.f2)) (fun p => (⟨p.1, p.2.1, p.2.2⟩ : S35)) (fun _ => rfl) Try.underlying35 (by kernel_rfl) (OpnF.cons rfl (by kernel_rfl) rfl (Opn.int .i64 Try.underlying2) (OpnF.cons rfl (by kernel_rfl) rfl (Opn.int .i64 Try.underlying2) (OpnF.one rfl (by kernel_rfl) (Opn.int .i64 Try.underlying2))))
instance : Inhabited S234 := ⟨z234⟩
def IsQ234 (x : S234) : Prop := inK .i64 x.f0 ∧ inK .i64 x.f1 ∧ True ∧ (x.f3.length * 16 ≤ 140737488351232 ∧ ∀ x_ ∈ x.f3, x_.size ≤ 140737488351232)
theorem opS_234 {H : Type} {enc : TypeId × Value → H} {w : World} {spare : Nat → Bool} {held : Bool} : Opn enc Try.prog w spare held 234 k234 IsQ234 :=
 Opn.struct (fun x : S234 => (x.f0, x.f1, x.f2, x.f3)) (fun p => (⟨p.1, p.2.1, p.2.2.1, p.2.2.2⟩ : S234)) (fun _ => rfl) Try.underlying234 (by kernel_rfl) (OpnF.cons rfl (by kernel_rfl) rfl (Opn.int .i64 Try.underlying2) (OpnF.cons rfl (by kernel_rfl) rfl (Opn.int .i64 Try.underlying2) (OpnF.cons rfl (by kernel_rfl) rfl (Opn.bool Try.underlying4) (OpnF.one rfl (by kernel_rfl) (Opn.slice 16 Try.underlying216 (by kernel_rfl) (by kernel_rfl) (Opn.string Try.underlying9))))))
instance : Inhabited S38 := ⟨z38⟩
def IsQ38 (x : S38) : Prop := IsQ35 x.f0 ∧ (x.f1.length * 48 ≤ 140737488351232 ∧ ∀ x_ ∈ x.f1, IsQ234 x_) ∧ inK .i64 x.f2 ∧ inK .i64 x.f3 ∧ True ∧ inK .i64 x.f5
theorem opS_38 {H : Type} {enc : TypeId × Value → H} {w : World} {spare : Nat → Bool} {held : Bool} : Opn enc Try.prog w spare held 38 k38 IsQ38 :=
 Opn.struct (fun x : S38 => (x.f0, x.f1, x.f2, x.f3, x.f4, x.f5)) (fun p => (⟨p.1, p.2.1, p.2.2.1, p.2.2.2.1, p.2.2.2.2.1, p.2.2.2.2.2⟩ : S38)) (fun _ => rfl) Try.underlying38 (by kernel_rfl) (OpnF.cons rfl (by kernel_rfl) rfl opS_35 (OpnF.cons rfl (by kernel_rfl) rfl (Opn.slice 48 Try.underlying36 (by kernel_rfl) (by kernel_rfl) opS_234) (OpnF.cons rfl (by kernel_rfl) rfl (Opn.int .i64 Try.underlying2) (OpnF.cons rfl (by kernel_rfl) rfl (Opn.int .i64 Try.underlying2) (OpnF.cons rfl (by kernel_rfl) rfl (Opn.bool Try.underlying4) (OpnF.one rfl (by kernel_rfl) (Opn.int .i64 Try.underlying2)))))))
instance : Inhabited S275 := ⟨z275⟩
def IsQ275 (x : S275) : Prop := inK .i64 x.f0 ∧ (x.f1.length * 8 ≤ 140737488351232 ∧ ∀ x_ ∈ x.f1, inK .i64 x_) ∧ inK .i64 x.f2 ∧ inK .i64 x.f3 ∧ (x.f4.length * 8 ≤ 140737488351232 ∧ ∀ x_ ∈ x.f4, inK .i64 x_) ∧ (x.f5.length * 16 ≤ 140737488351232 ∧ ∀ x_ ∈ x.f5, x_.size ≤ 140737488351232)
theorem opS_275 {H : Type} {enc : TypeId × Value → H} {w : World} {spare : Nat → Bool} {held : Bool} : Opn enc Try.prog w spare held 275 k275 IsQ275 :=
 Opn.struct (fun x : S275 => (x.f0, x.f1, x.f2, x.f3, x.f4, x.f5)) (fun p => (⟨p.1, p.2.1, p.2.2.1, p.2.2.2.1, p.2.2.2.2.1, p.2.2.2.2.2⟩ : S275)) (fun _ => rfl) Try.underlying275 (by kernel_rfl) (OpnF.cons rfl (by kernel_rfl) rfl (Opn.int .i64 Try.underlying2) (OpnF.cons rfl (by kernel_rfl) rfl (Opn.slice 8 Try.underlying23 (by kernel_rfl) (by kernel_rfl) (Opn.int .i64 Try.underlying2)) (OpnF.cons rfl (by kernel_rfl) rfl (Opn.int .i64 Try.underlying2) (OpnF.cons rfl (by kernel_rfl) rfl (Opn.int .i64 Try.underlying2) (OpnF.cons rfl (by kernel_rfl) rfl (Opn.slice 8 Try.underlying23 (by kernel_rfl) (by kernel_rfl) (Opn.int .i64 Try.underlying2)) (OpnF.one rfl (by kernel_rfl) (Opn.slice 16 Try.underlying216 (by kernel_rfl) (by kernel_rfl) (Opn.string Try.underlying9))))))))
instance : Inhabited S121 := ⟨z121⟩
def IsQ121 (x : S121) : Prop := IsQ38 x.f0 ∧ (x.f1.length * 96 ≤ 140737488351232 ∧ ∀ x_ ∈ x.f1, IsQ275 x_)
theorem opS_121 {H : Type} {enc : TypeId × Value → H} {w : World} {spare : Nat → Bool} {held : Bool} : Opn enc Try.prog w spare held 121 k121 IsQ121 :=
 Opn.struct (fun x : S121 => (x.f0, x.f1)) (fun p => (⟨p.1, p.2⟩ : S121)) (fun _ => rfl) Try.underlying121 (by kernel_rfl) (OpnF.cons rfl (by kernel_rfl) rfl opS_38 (OpnF.one rfl (by kernel_rfl) (Opn.slice 96 Try.underlying119 (by kernel_rfl) (by kernel_rfl) opS_275)))
def laws_FnExactWearOfZone.Pure : Prop := ∀ (a0 : S121) (a1 : Int), IsQ121 a0 → inK .i64 a1 → ∃ k, laws_FnExactWearOfZone.f k a0.f0.f0.f0 a0.f0.f0.f1 a0.f0.f0.f2 a0.f0.f1 a0.f0.f2 a0.f0.f3 a0.f0.f4 a0.f0.f5 a0.f1 a1 = some true

end Go.Proofs.Ytokonpkecmnneaa.QFnExactWearOfZonex
