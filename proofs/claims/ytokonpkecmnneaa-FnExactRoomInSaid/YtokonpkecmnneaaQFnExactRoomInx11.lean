-- made by mp, a turned copy of the print: proofs of this session's
import Derived.Test.YtokonpkecmnneaaQFnExactRoomInx0
import Derived.Test.YtokonpkecmnneaaQFnExactRoomInx9
import Derived.Test.YtokonpkecmnneaaHk
namespace Go.Proofs.Ytokonpkecmnneaa.QFnExactRoomInx
open Go.RowKit Go.Proofs.YtokonpkecmnneaaW.PrintWords Go.Proofs.YtokonpkecmnneaaW.PrintLast Go.Proofs.YtokonpkecmnneaaW.PrintMore
open Go.Proofs.YtokonpkecmnneaaHw Go.Proofs.YtokonpkecmnneaaHo Go.Proofs.YtokonpkecmnneaaHm Go.Proofs.YtokonpkecmnneaaHk
attribute [local go_sem] binOp_leq_hw binOp_geq_hw binOp_gtr_hw
attribute [local go_sem] max2_int min2_int max_two min_two max_three min_three max_four min_four   -- for this text's walks alone
set_option linter.unusedVariables false
set_option linter.unusedSimpArgs false

/-! ### impl_Device_placesOk: function 268 -/
def impl_Device_placesOk.l0 : Nat → List Int → Int → Int → Int → Int → Int → List (S218) → Int → Int → Bool → Int → List (S276) → Option (Bool)
 | 0, _, _, _, _, _, _, _, _, _, _, _, _ => none
 | k + 1, x19, x20, x21, x1000, x1001, x1002, x1003, x1004, x1005, x1006, x1007, x1008 => if x21 < x20 then (if 0 ≤ x21 then (if x21 < (x19.length : Int) then ((impl_within.f (rd x19 x21) (wrap64 (x21 * x1001)) (wrap64 ((wrap64 ((wrap64 (x21 * x1001)) + x1001)) - 1))).bind fun t272 => (if t272 = true then (impl_Device_placesOk.l0 k x19 x20 (wrap64 (x21 + 1)) x1000 x1001 x1002 x1003 x1004 x1005 x1006 x1007 x1008) else (some false))) else (none)) else (none)) else (some true)
def impl_Device_placesOk.f (k : Nat) (a0_0 : Int) (a0_1 : Int) (a0_2 : Int) (l0_3 : List (S218)) (a0_4 : Int) (a0_5 : Int) (a0_6 : Bool) (a0_7 : Int) (l0_8 : List (S276)) (a1_0 : Int) (l1_1 : List Int) (a1_2 : Int) (a1_3 : Int) (l1_4 : List Int) (l1_5 : List ByteArray) : Option (Bool) := if (l1_1.length : Int) = a0_0 then (impl_Device_placesOk.l0 k l1_1 (l1_1.length : Int) 0 a0_0 a0_1 a0_2 l0_3 a0_4 a0_5 a0_6 a0_7 l0_8) else (some false)
theorem impl_Device_placesOk.mono_l : ∀ k, (∀ y0 y1 y2 y3 y4 y5 y6 y7 y8 y9 y10 y11, LeO (impl_Device_placesOk.l0 k y0 y1 y2 y3 y4 y5 y6 y7 y8 y9 y10 y11) (impl_Device_placesOk.l0 (k + 1) y0 y1 y2 y3 y4 y5 y6 y7 y8 y9 y10 y11))
 | 0 => fun _ _ _ _ _ _ _ _ _ _ _ _ r h => by simp [impl_Device_placesOk.l0] at h
 | k + 1 => by
  have ih0 := impl_Device_placesOk.mono_l k
  ·intro y0 y1 y2 y3 y4 y5 y6 y7 y8 y9 y10 y11
   unfold impl_Device_placesOk.l0
   repeat' first
   | (with_reducible exact ih0 _ _ _ _ _ _ _ _ _ _ _ _)
   | (with_reducible exact LeO.refl _)
   | (with_reducible exact LeO.none _)
   | (with_reducible refine LeO.ite ?_ ?_)
   | (with_reducible refine LeO.bind ?_ (fun _ => ?_))
   | exact ih0 _ _ _ _ _ _ _ _ _ _ _ _
   | exact LeO.none _
   | refine LeO.ite ?_ ?_
   | refine LeO.bind ?_ (fun _ => ?_)
theorem impl_Device_placesOk.mono : ∀ a0 a1 a2 a3 a4 a5 a6 a7 a8 a9 a10 a11 a12 a13 a14 k, LeO (impl_Device_placesOk.f k a0 a1 a2 a3 a4 a5 a6 a7 a8 a9 a10 a11 a12 a13 a14) (impl_Device_placesOk.f (k + 1) a0 a1 a2 a3 a4 a5 a6 a7 a8 a9 a10 a11 a12 a13 a14) := by
 intro a0 a1 a2 a3 a4 a5 a6 a7 a8 a9 a10 a11 a12 a13 a14 k
 have ih0 := impl_Device_placesOk.mono_l k
 unfold impl_Device_placesOk.f
 repeat' first
   | (with_reducible exact ih0 _ _ _ _ _ _ _ _ _ _ _ _)
   | (with_reducible exact LeO.refl _)
   | (with_reducible exact LeO.none _)
   | (with_reducible refine LeO.ite ?_ ?_)
   | (with_reducible refine LeO.bind ?_ (fun _ => ?_))
   | exact ih0 _ _ _ _ _ _ _ _ _ _ _ _
   | exact LeO.none _
   | refine LeO.ite ?_ ?_
   | refine LeO.bind ?_ (fun _ => ?_)
set_option maxHeartbeats 8000000 in
set_option maxRecDepth 100000 in
theorem impl_Device_placesOk.calls (k : Nat) (g0_ : Nat) (a0_0 : Int) (a0_1 : Int) (a0_2 : Int) (A0_3 : Option Addr) (c0_3 : Nat) (l0_3 : List (S218)) (a0_4 : Int) (a0_5 : Int) (a0_6 : Bool) (a0_7 : Int) (A0_8 : Option Addr) (c0_8 : Nat) (l0_8 : List (S276)) (a1_0 : Int) (A1_1 : Option Addr) (c1_1 : Nat) (l1_1 : List Int) (a1_2 : Int) (a1_3 : Int) (A1_4 : Option Addr) (c1_4 : Nat) (l1_4 : List Int) (A1_5 : Option Addr) (c1_5 : Nat) (l1_5 : List ByteArray) (r : Bool) (w : World) (hr0_3 : Kd.C k218 w A0_3 l0_3.length l0_3) (hc0_3 : l0_3.length ≤ c0_3) (hr0_8 : Kd.C k276 w A0_8 l0_8.length l0_8) (hc0_8 : l0_8.length ≤ c0_8) (hr1_1 : Kd.C (Kd.int .i64) w A1_1 l1_1.length l1_1) (hc1_1 : l1_1.length ≤ c1_1) (hr1_4 : Kd.C (Kd.int .i64) w A1_4 l1_4.length l1_4) (hc1_4 : l1_4.length ≤ c1_4) (hr1_5 : Kd.C Kd.string w A1_5 l1_5.length l1_5) (hc1_5 : l1_5.length ≤ c1_5) (hb0 : w.heap[g0_]? = some (.cells #[.int .i64 a0_0, .int .i64 a0_1, .int .i64 a0_2, .slice A0_3 l0_3.length c0_3, .int .i64 a0_4, .int .i64 a0_5, .bool a0_6, .int .i64 a0_7, .slice A0_8 l0_8.length c0_8] 126 (0, 0))) (h : impl_Device_placesOk.f k a0_0 a0_1 a0_2 l0_3 a0_4 a0_5 a0_6 a0_7 l0_8 a1_0 l1_1 a1_2 a1_3 l1_4 l1_5 = some r) :
  Calls Try.prog 268 #[.pointer (some ⟨g0_, 0, none⟩), .agg #[.int .i64 a1_0, .slice A1_1 l1_1.length c1_1, .int .i64 a1_2, .int .i64 a1_3, .slice A1_4 l1_4.length c1_4, .slice A1_5 l1_5.length c1_5]] w fun e w' => e = .returned (.bool r) ∧ Below w.heap.size w w' := by
 have hu276 := Try.underlying276
 have HR0_3 := Aside0.mk hr0_3
 have HC0_3 := Aside0.mk hc0_3
 clear hr0_3 hc0_3
 have HR0_8 := Aside0.mk hr0_8
 have HC0_8 := Aside0.mk hc0_8
 clear hr0_8 hc0_8
 have HR1_1 := Aside0.mk hr1_1
 have HC1_1 := Aside0.mk hc1_1
 clear hr1_1 hc1_1
 have HR1_4 := Aside0.mk hr1_4
 have HC1_4 := Aside0.mk hc1_4
 clear hr1_4 hc1_4
 have HR1_5 := Aside0.mk hr1_5
 have HC1_5 := Aside0.mk hc1_5
 clear hr1_5 hc1_5
 have BK0 := Aside0.mk hb0
 clear hb0
 have HB := Aside0.mk (Below.refl w.heap.size w)
 have H := h; unfold impl_Device_placesOk.f at H
 clear h
 by_cases c3 : (l1_1.length : Int) = a0_0
 ·rw [if_pos c3] at H
  have c3b0 : ((l1_1.length : Int) == a0_0) = true := beq_iff_eq.mpr c3
  have c3b1 : ((l1_1.length : Int) != a0_0) = false := bne_eq_false_iff_eq.mpr c3
  clear c3
  have H' := Aside0.mk H
  clear H
  go_enter Try.func268, Try.ntmps268
  go_wp2_with (first | ((with_reducible refine gate_dst (N := 3) rfl ?_); refine box_event ?hg (N := 3) ?hd (cs := #[.int .i64 a1_0, .slice A1_1 l1_1.length c1_1, .int .i64 a1_2, .int .i64 a1_3, .slice A1_4 l1_4.length c1_4, .slice A1_5 l1_5.length c1_5]) (t := 276) ?hr ?_; (case hd => rfl); (case hg => rfl); (case hr => first | (go_simp; done) | (go_simp; rfl)); intro gb270 hg w4 hbox hb; have BK270 := Aside0.mk (hbox); have GW270 := Aside0.mk ((by rw [hg]; exact (below_size (bw_ HB.out)) : w.heap.size ≤ gb270)); have GE270 := Nonempty.intro GW270.out; replace HB := Aside0.mk (below_step (bw_ HB.out) hb); have NB0_270 := Aside0.mk ((by rw [hg]; exact Nat.ne_of_lt (blk_lt (bk_ BK0.out)) : g0_ ≠ gb270)); have NB270_0 := Aside0.mk ((by rw [hg]; exact Nat.ne_of_gt (blk_lt (bk_ BK0.out)) : gb270 ≠ g0_)); replace BK0 := Aside0.mk (blk_below (bk_ BK0.out) hb); clear hb hbox hg; have hnb5 := NB270_0.out; have hnc5 := NB0_270.out; obtain ⟨hcz6_0, hcz6_1, hcz6_2, hcz6_3, hcz6_4, hcz6_5⟩ := cells6 BK270.out; obtain ⟨hfz6_0, hfz6_1, hfz6_2, hfz6_3, hfz6_4, hfz6_5⟩ := frozen6 BK270.out; obtain ⟨hcz7_0, hcz7_1, hcz7_2, hcz7_3, hcz7_4, hcz7_5, hcz7_6, hcz7_7, hcz7_8⟩ := cells9 BK0.out; obtain ⟨hfz7_0, hfz7_1, hfz7_2, hfz7_3, hfz7_4, hfz7_5, hfz7_6, hfz7_7, hfz7_8⟩ := frozen9 BK0.out))
  repeat (go_quiet (first | ((with_reducible refine gate_dst (N := 3) rfl ?_); refine box_event ?hg (N := 3) ?hd (cs := #[.int .i64 a1_0, .slice A1_1 l1_1.length c1_1, .int .i64 a1_2, .int .i64 a1_3, .slice A1_4 l1_4.length c1_4, .slice A1_5 l1_5.length c1_5]) (t := 276) ?hr ?_; (case hd => rfl); (case hg => rfl); (case hr => first | (go_simp; done) | (go_simp; rfl)); intro gb270 hg w4 hbox hb; have BK270 := Aside0.mk (hbox); have GW270 := Aside0.mk ((by rw [hg]; exact (below_size (bw_ HB.out)) : w.heap.size ≤ gb270)); have GE270 := Nonempty.intro GW270.out; replace HB := Aside0.mk (below_step (bw_ HB.out) hb); have NB0_270 := Aside0.mk ((by rw [hg]; exact Nat.ne_of_lt (blk_lt (bk_ BK0.out)) : g0_ ≠ gb270)); have NB270_0 := Aside0.mk ((by rw [hg]; exact Nat.ne_of_gt (blk_lt (bk_ BK0.out)) : gb270 ≠ g0_)); replace BK0 := Aside0.mk (blk_below (bk_ BK0.out) hb); clear hb hbox hg; have hnb5 := NB270_0.out; have hnc5 := NB0_270.out; obtain ⟨hcz6_0, hcz6_1, hcz6_2, hcz6_3, hcz6_4, hcz6_5⟩ := cells6 BK270.out; obtain ⟨hfz6_0, hfz6_1, hfz6_2, hfz6_3, hfz6_4, hfz6_5⟩ := frozen6 BK270.out; obtain ⟨hcz7_0, hcz7_1, hcz7_2, hcz7_3, hcz7_4, hcz7_5, hcz7_6, hcz7_7, hcz7_8⟩ := cells9 BK0.out; obtain ⟨hfz7_0, hfz7_1, hfz7_2, hfz7_3, hfz7_4, hfz7_5, hfz7_6, hfz7_7, hfz7_8⟩ := frozen9 BK0.out)); try go_wp2_with (first | ((with_reducible refine gate_dst (N := 3) rfl ?_); refine box_event ?hg (N := 3) ?hd (cs := #[.int .i64 a1_0, .slice A1_1 l1_1.length c1_1, .int .i64 a1_2, .int .i64 a1_3, .slice A1_4 l1_4.length c1_4, .slice A1_5 l1_5.length c1_5]) (t := 276) ?hr ?_; (case hd => rfl); (case hg => rfl); (case hr => first | (go_simp; done) | (go_simp; rfl)); intro gb270 hg w4 hbox hb; have BK270 := Aside0.mk (hbox); have GW270 := Aside0.mk ((by rw [hg]; exact (below_size (bw_ HB.out)) : w.heap.size ≤ gb270)); have GE270 := Nonempty.intro GW270.out; replace HB := Aside0.mk (below_step (bw_ HB.out) hb); have NB0_270 := Aside0.mk ((by rw [hg]; exact Nat.ne_of_lt (blk_lt (bk_ BK0.out)) : g0_ ≠ gb270)); have NB270_0 := Aside0.mk ((by rw [hg]; exact Nat.ne_of_gt (blk_lt (bk_ BK0.out)) : gb270 ≠ g0_)); replace BK0 := Aside0.mk (blk_below (bk_ BK0.out) hb); clear hb hbox hg; have hnb5 := NB270_0.out; have hnc5 := NB0_270.out; obtain ⟨hcz6_0, hcz6_1, hcz6_2, hcz6_3, hcz6_4, hcz6_5⟩ := cells6 BK270.out; obtain ⟨hfz6_0, hfz6_1, hfz6_2, hfz6_3, hfz6_4, hfz6_5⟩ := frozen6 BK270.out; obtain ⟨hcz7_0, hcz7_1, hcz7_2, hcz7_3, hcz7_4, hcz7_5, hcz7_6, hcz7_7, hcz7_8⟩ := cells9 BK0.out; obtain ⟨hfz7_0, hfz7_1, hfz7_2, hfz7_3, hfz7_4, hfz7_5, hfz7_6, hfz7_7, hfz7_8⟩ := frozen9 BK0.out)))
  go_loopg [21] k (fun kq v21 w' => ∃ (x21_1 : Int), v21 = .int .i64 x21_1 ∧ Aside0 (impl_Device_placesOk.l0 kq l1_1 (l1_1.length : Int) x21_1 a0_0 a0_1 a0_2 l0_3 a0_4 a0_5 a0_6 a0_7 l0_8 = some r) ∧ Aside0 (kq ≤ k) ∧ Aside0 (w'.heap[g0_]? = some (.cells #[.int .i64 a0_0, .int .i64 a0_1, .int .i64 a0_2, (.slice A0_3 l0_3.length c0_3), .int .i64 a0_4, .int .i64 a0_5, .bool a0_6, .int .i64 a0_7, (.slice A0_8 l0_8.length c0_8)] 126 (0, 0))) ∧ Aside0 (w'.heap[gb270]? = some (.cells #[.int .i64 a1_0, (.slice A1_1 l1_1.length c1_1), .int .i64 a1_2, .int .i64 a1_3, (.slice A1_4 l1_4.length c1_4), (.slice A1_5 l1_5.length c1_5)] 276 (0, 0))) ∧ Aside0 (Below w.heap.size w w'))
  case atStart => exact ⟨(0), (by first | rfl | (simp; done) | (simp [*]; done)), H', ⟨Nat.le_refl _⟩, ⟨bk_ BK0.out⟩, ⟨bk_ BK270.out⟩, ⟨bw_ HB.out⟩⟩
  case round =>
   clear H'
   obtain ⟨x21_1, rfl, HA, HK1, BK0, BK270, HB⟩ := hrel
   cases gk with
   | zero => exact absurd HA.out (by simp [impl_Device_placesOk.l0])
   | succ k1 =>
    have H := HA.out
    clear HA
    simp only [impl_Device_placesOk.l0] at H
    by_cases c8 : x21_1 < (l1_1.length : Int)
    ·rw [if_pos c8] at H
     have c8b0 : decide (x21_1 < (l1_1.length : Int)) = true := decide_eq_true c8
     clear c8
     by_cases c9 : 0 ≤ x21_1
     ·rw [if_pos c9] at H
      have c9b0 : decide (0 ≤ x21_1) = true := decide_eq_true c9
      clear c9
      by_cases c10 : x21_1 < (l1_1.length : Int)
      ·rw [if_pos c10] at H
       have c10b0 : decide (x21_1 < (l1_1.length : Int)) = true := decide_eq_true c10
       clear c10
       replace H := Option.bind_eq_some_iff.mp H
       obtain ⟨t272, A110, H⟩ := H
       have A11 := Aside0.mk A110
       clear A110
       by_cases c12 : t272 = true
       ·subst c12
        rw [if_pos rfl] at H
        have H' := Aside0.mk H
        clear H
        have p271 : 0 ≤ (x21_1 : Int) := of_decide_eq_true (by first | (with_reducible assumption) | assumption)
        have q271 : x21_1 < (l1_1.length : Int) := of_decide_eq_true (by first | (with_reducible assumption) | assumption)
        obtain ⟨ad271, e271, hx271_0⟩ := Kd.at_int HR1_1.out x21_1 p271 q271
        cases e271
        replace hx271_0 := (HB.out.cell (World.block_lt_of_cell? w _ hx271_0)).trans hx271_0
        replace p271 := eq_true p271
        replace q271 := eq_true q271
        have hnb13 := NB0_270.out
        have hnc13 := NB270_0.out
        obtain ⟨hcz14_0, hcz14_1, hcz14_2, hcz14_3, hcz14_4, hcz14_5, hcz14_6, hcz14_7, hcz14_8⟩ := cells9 BK0.out
        obtain ⟨hfz14_0, hfz14_1, hfz14_2, hfz14_3, hfz14_4, hfz14_5, hfz14_6, hfz14_7, hfz14_8⟩ := frozen9 BK0.out
        go_wp2_with (first | (go_at_call 154; (with_reducible refine (impl_within.calls (rd l1_1 x21_1) (wrap64 (x21_1 * a0_1)) (wrap64 ((wrap64 ((wrap64 (x21_1 * a0_1)) + a0_1)) - 1)) true _ A11.out).mono ?_); rintro e w' ⟨rfl, ⟨nd, rfl⟩⟩; (try first | exact ⟨rfl, _, World.drewN_drewN _ _ _⟩ | exact ⟨rfl, _, Eq.trans (World.drewN_drewN _ _ _) (congrArg (World.drewN _) (Nat.add_assoc _ _ _))⟩)))
        repeat (go_quiet (first | (go_at_call 154; (with_reducible refine (impl_within.calls (rd l1_1 x21_1) (wrap64 (x21_1 * a0_1)) (wrap64 ((wrap64 ((wrap64 (x21_1 * a0_1)) + a0_1)) - 1)) true _ A11.out).mono ?_); rintro e w' ⟨rfl, ⟨nd, rfl⟩⟩; (try first | exact ⟨rfl, _, World.drewN_drewN _ _ _⟩ | exact ⟨rfl, _, Eq.trans (World.drewN_drewN _ _ _) (congrArg (World.drewN _) (Nat.add_assoc _ _ _))⟩))); try go_wp2_with (first | (go_at_call 154; (with_reducible refine (impl_within.calls (rd l1_1 x21_1) (wrap64 (x21_1 * a0_1)) (wrap64 ((wrap64 ((wrap64 (x21_1 * a0_1)) + a0_1)) - 1)) true _ A11.out).mono ?_); rintro e w' ⟨rfl, ⟨nd, rfl⟩⟩; (try first | exact ⟨rfl, _, World.drewN_drewN _ _ _⟩ | exact ⟨rfl, _, Eq.trans (World.drewN_drewN _ _ _) (congrArg (World.drewN _) (Nat.add_assoc _ _ _))⟩))))
        go_roundg k1
        case measure => have := HK1.out; omega
        case rel => exact ⟨(wrap64 (x21_1 + 1)), (by first | rfl | (simp; done) | (simp [*]; done)), H', ⟨by have := HK1.out; omega⟩, ⟨bk_ BK0.out⟩, ⟨bk_ BK270.out⟩, ⟨bw_ HB.out⟩⟩
       replace c12 := Bool.eq_false_iff.mpr c12
       subst c12
       rw [if_neg (show ¬ (false = true) by decide)] at H
       obtain rfl := Option.some.inj H
       have p271 : 0 ≤ (x21_1 : Int) := of_decide_eq_true (by first | (with_reducible assumption) | assumption)
       have q271 : x21_1 < (l1_1.length : Int) := of_decide_eq_true (by first | (with_reducible assumption) | assumption)
       obtain ⟨ad271, e271, hx271_0⟩ := Kd.at_int HR1_1.out x21_1 p271 q271
       cases e271
       replace hx271_0 := (HB.out.cell (World.block_lt_of_cell? w _ hx271_0)).trans hx271_0
       replace p271 := eq_true p271
       replace q271 := eq_true q271
       have hnb15 := NB0_270.out
       have hnc15 := NB270_0.out
       obtain ⟨hcz16_0, hcz16_1, hcz16_2, hcz16_3, hcz16_4, hcz16_5, hcz16_6, hcz16_7, hcz16_8⟩ := cells9 BK0.out
       obtain ⟨hfz16_0, hfz16_1, hfz16_2, hfz16_3, hfz16_4, hfz16_5, hfz16_6, hfz16_7, hfz16_8⟩ := frozen9 BK0.out
       go_wp2_with (first | (go_at_call 154; (with_reducible refine (impl_within.calls (rd l1_1 x21_1) (wrap64 (x21_1 * a0_1)) (wrap64 ((wrap64 ((wrap64 (x21_1 * a0_1)) + a0_1)) - 1)) false _ A11.out).mono ?_); rintro e w' ⟨rfl, ⟨nd, rfl⟩⟩; (try first | exact ⟨rfl, _, World.drewN_drewN _ _ _⟩ | exact ⟨rfl, _, Eq.trans (World.drewN_drewN _ _ _) (congrArg (World.drewN _) (Nat.add_assoc _ _ _))⟩)))
       repeat (go_quiet (first | (go_at_call 154; (with_reducible refine (impl_within.calls (rd l1_1 x21_1) (wrap64 (x21_1 * a0_1)) (wrap64 ((wrap64 ((wrap64 (x21_1 * a0_1)) + a0_1)) - 1)) false _ A11.out).mono ?_); rintro e w' ⟨rfl, ⟨nd, rfl⟩⟩; (try first | exact ⟨rfl, _, World.drewN_drewN _ _ _⟩ | exact ⟨rfl, _, Eq.trans (World.drewN_drewN _ _ _) (congrArg (World.drewN _) (Nat.add_assoc _ _ _))⟩))); try go_wp2_with (first | (go_at_call 154; (with_reducible refine (impl_within.calls (rd l1_1 x21_1) (wrap64 (x21_1 * a0_1)) (wrap64 ((wrap64 ((wrap64 (x21_1 * a0_1)) + a0_1)) - 1)) false _ A11.out).mono ?_); rintro e w' ⟨rfl, ⟨nd, rfl⟩⟩; (try first | exact ⟨rfl, _, World.drewN_drewN _ _ _⟩ | exact ⟨rfl, _, Eq.trans (World.drewN_drewN _ _ _) (congrArg (World.drewN _) (Nat.add_assoc _ _ _))⟩))))
       go_ret
       exact ⟨by first | rfl | (simp [errW_none, errW_some] <;> rfl) | (simp [*, errW_none, errW_some] <;> rfl), bw_ HB.out⟩
      rw [if_neg c10] at H
      exact absurd H (by simp)
     rw [if_neg c9] at H
     exact absurd H (by simp)
    rw [if_neg c8] at H
    have c8b0 : decide (x21_1 < (l1_1.length : Int)) = false := decide_eq_false c8
    clear c8
    obtain rfl := Option.some.inj H
    go_wp2
    repeat (go_quiet (fail); try go_wp2)
    go_ret
    exact ⟨by first | rfl | (simp [errW_none, errW_some] <;> rfl) | (simp [*, errW_none, errW_some] <;> rfl), bw_ HB.out⟩
 rw [if_neg c3] at H
 have c3b0 : ((l1_1.length : Int) == a0_0) = false := beq_eq_false_iff_ne.mpr c3
 have c3b1 : ((l1_1.length : Int) != a0_0) = true := bne_iff_ne.mpr c3
 obtain rfl := Option.some.inj H
 go_enter Try.func268, Try.ntmps268
 go_wp2_with (first | ((with_reducible refine gate_dst (N := 3) rfl ?_); refine box_event ?hg (N := 3) ?hd (cs := #[.int .i64 a1_0, .slice A1_1 l1_1.length c1_1, .int .i64 a1_2, .int .i64 a1_3, .slice A1_4 l1_4.length c1_4, .slice A1_5 l1_5.length c1_5]) (t := 276) ?hr ?_; (case hd => rfl); (case hg => rfl); (case hr => first | (go_simp; done) | (go_simp; rfl)); intro gb270 hg w17 hbox hb; have BK270 := Aside0.mk (hbox); have GW270 := Aside0.mk ((by rw [hg]; exact (below_size (bw_ HB.out)) : w.heap.size ≤ gb270)); have GE270 := Nonempty.intro GW270.out; replace HB := Aside0.mk (below_step (bw_ HB.out) hb); have NB0_270 := Aside0.mk ((by rw [hg]; exact Nat.ne_of_lt (blk_lt (bk_ BK0.out)) : g0_ ≠ gb270)); have NB270_0 := Aside0.mk ((by rw [hg]; exact Nat.ne_of_gt (blk_lt (bk_ BK0.out)) : gb270 ≠ g0_)); replace BK0 := Aside0.mk (blk_below (bk_ BK0.out) hb); clear hb hbox hg; have hnb18 := NB270_0.out; have hnc18 := NB0_270.out; obtain ⟨hcz19_0, hcz19_1, hcz19_2, hcz19_3, hcz19_4, hcz19_5⟩ := cells6 BK270.out; obtain ⟨hfz19_0, hfz19_1, hfz19_2, hfz19_3, hfz19_4, hfz19_5⟩ := frozen6 BK270.out; obtain ⟨hcz20_0, hcz20_1, hcz20_2, hcz20_3, hcz20_4, hcz20_5, hcz20_6, hcz20_7, hcz20_8⟩ := cells9 BK0.out; obtain ⟨hfz20_0, hfz20_1, hfz20_2, hfz20_3, hfz20_4, hfz20_5, hfz20_6, hfz20_7, hfz20_8⟩ := frozen9 BK0.out))
 repeat (go_quiet (first | ((with_reducible refine gate_dst (N := 3) rfl ?_); refine box_event ?hg (N := 3) ?hd (cs := #[.int .i64 a1_0, .slice A1_1 l1_1.length c1_1, .int .i64 a1_2, .int .i64 a1_3, .slice A1_4 l1_4.length c1_4, .slice A1_5 l1_5.length c1_5]) (t := 276) ?hr ?_; (case hd => rfl); (case hg => rfl); (case hr => first | (go_simp; done) | (go_simp; rfl)); intro gb270 hg w17 hbox hb; have BK270 := Aside0.mk (hbox); have GW270 := Aside0.mk ((by rw [hg]; exact (below_size (bw_ HB.out)) : w.heap.size ≤ gb270)); have GE270 := Nonempty.intro GW270.out; replace HB := Aside0.mk (below_step (bw_ HB.out) hb); have NB0_270 := Aside0.mk ((by rw [hg]; exact Nat.ne_of_lt (blk_lt (bk_ BK0.out)) : g0_ ≠ gb270)); have NB270_0 := Aside0.mk ((by rw [hg]; exact Nat.ne_of_gt (blk_lt (bk_ BK0.out)) : gb270 ≠ g0_)); replace BK0 := Aside0.mk (blk_below (bk_ BK0.out) hb); clear hb hbox hg; have hnb18 := NB270_0.out; have hnc18 := NB0_270.out; obtain ⟨hcz19_0, hcz19_1, hcz19_2, hcz19_3, hcz19_4, hcz19_5⟩ := cells6 BK270.out; obtain ⟨hfz19_0, hfz19_1, hfz19_2, hfz19_3, hfz19_4, hfz19_5⟩ := frozen6 BK270.out; obtain ⟨hcz20_0, hcz20_1, hcz20_2, hcz20_3, hcz20_4, hcz20_5, hcz20_6, hcz20_7, hcz20_8⟩ := cells9 BK0.out; obtain ⟨hfz20_0, hfz20_1, hfz20_2, hfz20_3, hfz20_4, hfz20_5, hfz20_6, hfz20_7, hfz20_8⟩ := frozen9 BK0.out)); try go_wp2_with (first | ((with_reducible refine gate_dst (N := 3) rfl ?_); refine box_event ?hg (N := 3) ?hd (cs := #[.int .i64 a1_0, .slice A1_1 l1_1.length c1_1, .int .i64 a1_2, .int .i64 a1_3, .slice A1_4 l1_4.length c1_4, .slice A1_5 l1_5.length c1_5]) (t := 276) ?hr ?_; (case hd => rfl); (case hg => rfl); (case hr => first | (go_simp; done) | (go_simp; rfl)); intro gb270 hg w17 hbox hb; have BK270 := Aside0.mk (hbox); have GW270 := Aside0.mk ((by rw [hg]; exact (below_size (bw_ HB.out)) : w.heap.size ≤ gb270)); have GE270 := Nonempty.intro GW270.out; replace HB := Aside0.mk (below_step (bw_ HB.out) hb); have NB0_270 := Aside0.mk ((by rw [hg]; exact Nat.ne_of_lt (blk_lt (bk_ BK0.out)) : g0_ ≠ gb270)); have NB270_0 := Aside0.mk ((by rw [hg]; exact Nat.ne_of_gt (blk_lt (bk_ BK0.out)) : gb270 ≠ g0_)); replace BK0 := Aside0.mk (blk_below (bk_ BK0.out) hb); clear hb hbox hg; have hnb18 := NB270_0.out; have hnc18 := NB0_270.out; obtain ⟨hcz19_0, hcz19_1, hcz19_2, hcz19_3, hcz19_4, hcz19_5⟩ := cells6 BK270.out; obtain ⟨hfz19_0, hfz19_1, hfz19_2, hfz19_3, hfz19_4, hfz19_5⟩ := frozen6 BK270.out; obtain ⟨hcz20_0, hcz20_1, hcz20_2, hcz20_3, hcz20_4, hcz20_5, hcz20_6, hcz20_7, hcz20_8⟩ := cells9 BK0.out; obtain ⟨hfz20_0, hfz20_1, hfz20_2, hfz20_3, hfz20_4, hfz20_5, hfz20_6, hfz20_7, hfz20_8⟩ := frozen9 BK0.out)))
 go_ret
 exact ⟨by first | rfl | (simp [errW_none, errW_some] <;> rfl) | (simp [*, errW_none, errW_some] <;> rfl), bw_ HB.out⟩

-- NOT PRINTED: function 301 (slices_IndexFunc_int64_int64)

-- NOT PRINTED: function 274 (slices_ContainsFunc_int64_int64)

-- NOT PRINTED: function 275 (impl_allWithin_1)

/-! ### slices_IndexFunc_int64_int64: function 301 -/
set_option maxHeartbeats 2000000 in
set_option maxRecDepth 100000 in
theorem idx_301.calls (A0 : Option Addr) (c0 : Nat) (l0 : List Int) (g : Nat) (lb : Array Value) (p : Int → Option Bool) (r : Int) (w : World) (hr0 : Kd.C (Kd.int .i64) w A0 l0.length l0) (hc0 : l0.length ≤ c0) (eg : ∀ args w, (callFunc g args).run Try.prog w = .ok (.enter g args) w) (hp : ∀ (W : World) (x : Int) (b : Bool), Below w.heap.size w W → p x = some b → Calls Try.prog g (#[.int .i64 x] ++ lb) W fun e w' => e = .returned (.bool b) ∧ Below W.heap.size W w') (h : idxO p l0 0 = some r) :
  Calls Try.prog 301 #[.slice A0 l0.length c0, .func (.func g) #[] lb] w fun e w' => e = .returned (.int .i64 r) ∧ Below w.heap.size w w' := by
 have HR0 := Aside0.mk hr0
 have hbig : l0.length ≤ 9223372036854775807 := hr0.2.1
 have HP := Aside0.mk hp
 have H' := Aside0.mk h
 clear hr0 hc0 hp h
 go_enter Try.func301, Try.ntmps301
 go_wp2
 go_loopg [5, 8] l0.length (fun gg _ s8 wr => ∃ kk : Nat, kk ≤ l0.length ∧ l0.length - kk ≤ gg ∧ s8 = .int .i64 kk ∧ Aside0 (Below w.heap.size w wr) ∧ Aside0 (idxO p (l0.drop kk) kk = some r))
 case atStart => exact ⟨0, Nat.zero_le _, by omega, rfl, ⟨Below.refl _ w⟩, H'⟩
 case round =>
  clear H'
  obtain ⟨kk, hkk, hg, rfl, HB, HA⟩ := hrel
  by_cases hlt : kk < l0.length
  ·have h0 : (0 : Int) ≤ (kk : Int) := by omega
   have h1 : (kk : Int) < (l0.length : Int) := by omega
   obtain ⟨ad, e, hx_0⟩ := Kd.at_int HR0.out (kk : Int) h0 h1
   cases e
   replace hx_0 := (HB.out.cell (World.block_lt_of_cell? w _ hx_0)).trans hx_0
   have hd := idxO_drop p l0 kk hlt kk
   have hel : l0[kk] = rd l0 (kk : Int) := by simp [rd, hlt]
   rw [hd, hel] at HA
   clear hd hel
   have HD := Aside0.mk HA.out
   clear HA
   generalize hy : rd l0 (kk : Int) = y at *
   clear hy
   obtain ⟨b, hb, H2⟩ := Option.bind_eq_some_iff.mp HD.out
   have hcall := HP.out _ y b HB.out hb
   have HCL := Aside0.mk hcall
   have H3 := Aside0.mk H2
   clear H2 HD hb hcall
   (try simp only [Go.IntWalk.toNatUp] at hx_0)
   have h2 : kk < l0.length := hlt
   cases b with
   | true =>
    have H4 := H3.out
    rw [if_pos rfl] at H4
    obtain rfl := Option.some.inj H4
    clear H3
    go_wp2_with (go_at_fn g; refine HCL.out.mono ?_; rintro e w' ⟨rfl, hb'⟩)
    go_ret
    exact ⟨rfl, below_step HB.out hb'⟩
   | false =>
    have H4 := H3.out
    rw [if_neg (by simp)] at H4
    have HA := Aside0.mk H4
    clear H3 H4
    go_wp2_with (go_at_fn g; refine HCL.out.mono ?_; rintro e w' ⟨rfl, hb'⟩)
    go_roundg (l0.length - (kk + 1))
    case measure => omega
    case rel => exact ⟨kk + 1, by omega, by omega, by go_num, ⟨below_step HB.out hb'⟩, HA⟩
  have : kk = l0.length := by omega
  subst this
  have h3 := HA.out
  rw [List.drop_length] at h3
  have h4 := Option.some.inj h3
  subst h4
  clear h3
  have h2 : ¬ ((l0.length : Int) < (l0.length : Int)) := by omega
  go_wp2
  go_ret
  exact ⟨rfl, HB.out⟩

/-! ### slices_ContainsFunc_int64_int64: function 274 -/
set_option maxHeartbeats 1000000 in
set_option maxRecDepth 100000 in
theorem has_274.calls (A0 : Option Addr) (c0 : Nat) (l0 : List Int) (g : Nat) (lb : Array Value) (p : Int → Option Bool) (r : Bool) (w : World) (hr0 : Kd.C (Kd.int .i64) w A0 l0.length l0) (hc0 : l0.length ≤ c0) (eg : ∀ args w, (callFunc g args).run Try.prog w = .ok (.enter g args) w) (hp : ∀ (W : World) (x : Int) (b : Bool), Below w.heap.size w W → p x = some b → Calls Try.prog g (#[.int .i64 x] ++ lb) W fun e w' => e = .returned (.bool b) ∧ Below W.heap.size W w') (h : anyO p l0 = some r) :
  Calls Try.prog 274 #[.slice A0 l0.length c0, .func (.func g) #[] lb] w fun e w' => e = .returned (.bool r) ∧ Below w.heap.size w w' := by
 obtain ⟨j, hj, hr⟩ := anyO_idx p l0 0 r (by omega) h
 have hcall := idx_301.calls A0 c0 l0 g lb p j w hr0 hc0 eg hp hj
 have HJ := Aside0.mk hr
 clear hr0 hc0 eg hp h hj hr
 go_enter Try.func274, Try.ntmps274
 go_wp2_with (go_at_call 301; refine hcall.mono ?_; rintro e w' ⟨rfl, hb⟩)
 go_ret
 exact ⟨by rw [← HJ.out]; rfl, hb⟩

/-! ### hof_274_275: slices.ContainsFunc[[]int64,int64] at loop.example/g00905/impl.allWithin$1 -/
def hof_274_275.p (f0 : Int) (f1 : Int) (x : Int) : Option Bool := (impl_within.f x f0 f1).bind fun t => some (!t)
def hof_274_275.f (l0 : List Int) (f0 : Int) (f1 : Int) : Option Bool := anyO (hof_274_275.p f0 f1) l0
set_option maxHeartbeats 1000000 in
theorem hof_274_275.lit (x : Int) (gb0 : Nat) (f0 : Int) (gb1 : Nat) (f1 : Int) (b : Bool) (w : World) (hb0 : w.heap[gb0]? = some (.cells #[.int .i64 f0] 2 (0, 0))) (hb1 : w.heap[gb1]? = some (.cells #[.int .i64 f1] 2 (0, 0))) (h : hof_274_275.p f0 f1 x = some b) :
  Calls Try.prog 275 (#[.int .i64 x] ++ #[.pointer (some ⟨gb0, 0, none⟩), .pointer (some ⟨gb1, 0, none⟩)]) w fun e w' => e = .returned (.bool b) ∧ Below w.heap.size w w' := by
 show Calls Try.prog 275 #[.int .i64 x, .pointer (some ⟨gb0, 0, none⟩), .pointer (some ⟨gb1, 0, none⟩)] w _
 obtain ⟨b1, hq1, e1⟩ := Option.bind_eq_some_iff.mp h
 obtain rfl := Option.some.inj e1
 have h0 : w.cell? ⟨gb0, 0, none⟩ = some (.int .i64 f0) := (blk_cell hb0 0).trans rfl
 clear hb0
 have h1 : w.cell? ⟨gb1, 0, none⟩ = some (.int .i64 f1) := (blk_cell hb1 0).trans rfl
 clear hb1
 have H1 := Aside0.mk hq1
 clear h e1 hq1
 go_enter Try.func275, Try.ntmps275
 go_wp2_with (go_at_call 154; refine (impl_within.calls x f0 f1 b1 _ H1.out).mono ?_; rintro e w' ⟨rfl, ⟨nd, rfl⟩⟩)
 go_ret
 exact ⟨rfl, pw_below_drewN (Below.refl _ _) nd⟩
theorem hof_274_275.calls (A0 : Option Addr) (c0 : Nat) (l0 : List Int) (gb0 : Nat) (f0 : Int) (gb1 : Nat) (f1 : Int) (r : Bool) (w : World) (hr0 : Kd.C (Kd.int .i64) w A0 l0.length l0) (hc0 : l0.length ≤ c0) (hb0 : w.heap[gb0]? = some (.cells #[.int .i64 f0] 2 (0, 0))) (hb1 : w.heap[gb1]? = some (.cells #[.int .i64 f1] 2 (0, 0))) (h : hof_274_275.f l0 f0 f1 = some r) :
  Calls Try.prog 274 #[.slice A0 l0.length c0, .func (.func 275) #[] #[.pointer (some ⟨gb0, 0, none⟩), .pointer (some ⟨gb1, 0, none⟩)]] w fun e w' => e = .returned (.bool r) ∧ Below w.heap.size w w' :=
 has_274.calls A0 c0 l0 275 _ (hof_274_275.p f0 f1) r w hr0 hc0 (enters_of Try.func275 (by kernel_rfl) rfl) (fun W x b hB hp => hof_274_275.lit x gb0 f0 gb1 f1 b W (blk_below hb0 hB) (blk_below hb1 hB) hp) h

/-! ### impl_allWithin: function 195 -/
def impl_allWithin.f (l0 : List Int) (a1 : Int) (a2 : Int) : Option (Bool) := (hof_274_275.f l0 a1 a2).bind fun t275 => (some (!t275))
set_option maxHeartbeats 8000000 in
set_option maxRecDepth 100000 in
theorem impl_allWithin.calls (A0 : Option Addr) (c0 : Nat) (l0 : List Int) (a1 : Int) (a2 : Int) (r : Bool) (w : World) (hr0 : Kd.C (Kd.int .i64) w A0 l0.length l0) (hc0 : l0.length ≤ c0) (h : impl_allWithin.f l0 a1 a2 = some r) :
  Calls Try.prog 195 #[.slice A0 l0.length c0, .int .i64 a1, .int .i64 a2] w fun e w' => e = .returned (.bool r) ∧ Below w.heap.size w w' := by
 have HR0 := Aside0.mk hr0
 have HC0 := Aside0.mk hc0
 clear hr0 hc0
 have HB := Aside0.mk (Below.refl w.heap.size w)
 have H := h; unfold impl_allWithin.f at H
 clear h
 replace H := Option.bind_eq_some_iff.mp H
 obtain ⟨t275, A40, H⟩ := H
 have A4 := Aside0.mk A40
 clear A40
 obtain rfl := Option.some.inj H
 go_enter Try.func195, Try.ntmps195
 go_wp2_with (first | ((with_reducible refine gate_dst (N := 4) rfl ?_); refine box_event ?hg (N := 4) ?hd (cs := #[.int .i64 a1]) (t := 2) ?hr ?_; (case hd => rfl); (case hg => rfl); (case hr => first | (go_simp; done) | (go_simp; rfl)); intro gb273 hg w5 hbox hb; have BK273 := Aside0.mk (hbox); have GW273 := Aside0.mk ((by rw [hg]; exact (below_size (bw_ HB.out)) : w.heap.size ≤ gb273)); have GE273 := Nonempty.intro GW273.out; replace HB := Aside0.mk (below_step (bw_ HB.out) hb); clear hb hbox hg) | ((with_reducible refine gate_dst (N := 5) rfl ?_); refine box_event ?hg (N := 5) ?hd (cs := #[.int .i64 a2]) (t := 2) ?hr ?_; (case hd => rfl); (case hg => rfl); (case hr => first | (go_simp; done) | (go_simp; rfl)); intro gb274 hg w6 hbox hb; have BK274 := Aside0.mk (hbox); have GW274 := Aside0.mk ((by rw [hg]; exact (below_size (bw_ HB.out)) : w.heap.size ≤ gb274)); have GE274 := Nonempty.intro GW274.out; replace HB := Aside0.mk (below_step (bw_ HB.out) hb); have NB273_274 := Aside0.mk ((by rw [hg]; exact Nat.ne_of_lt (blk_lt (bk_ BK273.out)) : gb273 ≠ gb274)); have NB274_273 := Aside0.mk ((by rw [hg]; exact Nat.ne_of_gt (blk_lt (bk_ BK273.out)) : gb274 ≠ gb273)); replace BK273 := Aside0.mk (blk_below (bk_ BK273.out) hb); clear hb hbox hg) | ((with_reducible refine gate_callee (f := 274) rfl ?_); refine goesL_ (some 9) rfl rfl Try.func274 (by kernel_rfl) rfl #[.slice A0 l0.length c0, .func (.func 275) #[] #[.pointer (some ⟨gb273, 0, none⟩), .pointer (some ⟨gb274, 0, none⟩)]] rfl (by (try simp only [List.map_toArray, List.map_cons, List.map_nil]); first | done | rfl | (simp only [List.length_drop, List.length_take]; rfl)) ?_; (with_reducible refine (hof_274_275.calls _ _ l0 gb273 a1 gb274 a2 t275 _ ?side1 ?side2 ?side3 ?side4 A4.out).mono ?_); (case side1 => exact Kd.C_below HR0.out (bw_ HB.out)); (case side2 => exact HC0.out); (case side3 => (with_reducible repeat (first | refine blk_drewN ?_ _ | refine blk_drew ?_ | refine blk_alloc ?_ _)); exact BK273.out); (case side4 => (with_reducible repeat (first | refine blk_drewN ?_ _ | refine blk_drew ?_ | refine blk_alloc ?_ _)); exact BK274.out); rintro e w7 ⟨rfl, hb⟩; refine ⟨_, rfl, ?_⟩; replace BK273 := Aside0.mk (blk_below (bk_ BK273.out) hb); replace BK274 := Aside0.mk (blk_below (bk_ BK274.out) hb); replace HB := Aside0.mk (below_step (bw_ HB.out) hb); (try clear hb)))
 go_ret
 exact ⟨by first | rfl | (simp [errW_none, errW_some] <;> rfl) | (simp [*, errW_none, errW_some] <;> rfl), bw_ HB.out⟩

/-! ### impl_Device_units: function 271 -/
def impl_Device_units.f (a0_0 : Int) (a0_1 : Int) (a0_2 : Int) (l0_3 : List (S218)) (a0_4 : Int) (a0_5 : Int) (a0_6 : Bool) (a0_7 : Int) (l0_8 : List (S276)) : Option (Int) := some (wrap64 (a0_0 - 1))
set_option maxHeartbeats 8000000 in
set_option maxRecDepth 100000 in
theorem impl_Device_units.calls (g0_ : Nat) (a0_0 : Int) (a0_1 : Int) (a0_2 : Int) (A0_3 : Option Addr) (c0_3 : Nat) (l0_3 : List (S218)) (a0_4 : Int) (a0_5 : Int) (a0_6 : Bool) (a0_7 : Int) (A0_8 : Option Addr) (c0_8 : Nat) (l0_8 : List (S276)) (r : Int) (w : World) (hr0_3 : Kd.C k218 w A0_3 l0_3.length l0_3) (hc0_3 : l0_3.length ≤ c0_3) (hr0_8 : Kd.C k276 w A0_8 l0_8.length l0_8) (hc0_8 : l0_8.length ≤ c0_8) (hb0 : w.heap[g0_]? = some (.cells #[.int .i64 a0_0, .int .i64 a0_1, .int .i64 a0_2, .slice A0_3 l0_3.length c0_3, .int .i64 a0_4, .int .i64 a0_5, .bool a0_6, .int .i64 a0_7, .slice A0_8 l0_8.length c0_8] 126 (0, 0))) (h : impl_Device_units.f a0_0 a0_1 a0_2 l0_3 a0_4 a0_5 a0_6 a0_7 l0_8 = some r) :
  Calls Try.prog 271 #[.pointer (some ⟨g0_, 0, none⟩)] w fun e w' => e = .returned (.int .i64 r) ∧ Drawn0 w w' := by
 have HR0_3 := Aside0.mk hr0_3
 have HC0_3 := Aside0.mk hc0_3
 clear hr0_3 hc0_3
 have HR0_8 := Aside0.mk hr0_8
 have HC0_8 := Aside0.mk hc0_8
 clear hr0_8 hc0_8
 have BK0 := Aside0.mk hb0
 clear hb0
 have H := h; unfold impl_Device_units.f at H
 clear h
 obtain rfl := Option.some.inj H
 obtain ⟨hcz2_0, hcz2_1, hcz2_2, hcz2_3, hcz2_4, hcz2_5, hcz2_6, hcz2_7, hcz2_8⟩ := cells9 BK0.out
 obtain ⟨hfz2_0, hfz2_1, hfz2_2, hfz2_3, hfz2_4, hfz2_5, hfz2_6, hfz2_7, hfz2_8⟩ := frozen9 BK0.out
 go_enter Try.func271, Try.ntmps271
 go_wp2
 go_ret
 exact ⟨by first | rfl | (simp; done) | (simp [*]; done), by repeat (first | exact Drawn0.refl _ | apply Drawn0.step)⟩

/-! ### impl_total: function 307 -/
def impl_total.l0 : Nat → Int → List Int → Int → Int → Option (Int)
 | 0, _, _, _, _ => none
 | k + 1, x3, x6, x7, x8 => if x8 < x7 then (if 0 ≤ x8 then (if x8 < (x6.length : Int) then (impl_total.l0 k (wrap64 (x3 + (rd x6 x8))) x6 x7 (wrap64 (x8 + 1))) else (none)) else (none)) else (some x3)
def impl_total.f (k : Nat) (l0 : List Int) : Option (Int) := impl_total.l0 k 0 l0 (l0.length : Int) 0
theorem impl_total.mono_l : ∀ k, (∀ y0 y1 y2 y3, LeO (impl_total.l0 k y0 y1 y2 y3) (impl_total.l0 (k + 1) y0 y1 y2 y3))
 | 0 => fun _ _ _ _ r h => by simp [impl_total.l0] at h
 | k + 1 => by
  have ih0 := impl_total.mono_l k
  ·intro y0 y1 y2 y3
   unfold impl_total.l0
   repeat' first
   | (with_reducible exact ih0 _ _ _ _)
   | (with_reducible exact LeO.refl _)
   | (with_reducible exact LeO.none _)
   | (with_reducible refine LeO.ite ?_ ?_)
   | (with_reducible refine LeO.bind ?_ (fun _ => ?_))
   | exact ih0 _ _ _ _
   | exact LeO.none _
   | refine LeO.ite ?_ ?_
   | refine LeO.bind ?_ (fun _ => ?_)
theorem impl_total.mono : ∀ a0 k, LeO (impl_total.f k a0) (impl_total.f (k + 1) a0) := by
 intro a0 k
 have ih0 := impl_total.mono_l k
 unfold impl_total.f
 repeat' first
   | (with_reducible exact ih0 _ _ _ _)
   | (with_reducible exact LeO.refl _)
   | (with_reducible exact LeO.none _)
   | (with_reducible refine LeO.ite ?_ ?_)
   | (with_reducible refine LeO.bind ?_ (fun _ => ?_))
   | exact ih0 _ _ _ _
   | exact LeO.none _
   | refine LeO.ite ?_ ?_
   | refine LeO.bind ?_ (fun _ => ?_)
set_option maxHeartbeats 8000000 in
set_option maxRecDepth 100000 in
theorem impl_total.calls (k : Nat) (A0 : Option Addr) (c0 : Nat) (l0 : List Int) (r : Int) (w : World) (hr0 : Kd.C (Kd.int .i64) w A0 l0.length l0) (hc0 : l0.length ≤ c0) (h : impl_total.f k l0 = some r) :
  Calls Try.prog 307 #[.slice A0 l0.length c0] w fun e w' => e = .returned (.int .i64 r) ∧ Drawn0 w w' := by
 have HR0 := Aside0.mk hr0
 have HC0 := Aside0.mk hc0
 clear hr0 hc0
 have H := h; unfold impl_total.f at H
 clear h
 have H' := Aside0.mk H
 clear H
 go_enter Try.func307, Try.ntmps307
 go_wp2
 go_loopg [3, 8] k (fun kq v3 v8 w' => ∃ (x3_1 : Int) (x8_1 : Int), v3 = .int .i64 x3_1 ∧ v8 = .int .i64 x8_1 ∧ Aside0 (impl_total.l0 kq x3_1 l0 (l0.length : Int) x8_1 = some r) ∧ Aside0 (kq ≤ k) ∧ Drawn0 w w')
 case atStart => exact ⟨(0), (0), (by first | rfl | (simp; done) | (simp [*]; done)), (by first | rfl | (simp; done) | (simp [*]; done)), H', ⟨Nat.le_refl _⟩, by repeat (first | exact Drawn0.refl _ | apply Drawn0.step)⟩
 case round =>
  clear H'
  obtain ⟨x3_1, x8_1, rfl, rfl, HA, HK1, ⟨m1, rfl⟩⟩ := hrel
  cases gk with
  | zero => exact absurd HA.out (by simp [impl_total.l0])
  | succ k1 =>
   have H := HA.out
   clear HA
   simp only [impl_total.l0] at H
   by_cases c2 : x8_1 < (l0.length : Int)
   ·rw [if_pos c2] at H
    have c2b0 : decide (x8_1 < (l0.length : Int)) = true := decide_eq_true c2
    clear c2
    by_cases c3 : 0 ≤ x8_1
    ·rw [if_pos c3] at H
     have c3b0 : decide (0 ≤ x8_1) = true := decide_eq_true c3
     clear c3
     by_cases c4 : x8_1 < (l0.length : Int)
     ·rw [if_pos c4] at H
      have c4b0 : decide (x8_1 < (l0.length : Int)) = true := decide_eq_true c4
      clear c4
      have H' := Aside0.mk H
      clear H
      have p276 : 0 ≤ (x8_1 : Int) := of_decide_eq_true (by first | (with_reducible assumption) | assumption)
      have q276 : x8_1 < (l0.length : Int) := of_decide_eq_true (by first | (with_reducible assumption) | assumption)
      obtain ⟨ad276, e276, hx276_0⟩ := Kd.at_int HR0.out x8_1 p276 q276
      cases e276
      replace p276 := eq_true p276
      replace q276 := eq_true q276
      go_wp2
      go_roundg k1
      case measure => have := HK1.out; omega
      case rel => exact ⟨(wrap64 (x3_1 + (rd l0 x8_1))), (wrap64 (x8_1 + 1)), (by first | rfl | (simp; done) | (simp [*]; done)), (by first | rfl | (simp; done) | (simp [*]; done)), H', ⟨by have := HK1.out; omega⟩, by repeat (first | exact Drawn0.refl _ | apply Drawn0.step)⟩
     rw [if_neg c4] at H
     exact absurd H (by simp)
    rw [if_neg c3] at H
    exact absurd H (by simp)
   rw [if_neg c2] at H
   have c2b0 : decide (x8_1 < (l0.length : Int)) = false := decide_eq_false c2
   clear c2
   obtain rfl := Option.some.inj H
   go_wp2
   go_ret
   exact ⟨by first | rfl | (simp; done) | (simp [*]; done), by repeat (first | exact Drawn0.refl _ | apply Drawn0.step)⟩

-- NOT PRINTED: function 319 (slices_IndexFunc_string_string)

-- NOT PRINTED: function 308 (slices_ContainsFunc_string_string)

-- NOT PRINTED: function 309 (impl_Device_contentsOk_1)

/-! ### slices_IndexFunc_string_string: function 319 -/
set_option maxHeartbeats 2000000 in
set_option maxRecDepth 100000 in
theorem idx_319.calls (A0 : Option Addr) (c0 : Nat) (l0 : List ByteArray) (g : Nat) (lb : Array Value) (p : ByteArray → Option Bool) (r : Int) (w : World) (hr0 : Kd.C Kd.string w A0 l0.length l0) (hc0 : l0.length ≤ c0) (eg : ∀ args w, (callFunc g args).run Try.prog w = .ok (.enter g args) w) (hp : ∀ (W : World) (x : ByteArray) (b : Bool), Below w.heap.size w W → p x = some b → Calls Try.prog g (#[.string x] ++ lb) W fun e w' => e = .returned (.bool b) ∧ Below W.heap.size W w') (h : idxO p l0 0 = some r) :
  Calls Try.prog 319 #[.slice A0 l0.length c0, .func (.func g) #[] lb] w fun e w' => e = .returned (.int .i64 r) ∧ Below w.heap.size w w' := by
 have HR0 := Aside0.mk hr0
 have hbig : l0.length ≤ 9223372036854775807 := hr0.2.1
 have HP := Aside0.mk hp
 have H' := Aside0.mk h
 clear hr0 hc0 hp h
 go_enter Try.func319, Try.ntmps319
 go_wp2
 go_loopg [5, 8] l0.length (fun gg _ s8 wr => ∃ kk : Nat, kk ≤ l0.length ∧ l0.length - kk ≤ gg ∧ s8 = .int .i64 kk ∧ Aside0 (Below w.heap.size w wr) ∧ Aside0 (idxO p (l0.drop kk) kk = some r))
 case atStart => exact ⟨0, Nat.zero_le _, by omega, rfl, ⟨Below.refl _ w⟩, H'⟩
 case round =>
  clear H'
  obtain ⟨kk, hkk, hg, rfl, HB, HA⟩ := hrel
  by_cases hlt : kk < l0.length
  ·have h0 : (0 : Int) ≤ (kk : Int) := by omega
   have h1 : (kk : Int) < (l0.length : Int) := by omega
   obtain ⟨ad, e, hx_0⟩ := Kd.at_string HR0.out (kk : Int) h0 h1
   cases e
   replace hx_0 := (HB.out.cell (World.block_lt_of_cell? w _ hx_0)).trans hx_0
   have hd := idxO_drop p l0 kk hlt kk
   have hel : l0[kk] = rdOf ByteArray.empty l0 (kk : Int) := by simp [rdOf, hlt]
   rw [hd, hel] at HA
   clear hd hel
   have HD := Aside0.mk HA.out
   clear HA
   generalize hy : rdOf ByteArray.empty l0 (kk : Int) = y at *
   clear hy
   obtain ⟨b, hb, H2⟩ := Option.bind_eq_some_iff.mp HD.out
   have hcall := HP.out _ y b HB.out hb
   have HCL := Aside0.mk hcall
   have H3 := Aside0.mk H2
   clear H2 HD hb hcall
   (try simp only [Go.IntWalk.toNatUp] at hx_0)
   have h2 : kk < l0.length := hlt
   cases b with
   | true =>
    have H4 := H3.out
    rw [if_pos rfl] at H4
    obtain rfl := Option.some.inj H4
    clear H3
    go_wp2_with (go_at_fn g; refine HCL.out.mono ?_; rintro e w' ⟨rfl, hb'⟩)
    go_ret
    exact ⟨rfl, below_step HB.out hb'⟩
   | false =>
    have H4 := H3.out
    rw [if_neg (by simp)] at H4
    have HA := Aside0.mk H4
    clear H3 H4
    go_wp2_with (go_at_fn g; refine HCL.out.mono ?_; rintro e w' ⟨rfl, hb'⟩)
    go_roundg (l0.length - (kk + 1))
    case measure => omega
    case rel => exact ⟨kk + 1, by omega, by omega, by go_num, ⟨below_step HB.out hb'⟩, HA⟩
  have : kk = l0.length := by omega
  subst this
  have h3 := HA.out
  rw [List.drop_length] at h3
  have h4 := Option.some.inj h3
  subst h4
  clear h3
  have h2 : ¬ ((l0.length : Int) < (l0.length : Int)) := by omega
  go_wp2
  go_ret
  exact ⟨rfl, HB.out⟩

/-! ### slices_ContainsFunc_string_string: function 308 -/
set_option maxHeartbeats 1000000 in
set_option maxRecDepth 100000 in
theorem has_308.calls (A0 : Option Addr) (c0 : Nat) (l0 : List ByteArray) (g : Nat) (lb : Array Value) (p : ByteArray → Option Bool) (r : Bool) (w : World) (hr0 : Kd.C Kd.string w A0 l0.length l0) (hc0 : l0.length ≤ c0) (eg : ∀ args w, (callFunc g args).run Try.prog w = .ok (.enter g args) w) (hp : ∀ (W : World) (x : ByteArray) (b : Bool), Below w.heap.size w W → p x = some b → Calls Try.prog g (#[.string x] ++ lb) W fun e w' => e = .returned (.bool b) ∧ Below W.heap.size W w') (h : anyO p l0 = some r) :
  Calls Try.prog 308 #[.slice A0 l0.length c0, .func (.func g) #[] lb] w fun e w' => e = .returned (.bool r) ∧ Below w.heap.size w w' := by
 obtain ⟨j, hj, hr⟩ := anyO_idx p l0 0 r (by omega) h
 have hcall := idx_319.calls A0 c0 l0 g lb p j w hr0 hc0 eg hp hj
 have HJ := Aside0.mk hr
 clear hr0 hc0 eg hp h hj hr
 go_enter Try.func308, Try.ntmps308
 go_wp2_with (go_at_call 319; refine hcall.mono ?_; rintro e w' ⟨rfl, hb⟩)
 go_ret
 exact ⟨by rw [← HJ.out]; rfl, hb⟩

/-! ### hof_308_309: slices.ContainsFunc[[]string,string] at (*loop.example/g00905/impl.Device).contentsOk$1 -/
def hof_308_309.p (x : ByteArray) : Option Bool := some (decide (64 < (x.size : Int)))
def hof_308_309.f (l0 : List ByteArray) : Option Bool := anyO hof_308_309.p l0
theorem hof_308_309.lit (x : ByteArray) (b : Bool) (w : World) (h : hof_308_309.p x = some b) :
  Calls Try.prog 309 (#[.string x] ++ #[]) w fun e w' => e = .returned (.bool b) ∧ Below w.heap.size w w' := by
 show Calls Try.prog 309 #[.string x] w _
 obtain rfl := Option.some.inj h
 clear h
 go_enter Try.func309, Try.ntmps309
 go_wp2
 go_ret
 exact ⟨rfl, Below.refl _ _⟩
theorem hof_308_309.calls (A0 : Option Addr) (c0 : Nat) (l0 : List ByteArray) (r : Bool) (w : World) (hr0 : Kd.C Kd.string w A0 l0.length l0) (hc0 : l0.length ≤ c0) (h : hof_308_309.f l0 = some r) :
  Calls Try.prog 308 #[.slice A0 l0.length c0, .func (.func 309) #[] #[]] w fun e w' => e = .returned (.bool r) ∧ Below w.heap.size w w' :=
 has_308.calls A0 c0 l0 309 _ hof_308_309.p r w hr0 hc0 (enters_of Try.func309 (by kernel_rfl) rfl) (fun W x b hB hp => hof_308_309.lit x b W hp) h

end Go.Proofs.Ytokonpkecmnneaa.QFnExactRoomInx
