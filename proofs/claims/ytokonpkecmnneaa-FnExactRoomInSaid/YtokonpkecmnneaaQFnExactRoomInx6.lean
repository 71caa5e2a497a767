-- made by mp, a turned copy of the print: proofs of this session's
import Derived.Test.YtokonpkecmnneaaQFnExactRoomInx0
import Derived.Test.YtokonpkecmnneaaHk
namespace Go.Proofs.Ytokonpkecmnneaa.QFnExactRoomInx
open Go.RowKit Go.Proofs.YtokonpkecmnneaaW.PrintWords Go.Proofs.YtokonpkecmnneaaW.PrintLast Go.Proofs.YtokonpkecmnneaaW.PrintMore
open Go.Proofs.YtokonpkecmnneaaHw Go.Proofs.YtokonpkecmnneaaHo Go.Proofs.YtokonpkecmnneaaHm Go.Proofs.YtokonpkecmnneaaHk
attribute [local go_sem] binOp_leq_hw binOp_geq_hw binOp_gtr_hw
attribute [local go_sem] max2_int min2_int max_two min_two max_three min_three max_four min_four   -- for this text's walks alone
set_option linter.unusedVariables false
set_option linter.unusedSimpArgs false

/-! ### spec_l16State: function 266 -/
mutual
def spec_l16State.j0 : Nat → Int → Int → Int → Int → List (S218) → Int → Int → Bool → Int → Int → List Int → Int → Int → List Int → List ByteArray → Option (Bool)
 | 0, _, _, _, _, _, _, _, _, _, _, _, _, _, _, _ => none
 | k + 1, x5, x143000, x143001, x143002, x143003, x143004, x143005, x143006, x143007, x144000, x144001, x144002, x144003, x144004, x144005 => spec_l16State.l0 k x5 0 x143000 x143001 x143002 x143003 x143004 x143005 x143006 x143007 x144000 x144001 x144002 x144003 x144004 x144005
def spec_l16State.l0 : Nat → Int → Int → Int → Int → Int → List (S218) → Int → Int → Bool → Int → Int → List Int → Int → Int → List Int → List ByteArray → Option (Bool)
 | 0, _, _, _, _, _, _, _, _, _, _, _, _, _, _, _, _ => none
 | k + 1, x5, x6, x143000, x143001, x143002, x143003, x143004, x143005, x143006, x143007, x144000, x144001, x144002, x144003, x144004, x144005 => if x6 < (x144001.length : Int) then (if 0 ≤ x6 then (if 0 ≤ (rd x144001 x6) then (if (rd x144001 x6) < (x143003.length : Int) then (if ((rd_T218 x143003 (rd x144001 x6)).f1) = x5 then (spec_l16State.l0 k x5 (wrap64 (x6 + 1)) x143000 x143001 x143002 x143003 x143004 x143005 x143006 x143007 x144000 x144001 x144002 x144003 x144004 x144005) else (some false)) else (none)) else (none)) else (none)) else (some true)
end
def spec_l16State.f (k : Nat) (a0_0 : Int) (a0_1 : Int) (a0_2 : Int) (l0_3 : List (S218)) (a0_4 : Int) (a0_5 : Int) (a0_6 : Bool) (a0_7 : Int) (a1_0 : Int) (l1_1 : List Int) (a1_2 : Int) (a1_3 : Int) (l1_4 : List Int) (l1_5 : List ByteArray) : Option (Bool) := if a1_0 = 3 then (some ((l1_5.length : Int) == 0)) else (if a1_0 = 4 then (if (l1_4.length : Int) = 0 then (some ((l1_5.length : Int) == 0)) else (some false)) else (if a1_0 = 1 then (if (l1_4.length : Int) > 0 then (some false) else (if (l1_5.length : Int) > 0 then (some false) else (spec_l16State.j0 k (l1_4.length : Int) a0_0 a0_1 a0_2 l0_3 a0_4 a0_5 a0_6 a0_7 a1_0 l1_1 a1_2 a1_3 l1_4 l1_5))) else (if a1_0 = 2 then (if (l1_4.length : Int) = 0 then (if (l1_5.length : Int) = 0 then (some false) else (if (l1_4.length : Int) ≥ a0_2 then (some false) else (spec_l16State.j0 k (l1_4.length : Int) a0_0 a0_1 a0_2 l0_3 a0_4 a0_5 a0_6 a0_7 a1_0 l1_1 a1_2 a1_3 l1_4 l1_5))) else (if (l1_4.length : Int) ≥ a0_2 then (some false) else (spec_l16State.j0 k (l1_4.length : Int) a0_0 a0_1 a0_2 l0_3 a0_4 a0_5 a0_6 a0_7 a1_0 l1_1 a1_2 a1_3 l1_4 l1_5))) else (some false))))
theorem spec_l16State.mono_l : ∀ k, (∀ y0 y1 y2 y3 y4 y5 y6 y7 y8 y9 y10 y11 y12 y13 y14, LeO (spec_l16State.j0 k y0 y1 y2 y3 y4 y5 y6 y7 y8 y9 y10 y11 y12 y13 y14) (spec_l16State.j0 (k + 1) y0 y1 y2 y3 y4 y5 y6 y7 y8 y9 y10 y11 y12 y13 y14)) ∧ (∀ y0 y1 y2 y3 y4 y5 y6 y7 y8 y9 y10 y11 y12 y13 y14 y15, LeO (spec_l16State.l0 k y0 y1 y2 y3 y4 y5 y6 y7 y8 y9 y10 y11 y12 y13 y14 y15) (spec_l16State.l0 (k + 1) y0 y1 y2 y3 y4 y5 y6 y7 y8 y9 y10 y11 y12 y13 y14 y15))
 | 0 => ⟨fun _ _ _ _ _ _ _ _ _ _ _ _ _ _ _ r h => by simp [spec_l16State.j0] at h, fun _ _ _ _ _ _ _ _ _ _ _ _ _ _ _ _ r h => by simp [spec_l16State.l0] at h⟩
 | k + 1 => by
  obtain ⟨ih0, ih1⟩ := spec_l16State.mono_l k
  refine ⟨?_, ?_⟩
  ·intro y0 y1 y2 y3 y4 y5 y6 y7 y8 y9 y10 y11 y12 y13 y14
   unfold spec_l16State.j0
   repeat' first
   | (with_reducible exact ih0 _ _ _ _ _ _ _ _ _ _ _ _ _ _ _)
   | (with_reducible exact ih1 _ _ _ _ _ _ _ _ _ _ _ _ _ _ _ _)
   | (with_reducible exact LeO.refl _)
   | (with_reducible exact LeO.none _)
   | (with_reducible refine LeO.ite ?_ ?_)
   | (with_reducible refine LeO.bind ?_ (fun _ => ?_))
   | exact ih0 _ _ _ _ _ _ _ _ _ _ _ _ _ _ _
   | exact ih1 _ _ _ _ _ _ _ _ _ _ _ _ _ _ _ _
   | exact LeO.none _
   | refine LeO.ite ?_ ?_
   | refine LeO.bind ?_ (fun _ => ?_)
  ·intro y0 y1 y2 y3 y4 y5 y6 y7 y8 y9 y10 y11 y12 y13 y14 y15
   unfold spec_l16State.l0
   repeat' first
   | (with_reducible exact ih0 _ _ _ _ _ _ _ _ _ _ _ _ _ _ _)
   | (with_reducible exact ih1 _ _ _ _ _ _ _ _ _ _ _ _ _ _ _ _)
   | (with_reducible exact LeO.refl _)
   | (with_reducible exact LeO.none _)
   | (with_reducible refine LeO.ite ?_ ?_)
   | (with_reducible refine LeO.bind ?_ (fun _ => ?_))
   | exact ih0 _ _ _ _ _ _ _ _ _ _ _ _ _ _ _
   | exact ih1 _ _ _ _ _ _ _ _ _ _ _ _ _ _ _ _
   | exact LeO.none _
   | refine LeO.ite ?_ ?_
   | refine LeO.bind ?_ (fun _ => ?_)
theorem spec_l16State.mono : ∀ a0 a1 a2 a3 a4 a5 a6 a7 a8 a9 a10 a11 a12 a13 k, LeO (spec_l16State.f k a0 a1 a2 a3 a4 a5 a6 a7 a8 a9 a10 a11 a12 a13) (spec_l16State.f (k + 1) a0 a1 a2 a3 a4 a5 a6 a7 a8 a9 a10 a11 a12 a13) := by
 intro a0 a1 a2 a3 a4 a5 a6 a7 a8 a9 a10 a11 a12 a13 k
 obtain ⟨ih0, ih1⟩ := spec_l16State.mono_l k
 unfold spec_l16State.f
 repeat' first
   | (with_reducible exact ih0 _ _ _ _ _ _ _ _ _ _ _ _ _ _ _)
   | (with_reducible exact ih1 _ _ _ _ _ _ _ _ _ _ _ _ _ _ _ _)
   | (with_reducible exact LeO.refl _)
   | (with_reducible exact LeO.none _)
   | (with_reducible refine LeO.ite ?_ ?_)
   | (with_reducible refine LeO.bind ?_ (fun _ => ?_))
   | exact ih0 _ _ _ _ _ _ _ _ _ _ _ _ _ _ _
   | exact ih1 _ _ _ _ _ _ _ _ _ _ _ _ _ _ _ _
   | exact LeO.none _
   | refine LeO.ite ?_ ?_
   | refine LeO.bind ?_ (fun _ => ?_)
set_option maxHeartbeats 8000000 in
set_option maxRecDepth 100000 in
theorem spec_l16State.calls (k : Nat) (a0_0 : Int) (a0_1 : Int) (a0_2 : Int) (A0_3 : Option Addr) (c0_3 : Nat) (l0_3 : List (S218)) (a0_4 : Int) (a0_5 : Int) (a0_6 : Bool) (a0_7 : Int) (a1_0 : Int) (A1_1 : Option Addr) (c1_1 : Nat) (l1_1 : List Int) (a1_2 : Int) (a1_3 : Int) (A1_4 : Option Addr) (c1_4 : Nat) (l1_4 : List Int) (A1_5 : Option Addr) (c1_5 : Nat) (l1_5 : List ByteArray) (r : Bool) (w : World) (hr0_3 : Kd.C k218 w A0_3 l0_3.length l0_3) (hc0_3 : l0_3.length ≤ c0_3) (hr1_1 : Kd.C (Kd.int .i64) w A1_1 l1_1.length l1_1) (hc1_1 : l1_1.length ≤ c1_1) (hr1_4 : Kd.C (Kd.int .i64) w A1_4 l1_4.length l1_4) (hc1_4 : l1_4.length ≤ c1_4) (hr1_5 : Kd.C Kd.string w A1_5 l1_5.length l1_5) (hc1_5 : l1_5.length ≤ c1_5) (h : spec_l16State.f k a0_0 a0_1 a0_2 l0_3 a0_4 a0_5 a0_6 a0_7 a1_0 l1_1 a1_2 a1_3 l1_4 l1_5 = some r) :
  Calls Try.prog 266 #[.agg #[.int .i64 a0_0, .int .i64 a0_1, .int .i64 a0_2, .slice A0_3 l0_3.length c0_3, .int .i64 a0_4, .int .i64 a0_5, .bool a0_6, .int .i64 a0_7], .agg #[.int .i64 a1_0, .slice A1_1 l1_1.length c1_1, .int .i64 a1_2, .int .i64 a1_3, .slice A1_4 l1_4.length c1_4, .slice A1_5 l1_5.length c1_5]] w fun e w' => e = .returned (.bool r) ∧ Below w.heap.size w w' := by
 have hu45 := Try.underlying45
 have hu276 := Try.underlying276
 have HR0_3 := Aside0.mk hr0_3
 have HC0_3 := Aside0.mk hc0_3
 clear hr0_3 hc0_3
 have HR1_1 := Aside0.mk hr1_1
 have HC1_1 := Aside0.mk hc1_1
 clear hr1_1 hc1_1
 have HR1_4 := Aside0.mk hr1_4
 have HC1_4 := Aside0.mk hc1_4
 clear hr1_4 hc1_4
 have HR1_5 := Aside0.mk hr1_5
 have HC1_5 := Aside0.mk hc1_5
 clear hr1_5 hc1_5
 have HB := Aside0.mk (Below.refl w.heap.size w)
 have H := h; unfold spec_l16State.f at H
 clear h
 have HC3 := Aside0.mk H
 clear H
 go_enter Try.func266, Try.ntmps266
 go_upto_block 0 with (first | ((with_reducible refine gate_dst (N := 2) rfl ?_); (try (refine gate_guard (by rfl) ?_; dsimp only)); refine box_event ?hg (N := 2) ?hd (cs := #[.int .i64 a0_0, .int .i64 a0_1, .int .i64 a0_2, .slice A0_3 l0_3.length c0_3, .int .i64 a0_4, .int .i64 a0_5, .bool a0_6, .int .i64 a0_7]) (t := 45) ?hr ?_; (case hd => rfl); (case hg => rfl); (case hr => first | (go_simp; done) | (go_simp; rfl)); intro gb142 hg w4 hbox hb; have BK142 := Aside0.mk (hbox); have GW142 := Aside0.mk ((by rw [hg]; exact (below_size (bw_ HB.out)) : w.heap.size ≤ gb142)); have GE142 := Nonempty.intro GW142.out; replace HB := Aside0.mk (below_step (bw_ HB.out) hb); clear hb hbox hg) | ((with_reducible refine gate_dst (N := 3) rfl ?_); (try (refine gate_guard (by rfl) ?_; dsimp only)); refine box_event ?hg (N := 3) ?hd (cs := #[.int .i64 a1_0, .slice A1_1 l1_1.length c1_1, .int .i64 a1_2, .int .i64 a1_3, .slice A1_4 l1_4.length c1_4, .slice A1_5 l1_5.length c1_5]) (t := 276) ?hr ?_; (case hd => rfl); (case hg => rfl); (case hr => first | (go_simp; done) | (go_simp; rfl)); intro gb143 hg w5 hbox hb; have BK143 := Aside0.mk (hbox); have GW143 := Aside0.mk ((by rw [hg]; exact (below_size (bw_ HB.out)) : w.heap.size ≤ gb143)); have GE143 := Nonempty.intro GW143.out; replace HB := Aside0.mk (below_step (bw_ HB.out) hb); have NB142_143 := Aside0.mk ((by rw [hg]; exact Nat.ne_of_lt (blk_lt (bk_ BK142.out)) : gb142 ≠ gb143)); have NB143_142 := Aside0.mk ((by rw [hg]; exact Nat.ne_of_gt (blk_lt (bk_ BK142.out)) : gb143 ≠ gb142)); replace BK142 := Aside0.mk (blk_below (bk_ BK142.out) hb); clear hb hbox hg; have hnb6 := NB143_142.out; have hnc6 := NB142_143.out; obtain ⟨hcz7_0, hcz7_1, hcz7_2, hcz7_3, hcz7_4, hcz7_5⟩ := cells6 BK143.out; obtain ⟨hfz7_0, hfz7_1, hfz7_2, hfz7_3, hfz7_4, hfz7_5⟩ := frozen6 BK143.out))
 repeat (go_quiet (first | ((with_reducible refine gate_dst (N := 2) rfl ?_); (try (refine gate_guard (by rfl) ?_; dsimp only)); refine box_event ?hg (N := 2) ?hd (cs := #[.int .i64 a0_0, .int .i64 a0_1, .int .i64 a0_2, .slice A0_3 l0_3.length c0_3, .int .i64 a0_4, .int .i64 a0_5, .bool a0_6, .int .i64 a0_7]) (t := 45) ?hr ?_; (case hd => rfl); (case hg => rfl); (case hr => first | (go_simp; done) | (go_simp; rfl)); intro gb142 hg w4 hbox hb; have BK142 := Aside0.mk (hbox); have GW142 := Aside0.mk ((by rw [hg]; exact (below_size (bw_ HB.out)) : w.heap.size ≤ gb142)); have GE142 := Nonempty.intro GW142.out; replace HB := Aside0.mk (below_step (bw_ HB.out) hb); clear hb hbox hg) | ((with_reducible refine gate_dst (N := 3) rfl ?_); (try (refine gate_guard (by rfl) ?_; dsimp only)); refine box_event ?hg (N := 3) ?hd (cs := #[.int .i64 a1_0, .slice A1_1 l1_1.length c1_1, .int .i64 a1_2, .int .i64 a1_3, .slice A1_4 l1_4.length c1_4, .slice A1_5 l1_5.length c1_5]) (t := 276) ?hr ?_; (case hd => rfl); (case hg => rfl); (case hr => first | (go_simp; done) | (go_simp; rfl)); intro gb143 hg w5 hbox hb; have BK143 := Aside0.mk (hbox); have GW143 := Aside0.mk ((by rw [hg]; exact (below_size (bw_ HB.out)) : w.heap.size ≤ gb143)); have GE143 := Nonempty.intro GW143.out; replace HB := Aside0.mk (below_step (bw_ HB.out) hb); have NB142_143 := Aside0.mk ((by rw [hg]; exact Nat.ne_of_lt (blk_lt (bk_ BK142.out)) : gb142 ≠ gb143)); have NB143_142 := Aside0.mk ((by rw [hg]; exact Nat.ne_of_gt (blk_lt (bk_ BK142.out)) : gb143 ≠ gb142)); replace BK142 := Aside0.mk (blk_below (bk_ BK142.out) hb); clear hb hbox hg; have hnb6 := NB143_142.out; have hnc6 := NB142_143.out; obtain ⟨hcz7_0, hcz7_1, hcz7_2, hcz7_3, hcz7_4, hcz7_5⟩ := cells6 BK143.out; obtain ⟨hfz7_0, hfz7_1, hfz7_2, hfz7_3, hfz7_4, hfz7_5⟩ := frozen6 BK143.out)); go_upto_block 0 with (first | ((with_reducible refine gate_dst (N := 2) rfl ?_); (try (refine gate_guard (by rfl) ?_; dsimp only)); refine box_event ?hg (N := 2) ?hd (cs := #[.int .i64 a0_0, .int .i64 a0_1, .int .i64 a0_2, .slice A0_3 l0_3.length c0_3, .int .i64 a0_4, .int .i64 a0_5, .bool a0_6, .int .i64 a0_7]) (t := 45) ?hr ?_; (case hd => rfl); (case hg => rfl); (case hr => first | (go_simp; done) | (go_simp; rfl)); intro gb142 hg w4 hbox hb; have BK142 := Aside0.mk (hbox); have GW142 := Aside0.mk ((by rw [hg]; exact (below_size (bw_ HB.out)) : w.heap.size ≤ gb142)); have GE142 := Nonempty.intro GW142.out; replace HB := Aside0.mk (below_step (bw_ HB.out) hb); clear hb hbox hg) | ((with_reducible refine gate_dst (N := 3) rfl ?_); (try (refine gate_guard (by rfl) ?_; dsimp only)); refine box_event ?hg (N := 3) ?hd (cs := #[.int .i64 a1_0, .slice A1_1 l1_1.length c1_1, .int .i64 a1_2, .int .i64 a1_3, .slice A1_4 l1_4.length c1_4, .slice A1_5 l1_5.length c1_5]) (t := 276) ?hr ?_; (case hd => rfl); (case hg => rfl); (case hr => first | (go_simp; done) | (go_simp; rfl)); intro gb143 hg w5 hbox hb; have BK143 := Aside0.mk (hbox); have GW143 := Aside0.mk ((by rw [hg]; exact (below_size (bw_ HB.out)) : w.heap.size ≤ gb143)); have GE143 := Nonempty.intro GW143.out; replace HB := Aside0.mk (below_step (bw_ HB.out) hb); have NB142_143 := Aside0.mk ((by rw [hg]; exact Nat.ne_of_lt (blk_lt (bk_ BK142.out)) : gb142 ≠ gb143)); have NB143_142 := Aside0.mk ((by rw [hg]; exact Nat.ne_of_gt (blk_lt (bk_ BK142.out)) : gb143 ≠ gb142)); replace BK142 := Aside0.mk (blk_below (bk_ BK142.out) hb); clear hb hbox hg; have hnb6 := NB143_142.out; have hnc6 := NB142_143.out; obtain ⟨hcz7_0, hcz7_1, hcz7_2, hcz7_3, hcz7_4, hcz7_5⟩ := cells6 BK143.out; obtain ⟨hfz7_0, hfz7_1, hfz7_2, hfz7_3, hfz7_4, hfz7_5⟩ := frozen6 BK143.out)))
 (try simp only [Act.put, List.setIfInBounds_toArray, List.set_cons_zero, List.set_cons_succ])
 go_cut [] (fun wc => ∃ (kq : Nat), Aside0 (spec_l16State.j0 kq (l1_4.length : Int) a0_0 a0_1 a0_2 l0_3 a0_4 a0_5 a0_6 a0_7 a1_0 l1_1 a1_2 a1_3 l1_4 l1_5 = some r) ∧ Aside0 (kq ≤ k) ∧ Aside0 (wc.heap[gb142]? = some (.cells #[.int .i64 a0_0, .int .i64 a0_1, .int .i64 a0_2, (.slice A0_3 l0_3.length c0_3), .int .i64 a0_4, .int .i64 a0_5, .bool a0_6, .int .i64 a0_7] 45 (0, 0))) ∧ Aside0 (wc.heap[gb143]? = some (.cells #[.int .i64 a1_0, (.slice A1_1 l1_1.length c1_1), .int .i64 a1_2, .int .i64 a1_3, (.slice A1_4 l1_4.length c1_4), (.slice A1_5 l1_5.length c1_5)] 276 (0, 0))) ∧ Aside0 (Below w.heap.size w wc))
 case first =>
  have H := HC3.out
  clear HC3
  by_cases c8 : a1_0 = 3
  ·rw [if_pos c8] at H
   have c8b0 : (a1_0 == 3) = true := beq_iff_eq.mpr c8
   have c8b1 : (a1_0 != 3) = false := bne_eq_false_iff_eq.mpr c8
   clear c8
   (first | rw [c8b0] | (simp only [i64_w, i32_w]; rw [c8b0]) | skip)
   obtain rfl := Option.some.inj H
   have hnb9 := NB143_142.out
   have hnc9 := NB142_143.out
   obtain ⟨hcz10_0, hcz10_1, hcz10_2, hcz10_3, hcz10_4, hcz10_5⟩ := cells6 BK143.out
   obtain ⟨hfz10_0, hfz10_1, hfz10_2, hfz10_3, hfz10_4, hfz10_5⟩ := frozen6 BK143.out
   go_wp2
   repeat (go_quiet (fail); try go_wp2)
   go_ret
   exact ⟨by first | rfl | (simp [errW_none, errW_some] <;> rfl) | (simp [*, errW_none, errW_some] <;> rfl), bw_ HB.out⟩
  rw [if_neg c8] at H
  have c8b0 : (a1_0 == 3) = false := beq_eq_false_iff_ne.mpr c8
  have c8b1 : (a1_0 != 3) = true := bne_iff_ne.mpr c8
  (first | rw [c8b0] | (simp only [i64_w, i32_w]; rw [c8b0]) | skip)
  by_cases c11 : a1_0 = 4
  ·rw [if_pos c11] at H
   have c11b0 : (a1_0 == 4) = true := beq_iff_eq.mpr c11
   have c11b1 : (a1_0 != 4) = false := bne_eq_false_iff_eq.mpr c11
   clear c11
   by_cases c12 : (l1_4.length : Int) = 0
   ·rw [if_pos c12] at H
    have c12b0 : ((l1_4.length : Int) == 0) = true := beq_iff_eq.mpr c12
    have c12b1 : ((l1_4.length : Int) != 0) = false := bne_eq_false_iff_eq.mpr c12
    clear c12
    obtain rfl := Option.some.inj H
    have hnb13 := NB143_142.out
    have hnc13 := NB142_143.out
    obtain ⟨hcz14_0, hcz14_1, hcz14_2, hcz14_3, hcz14_4, hcz14_5⟩ := cells6 BK143.out
    obtain ⟨hfz14_0, hfz14_1, hfz14_2, hfz14_3, hfz14_4, hfz14_5⟩ := frozen6 BK143.out
    go_wp2
    repeat (go_quiet (fail); try go_wp2)
    go_ret
    exact ⟨by first | rfl | (simp [errW_none, errW_some] <;> rfl) | (simp [*, errW_none, errW_some] <;> rfl), bw_ HB.out⟩
   rw [if_neg c12] at H
   have c12b0 : ((l1_4.length : Int) == 0) = false := beq_eq_false_iff_ne.mpr c12
   have c12b1 : ((l1_4.length : Int) != 0) = true := bne_iff_ne.mpr c12
   have c12b2 : ¬ (l1_4 = []) := fun h_ => c12 (by rw [h_]; rfl)
   obtain rfl := Option.some.inj H
   go_wp2
   repeat (go_quiet (fail); try go_wp2)
   go_ret
   exact ⟨by first | rfl | (simp [errW_none, errW_some] <;> rfl) | (simp [*, errW_none, errW_some] <;> rfl), bw_ HB.out⟩
  rw [if_neg c11] at H
  have c11b0 : (a1_0 == 4) = false := beq_eq_false_iff_ne.mpr c11
  have c11b1 : (a1_0 != 4) = true := bne_iff_ne.mpr c11
  by_cases c15 : a1_0 = 1
  ·rw [if_pos c15] at H
   have c15b0 : (a1_0 == 1) = true := beq_iff_eq.mpr c15
   have c15b1 : (a1_0 != 1) = false := bne_eq_false_iff_eq.mpr c15
   clear c15
   by_cases c16 : (l1_4.length : Int) > 0
   ·rw [if_pos c16] at H
    have c16b0 : decide (0 < (l1_4.length : Int)) = true := decide_eq_true c16
    have c16b1 : decide (0 < l1_4.length) = true := decide_eq_true (by omega)
    clear c16
    obtain rfl := Option.some.inj H
    go_wp2
    repeat (go_quiet (fail); try go_wp2)
    go_ret
    exact ⟨by first | rfl | (simp [errW_none, errW_some] <;> rfl) | (simp [*, errW_none, errW_some] <;> rfl), bw_ HB.out⟩
   rw [if_neg c16] at H
   have c16b0 : decide (0 < (l1_4.length : Int)) = false := decide_eq_false c16
   have c16b1 : decide (0 < l1_4.length) = false := decide_eq_false (by omega)
   clear c16
   by_cases c17 : (l1_5.length : Int) > 0
   ·rw [if_pos c17] at H
    have c17b0 : decide (0 < (l1_5.length : Int)) = true := decide_eq_true c17
    have c17b1 : decide (0 < l1_5.length) = true := decide_eq_true (by omega)
    clear c17
    obtain rfl := Option.some.inj H
    have hnb18 := NB143_142.out
    have hnc18 := NB142_143.out
    obtain ⟨hcz19_0, hcz19_1, hcz19_2, hcz19_3, hcz19_4, hcz19_5⟩ := cells6 BK143.out
    obtain ⟨hfz19_0, hfz19_1, hfz19_2, hfz19_3, hfz19_4, hfz19_5⟩ := frozen6 BK143.out
    go_wp2
    repeat (go_quiet (fail); try go_wp2)
    go_ret
    exact ⟨by first | rfl | (simp [errW_none, errW_some] <;> rfl) | (simp [*, errW_none, errW_some] <;> rfl), bw_ HB.out⟩
   rw [if_neg c17] at H
   have c17b0 : decide (0 < (l1_5.length : Int)) = false := decide_eq_false c17
   have c17b1 : decide (0 < l1_5.length) = false := decide_eq_false (by omega)
   clear c17
   have H' := Aside0.mk H
   clear H
   have hnb20 := NB143_142.out
   have hnc20 := NB142_143.out
   obtain ⟨hcz21_0, hcz21_1, hcz21_2, hcz21_3, hcz21_4, hcz21_5⟩ := cells6 BK143.out
   obtain ⟨hfz21_0, hfz21_1, hfz21_2, hfz21_3, hfz21_4, hfz21_5⟩ := frozen6 BK143.out
   go_wp2
   repeat (go_quiet (fail); try go_wp2)
   go_meet
   case rel => exact ⟨_, H', ⟨by first | omega | exact Nat.le_refl _⟩, ⟨bk_ BK142.out⟩, ⟨bk_ BK143.out⟩, ⟨bw_ HB.out⟩⟩
  rw [if_neg c15] at H
  have c15b0 : (a1_0 == 1) = false := beq_eq_false_iff_ne.mpr c15
  have c15b1 : (a1_0 != 1) = true := bne_iff_ne.mpr c15
  by_cases c22 : a1_0 = 2
  ·rw [if_pos c22] at H
   have c22b0 : (a1_0 == 2) = true := beq_iff_eq.mpr c22
   have c22b1 : (a1_0 != 2) = false := bne_eq_false_iff_eq.mpr c22
   clear c22
   by_cases c23 : (l1_4.length : Int) = 0
   ·rw [if_pos c23] at H
    have c23b0 : ((l1_4.length : Int) == 0) = true := beq_iff_eq.mpr c23
    have c23b1 : ((l1_4.length : Int) != 0) = false := bne_eq_false_iff_eq.mpr c23
    clear c23
    by_cases c24 : (l1_5.length : Int) = 0
    ·rw [if_pos c24] at H
     have c24b0 : ((l1_5.length : Int) == 0) = true := beq_iff_eq.mpr c24
     have c24b1 : ((l1_5.length : Int) != 0) = false := bne_eq_false_iff_eq.mpr c24
     clear c24
     obtain rfl := Option.some.inj H
     have hnb25 := NB143_142.out
     have hnc25 := NB142_143.out
     obtain ⟨hcz26_0, hcz26_1, hcz26_2, hcz26_3, hcz26_4, hcz26_5⟩ := cells6 BK143.out
     obtain ⟨hfz26_0, hfz26_1, hfz26_2, hfz26_3, hfz26_4, hfz26_5⟩ := frozen6 BK143.out
     go_wp2
     repeat (go_quiet (fail); try go_wp2)
     go_ret
     exact ⟨by first | rfl | (simp [errW_none, errW_some] <;> rfl) | (simp [*, errW_none, errW_some] <;> rfl), bw_ HB.out⟩
    rw [if_neg c24] at H
    have c24b0 : ((l1_5.length : Int) == 0) = false := beq_eq_false_iff_ne.mpr c24
    have c24b1 : ((l1_5.length : Int) != 0) = true := bne_iff_ne.mpr c24
    have c24b2 : ¬ (l1_5 = []) := fun h_ => c24 (by rw [h_]; rfl)
    by_cases c27 : (l1_4.length : Int) ≥ a0_2
    ·rw [if_pos c27] at H
     have c27b0 : decide (a0_2 ≤ (l1_4.length : Int)) = true := decide_eq_true c27
     clear c27
     obtain rfl := Option.some.inj H
     have hnb28 := NB143_142.out
     have hnc28 := NB142_143.out
     obtain ⟨hcz29_0, hcz29_1, hcz29_2, hcz29_3, hcz29_4, hcz29_5⟩ := cells6 BK143.out
     obtain ⟨hfz29_0, hfz29_1, hfz29_2, hfz29_3, hfz29_4, hfz29_5⟩ := frozen6 BK143.out
     obtain ⟨hcz30_0, hcz30_1, hcz30_2, hcz30_3, hcz30_4, hcz30_5, hcz30_6, hcz30_7⟩ := cells8 BK142.out
     obtain ⟨hfz30_0, hfz30_1, hfz30_2, hfz30_3, hfz30_4, hfz30_5, hfz30_6, hfz30_7⟩ := frozen8 BK142.out
     go_wp2
     repeat (go_quiet (fail); try go_wp2)
     go_ret
     exact ⟨by first | rfl | (simp [errW_none, errW_some] <;> rfl) | (simp [*, errW_none, errW_some] <;> rfl), bw_ HB.out⟩
    rw [if_neg c27] at H
    have c27b0 : decide (a0_2 ≤ (l1_4.length : Int)) = false := decide_eq_false c27
    clear c27
    have H' := Aside0.mk H
    clear H
    have hnb31 := NB143_142.out
    have hnc31 := NB142_143.out
    obtain ⟨hcz32_0, hcz32_1, hcz32_2, hcz32_3, hcz32_4, hcz32_5⟩ := cells6 BK143.out
    obtain ⟨hfz32_0, hfz32_1, hfz32_2, hfz32_3, hfz32_4, hfz32_5⟩ := frozen6 BK143.out
    obtain ⟨hcz33_0, hcz33_1, hcz33_2, hcz33_3, hcz33_4, hcz33_5, hcz33_6, hcz33_7⟩ := cells8 BK142.out
    obtain ⟨hfz33_0, hfz33_1, hfz33_2, hfz33_3, hfz33_4, hfz33_5, hfz33_6, hfz33_7⟩ := frozen8 BK142.out
    go_wp2
    repeat (go_quiet (fail); try go_wp2)
    go_meet
    case rel => exact ⟨_, H', ⟨by first | omega | exact Nat.le_refl _⟩, ⟨bk_ BK142.out⟩, ⟨bk_ BK143.out⟩, ⟨bw_ HB.out⟩⟩
   rw [if_neg c23] at H
   have c23b0 : ((l1_4.length : Int) == 0) = false := beq_eq_false_iff_ne.mpr c23
   have c23b1 : ((l1_4.length : Int) != 0) = true := bne_iff_ne.mpr c23
   have c23b2 : ¬ (l1_4 = []) := fun h_ => c23 (by rw [h_]; rfl)
   by_cases c34 : (l1_4.length : Int) ≥ a0_2
   ·rw [if_pos c34] at H
    have c34b0 : decide (a0_2 ≤ (l1_4.length : Int)) = true := decide_eq_true c34
    clear c34
    obtain rfl := Option.some.inj H
    have hnb35 := NB142_143.out
    have hnc35 := NB143_142.out
    obtain ⟨hcz36_0, hcz36_1, hcz36_2, hcz36_3, hcz36_4, hcz36_5, hcz36_6, hcz36_7⟩ := cells8 BK142.out
    obtain ⟨hfz36_0, hfz36_1, hfz36_2, hfz36_3, hfz36_4, hfz36_5, hfz36_6, hfz36_7⟩ := frozen8 BK142.out
    go_wp2
    repeat (go_quiet (fail); try go_wp2)
    go_ret
    exact ⟨by first | rfl | (simp [errW_none, errW_some] <;> rfl) | (simp [*, errW_none, errW_some] <;> rfl), bw_ HB.out⟩
   rw [if_neg c34] at H
   have c34b0 : decide (a0_2 ≤ (l1_4.length : Int)) = false := decide_eq_false c34
   clear c34
   have H' := Aside0.mk H
   clear H
   have hnb37 := NB142_143.out
   have hnc37 := NB143_142.out
   obtain ⟨hcz38_0, hcz38_1, hcz38_2, hcz38_3, hcz38_4, hcz38_5, hcz38_6, hcz38_7⟩ := cells8 BK142.out
   obtain ⟨hfz38_0, hfz38_1, hfz38_2, hfz38_3, hfz38_4, hfz38_5, hfz38_6, hfz38_7⟩ := frozen8 BK142.out
   go_wp2
   repeat (go_quiet (fail); try go_wp2)
   go_meet
   case rel => exact ⟨_, H', ⟨by first | omega | exact Nat.le_refl _⟩, ⟨bk_ BK142.out⟩, ⟨bk_ BK143.out⟩, ⟨bw_ HB.out⟩⟩
  rw [if_neg c22] at H
  have c22b0 : (a1_0 == 2) = false := beq_eq_false_iff_ne.mpr c22
  have c22b1 : (a1_0 != 2) = true := bne_iff_ne.mpr c22
  obtain rfl := Option.some.inj H
  go_wp2
  repeat (go_quiet (fail); try go_wp2)
  go_ret
  exact ⟨by first | rfl | (simp [errW_none, errW_some] <;> rfl) | (simp [*, errW_none, errW_some] <;> rfl), bw_ HB.out⟩
 case rest =>
  clear HC3
  obtain ⟨kq, HA, HJ2, BK142, BK143, HB⟩ := hcut
  cases kq with
  | zero => exact absurd HA.out (by simp [spec_l16State.j0])
  | succ kj2 =>
   have H := HA.out
   clear HA
   simp only [spec_l16State.j0] at H
   have H' := Aside0.mk H
   clear H
   go_wp2
   repeat (go_quiet (fail); try go_wp2)
   go_loopg [6] kj2 (fun kq v6 w' => ∃ (x6_2 : Int), v6 = .int .i64 x6_2 ∧ Aside0 (spec_l16State.l0 kq (l1_4.length : Int) x6_2 a0_0 a0_1 a0_2 l0_3 a0_4 a0_5 a0_6 a0_7 a1_0 l1_1 a1_2 a1_3 l1_4 l1_5 = some r) ∧ Aside0 (kq ≤ kj2) ∧ Aside0 (w'.heap[gb142]? = some (.cells #[.int .i64 a0_0, .int .i64 a0_1, .int .i64 a0_2, (.slice A0_3 l0_3.length c0_3), .int .i64 a0_4, .int .i64 a0_5, .bool a0_6, .int .i64 a0_7] 45 (0, 0))) ∧ Aside0 (w'.heap[gb143]? = some (.cells #[.int .i64 a1_0, (.slice A1_1 l1_1.length c1_1), .int .i64 a1_2, .int .i64 a1_3, (.slice A1_4 l1_4.length c1_4), (.slice A1_5 l1_5.length c1_5)] 276 (0, 0))) ∧ Aside0 (Below w.heap.size w w'))
   case atStart => exact ⟨(0), (by first | rfl | (simp; done) | (simp [*]; done)), H', ⟨Nat.le_refl _⟩, ⟨bk_ BK142.out⟩, ⟨bk_ BK143.out⟩, ⟨bw_ HB.out⟩⟩
   case round =>
    clear H'
    obtain ⟨x6_2, rfl, HA, HK2, BK142, BK143, HB⟩ := hrel
    cases gk with
    | zero => exact absurd HA.out (by simp [spec_l16State.l0])
    | succ k2 =>
     have H := HA.out
     clear HA
     simp only [spec_l16State.l0] at H
     by_cases c39 : x6_2 < (l1_1.length : Int)
     ·rw [if_pos c39] at H
      have c39b0 : decide (x6_2 < (l1_1.length : Int)) = true := decide_eq_true c39
      clear c39
      by_cases c40 : 0 ≤ x6_2
      ·rw [if_pos c40] at H
       have c40b0 : decide (0 ≤ x6_2) = true := decide_eq_true c40
       clear c40
       by_cases c41 : 0 ≤ (rd l1_1 x6_2)
       ·rw [if_pos c41] at H
        have c41b0 : decide (0 ≤ (rd l1_1 x6_2)) = true := decide_eq_true c41
        clear c41
        by_cases c42 : (rd l1_1 x6_2) < (l0_3.length : Int)
        ·rw [if_pos c42] at H
         have c42b0 : decide ((rd l1_1 x6_2) < (l0_3.length : Int)) = true := decide_eq_true c42
         clear c42
         by_cases c43 : ((rd_T218 l0_3 (rd l1_1 x6_2)).f1) = (l1_4.length : Int)
         ·rw [if_pos c43] at H
          have c43b0 : (((rd_T218 l0_3 (rd l1_1 x6_2)).f1) == (l1_4.length : Int)) = true := beq_iff_eq.mpr c43
          have c43b1 : (((rd_T218 l0_3 (rd l1_1 x6_2)).f1) != (l1_4.length : Int)) = false := bne_eq_false_iff_eq.mpr c43
          clear c43
          have H' := Aside0.mk H
          clear H
          have hnb44 := NB143_142.out
          have hnc44 := NB142_143.out
          obtain ⟨hcz45_0, hcz45_1, hcz45_2, hcz45_3, hcz45_4, hcz45_5⟩ := cells6 BK143.out
          obtain ⟨hfz45_0, hfz45_1, hfz45_2, hfz45_3, hfz45_4, hfz45_5⟩ := frozen6 BK143.out
          obtain ⟨hcz46_0, hcz46_1, hcz46_2, hcz46_3, hcz46_4, hcz46_5, hcz46_6, hcz46_7⟩ := cells8 BK142.out
          obtain ⟨hfz46_0, hfz46_1, hfz46_2, hfz46_3, hfz46_4, hfz46_5, hfz46_6, hfz46_7⟩ := frozen8 BK142.out
          have p144 : 0 ≤ (x6_2 : Int) := of_decide_eq_true (by first | (with_reducible assumption) | assumption)
          have q144 : x6_2 < (l1_1.length : Int) := of_decide_eq_true (by first | (with_reducible assumption) | assumption)
          obtain ⟨ad144, e144, hx144_0⟩ := Kd.at_int HR1_1.out x6_2 p144 q144
          cases e144
          replace hx144_0 := (HB.out.cell (World.block_lt_of_cell? w _ hx144_0)).trans hx144_0
          replace p144 := eq_true p144
          replace q144 := eq_true q144
          have p145 : 0 ≤ ((rd l1_1 x6_2) : Int) := of_decide_eq_true (by first | (with_reducible assumption) | assumption)
          have q145 : (rd l1_1 x6_2) < (l0_3.length : Int) := of_decide_eq_true (by first | (with_reducible assumption) | assumption)
          obtain ⟨ad145, A145_3, c145_3, e145, hx145_0, hx145_1, hx145_2, hx145_3, hl145_3, hi145_3⟩ := at_T218 HR0_3.out (rd l1_1 x6_2) p145 q145
          cases e145
          replace hx145_0 := (HB.out.cell (World.block_lt_of_cell? w _ hx145_0)).trans hx145_0
          replace hx145_1 := (HB.out.cell (World.block_lt_of_cell? w _ hx145_1)).trans hx145_1
          replace hx145_2 := (HB.out.cell (World.block_lt_of_cell? w _ hx145_2)).trans hx145_2
          replace hx145_3 := (HB.out.cell (World.block_lt_of_cell? w _ hx145_3)).trans hx145_3
          have HR145_3 := Aside0.mk hi145_3
          have HC145_3 := Aside0.mk hl145_3
          clear hi145_3 hl145_3
          replace p145 := eq_true p145
          replace q145 := eq_true q145
          go_wp2
          repeat (go_quiet (fail); try go_wp2)
          go_roundg k2
          case measure => have := HJ2.out; have := HK2.out; omega
          case rel => exact ⟨(wrap64 (x6_2 + 1)), (by first | rfl | (simp; done) | (simp [*]; done)), H', ⟨by have := HJ2.out; have := HK2.out; omega⟩, ⟨bk_ BK142.out⟩, ⟨bk_ BK143.out⟩, ⟨bw_ HB.out⟩⟩
         rw [if_neg c43] at H
         have c43b0 : (((rd_T218 l0_3 (rd l1_1 x6_2)).f1) == (l1_4.length : Int)) = false := beq_eq_false_iff_ne.mpr c43
         have c43b1 : (((rd_T218 l0_3 (rd l1_1 x6_2)).f1) != (l1_4.length : Int)) = true := bne_iff_ne.mpr c43
         obtain rfl := Option.some.inj H
         have hnb47 := NB143_142.out
         have hnc47 := NB142_143.out
         obtain ⟨hcz48_0, hcz48_1, hcz48_2, hcz48_3, hcz48_4, hcz48_5⟩ := cells6 BK143.out
         obtain ⟨hfz48_0, hfz48_1, hfz48_2, hfz48_3, hfz48_4, hfz48_5⟩ := frozen6 BK143.out
         obtain ⟨hcz49_0, hcz49_1, hcz49_2, hcz49_3, hcz49_4, hcz49_5, hcz49_6, hcz49_7⟩ := cells8 BK142.out
         obtain ⟨hfz49_0, hfz49_1, hfz49_2, hfz49_3, hfz49_4, hfz49_5, hfz49_6, hfz49_7⟩ := frozen8 BK142.out
         have p144 : 0 ≤ (x6_2 : Int) := of_decide_eq_true (by first | (with_reducible assumption) | assumption)
         have q144 : x6_2 < (l1_1.length : Int) := of_decide_eq_true (by first | (with_reducible assumption) | assumption)
         obtain ⟨ad144, e144, hx144_0⟩ := Kd.at_int HR1_1.out x6_2 p144 q144
         cases e144
         replace hx144_0 := (HB.out.cell (World.block_lt_of_cell? w _ hx144_0)).trans hx144_0
         replace p144 := eq_true p144
         replace q144 := eq_true q144
         have p145 : 0 ≤ ((rd l1_1 x6_2) : Int) := of_decide_eq_true (by first | (with_reducible assumption) | assumption)
         have q145 : (rd l1_1 x6_2) < (l0_3.length : Int) := of_decide_eq_true (by first | (with_reducible assumption) | assumption)
         obtain ⟨ad145, A145_3, c145_3, e145, hx145_0, hx145_1, hx145_2, hx145_3, hl145_3, hi145_3⟩ := at_T218 HR0_3.out (rd l1_1 x6_2) p145 q145
         cases e145
         replace hx145_0 := (HB.out.cell (World.block_lt_of_cell? w _ hx145_0)).trans hx145_0
         replace hx145_1 := (HB.out.cell (World.block_lt_of_cell? w _ hx145_1)).trans hx145_1
         replace hx145_2 := (HB.out.cell (World.block_lt_of_cell? w _ hx145_2)).trans hx145_2
         replace hx145_3 := (HB.out.cell (World.block_lt_of_cell? w _ hx145_3)).trans hx145_3
         have HR145_3 := Aside0.mk hi145_3
         have HC145_3 := Aside0.mk hl145_3
         clear hi145_3 hl145_3
         replace p145 := eq_true p145
         replace q145 := eq_true q145
         go_wp2
         repeat (go_quiet (fail); try go_wp2)
         go_ret
         exact ⟨by first | rfl | (simp [errW_none, errW_some] <;> rfl) | (simp [*, errW_none, errW_some] <;> rfl), bw_ HB.out⟩
        rw [if_neg c42] at H
        exact absurd H (by simp)
       rw [if_neg c41] at H
       exact absurd H (by simp)
      rw [if_neg c40] at H
      exact absurd H (by simp)
     rw [if_neg c39] at H
     have c39b0 : decide (x6_2 < (l1_1.length : Int)) = false := decide_eq_false c39
     clear c39
     obtain rfl := Option.some.inj H
     have hnb50 := NB143_142.out
     have hnc50 := NB142_143.out
     obtain ⟨hcz51_0, hcz51_1, hcz51_2, hcz51_3, hcz51_4, hcz51_5⟩ := cells6 BK143.out
     obtain ⟨hfz51_0, hfz51_1, hfz51_2, hfz51_3, hfz51_4, hfz51_5⟩ := frozen6 BK143.out
     go_wp2
     repeat (go_quiet (fail); try go_wp2)
     go_ret
     exact ⟨by first | rfl | (simp [errW_none, errW_some] <;> rfl) | (simp [*, errW_none, errW_some] <;> rfl), bw_ HB.out⟩

end Go.Proofs.Ytokonpkecmnneaa.QFnExactRoomInx
