-- made by mp, a turned copy of the print: proofs of this session's
import Derived.Test.YtokonpkecmnneaaQFnExactRoomInx0
import Derived.Test.YtokonpkecmnneaaQFnExactRoomInx1
import Derived.Test.YtokonpkecmnneaaQFnExactRoomInx8
import Derived.Test.YtokonpkecmnneaaQFnExactRoomInx9
import Derived.Test.YtokonpkecmnneaaQFnExactRoomInx15
import Derived.Test.YtokonpkecmnneaaQFnExactRoomInx16
import Derived.Test.YtokonpkecmnneaaHk
namespace Go.Proofs.Ytokonpkecmnneaa.QFnExactRoomInx
open Go.RowKit Go.Proofs.YtokonpkecmnneaaW.PrintWords Go.Proofs.YtokonpkecmnneaaW.PrintLast Go.Proofs.YtokonpkecmnneaaW.PrintMore
open Go.Proofs.YtokonpkecmnneaaHw Go.Proofs.YtokonpkecmnneaaHo Go.Proofs.YtokonpkecmnneaaHm Go.Proofs.YtokonpkecmnneaaHk
attribute [local go_sem] binOp_leq_hw binOp_geq_hw binOp_gtr_hw
attribute [local go_sem] max2_int min2_int max_two min_two max_three min_three max_four min_four   -- for this text's walks alone
set_option linter.unusedVariables false
set_option linter.unusedSimpArgs false

/-! ### laws_eqZoneS: function 187 -/
def laws_eqZoneS.l0 : Nat → List (S276) → List (S276) → Int → Option (Bool)
 | 0, _, _, _ => none
 | k + 1, x0, x1, x5 => if x5 < (x0.length : Int) then (if 0 ≤ x5 then (if x5 < (x1.length : Int) then ((laws_eqZone.f k ((rd_T276 x0 x5).f0) ((rd_T276 x0 x5).f1) ((rd_T276 x0 x5).f2) ((rd_T276 x0 x5).f3) ((rd_T276 x0 x5).f4) ((rd_T276 x0 x5).f5) ((rd_T276 x1 x5).f0) ((rd_T276 x1 x5).f1) ((rd_T276 x1 x5).f2) ((rd_T276 x1 x5).f3) ((rd_T276 x1 x5).f4) ((rd_T276 x1 x5).f5)).bind fun t330 => (if t330 = true then (laws_eqZoneS.l0 k x0 x1 (wrap64 (x5 + 1))) else (some false))) else (none)) else (none)) else (some true)
def laws_eqZoneS.f (k : Nat) (l0 : List (S276)) (l1 : List (S276)) : Option (Bool) := if (l0.length : Int) = (l1.length : Int) then (laws_eqZoneS.l0 k l0 l1 0) else (some false)
theorem laws_eqZoneS.mono_l : ∀ k, (∀ y0 y1 y2, LeO (laws_eqZoneS.l0 k y0 y1 y2) (laws_eqZoneS.l0 (k + 1) y0 y1 y2))
 | 0 => fun _ _ _ r h => by simp [laws_eqZoneS.l0] at h
 | k + 1 => by
  have ih0 := laws_eqZoneS.mono_l k
  ·intro y0 y1 y2
   unfold laws_eqZoneS.l0
   repeat' first
   | (with_reducible exact ih0 _ _ _)
   | (with_reducible exact laws_eqZone.mono _ _ _ _ _ _ _ _ _ _ _ _ _)
   | (with_reducible exact LeO.refl _)
   | (with_reducible exact LeO.none _)
   | (with_reducible refine LeO.ite ?_ ?_)
   | (with_reducible refine LeO.bind ?_ (fun _ => ?_))
   | exact ih0 _ _ _
   | exact laws_eqZone.mono _ _ _ _ _ _ _ _ _ _ _ _ _
   | exact LeO.none _
   | refine LeO.ite ?_ ?_
   | refine LeO.bind ?_ (fun _ => ?_)
theorem laws_eqZoneS.mono : ∀ a0 a1 k, LeO (laws_eqZoneS.f k a0 a1) (laws_eqZoneS.f (k + 1) a0 a1) := by
 intro a0 a1 k
 have ih0 := laws_eqZoneS.mono_l k
 unfold laws_eqZoneS.f
 repeat' first
   | (with_reducible exact ih0 _ _ _)
   | (with_reducible exact laws_eqZone.mono _ _ _ _ _ _ _ _ _ _ _ _ _)
   | (with_reducible exact LeO.refl _)
   | (with_reducible exact LeO.none _)
   | (with_reducible refine LeO.ite ?_ ?_)
   | (with_reducible refine LeO.bind ?_ (fun _ => ?_))
   | exact ih0 _ _ _
   | exact laws_eqZone.mono _ _ _ _ _ _ _ _ _ _ _ _ _
   | exact LeO.none _
   | refine LeO.ite ?_ ?_
   | refine LeO.bind ?_ (fun _ => ?_)
def laws_eqZoneS.T6 : Bool × List (List Nat × List Nat) := (true, [([], []), ([], []), ([0, 1], [0, 1]), ([2], [2]), ([], []), ([], []), ([4, 5], [4, 5]), ([6], [6]), ([3, 7], [3, 7]), ([8], [8])])
def laws_eqZoneS.B6 : List Nat := [0, 0, 3, 7, 0, 0, 48, 112, 255, 511]
theorem laws_eqZoneS.tab6 : rtab .any (opsOf Try.f187 6) = laws_eqZoneS.T6 := by kernel_rfl
theorem laws_eqZoneS.bits6 : waitsOk laws_eqZoneS.T6.2 laws_eqZoneS.B6 = true := by kernel_rfl
set_option maxHeartbeats 8000000 in
set_option maxRecDepth 100000 in
theorem laws_eqZoneS.calls (k : Nat) (A0 : Option Addr) (c0 : Nat) (l0 : List (S276)) (A1 : Option Addr) (c1 : Nat) (l1 : List (S276)) (r : Bool) (w : World) (hr0 : Kd.C k276 w A0 l0.length l0) (hc0 : l0.length ≤ c0) (hr1 : Kd.C k276 w A1 l1.length l1) (hc1 : l1.length ≤ c1) (h : laws_eqZoneS.f k l0 l1 = some r) :
  Calls Try.prog 187 #[.slice A0 l0.length c0, .slice A1 l1.length c1] w fun e w' => e = .returned (.bool r) ∧ Below w.heap.size w w' := by
 have hu276 := Try.underlying276
 have HR0 := Aside0.mk hr0
 have HC0 := Aside0.mk hc0
 clear hr0 hc0
 have HR1 := Aside0.mk hr1
 have HC1 := Aside0.mk hc1
 clear hr1 hc1
 have HB := Aside0.mk (Below.refl w.heap.size w)
 have H := h; unfold laws_eqZoneS.f at H
 clear h
 by_cases c3 : (l0.length : Int) = (l1.length : Int)
 ·rw [if_pos c3] at H
  have c3b0 : ((l0.length : Int) == (l1.length : Int)) = true := beq_iff_eq.mpr c3
  have c3b1 : ((l0.length : Int) != (l1.length : Int)) = false := bne_eq_false_iff_eq.mpr c3
  have c3b2 : (l0.length == l1.length) = true := by first | simpa using c3 | (simp at c3 ⊢; omega)
  clear c3
  have H' := Aside0.mk H
  clear H
  go_enter Try.func187, Try.ntmps187
  go_wp2
  go_loopg [5] k (fun kq v5 w' => ∃ (x5_1 : Int), v5 = .int .i64 x5_1 ∧ Aside0 (laws_eqZoneS.l0 kq l0 l1 x5_1 = some r) ∧ Aside0 (kq ≤ k) ∧ Aside0 (Below w.heap.size w w'))
  case atStart => exact ⟨(0), (by first | rfl | (simp; done) | (simp [*]; done)), H', ⟨Nat.le_refl _⟩, ⟨bw_ HB.out⟩⟩
  case round =>
   clear H'
   obtain ⟨x5_1, rfl, HA, HK1, HB⟩ := hrel
   cases gk with
   | zero => exact absurd HA.out (by simp [laws_eqZoneS.l0])
   | succ k1 =>
    have H := HA.out
    clear HA
    simp only [laws_eqZoneS.l0] at H
    by_cases c4 : x5_1 < (l0.length : Int)
    ·rw [if_pos c4] at H
     have c4b0 : decide (x5_1 < (l0.length : Int)) = true := decide_eq_true c4
     clear c4
     by_cases c5 : 0 ≤ x5_1
     ·rw [if_pos c5] at H
      have c5b0 : decide (0 ≤ x5_1) = true := decide_eq_true c5
      clear c5
      by_cases c6 : x5_1 < (l1.length : Int)
      ·rw [if_pos c6] at H
       have c6b0 : decide (x5_1 < (l1.length : Int)) = true := decide_eq_true c6
       clear c6
       replace H := Option.bind_eq_some_iff.mp H
       obtain ⟨t330, A70, H⟩ := H
       have A7 := Aside0.mk A70
       clear A70
       by_cases c8 : t330 = true
       ·subst c8
        rw [if_pos rfl] at H
        have H' := Aside0.mk H
        clear H
        try go_wp2
        replace HB := Aside0.mk (below_drew1 HB.out)
        have p328 : 0 ≤ (x5_1 : Int) := of_decide_eq_true (by first | (with_reducible assumption) | assumption)
        have q328 : x5_1 < (l0.length : Int) := of_decide_eq_true (by first | (with_reducible assumption) | assumption)
        obtain ⟨ad328, A328_1, c328_1, A328_4, c328_4, A328_5, c328_5, e328, hx328_0, hx328_1, hx328_2, hx328_3, hx328_4, hx328_5, hl328_1, hi328_1, hl328_4, hi328_4, hl328_5, hi328_5⟩ := at_T276 HR0.out x5_1 p328 q328
        have hw328_5 := hx328_5
        have hw328_4 := hx328_4
        have hw328_3 := hx328_3
        have hw328_2 := hx328_2
        have hw328_1 := hx328_1
        have hw328_0 := hx328_0
        cases e328
        replace hx328_0 := (HB.out.cell (World.block_lt_of_cell? w _ hx328_0)).trans hx328_0
        replace hx328_1 := (HB.out.cell (World.block_lt_of_cell? w _ hx328_1)).trans hx328_1
        replace hx328_2 := (HB.out.cell (World.block_lt_of_cell? w _ hx328_2)).trans hx328_2
        replace hx328_3 := (HB.out.cell (World.block_lt_of_cell? w _ hx328_3)).trans hx328_3
        replace hx328_4 := (HB.out.cell (World.block_lt_of_cell? w _ hx328_4)).trans hx328_4
        replace hx328_5 := (HB.out.cell (World.block_lt_of_cell? w _ hx328_5)).trans hx328_5
        have HR328_1 := Aside0.mk hi328_1
        have HC328_1 := Aside0.mk hl328_1
        clear hi328_1 hl328_1
        have HR328_4 := Aside0.mk hi328_4
        have HC328_4 := Aside0.mk hl328_4
        clear hi328_4 hl328_4
        have HR328_5 := Aside0.mk hi328_5
        have HC328_5 := Aside0.mk hl328_5
        clear hi328_5 hl328_5
        replace p328 := eq_true p328
        replace q328 := eq_true q328
        have p329 : 0 ≤ (x5_1 : Int) := of_decide_eq_true (by first | (with_reducible assumption) | assumption)
        have q329 : x5_1 < (l1.length : Int) := of_decide_eq_true (by first | (with_reducible assumption) | assumption)
        obtain ⟨ad329, A329_1, c329_1, A329_4, c329_4, A329_5, c329_5, e329, hx329_0, hx329_1, hx329_2, hx329_3, hx329_4, hx329_5, hl329_1, hi329_1, hl329_4, hi329_4, hl329_5, hi329_5⟩ := at_T276 HR1.out x5_1 p329 q329
        have hw329_5 := hx329_5
        have hw329_4 := hx329_4
        have hw329_3 := hx329_3
        have hw329_2 := hx329_2
        have hw329_1 := hx329_1
        have hw329_0 := hx329_0
        cases e329
        replace hx329_0 := (HB.out.cell (World.block_lt_of_cell? w _ hx329_0)).trans hx329_0
        replace hx329_1 := (HB.out.cell (World.block_lt_of_cell? w _ hx329_1)).trans hx329_1
        replace hx329_2 := (HB.out.cell (World.block_lt_of_cell? w _ hx329_2)).trans hx329_2
        replace hx329_3 := (HB.out.cell (World.block_lt_of_cell? w _ hx329_3)).trans hx329_3
        replace hx329_4 := (HB.out.cell (World.block_lt_of_cell? w _ hx329_4)).trans hx329_4
        replace hx329_5 := (HB.out.cell (World.block_lt_of_cell? w _ hx329_5)).trans hx329_5
        have HR329_1 := Aside0.mk hi329_1
        have HC329_1 := Aside0.mk hl329_1
        clear hi329_1 hl329_1
        have HR329_4 := Aside0.mk hi329_4
        have HC329_4 := Aside0.mk hl329_4
        clear hi329_4 hl329_4
        have HR329_5 := Aside0.mk hi329_5
        have HC329_5 := Aside0.mk hl329_5
        clear hi329_5 hl329_5
        replace p329 := eq_true p329
        replace q329 := eq_true q329
        refine start_ (n := 10) (S := fun w' => w'.cell? (ad328.add ((x5_1).toNat * 6)) = some (.int .i64 ((rd_T276 l0 x5_1).f0)) ∧ w'.cell? ⟨(ad328.add ((x5_1).toNat * 6)).block, (ad328.add ((x5_1).toNat * 6)).off + 1, none⟩ = some (.slice A328_1 ((rd_T276 l0 x5_1).f1).length c328_1) ∧ w'.cell? ⟨(ad328.add ((x5_1).toNat * 6)).block, (ad328.add ((x5_1).toNat * 6)).off + 2, none⟩ = some (.int .i64 ((rd_T276 l0 x5_1).f2)) ∧ w'.cell? ⟨(ad328.add ((x5_1).toNat * 6)).block, (ad328.add ((x5_1).toNat * 6)).off + 3, none⟩ = some (.int .i64 ((rd_T276 l0 x5_1).f3)) ∧ w'.cell? ⟨(ad328.add ((x5_1).toNat * 6)).block, (ad328.add ((x5_1).toNat * 6)).off + 4, none⟩ = some (.slice A328_4 ((rd_T276 l0 x5_1).f4).length c328_4) ∧ w'.cell? ⟨(ad328.add ((x5_1).toNat * 6)).block, (ad328.add ((x5_1).toNat * 6)).off + 5, none⟩ = some (.slice A328_5 ((rd_T276 l0 x5_1).f5).length c328_5) ∧ w'.cell? (ad329.add ((x5_1).toNat * 6)) = some (.int .i64 ((rd_T276 l1 x5_1).f0)) ∧ w'.cell? ⟨(ad329.add ((x5_1).toNat * 6)).block, (ad329.add ((x5_1).toNat * 6)).off + 1, none⟩ = some (.slice A329_1 ((rd_T276 l1 x5_1).f1).length c329_1) ∧ w'.cell? ⟨(ad329.add ((x5_1).toNat * 6)).block, (ad329.add ((x5_1).toNat * 6)).off + 2, none⟩ = some (.int .i64 ((rd_T276 l1 x5_1).f2)) ∧ w'.cell? ⟨(ad329.add ((x5_1).toNat * 6)).block, (ad329.add ((x5_1).toNat * 6)).off + 3, none⟩ = some (.int .i64 ((rd_T276 l1 x5_1).f3)) ∧ w'.cell? ⟨(ad329.add ((x5_1).toNat * 6)).block, (ad329.add ((x5_1).toNat * 6)).off + 4, none⟩ = some (.slice A329_4 ((rd_T276 l1 x5_1).f4).length c329_4) ∧ w'.cell? ⟨(ad329.add ((x5_1).toNat * 6)).block, (ad329.add ((x5_1).toNat * 6)).off + 5, none⟩ = some (.slice A329_5 ((rd_T276 l1 x5_1).f5).length c329_5)) (ds := []) (Array.replicate 10 false) (by kernel_rfl) rfl rfl ⟨((HB.out.cell (World.block_lt_of_cell? w _ hw328_0)).trans hw328_0), ((HB.out.cell (World.block_lt_of_cell? w _ hw328_1)).trans hw328_1), ((HB.out.cell (World.block_lt_of_cell? w _ hw328_2)).trans hw328_2), ((HB.out.cell (World.block_lt_of_cell? w _ hw328_3)).trans hw328_3), ((HB.out.cell (World.block_lt_of_cell? w _ hw328_4)).trans hw328_4), ((HB.out.cell (World.block_lt_of_cell? w _ hw328_5)).trans hw328_5), ((HB.out.cell (World.block_lt_of_cell? w _ hw329_0)).trans hw329_0), ((HB.out.cell (World.block_lt_of_cell? w _ hw329_1)).trans hw329_1), ((HB.out.cell (World.block_lt_of_cell? w _ hw329_2)).trans hw329_2), ((HB.out.cell (World.block_lt_of_cell? w _ hw329_3)).trans hw329_3), ((HB.out.cell (World.block_lt_of_cell? w _ hw329_4)).trans hw329_4), ((HB.out.cell (World.block_lt_of_cell? w _ hw329_5)).trans hw329_5)⟩ (fun hHeld => ?_); refine with_tabW laws_eqZoneS.tab6 laws_eqZoneS.bits6 (fun HT_ HW_ => ?_)
        generalize wr.drew = w9 at HB HR328_1 HR328_4 HR328_5 HR329_1 HR329_4 HR329_5 hx328_0 hx328_1 hx328_2 hx328_3 hx328_4 hx328_5 hx329_0 hx329_1 hx329_2 hx329_3 hx329_4 hx329_5 hHeld ⊢
        refine pu_ (v := ?_) (a' := ?_) 0 17 (bl_ 10 1) rfl rfl HT_.out (by kernel_rfl) (fun _ _ _ h => h) (.inl ⟨by rfl, ?_⟩) ?_ ?_
        rotate_left
        ·intro w'
         go_simp
         with_reducible rfl
        rotate_left
        ·simp only [Act.put, q1_, q2_, q3_, i64_w, i32_w]
         rfl
        refine pu_ (v := ?_) (a' := ?_) 1 18 (bl_ 10 3) rfl rfl HT_.out (by kernel_rfl) (fun _ _ _ h => h) (.inl ⟨by rfl, ?_⟩) ?_ ?_
        rotate_left
        ·intro w'
         go_simp
         with_reducible rfl
        rotate_left
        ·simp only [Act.put, q1_, q2_, q3_, i64_w, i32_w]
         rfl
        refine pu_ (v := ?_) (a' := ?_) 2 19 (bl_ 10 7) rfl rfl HT_.out (by kernel_rfl) (fun _ _ _ h => h) (.inl ⟨by rfl, ?_⟩) ?_ ?_
        rotate_left
        ·intro w'
         go_simp
         with_reducible rfl
        rotate_left
        ·simp only [Act.put, q1_, q2_, q3_, i64_w, i32_w]
         rfl
        refine pu_ (v := ?_) (a' := ?_) 4 21 (bl_ 10 23) rfl rfl HT_.out (by kernel_rfl) (fun _ _ _ h => h) (.inl ⟨by rfl, ?_⟩) ?_ ?_
        rotate_left
        ·intro w'
         go_simp
         with_reducible rfl
        rotate_left
        ·simp only [Act.put, q1_, q2_, q3_, i64_w, i32_w]
         rfl
        refine pu_ (v := ?_) (a' := ?_) 5 22 (bl_ 10 55) rfl rfl HT_.out (by kernel_rfl) (fun _ _ _ h => h) (.inl ⟨by rfl, ?_⟩) ?_ ?_
        rotate_left
        ·intro w'
         go_simp
         with_reducible rfl
        rotate_left
        ·simp only [Act.put, q1_, q2_, q3_, i64_w, i32_w]
         rfl
        refine pu_ (v := ?_) (a' := ?_) 6 23 (bl_ 10 119) rfl rfl HT_.out (by kernel_rfl) (fun _ _ _ h => h) (.inl ⟨by rfl, ?_⟩) ?_ ?_
        rotate_left
        ·intro w'
         go_simp
         with_reducible rfl
        rotate_left
        ·simp only [Act.put, q1_, q2_, q3_, i64_w, i32_w]
         rfl
        refine tk_ (v := ?_) (a' := ?_) 3 20 (bl_ 10 127) rfl rfl HT_.out HW_.out (by kernel_rfl) (fun _ _ _ h => h) (.inl ⟨by rfl, ?_⟩) hHeld ?_ ?_
        rotate_left
        ·rintro w' ⟨s0, s1, s2, s3, s4, s5, s6, s7, s8, s9, s10, s11⟩
         go_simp
         with_reducible rfl
        rotate_left
        ·simp only [Act.put, q1_, q2_, q3_, i64_w, i32_w]
         rfl
        refine tk_ (v := ?_) (a' := ?_) 7 24 (bl_ 10 255) rfl rfl HT_.out HW_.out (by kernel_rfl) (fun _ _ _ h => h) (.inl ⟨by rfl, ?_⟩) hHeld ?_ ?_
        rotate_left
        ·rintro w' ⟨s0, s1, s2, s3, s4, s5, s6, s7, s8, s9, s10, s11⟩
         go_simp
         with_reducible rfl
        rotate_left
        ·simp only [Act.put, q1_, q2_, q3_, i64_w, i32_w]
         rfl
        refine one_ (i := 8) (N := some 25) (bl_ 10 511) rfl rfl (one_of HT_.out (by kernel_rfl)) (by decide) (fun K hK => ?_)
        refine goes_ Try.func272 (by kernel_rfl) rfl #[.agg #[.int .i64 ((rd_T276 l0 x5_1).f0), .slice A328_1 ((rd_T276 l0 x5_1).f1).length c328_1, .int .i64 ((rd_T276 l0 x5_1).f2), .int .i64 ((rd_T276 l0 x5_1).f3), .slice A328_4 ((rd_T276 l0 x5_1).f4).length c328_4, .slice A328_5 ((rd_T276 l0 x5_1).f5).length c328_5], .agg #[.int .i64 ((rd_T276 l1 x5_1).f0), .slice A329_1 ((rd_T276 l1 x5_1).f1).length c329_1, .int .i64 ((rd_T276 l1 x5_1).f2), .int .i64 ((rd_T276 l1 x5_1).f3), .slice A329_4 ((rd_T276 l1 x5_1).f4).length c329_4, .slice A329_5 ((rd_T276 l1 x5_1).f5).length c329_5]] (by rfl) rfl rfl (by (try simp only [List.map_toArray, List.map_cons, List.map_nil]); first | done | rfl | (simp only [List.length_drop, List.length_take]; rfl)) ?_
        with_reducible refine (laws_eqZone.calls k1 ((rd_T276 l0 x5_1).f0) _ _ ((rd_T276 l0 x5_1).f1) ((rd_T276 l0 x5_1).f2) ((rd_T276 l0 x5_1).f3) _ _ ((rd_T276 l0 x5_1).f4) _ _ ((rd_T276 l0 x5_1).f5) ((rd_T276 l1 x5_1).f0) _ _ ((rd_T276 l1 x5_1).f1) ((rd_T276 l1 x5_1).f2) ((rd_T276 l1 x5_1).f3) _ _ ((rd_T276 l1 x5_1).f4) _ _ ((rd_T276 l1 x5_1).f5) true _ ?side1 ?side2 ?side3 ?side4 ?side5 ?side6 ?side7 ?side8 ?side9 ?side10 ?side11 ?side12 A7.out).mono ?_
        (case side1 => exact Kd.C_below HR328_1.out (bw_ HB.out))
        (case side2 => exact HC328_1.out)
        (case side3 => exact Kd.C_below HR328_4.out (bw_ HB.out))
        (case side4 => exact HC328_4.out)
        (case side5 => exact Kd.C_below HR328_5.out (bw_ HB.out))
        (case side6 => exact HC328_5.out)
        (case side7 => exact Kd.C_below HR329_1.out (bw_ HB.out))
        (case side8 => exact HC329_1.out)
        (case side9 => exact Kd.C_below HR329_4.out (bw_ HB.out))
        (case side10 => exact HC329_4.out)
        (case side11 => exact Kd.C_below HR329_5.out (bw_ HB.out))
        (case side12 => exact HC329_5.out)
        rintro e w10 ⟨rfl, hb⟩
        refine ⟨_, rfl, ?_⟩
        replace HB := Aside0.mk (below_step (bw_ HB.out) hb)
        refine hK.out _ _ ⟨((HB.out.cell (World.block_lt_of_cell? w _ hw328_0)).trans hw328_0), ((HB.out.cell (World.block_lt_of_cell? w _ hw328_1)).trans hw328_1), ((HB.out.cell (World.block_lt_of_cell? w _ hw328_2)).trans hw328_2), ((HB.out.cell (World.block_lt_of_cell? w _ hw328_3)).trans hw328_3), ((HB.out.cell (World.block_lt_of_cell? w _ hw328_4)).trans hw328_4), ((HB.out.cell (World.block_lt_of_cell? w _ hw328_5)).trans hw328_5), ((HB.out.cell (World.block_lt_of_cell? w _ hw329_0)).trans hw329_0), ((HB.out.cell (World.block_lt_of_cell? w _ hw329_1)).trans hw329_1), ((HB.out.cell (World.block_lt_of_cell? w _ hw329_2)).trans hw329_2), ((HB.out.cell (World.block_lt_of_cell? w _ hw329_3)).trans hw329_3), ((HB.out.cell (World.block_lt_of_cell? w _ hw329_4)).trans hw329_4), ((HB.out.cell (World.block_lt_of_cell? w _ hw329_5)).trans hw329_5)⟩ (fun hHeld => ?_)
        clear hK K
        refine norm_ (a' := ?_) ?_ ?_
        rotate_left
        ·show Act.put _ (some 25) _ = _
         simp only [Act.put, q1_, q2_, q3_, i64_w, i32_w]
         rfl
        refine pu_ (v := ?_) (a' := ?_) 9 26 (bl_ 10 1023) rfl rfl HT_.out (by kernel_rfl) (fun _ _ _ h => h) (.inl ⟨by rfl, ?_⟩) ?_ ?_
        rotate_left
        ·intro w'
         go_simp
         with_reducible rfl
        rotate_left
        ·simp only [Act.put, q1_, q2_, q3_, i64_w, i32_w]
         rfl
        refine done_ (done_of HT_.out (by kernel_rfl)) ?_
        try go_wp2
        go_roundg k1
        case measure => have := HK1.out; omega
        case rel => exact ⟨(wrap64 (x5_1 + 1)), (by first | rfl | (simp; done) | (simp [*]; done)), H', ⟨by have := HK1.out; omega⟩, ⟨bw_ HB.out⟩⟩
       replace c8 := Bool.eq_false_iff.mpr c8
       subst c8
       rw [if_neg (show ¬ (false = true) by decide)] at H
       obtain rfl := Option.some.inj H
       try go_wp2
       replace HB := Aside0.mk (below_drew1 HB.out)
       have p328 : 0 ≤ (x5_1 : Int) := of_decide_eq_true (by first | (with_reducible assumption) | assumption)
       have q328 : x5_1 < (l0.length : Int) := of_decide_eq_true (by first | (with_reducible assumption) | assumption)
       obtain ⟨ad328, A328_1, c328_1, A328_4, c328_4, A328_5, c328_5, e328, hx328_0, hx328_1, hx328_2, hx328_3, hx328_4, hx328_5, hl328_1, hi328_1, hl328_4, hi328_4, hl328_5, hi328_5⟩ := at_T276 HR0.out x5_1 p328 q328
       have hw328_5 := hx328_5
       have hw328_4 := hx328_4
       have hw328_3 := hx328_3
       have hw328_2 := hx328_2
       have hw328_1 := hx328_1
       have hw328_0 := hx328_0
       cases e328
       replace hx328_0 := (HB.out.cell (World.block_lt_of_cell? w _ hx328_0)).trans hx328_0
       replace hx328_1 := (HB.out.cell (World.block_lt_of_cell? w _ hx328_1)).trans hx328_1
       replace hx328_2 := (HB.out.cell (World.block_lt_of_cell? w _ hx328_2)).trans hx328_2
       replace hx328_3 := (HB.out.cell (World.block_lt_of_cell? w _ hx328_3)).trans hx328_3
       replace hx328_4 := (HB.out.cell (World.block_lt_of_cell? w _ hx328_4)).trans hx328_4
       replace hx328_5 := (HB.out.cell (World.block_lt_of_cell? w _ hx328_5)).trans hx328_5
       have HR328_1 := Aside0.mk hi328_1
       have HC328_1 := Aside0.mk hl328_1
       clear hi328_1 hl328_1
       have HR328_4 := Aside0.mk hi328_4
       have HC328_4 := Aside0.mk hl328_4
       clear hi328_4 hl328_4
       have HR328_5 := Aside0.mk hi328_5
       have HC328_5 := Aside0.mk hl328_5
       clear hi328_5 hl328_5
       replace p328 := eq_true p328
       replace q328 := eq_true q328
       have p329 : 0 ≤ (x5_1 : Int) := of_decide_eq_true (by first | (with_reducible assumption) | assumption)
       have q329 : x5_1 < (l1.length : Int) := of_decide_eq_true (by first | (with_reducible assumption) | assumption)
       obtain ⟨ad329, A329_1, c329_1, A329_4, c329_4, A329_5, c329_5, e329, hx329_0, hx329_1, hx329_2, hx329_3, hx329_4, hx329_5, hl329_1, hi329_1, hl329_4, hi329_4, hl329_5, hi329_5⟩ := at_T276 HR1.out x5_1 p329 q329
       have hw329_5 := hx329_5
       have hw329_4 := hx329_4
       have hw329_3 := hx329_3
       have hw329_2 := hx329_2
       have hw329_1 := hx329_1
       have hw329_0 := hx329_0
       cases e329
       replace hx329_0 := (HB.out.cell (World.block_lt_of_cell? w _ hx329_0)).trans hx329_0
       replace hx329_1 := (HB.out.cell (World.block_lt_of_cell? w _ hx329_1)).trans hx329_1
       replace hx329_2 := (HB.out.cell (World.block_lt_of_cell? w _ hx329_2)).trans hx329_2
       replace hx329_3 := (HB.out.cell (World.block_lt_of_cell? w _ hx329_3)).trans hx329_3
       replace hx329_4 := (HB.out.cell (World.block_lt_of_cell? w _ hx329_4)).trans hx329_4
       replace hx329_5 := (HB.out.cell (World.block_lt_of_cell? w _ hx329_5)).trans hx329_5
       have HR329_1 := Aside0.mk hi329_1
       have HC329_1 := Aside0.mk hl329_1
       clear hi329_1 hl329_1
       have HR329_4 := Aside0.mk hi329_4
       have HC329_4 := Aside0.mk hl329_4
       clear hi329_4 hl329_4
       have HR329_5 := Aside0.mk hi329_5
       have HC329_5 := Aside0.mk hl329_5
       clear hi329_5 hl329_5
       replace p329 := eq_true p329
       replace q329 := eq_true q329
       refine start_ (n := 10) (S := fun w' => w'.cell? (ad328.add ((x5_1).toNat * 6)) = some (.int .i64 ((rd_T276 l0 x5_1).f0)) ∧ w'.cell? ⟨(ad328.add ((x5_1).toNat * 6)).block, (ad328.add ((x5_1).toNat * 6)).off + 1, none⟩ = some (.slice A328_1 ((rd_T276 l0 x5_1).f1).length c328_1) ∧ w'.cell? ⟨(ad328.add ((x5_1).toNat * 6)).block, (ad328.add ((x5_1).toNat * 6)).off + 2, none⟩ = some (.int .i64 ((rd_T276 l0 x5_1).f2)) ∧ w'.cell? ⟨(ad328.add ((x5_1).toNat * 6)).block, (ad328.add ((x5_1).toNat * 6)).off + 3, none⟩ = some (.int .i64 ((rd_T276 l0 x5_1).f3)) ∧ w'.cell? ⟨(ad328.add ((x5_1).toNat * 6)).block, (ad328.add ((x5_1).toNat * 6)).off + 4, none⟩ = some (.slice A328_4 ((rd_T276 l0 x5_1).f4).length c328_4) ∧ w'.cell? ⟨(ad328.add ((x5_1).toNat * 6)).block, (ad328.add ((x5_1).toNat * 6)).off + 5, none⟩ = some (.slice A328_5 ((rd_T276 l0 x5_1).f5).length c328_5) ∧ w'.cell? (ad329.add ((x5_1).toNat * 6)) = some (.int .i64 ((rd_T276 l1 x5_1).f0)) ∧ w'.cell? ⟨(ad329.add ((x5_1).toNat * 6)).block, (ad329.add ((x5_1).toNat * 6)).off + 1, none⟩ = some (.slice A329_1 ((rd_T276 l1 x5_1).f1).length c329_1) ∧ w'.cell? ⟨(ad329.add ((x5_1).toNat * 6)).block, (ad329.add ((x5_1).toNat * 6)).off + 2, none⟩ = some (.int .i64 ((rd_T276 l1 x5_1).f2)) ∧ w'.cell? ⟨(ad329.add ((x5_1).toNat * 6)).block, (ad329.add ((x5_1).toNat * 6)).off + 3, none⟩ = some (.int .i64 ((rd_T276 l1 x5_1).f3)) ∧ w'.cell? ⟨(ad329.add ((x5_1).toNat * 6)).block, (ad329.add ((x5_1).toNat * 6)).off + 4, none⟩ = some (.slice A329_4 ((rd_T276 l1 x5_1).f4).length c329_4) ∧ w'.cell? ⟨(ad329.add ((x5_1).toNat * 6)).block, (ad329.add ((x5_1).toNat * 6)).off + 5, none⟩ = some (.slice A329_5 ((rd_T276 l1 x5_1).f5).length c329_5)) (ds := []) (Array.replicate 10 false) (by kernel_rfl) rfl rfl ⟨((HB.out.cell (World.block_lt_of_cell? w _ hw328_0)).trans hw328_0), ((HB.out.cell (World.block_lt_of_cell? w _ hw328_1)).trans hw328_1), ((HB.out.cell (World.block_lt_of_cell? w _ hw328_2)).trans hw328_2), ((HB.out.cell (World.block_lt_of_cell? w _ hw328_3)).trans hw328_3), ((HB.out.cell (World.block_lt_of_cell? w _ hw328_4)).trans hw328_4), ((HB.out.cell (World.block_lt_of_cell? w _ hw328_5)).trans hw328_5), ((HB.out.cell (World.block_lt_of_cell? w _ hw329_0)).trans hw329_0), ((HB.out.cell (World.block_lt_of_cell? w _ hw329_1)).trans hw329_1), ((HB.out.cell (World.block_lt_of_cell? w _ hw329_2)).trans hw329_2), ((HB.out.cell (World.block_lt_of_cell? w _ hw329_3)).trans hw329_3), ((HB.out.cell (World.block_lt_of_cell? w _ hw329_4)).trans hw329_4), ((HB.out.cell (World.block_lt_of_cell? w _ hw329_5)).trans hw329_5)⟩ (fun hHeld => ?_); refine with_tabW laws_eqZoneS.tab6 laws_eqZoneS.bits6 (fun HT_ HW_ => ?_)
       generalize wr.drew = w11 at HB HR328_1 HR328_4 HR328_5 HR329_1 HR329_4 HR329_5 hx328_0 hx328_1 hx328_2 hx328_3 hx328_4 hx328_5 hx329_0 hx329_1 hx329_2 hx329_3 hx329_4 hx329_5 hHeld ⊢
       refine pu_ (v := ?_) (a' := ?_) 0 17 (bl_ 10 1) rfl rfl HT_.out (by kernel_rfl) (fun _ _ _ h => h) (.inl ⟨by rfl, ?_⟩) ?_ ?_
       rotate_left
       ·intro w'
        go_simp
        with_reducible rfl
       rotate_left
       ·simp only [Act.put, q1_, q2_, q3_, i64_w, i32_w]
        rfl
       refine pu_ (v := ?_) (a' := ?_) 1 18 (bl_ 10 3) rfl rfl HT_.out (by kernel_rfl) (fun _ _ _ h => h) (.inl ⟨by rfl, ?_⟩) ?_ ?_
       rotate_left
       ·intro w'
        go_simp
        with_reducible rfl
       rotate_left
       ·simp only [Act.put, q1_, q2_, q3_, i64_w, i32_w]
        rfl
       refine pu_ (v := ?_) (a' := ?_) 2 19 (bl_ 10 7) rfl rfl HT_.out (by kernel_rfl) (fun _ _ _ h => h) (.inl ⟨by rfl, ?_⟩) ?_ ?_
       rotate_left
       ·intro w'
        go_simp
        with_reducible rfl
       rotate_left
       ·simp only [Act.put, q1_, q2_, q3_, i64_w, i32_w]
        rfl
       refine pu_ (v := ?_) (a' := ?_) 4 21 (bl_ 10 23) rfl rfl HT_.out (by kernel_rfl) (fun _ _ _ h => h) (.inl ⟨by rfl, ?_⟩) ?_ ?_
       rotate_left
       ·intro w'
        go_simp
        with_reducible rfl
       rotate_left
       ·simp only [Act.put, q1_, q2_, q3_, i64_w, i32_w]
        rfl
       refine pu_ (v := ?_) (a' := ?_) 5 22 (bl_ 10 55) rfl rfl HT_.out (by kernel_rfl) (fun _ _ _ h => h) (.inl ⟨by rfl, ?_⟩) ?_ ?_
       rotate_left
       ·intro w'
        go_simp
        with_reducible rfl
       rotate_left
       ·simp only [Act.put, q1_, q2_, q3_, i64_w, i32_w]
        rfl
       refine pu_ (v := ?_) (a' := ?_) 6 23 (bl_ 10 119) rfl rfl HT_.out (by kernel_rfl) (fun _ _ _ h => h) (.inl ⟨by rfl, ?_⟩) ?_ ?_
       rotate_left
       ·intro w'
        go_simp
        with_reducible rfl
       rotate_left
       ·simp only [Act.put, q1_, q2_, q3_, i64_w, i32_w]
        rfl
       refine tk_ (v := ?_) (a' := ?_) 3 20 (bl_ 10 127) rfl rfl HT_.out HW_.out (by kernel_rfl) (fun _ _ _ h => h) (.inl ⟨by rfl, ?_⟩) hHeld ?_ ?_
       rotate_left
       ·rintro w' ⟨s0, s1, s2, s3, s4, s5, s6, s7, s8, s9, s10, s11⟩
        go_simp
        with_reducible rfl
       rotate_left
       ·simp only [Act.put, q1_, q2_, q3_, i64_w, i32_w]
        rfl
       refine tk_ (v := ?_) (a' := ?_) 7 24 (bl_ 10 255) rfl rfl HT_.out HW_.out (by kernel_rfl) (fun _ _ _ h => h) (.inl ⟨by rfl, ?_⟩) hHeld ?_ ?_
       rotate_left
       ·rintro w' ⟨s0, s1, s2, s3, s4, s5, s6, s7, s8, s9, s10, s11⟩
        go_simp
        with_reducible rfl
       rotate_left
       ·simp only [Act.put, q1_, q2_, q3_, i64_w, i32_w]
        rfl
       refine one_ (i := 8) (N := some 25) (bl_ 10 511) rfl rfl (one_of HT_.out (by kernel_rfl)) (by decide) (fun K hK => ?_)
       refine goes_ Try.func272 (by kernel_rfl) rfl #[.agg #[.int .i64 ((rd_T276 l0 x5_1).f0), .slice A328_1 ((rd_T276 l0 x5_1).f1).length c328_1, .int .i64 ((rd_T276 l0 x5_1).f2), .int .i64 ((rd_T276 l0 x5_1).f3), .slice A328_4 ((rd_T276 l0 x5_1).f4).length c328_4, .slice A328_5 ((rd_T276 l0 x5_1).f5).length c328_5], .agg #[.int .i64 ((rd_T276 l1 x5_1).f0), .slice A329_1 ((rd_T276 l1 x5_1).f1).length c329_1, .int .i64 ((rd_T276 l1 x5_1).f2), .int .i64 ((rd_T276 l1 x5_1).f3), .slice A329_4 ((rd_T276 l1 x5_1).f4).length c329_4, .slice A329_5 ((rd_T276 l1 x5_1).f5).length c329_5]] (by rfl) rfl rfl (by (try simp only [List.map_toArray, List.map_cons, List.map_nil]); first | done | rfl | (simp only [List.length_drop, List.length_take]; rfl)) ?_
       with_reducible refine (laws_eqZone.calls k1 ((rd_T276 l0 x5_1).f0) _ _ ((rd_T276 l0 x5_1).f1) ((rd_T276 l0 x5_1).f2) ((rd_T276 l0 x5_1).f3) _ _ ((rd_T276 l0 x5_1).f4) _ _ ((rd_T276 l0 x5_1).f5) ((rd_T276 l1 x5_1).f0) _ _ ((rd_T276 l1 x5_1).f1) ((rd_T276 l1 x5_1).f2) ((rd_T276 l1 x5_1).f3) _ _ ((rd_T276 l1 x5_1).f4) _ _ ((rd_T276 l1 x5_1).f5) false _ ?side1 ?side2 ?side3 ?side4 ?side5 ?side6 ?side7 ?side8 ?side9 ?side10 ?side11 ?side12 A7.out).mono ?_
       (case side1 => exact Kd.C_below HR328_1.out (bw_ HB.out))
       (case side2 => exact HC328_1.out)
       (case side3 => exact Kd.C_below HR328_4.out (bw_ HB.out))
       (case side4 => exact HC328_4.out)
       (case side5 => exact Kd.C_below HR328_5.out (bw_ HB.out))
       (case side6 => exact HC328_5.out)
       (case side7 => exact Kd.C_below HR329_1.out (bw_ HB.out))
       (case side8 => exact HC329_1.out)
       (case side9 => exact Kd.C_below HR329_4.out (bw_ HB.out))
       (case side10 => exact HC329_4.out)
       (case side11 => exact Kd.C_below HR329_5.out (bw_ HB.out))
       (case side12 => exact HC329_5.out)
       rintro e w12 ⟨rfl, hb⟩
       refine ⟨_, rfl, ?_⟩
       replace HB := Aside0.mk (below_step (bw_ HB.out) hb)
       refine hK.out _ _ ⟨((HB.out.cell (World.block_lt_of_cell? w _ hw328_0)).trans hw328_0), ((HB.out.cell (World.block_lt_of_cell? w _ hw328_1)).trans hw328_1), ((HB.out.cell (World.block_lt_of_cell? w _ hw328_2)).trans hw328_2), ((HB.out.cell (World.block_lt_of_cell? w _ hw328_3)).trans hw328_3), ((HB.out.cell (World.block_lt_of_cell? w _ hw328_4)).trans hw328_4), ((HB.out.cell (World.block_lt_of_cell? w _ hw328_5)).trans hw328_5), ((HB.out.cell (World.block_lt_of_cell? w _ hw329_0)).trans hw329_0), ((HB.out.cell (World.block_lt_of_cell? w _ hw329_1)).trans hw329_1), ((HB.out.cell (World.block_lt_of_cell? w _ hw329_2)).trans hw329_2), ((HB.out.cell (World.block_lt_of_cell? w _ hw329_3)).trans hw329_3), ((HB.out.cell (World.block_lt_of_cell? w _ hw329_4)).trans hw329_4), ((HB.out.cell (World.block_lt_of_cell? w _ hw329_5)).trans hw329_5)⟩ (fun hHeld => ?_)
       clear hK K
       refine norm_ (a' := ?_) ?_ ?_
       rotate_left
       ·show Act.put _ (some 25) _ = _
        simp only [Act.put, q1_, q2_, q3_, i64_w, i32_w]
        rfl
       refine pu_ (v := ?_) (a' := ?_) 9 26 (bl_ 10 1023) rfl rfl HT_.out (by kernel_rfl) (fun _ _ _ h => h) (.inl ⟨by rfl, ?_⟩) ?_ ?_
       rotate_left
       ·intro w'
        go_simp
        with_reducible rfl
       rotate_left
       ·simp only [Act.put, q1_, q2_, q3_, i64_w, i32_w]
        rfl
       refine done_ (done_of HT_.out (by kernel_rfl)) ?_
       try go_wp2
       go_ret
       exact ⟨by first | rfl | (simp [errW_none, errW_some] <;> rfl) | (simp [*, errW_none, errW_some] <;> rfl), bw_ HB.out⟩
      rw [if_neg c6] at H
      exact absurd H (by simp)
     rw [if_neg c5] at H
     exact absurd H (by simp)
    rw [if_neg c4] at H
    have c4b0 : decide (x5_1 < (l0.length : Int)) = false := decide_eq_false c4
    clear c4
    obtain rfl := Option.some.inj H
    go_wp2
    go_ret
    exact ⟨by first | rfl | (simp [errW_none, errW_some] <;> rfl) | (simp [*, errW_none, errW_some] <;> rfl), bw_ HB.out⟩
 rw [if_neg c3] at H
 have c3b0 : ((l0.length : Int) == (l1.length : Int)) = false := beq_eq_false_iff_ne.mpr c3
 have c3b1 : ((l0.length : Int) != (l1.length : Int)) = true := bne_iff_ne.mpr c3
 have c3b2 : (l0.length == l1.length) = false := by first | simpa using c3 | (simp at c3 ⊢; omega)
 obtain rfl := Option.some.inj H
 go_enter Try.func187, Try.ntmps187
 go_wp2
 go_ret
 exact ⟨by first | rfl | (simp [errW_none, errW_some] <;> rfl) | (simp [*, errW_none, errW_some] <;> rfl), bw_ HB.out⟩

/-! ### laws_eqDevice: function 80 -/
def laws_eqDevice.f (k : Nat) (a0_0 : Int) (a0_1 : Int) (a0_2 : Int) (l0_3 : List (S218)) (a0_4 : Int) (a0_5 : Int) (a0_6 : Bool) (a0_7 : Int) (l0_8 : List (S276)) (a1_0 : Int) (a1_1 : Int) (a1_2 : Int) (l1_3 : List (S218)) (a1_4 : Int) (a1_5 : Int) (a1_6 : Bool) (a1_7 : Int) (l1_8 : List (S276)) : Option (Bool) := (laws_eqFlash.f k a0_0 a0_1 a0_2 l0_3 a0_4 a0_5 a0_6 a0_7 a1_0 a1_1 a1_2 l1_3 a1_4 a1_5 a1_6 a1_7).bind fun t333 => (if t333 = true then ((laws_eqZoneS.f k l0_8 l1_8).bind fun t334 => (if t334 = true then (some true) else (some false))) else (some false))
theorem laws_eqDevice.mono : ∀ a0 a1 a2 a3 a4 a5 a6 a7 a8 a9 a10 a11 a12 a13 a14 a15 a16 a17 k, LeO (laws_eqDevice.f k a0 a1 a2 a3 a4 a5 a6 a7 a8 a9 a10 a11 a12 a13 a14 a15 a16 a17) (laws_eqDevice.f (k + 1) a0 a1 a2 a3 a4 a5 a6 a7 a8 a9 a10 a11 a12 a13 a14 a15 a16 a17) := by
 intro a0 a1 a2 a3 a4 a5 a6 a7 a8 a9 a10 a11 a12 a13 a14 a15 a16 a17 k
 unfold laws_eqDevice.f
 repeat' first
   | (with_reducible exact laws_eqFlash.mono _ _ _ _ _ _ _ _ _ _ _ _ _ _ _ _ _)
   | (with_reducible exact laws_eqZoneS.mono _ _ _)
   | (with_reducible exact LeO.refl _)
   | (with_reducible exact LeO.none _)
   | (with_reducible refine LeO.ite ?_ ?_)
   | (with_reducible refine LeO.bind ?_ (fun _ => ?_))
   | exact laws_eqFlash.mono _ _ _ _ _ _ _ _ _ _ _ _ _ _ _ _ _
   | exact laws_eqZoneS.mono _ _ _
   | exact LeO.none _
   | refine LeO.ite ?_ ?_
   | refine LeO.bind ?_ (fun _ => ?_)
set_option maxHeartbeats 8000000 in
set_option maxRecDepth 100000 in
theorem laws_eqDevice.calls (k : Nat) (a0_0 : Int) (a0_1 : Int) (a0_2 : Int) (A0_3 : Option Addr) (c0_3 : Nat) (l0_3 : List (S218)) (a0_4 : Int) (a0_5 : Int) (a0_6 : Bool) (a0_7 : Int) (A0_8 : Option Addr) (c0_8 : Nat) (l0_8 : List (S276)) (a1_0 : Int) (a1_1 : Int) (a1_2 : Int) (A1_3 : Option Addr) (c1_3 : Nat) (l1_3 : List (S218)) (a1_4 : Int) (a1_5 : Int) (a1_6 : Bool) (a1_7 : Int) (A1_8 : Option Addr) (c1_8 : Nat) (l1_8 : List (S276)) (r : Bool) (w : World) (hr0_3 : Kd.C k218 w A0_3 l0_3.length l0_3) (hc0_3 : l0_3.length ≤ c0_3) (hr0_8 : Kd.C k276 w A0_8 l0_8.length l0_8) (hc0_8 : l0_8.length ≤ c0_8) (hr1_3 : Kd.C k218 w A1_3 l1_3.length l1_3) (hc1_3 : l1_3.length ≤ c1_3) (hr1_8 : Kd.C k276 w A1_8 l1_8.length l1_8) (hc1_8 : l1_8.length ≤ c1_8) (h : laws_eqDevice.f k a0_0 a0_1 a0_2 l0_3 a0_4 a0_5 a0_6 a0_7 l0_8 a1_0 a1_1 a1_2 l1_3 a1_4 a1_5 a1_6 a1_7 l1_8 = some r) :
  Calls Try.prog 80 #[.agg #[.int .i64 a0_0, .int .i64 a0_1, .int .i64 a0_2, .slice A0_3 l0_3.length c0_3, .int .i64 a0_4, .int .i64 a0_5, .bool a0_6, .int .i64 a0_7, .slice A0_8 l0_8.length c0_8], .agg #[.int .i64 a1_0, .int .i64 a1_1, .int .i64 a1_2, .slice A1_3 l1_3.length c1_3, .int .i64 a1_4, .int .i64 a1_5, .bool a1_6, .int .i64 a1_7, .slice A1_8 l1_8.length c1_8]] w fun e w' => e = .returned (.bool r) ∧ Below w.heap.size w w' := by
 have hu126 := Try.underlying126
 have hu45 := Try.underlying45
 have HR0_3 := Aside0.mk hr0_3
 have HC0_3 := Aside0.mk hc0_3
 clear hr0_3 hc0_3
 have HR0_8 := Aside0.mk hr0_8
 have HC0_8 := Aside0.mk hc0_8
 clear hr0_8 hc0_8
 have HR1_3 := Aside0.mk hr1_3
 have HC1_3 := Aside0.mk hc1_3
 clear hr1_3 hc1_3
 have HR1_8 := Aside0.mk hr1_8
 have HC1_8 := Aside0.mk hc1_8
 clear hr1_8 hc1_8
 have HB := Aside0.mk (Below.refl w.heap.size w)
 have H := h; unfold laws_eqDevice.f at H
 clear h
 replace H := Option.bind_eq_some_iff.mp H
 obtain ⟨t333, A30, H⟩ := H
 have A3 := Aside0.mk A30
 clear A30
 by_cases c4 : t333 = true
 ·subst c4
  rw [if_pos rfl] at H
  replace H := Option.bind_eq_some_iff.mp H
  obtain ⟨t334, A50, H⟩ := H
  have A5 := Aside0.mk A50
  clear A50
  by_cases c6 : t334 = true
  ·subst c6
   rw [if_pos rfl] at H
   obtain rfl := Option.some.inj H
   go_enter Try.func80, Try.ntmps80
   go_wp2_with (first | ((with_reducible refine gate_dst (N := 2) rfl ?_); refine box_event ?hg (N := 2) ?hd (cs := #[.int .i64 a0_0, .int .i64 a0_1, .int .i64 a0_2, .slice A0_3 l0_3.length c0_3, .int .i64 a0_4, .int .i64 a0_5, .bool a0_6, .int .i64 a0_7, .slice A0_8 l0_8.length c0_8]) (t := 126) ?hr ?_; (case hd => rfl); (case hg => rfl); (case hr => first | (go_simp; done) | (go_simp; rfl)); intro gb331 hg w7 hbox hb; have BK331 := Aside0.mk (hbox); have GW331 := Aside0.mk ((by rw [hg]; exact (below_size (bw_ HB.out)) : w.heap.size ≤ gb331)); have GE331 := Nonempty.intro GW331.out; replace HB := Aside0.mk (below_step (bw_ HB.out) hb); clear hb hbox hg) | ((with_reducible refine gate_dst (N := 3) rfl ?_); refine box_event ?hg (N := 3) ?hd (cs := #[.int .i64 a1_0, .int .i64 a1_1, .int .i64 a1_2, .slice A1_3 l1_3.length c1_3, .int .i64 a1_4, .int .i64 a1_5, .bool a1_6, .int .i64 a1_7, .slice A1_8 l1_8.length c1_8]) (t := 126) ?hr ?_; (case hd => rfl); (case hg => rfl); (case hr => first | (go_simp; done) | (go_simp; rfl)); intro gb332 hg w8 hbox hb; have BK332 := Aside0.mk (hbox); have GW332 := Aside0.mk ((by rw [hg]; exact (below_size (bw_ HB.out)) : w.heap.size ≤ gb332)); have GE332 := Nonempty.intro GW332.out; replace HB := Aside0.mk (below_step (bw_ HB.out) hb); have NB331_332 := Aside0.mk ((by rw [hg]; exact Nat.ne_of_lt (blk_lt (bk_ BK331.out)) : gb331 ≠ gb332)); have NB332_331 := Aside0.mk ((by rw [hg]; exact Nat.ne_of_gt (blk_lt (bk_ BK331.out)) : gb332 ≠ gb331)); replace BK331 := Aside0.mk (blk_below (bk_ BK331.out) hb); clear hb hbox hg; have hnb9 := NB331_332.out; have hnc9 := NB332_331.out; obtain ⟨hcz10_0, hcz10_1, hcz10_2, hcz10_3, hcz10_4, hcz10_5, hcz10_6, hcz10_7, hcz10_8⟩ := cells9 BK331.out; obtain ⟨hfz10_0, hfz10_1, hfz10_2, hfz10_3, hfz10_4, hfz10_5, hfz10_6, hfz10_7, hfz10_8⟩ := frozen9 BK331.out; obtain ⟨hcz11_0, hcz11_1, hcz11_2, hcz11_3, hcz11_4, hcz11_5, hcz11_6, hcz11_7, hcz11_8⟩ := cells9 BK332.out; obtain ⟨hfz11_0, hfz11_1, hfz11_2, hfz11_3, hfz11_4, hfz11_5, hfz11_6, hfz11_7, hfz11_8⟩ := frozen9 BK332.out) | ((with_reducible refine gate_callee (f := 29) rfl ?_); refine goesL_ (some 9) rfl rfl Try.func29 (by kernel_rfl) rfl #[.agg #[.int .i64 a0_0, .int .i64 a0_1, .int .i64 a0_2, .slice A0_3 l0_3.length c0_3, .int .i64 a0_4, .int .i64 a0_5, .bool a0_6, .int .i64 a0_7], .agg #[.int .i64 a1_0, .int .i64 a1_1, .int .i64 a1_2, .slice A1_3 l1_3.length c1_3, .int .i64 a1_4, .int .i64 a1_5, .bool a1_6, .int .i64 a1_7]] rfl (by (try simp only [List.map_toArray, List.map_cons, List.map_nil]); first | done | rfl | (simp only [List.length_drop, List.length_take]; rfl)) ?_; (with_reducible refine (laws_eqFlash.calls k a0_0 a0_1 a0_2 _ _ l0_3 a0_4 a0_5 a0_6 a0_7 a1_0 a1_1 a1_2 _ _ l1_3 a1_4 a1_5 a1_6 a1_7 true _ ?side1 ?side2 ?side3 ?side4 A3.out).mono ?_); (case side1 => exact Kd.C_below HR0_3.out (bw_ HB.out)); (case side2 => exact HC0_3.out); (case side3 => exact Kd.C_below HR1_3.out (bw_ HB.out)); (case side4 => exact HC1_3.out); rintro e w12 ⟨rfl, hb⟩; refine ⟨_, rfl, ?_⟩; replace BK331 := Aside0.mk (blk_below (bk_ BK331.out) hb); replace BK332 := Aside0.mk (blk_below (bk_ BK332.out) hb); replace HB := Aside0.mk (below_step (bw_ HB.out) hb); (try clear hb); obtain ⟨hcz13_0, hcz13_1, hcz13_2, hcz13_3, hcz13_4, hcz13_5, hcz13_6, hcz13_7, hcz13_8⟩ := cells9 BK331.out; obtain ⟨hfz13_0, hfz13_1, hfz13_2, hfz13_3, hfz13_4, hfz13_5, hfz13_6, hfz13_7, hfz13_8⟩ := frozen9 BK331.out; obtain ⟨hcz14_0, hcz14_1, hcz14_2, hcz14_3, hcz14_4, hcz14_5, hcz14_6, hcz14_7, hcz14_8⟩ := cells9 BK332.out; obtain ⟨hfz14_0, hfz14_1, hfz14_2, hfz14_3, hfz14_4, hfz14_5, hfz14_6, hfz14_7, hfz14_8⟩ := frozen9 BK332.out) | ((with_reducible refine gate_callee (f := 187) rfl ?_); refine goesL_ (some 15) rfl rfl Try.func187 (by kernel_rfl) rfl #[.slice A0_8 l0_8.length c0_8, .slice A1_8 l1_8.length c1_8] rfl (by (try simp only [List.map_toArray, List.map_cons, List.map_nil]); first | done | rfl | (simp only [List.length_drop, List.length_take]; rfl)) ?_; (with_reducible refine (laws_eqZoneS.calls k _ _ l0_8 _ _ l1_8 true _ ?side1 ?side2 ?side3 ?side4 A5.out).mono ?_); (case side1 => exact Kd.C_below HR0_8.out (bw_ HB.out)); (case side2 => exact HC0_8.out); (case side3 => exact Kd.C_below HR1_8.out (bw_ HB.out)); (case side4 => exact HC1_8.out); rintro e w15 ⟨rfl, hb⟩; refine ⟨_, rfl, ?_⟩; replace BK331 := Aside0.mk (blk_below (bk_ BK331.out) hb); replace BK332 := Aside0.mk (blk_below (bk_ BK332.out) hb); replace HB := Aside0.mk (below_step (bw_ HB.out) hb); (try clear hb)))
   go_ret
   exact ⟨by first | rfl | (simp [errW_none, errW_some] <;> rfl) | (simp [*, errW_none, errW_some] <;> rfl), bw_ HB.out⟩
  replace c6 := Bool.eq_false_iff.mpr c6
  subst c6
  rw [if_neg (show ¬ (false = true) by decide)] at H
  obtain rfl := Option.some.inj H
  go_enter Try.func80, Try.ntmps80
  go_wp2_with (first | ((with_reducible refine gate_dst (N := 2) rfl ?_); refine box_event ?hg (N := 2) ?hd (cs := #[.int .i64 a0_0, .int .i64 a0_1, .int .i64 a0_2, .slice A0_3 l0_3.length c0_3, .int .i64 a0_4, .int .i64 a0_5, .bool a0_6, .int .i64 a0_7, .slice A0_8 l0_8.length c0_8]) (t := 126) ?hr ?_; (case hd => rfl); (case hg => rfl); (case hr => first | (go_simp; done) | (go_simp; rfl)); intro gb331 hg w16 hbox hb; have BK331 := Aside0.mk (hbox); have GW331 := Aside0.mk ((by rw [hg]; exact (below_size (bw_ HB.out)) : w.heap.size ≤ gb331)); have GE331 := Nonempty.intro GW331.out; replace HB := Aside0.mk (below_step (bw_ HB.out) hb); clear hb hbox hg) | ((with_reducible refine gate_dst (N := 3) rfl ?_); refine box_event ?hg (N := 3) ?hd (cs := #[.int .i64 a1_0, .int .i64 a1_1, .int .i64 a1_2, .slice A1_3 l1_3.length c1_3, .int .i64 a1_4, .int .i64 a1_5, .bool a1_6, .int .i64 a1_7, .slice A1_8 l1_8.length c1_8]) (t := 126) ?hr ?_; (case hd => rfl); (case hg => rfl); (case hr => first | (go_simp; done) | (go_simp; rfl)); intro gb332 hg w17 hbox hb; have BK332 := Aside0.mk (hbox); have GW332 := Aside0.mk ((by rw [hg]; exact (below_size (bw_ HB.out)) : w.heap.size ≤ gb332)); have GE332 := Nonempty.intro GW332.out; replace HB := Aside0.mk (below_step (bw_ HB.out) hb); have NB331_332 := Aside0.mk ((by rw [hg]; exact Nat.ne_of_lt (blk_lt (bk_ BK331.out)) : gb331 ≠ gb332)); have NB332_331 := Aside0.mk ((by rw [hg]; exact Nat.ne_of_gt (blk_lt (bk_ BK331.out)) : gb332 ≠ gb331)); replace BK331 := Aside0.mk (blk_below (bk_ BK331.out) hb); clear hb hbox hg; have hnb18 := NB331_332.out; have hnc18 := NB332_331.out; obtain ⟨hcz19_0, hcz19_1, hcz19_2, hcz19_3, hcz19_4, hcz19_5, hcz19_6, hcz19_7, hcz19_8⟩ := cells9 BK331.out; obtain ⟨hfz19_0, hfz19_1, hfz19_2, hfz19_3, hfz19_4, hfz19_5, hfz19_6, hfz19_7, hfz19_8⟩ := frozen9 BK331.out; obtain ⟨hcz20_0, hcz20_1, hcz20_2, hcz20_3, hcz20_4, hcz20_5, hcz20_6, hcz20_7, hcz20_8⟩ := cells9 BK332.out; obtain ⟨hfz20_0, hfz20_1, hfz20_2, hfz20_3, hfz20_4, hfz20_5, hfz20_6, hfz20_7, hfz20_8⟩ := frozen9 BK332.out) | ((with_reducible refine gate_callee (f := 29) rfl ?_); refine goesL_ (some 9) rfl rfl Try.func29 (by kernel_rfl) rfl #[.agg #[.int .i64 a0_0, .int .i64 a0_1, .int .i64 a0_2, .slice A0_3 l0_3.length c0_3, .int .i64 a0_4, .int .i64 a0_5, .bool a0_6, .int .i64 a0_7], .agg #[.int .i64 a1_0, .int .i64 a1_1, .int .i64 a1_2, .slice A1_3 l1_3.length c1_3, .int .i64 a1_4, .int .i64 a1_5, .bool a1_6, .int .i64 a1_7]] rfl (by (try simp only [List.map_toArray, List.map_cons, List.map_nil]); first | done | rfl | (simp only [List.length_drop, List.length_take]; rfl)) ?_; (with_reducible refine (laws_eqFlash.calls k a0_0 a0_1 a0_2 _ _ l0_3 a0_4 a0_5 a0_6 a0_7 a1_0 a1_1 a1_2 _ _ l1_3 a1_4 a1_5 a1_6 a1_7 true _ ?side1 ?side2 ?side3 ?side4 A3.out).mono ?_); (case side1 => exact Kd.C_below HR0_3.out (bw_ HB.out)); (case side2 => exact HC0_3.out); (case side3 => exact Kd.C_below HR1_3.out (bw_ HB.out)); (case side4 => exact HC1_3.out); rintro e w21 ⟨rfl, hb⟩; refine ⟨_, rfl, ?_⟩; replace BK331 := Aside0.mk (blk_below (bk_ BK331.out) hb); replace BK332 := Aside0.mk (blk_below (bk_ BK332.out) hb); replace HB := Aside0.mk (below_step (bw_ HB.out) hb); (try clear hb); obtain ⟨hcz22_0, hcz22_1, hcz22_2, hcz22_3, hcz22_4, hcz22_5, hcz22_6, hcz22_7, hcz22_8⟩ := cells9 BK331.out; obtain ⟨hfz22_0, hfz22_1, hfz22_2, hfz22_3, hfz22_4, hfz22_5, hfz22_6, hfz22_7, hfz22_8⟩ := frozen9 BK331.out; obtain ⟨hcz23_0, hcz23_1, hcz23_2, hcz23_3, hcz23_4, hcz23_5, hcz23_6, hcz23_7, hcz23_8⟩ := cells9 BK332.out; obtain ⟨hfz23_0, hfz23_1, hfz23_2, hfz23_3, hfz23_4, hfz23_5, hfz23_6, hfz23_7, hfz23_8⟩ := frozen9 BK332.out) | ((with_reducible refine gate_callee (f := 187) rfl ?_); refine goesL_ (some 15) rfl rfl Try.func187 (by kernel_rfl) rfl #[.slice A0_8 l0_8.length c0_8, .slice A1_8 l1_8.length c1_8] rfl (by (try simp only [List.map_toArray, List.map_cons, List.map_nil]); first | done | rfl | (simp only [List.length_drop, List.length_take]; rfl)) ?_; (with_reducible refine (laws_eqZoneS.calls k _ _ l0_8 _ _ l1_8 false _ ?side1 ?side2 ?side3 ?side4 A5.out).mono ?_); (case side1 => exact Kd.C_below HR0_8.out (bw_ HB.out)); (case side2 => exact HC0_8.out); (case side3 => exact Kd.C_below HR1_8.out (bw_ HB.out)); (case side4 => exact HC1_8.out); rintro e w24 ⟨rfl, hb⟩; refine ⟨_, rfl, ?_⟩; replace BK331 := Aside0.mk (blk_below (bk_ BK331.out) hb); replace BK332 := Aside0.mk (blk_below (bk_ BK332.out) hb); replace HB := Aside0.mk (below_step (bw_ HB.out) hb); (try clear hb)))
  go_ret
  exact ⟨by first | rfl | (simp [errW_none, errW_some] <;> rfl) | (simp [*, errW_none, errW_some] <;> rfl), bw_ HB.out⟩
 replace c4 := Bool.eq_false_iff.mpr c4
 subst c4
 rw [if_neg (show ¬ (false = true) by decide)] at H
 obtain rfl := Option.some.inj H
 go_enter Try.func80, Try.ntmps80
 go_wp2_with (first | ((with_reducible refine gate_dst (N := 2) rfl ?_); refine box_event ?hg (N := 2) ?hd (cs := #[.int .i64 a0_0, .int .i64 a0_1, .int .i64 a0_2, .slice A0_3 l0_3.length c0_3, .int .i64 a0_4, .int .i64 a0_5, .bool a0_6, .int .i64 a0_7, .slice A0_8 l0_8.length c0_8]) (t := 126) ?hr ?_; (case hd => rfl); (case hg => rfl); (case hr => first | (go_simp; done) | (go_simp; rfl)); intro gb331 hg w25 hbox hb; have BK331 := Aside0.mk (hbox); have GW331 := Aside0.mk ((by rw [hg]; exact (below_size (bw_ HB.out)) : w.heap.size ≤ gb331)); have GE331 := Nonempty.intro GW331.out; replace HB := Aside0.mk (below_step (bw_ HB.out) hb); clear hb hbox hg) | ((with_reducible refine gate_dst (N := 3) rfl ?_); refine box_event ?hg (N := 3) ?hd (cs := #[.int .i64 a1_0, .int .i64 a1_1, .int .i64 a1_2, .slice A1_3 l1_3.length c1_3, .int .i64 a1_4, .int .i64 a1_5, .bool a1_6, .int .i64 a1_7, .slice A1_8 l1_8.length c1_8]) (t := 126) ?hr ?_; (case hd => rfl); (case hg => rfl); (case hr => first | (go_simp; done) | (go_simp; rfl)); intro gb332 hg w26 hbox hb; have BK332 := Aside0.mk (hbox); have GW332 := Aside0.mk ((by rw [hg]; exact (below_size (bw_ HB.out)) : w.heap.size ≤ gb332)); have GE332 := Nonempty.intro GW332.out; replace HB := Aside0.mk (below_step (bw_ HB.out) hb); have NB331_332 := Aside0.mk ((by rw [hg]; exact Nat.ne_of_lt (blk_lt (bk_ BK331.out)) : gb331 ≠ gb332)); have NB332_331 := Aside0.mk ((by rw [hg]; exact Nat.ne_of_gt (blk_lt (bk_ BK331.out)) : gb332 ≠ gb331)); replace BK331 := Aside0.mk (blk_below (bk_ BK331.out) hb); clear hb hbox hg; have hnb27 := NB331_332.out; have hnc27 := NB332_331.out; obtain ⟨hcz28_0, hcz28_1, hcz28_2, hcz28_3, hcz28_4, hcz28_5, hcz28_6, hcz28_7, hcz28_8⟩ := cells9 BK331.out; obtain ⟨hfz28_0, hfz28_1, hfz28_2, hfz28_3, hfz28_4, hfz28_5, hfz28_6, hfz28_7, hfz28_8⟩ := frozen9 BK331.out; obtain ⟨hcz29_0, hcz29_1, hcz29_2, hcz29_3, hcz29_4, hcz29_5, hcz29_6, hcz29_7, hcz29_8⟩ := cells9 BK332.out; obtain ⟨hfz29_0, hfz29_1, hfz29_2, hfz29_3, hfz29_4, hfz29_5, hfz29_6, hfz29_7, hfz29_8⟩ := frozen9 BK332.out) | ((with_reducible refine gate_callee (f := 29) rfl ?_); refine goesL_ (some 9) rfl rfl Try.func29 (by kernel_rfl) rfl #[.agg #[.int .i64 a0_0, .int .i64 a0_1, .int .i64 a0_2, .slice A0_3 l0_3.length c0_3, .int .i64 a0_4, .int .i64 a0_5, .bool a0_6, .int .i64 a0_7], .agg #[.int .i64 a1_0, .int .i64 a1_1, .int .i64 a1_2, .slice A1_3 l1_3.length c1_3, .int .i64 a1_4, .int .i64 a1_5, .bool a1_6, .int .i64 a1_7]] rfl (by (try simp only [List.map_toArray, List.map_cons, List.map_nil]); first | done | rfl | (simp only [List.length_drop, List.length_take]; rfl)) ?_; (with_reducible refine (laws_eqFlash.calls k a0_0 a0_1 a0_2 _ _ l0_3 a0_4 a0_5 a0_6 a0_7 a1_0 a1_1 a1_2 _ _ l1_3 a1_4 a1_5 a1_6 a1_7 false _ ?side1 ?side2 ?side3 ?side4 A3.out).mono ?_); (case side1 => exact Kd.C_below HR0_3.out (bw_ HB.out)); (case side2 => exact HC0_3.out); (case side3 => exact Kd.C_below HR1_3.out (bw_ HB.out)); (case side4 => exact HC1_3.out); rintro e w30 ⟨rfl, hb⟩; refine ⟨_, rfl, ?_⟩; replace BK331 := Aside0.mk (blk_below (bk_ BK331.out) hb); replace BK332 := Aside0.mk (blk_below (bk_ BK332.out) hb); replace HB := Aside0.mk (below_step (bw_ HB.out) hb); (try clear hb)))
 go_ret
 exact ⟨by first | rfl | (simp [errW_none, errW_some] <;> rfl) | (simp [*, errW_none, errW_some] <;> rfl), bw_ HB.out⟩

/-! ### laws_FnExactRoomIn: function 13 -/
def laws_FnExactRoomIn.f (k : Nat) (a0_0 : Int) (a0_1 : Int) (a0_2 : Int) (l0_3 : List (S234)) (a0_4 : Int) (a0_5 : Int) (a0_6 : Bool) (a0_7 : Int) (l0_8 : List (S275)) (a1 : Int) : Option (Bool) := (laws_szDevice.f k a0_0 a0_1 a0_2 l0_3 a0_4 a0_5 a0_6 a0_7 l0_8 1048576).bind fun t336 => (if t336 < 0 then (some true) else ((laws_toDevice.f k a0_0 a0_1 a0_2 l0_3 a0_4 a0_5 a0_6 a0_7 l0_8).bind fun bt337 => ((spec_RoomIn.f k bt337.1 bt337.2.1 bt337.2.2.1 bt337.2.2.2.1 bt337.2.2.2.2.1 bt337.2.2.2.2.2.1 bt337.2.2.2.2.2.2.1 bt337.2.2.2.2.2.2.2.1 bt337.2.2.2.2.2.2.2.2 a1).bind fun t350 => ((laws_toDevice.f k a0_0 a0_1 a0_2 l0_3 a0_4 a0_5 a0_6 a0_7 l0_8).bind fun bt351 => ((impl_RoomIn.f k bt351.1 bt351.2.1 bt351.2.2.1 bt351.2.2.2.1 bt351.2.2.2.2.1 bt351.2.2.2.2.2.1 bt351.2.2.2.2.2.2.1 bt351.2.2.2.2.2.2.2.1 bt351.2.2.2.2.2.2.2.2 a1).bind fun t365 => (if t365 = t350 then ((laws_toDevice.f k a0_0 a0_1 a0_2 l0_3 a0_4 a0_5 a0_6 a0_7 l0_8).bind fun bt366 => ((laws_eqDevice.f k bt351.1 bt351.2.1 bt351.2.2.1 bt351.2.2.2.1 bt351.2.2.2.2.1 bt351.2.2.2.2.2.1 bt351.2.2.2.2.2.2.1 bt351.2.2.2.2.2.2.2.1 bt351.2.2.2.2.2.2.2.2 bt366.1 bt366.2.1 bt366.2.2.1 bt366.2.2.2.1 bt366.2.2.2.2.1 bt366.2.2.2.2.2.1 bt366.2.2.2.2.2.2.1 bt366.2.2.2.2.2.2.2.1 bt366.2.2.2.2.2.2.2.2).bind fun t379 => (if t379 = true then (some true) else (some false)))) else (some false)))))))
theorem laws_FnExactRoomIn.mono : ∀ a0 a1 a2 a3 a4 a5 a6 a7 a8 a9 k, LeO (laws_FnExactRoomIn.f k a0 a1 a2 a3 a4 a5 a6 a7 a8 a9) (laws_FnExactRoomIn.f (k + 1) a0 a1 a2 a3 a4 a5 a6 a7 a8 a9) := by
 intro a0 a1 a2 a3 a4 a5 a6 a7 a8 a9 k
 unfold laws_FnExactRoomIn.f
 repeat' first
   | (with_reducible exact impl_RoomIn.mono _ _ _ _ _ _ _ _ _ _ _)
   | (with_reducible exact laws_eqDevice.mono _ _ _ _ _ _ _ _ _ _ _ _ _ _ _ _ _ _ _)
   | (with_reducible exact laws_szDevice.mono _ _ _ _ _ _ _ _ _ _ _)
   | (with_reducible exact laws_toDevice.mono _ _ _ _ _ _ _ _ _ _)
   | (with_reducible exact spec_RoomIn.mono _ _ _ _ _ _ _ _ _ _ _)
   | (with_reducible exact LeO.refl _)
   | (with_reducible exact LeO.none _)
   | (with_reducible refine LeO.ite ?_ ?_)
   | (with_reducible refine LeO.bind ?_ (fun _ => ?_))
   | exact impl_RoomIn.mono _ _ _ _ _ _ _ _ _ _ _
   | exact laws_eqDevice.mono _ _ _ _ _ _ _ _ _ _ _ _ _ _ _ _ _ _ _
   | exact laws_szDevice.mono _ _ _ _ _ _ _ _ _ _ _
   | exact laws_toDevice.mono _ _ _ _ _ _ _ _ _ _
   | exact spec_RoomIn.mono _ _ _ _ _ _ _ _ _ _ _
   | exact LeO.none _
   | refine LeO.ite ?_ ?_
   | refine LeO.bind ?_ (fun _ => ?_)
set_option maxHeartbeats 8000000 in
set_option maxRecDepth 100000 in
theorem laws_FnExactRoomIn.calls (k : Nat) (a0_0 : Int) (a0_1 : Int) (a0_2 : Int) (A0_3 : Option Addr) (c0_3 : Nat) (l0_3 : List (S234)) (a0_4 : Int) (a0_5 : Int) (a0_6 : Bool) (a0_7 : Int) (A0_8 : Option Addr) (c0_8 : Nat) (l0_8 : List (S275)) (a1 : Int) (r : Bool) (w : World) (hr0_3 : Kd.C k234 w A0_3 l0_3.length l0_3) (hc0_3 : l0_3.length ≤ c0_3) (hr0_8 : Kd.C k275 w A0_8 l0_8.length l0_8) (hc0_8 : l0_8.length ≤ c0_8) (h : laws_FnExactRoomIn.f k a0_0 a0_1 a0_2 l0_3 a0_4 a0_5 a0_6 a0_7 l0_8 a1 = some r) :
  Calls Try.prog 13 #[.agg #[.int .i64 a0_0, .int .i64 a0_1, .int .i64 a0_2, .slice A0_3 l0_3.length c0_3, .int .i64 a0_4, .int .i64 a0_5, .bool a0_6, .int .i64 a0_7, .slice A0_8 l0_8.length c0_8], .int .i64 a1] w fun e w' => e = .returned (.bool r) ∧ Below w.heap.size w w' := by
 have hu121 := Try.underlying121
 have hu126 := Try.underlying126
 have HR0_3 := Aside0.mk hr0_3
 have HC0_3 := Aside0.mk hc0_3
 clear hr0_3 hc0_3
 have HR0_8 := Aside0.mk hr0_8
 have HC0_8 := Aside0.mk hc0_8
 clear hr0_8 hc0_8
 have HB := Aside0.mk (Below.refl w.heap.size w)
 have H := h; unfold laws_FnExactRoomIn.f at H
 clear h
 replace H := Option.bind_eq_some_iff.mp H
 obtain ⟨t336, A30, H⟩ := H
 have A3 := Aside0.mk A30
 clear A30
 by_cases c4 : t336 < 0
 ·rw [if_pos c4] at H
  have c4b0 : decide (t336 < 0) = true := decide_eq_true c4
  clear c4
  obtain rfl := Option.some.inj H
  go_enter Try.func13, Try.ntmps13
  go_wp2_with (first | ((with_reducible refine gate_dst (N := 2) rfl ?_); refine box_event ?hg (N := 2) ?hd (cs := #[.int .i64 a0_0, .int .i64 a0_1, .int .i64 a0_2, .slice A0_3 l0_3.length c0_3, .int .i64 a0_4, .int .i64 a0_5, .bool a0_6, .int .i64 a0_7, .slice A0_8 l0_8.length c0_8]) (t := 121) ?hr ?_; (case hd => rfl); (case hg => rfl); (case hr => first | (go_simp; done) | (go_simp; rfl)); intro gb335 hg w5 hbox hb; have BK335 := Aside0.mk (hbox); have GW335 := Aside0.mk ((by rw [hg]; exact (below_size (bw_ HB.out)) : w.heap.size ≤ gb335)); have GE335 := Nonempty.intro GW335.out; replace HB := Aside0.mk (below_step (bw_ HB.out) hb); clear hb hbox hg; obtain ⟨hcz6_0, hcz6_1, hcz6_2, hcz6_3, hcz6_4, hcz6_5, hcz6_6, hcz6_7, hcz6_8⟩ := cells9 BK335.out; obtain ⟨hfz6_0, hfz6_1, hfz6_2, hfz6_3, hfz6_4, hfz6_5, hfz6_6, hfz6_7, hfz6_8⟩ := frozen9 BK335.out) | ((with_reducible refine gate_callee (f := 76) rfl ?_); refine goesL_ (some 11) rfl rfl Try.func76 (by kernel_rfl) rfl #[.agg #[.int .i64 a0_0, .int .i64 a0_1, .int .i64 a0_2, .slice A0_3 l0_3.length c0_3, .int .i64 a0_4, .int .i64 a0_5, .bool a0_6, .int .i64 a0_7, .slice A0_8 l0_8.length c0_8], .int .i64 1048576] rfl (by (try simp only [List.map_toArray, List.map_cons, List.map_nil]); first | done | rfl | (simp only [List.length_drop, List.length_take]; rfl)) ?_; (with_reducible refine (laws_szDevice.calls k a0_0 a0_1 a0_2 _ _ l0_3 a0_4 a0_5 a0_6 a0_7 _ _ l0_8 1048576 t336 _ ?side1 ?side2 ?side3 ?side4 A3.out).mono ?_); (case side1 => exact Kd.C_below HR0_3.out (bw_ HB.out)); (case side2 => exact HC0_3.out); (case side3 => exact Kd.C_below HR0_8.out (bw_ HB.out)); (case side4 => exact HC0_8.out); rintro e w7 ⟨rfl, hb⟩; refine ⟨_, rfl, ?_⟩; replace BK335 := Aside0.mk (blk_below (bk_ BK335.out) hb); replace HB := Aside0.mk (below_step (bw_ HB.out) hb); (try clear hb)))
  go_ret
  exact ⟨by first | rfl | (simp [errW_none, errW_some] <;> rfl) | (simp [*, errW_none, errW_some] <;> rfl), bw_ HB.out⟩
 rw [if_neg c4] at H
 have c4b0 : decide (t336 < 0) = false := decide_eq_false c4
 clear c4
 replace H := Option.bind_eq_some_iff.mp H
 obtain ⟨⟨t337, t338, t339, t340, t343, t344, t345, t346, t347⟩, A80, H⟩ := H
 have A8 := Aside0.mk A80
 clear A80
 replace H := Option.bind_eq_some_iff.mp H
 obtain ⟨t350, A90, H⟩ := H
 have A9 := Aside0.mk A90
 clear A90
 replace H := Option.bind_eq_some_iff.mp H
 obtain ⟨⟨t351, t352, t353, t354, t357, t358, t359, t360, t361⟩, A100, H⟩ := H
 have A10 := Aside0.mk A100
 clear A100
 replace H := Option.bind_eq_some_iff.mp H
 obtain ⟨t365, A110, H⟩ := H
 have A11 := Aside0.mk A110
 clear A110
 by_cases c12 : t365 = t350
 ·rw [if_pos c12] at H
  have c12b0 : (t365 == t350) = true := beq_iff_eq.mpr c12
  have c12b1 : (t365 != t350) = false := bne_eq_false_iff_eq.mpr c12
  clear c12
  replace H := Option.bind_eq_some_iff.mp H
  obtain ⟨⟨t366, t367, t368, t369, t372, t373, t374, t375, t376⟩, A130, H⟩ := H
  have A13 := Aside0.mk A130
  clear A130
  replace H := Option.bind_eq_some_iff.mp H
  obtain ⟨t379, A140, H⟩ := H
  have A14 := Aside0.mk A140
  clear A140
  by_cases c15 : t379 = true
  ·subst c15
   rw [if_pos rfl] at H
   obtain rfl := Option.some.inj H
   go_enter Try.func13, Try.ntmps13
   try go_wp2_with (first | ((with_reducible refine gate_dst (N := 2) rfl ?_); refine box_event ?hg (N := 2) ?hd (cs := #[.int .i64 a0_0, .int .i64 a0_1, .int .i64 a0_2, .slice A0_3 l0_3.length c0_3, .int .i64 a0_4, .int .i64 a0_5, .bool a0_6, .int .i64 a0_7, .slice A0_8 l0_8.length c0_8]) (t := 121) ?hr ?_; (case hd => rfl); (case hg => rfl); (case hr => first | (go_simp; done) | (go_simp; rfl)); intro gb335 hg w16 hbox hb; have BK335 := Aside0.mk (hbox); have GW335 := Aside0.mk ((by rw [hg]; exact (below_size (bw_ HB.out)) : w.heap.size ≤ gb335)); have GE335 := Nonempty.intro GW335.out; replace HB := Aside0.mk (below_step (bw_ HB.out) hb); clear hb hbox hg; obtain ⟨hcz17_0, hcz17_1, hcz17_2, hcz17_3, hcz17_4, hcz17_5, hcz17_6, hcz17_7, hcz17_8⟩ := cells9 BK335.out; obtain ⟨hfz17_0, hfz17_1, hfz17_2, hfz17_3, hfz17_4, hfz17_5, hfz17_6, hfz17_7, hfz17_8⟩ := frozen9 BK335.out) | ((with_reducible refine gate_callee (f := 76) rfl ?_); refine goesL_ (some 11) rfl rfl Try.func76 (by kernel_rfl) rfl #[.agg #[.int .i64 a0_0, .int .i64 a0_1, .int .i64 a0_2, .slice A0_3 l0_3.length c0_3, .int .i64 a0_4, .int .i64 a0_5, .bool a0_6, .int .i64 a0_7, .slice A0_8 l0_8.length c0_8], .int .i64 1048576] rfl (by (try simp only [List.map_toArray, List.map_cons, List.map_nil]); first | done | rfl | (simp only [List.length_drop, List.length_take]; rfl)) ?_; (with_reducible refine (laws_szDevice.calls k a0_0 a0_1 a0_2 _ _ l0_3 a0_4 a0_5 a0_6 a0_7 _ _ l0_8 1048576 t336 _ ?side1 ?side2 ?side3 ?side4 A3.out).mono ?_); (case side1 => exact Kd.C_below HR0_3.out (bw_ HB.out)); (case side2 => exact HC0_3.out); (case side3 => exact Kd.C_below HR0_8.out (bw_ HB.out)); (case side4 => exact HC0_8.out); rintro e w18 ⟨rfl, hb⟩; refine ⟨_, rfl, ?_⟩; replace BK335 := Aside0.mk (blk_below (bk_ BK335.out) hb); replace HB := Aside0.mk (below_step (bw_ HB.out) hb); (try clear hb); obtain ⟨hcz19_0, hcz19_1, hcz19_2, hcz19_3, hcz19_4, hcz19_5, hcz19_6, hcz19_7, hcz19_8⟩ := cells9 BK335.out; obtain ⟨hfz19_0, hfz19_1, hfz19_2, hfz19_3, hfz19_4, hfz19_5, hfz19_6, hfz19_7, hfz19_8⟩ := frozen9 BK335.out) | ((with_reducible refine gate_callee (f := 78) rfl ?_); refine goesL_ (some 15) rfl rfl Try.func78 (by kernel_rfl) rfl #[.agg #[.int .i64 a0_0, .int .i64 a0_1, .int .i64 a0_2, .slice A0_3 l0_3.length c0_3, .int .i64 a0_4, .int .i64 a0_5, .bool a0_6, .int .i64 a0_7, .slice A0_8 l0_8.length c0_8]] rfl (by (try simp only [List.map_toArray, List.map_cons, List.map_nil]); first | done | rfl | (simp only [List.length_drop, List.length_take]; rfl)) ?_; (with_reducible refine (laws_toDevice.calls k a0_0 a0_1 a0_2 _ _ l0_3 a0_4 a0_5 a0_6 a0_7 _ _ l0_8 t337 t338 t339 t340 t343 t344 t345 t346 t347 _ ?side1 ?side2 ?side3 ?side4 A8.out).mono ?_); (case side1 => exact Kd.C_below HR0_3.out (bw_ HB.out)); (case side2 => exact HC0_3.out); (case side3 => exact Kd.C_below HR0_8.out (bw_ HB.out)); (case side4 => exact HC0_8.out); rintro e w20 ⟨v341, v348, rfl, ho0, ho1, hb⟩; refine ⟨_, rfl, ?_⟩; have HO342 := Aside0.mk (Kd.S_lower ho0 (below_size (bw_ HB.out))); have HO349 := Aside0.mk (Kd.S_lower ho1 (below_size (bw_ HB.out))); replace BK335 := Aside0.mk (blk_below (bk_ BK335.out) hb); replace HB := Aside0.mk (below_step (bw_ HB.out) hb); (try clear hb); (try clear ho1); obtain ⟨Ao21, co21, eo21⟩ := Kd.S_slice HO342.out; subst eo21; obtain ⟨Ao22, co22, eo22⟩ := Kd.S_slice HO349.out; subst eo22) | ((with_reducible refine gate_callee (f := 77) rfl ?_); refine goesL_ (some 17) rfl rfl Try.func77 (by kernel_rfl) rfl #[.agg #[.int .i64 t337, .int .i64 t338, .int .i64 t339, .slice Ao21 t340.length co21, .int .i64 t343, .int .i64 t344, .bool t345, .int .i64 t346, .slice Ao22 t347.length co22], .int .i64 a1] rfl (by (try simp only [List.map_toArray, List.map_cons, List.map_nil]); first | done | rfl | (simp only [List.length_drop, List.length_take]; rfl)) ?_; (with_reducible refine (spec_RoomIn.calls k t337 t338 t339 _ _ t340 t343 t344 t345 t346 _ _ t347 a1 t350 _ ?side1 ?side2 ?side3 ?side4 A9.out).mono ?_); (case side1 => repeat (first | exact (Kd.S_reads' HO342.out).2.2 | (with_reducible refine Kd.C_alloc ?_ _) | (with_reducible refine Kd.C_drewN ?_ _) | (with_reducible refine Kd.C_drew ?_))); (case side2 => exact (Kd.S_reads' HO342.out).2.1); (case side3 => repeat (first | exact (Kd.S_reads' HO349.out).2.2 | (with_reducible refine Kd.C_alloc ?_ _) | (with_reducible refine Kd.C_drewN ?_ _) | (with_reducible refine Kd.C_drew ?_))); (case side4 => exact (Kd.S_reads' HO349.out).2.1); rintro e w23 ⟨rfl, hb⟩; refine ⟨_, rfl, ?_⟩; replace HO342 := Aside0.mk (Kd.S_below (Kd.S_below HO342.out st_) hb); replace HO349 := Aside0.mk (Kd.S_below (Kd.S_below HO349.out st_) hb); replace BK335 := Aside0.mk (blk_below (bk_ BK335.out) hb); replace HB := Aside0.mk (below_step (bw_ HB.out) hb); (try clear hb); obtain ⟨hcz24_0, hcz24_1, hcz24_2, hcz24_3, hcz24_4, hcz24_5, hcz24_6, hcz24_7, hcz24_8⟩ := cells9 BK335.out; obtain ⟨hfz24_0, hfz24_1, hfz24_2, hfz24_3, hfz24_4, hfz24_5, hfz24_6, hfz24_7, hfz24_8⟩ := frozen9 BK335.out) | ((with_reducible refine gate_callee (f := 78) rfl ?_); refine goesL_ (some 19) rfl rfl Try.func78 (by kernel_rfl) rfl #[.agg #[.int .i64 a0_0, .int .i64 a0_1, .int .i64 a0_2, .slice A0_3 l0_3.length c0_3, .int .i64 a0_4, .int .i64 a0_5, .bool a0_6, .int .i64 a0_7, .slice A0_8 l0_8.length c0_8]] rfl (by (try simp only [List.map_toArray, List.map_cons, List.map_nil]); first | done | rfl | (simp only [List.length_drop, List.length_take]; rfl)) ?_; (with_reducible refine (laws_toDevice.calls k a0_0 a0_1 a0_2 _ _ l0_3 a0_4 a0_5 a0_6 a0_7 _ _ l0_8 t351 t352 t353 t354 t357 t358 t359 t360 t361 _ ?side1 ?side2 ?side3 ?side4 A10.out).mono ?_); (case side1 => exact Kd.C_below HR0_3.out (bw_ HB.out)); (case side2 => exact HC0_3.out); (case side3 => exact Kd.C_below HR0_8.out (bw_ HB.out)); (case side4 => exact HC0_8.out); rintro e w25 ⟨v355, v362, rfl, ho0, ho1, hb⟩; refine ⟨_, rfl, ?_⟩; have HO356 := Aside0.mk (Kd.S_lower (Kd.S_new' ho0 (Kd.S_lt (Kd.S_below HO342.out st_))) (below_size (bw_ HB.out))); replace HO342 := Aside0.mk (Kd.S_elder' (Kd.S_below HO342.out st_) (Kd.S_base ho0) hb); have HO363 := Aside0.mk (Kd.S_lower (Kd.S_new' ho1 (Kd.S_lt (Kd.S_below HO349.out st_))) (below_size (bw_ HB.out))); replace HO349 := Aside0.mk (Kd.S_elder' (Kd.S_below HO349.out st_) (Kd.S_base ho1) hb); replace BK335 := Aside0.mk (blk_below (bk_ BK335.out) hb); replace HB := Aside0.mk (below_step (bw_ HB.out) hb); (try clear hb); (try clear ho1)) | ((with_reducible refine gate_dst (N := 7) rfl ?_); refine box_event ?hg (N := 7) ?hd (cs := #[.int .i64 0, .int .i64 0, .int .i64 0, .slice none 0 0, .int .i64 0, .int .i64 0, .bool false, .int .i64 0, .slice none 0 0]) (t := 126) ?hr ?_; (case hd => rfl); (case hg => rfl); (case hr => first | (go_simp; done) | (go_simp; rfl)); intro gb364 hg w26 hbox hb; replace HO342 := Aside0.mk (Kd.S_below (Kd.S_below HO342.out st_) hb); replace HO349 := Aside0.mk (Kd.S_below (Kd.S_below HO349.out st_) hb); replace HO356 := Aside0.mk (Kd.S_below (Kd.S_below HO356.out st_) hb); replace HO363 := Aside0.mk (Kd.S_below (Kd.S_below HO363.out st_) hb); have BK364 := Aside0.mk (hbox); have GW364 := Aside0.mk ((by rw [hg]; exact (below_size (bw_ HB.out)) : w.heap.size ≤ gb364)); have GE364 := Nonempty.intro GW364.out; replace HB := Aside0.mk (below_step (bw_ HB.out) hb); have NB335_364 := Aside0.mk ((by rw [hg]; exact Nat.ne_of_lt (blk_lt (bk_ BK335.out)) : gb335 ≠ gb364)); have NB364_335 := Aside0.mk ((by rw [hg]; exact Nat.ne_of_gt (blk_lt (bk_ BK335.out)) : gb364 ≠ gb335)); replace BK335 := Aside0.mk (blk_below (bk_ BK335.out) hb); clear hb hbox hg; have hnb27 := NB364_335.out; have hnc27 := NB335_364.out; obtain ⟨hcz28_0, hcz28_1, hcz28_2, hcz28_3, hcz28_4, hcz28_5, hcz28_6, hcz28_7, hcz28_8⟩ := cells9 BK364.out; obtain ⟨hfz28_0, hfz28_1, hfz28_2, hfz28_3, hfz28_4, hfz28_5, hfz28_6, hfz28_7, hfz28_8⟩ := frozen9 BK364.out; obtain ⟨Ao29, co29, eo29⟩ := Kd.S_slice HO356.out; subst eo29; obtain ⟨Ao30, co30, eo30⟩ := Kd.S_slice HO363.out; subst eo30) | ((with_reducible refine gate_callee (f := 79) rfl ?_); refine goesL_ (some 22) rfl rfl Try.func79 (by kernel_rfl) rfl #[.agg #[.int .i64 t351, .int .i64 t352, .int .i64 t353, .slice Ao29 t354.length co29, .int .i64 t357, .int .i64 t358, .bool t359, .int .i64 t360, .slice Ao30 t361.length co30], .int .i64 a1] rfl (by (try simp only [List.map_toArray, List.map_cons, List.map_nil]); first | done | rfl | (simp only [List.length_drop, List.length_take]; rfl)) ?_; (with_reducible refine (impl_RoomIn.calls k t351 t352 t353 _ _ t354 t357 t358 t359 t360 _ _ t361 a1 t365 _ ?side1 ?side2 ?side3 ?side4 A11.out).mono ?_); (case side1 => refine (Kd.S_reads' (e := 218) (base := w.heap.size) (ok := fun k_ => (True ∧ some k_ ≠ (.slice Ao21 t340.length co21 : Value).ownBlock)) (n := t354.length) (c := co29) ?_).2.2; exact (by (with_reducible repeat (first | apply Kd.S_alloc | apply Kd.S_drewN | apply Kd.S_drew)); exact (Kd.S_mono (Kd.S_far (p := ⟨gb364, 8, none⟩) (Kd.S_far (p := ⟨gb364, 7, none⟩) (Kd.S_far (p := ⟨gb364, 6, none⟩) (Kd.S_far (p := ⟨gb364, 5, none⟩) (Kd.S_far (p := ⟨gb364, 4, none⟩) (Kd.S_far (p := ⟨gb364, 3, none⟩) (Kd.S_far (p := ⟨gb364, 2, none⟩) (Kd.S_far (p := ⟨gb364, 1, none⟩) (Kd.S_far (p := ⟨gb364, 0, none⟩) (Kd.S_types HO356.out BK364.out (by decide)) (fun _ hk => hk.2) (.int .i64 t351)) (fun _ hk => hk.2) (.int .i64 t352)) (fun _ hk => hk.2) (.int .i64 t353)) (fun _ hk => hk.2) (.slice Ao29 t354.length co29)) (fun _ hk => hk.2) (.int .i64 t357)) (fun _ hk => hk.2) (.int .i64 t358)) (fun _ hk => hk.2) (.bool t359)) (fun _ hk => hk.2) (.int .i64 t360)) (fun _ hk => hk.2) (.slice Ao30 t361.length co30)) (fun _ h_ => h_.1)))); (case side2 => exact (Kd.S_reads' HO356.out).2.1); (case side3 => refine (Kd.S_reads' (e := 276) (base := w.heap.size) (ok := fun k_ => (True ∧ some k_ ≠ (.slice Ao22 t347.length co22 : Value).ownBlock)) (n := t361.length) (c := co30) ?_).2.2; exact (by (with_reducible repeat (first | apply Kd.S_alloc | apply Kd.S_drewN | apply Kd.S_drew)); exact (Kd.S_mono (Kd.S_far (p := ⟨gb364, 8, none⟩) (Kd.S_far (p := ⟨gb364, 7, none⟩) (Kd.S_far (p := ⟨gb364, 6, none⟩) (Kd.S_far (p := ⟨gb364, 5, none⟩) (Kd.S_far (p := ⟨gb364, 4, none⟩) (Kd.S_far (p := ⟨gb364, 3, none⟩) (Kd.S_far (p := ⟨gb364, 2, none⟩) (Kd.S_far (p := ⟨gb364, 1, none⟩) (Kd.S_far (p := ⟨gb364, 0, none⟩) (Kd.S_types HO363.out BK364.out (by decide)) (fun _ hk => hk.2) (.int .i64 t351)) (fun _ hk => hk.2) (.int .i64 t352)) (fun _ hk => hk.2) (.int .i64 t353)) (fun _ hk => hk.2) (.slice Ao29 t354.length co29)) (fun _ hk => hk.2) (.int .i64 t357)) (fun _ hk => hk.2) (.int .i64 t358)) (fun _ hk => hk.2) (.bool t359)) (fun _ hk => hk.2) (.int .i64 t360)) (fun _ hk => hk.2) (.slice Ao30 t361.length co30)) (fun _ h_ => h_.1)))); (case side4 => exact (Kd.S_reads' HO363.out).2.1); rintro e w31 ⟨rfl, hb⟩; refine ⟨_, rfl, ?_⟩; replace HO342 := Aside0.mk (Kd.S_below (by (with_reducible repeat (first | apply Kd.S_alloc | apply Kd.S_drewN | apply Kd.S_drew)); exact (Kd.S_mono (Kd.S_far (p := ⟨gb364, 8, none⟩) (Kd.S_far (p := ⟨gb364, 7, none⟩) (Kd.S_far (p := ⟨gb364, 6, none⟩) (Kd.S_far (p := ⟨gb364, 5, none⟩) (Kd.S_far (p := ⟨gb364, 4, none⟩) (Kd.S_far (p := ⟨gb364, 3, none⟩) (Kd.S_far (p := ⟨gb364, 2, none⟩) (Kd.S_far (p := ⟨gb364, 1, none⟩) (Kd.S_far (p := ⟨gb364, 0, none⟩) (Kd.S_types HO342.out BK364.out (by decide)) (fun _ hk => hk.2) (.int .i64 t351)) (fun _ hk => hk.2) (.int .i64 t352)) (fun _ hk => hk.2) (.int .i64 t353)) (fun _ hk => hk.2) (.slice Ao29 t354.length co29)) (fun _ hk => hk.2) (.int .i64 t357)) (fun _ hk => hk.2) (.int .i64 t358)) (fun _ hk => hk.2) (.bool t359)) (fun _ hk => hk.2) (.int .i64 t360)) (fun _ hk => hk.2) (.slice Ao30 t361.length co30)) (fun _ h_ => h_.1))) hb); replace HO349 := Aside0.mk (Kd.S_below (by (with_reducible repeat (first | apply Kd.S_alloc | apply Kd.S_drewN | apply Kd.S_drew)); exact (Kd.S_mono (Kd.S_far (p := ⟨gb364, 8, none⟩) (Kd.S_far (p := ⟨gb364, 7, none⟩) (Kd.S_far (p := ⟨gb364, 6, none⟩) (Kd.S_far (p := ⟨gb364, 5, none⟩) (Kd.S_far (p := ⟨gb364, 4, none⟩) (Kd.S_far (p := ⟨gb364, 3, none⟩) (Kd.S_far (p := ⟨gb364, 2, none⟩) (Kd.S_far (p := ⟨gb364, 1, none⟩) (Kd.S_far (p := ⟨gb364, 0, none⟩) (Kd.S_types HO349.out BK364.out (by decide)) (fun _ hk => hk.2) (.int .i64 t351)) (fun _ hk => hk.2) (.int .i64 t352)) (fun _ hk => hk.2) (.int .i64 t353)) (fun _ hk => hk.2) (.slice Ao29 t354.length co29)) (fun _ hk => hk.2) (.int .i64 t357)) (fun _ hk => hk.2) (.int .i64 t358)) (fun _ hk => hk.2) (.bool t359)) (fun _ hk => hk.2) (.int .i64 t360)) (fun _ hk => hk.2) (.slice Ao30 t361.length co30)) (fun _ h_ => h_.1))) hb); replace HO356 := Aside0.mk (Kd.S_below (by (with_reducible repeat (first | apply Kd.S_alloc | apply Kd.S_drewN | apply Kd.S_drew)); exact (Kd.S_mono (Kd.S_far (p := ⟨gb364, 8, none⟩) (Kd.S_far (p := ⟨gb364, 7, none⟩) (Kd.S_far (p := ⟨gb364, 6, none⟩) (Kd.S_far (p := ⟨gb364, 5, none⟩) (Kd.S_far (p := ⟨gb364, 4, none⟩) (Kd.S_far (p := ⟨gb364, 3, none⟩) (Kd.S_far (p := ⟨gb364, 2, none⟩) (Kd.S_far (p := ⟨gb364, 1, none⟩) (Kd.S_far (p := ⟨gb364, 0, none⟩) (Kd.S_types HO356.out BK364.out (by decide)) (fun _ hk => hk.2) (.int .i64 t351)) (fun _ hk => hk.2) (.int .i64 t352)) (fun _ hk => hk.2) (.int .i64 t353)) (fun _ hk => hk.2) (.slice Ao29 t354.length co29)) (fun _ hk => hk.2) (.int .i64 t357)) (fun _ hk => hk.2) (.int .i64 t358)) (fun _ hk => hk.2) (.bool t359)) (fun _ hk => hk.2) (.int .i64 t360)) (fun _ hk => hk.2) (.slice Ao30 t361.length co30)) (fun _ h_ => h_.1))) hb); replace HO363 := Aside0.mk (Kd.S_below (by (with_reducible repeat (first | apply Kd.S_alloc | apply Kd.S_drewN | apply Kd.S_drew)); exact (Kd.S_mono (Kd.S_far (p := ⟨gb364, 8, none⟩) (Kd.S_far (p := ⟨gb364, 7, none⟩) (Kd.S_far (p := ⟨gb364, 6, none⟩) (Kd.S_far (p := ⟨gb364, 5, none⟩) (Kd.S_far (p := ⟨gb364, 4, none⟩) (Kd.S_far (p := ⟨gb364, 3, none⟩) (Kd.S_far (p := ⟨gb364, 2, none⟩) (Kd.S_far (p := ⟨gb364, 1, none⟩) (Kd.S_far (p := ⟨gb364, 0, none⟩) (Kd.S_types HO363.out BK364.out (by decide)) (fun _ hk => hk.2) (.int .i64 t351)) (fun _ hk => hk.2) (.int .i64 t352)) (fun _ hk => hk.2) (.int .i64 t353)) (fun _ hk => hk.2) (.slice Ao29 t354.length co29)) (fun _ hk => hk.2) (.int .i64 t357)) (fun _ hk => hk.2) (.int .i64 t358)) (fun _ hk => hk.2) (.bool t359)) (fun _ hk => hk.2) (.int .i64 t360)) (fun _ hk => hk.2) (.slice Ao30 t361.length co30)) (fun _ h_ => h_.1))) hb); replace BK335 := Aside0.mk (blk_below (g := gb335) (o := .cells #[.int .i64 a0_0, .int .i64 a0_1, .int .i64 a0_2, .slice A0_3 l0_3.length c0_3, .int .i64 a0_4, .int .i64 a0_5, .bool a0_6, .int .i64 a0_7, .slice A0_8 l0_8.length c0_8] 121 (0, 0)) (by (with_reducible repeat (first | refine blk_drewN ?_ _ | refine blk_drew ?_ | refine blk_alloc ?_ _)); refine blk_far ?_ NB335_364.out _; (with_reducible repeat (first | refine blk_drewN ?_ _ | refine blk_drew ?_ | refine blk_alloc ?_ _)); refine blk_far ?_ NB335_364.out _; (with_reducible repeat (first | refine blk_drewN ?_ _ | refine blk_drew ?_ | refine blk_alloc ?_ _)); refine blk_far ?_ NB335_364.out _; (with_reducible repeat (first | refine blk_drewN ?_ _ | refine blk_drew ?_ | refine blk_alloc ?_ _)); refine blk_far ?_ NB335_364.out _; (with_reducible repeat (first | refine blk_drewN ?_ _ | refine blk_drew ?_ | refine blk_alloc ?_ _)); refine blk_far ?_ NB335_364.out _; (with_reducible repeat (first | refine blk_drewN ?_ _ | refine blk_drew ?_ | refine blk_alloc ?_ _)); refine blk_far ?_ NB335_364.out _; (with_reducible repeat (first | refine blk_drewN ?_ _ | refine blk_drew ?_ | refine blk_alloc ?_ _)); refine blk_far ?_ NB335_364.out _; (with_reducible repeat (first | refine blk_drewN ?_ _ | refine blk_drew ?_ | refine blk_alloc ?_ _)); refine blk_far ?_ NB335_364.out _; (with_reducible repeat (first | refine blk_drewN ?_ _ | refine blk_drew ?_ | refine blk_alloc ?_ _)); refine blk_far ?_ NB335_364.out _; (with_reducible repeat (first | refine blk_drewN ?_ _ | refine blk_drew ?_ | refine blk_alloc ?_ _)); exact BK335.out) hb); replace BK364 := Aside0.mk (blk_below (g := gb364) (o := .cells #[.int .i64 t351, .int .i64 t352, .int .i64 t353, .slice Ao29 t354.length co29, .int .i64 t357, .int .i64 t358, .bool t359, .int .i64 t360, .slice Ao30 t361.length co30] 126 (0, 0)) (by (with_reducible repeat (first | refine blk_drewN ?_ _ | refine blk_drew ?_ | refine blk_alloc ?_ _)); refine blk_put (cs := #[.int .i64 t351, .int .i64 t352, .int .i64 t353, .slice Ao29 t354.length co29, .int .i64 t357, .int .i64 t358, .bool t359, .int .i64 t360, .slice none 0 0]) ?_ 8 _ rfl; (with_reducible repeat (first | refine blk_drewN ?_ _ | refine blk_drew ?_ | refine blk_alloc ?_ _)); refine blk_put (cs := #[.int .i64 t351, .int .i64 t352, .int .i64 t353, .slice Ao29 t354.length co29, .int .i64 t357, .int .i64 t358, .bool t359, .int .i64 0, .slice none 0 0]) ?_ 7 _ rfl; (with_reducible repeat (first | refine blk_drewN ?_ _ | refine blk_drew ?_ | refine blk_alloc ?_ _)); refine blk_put (cs := #[.int .i64 t351, .int .i64 t352, .int .i64 t353, .slice Ao29 t354.length co29, .int .i64 t357, .int .i64 t358, .bool false, .int .i64 0, .slice none 0 0]) ?_ 6 _ rfl; (with_reducible repeat (first | refine blk_drewN ?_ _ | refine blk_drew ?_ | refine blk_alloc ?_ _)); refine blk_put (cs := #[.int .i64 t351, .int .i64 t352, .int .i64 t353, .slice Ao29 t354.length co29, .int .i64 t357, .int .i64 0, .bool false, .int .i64 0, .slice none 0 0]) ?_ 5 _ rfl; (with_reducible repeat (first | refine blk_drewN ?_ _ | refine blk_drew ?_ | refine blk_alloc ?_ _)); refine blk_put (cs := #[.int .i64 t351, .int .i64 t352, .int .i64 t353, .slice Ao29 t354.length co29, .int .i64 0, .int .i64 0, .bool false, .int .i64 0, .slice none 0 0]) ?_ 4 _ rfl; (with_reducible repeat (first | refine blk_drewN ?_ _ | refine blk_drew ?_ | refine blk_alloc ?_ _)); refine blk_put (cs := #[.int .i64 t351, .int .i64 t352, .int .i64 t353, .slice none 0 0, .int .i64 0, .int .i64 0, .bool false, .int .i64 0, .slice none 0 0]) ?_ 3 _ rfl; (with_reducible repeat (first | refine blk_drewN ?_ _ | refine blk_drew ?_ | refine blk_alloc ?_ _)); refine blk_put (cs := #[.int .i64 t351, .int .i64 t352, .int .i64 0, .slice none 0 0, .int .i64 0, .int .i64 0, .bool false, .int .i64 0, .slice none 0 0]) ?_ 2 _ rfl; (with_reducible repeat (first | refine blk_drewN ?_ _ | refine blk_drew ?_ | refine blk_alloc ?_ _)); refine blk_put (cs := #[.int .i64 t351, .int .i64 0, .int .i64 0, .slice none 0 0, .int .i64 0, .int .i64 0, .bool false, .int .i64 0, .slice none 0 0]) ?_ 1 _ rfl; (with_reducible repeat (first | refine blk_drewN ?_ _ | refine blk_drew ?_ | refine blk_alloc ?_ _)); refine blk_put (cs := #[.int .i64 0, .int .i64 0, .int .i64 0, .slice none 0 0, .int .i64 0, .int .i64 0, .bool false, .int .i64 0, .slice none 0 0]) ?_ 0 _ rfl; (with_reducible repeat (first | refine blk_drewN ?_ _ | refine blk_drew ?_ | refine blk_alloc ?_ _)); exact BK364.out) hb); replace HB := Aside0.mk (below_step (bw_ HB.out) hb); (try clear hb)))
   replace HO342 := Aside0.mk (Kd.S_drew HO342.out)
   replace HO349 := Aside0.mk (Kd.S_drew HO349.out)
   replace HO356 := Aside0.mk (Kd.S_drew HO356.out)
   replace HO363 := Aside0.mk (Kd.S_drew HO363.out)
   replace BK335 := Aside0.mk (blk_drew BK335.out)
   replace BK364 := Aside0.mk (blk_drew BK364.out)
   replace HB := Aside0.mk (below_drew1 HB.out)
   refine start_ (n := 5) (S := fun w' => w'.cell? ⟨gb364, 0, none⟩ = some (.int .i64 t351) ∧ w'.cell? ⟨gb364, 1, none⟩ = some (.int .i64 t352) ∧ w'.cell? ⟨gb364, 2, none⟩ = some (.int .i64 t353) ∧ w'.cell? ⟨gb364, 3, none⟩ = some (.slice Ao29 t354.length co29) ∧ w'.cell? ⟨gb364, 4, none⟩ = some (.int .i64 t357) ∧ w'.cell? ⟨gb364, 5, none⟩ = some (.int .i64 t358) ∧ w'.cell? ⟨gb364, 6, none⟩ = some (.bool t359) ∧ w'.cell? ⟨gb364, 7, none⟩ = some (.int .i64 t360) ∧ w'.cell? ⟨gb364, 8, none⟩ = some (.slice Ao30 t361.length co30) ∧ w'.cell? ⟨gb335, 0, none⟩ = some (.int .i64 a0_0) ∧ w'.cell? ⟨gb335, 1, none⟩ = some (.int .i64 a0_1) ∧ w'.cell? ⟨gb335, 2, none⟩ = some (.int .i64 a0_2) ∧ w'.cell? ⟨gb335, 3, none⟩ = some (.slice A0_3 l0_3.length c0_3) ∧ w'.cell? ⟨gb335, 4, none⟩ = some (.int .i64 a0_4) ∧ w'.cell? ⟨gb335, 5, none⟩ = some (.int .i64 a0_5) ∧ w'.cell? ⟨gb335, 6, none⟩ = some (.bool a0_6) ∧ w'.cell? ⟨gb335, 7, none⟩ = some (.int .i64 a0_7) ∧ w'.cell? ⟨gb335, 8, none⟩ = some (.slice A0_8 l0_8.length c0_8)) (ds := []) (Array.replicate 5 false) (by kernel_rfl) rfl rfl ⟨(blk_cell BK364.out 0).trans rfl, (blk_cell BK364.out 1).trans rfl, (blk_cell BK364.out 2).trans rfl, (blk_cell BK364.out 3).trans rfl, (blk_cell BK364.out 4).trans rfl, (blk_cell BK364.out 5).trans rfl, (blk_cell BK364.out 6).trans rfl, (blk_cell BK364.out 7).trans rfl, (blk_cell BK364.out 8).trans rfl, (blk_cell BK335.out 0).trans rfl, (blk_cell BK335.out 1).trans rfl, (blk_cell BK335.out 2).trans rfl, (blk_cell BK335.out 3).trans rfl, (blk_cell BK335.out 4).trans rfl, (blk_cell BK335.out 5).trans rfl, (blk_cell BK335.out 6).trans rfl, (blk_cell BK335.out 7).trans rfl, (blk_cell BK335.out 8).trans rfl⟩ (fun hHeld => ?_)
   generalize w31.drew = w32 at HO342 HO349 HO356 HO363 BK335 BK364 HB hHeld ⊢
   refine take_ (i := 0) (N := some 26) (v := ?_) (a' := ?_) (bl_ 5 1) rfl rfl (by kernel_rfl) (fun _ _ _ h => h) (Or.inl ⟨by rfl, ?_⟩) hHeld ?_ ?_
   rotate_left
   ·rintro w' ⟨s0, s1, s2, s3, s4, s5, s6, s7, s8, s9, s10, s11, s12, s13, s14, s15, s16, s17⟩
    go_simp
    with_reducible rfl
   rotate_left
   ·simp only [Act.put, q1_, q2_, q3_, i64_w, i32_w]
    rfl
   refine take_ (i := 1) (N := some 27) (v := ?_) (a' := ?_) (bl_ 5 3) rfl rfl (by kernel_rfl) (fun _ _ _ h => h) (Or.inl ⟨by rfl, ?_⟩) hHeld ?_ ?_
   rotate_left
   ·rintro w' ⟨s0, s1, s2, s3, s4, s5, s6, s7, s8, s9, s10, s11, s12, s13, s14, s15, s16, s17⟩
    go_simp
    with_reducible rfl
   rotate_left
   ·simp only [Act.put, q1_, q2_, q3_, i64_w, i32_w]
    rfl
   refine one_ (i := 2) (N := some 28) (bl_ 5 7) rfl rfl (by kernel_rfl) (by decide) (fun K hK => ?_)
   refine goes_ Try.func78 (by kernel_rfl) rfl #[.agg #[.int .i64 a0_0, .int .i64 a0_1, .int .i64 a0_2, .slice A0_3 l0_3.length c0_3, .int .i64 a0_4, .int .i64 a0_5, .bool a0_6, .int .i64 a0_7, .slice A0_8 l0_8.length c0_8]] (by rfl) rfl rfl (by (try simp only [List.map_toArray, List.map_cons, List.map_nil]); first | done | rfl | (simp only [List.length_drop, List.length_take]; rfl)) ?_
   with_reducible refine (laws_toDevice.calls k a0_0 a0_1 a0_2 _ _ l0_3 a0_4 a0_5 a0_6 a0_7 _ _ l0_8 t366 t367 t368 t369 t372 t373 t374 t375 t376 _ ?side1 ?side2 ?side3 ?side4 A13.out).mono ?_
   (case side1 => exact Kd.C_below HR0_3.out (bw_ HB.out))
   (case side2 => exact HC0_3.out)
   (case side3 => exact Kd.C_below HR0_8.out (bw_ HB.out))
   (case side4 => exact HC0_8.out)
   rintro e w33 ⟨v370, v377, rfl, ho0, ho1, hb⟩
   refine ⟨_, rfl, ?_⟩
   have HO371 := Aside0.mk (Kd.S_lower (Kd.S_new' (Kd.S_new' ho0 (Kd.S_lt (Kd.S_below HO342.out st_))) (Kd.S_lt (Kd.S_below HO356.out st_))) (below_size (bw_ HB.out)))
   replace HO342 := Aside0.mk (Kd.S_elder' (Kd.S_below HO342.out st_) (Kd.S_base ho0) hb)
   replace HO356 := Aside0.mk (Kd.S_elder' (Kd.S_below HO356.out st_) (Kd.S_base ho0) hb)
   have HO378 := Aside0.mk (Kd.S_lower (Kd.S_new' (Kd.S_new' ho1 (Kd.S_lt (Kd.S_below HO349.out st_))) (Kd.S_lt (Kd.S_below HO363.out st_))) (below_size (bw_ HB.out)))
   replace HO349 := Aside0.mk (Kd.S_elder' (Kd.S_below HO349.out st_) (Kd.S_base ho1) hb)
   replace HO363 := Aside0.mk (Kd.S_elder' (Kd.S_below HO363.out st_) (Kd.S_base ho1) hb)
   replace BK335 := Aside0.mk (blk_below (bk_ BK335.out) hb)
   replace BK364 := Aside0.mk (blk_below (bk_ BK364.out) hb)
   replace HB := Aside0.mk (below_step (bw_ HB.out) hb)
   (try clear ho1)
   obtain ⟨Ao34, co34, eo34⟩ := Kd.S_slice HO371.out
   (first | subst eo34 | (injection eo34 with f1_ f2_ f3_; have f4_ := f1_.symm; have f5_ := f3_.symm; clear f1_ f2_ f3_; subst f4_; subst f5_))
   obtain ⟨Ao35, co35, eo35⟩ := Kd.S_slice HO378.out
   (first | subst eo35 | (injection eo35 with f1_ f2_ f3_; have f4_ := f1_.symm; have f5_ := f3_.symm; clear f1_ f2_ f3_; subst f4_; subst f5_))
   refine hK.out _ _ ⟨(blk_cell BK364.out 0).trans rfl, (blk_cell BK364.out 1).trans rfl, (blk_cell BK364.out 2).trans rfl, (blk_cell BK364.out 3).trans rfl, (blk_cell BK364.out 4).trans rfl, (blk_cell BK364.out 5).trans rfl, (blk_cell BK364.out 6).trans rfl, (blk_cell BK364.out 7).trans rfl, (blk_cell BK364.out 8).trans rfl, (blk_cell BK335.out 0).trans rfl, (blk_cell BK335.out 1).trans rfl, (blk_cell BK335.out 2).trans rfl, (blk_cell BK335.out 3).trans rfl, (blk_cell BK335.out 4).trans rfl, (blk_cell BK335.out 5).trans rfl, (blk_cell BK335.out 6).trans rfl, (blk_cell BK335.out 7).trans rfl, (blk_cell BK335.out 8).trans rfl⟩ (fun hHeld => ?_)
   clear hK K
   refine norm_ (a' := ?_) ?_ ?_
   rotate_left
   ·show Act.put _ (some 28) _ = _
    simp only [Act.put, q1_, q2_, q3_, i64_w, i32_w]
    rfl
   refine one_ (i := 3) (N := some 29) (bl_ 5 15) rfl rfl (by kernel_rfl) (by decide) (fun K hK => ?_)
   refine goes_ Try.func80 (by kernel_rfl) rfl #[.agg #[.int .i64 t351, .int .i64 t352, .int .i64 t353, .slice Ao29 t354.length co29, .int .i64 t357, .int .i64 t358, .bool t359, .int .i64 t360, .slice Ao30 t361.length co30], .agg #[.int .i64 t366, .int .i64 t367, .int .i64 t368, .slice Ao34 t369.length co34, .int .i64 t372, .int .i64 t373, .bool t374, .int .i64 t375, .slice Ao35 t376.length co35]] (by rfl) rfl rfl (by (try simp only [List.map_toArray, List.map_cons, List.map_nil]); first | done | rfl | (simp only [List.length_drop, List.length_take]; rfl)) ?_
   with_reducible refine (laws_eqDevice.calls k t351 t352 t353 _ _ t354 t357 t358 t359 t360 _ _ t361 t366 t367 t368 _ _ t369 t372 t373 t374 t375 _ _ t376 true _ ?side1 ?side2 ?side3 ?side4 ?side5 ?side6 ?side7 ?side8 A14.out).mono ?_
   (case side1 => repeat (first | exact (Kd.S_reads' HO356.out).2.2 | (with_reducible refine Kd.C_alloc ?_ _) | (with_reducible refine Kd.C_drewN ?_ _) | (with_reducible refine Kd.C_drew ?_)))
   (case side2 => exact (Kd.S_reads' HO356.out).2.1)
   (case side3 => repeat (first | exact (Kd.S_reads' HO363.out).2.2 | (with_reducible refine Kd.C_alloc ?_ _) | (with_reducible refine Kd.C_drewN ?_ _) | (with_reducible refine Kd.C_drew ?_)))
   (case side4 => exact (Kd.S_reads' HO363.out).2.1)
   (case side5 => repeat (first | exact (Kd.S_reads' HO371.out).2.2 | (with_reducible refine Kd.C_alloc ?_ _) | (with_reducible refine Kd.C_drewN ?_ _) | (with_reducible refine Kd.C_drew ?_)))
   (case side6 => exact (Kd.S_reads' HO371.out).2.1)
   (case side7 => repeat (first | exact (Kd.S_reads' HO378.out).2.2 | (with_reducible refine Kd.C_alloc ?_ _) | (with_reducible refine Kd.C_drewN ?_ _) | (with_reducible refine Kd.C_drew ?_)))
   (case side8 => exact (Kd.S_reads' HO378.out).2.1)
   rintro e w36 ⟨rfl, hb⟩
   refine ⟨_, rfl, ?_⟩
   replace HO342 := Aside0.mk (Kd.S_below (Kd.S_below HO342.out st_) hb)
   replace HO349 := Aside0.mk (Kd.S_below (Kd.S_below HO349.out st_) hb)
   replace HO356 := Aside0.mk (Kd.S_below (Kd.S_below HO356.out st_) hb)
   replace HO363 := Aside0.mk (Kd.S_below (Kd.S_below HO363.out st_) hb)
   replace HO371 := Aside0.mk (Kd.S_below (Kd.S_below HO371.out st_) hb)
   replace HO378 := Aside0.mk (Kd.S_below (Kd.S_below HO378.out st_) hb)
   replace BK335 := Aside0.mk (blk_below (bk_ BK335.out) hb)
   replace BK364 := Aside0.mk (blk_below (bk_ BK364.out) hb)
   replace HB := Aside0.mk (below_step (bw_ HB.out) hb)
   refine hK.out _ _ ⟨(blk_cell BK364.out 0).trans rfl, (blk_cell BK364.out 1).trans rfl, (blk_cell BK364.out 2).trans rfl, (blk_cell BK364.out 3).trans rfl, (blk_cell BK364.out 4).trans rfl, (blk_cell BK364.out 5).trans rfl, (blk_cell BK364.out 6).trans rfl, (blk_cell BK364.out 7).trans rfl, (blk_cell BK364.out 8).trans rfl, (blk_cell BK335.out 0).trans rfl, (blk_cell BK335.out 1).trans rfl, (blk_cell BK335.out 2).trans rfl, (blk_cell BK335.out 3).trans rfl, (blk_cell BK335.out 4).trans rfl, (blk_cell BK335.out 5).trans rfl, (blk_cell BK335.out 6).trans rfl, (blk_cell BK335.out 7).trans rfl, (blk_cell BK335.out 8).trans rfl⟩ (fun hHeld => ?_)
   clear hK K
   refine norm_ (a' := ?_) ?_ ?_
   rotate_left
   ·show Act.put _ (some 29) _ = _
    simp only [Act.put, q1_, q2_, q3_, i64_w, i32_w]
    rfl
   refine pure_ (i := 4) (N := some 30) (v := ?_) (a' := ?_) (bl_ 5 31) rfl rfl (by kernel_rfl) (fun _ _ _ h => h) (Or.inl ⟨by rfl, ?_⟩) ?_ ?_
   rotate_left
   ·intro w'
    go_simp
    with_reducible rfl
   rotate_left
   ·simp only [Act.put, q1_, q2_, q3_, i64_w, i32_w]
    rfl
   refine done_ (by kernel_rfl) ?_
   try go_wp2
   go_ret
   exact ⟨by first | rfl | (simp [errW_none, errW_some] <;> rfl) | (simp [*, errW_none, errW_some] <;> rfl), bw_ HB.out⟩
  replace c15 := Bool.eq_false_iff.mpr c15
  subst c15
  rw [if_neg (show ¬ (false = true) by decide)] at H
  obtain rfl := Option.some.inj H
  go_enter Try.func13, Try.ntmps13
  try go_wp2_with (first | ((with_reducible refine gate_dst (N := 2) rfl ?_); refine box_event ?hg (N := 2) ?hd (cs := #[.int .i64 a0_0, .int .i64 a0_1, .int .i64 a0_2, .slice A0_3 l0_3.length c0_3, .int .i64 a0_4, .int .i64 a0_5, .bool a0_6, .int .i64 a0_7, .slice A0_8 l0_8.length c0_8]) (t := 121) ?hr ?_; (case hd => rfl); (case hg => rfl); (case hr => first | (go_simp; done) | (go_simp; rfl)); intro gb335 hg w37 hbox hb; have BK335 := Aside0.mk (hbox); have GW335 := Aside0.mk ((by rw [hg]; exact (below_size (bw_ HB.out)) : w.heap.size ≤ gb335)); have GE335 := Nonempty.intro GW335.out; replace HB := Aside0.mk (below_step (bw_ HB.out) hb); clear hb hbox hg; obtain ⟨hcz38_0, hcz38_1, hcz38_2, hcz38_3, hcz38_4, hcz38_5, hcz38_6, hcz38_7, hcz38_8⟩ := cells9 BK335.out; obtain ⟨hfz38_0, hfz38_1, hfz38_2, hfz38_3, hfz38_4, hfz38_5, hfz38_6, hfz38_7, hfz38_8⟩ := frozen9 BK335.out) | ((with_reducible refine gate_callee (f := 76) rfl ?_); refine goesL_ (some 11) rfl rfl Try.func76 (by kernel_rfl) rfl #[.agg #[.int .i64 a0_0, .int .i64 a0_1, .int .i64 a0_2, .slice A0_3 l0_3.length c0_3, .int .i64 a0_4, .int .i64 a0_5, .bool a0_6, .int .i64 a0_7, .slice A0_8 l0_8.length c0_8], .int .i64 1048576] rfl (by (try simp only [List.map_toArray, List.map_cons, List.map_nil]); first | done | rfl | (simp only [List.length_drop, List.length_take]; rfl)) ?_; (with_reducible refine (laws_szDevice.calls k a0_0 a0_1 a0_2 _ _ l0_3 a0_4 a0_5 a0_6 a0_7 _ _ l0_8 1048576 t336 _ ?side1 ?side2 ?side3 ?side4 A3.out).mono ?_); (case side1 => exact Kd.C_below HR0_3.out (bw_ HB.out)); (case side2 => exact HC0_3.out); (case side3 => exact Kd.C_below HR0_8.out (bw_ HB.out)); (case side4 => exact HC0_8.out); rintro e w39 ⟨rfl, hb⟩; refine ⟨_, rfl, ?_⟩; replace BK335 := Aside0.mk (blk_below (bk_ BK335.out) hb); replace HB := Aside0.mk (below_step (bw_ HB.out) hb); (try clear hb); obtain ⟨hcz40_0, hcz40_1, hcz40_2, hcz40_3, hcz40_4, hcz40_5, hcz40_6, hcz40_7, hcz40_8⟩ := cells9 BK335.out; obtain ⟨hfz40_0, hfz40_1, hfz40_2, hfz40_3, hfz40_4, hfz40_5, hfz40_6, hfz40_7, hfz40_8⟩ := frozen9 BK335.out) | ((with_reducible refine gate_callee (f := 78) rfl ?_); refine goesL_ (some 15) rfl rfl Try.func78 (by kernel_rfl) rfl #[.agg #[.int .i64 a0_0, .int .i64 a0_1, .int .i64 a0_2, .slice A0_3 l0_3.length c0_3, .int .i64 a0_4, .int .i64 a0_5, .bool a0_6, .int .i64 a0_7, .slice A0_8 l0_8.length c0_8]] rfl (by (try simp only [List.map_toArray, List.map_cons, List.map_nil]); first | done | rfl | (simp only [List.length_drop, List.length_take]; rfl)) ?_; (with_reducible refine (laws_toDevice.calls k a0_0 a0_1 a0_2 _ _ l0_3 a0_4 a0_5 a0_6 a0_7 _ _ l0_8 t337 t338 t339 t340 t343 t344 t345 t346 t347 _ ?side1 ?side2 ?side3 ?side4 A8.out).mono ?_); (case side1 => exact Kd.C_below HR0_3.out (bw_ HB.out)); (case side2 => exact HC0_3.out); (case side3 => exact Kd.C_below HR0_8.out (bw_ HB.out)); (case side4 => exact HC0_8.out); rintro e w41 ⟨v341, v348, rfl, ho0, ho1, hb⟩; refine ⟨_, rfl, ?_⟩; have HO342 := Aside0.mk (Kd.S_lower ho0 (below_size (bw_ HB.out))); have HO349 := Aside0.mk (Kd.S_lower ho1 (below_size (bw_ HB.out))); replace BK335 := Aside0.mk (blk_below (bk_ BK335.out) hb); replace HB := Aside0.mk (below_step (bw_ HB.out) hb); (try clear hb); (try clear ho1); obtain ⟨Ao42, co42, eo42⟩ := Kd.S_slice HO342.out; subst eo42; obtain ⟨Ao43, co43, eo43⟩ := Kd.S_slice HO349.out; subst eo43) | ((with_reducible refine gate_callee (f := 77) rfl ?_); refine goesL_ (some 17) rfl rfl Try.func77 (by kernel_rfl) rfl #[.agg #[.int .i64 t337, .int .i64 t338, .int .i64 t339, .slice Ao42 t340.length co42, .int .i64 t343, .int .i64 t344, .bool t345, .int .i64 t346, .slice Ao43 t347.length co43], .int .i64 a1] rfl (by (try simp only [List.map_toArray, List.map_cons, List.map_nil]); first | done | rfl | (simp only [List.length_drop, List.length_take]; rfl)) ?_; (with_reducible refine (spec_RoomIn.calls k t337 t338 t339 _ _ t340 t343 t344 t345 t346 _ _ t347 a1 t350 _ ?side1 ?side2 ?side3 ?side4 A9.out).mono ?_); (case side1 => repeat (first | exact (Kd.S_reads' HO342.out).2.2 | (with_reducible refine Kd.C_alloc ?_ _) | (with_reducible refine Kd.C_drewN ?_ _) | (with_reducible refine Kd.C_drew ?_))); (case side2 => exact (Kd.S_reads' HO342.out).2.1); (case side3 => repeat (first | exact (Kd.S_reads' HO349.out).2.2 | (with_reducible refine Kd.C_alloc ?_ _) | (with_reducible refine Kd.C_drewN ?_ _) | (with_reducible refine Kd.C_drew ?_))); (case side4 => exact (Kd.S_reads' HO349.out).2.1); rintro e w44 ⟨rfl, hb⟩; refine ⟨_, rfl, ?_⟩; replace HO342 := Aside0.mk (Kd.S_below (Kd.S_below HO342.out st_) hb); replace HO349 := Aside0.mk (Kd.S_below (Kd.S_below HO349.out st_) hb); replace BK335 := Aside0.mk (blk_below (bk_ BK335.out) hb); replace HB := Aside0.mk (below_step (bw_ HB.out) hb); (try clear hb); obtain ⟨hcz45_0, hcz45_1, hcz45_2, hcz45_3, hcz45_4, hcz45_5, hcz45_6, hcz45_7, hcz45_8⟩ := cells9 BK335.out; obtain ⟨hfz45_0, hfz45_1, hfz45_2, hfz45_3, hfz45_4, hfz45_5, hfz45_6, hfz45_7, hfz45_8⟩ := frozen9 BK335.out) | ((with_reducible refine gate_callee (f := 78) rfl ?_); refine goesL_ (some 19) rfl rfl Try.func78 (by kernel_rfl) rfl #[.agg #[.int .i64 a0_0, .int .i64 a0_1, .int .i64 a0_2, .slice A0_3 l0_3.length c0_3, .int .i64 a0_4, .int .i64 a0_5, .bool a0_6, .int .i64 a0_7, .slice A0_8 l0_8.length c0_8]] rfl (by (try simp only [List.map_toArray, List.map_cons, List.map_nil]); first | done | rfl | (simp only [List.length_drop, List.length_take]; rfl)) ?_; (with_reducible refine (laws_toDevice.calls k a0_0 a0_1 a0_2 _ _ l0_3 a0_4 a0_5 a0_6 a0_7 _ _ l0_8 t351 t352 t353 t354 t357 t358 t359 t360 t361 _ ?side1 ?side2 ?side3 ?side4 A10.out).mono ?_); (case side1 => exact Kd.C_below HR0_3.out (bw_ HB.out)); (case side2 => exact HC0_3.out); (case side3 => exact Kd.C_below HR0_8.out (bw_ HB.out)); (case side4 => exact HC0_8.out); rintro e w46 ⟨v355, v362, rfl, ho0, ho1, hb⟩; refine ⟨_, rfl, ?_⟩; have HO356 := Aside0.mk (Kd.S_lower (Kd.S_new' ho0 (Kd.S_lt (Kd.S_below HO342.out st_))) (below_size (bw_ HB.out))); replace HO342 := Aside0.mk (Kd.S_elder' (Kd.S_below HO342.out st_) (Kd.S_base ho0) hb); have HO363 := Aside0.mk (Kd.S_lower (Kd.S_new' ho1 (Kd.S_lt (Kd.S_below HO349.out st_))) (below_size (bw_ HB.out))); replace HO349 := Aside0.mk (Kd.S_elder' (Kd.S_below HO349.out st_) (Kd.S_base ho1) hb); replace BK335 := Aside0.mk (blk_below (bk_ BK335.out) hb); replace HB := Aside0.mk (below_step (bw_ HB.out) hb); (try clear hb); (try clear ho1)) | ((with_reducible refine gate_dst (N := 7) rfl ?_); refine box_event ?hg (N := 7) ?hd (cs := #[.int .i64 0, .int .i64 0, .int .i64 0, .slice none 0 0, .int .i64 0, .int .i64 0, .bool false, .int .i64 0, .slice none 0 0]) (t := 126) ?hr ?_; (case hd => rfl); (case hg => rfl); (case hr => first | (go_simp; done) | (go_simp; rfl)); intro gb364 hg w47 hbox hb; replace HO342 := Aside0.mk (Kd.S_below (Kd.S_below HO342.out st_) hb); replace HO349 := Aside0.mk (Kd.S_below (Kd.S_below HO349.out st_) hb); replace HO356 := Aside0.mk (Kd.S_below (Kd.S_below HO356.out st_) hb); replace HO363 := Aside0.mk (Kd.S_below (Kd.S_below HO363.out st_) hb); have BK364 := Aside0.mk (hbox); have GW364 := Aside0.mk ((by rw [hg]; exact (below_size (bw_ HB.out)) : w.heap.size ≤ gb364)); have GE364 := Nonempty.intro GW364.out; replace HB := Aside0.mk (below_step (bw_ HB.out) hb); have NB335_364 := Aside0.mk ((by rw [hg]; exact Nat.ne_of_lt (blk_lt (bk_ BK335.out)) : gb335 ≠ gb364)); have NB364_335 := Aside0.mk ((by rw [hg]; exact Nat.ne_of_gt (blk_lt (bk_ BK335.out)) : gb364 ≠ gb335)); replace BK335 := Aside0.mk (blk_below (bk_ BK335.out) hb); clear hb hbox hg; have hnb48 := NB364_335.out; have hnc48 := NB335_364.out; obtain ⟨hcz49_0, hcz49_1, hcz49_2, hcz49_3, hcz49_4, hcz49_5, hcz49_6, hcz49_7, hcz49_8⟩ := cells9 BK364.out; obtain ⟨hfz49_0, hfz49_1, hfz49_2, hfz49_3, hfz49_4, hfz49_5, hfz49_6, hfz49_7, hfz49_8⟩ := frozen9 BK364.out; obtain ⟨Ao50, co50, eo50⟩ := Kd.S_slice HO356.out; subst eo50; obtain ⟨Ao51, co51, eo51⟩ := Kd.S_slice HO363.out; subst eo51) | ((with_reducible refine gate_callee (f := 79) rfl ?_); refine goesL_ (some 22) rfl rfl Try.func79 (by kernel_rfl) rfl #[.agg #[.int .i64 t351, .int .i64 t352, .int .i64 t353, .slice Ao50 t354.length co50, .int .i64 t357, .int .i64 t358, .bool t359, .int .i64 t360, .slice Ao51 t361.length co51], .int .i64 a1] rfl (by (try simp only [List.map_toArray, List.map_cons, List.map_nil]); first | done | rfl | (simp only [List.length_drop, List.length_take]; rfl)) ?_; (with_reducible refine (impl_RoomIn.calls k t351 t352 t353 _ _ t354 t357 t358 t359 t360 _ _ t361 a1 t365 _ ?side1 ?side2 ?side3 ?side4 A11.out).mono ?_); (case side1 => refine (Kd.S_reads' (e := 218) (base := w.heap.size) (ok := fun k_ => (True ∧ some k_ ≠ (.slice Ao42 t340.length co42 : Value).ownBlock)) (n := t354.length) (c := co50) ?_).2.2; exact (by (with_reducible repeat (first | apply Kd.S_alloc | apply Kd.S_drewN | apply Kd.S_drew)); exact (Kd.S_mono (Kd.S_far (p := ⟨gb364, 8, none⟩) (Kd.S_far (p := ⟨gb364, 7, none⟩) (Kd.S_far (p := ⟨gb364, 6, none⟩) (Kd.S_far (p := ⟨gb364, 5, none⟩) (Kd.S_far (p := ⟨gb364, 4, none⟩) (Kd.S_far (p := ⟨gb364, 3, none⟩) (Kd.S_far (p := ⟨gb364, 2, none⟩) (Kd.S_far (p := ⟨gb364, 1, none⟩) (Kd.S_far (p := ⟨gb364, 0, none⟩) (Kd.S_types HO356.out BK364.out (by decide)) (fun _ hk => hk.2) (.int .i64 t351)) (fun _ hk => hk.2) (.int .i64 t352)) (fun _ hk => hk.2) (.int .i64 t353)) (fun _ hk => hk.2) (.slice Ao50 t354.length co50)) (fun _ hk => hk.2) (.int .i64 t357)) (fun _ hk => hk.2) (.int .i64 t358)) (fun _ hk => hk.2) (.bool t359)) (fun _ hk => hk.2) (.int .i64 t360)) (fun _ hk => hk.2) (.slice Ao51 t361.length co51)) (fun _ h_ => h_.1)))); (case side2 => exact (Kd.S_reads' HO356.out).2.1); (case side3 => refine (Kd.S_reads' (e := 276) (base := w.heap.size) (ok := fun k_ => (True ∧ some k_ ≠ (.slice Ao43 t347.length co43 : Value).ownBlock)) (n := t361.length) (c := co51) ?_).2.2; exact (by (with_reducible repeat (first | apply Kd.S_alloc | apply Kd.S_drewN | apply Kd.S_drew)); exact (Kd.S_mono (Kd.S_far (p := ⟨gb364, 8, none⟩) (Kd.S_far (p := ⟨gb364, 7, none⟩) (Kd.S_far (p := ⟨gb364, 6, none⟩) (Kd.S_far (p := ⟨gb364, 5, none⟩) (Kd.S_far (p := ⟨gb364, 4, none⟩) (Kd.S_far (p := ⟨gb364, 3, none⟩) (Kd.S_far (p := ⟨gb364, 2, none⟩) (Kd.S_far (p := ⟨gb364, 1, none⟩) (Kd.S_far (p := ⟨gb364, 0, none⟩) (Kd.S_types HO363.out BK364.out (by decide)) (fun _ hk => hk.2) (.int .i64 t351)) (fun _ hk => hk.2) (.int .i64 t352)) (fun _ hk => hk.2) (.int .i64 t353)) (fun _ hk => hk.2) (.slice Ao50 t354.length co50)) (fun _ hk => hk.2) (.int .i64 t357)) (fun _ hk => hk.2) (.int .i64 t358)) (fun _ hk => hk.2) (.bool t359)) (fun _ hk => hk.2) (.int .i64 t360)) (fun _ hk => hk.2) (.slice Ao51 t361.length co51)) (fun _ h_ => h_.1)))); (case side4 => exact (Kd.S_reads' HO363.out).2.1); rintro e w52 ⟨rfl, hb⟩; refine ⟨_, rfl, ?_⟩; replace HO342 := Aside0.mk (Kd.S_below (by (with_reducible repeat (first | apply Kd.S_alloc | apply Kd.S_drewN | apply Kd.S_drew)); exact (Kd.S_mono (Kd.S_far (p := ⟨gb364, 8, none⟩) (Kd.S_far (p := ⟨gb364, 7, none⟩) (Kd.S_far (p := ⟨gb364, 6, none⟩) (Kd.S_far (p := ⟨gb364, 5, none⟩) (Kd.S_far (p := ⟨gb364, 4, none⟩) (Kd.S_far (p := ⟨gb364, 3, none⟩) (Kd.S_far (p := ⟨gb364, 2, none⟩) (Kd.S_far (p := ⟨gb364, 1, none⟩) (Kd.S_far (p := ⟨gb364, 0, none⟩) (Kd.S_types HO342.out BK364.out (by decide)) (fun _ hk => hk.2) (.int .i64 t351)) (fun _ hk => hk.2) (.int .i64 t352)) (fun _ hk => hk.2) (.int .i64 t353)) (fun _ hk => hk.2) (.slice Ao50 t354.length co50)) (fun _ hk => hk.2) (.int .i64 t357)) (fun _ hk => hk.2) (.int .i64 t358)) (fun _ hk => hk.2) (.bool t359)) (fun _ hk => hk.2) (.int .i64 t360)) (fun _ hk => hk.2) (.slice Ao51 t361.length co51)) (fun _ h_ => h_.1))) hb); replace HO349 := Aside0.mk (Kd.S_below (by (with_reducible repeat (first | apply Kd.S_alloc | apply Kd.S_drewN | apply Kd.S_drew)); exact (Kd.S_mono (Kd.S_far (p := ⟨gb364, 8, none⟩) (Kd.S_far (p := ⟨gb364, 7, none⟩) (Kd.S_far (p := ⟨gb364, 6, none⟩) (Kd.S_far (p := ⟨gb364, 5, none⟩) (Kd.S_far (p := ⟨gb364, 4, none⟩) (Kd.S_far (p := ⟨gb364, 3, none⟩) (Kd.S_far (p := ⟨gb364, 2, none⟩) (Kd.S_far (p := ⟨gb364, 1, none⟩) (Kd.S_far (p := ⟨gb364, 0, none⟩) (Kd.S_types HO349.out BK364.out (by decide)) (fun _ hk => hk.2) (.int .i64 t351)) (fun _ hk => hk.2) (.int .i64 t352)) (fun _ hk => hk.2) (.int .i64 t353)) (fun _ hk => hk.2) (.slice Ao50 t354.length co50)) (fun _ hk => hk.2) (.int .i64 t357)) (fun _ hk => hk.2) (.int .i64 t358)) (fun _ hk => hk.2) (.bool t359)) (fun _ hk => hk.2) (.int .i64 t360)) (fun _ hk => hk.2) (.slice Ao51 t361.length co51)) (fun _ h_ => h_.1))) hb); replace HO356 := Aside0.mk (Kd.S_below (by (with_reducible repeat (first | apply Kd.S_alloc | apply Kd.S_drewN | apply Kd.S_drew)); exact (Kd.S_mono (Kd.S_far (p := ⟨gb364, 8, none⟩) (Kd.S_far (p := ⟨gb364, 7, none⟩) (Kd.S_far (p := ⟨gb364, 6, none⟩) (Kd.S_far (p := ⟨gb364, 5, none⟩) (Kd.S_far (p := ⟨gb364, 4, none⟩) (Kd.S_far (p := ⟨gb364, 3, none⟩) (Kd.S_far (p := ⟨gb364, 2, none⟩) (Kd.S_far (p := ⟨gb364, 1, none⟩) (Kd.S_far (p := ⟨gb364, 0, none⟩) (Kd.S_types HO356.out BK364.out (by decide)) (fun _ hk => hk.2) (.int .i64 t351)) (fun _ hk => hk.2) (.int .i64 t352)) (fun _ hk => hk.2) (.int .i64 t353)) (fun _ hk => hk.2) (.slice Ao50 t354.length co50)) (fun _ hk => hk.2) (.int .i64 t357)) (fun _ hk => hk.2) (.int .i64 t358)) (fun _ hk => hk.2) (.bool t359)) (fun _ hk => hk.2) (.int .i64 t360)) (fun _ hk => hk.2) (.slice Ao51 t361.length co51)) (fun _ h_ => h_.1))) hb); replace HO363 := Aside0.mk (Kd.S_below (by (with_reducible repeat (first | apply Kd.S_alloc | apply Kd.S_drewN | apply Kd.S_drew)); exact (Kd.S_mono (Kd.S_far (p := ⟨gb364, 8, none⟩) (Kd.S_far (p := ⟨gb364, 7, none⟩) (Kd.S_far (p := ⟨gb364, 6, none⟩) (Kd.S_far (p := ⟨gb364, 5, none⟩) (Kd.S_far (p := ⟨gb364, 4, none⟩) (Kd.S_far (p := ⟨gb364, 3, none⟩) (Kd.S_far (p := ⟨gb364, 2, none⟩) (Kd.S_far (p := ⟨gb364, 1, none⟩) (Kd.S_far (p := ⟨gb364, 0, none⟩) (Kd.S_types HO363.out BK364.out (by decide)) (fun _ hk => hk.2) (.int .i64 t351)) (fun _ hk => hk.2) (.int .i64 t352)) (fun _ hk => hk.2) (.int .i64 t353)) (fun _ hk => hk.2) (.slice Ao50 t354.length co50)) (fun _ hk => hk.2) (.int .i64 t357)) (fun _ hk => hk.2) (.int .i64 t358)) (fun _ hk => hk.2) (.bool t359)) (fun _ hk => hk.2) (.int .i64 t360)) (fun _ hk => hk.2) (.slice Ao51 t361.length co51)) (fun _ h_ => h_.1))) hb); replace BK335 := Aside0.mk (blk_below (g := gb335) (o := .cells #[.int .i64 a0_0, .int .i64 a0_1, .int .i64 a0_2, .slice A0_3 l0_3.length c0_3, .int .i64 a0_4, .int .i64 a0_5, .bool a0_6, .int .i64 a0_7, .slice A0_8 l0_8.length c0_8] 121 (0, 0)) (by (with_reducible repeat (first | refine blk_drewN ?_ _ | refine blk_drew ?_ | refine blk_alloc ?_ _)); refine blk_far ?_ NB335_364.out _; (with_reducible repeat (first | refine blk_drewN ?_ _ | refine blk_drew ?_ | refine blk_alloc ?_ _)); refine blk_far ?_ NB335_364.out _; (with_reducible repeat (first | refine blk_drewN ?_ _ | refine blk_drew ?_ | refine blk_alloc ?_ _)); refine blk_far ?_ NB335_364.out _; (with_reducible repeat (first | refine blk_drewN ?_ _ | refine blk_drew ?_ | refine blk_alloc ?_ _)); refine blk_far ?_ NB335_364.out _; (with_reducible repeat (first | refine blk_drewN ?_ _ | refine blk_drew ?_ | refine blk_alloc ?_ _)); refine blk_far ?_ NB335_364.out _; (with_reducible repeat (first | refine blk_drewN ?_ _ | refine blk_drew ?_ | refine blk_alloc ?_ _)); refine blk_far ?_ NB335_364.out _; (with_reducible repeat (first | refine blk_drewN ?_ _ | refine blk_drew ?_ | refine blk_alloc ?_ _)); refine blk_far ?_ NB335_364.out _; (with_reducible repeat (first | refine blk_drewN ?_ _ | refine blk_drew ?_ | refine blk_alloc ?_ _)); refine blk_far ?_ NB335_364.out _; (with_reducible repeat (first | refine blk_drewN ?_ _ | refine blk_drew ?_ | refine blk_alloc ?_ _)); refine blk_far ?_ NB335_364.out _; (with_reducible repeat (first | refine blk_drewN ?_ _ | refine blk_drew ?_ | refine blk_alloc ?_ _)); exact BK335.out) hb); replace BK364 := Aside0.mk (blk_below (g := gb364) (o := .cells #[.int .i64 t351, .int .i64 t352, .int .i64 t353, .slice Ao50 t354.length co50, .int .i64 t357, .int .i64 t358, .bool t359, .int .i64 t360, .slice Ao51 t361.length co51] 126 (0, 0)) (by (with_reducible repeat (first | refine blk_drewN ?_ _ | refine blk_drew ?_ | refine blk_alloc ?_ _)); refine blk_put (cs := #[.int .i64 t351, .int .i64 t352, .int .i64 t353, .slice Ao50 t354.length co50, .int .i64 t357, .int .i64 t358, .bool t359, .int .i64 t360, .slice none 0 0]) ?_ 8 _ rfl; (with_reducible repeat (first | refine blk_drewN ?_ _ | refine blk_drew ?_ | refine blk_alloc ?_ _)); refine blk_put (cs := #[.int .i64 t351, .int .i64 t352, .int .i64 t353, .slice Ao50 t354.length co50, .int .i64 t357, .int .i64 t358, .bool t359, .int .i64 0, .slice none 0 0]) ?_ 7 _ rfl; (with_reducible repeat (first | refine blk_drewN ?_ _ | refine blk_drew ?_ | refine blk_alloc ?_ _)); refine blk_put (cs := #[.int .i64 t351, .int .i64 t352, .int .i64 t353, .slice Ao50 t354.length co50, .int .i64 t357, .int .i64 t358, .bool false, .int .i64 0, .slice none 0 0]) ?_ 6 _ rfl; (with_reducible repeat (first | refine blk_drewN ?_ _ | refine blk_drew ?_ | refine blk_alloc ?_ _)); refine blk_put (cs := #[.int .i64 t351, .int .i64 t352, .int .i64 t353, .slice Ao50 t354.length co50, .int .i64 t357, .int .i64 0, .bool false, .int .i64 0, .slice none 0 0]) ?_ 5 _ rfl; (with_reducible repeat (first | refine blk_drewN ?_ _ | refine blk_drew ?_ | refine blk_alloc ?_ _)); refine blk_put (cs := #[.int .i64 t351, .int .i64 t352, .int .i64 t353, .slice Ao50 t354.length co50, .int .i64 0, .int .i64 0, .bool false, .int .i64 0, .slice none 0 0]) ?_ 4 _ rfl; (with_reducible repeat (first | refine blk_drewN ?_ _ | refine blk_drew ?_ | refine blk_alloc ?_ _)); refine blk_put (cs := #[.int .i64 t351, .int .i64 t352, .int .i64 t353, .slice none 0 0, .int .i64 0, .int .i64 0, .bool false, .int .i64 0, .slice none 0 0]) ?_ 3 _ rfl; (with_reducible repeat (first | refine blk_drewN ?_ _ | refine blk_drew ?_ | refine blk_alloc ?_ _)); refine blk_put (cs := #[.int .i64 t351, .int .i64 t352, .int .i64 0, .slice none 0 0, .int .i64 0, .int .i64 0, .bool false, .int .i64 0, .slice none 0 0]) ?_ 2 _ rfl; (with_reducible repeat (first | refine blk_drewN ?_ _ | refine blk_drew ?_ | refine blk_alloc ?_ _)); refine blk_put (cs := #[.int .i64 t351, .int .i64 0, .int .i64 0, .slice none 0 0, .int .i64 0, .int .i64 0, .bool false, .int .i64 0, .slice none 0 0]) ?_ 1 _ rfl; (with_reducible repeat (first | refine blk_drewN ?_ _ | refine blk_drew ?_ | refine blk_alloc ?_ _)); refine blk_put (cs := #[.int .i64 0, .int .i64 0, .int .i64 0, .slice none 0 0, .int .i64 0, .int .i64 0, .bool false, .int .i64 0, .slice none 0 0]) ?_ 0 _ rfl; (with_reducible repeat (first | refine blk_drewN ?_ _ | refine blk_drew ?_ | refine blk_alloc ?_ _)); exact BK364.out) hb); replace HB := Aside0.mk (below_step (bw_ HB.out) hb); (try clear hb)))
  replace HO342 := Aside0.mk (Kd.S_drew HO342.out)
  replace HO349 := Aside0.mk (Kd.S_drew HO349.out)
  replace HO356 := Aside0.mk (Kd.S_drew HO356.out)
  replace HO363 := Aside0.mk (Kd.S_drew HO363.out)
  replace BK335 := Aside0.mk (blk_drew BK335.out)
  replace BK364 := Aside0.mk (blk_drew BK364.out)
  replace HB := Aside0.mk (below_drew1 HB.out)
  refine start_ (n := 5) (S := fun w' => w'.cell? ⟨gb364, 0, none⟩ = some (.int .i64 t351) ∧ w'.cell? ⟨gb364, 1, none⟩ = some (.int .i64 t352) ∧ w'.cell? ⟨gb364, 2, none⟩ = some (.int .i64 t353) ∧ w'.cell? ⟨gb364, 3, none⟩ = some (.slice Ao50 t354.length co50) ∧ w'.cell? ⟨gb364, 4, none⟩ = some (.int .i64 t357) ∧ w'.cell? ⟨gb364, 5, none⟩ = some (.int .i64 t358) ∧ w'.cell? ⟨gb364, 6, none⟩ = some (.bool t359) ∧ w'.cell? ⟨gb364, 7, none⟩ = some (.int .i64 t360) ∧ w'.cell? ⟨gb364, 8, none⟩ = some (.slice Ao51 t361.length co51) ∧ w'.cell? ⟨gb335, 0, none⟩ = some (.int .i64 a0_0) ∧ w'.cell? ⟨gb335, 1, none⟩ = some (.int .i64 a0_1) ∧ w'.cell? ⟨gb335, 2, none⟩ = some (.int .i64 a0_2) ∧ w'.cell? ⟨gb335, 3, none⟩ = some (.slice A0_3 l0_3.length c0_3) ∧ w'.cell? ⟨gb335, 4, none⟩ = some (.int .i64 a0_4) ∧ w'.cell? ⟨gb335, 5, none⟩ = some (.int .i64 a0_5) ∧ w'.cell? ⟨gb335, 6, none⟩ = some (.bool a0_6) ∧ w'.cell? ⟨gb335, 7, none⟩ = some (.int .i64 a0_7) ∧ w'.cell? ⟨gb335, 8, none⟩ = some (.slice A0_8 l0_8.length c0_8)) (ds := []) (Array.replicate 5 false) (by kernel_rfl) rfl rfl ⟨(blk_cell BK364.out 0).trans rfl, (blk_cell BK364.out 1).trans rfl, (blk_cell BK364.out 2).trans rfl, (blk_cell BK364.out 3).trans rfl, (blk_cell BK364.out 4).trans rfl, (blk_cell BK364.out 5).trans rfl, (blk_cell BK364.out 6).trans rfl, (blk_cell BK364.out 7).trans rfl, (blk_cell BK364.out 8).trans rfl, (blk_cell BK335.out 0).trans rfl, (blk_cell BK335.out 1).trans rfl, (blk_cell BK335.out 2).trans rfl, (blk_cell BK335.out 3).trans rfl, (blk_cell BK335.out 4).trans rfl, (blk_cell BK335.out 5).trans rfl, (blk_cell BK335.out 6).trans rfl, (blk_cell BK335.out 7).trans rfl, (blk_cell BK335.out 8).trans rfl⟩ (fun hHeld => ?_)
  generalize w52.drew = w53 at HO342 HO349 HO356 HO363 BK335 BK364 HB hHeld ⊢
  refine take_ (i := 0) (N := some 26) (v := ?_) (a' := ?_) (bl_ 5 1) rfl rfl (by kernel_rfl) (fun _ _ _ h => h) (Or.inl ⟨by rfl, ?_⟩) hHeld ?_ ?_
  rotate_left
  ·rintro w' ⟨s0, s1, s2, s3, s4, s5, s6, s7, s8, s9, s10, s11, s12, s13, s14, s15, s16, s17⟩
   go_simp
   with_reducible rfl
  rotate_left
  ·simp only [Act.put, q1_, q2_, q3_, i64_w, i32_w]
   rfl
  refine take_ (i := 1) (N := some 27) (v := ?_) (a' := ?_) (bl_ 5 3) rfl rfl (by kernel_rfl) (fun _ _ _ h => h) (Or.inl ⟨by rfl, ?_⟩) hHeld ?_ ?_
  rotate_left
  ·rintro w' ⟨s0, s1, s2, s3, s4, s5, s6, s7, s8, s9, s10, s11, s12, s13, s14, s15, s16, s17⟩
   go_simp
   with_reducible rfl
  rotate_left
  ·simp only [Act.put, q1_, q2_, q3_, i64_w, i32_w]
   rfl
  refine one_ (i := 2) (N := some 28) (bl_ 5 7) rfl rfl (by kernel_rfl) (by decide) (fun K hK => ?_)
  refine goes_ Try.func78 (by kernel_rfl) rfl #[.agg #[.int .i64 a0_0, .int .i64 a0_1, .int .i64 a0_2, .slice A0_3 l0_3.length c0_3, .int .i64 a0_4, .int .i64 a0_5, .bool a0_6, .int .i64 a0_7, .slice A0_8 l0_8.length c0_8]] (by rfl) rfl rfl (by (try simp only [List.map_toArray, List.map_cons, List.map_nil]); first | done | rfl | (simp only [List.length_drop, List.length_take]; rfl)) ?_
  with_reducible refine (laws_toDevice.calls k a0_0 a0_1 a0_2 _ _ l0_3 a0_4 a0_5 a0_6 a0_7 _ _ l0_8 t366 t367 t368 t369 t372 t373 t374 t375 t376 _ ?side1 ?side2 ?side3 ?side4 A13.out).mono ?_
  (case side1 => exact Kd.C_below HR0_3.out (bw_ HB.out))
  (case side2 => exact HC0_3.out)
  (case side3 => exact Kd.C_below HR0_8.out (bw_ HB.out))
  (case side4 => exact HC0_8.out)
  rintro e w54 ⟨v370, v377, rfl, ho0, ho1, hb⟩
  refine ⟨_, rfl, ?_⟩
  have HO371 := Aside0.mk (Kd.S_lower (Kd.S_new' (Kd.S_new' ho0 (Kd.S_lt (Kd.S_below HO342.out st_))) (Kd.S_lt (Kd.S_below HO356.out st_))) (below_size (bw_ HB.out)))
  replace HO342 := Aside0.mk (Kd.S_elder' (Kd.S_below HO342.out st_) (Kd.S_base ho0) hb)
  replace HO356 := Aside0.mk (Kd.S_elder' (Kd.S_below HO356.out st_) (Kd.S_base ho0) hb)
  have HO378 := Aside0.mk (Kd.S_lower (Kd.S_new' (Kd.S_new' ho1 (Kd.S_lt (Kd.S_below HO349.out st_))) (Kd.S_lt (Kd.S_below HO363.out st_))) (below_size (bw_ HB.out)))
  replace HO349 := Aside0.mk (Kd.S_elder' (Kd.S_below HO349.out st_) (Kd.S_base ho1) hb)
  replace HO363 := Aside0.mk (Kd.S_elder' (Kd.S_below HO363.out st_) (Kd.S_base ho1) hb)
  replace BK335 := Aside0.mk (blk_below (bk_ BK335.out) hb)
  replace BK364 := Aside0.mk (blk_below (bk_ BK364.out) hb)
  replace HB := Aside0.mk (below_step (bw_ HB.out) hb)
  (try clear ho1)
  obtain ⟨Ao55, co55, eo55⟩ := Kd.S_slice HO371.out
  (first | subst eo55 | (injection eo55 with f1_ f2_ f3_; have f4_ := f1_.symm; have f5_ := f3_.symm; clear f1_ f2_ f3_; subst f4_; subst f5_))
  obtain ⟨Ao56, co56, eo56⟩ := Kd.S_slice HO378.out
  (first | subst eo56 | (injection eo56 with f1_ f2_ f3_; have f4_ := f1_.symm; have f5_ := f3_.symm; clear f1_ f2_ f3_; subst f4_; subst f5_))
  refine hK.out _ _ ⟨(blk_cell BK364.out 0).trans rfl, (blk_cell BK364.out 1).trans rfl, (blk_cell BK364.out 2).trans rfl, (blk_cell BK364.out 3).trans rfl, (blk_cell BK364.out 4).trans rfl, (blk_cell BK364.out 5).trans rfl, (blk_cell BK364.out 6).trans rfl, (blk_cell BK364.out 7).trans rfl, (blk_cell BK364.out 8).trans rfl, (blk_cell BK335.out 0).trans rfl, (blk_cell BK335.out 1).trans rfl, (blk_cell BK335.out 2).trans rfl, (blk_cell BK335.out 3).trans rfl, (blk_cell BK335.out 4).trans rfl, (blk_cell BK335.out 5).trans rfl, (blk_cell BK335.out 6).trans rfl, (blk_cell BK335.out 7).trans rfl, (blk_cell BK335.out 8).trans rfl⟩ (fun hHeld => ?_)
  clear hK K
  refine norm_ (a' := ?_) ?_ ?_
  rotate_left
  ·show Act.put _ (some 28) _ = _
   simp only [Act.put, q1_, q2_, q3_, i64_w, i32_w]
   rfl
  refine one_ (i := 3) (N := some 29) (bl_ 5 15) rfl rfl (by kernel_rfl) (by decide) (fun K hK => ?_)
  refine goes_ Try.func80 (by kernel_rfl) rfl #[.agg #[.int .i64 t351, .int .i64 t352, .int .i64 t353, .slice Ao50 t354.length co50, .int .i64 t357, .int .i64 t358, .bool t359, .int .i64 t360, .slice Ao51 t361.length co51], .agg #[.int .i64 t366, .int .i64 t367, .int .i64 t368, .slice Ao55 t369.length co55, .int .i64 t372, .int .i64 t373, .bool t374, .int .i64 t375, .slice Ao56 t376.length co56]] (by rfl) rfl rfl (by (try simp only [List.map_toArray, List.map_cons, List.map_nil]); first | done | rfl | (simp only [List.length_drop, List.length_take]; rfl)) ?_
  with_reducible refine (laws_eqDevice.calls k t351 t352 t353 _ _ t354 t357 t358 t359 t360 _ _ t361 t366 t367 t368 _ _ t369 t372 t373 t374 t375 _ _ t376 false _ ?side1 ?side2 ?side3 ?side4 ?side5 ?side6 ?side7 ?side8 A14.out).mono ?_
  (case side1 => repeat (first | exact (Kd.S_reads' HO356.out).2.2 | (with_reducible refine Kd.C_alloc ?_ _) | (with_reducible refine Kd.C_drewN ?_ _) | (with_reducible refine Kd.C_drew ?_)))
  (case side2 => exact (Kd.S_reads' HO356.out).2.1)
  (case side3 => repeat (first | exact (Kd.S_reads' HO363.out).2.2 | (with_reducible refine Kd.C_alloc ?_ _) | (with_reducible refine Kd.C_drewN ?_ _) | (with_reducible refine Kd.C_drew ?_)))
  (case side4 => exact (Kd.S_reads' HO363.out).2.1)
  (case side5 => repeat (first | exact (Kd.S_reads' HO371.out).2.2 | (with_reducible refine Kd.C_alloc ?_ _) | (with_reducible refine Kd.C_drewN ?_ _) | (with_reducible refine Kd.C_drew ?_)))
  (case side6 => exact (Kd.S_reads' HO371.out).2.1)
  (case side7 => repeat (first | exact (Kd.S_reads' HO378.out).2.2 | (with_reducible refine Kd.C_alloc ?_ _) | (with_reducible refine Kd.C_drewN ?_ _) | (with_reducible refine Kd.C_drew ?_)))
  (case side8 => exact (Kd.S_reads' HO378.out).2.1)
  rintro e w57 ⟨rfl, hb⟩
  refine ⟨_, rfl, ?_⟩
  replace HO342 := Aside0.mk (Kd.S_below (Kd.S_below HO342.out st_) hb)
  replace HO349 := Aside0.mk (Kd.S_below (Kd.S_below HO349.out st_) hb)
  replace HO356 := Aside0.mk (Kd.S_below (Kd.S_below HO356.out st_) hb)
  replace HO363 := Aside0.mk (Kd.S_below (Kd.S_below HO363.out st_) hb)
  replace HO371 := Aside0.mk (Kd.S_below (Kd.S_below HO371.out st_) hb)
  replace HO378 := Aside0.mk (Kd.S_below (Kd.S_below HO378.out st_) hb)
  replace BK335 := Aside0.mk (blk_below (bk_ BK335.out) hb)
  replace BK364 := Aside0.mk (blk_below (bk_ BK364.out) hb)
  replace HB := Aside0.mk (below_step (bw_ HB.out) hb)
  refine hK.out _ _ ⟨(blk_cell BK364.out 0).trans rfl, (blk_cell BK364.out 1).trans rfl, (blk_cell BK364.out 2).trans rfl, (blk_cell BK364.out 3).trans rfl, (blk_cell BK364.out 4).trans rfl, (blk_cell BK364.out 5).trans rfl, (blk_cell BK364.out 6).trans rfl, (blk_cell BK364.out 7).trans rfl, (blk_cell BK364.out 8).trans rfl, (blk_cell BK335.out 0).trans rfl, (blk_cell BK335.out 1).trans rfl, (blk_cell BK335.out 2).trans rfl, (blk_cell BK335.out 3).trans rfl, (blk_cell BK335.out 4).trans rfl, (blk_cell BK335.out 5).trans rfl, (blk_cell BK335.out 6).trans rfl, (blk_cell BK335.out 7).trans rfl, (blk_cell BK335.out 8).trans rfl⟩ (fun hHeld => ?_)
  clear hK K
  refine norm_ (a' := ?_) ?_ ?_
  rotate_left
  ·show Act.put _ (some 29) _ = _
   simp only [Act.put, q1_, q2_, q3_, i64_w, i32_w]
   rfl
  refine pure_ (i := 4) (N := some 30) (v := ?_) (a' := ?_) (bl_ 5 31) rfl rfl (by kernel_rfl) (fun _ _ _ h => h) (Or.inl ⟨by rfl, ?_⟩) ?_ ?_
  rotate_left
  ·intro w'
   go_simp
   with_reducible rfl
  rotate_left
  ·simp only [Act.put, q1_, q2_, q3_, i64_w, i32_w]
   rfl
  refine done_ (by kernel_rfl) ?_
  try go_wp2
  go_ret
  exact ⟨by first | rfl | (simp [errW_none, errW_some] <;> rfl) | (simp [*, errW_none, errW_some] <;> rfl), bw_ HB.out⟩
 rw [if_neg c12] at H
 have c12b0 : (t365 == t350) = false := beq_eq_false_iff_ne.mpr c12
 have c12b1 : (t365 != t350) = true := bne_iff_ne.mpr c12
 obtain rfl := Option.some.inj H
 go_enter Try.func13, Try.ntmps13
 go_wp2_with (first | ((with_reducible refine gate_dst (N := 2) rfl ?_); refine box_event ?hg (N := 2) ?hd (cs := #[.int .i64 a0_0, .int .i64 a0_1, .int .i64 a0_2, .slice A0_3 l0_3.length c0_3, .int .i64 a0_4, .int .i64 a0_5, .bool a0_6, .int .i64 a0_7, .slice A0_8 l0_8.length c0_8]) (t := 121) ?hr ?_; (case hd => rfl); (case hg => rfl); (case hr => first | (go_simp; done) | (go_simp; rfl)); intro gb335 hg w58 hbox hb; have BK335 := Aside0.mk (hbox); have GW335 := Aside0.mk ((by rw [hg]; exact (below_size (bw_ HB.out)) : w.heap.size ≤ gb335)); have GE335 := Nonempty.intro GW335.out; replace HB := Aside0.mk (below_step (bw_ HB.out) hb); clear hb hbox hg; obtain ⟨hcz59_0, hcz59_1, hcz59_2, hcz59_3, hcz59_4, hcz59_5, hcz59_6, hcz59_7, hcz59_8⟩ := cells9 BK335.out; obtain ⟨hfz59_0, hfz59_1, hfz59_2, hfz59_3, hfz59_4, hfz59_5, hfz59_6, hfz59_7, hfz59_8⟩ := frozen9 BK335.out) | ((with_reducible refine gate_callee (f := 76) rfl ?_); refine goesL_ (some 11) rfl rfl Try.func76 (by kernel_rfl) rfl #[.agg #[.int .i64 a0_0, .int .i64 a0_1, .int .i64 a0_2, .slice A0_3 l0_3.length c0_3, .int .i64 a0_4, .int .i64 a0_5, .bool a0_6, .int .i64 a0_7, .slice A0_8 l0_8.length c0_8], .int .i64 1048576] rfl (by (try simp only [List.map_toArray, List.map_cons, List.map_nil]); first | done | rfl | (simp only [List.length_drop, List.length_take]; rfl)) ?_; (with_reducible refine (laws_szDevice.calls k a0_0 a0_1 a0_2 _ _ l0_3 a0_4 a0_5 a0_6 a0_7 _ _ l0_8 1048576 t336 _ ?side1 ?side2 ?side3 ?side4 A3.out).mono ?_); (case side1 => exact Kd.C_below HR0_3.out (bw_ HB.out)); (case side2 => exact HC0_3.out); (case side3 => exact Kd.C_below HR0_8.out (bw_ HB.out)); (case side4 => exact HC0_8.out); rintro e w60 ⟨rfl, hb⟩; refine ⟨_, rfl, ?_⟩; replace BK335 := Aside0.mk (blk_below (bk_ BK335.out) hb); replace HB := Aside0.mk (below_step (bw_ HB.out) hb); (try clear hb); obtain ⟨hcz61_0, hcz61_1, hcz61_2, hcz61_3, hcz61_4, hcz61_5, hcz61_6, hcz61_7, hcz61_8⟩ := cells9 BK335.out; obtain ⟨hfz61_0, hfz61_1, hfz61_2, hfz61_3, hfz61_4, hfz61_5, hfz61_6, hfz61_7, hfz61_8⟩ := frozen9 BK335.out) | ((with_reducible refine gate_callee (f := 78) rfl ?_); refine goesL_ (some 15) rfl rfl Try.func78 (by kernel_rfl) rfl #[.agg #[.int .i64 a0_0, .int .i64 a0_1, .int .i64 a0_2, .slice A0_3 l0_3.length c0_3, .int .i64 a0_4, .int .i64 a0_5, .bool a0_6, .int .i64 a0_7, .slice A0_8 l0_8.length c0_8]] rfl (by (try simp only [List.map_toArray, List.map_cons, List.map_nil]); first | done | rfl | (simp only [List.length_drop, List.length_take]; rfl)) ?_; (with_reducible refine (laws_toDevice.calls k a0_0 a0_1 a0_2 _ _ l0_3 a0_4 a0_5 a0_6 a0_7 _ _ l0_8 t337 t338 t339 t340 t343 t344 t345 t346 t347 _ ?side1 ?side2 ?side3 ?side4 A8.out).mono ?_); (case side1 => exact Kd.C_below HR0_3.out (bw_ HB.out)); (case side2 => exact HC0_3.out); (case side3 => exact Kd.C_below HR0_8.out (bw_ HB.out)); (case side4 => exact HC0_8.out); rintro e w62 ⟨v341, v348, rfl, ho0, ho1, hb⟩; refine ⟨_, rfl, ?_⟩; have HO342 := Aside0.mk (Kd.S_lower ho0 (below_size (bw_ HB.out))); have HO349 := Aside0.mk (Kd.S_lower ho1 (below_size (bw_ HB.out))); replace BK335 := Aside0.mk (blk_below (bk_ BK335.out) hb); replace HB := Aside0.mk (below_step (bw_ HB.out) hb); (try clear hb); (try clear ho1); obtain ⟨Ao63, co63, eo63⟩ := Kd.S_slice HO342.out; subst eo63; obtain ⟨Ao64, co64, eo64⟩ := Kd.S_slice HO349.out; subst eo64) | ((with_reducible refine gate_callee (f := 77) rfl ?_); refine goesL_ (some 17) rfl rfl Try.func77 (by kernel_rfl) rfl #[.agg #[.int .i64 t337, .int .i64 t338, .int .i64 t339, .slice Ao63 t340.length co63, .int .i64 t343, .int .i64 t344, .bool t345, .int .i64 t346, .slice Ao64 t347.length co64], .int .i64 a1] rfl (by (try simp only [List.map_toArray, List.map_cons, List.map_nil]); first | done | rfl | (simp only [List.length_drop, List.length_take]; rfl)) ?_; (with_reducible refine (spec_RoomIn.calls k t337 t338 t339 _ _ t340 t343 t344 t345 t346 _ _ t347 a1 t350 _ ?side1 ?side2 ?side3 ?side4 A9.out).mono ?_); (case side1 => repeat (first | exact (Kd.S_reads' HO342.out).2.2 | (with_reducible refine Kd.C_alloc ?_ _) | (with_reducible refine Kd.C_drewN ?_ _) | (with_reducible refine Kd.C_drew ?_))); (case side2 => exact (Kd.S_reads' HO342.out).2.1); (case side3 => repeat (first | exact (Kd.S_reads' HO349.out).2.2 | (with_reducible refine Kd.C_alloc ?_ _) | (with_reducible refine Kd.C_drewN ?_ _) | (with_reducible refine Kd.C_drew ?_))); (case side4 => exact (Kd.S_reads' HO349.out).2.1); rintro e w65 ⟨rfl, hb⟩; refine ⟨_, rfl, ?_⟩; replace HO342 := Aside0.mk (Kd.S_below (Kd.S_below HO342.out st_) hb); replace HO349 := Aside0.mk (Kd.S_below (Kd.S_below HO349.out st_) hb); replace BK335 := Aside0.mk (blk_below (bk_ BK335.out) hb); replace HB := Aside0.mk (below_step (bw_ HB.out) hb); (try clear hb); obtain ⟨hcz66_0, hcz66_1, hcz66_2, hcz66_3, hcz66_4, hcz66_5, hcz66_6, hcz66_7, hcz66_8⟩ := cells9 BK335.out; obtain ⟨hfz66_0, hfz66_1, hfz66_2, hfz66_3, hfz66_4, hfz66_5, hfz66_6, hfz66_7, hfz66_8⟩ := frozen9 BK335.out) | ((with_reducible refine gate_callee (f := 78) rfl ?_); refine goesL_ (some 19) rfl rfl Try.func78 (by kernel_rfl) rfl #[.agg #[.int .i64 a0_0, .int .i64 a0_1, .int .i64 a0_2, .slice A0_3 l0_3.length c0_3, .int .i64 a0_4, .int .i64 a0_5, .bool a0_6, .int .i64 a0_7, .slice A0_8 l0_8.length c0_8]] rfl (by (try simp only [List.map_toArray, List.map_cons, List.map_nil]); first | done | rfl | (simp only [List.length_drop, List.length_take]; rfl)) ?_; (with_reducible refine (laws_toDevice.calls k a0_0 a0_1 a0_2 _ _ l0_3 a0_4 a0_5 a0_6 a0_7 _ _ l0_8 t351 t352 t353 t354 t357 t358 t359 t360 t361 _ ?side1 ?side2 ?side3 ?side4 A10.out).mono ?_); (case side1 => exact Kd.C_below HR0_3.out (bw_ HB.out)); (case side2 => exact HC0_3.out); (case side3 => exact Kd.C_below HR0_8.out (bw_ HB.out)); (case side4 => exact HC0_8.out); rintro e w67 ⟨v355, v362, rfl, ho0, ho1, hb⟩; refine ⟨_, rfl, ?_⟩; have HO356 := Aside0.mk (Kd.S_lower (Kd.S_new' ho0 (Kd.S_lt (Kd.S_below HO342.out st_))) (below_size (bw_ HB.out))); replace HO342 := Aside0.mk (Kd.S_elder' (Kd.S_below HO342.out st_) (Kd.S_base ho0) hb); have HO363 := Aside0.mk (Kd.S_lower (Kd.S_new' ho1 (Kd.S_lt (Kd.S_below HO349.out st_))) (below_size (bw_ HB.out))); replace HO349 := Aside0.mk (Kd.S_elder' (Kd.S_below HO349.out st_) (Kd.S_base ho1) hb); replace BK335 := Aside0.mk (blk_below (bk_ BK335.out) hb); replace HB := Aside0.mk (below_step (bw_ HB.out) hb); (try clear hb); (try clear ho1)) | ((with_reducible refine gate_dst (N := 7) rfl ?_); refine box_event ?hg (N := 7) ?hd (cs := #[.int .i64 0, .int .i64 0, .int .i64 0, .slice none 0 0, .int .i64 0, .int .i64 0, .bool false, .int .i64 0, .slice none 0 0]) (t := 126) ?hr ?_; (case hd => rfl); (case hg => rfl); (case hr => first | (go_simp; done) | (go_simp; rfl)); intro gb364 hg w68 hbox hb; replace HO342 := Aside0.mk (Kd.S_below (Kd.S_below HO342.out st_) hb); replace HO349 := Aside0.mk (Kd.S_below (Kd.S_below HO349.out st_) hb); replace HO356 := Aside0.mk (Kd.S_below (Kd.S_below HO356.out st_) hb); replace HO363 := Aside0.mk (Kd.S_below (Kd.S_below HO363.out st_) hb); have BK364 := Aside0.mk (hbox); have GW364 := Aside0.mk ((by rw [hg]; exact (below_size (bw_ HB.out)) : w.heap.size ≤ gb364)); have GE364 := Nonempty.intro GW364.out; replace HB := Aside0.mk (below_step (bw_ HB.out) hb); have NB335_364 := Aside0.mk ((by rw [hg]; exact Nat.ne_of_lt (blk_lt (bk_ BK335.out)) : gb335 ≠ gb364)); have NB364_335 := Aside0.mk ((by rw [hg]; exact Nat.ne_of_gt (blk_lt (bk_ BK335.out)) : gb364 ≠ gb335)); replace BK335 := Aside0.mk (blk_below (bk_ BK335.out) hb); clear hb hbox hg; have hnb69 := NB364_335.out; have hnc69 := NB335_364.out; obtain ⟨hcz70_0, hcz70_1, hcz70_2, hcz70_3, hcz70_4, hcz70_5, hcz70_6, hcz70_7, hcz70_8⟩ := cells9 BK364.out; obtain ⟨hfz70_0, hfz70_1, hfz70_2, hfz70_3, hfz70_4, hfz70_5, hfz70_6, hfz70_7, hfz70_8⟩ := frozen9 BK364.out; obtain ⟨Ao71, co71, eo71⟩ := Kd.S_slice HO356.out; subst eo71; obtain ⟨Ao72, co72, eo72⟩ := Kd.S_slice HO363.out; subst eo72) | ((with_reducible refine gate_callee (f := 79) rfl ?_); refine goesL_ (some 22) rfl rfl Try.func79 (by kernel_rfl) rfl #[.agg #[.int .i64 t351, .int .i64 t352, .int .i64 t353, .slice Ao71 t354.length co71, .int .i64 t357, .int .i64 t358, .bool t359, .int .i64 t360, .slice Ao72 t361.length co72], .int .i64 a1] rfl (by (try simp only [List.map_toArray, List.map_cons, List.map_nil]); first | done | rfl | (simp only [List.length_drop, List.length_take]; rfl)) ?_; (with_reducible refine (impl_RoomIn.calls k t351 t352 t353 _ _ t354 t357 t358 t359 t360 _ _ t361 a1 t365 _ ?side1 ?side2 ?side3 ?side4 A11.out).mono ?_); (case side1 => refine (Kd.S_reads' (e := 218) (base := w.heap.size) (ok := fun k_ => (True ∧ some k_ ≠ (.slice Ao63 t340.length co63 : Value).ownBlock)) (n := t354.length) (c := co71) ?_).2.2; exact (by (with_reducible repeat (first | apply Kd.S_alloc | apply Kd.S_drewN | apply Kd.S_drew)); exact (Kd.S_mono (Kd.S_far (p := ⟨gb364, 8, none⟩) (Kd.S_far (p := ⟨gb364, 7, none⟩) (Kd.S_far (p := ⟨gb364, 6, none⟩) (Kd.S_far (p := ⟨gb364, 5, none⟩) (Kd.S_far (p := ⟨gb364, 4, none⟩) (Kd.S_far (p := ⟨gb364, 3, none⟩) (Kd.S_far (p := ⟨gb364, 2, none⟩) (Kd.S_far (p := ⟨gb364, 1, none⟩) (Kd.S_far (p := ⟨gb364, 0, none⟩) (Kd.S_types HO356.out BK364.out (by decide)) (fun _ hk => hk.2) (.int .i64 t351)) (fun _ hk => hk.2) (.int .i64 t352)) (fun _ hk => hk.2) (.int .i64 t353)) (fun _ hk => hk.2) (.slice Ao71 t354.length co71)) (fun _ hk => hk.2) (.int .i64 t357)) (fun _ hk => hk.2) (.int .i64 t358)) (fun _ hk => hk.2) (.bool t359)) (fun _ hk => hk.2) (.int .i64 t360)) (fun _ hk => hk.2) (.slice Ao72 t361.length co72)) (fun _ h_ => h_.1)))); (case side2 => exact (Kd.S_reads' HO356.out).2.1); (case side3 => refine (Kd.S_reads' (e := 276) (base := w.heap.size) (ok := fun k_ => (True ∧ some k_ ≠ (.slice Ao64 t347.length co64 : Value).ownBlock)) (n := t361.length) (c := co72) ?_).2.2; exact (by (with_reducible repeat (first | apply Kd.S_alloc | apply Kd.S_drewN | apply Kd.S_drew)); exact (Kd.S_mono (Kd.S_far (p := ⟨gb364, 8, none⟩) (Kd.S_far (p := ⟨gb364, 7, none⟩) (Kd.S_far (p := ⟨gb364, 6, none⟩) (Kd.S_far (p := ⟨gb364, 5, none⟩) (Kd.S_far (p := ⟨gb364, 4, none⟩) (Kd.S_far (p := ⟨gb364, 3, none⟩) (Kd.S_far (p := ⟨gb364, 2, none⟩) (Kd.S_far (p := ⟨gb364, 1, none⟩) (Kd.S_far (p := ⟨gb364, 0, none⟩) (Kd.S_types HO363.out BK364.out (by decide)) (fun _ hk => hk.2) (.int .i64 t351)) (fun _ hk => hk.2) (.int .i64 t352)) (fun _ hk => hk.2) (.int .i64 t353)) (fun _ hk => hk.2) (.slice Ao71 t354.length co71)) (fun _ hk => hk.2) (.int .i64 t357)) (fun _ hk => hk.2) (.int .i64 t358)) (fun _ hk => hk.2) (.bool t359)) (fun _ hk => hk.2) (.int .i64 t360)) (fun _ hk => hk.2) (.slice Ao72 t361.length co72)) (fun _ h_ => h_.1)))); (case side4 => exact (Kd.S_reads' HO363.out).2.1); rintro e w73 ⟨rfl, hb⟩; refine ⟨_, rfl, ?_⟩; replace HO342 := Aside0.mk (Kd.S_below (by (with_reducible repeat (first | apply Kd.S_alloc | apply Kd.S_drewN | apply Kd.S_drew)); exact (Kd.S_mono (Kd.S_far (p := ⟨gb364, 8, none⟩) (Kd.S_far (p := ⟨gb364, 7, none⟩) (Kd.S_far (p := ⟨gb364, 6, none⟩) (Kd.S_far (p := ⟨gb364, 5, none⟩) (Kd.S_far (p := ⟨gb364, 4, none⟩) (Kd.S_far (p := ⟨gb364, 3, none⟩) (Kd.S_far (p := ⟨gb364, 2, none⟩) (Kd.S_far (p := ⟨gb364, 1, none⟩) (Kd.S_far (p := ⟨gb364, 0, none⟩) (Kd.S_types HO342.out BK364.out (by decide)) (fun _ hk => hk.2) (.int .i64 t351)) (fun _ hk => hk.2) (.int .i64 t352)) (fun _ hk => hk.2) (.int .i64 t353)) (fun _ hk => hk.2) (.slice Ao71 t354.length co71)) (fun _ hk => hk.2) (.int .i64 t357)) (fun _ hk => hk.2) (.int .i64 t358)) (fun _ hk => hk.2) (.bool t359)) (fun _ hk => hk.2) (.int .i64 t360)) (fun _ hk => hk.2) (.slice Ao72 t361.length co72)) (fun _ h_ => h_.1))) hb); replace HO349 := Aside0.mk (Kd.S_below (by (with_reducible repeat (first | apply Kd.S_alloc | apply Kd.S_drewN | apply Kd.S_drew)); exact (Kd.S_mono (Kd.S_far (p := ⟨gb364, 8, none⟩) (Kd.S_far (p := ⟨gb364, 7, none⟩) (Kd.S_far (p := ⟨gb364, 6, none⟩) (Kd.S_far (p := ⟨gb364, 5, none⟩) (Kd.S_far (p := ⟨gb364, 4, none⟩) (Kd.S_far (p := ⟨gb364, 3, none⟩) (Kd.S_far (p := ⟨gb364, 2, none⟩) (Kd.S_far (p := ⟨gb364, 1, none⟩) (Kd.S_far (p := ⟨gb364, 0, none⟩) (Kd.S_types HO349.out BK364.out (by decide)) (fun _ hk => hk.2) (.int .i64 t351)) (fun _ hk => hk.2) (.int .i64 t352)) (fun _ hk => hk.2) (.int .i64 t353)) (fun _ hk => hk.2) (.slice Ao71 t354.length co71)) (fun _ hk => hk.2) (.int .i64 t357)) (fun _ hk => hk.2) (.int .i64 t358)) (fun _ hk => hk.2) (.bool t359)) (fun _ hk => hk.2) (.int .i64 t360)) (fun _ hk => hk.2) (.slice Ao72 t361.length co72)) (fun _ h_ => h_.1))) hb); replace HO356 := Aside0.mk (Kd.S_below (by (with_reducible repeat (first | apply Kd.S_alloc | apply Kd.S_drewN | apply Kd.S_drew)); exact (Kd.S_mono (Kd.S_far (p := ⟨gb364, 8, none⟩) (Kd.S_far (p := ⟨gb364, 7, none⟩) (Kd.S_far (p := ⟨gb364, 6, none⟩) (Kd.S_far (p := ⟨gb364, 5, none⟩) (Kd.S_far (p := ⟨gb364, 4, none⟩) (Kd.S_far (p := ⟨gb364, 3, none⟩) (Kd.S_far (p := ⟨gb364, 2, none⟩) (Kd.S_far (p := ⟨gb364, 1, none⟩) (Kd.S_far (p := ⟨gb364, 0, none⟩) (Kd.S_types HO356.out BK364.out (by decide)) (fun _ hk => hk.2) (.int .i64 t351)) (fun _ hk => hk.2) (.int .i64 t352)) (fun _ hk => hk.2) (.int .i64 t353)) (fun _ hk => hk.2) (.slice Ao71 t354.length co71)) (fun _ hk => hk.2) (.int .i64 t357)) (fun _ hk => hk.2) (.int .i64 t358)) (fun _ hk => hk.2) (.bool t359)) (fun _ hk => hk.2) (.int .i64 t360)) (fun _ hk => hk.2) (.slice Ao72 t361.length co72)) (fun _ h_ => h_.1))) hb); replace HO363 := Aside0.mk (Kd.S_below (by (with_reducible repeat (first | apply Kd.S_alloc | apply Kd.S_drewN | apply Kd.S_drew)); exact (Kd.S_mono (Kd.S_far (p := ⟨gb364, 8, none⟩) (Kd.S_far (p := ⟨gb364, 7, none⟩) (Kd.S_far (p := ⟨gb364, 6, none⟩) (Kd.S_far (p := ⟨gb364, 5, none⟩) (Kd.S_far (p := ⟨gb364, 4, none⟩) (Kd.S_far (p := ⟨gb364, 3, none⟩) (Kd.S_far (p := ⟨gb364, 2, none⟩) (Kd.S_far (p := ⟨gb364, 1, none⟩) (Kd.S_far (p := ⟨gb364, 0, none⟩) (Kd.S_types HO363.out BK364.out (by decide)) (fun _ hk => hk.2) (.int .i64 t351)) (fun _ hk => hk.2) (.int .i64 t352)) (fun _ hk => hk.2) (.int .i64 t353)) (fun _ hk => hk.2) (.slice Ao71 t354.length co71)) (fun _ hk => hk.2) (.int .i64 t357)) (fun _ hk => hk.2) (.int .i64 t358)) (fun _ hk => hk.2) (.bool t359)) (fun _ hk => hk.2) (.int .i64 t360)) (fun _ hk => hk.2) (.slice Ao72 t361.length co72)) (fun _ h_ => h_.1))) hb); replace BK335 := Aside0.mk (blk_below (g := gb335) (o := .cells #[.int .i64 a0_0, .int .i64 a0_1, .int .i64 a0_2, .slice A0_3 l0_3.length c0_3, .int .i64 a0_4, .int .i64 a0_5, .bool a0_6, .int .i64 a0_7, .slice A0_8 l0_8.length c0_8] 121 (0, 0)) (by (with_reducible repeat (first | refine blk_drewN ?_ _ | refine blk_drew ?_ | refine blk_alloc ?_ _)); refine blk_far ?_ NB335_364.out _; (with_reducible repeat (first | refine blk_drewN ?_ _ | refine blk_drew ?_ | refine blk_alloc ?_ _)); refine blk_far ?_ NB335_364.out _; (with_reducible repeat (first | refine blk_drewN ?_ _ | refine blk_drew ?_ | refine blk_alloc ?_ _)); refine blk_far ?_ NB335_364.out _; (with_reducible repeat (first | refine blk_drewN ?_ _ | refine blk_drew ?_ | refine blk_alloc ?_ _)); refine blk_far ?_ NB335_364.out _; (with_reducible repeat (first | refine blk_drewN ?_ _ | refine blk_drew ?_ | refine blk_alloc ?_ _)); refine blk_far ?_ NB335_364.out _; (with_reducible repeat (first | refine blk_drewN ?_ _ | refine blk_drew ?_ | refine blk_alloc ?_ _)); refine blk_far ?_ NB335_364.out _; (with_reducible repeat (first | refine blk_drewN ?_ _ | refine blk_drew ?_ | refine blk_alloc ?_ _)); refine blk_far ?_ NB335_364.out _; (with_reducible repeat (first | refine blk_drewN ?_ _ | refine blk_drew ?_ | refine blk_alloc ?_ _)); refine blk_far ?_ NB335_364.out _; (with_reducible repeat (first | refine blk_drewN ?_ _ | refine blk_drew ?_ | refine blk_alloc ?_ _)); refine blk_far ?_ NB335_364.out _; (with_reducible repeat (first | refine blk_drewN ?_ _ | refine blk_drew ?_ | refine blk_alloc ?_ _)); exact BK335.out) hb); replace BK364 := Aside0.mk (blk_below (g := gb364) (o := .cells #[.int .i64 t351, .int .i64 t352, .int .i64 t353, .slice Ao71 t354.length co71, .int .i64 t357, .int .i64 t358, .bool t359, .int .i64 t360, .slice Ao72 t361.length co72] 126 (0, 0)) (by (with_reducible repeat (first | refine blk_drewN ?_ _ | refine blk_drew ?_ | refine blk_alloc ?_ _)); refine blk_put (cs := #[.int .i64 t351, .int .i64 t352, .int .i64 t353, .slice Ao71 t354.length co71, .int .i64 t357, .int .i64 t358, .bool t359, .int .i64 t360, .slice none 0 0]) ?_ 8 _ rfl; (with_reducible repeat (first | refine blk_drewN ?_ _ | refine blk_drew ?_ | refine blk_alloc ?_ _)); refine blk_put (cs := #[.int .i64 t351, .int .i64 t352, .int .i64 t353, .slice Ao71 t354.length co71, .int .i64 t357, .int .i64 t358, .bool t359, .int .i64 0, .slice none 0 0]) ?_ 7 _ rfl; (with_reducible repeat (first | refine blk_drewN ?_ _ | refine blk_drew ?_ | refine blk_alloc ?_ _)); refine blk_put (cs := #[.int .i64 t351, .int .i64 t352, .int .i64 t353, .slice Ao71 t354.length co71, .int .i64 t357, .int .i64 t358, .bool false, .int .i64 0, .slice none 0 0]) ?_ 6 _ rfl; (with_reducible repeat (first | refine blk_drewN ?_ _ | refine blk_drew ?_ | refine blk_alloc ?_ _)); refine blk_put (cs := #[.int .i64 t351, .int .i64 t352, .int .i64 t353, .slice Ao71 t354.length co71, .int .i64 t357, .int .i64 0, .bool false, .int .i64 0, .slice none 0 0]) ?_ 5 _ rfl; (with_reducible repeat (first | refine blk_drewN ?_ _ | refine blk_drew ?_ | refine blk_alloc ?_ _)); refine blk_put (cs := #[.int .i64 t351, .int .i64 t352, .int .i64 t353, .slice Ao71 t354.length co71, .int .i64 0, .int .i64 0, .bool false, .int .i64 0, .slice none 0 0]) ?_ 4 _ rfl; (with_reducible repeat (first | refine blk_drewN ?_ _ | refine blk_drew ?_ | refine blk_alloc ?_ _)); refine blk_put (cs := #[.int .i64 t351, .int .i64 t352, .int .i64 t353, .slice none 0 0, .int .i64 0, .int .i64 0, .bool false, .int .i64 0, .slice none 0 0]) ?_ 3 _ rfl; (with_reducible repeat (first | refine blk_drewN ?_ _ | refine blk_drew ?_ | refine blk_alloc ?_ _)); refine blk_put (cs := #[.int .i64 t351, .int .i64 t352, .int .i64 0, .slice none 0 0, .int .i64 0, .int .i64 0, .bool false, .int .i64 0, .slice none 0 0]) ?_ 2 _ rfl; (with_reducible repeat (first | refine blk_drewN ?_ _ | refine blk_drew ?_ | refine blk_alloc ?_ _)); refine blk_put (cs := #[.int .i64 t351, .int .i64 0, .int .i64 0, .slice none 0 0, .int .i64 0, .int .i64 0, .bool false, .int .i64 0, .slice none 0 0]) ?_ 1 _ rfl; (with_reducible repeat (first | refine blk_drewN ?_ _ | refine blk_drew ?_ | refine blk_alloc ?_ _)); refine blk_put (cs := #[.int .i64 0, .int .i64 0, .int .i64 0, .slice none 0 0, .int .i64 0, .int .i64 0, .bool false, .int .i64 0, .slice none 0 0]) ?_ 0 _ rfl; (with_reducible repeat (first | refine blk_drewN ?_ _ | refine blk_drew ?_ | refine blk_alloc ?_ _)); exact BK364.out) hb); replace HB := Aside0.mk (below_step (bw_ HB.out) hb); (try clear hb)))
 go_ret
 exact ⟨by first | rfl | (simp [errW_none, errW_some] <;> rfl) | (simp [*, errW_none, errW_some] <;> rfl), bw_ HB.out⟩

/-! the argument's own types -/
instance : Inhabited S35 := ⟨z35⟩
def IsQ35 (x : S35) : Prop := inK .i64 x.f0 ∧ inK .i64 x.f1 ∧ inK .i64 x.f2
theorem opS_35 {H : Type} {enc : TypeId × Value → H} {w : World} {spare : Nat → Bool} {held : Bool} : Opn enc Try.prog w spare held 35 k35 IsQ35 :=
 Opn.struct (fun x : S35 => (x.f0, x.f1, x.f2)) (fun p => (⟨p.1, p.2.1, p.2.2⟩ : S35)) (fun _ => rfl) Try.underlying35 (by kernel_rfl) (OpnF.cons rfl (by kernel_rfl) rfl (Opn.int .i64 Try.underlying2) (OpnF.cons rfl (by kernel_rfl) rfl (Opn.int .i64 Try.underlying2) (OpnF.one rfl (by kernel_rfl) (Opn.int .i64 Try.underlying2))))
instance : Inhabited S234 := ⟨z234⟩
def IsQ234 (x : S234) : Prop := inK .i64 x.f0 ∧ inK .i64 x.f1 ∧ True ∧ (x.f3.length * 16 ≤ 140737488351232 ∧ ∀ x_ ∈ x.f3, x_.size ≤ 140737488351232)
theorem opS_234 {H : Type} {enc : TypeId × Value → H} {w : World} {spare : Nat → Bool} {held : Bool} : Opn enc Try.prog w spare held 234 k234 IsQ234 :=
 Opn.struct (fun x : S234 => (x.f0, x.f1, x.f2, x.f3)) (fun p => (⟨p.1, p.2.1, p.2.2.1, p.2.2.2⟩ : S234)) (fun _ => rfl) Try.underlying234 (by kernel_rfl) (OpnF.cons rfl (by kernel_rfl) rfl (Opn.int .i64 Try.underlying2) (OpnF.cons rfl (by kernel_rfl) rfl (Opn.int .i64 Try.underlying2) (OpnF.cons rfl (by kernel_rfl) rfl (Opn.bool Try.underlying4) (OpnF.one rfl (by kernel_rfl) (Opn.slice 16 Try.underlying216 (by kernel_rfl) (by kernel_rfl) (Opn.string Try.underlying9))))))
instance : Inhabited S38 := ⟨z38⟩
def IsQ38 (x : S38) : Prop := IsQ35 x.f0 ∧ (x.f1.length * 48 ≤ 140737488351232 ∧ ∀ x_ ∈ x.f1, IsQ234 x_) ∧ inK .i64 x.f2 ∧ inK .i64 x.f3 ∧ True ∧ inK .i64 x.f5
theorem opS_38 {H : Type} {enc : TypeId × Value → H} {w : World} {spare : Nat → Bool} {held : Bool} : Opn enc Try.prog w spare held 38 k38 IsQ38 :=
 Opn.struct (fun x : S38 => (x.f0, x.f1, x.f2, x.f3, x.f4, x.f5)) (fun p => (⟨p.1, p.2.1, p.2.2.1, p.2.2.2.1, p.2.2.2.2.1, p.2.2.2.2.2⟩ : S38)) (fun _ => rfl) Try.underlying38 (by kernel_rfl) (OpnF.cons rfl (by kernel_rfl) rfl opS_35 (OpnF.cons rfl (by kernel_rfl) rfl (Opn.slice 48 Try.underlying36 (by kernel_rfl) (by kernel_rfl) opS_234) (OpnF.cons rfl (by kernel_rfl) rfl (Opn.int .i64 Try.underlying2) (OpnF.cons rfl (by kernel_rfl) rfl (Opn.int .i64 Try.underlying2) (OpnF.cons rfl (by kernel_rfl) rfl (Opn.bool Try.underlying4) (OpnF.one rfl (by kernel_rfl) (Opn.int .i64 Try.underlying2)))))))
instance : Inhabited S275 := ⟨z275⟩
def IsQ275 (x : S275) : Prop := inK .i64 x.f0 ∧ (x.f1.length * 8 ≤ 140737488351232 ∧ ∀ x_ ∈ x.f1, inK .i64 x_) ∧ inK .i64 x.f2 ∧ inK .i64 x.f3 ∧ (x.f4.length * 8 ≤ 140737488351232 ∧ ∀ x_ ∈ x.f4, inK .i64 x_) ∧ (x.f5.length * 16 ≤ 140737488351232 ∧ ∀ x_ ∈ x.f5, x_.size ≤ 140737488351232)
theorem opS_275 {H : Type} {enc : TypeId × Value → H} {w : World} {spare : Nat → Bool} {held : Bool} : Opn enc Try.prog w spare held 275 k275 IsQ275 :=
 Opn.struct (fun x : S275 => (x.f0, x.f1, x.f2, x.f3, x.f4, x.f5)) (fun p => (⟨p.1, p.2.1, p.2.2.1, p.2.2.2.1, p.2.2.2.2.1, p.2.2.2.2.2⟩ : S275)) (fun _ => rfl) Try.underlying275 (by kernel_rfl) (OpnF.cons rfl (by kernel_rfl) rfl (Opn.int .i64 Try.underlying2) (OpnF.cons rfl (by kernel_rfl) rfl (Opn.slice 8 Try.underlying23 (by kernel_rfl) (by kernel_rfl) (Opn.int .i64 Try.underlying2)) (OpnF.cons rfl (by kernel_rfl) rfl (Opn.int .i64 Try.underlying2) (OpnF.cons rfl (by kernel_rfl) rfl (Opn.int .i64 Try.underlying2) (OpnF.cons rfl (by kernel_rfl) rfl (Opn.slice 8 Try.underlying23 (by kernel_rfl) (by kernel_rfl) (Opn.int .i64 Try.underlying2)) (OpnF.one rfl (by kernel_rfl) (Opn.slice 16 Try.underlying216 (by kernel_rfl) (by kernel_rfl) (Opn.string Try.underlying9))))))))
instance : Inhabited S121 := ⟨z121⟩
def IsQ121 (x : S121) : Prop := IsQ38 x.f0 ∧ (x.f1.length * 96 ≤ 140737488351232 ∧ ∀ x_ ∈ x.f1, IsQ275 x_)
theorem opS_121 {H : Type} {enc : TypeId × Value → H} {w : World} {spare : Nat → Bool} {held : Bool} : Opn enc Try.prog w spare held 121 k121 IsQ121 :=
 Opn.struct (fun x : S121 => (x.f0, x.f1)) (fun p => (⟨p.1, p.2⟩ : S121)) (fun _ => rfl) Try.underlying121 (by kernel_rfl) (OpnF.cons rfl (by kernel_rfl) rfl opS_38 (OpnF.one rfl (by kernel_rfl) (Opn.slice 96 Try.underlying119 (by kernel_rfl) (by kernel_rfl) opS_275)))
def laws_FnExactRoomIn.Pure : Prop := ∀ (a0 : S121) (a1 : Int), IsQ121 a0 → inK .i64 a1 → ∃ k, laws_FnExactRoomIn.f k a0.f0.f0.f0 a0.f0.f0.f1 a0.f0.f0.f2 a0.f0.f1 a0.f0.f2 a0.f0.f3 a0.f0.f4 a0.f0.f5 a0.f1 a1 = some true

end Go.Proofs.Ytokonpkecmnneaa.QFnExactRoomInx
