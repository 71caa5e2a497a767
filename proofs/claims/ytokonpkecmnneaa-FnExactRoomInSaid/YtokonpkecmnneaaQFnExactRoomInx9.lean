-- made by mp, a turned copy of the print: proofs of this session's
import Derived.Test.YtokonpkecmnneaaQFnExactRoomInx0
import Derived.Test.YtokonpkecmnneaaQFnExactRoomInx8
import Derived.Test.YtokonpkecmnneaaHk
namespace Go.Proofs.Ytokonpkecmnneaa.QFnExactRoomInx
open Go.RowKit Go.Proofs.YtokonpkecmnneaaW.PrintWords Go.Proofs.YtokonpkecmnneaaW.PrintLast Go.Proofs.YtokonpkecmnneaaW.PrintMore
open Go.Proofs.YtokonpkecmnneaaHw Go.Proofs.YtokonpkecmnneaaHo Go.Proofs.YtokonpkecmnneaaHm Go.Proofs.YtokonpkecmnneaaHk
attribute [local go_sem] binOp_leq_hw binOp_geq_hw binOp_gtr_hw
attribute [local go_sem] max2_int min2_int max_two min_two max_three min_three max_four min_four   -- for this text's walks alone
set_option linter.unusedVariables false
set_option linter.unusedSimpArgs false

/-! ### laws_toZoneS: function 184 -/
def laws_toZoneS.l0 : Nat → List (S275) → List (S276) → Int → Option ((List (S276)))
 | 0, _, _, _ => none
 | k + 1, x0, x3, x4 => if x4 < (x0.length : Int) then (if 0 ≤ x4 then ((laws_toZone.f k ((rd_T275 x0 x4).f0) ((rd_T275 x0 x4).f1) ((rd_T275 x0 x4).f2) ((rd_T275 x0 x4).f3) ((rd_T275 x0 x4).f4) ((rd_T275 x0 x4).f5)).bind fun bt225 => (if x4 < (x3.length : Int) then (laws_toZoneS.l0 k x0 (x3.set (x4 : Int).toNat (⟨bt225.1, bt225.2.1, bt225.2.2.1, bt225.2.2.2.1, bt225.2.2.2.2.1, bt225.2.2.2.2.2⟩ : S276)) (wrap64 (x4 + 1))) else (none))) else (none)) else (some x3)
def laws_toZoneS.f (k : Nat) (l0 : List (S275)) : Option ((List (S276))) := if 0 ≤ (l0.length : Int) then (if ((l0.length : Int) : Int).toNat ≤ 2932031007402 then (laws_toZoneS.l0 k l0 (List.replicate ((l0.length : Int) : Int).toNat z276) 0) else (none)) else (none)
theorem laws_toZoneS.mono_l : ∀ k, (∀ y0 y1 y2, LeO (laws_toZoneS.l0 k y0 y1 y2) (laws_toZoneS.l0 (k + 1) y0 y1 y2))
 | 0 => fun _ _ _ r h => by simp [laws_toZoneS.l0] at h
 | k + 1 => by
  have ih0 := laws_toZoneS.mono_l k
  ·intro y0 y1 y2
   unfold laws_toZoneS.l0
   repeat' first
   | (with_reducible exact ih0 _ _ _)
   | (with_reducible exact laws_toZone.mono _ _ _ _ _ _ _)
   | (with_reducible exact LeO.refl _)
   | (with_reducible exact LeO.none _)
   | (with_reducible refine LeO.ite ?_ ?_)
   | (with_reducible refine LeO.bind ?_ (fun _ => ?_))
   | exact ih0 _ _ _
   | exact laws_toZone.mono _ _ _ _ _ _ _
   | exact LeO.none _
   | refine LeO.ite ?_ ?_
   | refine LeO.bind ?_ (fun _ => ?_)
theorem laws_toZoneS.mono : ∀ a0 k, LeO (laws_toZoneS.f k a0) (laws_toZoneS.f (k + 1) a0) := by
 intro a0 k
 have ih0 := laws_toZoneS.mono_l k
 unfold laws_toZoneS.f
 repeat' first
   | (with_reducible exact ih0 _ _ _)
   | (with_reducible exact laws_toZone.mono _ _ _ _ _ _ _)
   | (with_reducible exact LeO.refl _)
   | (with_reducible exact LeO.none _)
   | (with_reducible refine LeO.ite ?_ ?_)
   | (with_reducible refine LeO.bind ?_ (fun _ => ?_))
   | exact ih0 _ _ _
   | exact laws_toZone.mono _ _ _ _ _ _ _
   | exact LeO.none _
   | refine LeO.ite ?_ ?_
   | refine LeO.bind ?_ (fun _ => ?_)
set_option maxHeartbeats 8000000 in
set_option maxRecDepth 100000 in
theorem laws_toZoneS.calls (k : Nat) (A0 : Option Addr) (c0 : Nat) (l0 : List (S275)) (r : List (S276)) (w : World) (hr0 : Kd.C k275 w A0 l0.length l0) (hc0 : l0.length ≤ c0) (h : laws_toZoneS.f k l0 = some r) :
  Calls Try.prog 184 #[.slice A0 l0.length c0] w fun e w' => ∃ v0_ : Value, e = .returned (v0_) ∧ Kd.S k276 276 w' w.heap.size (fun _ => True) v0_ r ∧ Below w.heap.size w w' := by
 have hu275 := Try.underlying275
 have hu276 := Try.underlying276
 have HR0 := Aside0.mk hr0
 have HC0 := Aside0.mk hc0
 clear hr0 hc0
 have HB := Aside0.mk (Below.refl w.heap.size w)
 have H := h; unfold laws_toZoneS.f at H
 clear h
 by_cases c2 : 0 ≤ (l0.length : Int)
 ·rw [if_pos c2] at H
  have c2b0 := eq_true c2
  have c2b1 : decide (0 ≤ (l0.length : Int)) = true := decide_eq_true c2
  clear c2
  by_cases c3 : ((l0.length : Int) : Int).toNat ≤ 2932031007402
  ·rw [if_pos c3] at H
   have c3b0 := eq_true c3
   have c3b1 : decide (((l0.length : Int) : Int).toNat ≤ 2932031007402) = true := decide_eq_true c3
   clear c3
   obtain ⟨y221, hy221⟩ : ∃ y_ : List (S276), y_ = (List.replicate ((l0.length : Int) : Int).toNat z276) := ⟨_, rfl⟩
   replace H : (laws_toZoneS.l0 k l0 y221 0) = some r := by first | (rw [hy221]; with_reducible exact H) | (have H2_ := (Option.bind_some _ _).symm.trans H; rw [hy221]; with_reducible exact H2_) | (have H2_ := (Option.bind_some _ _).symm.trans H; with_reducible exact H2_) | with_reducible exact H | (rw [hy221]; exact H) | exact H
   have Ny221 := Aside0.mk hy221
   clear hy221
   have H' := Aside0.mk H
   clear H
   go_enter Try.func184, Try.ntmps184
   go_wp2_with (first | ((with_reducible refine gate_dst (N := 7) rfl ?_); refine Kd.S_make k276 _ 276 rfl (N := 7) rfl 124 _ _ rfl (l0.length : Int) rfl rfl Try.underlying124 (.agg #[(.int .i64 0), (.slice none 0 0), (.int .i64 0), (.int .i64 0), (.slice none 0 0), (.slice none 0 0)]) 96 info276 rfl (by decide) (by omega) z276 (ok := fun _ => True) (okp := fun _ => True) (k276_mkM _ _ _ z276 (Kd.R_nil _ _ _ _ _) (Kd.R_nil _ _ _ _ _) (Kd.R_nil _ _ _ _ _)) (fun _ hk => hk) trivial (of_decide_eq_true (by first | (with_reducible assumption) | assumption)) (Nat.le_trans (Nat.mul_le_mul_right _ (of_decide_eq_true (by first | (with_reducible assumption) | assumption) : (l0.length : Int).toNat ≤ 2932031007402)) (by omega)) (Below.refl _ _) (Nat.le_refl _) ?_; intro v222 w4 ho5 hb hg_ hnew_; clear hg_ hnew_; (first | rw [← Ny221.out] at ho5 | (simp only [Int.reduceToNat] at ho5; rw [← Ny221.out] at ho5)); have HO223 := Aside0.mk (Kd.S_lower ho5 (below_size (bw_ HB.out))); replace HB := Aside0.mk (below_step (bw_ HB.out) hb); clear hb ho5))
   go_loopg [4] k (fun kq v4 w' => ∃ (x3_1 : List (S276)) (x4_1 : Int), v4 = .int .i64 x4_1 ∧ Aside0 (laws_toZoneS.l0 kq l0 x3_1 x4_1 = some r) ∧ Aside0 (kq ≤ k) ∧ Aside0 (Kd.S k276 276 w' w.heap.size (fun _ => True) v222 x3_1) ∧ Aside0 (Below w.heap.size w w'))
   case atStart => exact ⟨(y221), (0), (by first | rfl | (simp; done) | (simp [*]; done)), H', ⟨Nat.le_refl _⟩, ⟨Kd.S_below HO223.out st_⟩, ⟨bw_ HB.out⟩⟩
   case round =>
    clear H'
    obtain ⟨x3_1, x4_1, rfl, HA, HK1, HO_3, HB⟩ := hrel
    cases gk with
    | zero => exact absurd HA.out (by simp [laws_toZoneS.l0])
    | succ k1 =>
     have H := HA.out
     clear HA
     simp only [laws_toZoneS.l0] at H
     by_cases c6 : x4_1 < (l0.length : Int)
     ·rw [if_pos c6] at H
      have c6b0 : decide (x4_1 < (l0.length : Int)) = true := decide_eq_true c6
      clear c6
      by_cases c7 : 0 ≤ x4_1
      ·rw [if_pos c7] at H
       have c7b0 : decide (0 ≤ x4_1) = true := decide_eq_true c7
       clear c7
       replace H := Option.bind_eq_some_iff.mp H
       obtain ⟨⟨t225, t226, t229, t230, t231, t234⟩, A80, H⟩ := H
       have A8 := Aside0.mk A80
       clear A80
       by_cases c9 : x4_1 < (x3_1.length : Int)
       ·rw [if_pos c9] at H
        have c9b0 : decide (x4_1 < (x3_1.length : Int)) = true := decide_eq_true c9
        clear c9
        obtain ⟨y237, hy237⟩ : ∃ y_ : List (S276), y_ = (x3_1.set (x4_1 : Int).toNat (⟨t225, t226, t229, t230, t231, t234⟩ : S276)) := ⟨_, rfl⟩
        replace H : (laws_toZoneS.l0 k1 l0 y237 (wrap64 (x4_1 + 1))) = some r := by first | (rw [hy237]; with_reducible exact H) | (have H2_ := (Option.bind_some _ _).symm.trans H; rw [hy237]; with_reducible exact H2_) | (have H2_ := (Option.bind_some _ _).symm.trans H; with_reducible exact H2_) | with_reducible exact H | (rw [hy237]; exact H) | exact H
        have Ny237 := Aside0.mk hy237
        clear hy237
        have H' := Aside0.mk H
        clear H
        have p224 : 0 ≤ (x4_1 : Int) := of_decide_eq_true (by first | (with_reducible assumption) | assumption)
        have q224 : x4_1 < (l0.length : Int) := of_decide_eq_true (by first | (with_reducible assumption) | assumption)
        obtain ⟨ad224, A224_1, c224_1, A224_4, c224_4, A224_5, c224_5, e224, hx224_0, hx224_1, hx224_2, hx224_3, hx224_4, hx224_5, hl224_1, hi224_1, hl224_4, hi224_4, hl224_5, hi224_5⟩ := at_T275 HR0.out x4_1 p224 q224
        cases e224
        replace hx224_0 := (HB.out.cell (World.block_lt_of_cell? w _ hx224_0)).trans hx224_0
        replace hx224_1 := (HB.out.cell (World.block_lt_of_cell? w _ hx224_1)).trans hx224_1
        replace hx224_2 := (HB.out.cell (World.block_lt_of_cell? w _ hx224_2)).trans hx224_2
        replace hx224_3 := (HB.out.cell (World.block_lt_of_cell? w _ hx224_3)).trans hx224_3
        replace hx224_4 := (HB.out.cell (World.block_lt_of_cell? w _ hx224_4)).trans hx224_4
        replace hx224_5 := (HB.out.cell (World.block_lt_of_cell? w _ hx224_5)).trans hx224_5
        have HR224_1 := Aside0.mk hi224_1
        have HC224_1 := Aside0.mk hl224_1
        clear hi224_1 hl224_1
        have HR224_4 := Aside0.mk hi224_4
        have HC224_4 := Aside0.mk hl224_4
        clear hi224_4 hl224_4
        have HR224_5 := Aside0.mk hi224_5
        have HC224_5 := Aside0.mk hl224_5
        clear hi224_5 hl224_5
        replace p224 := eq_true p224
        replace q224 := eq_true q224
        go_wp2_with (first | ((with_reducible refine gate_callee (f := 267) rfl ?_); refine goesL_ (some 20) rfl rfl Try.func267 (by kernel_rfl) rfl #[.agg #[.int .i64 ((rd_T275 l0 x4_1).f0), .slice A224_1 ((rd_T275 l0 x4_1).f1).length c224_1, .int .i64 ((rd_T275 l0 x4_1).f2), .int .i64 ((rd_T275 l0 x4_1).f3), .slice A224_4 ((rd_T275 l0 x4_1).f4).length c224_4, .slice A224_5 ((rd_T275 l0 x4_1).f5).length c224_5]] rfl (by (try simp only [List.map_toArray, List.map_cons, List.map_nil]); first | done | rfl | (simp only [List.length_drop, List.length_take]; rfl)) ?_; (with_reducible refine (laws_toZone.calls k1 ((rd_T275 l0 x4_1).f0) _ _ ((rd_T275 l0 x4_1).f1) ((rd_T275 l0 x4_1).f2) ((rd_T275 l0 x4_1).f3) _ _ ((rd_T275 l0 x4_1).f4) _ _ ((rd_T275 l0 x4_1).f5) t225 t226 t229 t230 t231 t234 _ ?side1 ?side2 ?side3 ?side4 ?side5 ?side6 A8.out).mono ?_); (case side1 => exact Kd.C_below HR224_1.out (bw_ HB.out)); (case side2 => exact HC224_1.out); (case side3 => exact Kd.C_below HR224_4.out (bw_ HB.out)); (case side4 => exact HC224_4.out); (case side5 => exact Kd.C_below HR224_5.out (bw_ HB.out)); (case side6 => exact HC224_5.out); rintro e w11 ⟨v227, v232, v235, rfl, ho0, ho1, ho2, hb⟩; refine ⟨_, rfl, ?_⟩; replace HO_3 := Aside0.mk (Kd.S_mono (Kd.S_told (Kd.S_told (Kd.S_told (Kd.S_old (Kd.S_below HO_3.out st_) hb) (Kd.R_base ho0)) (Kd.R_base ho1)) (Kd.R_base ho2)) (fun _ h_ => h_.1)); have HO228 := Aside0.mk (Kd.R_lower ho0 (below_size (bw_ HB.out))); have HO233 := Aside0.mk (Kd.R_lower ho1 (below_size (bw_ HB.out))); have HO236 := Aside0.mk (Kd.R_lower ho2 (below_size (bw_ HB.out))); replace HB := Aside0.mk (below_step (bw_ HB.out) hb); (try clear hb); (try clear ho1); (try clear ho2); have p10 : 0 ≤ (x4_1 : Int) := of_decide_eq_true (by first | (with_reducible assumption) | assumption); have q10 : (x4_1 : Int) < ((x3_1.length : Int) : Int) := of_decide_eq_true (by first | (with_reducible assumption) | assumption); obtain ⟨go10, co10, eo10, gb10, gl10, cl10, HG10⟩ := Kd.S_form HO_3.out (by omega); (first | cases eo10 | (injection eo10 with ea_ en_ ec_; (first | subst ea_ | (injection ea_ with ea_; subst ea_)); subst ec_; clear en_)); have GB10 := Aside0.mk gb10; have GG10 := Aside0.mk HG10; clear gb10 gl10 HG10; obtain ⟨_, ce10, hcl10, hM10, hcc10, hfr10, _, _⟩ := Kd.S_elem HO_3.out z276 (x4_1 : Int) p10 q10; obtain ⟨ve10_1, ve10_4, ve10_5, rfl, ge10_1, ge10_4, ge10_5⟩ := k276_openM hM10; have hx10_0 : w11.cell? ⟨go10, (x4_1 : Int).toNat * 6, none⟩ = some (.int .i64 ((rd_T276 x3_1 x4_1).f0)) := hcc10 0 _ rfl; have hx10_1 : w11.cell? ⟨go10, (x4_1 : Int).toNat * 6 + 1, none⟩ = some (ve10_1) := hcc10 1 _ rfl; have hx10_2 : w11.cell? ⟨go10, (x4_1 : Int).toNat * 6 + 2, none⟩ = some (.int .i64 ((rd_T276 x3_1 x4_1).f2)) := hcc10 2 _ rfl; have hx10_3 : w11.cell? ⟨go10, (x4_1 : Int).toNat * 6 + 3, none⟩ = some (.int .i64 ((rd_T276 x3_1 x4_1).f3)) := hcc10 3 _ rfl; have hx10_4 : w11.cell? ⟨go10, (x4_1 : Int).toNat * 6 + 4, none⟩ = some (ve10_4) := hcc10 4 _ rfl; have hx10_5 : w11.cell? ⟨go10, (x4_1 : Int).toNat * 6 + 5, none⟩ = some (ve10_5) := hcc10 5 _ rfl; have hf10_0 : w11.frozen? ⟨go10, (x4_1 : Int).toNat * 6, none⟩ = false := hfr10 0; have hf10_1 : w11.frozen? ⟨go10, (x4_1 : Int).toNat * 6 + 1, none⟩ = false := hfr10 1; have hf10_2 : w11.frozen? ⟨go10, (x4_1 : Int).toNat * 6 + 2, none⟩ = false := hfr10 2; have hf10_3 : w11.frozen? ⟨go10, (x4_1 : Int).toNat * 6 + 3, none⟩ = false := hfr10 3; have hf10_4 : w11.frozen? ⟨go10, (x4_1 : Int).toNat * 6 + 4, none⟩ = false := hfr10 4; have hf10_5 : w11.frozen? ⟨go10, (x4_1 : Int).toNat * 6 + 5, none⟩ = false := hfr10 5; clear hcl10 hcc10 hfr10 hM10; replace p10 := eq_true p10; replace q10 := eq_true q10; obtain ⟨Ao12, co12, eo12⟩ := Kd.R_slice HO228.out; subst eo12; obtain ⟨Ao13, co13, eo13⟩ := Kd.R_slice HO233.out; subst eo13; obtain ⟨Ao14, co14, eo14⟩ := Kd.R_slice HO236.out; subst eo14; have n_ := Aside0.mk (Kd.S_mono (ok' := (fun k_ => some k_ ≠ (.slice Ao12 t226.length co12 : Value).ownBlock ∧ some k_ ≠ (.slice Ao13 t231.length co13 : Value).ownBlock ∧ some k_ ≠ (.slice Ao14 t234.length co14 : Value).ownBlock)) HO_3.out (fun k_ hk => ⟨hk.1.1.2, ⟨hk.1.2, hk.2⟩⟩)); clear HO_3; have HO_3 := n_; clear n_; have HX15 := Aside0.mk (show Kd.S k276 276 w11 w.heap.size (fun k_ => ((fun _ => True)) k_ ∧ ¬ ((fun k_ => some k_ = (.slice Ao12 t226.length co12 : Value).ownBlock ∨ some k_ = (.slice Ao13 t231.length co13 : Value).ownBlock ∨ some k_ = (.slice Ao14 t234.length co14 : Value).ownBlock)) k_) (.slice (some ⟨go10, 0, none⟩) x3_1.length co10) x3_1 from (by (with_reducible repeat (first | apply Kd.S_alloc | apply Kd.S_drewN | apply Kd.S_drew)); exact Kd.S_mono HO_3.out (fun k_ hk => ⟨trivial, fun e_ => e_.elim (fun h_ => hk.1 h_) (fun h_ => h_.elim (fun h_ => hk.2.1 h_) (fun h_ => hk.2.2 h_))⟩))); obtain ⟨oki15, ce15, hcl15, hM15, hcc15, hfr15, hoki15, hH15⟩ := Kd.S_elem HX15.out z276 (x4_1 : Int) (of_decide_eq_true (by first | (with_reducible assumption) | assumption)) (by have h_ : (x4_1 : Int) < ((x3_1.length : Int) : Int) := of_decide_eq_true (by first | (with_reducible assumption) | assumption); first | exact h_ | (have e_ := (Kd.S_reads' HO_3.out).1; omega) | simpa using h_); obtain ⟨ve15_1, ve15_4, ve15_5, rfl, ge15_1, ge15_4, ge15_5⟩ := k276_openM hM15; have HP15 := Kd.S_seg hH15 (of_decide_eq_true (by first | (with_reducible assumption) | assumption)) (by have h_ : (x4_1 : Int) < ((x3_1.length : Int) : Int) := of_decide_eq_true (by first | (with_reducible assumption) | assumption); first | exact h_ | (have e_ := (Kd.S_reads' HO_3.out).1; omega) | simpa using h_) (seg := [.int .i64 t225, .slice Ao12 t226.length co12, .int .i64 t229, .int .i64 t230, .slice Ao13 t231.length co13, .slice Ao14 t234.length co14]) (j := 0) (show 6 ≤ 6 from by decide) (x' := (⟨t225, t226, t229, t230, t231, t234⟩ : S276)) (k276_mkM _ _ _ (⟨t225, t226, t229, t230, t231, t234⟩ : S276) (Kd.R_mono (Kd.R_tight rfl (Kd.R_mono (ok' := fun k_ => ((fun _ => True)) k_ ∧ k_ ≠ go10) (Kd.R_apart' (HO228.out) (Kd.S_typed HO_3.out) (by decide)) (fun k_ hk => ⟨trivial, fun e_ => (hk.2) (by rw [e_]; rfl)⟩))) (fun _ h_ => Or.inr (Or.inl h_))) (Kd.R_mono (Kd.R_tight rfl (Kd.R_mono (ok' := fun k_ => ((fun _ => True)) k_ ∧ k_ ≠ go10) (Kd.R_apart' (HO233.out) (Kd.S_typed HO_3.out) (by decide)) (fun k_ hk => ⟨trivial, fun e_ => (hk.2) (by rw [e_]; rfl)⟩))) (fun _ h_ => Or.inr (Or.inr (Or.inl h_)))) (Kd.R_mono (Kd.R_tight rfl (Kd.R_mono (ok' := fun k_ => ((fun _ => True)) k_ ∧ k_ ≠ go10) (Kd.R_apart' (HO236.out) (Kd.S_typed HO_3.out) (by decide)) (fun k_ hk => ⟨trivial, fun e_ => (hk.2) (by rw [e_]; rfl)⟩))) (fun _ h_ => Or.inr (Or.inr (Or.inr (h_)))))) (fun _ hk => hk) (fun k_ hk_ => hk_.elim (fun h_ => ((Kd.R_mono (ok' := fun k_ => ((fun _ => True)) k_ ∧ k_ ≠ go10) (Kd.R_apart' (HO228.out) (Kd.S_typed HO_3.out) (by decide)) (fun k_ hk => ⟨trivial, fun e_ => (hk.2) (by rw [e_]; rfl)⟩))).1 k_ h_.symm) (fun h_ => h_.elim (fun h_ => ((Kd.R_mono (ok' := fun k_ => ((fun _ => True)) k_ ∧ k_ ≠ go10) (Kd.R_apart' (HO233.out) (Kd.S_typed HO_3.out) (by decide)) (fun k_ hk => ⟨trivial, fun e_ => (hk.2) (by rw [e_]; rfl)⟩))).1 k_ h_.symm) (fun h_ => ((Kd.R_mono (ok' := fun k_ => ((fun _ => True)) k_ ∧ k_ ≠ go10) (Kd.R_apart' (HO236.out) (Kd.S_typed HO_3.out) (by decide)) (fun k_ hk => ⟨trivial, fun e_ => (hk.2) (by rw [e_]; rfl)⟩))).1 k_ h_.symm))); have hx15_0 := hcc15 0 _ rfl; (try simp only [show (k276).sz = 6 from rfl, Nat.mul_one, Nat.add_zero] at hx15_0); have hf15_0 := hfr15 0; (try simp only [show (k276).sz = 6 from rfl, Nat.mul_one, Nat.add_zero] at hf15_0); have hx15_1 := hcc15 1 _ rfl; (try simp only [show (k276).sz = 6 from rfl, Nat.mul_one, Nat.add_zero] at hx15_1); have hf15_1 := hfr15 1; (try simp only [show (k276).sz = 6 from rfl, Nat.mul_one, Nat.add_zero] at hf15_1); have hx15_2 := hcc15 2 _ rfl; (try simp only [show (k276).sz = 6 from rfl, Nat.mul_one, Nat.add_zero] at hx15_2); have hf15_2 := hfr15 2; (try simp only [show (k276).sz = 6 from rfl, Nat.mul_one, Nat.add_zero] at hf15_2); have hx15_3 := hcc15 3 _ rfl; (try simp only [show (k276).sz = 6 from rfl, Nat.mul_one, Nat.add_zero] at hx15_3); have hf15_3 := hfr15 3; (try simp only [show (k276).sz = 6 from rfl, Nat.mul_one, Nat.add_zero] at hf15_3); have hx15_4 := hcc15 4 _ rfl; (try simp only [show (k276).sz = 6 from rfl, Nat.mul_one, Nat.add_zero] at hx15_4); have hf15_4 := hfr15 4; (try simp only [show (k276).sz = 6 from rfl, Nat.mul_one, Nat.add_zero] at hf15_4); have hx15_5 := hcc15 5 _ rfl; (try simp only [show (k276).sz = 6 from rfl, Nat.mul_one, Nat.add_zero] at hx15_5); have hf15_5 := hfr15 5; (try simp only [show (k276).sz = 6 from rfl, Nat.mul_one, Nat.add_zero] at hf15_5); clear hcl15 hcc15 hfr15 hM15 hoki15 hH15) | ((with_reducible refine gate_store (t := 276) (p := 21) rfl ?_); refine store_event (t := 276) (p := 21) (v := ?vo_w16) (w1 := ((((((w11.setCell ⟨go10, (x4_1 : Int).toNat * 6, none⟩ (.int .i64 t225)).setCell ⟨go10, (x4_1 : Int).toNat * 6 + 1, none⟩ (.slice Ao12 t226.length co12)).setCell ⟨go10, (x4_1 : Int).toNat * 6 + 2, none⟩ (.int .i64 t229)).setCell ⟨go10, (x4_1 : Int).toNat * 6 + 3, none⟩ (.int .i64 t230)).setCell ⟨go10, (x4_1 : Int).toNat * 6 + 4, none⟩ (.slice Ao13 t231.length co13)).setCell ⟨go10, (x4_1 : Int).toNat * 6 + 5, none⟩ (.slice Ao14 t234.length co14))) ?hg ?ho ?hn ?hr ?_; (case ho => rfl); (case hg => rfl); (case hn => rfl); (case hr => first | (go_simp; done) | (go_simp; rfl)); intro w16 hw; have hg : w11.grownBy w16 (some go10) := (by rw [hw]; exact HP15.2); have hp_ : Kd.S k276 276 w16 w.heap.size (fun _ => True) (.slice (some ⟨go10, 0, none⟩) x3_1.length co10) y237 := (by rw [hw, Ny237.out]; exact HP15.1); clear HP15; replace HO_3 := Aside0.mk (hp_); replace HB := Aside0.mk ((by rw [hw]; exact below_set (below_set (below_set (below_set (below_set (below_set (HB.out) GB10.out) GB10.out) GB10.out) GB10.out) GB10.out) GB10.out : Below w.heap.size w w16)); clear HO228; clear HO233; clear HO236; clear hg hw hp_))
        go_roundg k1
        case measure => have := HK1.out; omega
        case rel => exact ⟨(y237), (wrap64 (x4_1 + 1)), (by first | rfl | (simp; done) | (simp [*]; done)), H', ⟨by have := HK1.out; omega⟩, ⟨Kd.S_below HO_3.out st_⟩, ⟨bw_ HB.out⟩⟩
       rw [if_neg c9] at H
       exact absurd H (by simp)
      rw [if_neg c7] at H
      exact absurd H (by simp)
     rw [if_neg c6] at H
     have c6b0 : decide (x4_1 < (l0.length : Int)) = false := decide_eq_false c6
     clear c6
     obtain rfl := Option.some.inj H
     go_wp2
     go_ret
     exact ⟨_, by first | rfl | (simp [errW_none, errW_some] <;> rfl) | (simp [*, errW_none, errW_some] <;> rfl), Kd.S_below HO_3.out st_, bw_ HB.out⟩
  rw [if_neg c3] at H
  exact absurd H (by simp)
 rw [if_neg c2] at H
 exact absurd H (by simp)

/-! ### laws_toDevice: function 78 -/
def laws_toDevice.f (k : Nat) (a0_0 : Int) (a0_1 : Int) (a0_2 : Int) (l0_3 : List (S234)) (a0_4 : Int) (a0_5 : Int) (a0_6 : Bool) (a0_7 : Int) (l0_8 : List (S275)) : Option (Int × Int × Int × (List (S218)) × Int × Int × Bool × Int × (List (S276))) := (laws_toFlash.f k a0_0 a0_1 a0_2 l0_3 a0_4 a0_5 a0_6 a0_7).bind fun bt241 => ((laws_toZoneS.f k l0_8).bind fun t251 => (some (bt241.1, bt241.2.1, bt241.2.2.1, bt241.2.2.2.1, bt241.2.2.2.2.1, bt241.2.2.2.2.2.1, bt241.2.2.2.2.2.2.1, bt241.2.2.2.2.2.2.2, t251)))
theorem laws_toDevice.mono : ∀ a0 a1 a2 a3 a4 a5 a6 a7 a8 k, LeO (laws_toDevice.f k a0 a1 a2 a3 a4 a5 a6 a7 a8) (laws_toDevice.f (k + 1) a0 a1 a2 a3 a4 a5 a6 a7 a8) := by
 intro a0 a1 a2 a3 a4 a5 a6 a7 a8 k
 unfold laws_toDevice.f
 repeat' first
   | (with_reducible exact laws_toFlash.mono _ _ _ _ _ _ _ _ _)
   | (with_reducible exact laws_toZoneS.mono _ _)
   | (with_reducible exact LeO.refl _)
   | (with_reducible exact LeO.none _)
   | (with_reducible refine LeO.ite ?_ ?_)
   | (with_reducible refine LeO.bind ?_ (fun _ => ?_))
   | exact laws_toFlash.mono _ _ _ _ _ _ _ _ _
   | exact laws_toZoneS.mono _ _
   | exact LeO.none _
   | refine LeO.ite ?_ ?_
   | refine LeO.bind ?_ (fun _ => ?_)
set_option maxHeartbeats 8000000 in
set_option maxRecDepth 100000 in
theorem laws_toDevice.calls (k : Nat) (a0_0 : Int) (a0_1 : Int) (a0_2 : Int) (A0_3 : Option Addr) (c0_3 : Nat) (l0_3 : List (S234)) (a0_4 : Int) (a0_5 : Int) (a0_6 : Bool) (a0_7 : Int) (A0_8 : Option Addr) (c0_8 : Nat) (l0_8 : List (S275)) (r1 : Int) (r2 : Int) (r3 : Int) (r4 : List (S218)) (r5 : Int) (r6 : Int) (r7 : Bool) (r8 : Int) (r9 : List (S276)) (w : World) (hr0_3 : Kd.C k234 w A0_3 l0_3.length l0_3) (hc0_3 : l0_3.length ≤ c0_3) (hr0_8 : Kd.C k275 w A0_8 l0_8.length l0_8) (hc0_8 : l0_8.length ≤ c0_8) (h : laws_toDevice.f k a0_0 a0_1 a0_2 l0_3 a0_4 a0_5 a0_6 a0_7 l0_8 = some (r1, r2, r3, r4, r5, r6, r7, r8, r9)) :
  Calls Try.prog 78 #[.agg #[.int .i64 a0_0, .int .i64 a0_1, .int .i64 a0_2, .slice A0_3 l0_3.length c0_3, .int .i64 a0_4, .int .i64 a0_5, .bool a0_6, .int .i64 a0_7, .slice A0_8 l0_8.length c0_8]] w fun e w' => ∃ v3_ v8_ : Value, e = .returned (.agg #[.int .i64 r1, .int .i64 r2, .int .i64 r3, v3_, .int .i64 r5, .int .i64 r6, .bool r7, .int .i64 r8, v8_]) ∧ Kd.S k218 218 w' w.heap.size (fun _ => True) v3_ r4 ∧ Kd.S k276 276 w' w.heap.size (fun _ => True) v8_ r9 ∧ Below w.heap.size w w' := by
 have hu121 := Try.underlying121
 have hu126 := Try.underlying126
 have hu38 := Try.underlying38
 have hu45 := Try.underlying45
 have HR0_3 := Aside0.mk hr0_3
 have HC0_3 := Aside0.mk hc0_3
 clear hr0_3 hc0_3
 have HR0_8 := Aside0.mk hr0_8
 have HC0_8 := Aside0.mk hc0_8
 clear hr0_8 hc0_8
 have HB := Aside0.mk (Below.refl w.heap.size w)
 have H : ((laws_toFlash.f k a0_0 a0_1 a0_2 l0_3 a0_4 a0_5 a0_6 a0_7).bind fun bt241 => ((laws_toZoneS.f k l0_8).bind fun t251 => (some (bt241.1, bt241.2.1, bt241.2.2.1, bt241.2.2.2.1, bt241.2.2.2.2.1, bt241.2.2.2.2.2.1, bt241.2.2.2.2.2.2.1, bt241.2.2.2.2.2.2.2, t251)))) = some (r1, r2, r3, r4, r5, r6, r7, r8, r9) := h
 clear h
 replace H := Option.bind_eq_some_iff.mp H
 obtain ⟨⟨t241, t242, t243, t244, t247, t248, t249, t250⟩, A20, H⟩ := H
 have A2 := Aside0.mk A20
 clear A20
 replace H := Option.bind_eq_some_iff.mp H
 obtain ⟨t251, A30, H⟩ := H
 have A3 := Aside0.mk A30
 clear A30
 simp only [Option.some.injEq, Prod.mk.injEq] at H
 obtain ⟨rfl, rfl, rfl, rfl, rfl, rfl, rfl, rfl, rfl⟩ := H
 go_enter Try.func78, Try.ntmps78
 go_wp2_with (first | ((with_reducible refine gate_dst (N := 1) rfl ?_); refine box_event ?hg (N := 1) ?hd (cs := #[.int .i64 a0_0, .int .i64 a0_1, .int .i64 a0_2, .slice A0_3 l0_3.length c0_3, .int .i64 a0_4, .int .i64 a0_5, .bool a0_6, .int .i64 a0_7, .slice A0_8 l0_8.length c0_8]) (t := 121) ?hr ?_; (case hd => rfl); (case hg => rfl); (case hr => first | (go_simp; done) | (go_simp; rfl)); intro gb238 hg w4 hbox hb; have BK238 := Aside0.mk (hbox); have GW238 := Aside0.mk ((by rw [hg]; exact (below_size (bw_ HB.out)) : w.heap.size ≤ gb238)); have GE238 := Nonempty.intro GW238.out; replace HB := Aside0.mk (below_step (bw_ HB.out) hb); clear hb hbox hg) | ((with_reducible refine gate_dst (N := 2) rfl ?_); refine box_event ?hg (N := 2) ?hd (cs := #[.int .i64 0, .int .i64 0, .int .i64 0, .slice none 0 0, .int .i64 0, .int .i64 0, .bool false, .int .i64 0, .slice none 0 0]) (t := 126) ?hr ?_; (case hd => rfl); (case hg => rfl); (case hr => first | (go_simp; done) | (go_simp; rfl)); intro gb239 hg w5 hbox hb; have BK239 := Aside0.mk (hbox); have GW239 := Aside0.mk ((by rw [hg]; exact (below_size (bw_ HB.out)) : w.heap.size ≤ gb239)); have GE239 := Nonempty.intro GW239.out; replace HB := Aside0.mk (below_step (bw_ HB.out) hb); have NB238_239 := Aside0.mk ((by rw [hg]; exact Nat.ne_of_lt (blk_lt (bk_ BK238.out)) : gb238 ≠ gb239)); have NB239_238 := Aside0.mk ((by rw [hg]; exact Nat.ne_of_gt (blk_lt (bk_ BK238.out)) : gb239 ≠ gb238)); replace BK238 := Aside0.mk (blk_below (bk_ BK238.out) hb); clear hb hbox hg) | ((with_reducible refine gate_dst (N := 3) rfl ?_); refine box_event ?hg (N := 3) ?hd (cs := #[.int .i64 0, .int .i64 0, .int .i64 0, .slice none 0 0, .int .i64 0, .int .i64 0, .bool false, .int .i64 0, .slice none 0 0]) (t := 126) ?hr ?_; (case hd => rfl); (case hg => rfl); (case hr => first | (go_simp; done) | (go_simp; rfl)); intro gb240 hg w6 hbox hb; have BK240 := Aside0.mk (hbox); have GW240 := Aside0.mk ((by rw [hg]; exact (below_size (bw_ HB.out)) : w.heap.size ≤ gb240)); have GE240 := Nonempty.intro GW240.out; replace HB := Aside0.mk (below_step (bw_ HB.out) hb); have NB238_240 := Aside0.mk ((by rw [hg]; exact Nat.ne_of_lt (blk_lt (bk_ BK238.out)) : gb238 ≠ gb240)); have NB240_238 := Aside0.mk ((by rw [hg]; exact Nat.ne_of_gt (blk_lt (bk_ BK238.out)) : gb240 ≠ gb238)); replace BK238 := Aside0.mk (blk_below (bk_ BK238.out) hb); have NB239_240 := Aside0.mk ((by rw [hg]; exact Nat.ne_of_lt (blk_lt (bk_ BK239.out)) : gb239 ≠ gb240)); have NB240_239 := Aside0.mk ((by rw [hg]; exact Nat.ne_of_gt (blk_lt (bk_ BK239.out)) : gb240 ≠ gb239)); replace BK239 := Aside0.mk (blk_below (bk_ BK239.out) hb); clear hb hbox hg; have hnb7 := NB238_239.out; have hnc7 := NB239_238.out; have hnb8 := NB238_240.out; have hnc8 := NB240_238.out; obtain ⟨hcz9_0, hcz9_1, hcz9_2, hcz9_3, hcz9_4, hcz9_5, hcz9_6, hcz9_7, hcz9_8⟩ := cells9 BK238.out; obtain ⟨hfz9_0, hfz9_1, hfz9_2, hfz9_3, hfz9_4, hfz9_5, hfz9_6, hfz9_7, hfz9_8⟩ := frozen9 BK238.out) | ((with_reducible refine gate_callee (f := 27) rfl ?_); refine goesL_ (some 6) rfl rfl Try.func27 (by kernel_rfl) rfl #[.agg #[.int .i64 a0_0, .int .i64 a0_1, .int .i64 a0_2, .slice A0_3 l0_3.length c0_3, .int .i64 a0_4, .int .i64 a0_5, .bool a0_6, .int .i64 a0_7]] rfl (by (try simp only [List.map_toArray, List.map_cons, List.map_nil]); first | done | rfl | (simp only [List.length_drop, List.length_take]; rfl)) ?_; (with_reducible refine (laws_toFlash.calls k a0_0 a0_1 a0_2 _ _ l0_3 a0_4 a0_5 a0_6 a0_7 t241 t242 t243 t244 t247 t248 t249 t250 _ ?side1 ?side2 A2.out).mono ?_); (case side1 => exact Kd.C_below HR0_3.out (bw_ HB.out)); (case side2 => exact HC0_3.out); rintro e w10 ⟨v245, rfl, ho0, hb⟩; refine ⟨_, rfl, ?_⟩; have HO246 := Aside0.mk (Kd.S_lower ho0 (below_size (bw_ HB.out))); replace BK238 := Aside0.mk (blk_below (bk_ BK238.out) hb); replace BK239 := Aside0.mk (blk_below (bk_ BK239.out) hb); replace BK240 := Aside0.mk (blk_below (bk_ BK240.out) hb); replace HB := Aside0.mk (below_step (bw_ HB.out) hb); (try clear hb); have hnb11 := NB240_239.out; have hnc11 := NB239_240.out; obtain ⟨hcz12_0, hcz12_1, hcz12_2, hcz12_3, hcz12_4, hcz12_5, hcz12_6, hcz12_7, hcz12_8⟩ := cells9 BK240.out; obtain ⟨hfz12_0, hfz12_1, hfz12_2, hfz12_3, hfz12_4, hfz12_5, hfz12_6, hfz12_7, hfz12_8⟩ := frozen9 BK240.out; obtain ⟨Ao13, co13, eo13⟩ := Kd.S_slice HO246.out; subst eo13; obtain ⟨hcz14_0, hcz14_1, hcz14_2, hcz14_3, hcz14_4, hcz14_5, hcz14_6, hcz14_7, hcz14_8⟩ := cells9 BK238.out; obtain ⟨hfz14_0, hfz14_1, hfz14_2, hfz14_3, hfz14_4, hfz14_5, hfz14_6, hfz14_7, hfz14_8⟩ := frozen9 BK238.out) | ((with_reducible refine gate_callee (f := 184) rfl ?_); refine goesL_ (some 10) rfl rfl Try.func184 (by kernel_rfl) rfl #[.slice A0_8 l0_8.length c0_8] rfl (by (try simp only [List.map_toArray, List.map_cons, List.map_nil]); first | done | rfl | (simp only [List.length_drop, List.length_take]; rfl)) ?_; (with_reducible refine (laws_toZoneS.calls k _ _ l0_8 t251 _ ?side1 ?side2 A3.out).mono ?_); (case side1 => exact Kd.C_below HR0_8.out (bw_ HB.out)); (case side2 => exact HC0_8.out); rintro e w15 ⟨v252, rfl, ho0, hb⟩; refine ⟨_, rfl, ?_⟩; replace HO246 := Aside0.mk (Kd.S_below (by (with_reducible repeat (first | apply Kd.S_alloc | apply Kd.S_drewN | apply Kd.S_drew)); exact (Kd.S_mono (Kd.S_far (p := ⟨gb240, 7, none⟩) (Kd.S_far (p := ⟨gb240, 6, none⟩) (Kd.S_far (p := ⟨gb240, 5, none⟩) (Kd.S_far (p := ⟨gb240, 4, none⟩) (Kd.S_far (p := ⟨gb240, 3, none⟩) (Kd.S_far (p := ⟨gb240, 2, none⟩) (Kd.S_far (p := ⟨gb240, 1, none⟩) (Kd.S_far (p := ⟨gb240, 0, none⟩) (Kd.S_types HO246.out BK240.out (by decide)) (fun _ hk => hk.2) (.int .i64 t241)) (fun _ hk => hk.2) (.int .i64 t242)) (fun _ hk => hk.2) (.int .i64 t243)) (fun _ hk => hk.2) (.slice Ao13 t244.length co13)) (fun _ hk => hk.2) (.int .i64 t247)) (fun _ hk => hk.2) (.int .i64 t248)) (fun _ hk => hk.2) (.bool t249)) (fun _ hk => hk.2) (.int .i64 t250)) (fun _ h_ => h_.1))) hb); have HO253 := Aside0.mk (Kd.S_lower ho0 (below_size (bw_ HB.out))); replace BK238 := Aside0.mk (blk_below (g := gb238) (o := .cells #[.int .i64 a0_0, .int .i64 a0_1, .int .i64 a0_2, .slice A0_3 l0_3.length c0_3, .int .i64 a0_4, .int .i64 a0_5, .bool a0_6, .int .i64 a0_7, .slice A0_8 l0_8.length c0_8] 121 (0, 0)) (by (with_reducible repeat (first | refine blk_drewN ?_ _ | refine blk_drew ?_ | refine blk_alloc ?_ _)); refine blk_far ?_ NB238_240.out _; (with_reducible repeat (first | refine blk_drewN ?_ _ | refine blk_drew ?_ | refine blk_alloc ?_ _)); refine blk_far ?_ NB238_240.out _; (with_reducible repeat (first | refine blk_drewN ?_ _ | refine blk_drew ?_ | refine blk_alloc ?_ _)); refine blk_far ?_ NB238_240.out _; (with_reducible repeat (first | refine blk_drewN ?_ _ | refine blk_drew ?_ | refine blk_alloc ?_ _)); refine blk_far ?_ NB238_240.out _; (with_reducible repeat (first | refine blk_drewN ?_ _ | refine blk_drew ?_ | refine blk_alloc ?_ _)); refine blk_far ?_ NB238_240.out _; (with_reducible repeat (first | refine blk_drewN ?_ _ | refine blk_drew ?_ | refine blk_alloc ?_ _)); refine blk_far ?_ NB238_240.out _; (with_reducible repeat (first | refine blk_drewN ?_ _ | refine blk_drew ?_ | refine blk_alloc ?_ _)); refine blk_far ?_ NB238_240.out _; (with_reducible repeat (first | refine blk_drewN ?_ _ | refine blk_drew ?_ | refine blk_alloc ?_ _)); refine blk_far ?_ NB238_240.out _; (with_reducible repeat (first | refine blk_drewN ?_ _ | refine blk_drew ?_ | refine blk_alloc ?_ _)); exact BK238.out) hb); replace BK239 := Aside0.mk (blk_below (g := gb239) (o := .cells #[.int .i64 0, .int .i64 0, .int .i64 0, .slice none 0 0, .int .i64 0, .int .i64 0, .bool false, .int .i64 0, .slice none 0 0] 126 (0, 0)) (by (with_reducible repeat (first | refine blk_drewN ?_ _ | refine blk_drew ?_ | refine blk_alloc ?_ _)); refine blk_far ?_ NB239_240.out _; (with_reducible repeat (first | refine blk_drewN ?_ _ | refine blk_drew ?_ | refine blk_alloc ?_ _)); refine blk_far ?_ NB239_240.out _; (with_reducible repeat (first | refine blk_drewN ?_ _ | refine blk_drew ?_ | refine blk_alloc ?_ _)); refine blk_far ?_ NB239_240.out _; (with_reducible repeat (first | refine blk_drewN ?_ _ | refine blk_drew ?_ | refine blk_alloc ?_ _)); refine blk_far ?_ NB239_240.out _; (with_reducible repeat (first | refine blk_drewN ?_ _ | refine blk_drew ?_ | refine blk_alloc ?_ _)); refine blk_far ?_ NB239_240.out _; (with_reducible repeat (first | refine blk_drewN ?_ _ | refine blk_drew ?_ | refine blk_alloc ?_ _)); refine blk_far ?_ NB239_240.out _; (with_reducible repeat (first | refine blk_drewN ?_ _ | refine blk_drew ?_ | refine blk_alloc ?_ _)); refine blk_far ?_ NB239_240.out _; (with_reducible repeat (first | refine blk_drewN ?_ _ | refine blk_drew ?_ | refine blk_alloc ?_ _)); refine blk_far ?_ NB239_240.out _; (with_reducible repeat (first | refine blk_drewN ?_ _ | refine blk_drew ?_ | refine blk_alloc ?_ _)); exact BK239.out) hb); replace BK240 := Aside0.mk (blk_below (g := gb240) (o := .cells #[.int .i64 t241, .int .i64 t242, .int .i64 t243, .slice Ao13 t244.length co13, .int .i64 t247, .int .i64 t248, .bool t249, .int .i64 t250, .slice none 0 0] 126 (0, 0)) (by (with_reducible repeat (first | refine blk_drewN ?_ _ | refine blk_drew ?_ | refine blk_alloc ?_ _)); refine blk_put (cs := #[.int .i64 t241, .int .i64 t242, .int .i64 t243, .slice Ao13 t244.length co13, .int .i64 t247, .int .i64 t248, .bool t249, .int .i64 0, .slice none 0 0]) ?_ 7 _ rfl; (with_reducible repeat (first | refine blk_drewN ?_ _ | refine blk_drew ?_ | refine blk_alloc ?_ _)); refine blk_put (cs := #[.int .i64 t241, .int .i64 t242, .int .i64 t243, .slice Ao13 t244.length co13, .int .i64 t247, .int .i64 t248, .bool false, .int .i64 0, .slice none 0 0]) ?_ 6 _ rfl; (with_reducible repeat (first | refine blk_drewN ?_ _ | refine blk_drew ?_ | refine blk_alloc ?_ _)); refine blk_put (cs := #[.int .i64 t241, .int .i64 t242, .int .i64 t243, .slice Ao13 t244.length co13, .int .i64 t247, .int .i64 0, .bool false, .int .i64 0, .slice none 0 0]) ?_ 5 _ rfl; (with_reducible repeat (first | refine blk_drewN ?_ _ | refine blk_drew ?_ | refine blk_alloc ?_ _)); refine blk_put (cs := #[.int .i64 t241, .int .i64 t242, .int .i64 t243, .slice Ao13 t244.length co13, .int .i64 0, .int .i64 0, .bool false, .int .i64 0, .slice none 0 0]) ?_ 4 _ rfl; (with_reducible repeat (first | refine blk_drewN ?_ _ | refine blk_drew ?_ | refine blk_alloc ?_ _)); refine blk_put (cs := #[.int .i64 t241, .int .i64 t242, .int .i64 t243, .slice none 0 0, .int .i64 0, .int .i64 0, .bool false, .int .i64 0, .slice none 0 0]) ?_ 3 _ rfl; (with_reducible repeat (first | refine blk_drewN ?_ _ | refine blk_drew ?_ | refine blk_alloc ?_ _)); refine blk_put (cs := #[.int .i64 t241, .int .i64 t242, .int .i64 0, .slice none 0 0, .int .i64 0, .int .i64 0, .bool false, .int .i64 0, .slice none 0 0]) ?_ 2 _ rfl; (with_reducible repeat (first | refine blk_drewN ?_ _ | refine blk_drew ?_ | refine blk_alloc ?_ _)); refine blk_put (cs := #[.int .i64 t241, .int .i64 0, .int .i64 0, .slice none 0 0, .int .i64 0, .int .i64 0, .bool false, .int .i64 0, .slice none 0 0]) ?_ 1 _ rfl; (with_reducible repeat (first | refine blk_drewN ?_ _ | refine blk_drew ?_ | refine blk_alloc ?_ _)); refine blk_put (cs := #[.int .i64 0, .int .i64 0, .int .i64 0, .slice none 0 0, .int .i64 0, .int .i64 0, .bool false, .int .i64 0, .slice none 0 0]) ?_ 0 _ rfl; (with_reducible repeat (first | refine blk_drewN ?_ _ | refine blk_drew ?_ | refine blk_alloc ?_ _)); exact BK240.out) hb); replace HB := Aside0.mk (below_step (bw_ HB.out) hb); (try clear hb); obtain ⟨Ao16, co16, eo16⟩ := Kd.S_slice HO253.out; subst eo16; obtain ⟨hcz17_0, hcz17_1, hcz17_2, hcz17_3, hcz17_4, hcz17_5, hcz17_6, hcz17_7, hcz17_8⟩ := cells9 BK240.out; obtain ⟨hfz17_0, hfz17_1, hfz17_2, hfz17_3, hfz17_4, hfz17_5, hfz17_6, hfz17_7, hfz17_8⟩ := frozen9 BK240.out; obtain ⟨hcz18_0, hcz18_1, hcz18_2, hcz18_3, hcz18_4, hcz18_5, hcz18_6, hcz18_7, hcz18_8⟩ := cells9 BK239.out; obtain ⟨hfz18_0, hfz18_1, hfz18_2, hfz18_3, hfz18_4, hfz18_5, hfz18_6, hfz18_7, hfz18_8⟩ := frozen9 BK239.out))
 refine bodyPost_ret (results_cell_row rfl _ _ gb239 126 #[.int .i64 t241, .int .i64 t242, .int .i64 t243, .slice Ao13 t244.length co13, .int .i64 t247, .int .i64 t248, .bool t249, .int .i64 t250, .slice Ao16 t251.length co16] (0, 0) _ rfl (by (with_reducible repeat (first | refine blk_drewN ?_ _ | refine blk_drew ?_ | refine blk_alloc ?_ _)); refine blk_put (cs := #[.int .i64 t241, .int .i64 t242, .int .i64 t243, .slice Ao13 t244.length co13, .int .i64 t247, .int .i64 t248, .bool t249, .int .i64 t250, .slice none 0 0]) ?_ 8 _ rfl; (with_reducible repeat (first | refine blk_drewN ?_ _ | refine blk_drew ?_ | refine blk_alloc ?_ _)); refine blk_put (cs := #[.int .i64 t241, .int .i64 t242, .int .i64 t243, .slice Ao13 t244.length co13, .int .i64 t247, .int .i64 t248, .bool t249, .int .i64 0, .slice none 0 0]) ?_ 7 _ rfl; (with_reducible repeat (first | refine blk_drewN ?_ _ | refine blk_drew ?_ | refine blk_alloc ?_ _)); refine blk_put (cs := #[.int .i64 t241, .int .i64 t242, .int .i64 t243, .slice Ao13 t244.length co13, .int .i64 t247, .int .i64 t248, .bool false, .int .i64 0, .slice none 0 0]) ?_ 6 _ rfl; (with_reducible repeat (first | refine blk_drewN ?_ _ | refine blk_drew ?_ | refine blk_alloc ?_ _)); refine blk_put (cs := #[.int .i64 t241, .int .i64 t242, .int .i64 t243, .slice Ao13 t244.length co13, .int .i64 t247, .int .i64 0, .bool false, .int .i64 0, .slice none 0 0]) ?_ 5 _ rfl; (with_reducible repeat (first | refine blk_drewN ?_ _ | refine blk_drew ?_ | refine blk_alloc ?_ _)); refine blk_put (cs := #[.int .i64 t241, .int .i64 t242, .int .i64 t243, .slice Ao13 t244.length co13, .int .i64 0, .int .i64 0, .bool false, .int .i64 0, .slice none 0 0]) ?_ 4 _ rfl; (with_reducible repeat (first | refine blk_drewN ?_ _ | refine blk_drew ?_ | refine blk_alloc ?_ _)); refine blk_put (cs := #[.int .i64 t241, .int .i64 t242, .int .i64 t243, .slice none 0 0, .int .i64 0, .int .i64 0, .bool false, .int .i64 0, .slice none 0 0]) ?_ 3 _ rfl; (with_reducible repeat (first | refine blk_drewN ?_ _ | refine blk_drew ?_ | refine blk_alloc ?_ _)); refine blk_put (cs := #[.int .i64 t241, .int .i64 t242, .int .i64 0, .slice none 0 0, .int .i64 0, .int .i64 0, .bool false, .int .i64 0, .slice none 0 0]) ?_ 2 _ rfl; (with_reducible repeat (first | refine blk_drewN ?_ _ | refine blk_drew ?_ | refine blk_alloc ?_ _)); refine blk_put (cs := #[.int .i64 t241, .int .i64 0, .int .i64 0, .slice none 0 0, .int .i64 0, .int .i64 0, .bool false, .int .i64 0, .slice none 0 0]) ?_ 1 _ rfl; (with_reducible repeat (first | refine blk_drewN ?_ _ | refine blk_drew ?_ | refine blk_alloc ?_ _)); refine blk_put (cs := #[.int .i64 0, .int .i64 0, .int .i64 0, .slice none 0 0, .int .i64 0, .int .i64 0, .bool false, .int .i64 0, .slice none 0 0]) ?_ 0 _ rfl; (with_reducible repeat (first | refine blk_drewN ?_ _ | refine blk_drew ?_ | refine blk_alloc ?_ _)); refine blk_far ?_ NB239_240.out _; (with_reducible repeat (first | refine blk_drewN ?_ _ | refine blk_drew ?_ | refine blk_alloc ?_ _)); exact BK239.out) Try.underlying126 rfl (by kernel_rfl)) rfl ?_
 exact ⟨_, _, by first | rfl | (simp [errW_none, errW_some] <;> rfl) | (simp [*, errW_none, errW_some] <;> rfl), by (with_reducible repeat (first | apply Kd.S_alloc | apply Kd.S_drewN | apply Kd.S_drew)); exact Kd.S_mono (Kd.S_far (p := ⟨gb239, 8, none⟩) (Kd.S_far (p := ⟨gb239, 7, none⟩) (Kd.S_far (p := ⟨gb239, 6, none⟩) (Kd.S_far (p := ⟨gb239, 5, none⟩) (Kd.S_far (p := ⟨gb239, 4, none⟩) (Kd.S_far (p := ⟨gb239, 3, none⟩) (Kd.S_far (p := ⟨gb239, 2, none⟩) (Kd.S_far (p := ⟨gb239, 1, none⟩) (Kd.S_far (p := ⟨gb239, 0, none⟩) (Kd.S_far (p := ⟨gb240, 8, none⟩) (Kd.S_types (Kd.S_types HO246.out BK240.out (by decide)) BK239.out (by decide)) (fun _ hk => hk.1.2) (.slice Ao16 t251.length co16)) (fun _ hk => hk.2) (.int .i64 t241)) (fun _ hk => hk.2) (.int .i64 t242)) (fun _ hk => hk.2) (.int .i64 t243)) (fun _ hk => hk.2) (.slice Ao13 t244.length co13)) (fun _ hk => hk.2) (.int .i64 t247)) (fun _ hk => hk.2) (.int .i64 t248)) (fun _ hk => hk.2) (.bool t249)) (fun _ hk => hk.2) (.int .i64 t250)) (fun _ hk => hk.2) (.slice Ao16 t251.length co16)) (fun _ hk => trivial), by (with_reducible repeat (first | apply Kd.S_alloc | apply Kd.S_drewN | apply Kd.S_drew)); exact Kd.S_mono (Kd.S_far (p := ⟨gb239, 8, none⟩) (Kd.S_far (p := ⟨gb239, 7, none⟩) (Kd.S_far (p := ⟨gb239, 6, none⟩) (Kd.S_far (p := ⟨gb239, 5, none⟩) (Kd.S_far (p := ⟨gb239, 4, none⟩) (Kd.S_far (p := ⟨gb239, 3, none⟩) (Kd.S_far (p := ⟨gb239, 2, none⟩) (Kd.S_far (p := ⟨gb239, 1, none⟩) (Kd.S_far (p := ⟨gb239, 0, none⟩) (Kd.S_far (p := ⟨gb240, 8, none⟩) (Kd.S_types (Kd.S_types HO253.out BK240.out (by decide)) BK239.out (by decide)) (fun _ hk => hk.1.2) (.slice Ao16 t251.length co16)) (fun _ hk => hk.2) (.int .i64 t241)) (fun _ hk => hk.2) (.int .i64 t242)) (fun _ hk => hk.2) (.int .i64 t243)) (fun _ hk => hk.2) (.slice Ao13 t244.length co13)) (fun _ hk => hk.2) (.int .i64 t247)) (fun _ hk => hk.2) (.int .i64 t248)) (fun _ hk => hk.2) (.bool t249)) (fun _ hk => hk.2) (.int .i64 t250)) (fun _ hk => hk.2) (.slice Ao16 t251.length co16)) (fun _ hk => trivial), bw_ HB.out⟩

/-! ### impl_within: function 154 -/
def impl_within.f (a0 : Int) (a1 : Int) (a2 : Int) : Option (Bool) := if a0 ≥ a1 then (some (decide (a0 ≤ a2))) else (some false)
set_option maxHeartbeats 8000000 in
set_option maxRecDepth 100000 in
theorem impl_within.calls (a0 : Int) (a1 : Int) (a2 : Int) (r : Bool) (w : World) (h : impl_within.f a0 a1 a2 = some r) :
  Calls Try.prog 154 #[.int .i64 a0, .int .i64 a1, .int .i64 a2] w fun e w' => e = .returned (.bool r) ∧ Drawn0 w w' := by
 have H := h; unfold impl_within.f at H
 clear h
 by_cases c4 : a0 ≥ a1
 ·rw [if_pos c4] at H
  have c4b0 : decide (a1 ≤ a0) = true := decide_eq_true c4
  clear c4
  obtain rfl := Option.some.inj H
  go_enter Try.func154, Try.ntmps154
  go_wp2
  go_ret
  exact ⟨by first | rfl | (simp; done) | (simp [*]; done), by repeat (first | exact Drawn0.refl _ | apply Drawn0.step)⟩
 rw [if_neg c4] at H
 have c4b0 : decide (a1 ≤ a0) = false := decide_eq_false c4
 clear c4
 obtain rfl := Option.some.inj H
 go_enter Try.func154, Try.ntmps154
 go_wp2
 go_ret
 exact ⟨by first | rfl | (simp; done) | (simp [*]; done), by repeat (first | exact Drawn0.refl _ | apply Drawn0.step)⟩

/-! ### impl_isIndex: function 169 -/
def impl_isIndex.f (a0 : Int) (a1 : Int) : Option (Bool) := (impl_within.f a0 0 (wrap64 (a1 - 1))).bind fun t254 => (some t254)
set_option maxHeartbeats 8000000 in
set_option maxRecDepth 100000 in
theorem impl_isIndex.calls (a0 : Int) (a1 : Int) (r : Bool) (w : World) (h : impl_isIndex.f a0 a1 = some r) :
  Calls Try.prog 169 #[.int .i64 a0, .int .i64 a1] w fun e w' => e = .returned (.bool r) ∧ Drawn0 w w' := by
 have H := h; unfold impl_isIndex.f at H
 clear h
 replace H := Option.bind_eq_some_iff.mp H
 obtain ⟨t254, A30, H⟩ := H
 have A3 := Aside0.mk A30
 clear A30
 obtain rfl := Option.some.inj H
 go_enter Try.func169, Try.ntmps169
 go_wp2_with (first | ((with_reducible refine gate_callee (f := 154) rfl ?_); refine goesL_ (some 8) rfl rfl Try.func154 (by kernel_rfl) rfl #[.int .i64 a0, .int .i64 0, .int .i64 (wrap64 (a1 - 1))] rfl (by (try simp only [List.map_toArray, List.map_cons, List.map_nil]); first | done | rfl | (simp only [List.length_drop, List.length_take]; rfl)) ?_; (with_reducible refine (impl_within.calls a0 0 (wrap64 (a1 - 1)) t254 _ A3.out).mono ?_); rintro e w' ⟨rfl, ⟨nd, rfl⟩⟩; refine ⟨_, rfl, ?_⟩))
 go_ret
 exact ⟨by first | rfl | (simp; done) | (simp [*]; done), by repeat (first | exact Drawn0.refl _ | apply Drawn0.step)⟩

/-! ### impl_ValidGeometry: function 146 -/
def impl_ValidGeometry.f (a0_0 : Int) (a0_1 : Int) (a0_2 : Int) : Option (Bool) := (impl_within.f a0_0 2 3).bind fun t256 => (if t256 = true then ((impl_within.f a0_1 4 12).bind fun t257 => (if t257 = true then (if a0_2 = 8 then (some true) else (some (a0_2 == 16))) else (some false))) else (some false))
set_option maxHeartbeats 8000000 in
set_option maxRecDepth 100000 in
theorem impl_ValidGeometry.calls (a0_0 : Int) (a0_1 : Int) (a0_2 : Int) (r : Bool) (w : World) (h : impl_ValidGeometry.f a0_0 a0_1 a0_2 = some r) :
  Calls Try.prog 146 #[.agg #[.int .i64 a0_0, .int .i64 a0_1, .int .i64 a0_2]] w fun e w' => e = .returned (.bool r) ∧ Below w.heap.size w w' := by
 have hu42 := Try.underlying42
 have HB := Aside0.mk (Below.refl w.heap.size w)
 have H := h; unfold impl_ValidGeometry.f at H
 clear h
 replace H := Option.bind_eq_some_iff.mp H
 obtain ⟨t256, A20, H⟩ := H
 have A2 := Aside0.mk A20
 clear A20
 by_cases c3 : t256 = true
 ·subst c3
  rw [if_pos rfl] at H
  replace H := Option.bind_eq_some_iff.mp H
  obtain ⟨t257, A40, H⟩ := H
  have A4 := Aside0.mk A40
  clear A40
  by_cases c5 : t257 = true
  ·subst c5
   rw [if_pos rfl] at H
   by_cases c6 : a0_2 = 8
   ·rw [if_pos c6] at H
    have c6b0 : (a0_2 == 8) = true := beq_iff_eq.mpr c6
    have c6b1 : (a0_2 != 8) = false := bne_eq_false_iff_eq.mpr c6
    clear c6
    obtain rfl := Option.some.inj H
    go_enter Try.func146, Try.ntmps146
    go_wp2_with (first | ((with_reducible refine gate_dst (N := 1) rfl ?_); refine box_event ?hg (N := 1) ?hd (cs := #[.int .i64 a0_0, .int .i64 a0_1, .int .i64 a0_2]) (t := 42) ?hr ?_; (case hd => rfl); (case hg => rfl); (case hr => first | (go_simp; done) | (go_simp; rfl)); intro gb255 hg w7 hbox hb; have BK255 := Aside0.mk (hbox); have GW255 := Aside0.mk ((by rw [hg]; exact (below_size (bw_ HB.out)) : w.heap.size ≤ gb255)); have GE255 := Nonempty.intro GW255.out; replace HB := Aside0.mk (below_step (bw_ HB.out) hb); clear hb hbox hg; obtain ⟨hcz8_0, hcz8_1, hcz8_2⟩ := cells3 BK255.out; obtain ⟨hfz8_0, hfz8_1, hfz8_2⟩ := frozen3 BK255.out) | ((with_reducible refine gate_callee (f := 154) rfl ?_); refine goesL_ (some 5) rfl rfl Try.func154 (by kernel_rfl) rfl #[.int .i64 a0_0, .int .i64 2, .int .i64 3] rfl (by (try simp only [List.map_toArray, List.map_cons, List.map_nil]); first | done | rfl | (simp only [List.length_drop, List.length_take]; rfl)) ?_; (with_reducible refine (impl_within.calls a0_0 2 3 true _ A2.out).mono ?_); rintro e w' ⟨rfl, ⟨nd, rfl⟩⟩; refine ⟨_, rfl, ?_⟩) | (go_at_call 154; (with_reducible refine (impl_within.calls a0_1 4 12 true _ A4.out).mono ?_); rintro e w' ⟨rfl, ⟨nd, rfl⟩⟩))
    go_ret
    exact ⟨by first | rfl | (simp [errW_none, errW_some] <;> rfl) | (simp [*, errW_none, errW_some] <;> rfl), bw_ HB.out⟩
   rw [if_neg c6] at H
   have c6b0 : (a0_2 == 8) = false := beq_eq_false_iff_ne.mpr c6
   have c6b1 : (a0_2 != 8) = true := bne_iff_ne.mpr c6
   obtain rfl := Option.some.inj H
   go_enter Try.func146, Try.ntmps146
   go_wp2_with (first | ((with_reducible refine gate_dst (N := 1) rfl ?_); refine box_event ?hg (N := 1) ?hd (cs := #[.int .i64 a0_0, .int .i64 a0_1, .int .i64 a0_2]) (t := 42) ?hr ?_; (case hd => rfl); (case hg => rfl); (case hr => first | (go_simp; done) | (go_simp; rfl)); intro gb255 hg w9 hbox hb; have BK255 := Aside0.mk (hbox); have GW255 := Aside0.mk ((by rw [hg]; exact (below_size (bw_ HB.out)) : w.heap.size ≤ gb255)); have GE255 := Nonempty.intro GW255.out; replace HB := Aside0.mk (below_step (bw_ HB.out) hb); clear hb hbox hg; obtain ⟨hcz10_0, hcz10_1, hcz10_2⟩ := cells3 BK255.out; obtain ⟨hfz10_0, hfz10_1, hfz10_2⟩ := frozen3 BK255.out) | ((with_reducible refine gate_callee (f := 154) rfl ?_); refine goesL_ (some 5) rfl rfl Try.func154 (by kernel_rfl) rfl #[.int .i64 a0_0, .int .i64 2, .int .i64 3] rfl (by (try simp only [List.map_toArray, List.map_cons, List.map_nil]); first | done | rfl | (simp only [List.length_drop, List.length_take]; rfl)) ?_; (with_reducible refine (impl_within.calls a0_0 2 3 true _ A2.out).mono ?_); rintro e w' ⟨rfl, ⟨nd, rfl⟩⟩; refine ⟨_, rfl, ?_⟩) | (go_at_call 154; (with_reducible refine (impl_within.calls a0_1 4 12 true _ A4.out).mono ?_); rintro e w' ⟨rfl, ⟨nd, rfl⟩⟩))
   go_ret
   exact ⟨by first | rfl | (simp [errW_none, errW_some] <;> rfl) | (simp [*, errW_none, errW_some] <;> rfl), bw_ HB.out⟩
  replace c5 := Bool.eq_false_iff.mpr c5
  subst c5
  rw [if_neg (show ¬ (false = true) by decide)] at H
  obtain rfl := Option.some.inj H
  go_enter Try.func146, Try.ntmps146
  go_wp2_with (first | ((with_reducible refine gate_dst (N := 1) rfl ?_); refine box_event ?hg (N := 1) ?hd (cs := #[.int .i64 a0_0, .int .i64 a0_1, .int .i64 a0_2]) (t := 42) ?hr ?_; (case hd => rfl); (case hg => rfl); (case hr => first | (go_simp; done) | (go_simp; rfl)); intro gb255 hg w11 hbox hb; have BK255 := Aside0.mk (hbox); have GW255 := Aside0.mk ((by rw [hg]; exact (below_size (bw_ HB.out)) : w.heap.size ≤ gb255)); have GE255 := Nonempty.intro GW255.out; replace HB := Aside0.mk (below_step (bw_ HB.out) hb); clear hb hbox hg; obtain ⟨hcz12_0, hcz12_1, hcz12_2⟩ := cells3 BK255.out; obtain ⟨hfz12_0, hfz12_1, hfz12_2⟩ := frozen3 BK255.out) | ((with_reducible refine gate_callee (f := 154) rfl ?_); refine goesL_ (some 5) rfl rfl Try.func154 (by kernel_rfl) rfl #[.int .i64 a0_0, .int .i64 2, .int .i64 3] rfl (by (try simp only [List.map_toArray, List.map_cons, List.map_nil]); first | done | rfl | (simp only [List.length_drop, List.length_take]; rfl)) ?_; (with_reducible refine (impl_within.calls a0_0 2 3 true _ A2.out).mono ?_); rintro e w' ⟨rfl, ⟨nd, rfl⟩⟩; refine ⟨_, rfl, ?_⟩) | (go_at_call 154; (with_reducible refine (impl_within.calls a0_1 4 12 false _ A4.out).mono ?_); rintro e w' ⟨rfl, ⟨nd, rfl⟩⟩))
  go_ret
  exact ⟨by first | rfl | (simp [errW_none, errW_some] <;> rfl) | (simp [*, errW_none, errW_some] <;> rfl), bw_ HB.out⟩
 replace c3 := Bool.eq_false_iff.mpr c3
 subst c3
 rw [if_neg (show ¬ (false = true) by decide)] at H
 obtain rfl := Option.some.inj H
 go_enter Try.func146, Try.ntmps146
 go_wp2_with (first | ((with_reducible refine gate_dst (N := 1) rfl ?_); refine box_event ?hg (N := 1) ?hd (cs := #[.int .i64 a0_0, .int .i64 a0_1, .int .i64 a0_2]) (t := 42) ?hr ?_; (case hd => rfl); (case hg => rfl); (case hr => first | (go_simp; done) | (go_simp; rfl)); intro gb255 hg w13 hbox hb; have BK255 := Aside0.mk (hbox); have GW255 := Aside0.mk ((by rw [hg]; exact (below_size (bw_ HB.out)) : w.heap.size ≤ gb255)); have GE255 := Nonempty.intro GW255.out; replace HB := Aside0.mk (below_step (bw_ HB.out) hb); clear hb hbox hg; obtain ⟨hcz14_0, hcz14_1, hcz14_2⟩ := cells3 BK255.out; obtain ⟨hfz14_0, hfz14_1, hfz14_2⟩ := frozen3 BK255.out) | ((with_reducible refine gate_callee (f := 154) rfl ?_); refine goesL_ (some 5) rfl rfl Try.func154 (by kernel_rfl) rfl #[.int .i64 a0_0, .int .i64 2, .int .i64 3] rfl (by (try simp only [List.map_toArray, List.map_cons, List.map_nil]); first | done | rfl | (simp only [List.length_drop, List.length_take]; rfl)) ?_; (with_reducible refine (impl_within.calls a0_0 2 3 false _ A2.out).mono ?_); rintro e w' ⟨rfl, ⟨nd, rfl⟩⟩; refine ⟨_, rfl, ?_⟩))
 go_ret
 exact ⟨by first | rfl | (simp [errW_none, errW_some] <;> rfl) | (simp [*, errW_none, errW_some] <;> rfl), bw_ HB.out⟩

/-! ### impl_Geometry_all: function 155 -/
def impl_Geometry_all.f (a0_0 : Int) (a0_1 : Int) (a0_2 : Int) : Option (Int) := some (wrap64 (a0_0 * a0_1))
set_option maxHeartbeats 8000000 in
set_option maxRecDepth 100000 in
theorem impl_Geometry_all.calls (a0_0 : Int) (a0_1 : Int) (a0_2 : Int) (r : Int) (w : World) (h : impl_Geometry_all.f a0_0 a0_1 a0_2 = some r) :
  Calls Try.prog 155 #[.agg #[.int .i64 a0_0, .int .i64 a0_1, .int .i64 a0_2]] w fun e w' => e = .returned (.int .i64 r) ∧ Below w.heap.size w w' := by
 have hu42 := Try.underlying42
 have HB := Aside0.mk (Below.refl w.heap.size w)
 have H := h; unfold impl_Geometry_all.f at H
 clear h
 obtain rfl := Option.some.inj H
 go_enter Try.func155, Try.ntmps155
 go_wp2_with (first | ((with_reducible refine gate_dst (N := 1) rfl ?_); refine box_event ?hg (N := 1) ?hd (cs := #[.int .i64 a0_0, .int .i64 a0_1, .int .i64 a0_2]) (t := 42) ?hr ?_; (case hd => rfl); (case hg => rfl); (case hr => first | (go_simp; done) | (go_simp; rfl)); intro gb258 hg w2 hbox hb; have BK258 := Aside0.mk (hbox); have GW258 := Aside0.mk ((by rw [hg]; exact (below_size (bw_ HB.out)) : w.heap.size ≤ gb258)); have GE258 := Nonempty.intro GW258.out; replace HB := Aside0.mk (below_step (bw_ HB.out) hb); clear hb hbox hg; obtain ⟨hcz3_0, hcz3_1, hcz3_2⟩ := cells3 BK258.out; obtain ⟨hfz3_0, hfz3_1, hfz3_2⟩ := frozen3 BK258.out))
 go_ret
 exact ⟨by first | rfl | (simp [errW_none, errW_some] <;> rfl) | (simp [*, errW_none, errW_some] <;> rfl), bw_ HB.out⟩

-- NOT PRINTED: function 281 (impl_Block_281)

-- NOT PRINTED: function 210 (impl_Block_210)

/-! ### impl_Geometry_blockOk: function 212 -/
mutual
def impl_Geometry_blockOk.j0 : Nat → Bool → Int → Int → Bool → List ByteArray → Option (Bool)
 | 0, _, _, _, _, _ => none
 | k + 1, x26, x261000, x261001, x261002, x261003 => if x26 = true then (some false) else (impl_Geometry_blockOk.l0 k x261003 (x261003.length : Int) 0 x261000 x261001 x261002 x261003)
def impl_Geometry_blockOk.l0 : Nat → List ByteArray → Int → Int → Int → Int → Bool → List ByteArray → Option (Bool)
 | 0, _, _, _, _, _, _, _ => none
 | k + 1, x28, x29, x30, x261000, x261001, x261002, x261003 => if x30 < x29 then (if 0 ≤ x30 then (if x30 < (x28.length : Int) then (if (rdOf ByteArray.empty x28 x30).toList = ([] : List UInt8) then (impl_Geometry_blockOk.l0 k x28 x29 (wrap64 (x30 + 1)) x261000 x261001 x261002 x261003) else (if ((rdOf ByteArray.empty x28 x30).size : Int) = 91 then (if x30 ≥ x261001 then (some false) else (impl_Geometry_blockOk.l0 k x28 x29 (wrap64 (x30 + 1)) x261000 x261001 x261002 x261003)) else (some false))) else (none)) else (none)) else (some true)
end
def impl_Geometry_blockOk.f (k : Nat) (a0_0 : Int) (a0_1 : Int) (a0_2 : Int) (a1_0 : Int) (a1_1 : Int) (a1_2 : Bool) (l1_3 : List ByteArray) : Option (Bool) := (impl_within.f a1_0 0 1000).bind fun t261 => (if t261 = true then ((impl_within.f a1_1 0 a0_2).bind fun t262 => (if t262 = true then (impl_Geometry_blockOk.j0 k ((l1_3.length : Int) != a0_2) a1_0 a1_1 a1_2 l1_3) else (impl_Geometry_blockOk.j0 k true a1_0 a1_1 a1_2 l1_3))) else (impl_Geometry_blockOk.j0 k true a1_0 a1_1 a1_2 l1_3))
theorem impl_Geometry_blockOk.mono_l : ∀ k, (∀ y0 y1 y2 y3 y4, LeO (impl_Geometry_blockOk.j0 k y0 y1 y2 y3 y4) (impl_Geometry_blockOk.j0 (k + 1) y0 y1 y2 y3 y4)) ∧ (∀ y0 y1 y2 y3 y4 y5 y6, LeO (impl_Geometry_blockOk.l0 k y0 y1 y2 y3 y4 y5 y6) (impl_Geometry_blockOk.l0 (k + 1) y0 y1 y2 y3 y4 y5 y6))
 | 0 => ⟨fun _ _ _ _ _ r h => by simp [impl_Geometry_blockOk.j0] at h, fun _ _ _ _ _ _ _ r h => by simp [impl_Geometry_blockOk.l0] at h⟩
 | k + 1 => by
  obtain ⟨ih0, ih1⟩ := impl_Geometry_blockOk.mono_l k
  refine ⟨?_, ?_⟩
  ·intro y0 y1 y2 y3 y4
   unfold impl_Geometry_blockOk.j0
   repeat' first
   | (with_reducible exact ih0 _ _ _ _ _)
   | (with_reducible exact ih1 _ _ _ _ _ _ _)
   | (with_reducible exact LeO.refl _)
   | (with_reducible exact LeO.none _)
   | (with_reducible refine LeO.ite ?_ ?_)
   | (with_reducible refine LeO.bind ?_ (fun _ => ?_))
   | exact ih0 _ _ _ _ _
   | exact ih1 _ _ _ _ _ _ _
   | exact LeO.none _
   | refine LeO.ite ?_ ?_
   | refine LeO.bind ?_ (fun _ => ?_)
  ·intro y0 y1 y2 y3 y4 y5 y6
   unfold impl_Geometry_blockOk.l0
   repeat' first
   | (with_reducible exact ih0 _ _ _ _ _)
   | (with_reducible exact ih1 _ _ _ _ _ _ _)
   | (with_reducible exact LeO.refl _)
   | (with_reducible exact LeO.none _)
   | (with_reducible refine LeO.ite ?_ ?_)
   | (with_reducible refine LeO.bind ?_ (fun _ => ?_))
   | exact ih0 _ _ _ _ _
   | exact ih1 _ _ _ _ _ _ _
   | exact LeO.none _
   | refine LeO.ite ?_ ?_
   | refine LeO.bind ?_ (fun _ => ?_)
theorem impl_Geometry_blockOk.mono : ∀ a0 a1 a2 a3 a4 a5 a6 k, LeO (impl_Geometry_blockOk.f k a0 a1 a2 a3 a4 a5 a6) (impl_Geometry_blockOk.f (k + 1) a0 a1 a2 a3 a4 a5 a6) := by
 intro a0 a1 a2 a3 a4 a5 a6 k
 obtain ⟨ih0, ih1⟩ := impl_Geometry_blockOk.mono_l k
 unfold impl_Geometry_blockOk.f
 repeat' first
   | (with_reducible exact ih0 _ _ _ _ _)
   | (with_reducible exact ih1 _ _ _ _ _ _ _)
   | (with_reducible exact LeO.refl _)
   | (with_reducible exact LeO.none _)
   | (with_reducible refine LeO.ite ?_ ?_)
   | (with_reducible refine LeO.bind ?_ (fun _ => ?_))
   | exact ih0 _ _ _ _ _
   | exact ih1 _ _ _ _ _ _ _
   | exact LeO.none _
   | refine LeO.ite ?_ ?_
   | refine LeO.bind ?_ (fun _ => ?_)
set_option maxHeartbeats 8000000 in
set_option maxRecDepth 100000 in
theorem impl_Geometry_blockOk.calls (k : Nat) (a0_0 : Int) (a0_1 : Int) (a0_2 : Int) (a1_0 : Int) (a1_1 : Int) (a1_2 : Bool) (A1_3 : Option Addr) (c1_3 : Nat) (l1_3 : List ByteArray) (r : Bool) (w : World) (hr1_3 : Kd.C Kd.string w A1_3 l1_3.length l1_3) (hc1_3 : l1_3.length ≤ c1_3) (h : impl_Geometry_blockOk.f k a0_0 a0_1 a0_2 a1_0 a1_1 a1_2 l1_3 = some r) :
  Calls Try.prog 212 #[.agg #[.int .i64 a0_0, .int .i64 a0_1, .int .i64 a0_2], .agg #[.int .i64 a1_0, .int .i64 a1_1, .bool a1_2, .slice A1_3 l1_3.length c1_3]] w fun e w' => e = .returned (.bool r) ∧ Below w.heap.size w w' := by
 have hu42 := Try.underlying42
 have hu218 := Try.underlying218
 have HR1_3 := Aside0.mk hr1_3
 have HC1_3 := Aside0.mk hc1_3
 clear hr1_3 hc1_3
 have HB := Aside0.mk (Below.refl w.heap.size w)
 have H := h; unfold impl_Geometry_blockOk.f at H
 clear h
 have HC3 := Aside0.mk H
 clear H
 go_enter Try.func212, Try.ntmps212
 go_upto_region 1 with (first | ((with_reducible refine gate_dst (N := 2) rfl ?_); (try (refine gate_guard (by rfl) ?_; dsimp only)); refine box_event ?hg (N := 2) ?hd (cs := #[.int .i64 a0_0, .int .i64 a0_1, .int .i64 a0_2]) (t := 42) ?hr ?_; (case hd => rfl); (case hg => rfl); (case hr => first | (go_simp; done) | (go_simp; rfl)); intro gb259 hg w4 hbox hb; have BK259 := Aside0.mk (hbox); have GW259 := Aside0.mk ((by rw [hg]; exact (below_size (bw_ HB.out)) : w.heap.size ≤ gb259)); have GE259 := Nonempty.intro GW259.out; replace HB := Aside0.mk (below_step (bw_ HB.out) hb); clear hb hbox hg) | ((with_reducible refine gate_dst (N := 3) rfl ?_); (try (refine gate_guard (by rfl) ?_; dsimp only)); refine box_event ?hg (N := 3) ?hd (cs := #[.int .i64 a1_0, .int .i64 a1_1, .bool a1_2, .slice A1_3 l1_3.length c1_3]) (t := 218) ?hr ?_; (case hd => rfl); (case hg => rfl); (case hr => first | (go_simp; done) | (go_simp; rfl)); intro gb260 hg w5 hbox hb; have BK260 := Aside0.mk (hbox); have GW260 := Aside0.mk ((by rw [hg]; exact (below_size (bw_ HB.out)) : w.heap.size ≤ gb260)); have GE260 := Nonempty.intro GW260.out; replace HB := Aside0.mk (below_step (bw_ HB.out) hb); have NB259_260 := Aside0.mk ((by rw [hg]; exact Nat.ne_of_lt (blk_lt (bk_ BK259.out)) : gb259 ≠ gb260)); have NB260_259 := Aside0.mk ((by rw [hg]; exact Nat.ne_of_gt (blk_lt (bk_ BK259.out)) : gb260 ≠ gb259)); replace BK259 := Aside0.mk (blk_below (bk_ BK259.out) hb); clear hb hbox hg))
 (try simp only [Act.put, List.setIfInBounds_toArray, List.set_cons_zero, List.set_cons_succ])
 go_cut [26] (fun v26 wc => ∃ (kq : Nat) (x26_2 : Bool), v26 = .bool x26_2 ∧ Aside0 (impl_Geometry_blockOk.j0 kq x26_2 a1_0 a1_1 a1_2 l1_3 = some r) ∧ Aside0 (kq ≤ k) ∧ Aside0 (wc.heap[gb259]? = some (.cells #[.int .i64 a0_0, .int .i64 a0_1, .int .i64 a0_2] 42 (0, 0))) ∧ Aside0 (wc.heap[gb260]? = some (.cells #[.int .i64 a1_0, .int .i64 a1_1, .bool a1_2, (.slice A1_3 l1_3.length c1_3)] 218 (0, 0))) ∧ Aside0 (Below w.heap.size w wc))
 case first =>
  have H := HC3.out
  clear HC3
  replace H := Option.bind_eq_some_iff.mp H
  obtain ⟨t261, A60, H⟩ := H
  have A6 := Aside0.mk A60
  clear A60
  by_cases c7 : t261 = true
  ·subst c7
   rw [if_pos rfl] at H
   replace H := Option.bind_eq_some_iff.mp H
   obtain ⟨t262, A80, H⟩ := H
   have A8 := Aside0.mk A80
   clear A80
   by_cases c9 : t262 = true
   ·subst c9
    rw [if_pos rfl] at H
    have H' := Aside0.mk H
    clear H
    have hnb10 := NB260_259.out
    have hnc10 := NB259_260.out
    obtain ⟨hcz11_0, hcz11_1, hcz11_2, hcz11_3⟩ := cells4 BK260.out
    obtain ⟨hfz11_0, hfz11_1, hfz11_2, hfz11_3⟩ := frozen4 BK260.out
    go_wp2_with (first | ((with_reducible refine gate_callee (f := 154) rfl ?_); refine goesL_ (some 9) rfl rfl Try.func154 (by kernel_rfl) rfl #[.int .i64 a1_0, .int .i64 0, .int .i64 1000] rfl (by (try simp only [List.map_toArray, List.map_cons, List.map_nil]); first | done | rfl | (simp only [List.length_drop, List.length_take]; rfl)) ?_; (with_reducible refine (impl_within.calls a1_0 0 1000 true _ A6.out).mono ?_); rintro e w' ⟨rfl, ⟨nd, rfl⟩⟩; refine ⟨_, rfl, ?_⟩; obtain ⟨hcz12_0, hcz12_1, hcz12_2⟩ := cells3 BK259.out; obtain ⟨hfz12_0, hfz12_1, hfz12_2⟩ := frozen3 BK259.out) | (go_at_call 154; (with_reducible refine (impl_within.calls a1_1 0 a0_2 true _ A8.out).mono ?_); rintro e w' ⟨rfl, ⟨nd, rfl⟩⟩))
    go_meet
    case rel => exact ⟨_, (((l1_3.length : Int) != a0_2)), (by first | rfl | (simp; done) | (simp [*]; done)), H', ⟨by first | omega | exact Nat.le_refl _⟩, ⟨bk_ BK259.out⟩, ⟨bk_ BK260.out⟩, ⟨bw_ HB.out⟩⟩
   replace c9 := Bool.eq_false_iff.mpr c9
   subst c9
   rw [if_neg (show ¬ (false = true) by decide)] at H
   have H' := Aside0.mk H
   clear H
   have hnb13 := NB260_259.out
   have hnc13 := NB259_260.out
   obtain ⟨hcz14_0, hcz14_1, hcz14_2, hcz14_3⟩ := cells4 BK260.out
   obtain ⟨hfz14_0, hfz14_1, hfz14_2, hfz14_3⟩ := frozen4 BK260.out
   go_wp2_with (first | ((with_reducible refine gate_callee (f := 154) rfl ?_); refine goesL_ (some 9) rfl rfl Try.func154 (by kernel_rfl) rfl #[.int .i64 a1_0, .int .i64 0, .int .i64 1000] rfl (by (try simp only [List.map_toArray, List.map_cons, List.map_nil]); first | done | rfl | (simp only [List.length_drop, List.length_take]; rfl)) ?_; (with_reducible refine (impl_within.calls a1_0 0 1000 true _ A6.out).mono ?_); rintro e w' ⟨rfl, ⟨nd, rfl⟩⟩; refine ⟨_, rfl, ?_⟩; obtain ⟨hcz15_0, hcz15_1, hcz15_2⟩ := cells3 BK259.out; obtain ⟨hfz15_0, hfz15_1, hfz15_2⟩ := frozen3 BK259.out) | (go_at_call 154; (with_reducible refine (impl_within.calls a1_1 0 a0_2 false _ A8.out).mono ?_); rintro e w' ⟨rfl, ⟨nd, rfl⟩⟩))
   go_meet
   case rel => exact ⟨_, (true), (by first | rfl | (simp; done) | (simp [*]; done)), H', ⟨by first | omega | exact Nat.le_refl _⟩, ⟨bk_ BK259.out⟩, ⟨bk_ BK260.out⟩, ⟨bw_ HB.out⟩⟩
  replace c7 := Bool.eq_false_iff.mpr c7
  subst c7
  rw [if_neg (show ¬ (false = true) by decide)] at H
  have H' := Aside0.mk H
  clear H
  have hnb16 := NB260_259.out
  have hnc16 := NB259_260.out
  obtain ⟨hcz17_0, hcz17_1, hcz17_2, hcz17_3⟩ := cells4 BK260.out
  obtain ⟨hfz17_0, hfz17_1, hfz17_2, hfz17_3⟩ := frozen4 BK260.out
  go_wp2_with (first | ((with_reducible refine gate_callee (f := 154) rfl ?_); refine goesL_ (some 9) rfl rfl Try.func154 (by kernel_rfl) rfl #[.int .i64 a1_0, .int .i64 0, .int .i64 1000] rfl (by (try simp only [List.map_toArray, List.map_cons, List.map_nil]); first | done | rfl | (simp only [List.length_drop, List.length_take]; rfl)) ?_; (with_reducible refine (impl_within.calls a1_0 0 1000 false _ A6.out).mono ?_); rintro e w' ⟨rfl, ⟨nd, rfl⟩⟩; refine ⟨_, rfl, ?_⟩))
  go_meet
  case rel => exact ⟨_, (true), (by first | rfl | (simp; done) | (simp [*]; done)), H', ⟨by first | omega | exact Nat.le_refl _⟩, ⟨bk_ BK259.out⟩, ⟨bk_ BK260.out⟩, ⟨bw_ HB.out⟩⟩
 case rest =>
  clear HC3
  obtain ⟨kq, x26_2, rfl, HA, HJ2, BK259, BK260, HB⟩ := hcut
  cases kq with
  | zero => exact absurd HA.out (by simp [impl_Geometry_blockOk.j0])
  | succ kj2 =>
   have H := HA.out
   clear HA
   simp only [impl_Geometry_blockOk.j0] at H
   by_cases c18 : x26_2 = true
   ·subst c18
    rw [if_pos rfl] at H
    obtain rfl := Option.some.inj H
    go_wp2
    go_ret
    exact ⟨by first | rfl | (simp [errW_none, errW_some] <;> rfl) | (simp [*, errW_none, errW_some] <;> rfl), bw_ HB.out⟩
   replace c18 := Bool.eq_false_iff.mpr c18
   subst c18
   rw [if_neg (show ¬ (false = true) by decide)] at H
   have H' := Aside0.mk H
   clear H
   have hnb19 := NB260_259.out
   have hnc19 := NB259_260.out
   obtain ⟨hcz20_0, hcz20_1, hcz20_2, hcz20_3⟩ := cells4 BK260.out
   obtain ⟨hfz20_0, hfz20_1, hfz20_2, hfz20_3⟩ := frozen4 BK260.out
   go_wp2
   go_loopg [30] kj2 (fun kq v30 w' => ∃ (x30_2 : Int), v30 = .int .i64 x30_2 ∧ Aside0 (impl_Geometry_blockOk.l0 kq l1_3 (l1_3.length : Int) x30_2 a1_0 a1_1 a1_2 l1_3 = some r) ∧ Aside0 (kq ≤ kj2) ∧ Aside0 (w'.heap[gb259]? = some (.cells #[.int .i64 a0_0, .int .i64 a0_1, .int .i64 a0_2] 42 (0, 0))) ∧ Aside0 (w'.heap[gb260]? = some (.cells #[.int .i64 a1_0, .int .i64 a1_1, .bool a1_2, (.slice A1_3 l1_3.length c1_3)] 218 (0, 0))) ∧ Aside0 (Below w.heap.size w w'))
   case atStart => exact ⟨(0), (by first | rfl | (simp; done) | (simp [*]; done)), H', ⟨Nat.le_refl _⟩, ⟨bk_ BK259.out⟩, ⟨bk_ BK260.out⟩, ⟨bw_ HB.out⟩⟩
   case round =>
    clear H'
    obtain ⟨x30_2, rfl, HA, HK2, BK259, BK260, HB⟩ := hrel
    cases gk with
    | zero => exact absurd HA.out (by simp [impl_Geometry_blockOk.l0])
    | succ k2 =>
     have H := HA.out
     clear HA
     simp only [impl_Geometry_blockOk.l0] at H
     by_cases c21 : x30_2 < (l1_3.length : Int)
     ·rw [if_pos c21] at H
      have c21b0 : decide (x30_2 < (l1_3.length : Int)) = true := decide_eq_true c21
      clear c21
      by_cases c22 : 0 ≤ x30_2
      ·rw [if_pos c22] at H
       have c22b0 : decide (0 ≤ x30_2) = true := decide_eq_true c22
       clear c22
       by_cases c23 : x30_2 < (l1_3.length : Int)
       ·rw [if_pos c23] at H
        have c23b0 : decide (x30_2 < (l1_3.length : Int)) = true := decide_eq_true c23
        clear c23
        by_cases c24 : (rdOf ByteArray.empty l1_3 x30_2).toList = ([] : List UInt8)
        ·rw [if_pos c24] at H
         have c24b0 : ((rdOf ByteArray.empty l1_3 x30_2).toList == ([] : List UInt8)) = true := beq_iff_eq.mpr c24
         have c24b1 : ((rdOf ByteArray.empty l1_3 x30_2).toList != ([] : List UInt8)) = false := bne_eq_false_iff_eq.mpr c24
         clear c24
         have H' := Aside0.mk H
         clear H
         have p263 : 0 ≤ (x30_2 : Int) := of_decide_eq_true (by first | (with_reducible assumption) | assumption)
         have q263 : x30_2 < (l1_3.length : Int) := of_decide_eq_true (by first | (with_reducible assumption) | assumption)
         obtain ⟨ad263, e263, hx263_0⟩ := Kd.at_string HR1_3.out x30_2 p263 q263
         cases e263
         replace hx263_0 := (HB.out.cell (World.block_lt_of_cell? w _ hx263_0)).trans hx263_0
         replace p263 := eq_true p263
         replace q263 := eq_true q263
         go_wp2
         go_roundg k2
         case measure => have := HJ2.out; have := HK2.out; omega
         case rel => exact ⟨(wrap64 (x30_2 + 1)), (by first | rfl | (simp; done) | (simp [*]; done)), H', ⟨by have := HJ2.out; have := HK2.out; omega⟩, ⟨bk_ BK259.out⟩, ⟨bk_ BK260.out⟩, ⟨bw_ HB.out⟩⟩
        rw [if_neg c24] at H
        have c24b0 : ((rdOf ByteArray.empty l1_3 x30_2).toList == ([] : List UInt8)) = false := beq_eq_false_iff_ne.mpr c24
        have c24b1 : ((rdOf ByteArray.empty l1_3 x30_2).toList != ([] : List UInt8)) = true := bne_iff_ne.mpr c24
        by_cases c25 : ((rdOf ByteArray.empty l1_3 x30_2).size : Int) = 91
        ·rw [if_pos c25] at H
         have c25b0 : (((rdOf ByteArray.empty l1_3 x30_2).size : Int) == 91) = true := beq_iff_eq.mpr c25
         have c25b1 : (((rdOf ByteArray.empty l1_3 x30_2).size : Int) != 91) = false := bne_eq_false_iff_eq.mpr c25
         clear c25
         by_cases c26 : x30_2 ≥ a1_1
         ·rw [if_pos c26] at H
          have c26b0 : decide (a1_1 ≤ x30_2) = true := decide_eq_true c26
          clear c26
          obtain rfl := Option.some.inj H
          have p263 : 0 ≤ (x30_2 : Int) := of_decide_eq_true (by first | (with_reducible assumption) | assumption)
          have q263 : x30_2 < (l1_3.length : Int) := of_decide_eq_true (by first | (with_reducible assumption) | assumption)
          obtain ⟨ad263, e263, hx263_0⟩ := Kd.at_string HR1_3.out x30_2 p263 q263
          cases e263
          replace hx263_0 := (HB.out.cell (World.block_lt_of_cell? w _ hx263_0)).trans hx263_0
          replace p263 := eq_true p263
          replace q263 := eq_true q263
          have hnb27 := NB260_259.out
          have hnc27 := NB259_260.out
          obtain ⟨hcz28_0, hcz28_1, hcz28_2, hcz28_3⟩ := cells4 BK260.out
          obtain ⟨hfz28_0, hfz28_1, hfz28_2, hfz28_3⟩ := frozen4 BK260.out
          go_wp2
          go_ret
          exact ⟨by first | rfl | (simp [errW_none, errW_some] <;> rfl) | (simp [*, errW_none, errW_some] <;> rfl), bw_ HB.out⟩
         rw [if_neg c26] at H
         have c26b0 : decide (a1_1 ≤ x30_2) = false := decide_eq_false c26
         clear c26
         have H' := Aside0.mk H
         clear H
         have p263 : 0 ≤ (x30_2 : Int) := of_decide_eq_true (by first | (with_reducible assumption) | assumption)
         have q263 : x30_2 < (l1_3.length : Int) := of_decide_eq_true (by first | (with_reducible assumption) | assumption)
         obtain ⟨ad263, e263, hx263_0⟩ := Kd.at_string HR1_3.out x30_2 p263 q263
         cases e263
         replace hx263_0 := (HB.out.cell (World.block_lt_of_cell? w _ hx263_0)).trans hx263_0
         replace p263 := eq_true p263
         replace q263 := eq_true q263
         have hnb29 := NB260_259.out
         have hnc29 := NB259_260.out
         obtain ⟨hcz30_0, hcz30_1, hcz30_2, hcz30_3⟩ := cells4 BK260.out
         obtain ⟨hfz30_0, hfz30_1, hfz30_2, hfz30_3⟩ := frozen4 BK260.out
         go_wp2
         go_roundg k2
         case measure => have := HJ2.out; have := HK2.out; omega
         case rel => exact ⟨(wrap64 (x30_2 + 1)), (by first | rfl | (simp; done) | (simp [*]; done)), H', ⟨by have := HJ2.out; have := HK2.out; omega⟩, ⟨bk_ BK259.out⟩, ⟨bk_ BK260.out⟩, ⟨bw_ HB.out⟩⟩
        rw [if_neg c25] at H
        have c25b0 : (((rdOf ByteArray.empty l1_3 x30_2).size : Int) == 91) = false := beq_eq_false_iff_ne.mpr c25
        have c25b1 : (((rdOf ByteArray.empty l1_3 x30_2).size : Int) != 91) = true := bne_iff_ne.mpr c25
        obtain rfl := Option.some.inj H
        have p263 : 0 ≤ (x30_2 : Int) := of_decide_eq_true (by first | (with_reducible assumption) | assumption)
        have q263 : x30_2 < (l1_3.length : Int) := of_decide_eq_true (by first | (with_reducible assumption) | assumption)
        obtain ⟨ad263, e263, hx263_0⟩ := Kd.at_string HR1_3.out x30_2 p263 q263
        cases e263
        replace hx263_0 := (HB.out.cell (World.block_lt_of_cell? w _ hx263_0)).trans hx263_0
        replace p263 := eq_true p263
        replace q263 := eq_true q263
        go_wp2
        go_ret
        exact ⟨by first | rfl | (simp [errW_none, errW_some] <;> rfl) | (simp [*, errW_none, errW_some] <;> rfl), bw_ HB.out⟩
       rw [if_neg c23] at H
       exact absurd H (by simp)
      rw [if_neg c22] at H
      exact absurd H (by simp)
     rw [if_neg c21] at H
     have c21b0 : decide (x30_2 < (l1_3.length : Int)) = false := decide_eq_false c21
     clear c21
     obtain rfl := Option.some.inj H
     go_wp2
     go_ret
     exact ⟨by first | rfl | (simp [errW_none, errW_some] <;> rfl) | (simp [*, errW_none, errW_some] <;> rfl), bw_ HB.out⟩

-- NOT PRINTED: function 211 (impl_ValidFlash_1)

/-! ### impl_Block: function 281 -/
set_option maxHeartbeats 2000000 in
set_option maxRecDepth 100000 in
theorem idx_281.calls (A0 : Option Addr) (c0 : Nat) (l0 : List S218) (g : Nat) (lb : Array Value) (p : S218 → Option Bool) (r : Int) (w : World) (hr0 : Kd.C k218 w A0 l0.length l0) (hc0 : l0.length ≤ c0) (eg : ∀ args w, (callFunc g args).run Try.prog w = .ok (.enter g args) w) (hp : ∀ (W : World) (x : S218) (b : Bool) (A3_ : Option Addr) (c3_ : Nat), Below w.heap.size w W → Kd.string.C W A3_ x.f3.length x.f3 → x.f3.length ≤ c3_ → p x = some b → Calls Try.prog g (#[.agg #[.int .i64 x.f0, .int .i64 x.f1, .bool x.f2, .slice A3_ x.f3.length c3_]] ++ lb) W fun e w' => e = .returned (.bool b) ∧ Below W.heap.size W w') (h : idxO p l0 0 = some r) :
  Calls Try.prog 281 #[.slice A0 l0.length c0, .func (.func g) #[] lb] w fun e w' => e = .returned (.int .i64 r) ∧ Below w.heap.size w w' := by
 have hu218 := Try.underlying218
 have HR0 := Aside0.mk hr0
 have hbig : l0.length ≤ 9223372036854775807 := hr0.2.1
 have HP := Aside0.mk hp
 have H' := Aside0.mk h
 clear hr0 hc0 hp h
 go_enter Try.func281, Try.ntmps281
 go_wp2
 go_loopg [5, 8] l0.length (fun gg _ s8 wr => ∃ kk : Nat, kk ≤ l0.length ∧ l0.length - kk ≤ gg ∧ s8 = .int .i64 kk ∧ Aside0 (Below w.heap.size w wr) ∧ Aside0 (idxO p (l0.drop kk) kk = some r))
 case atStart => exact ⟨0, Nat.zero_le _, by omega, rfl, ⟨Below.refl _ w⟩, H'⟩
 case round =>
  clear H'
  obtain ⟨kk, hkk, hg, rfl, HB, HA⟩ := hrel
  by_cases hlt : kk < l0.length
  ·have h0 : (0 : Int) ≤ (kk : Int) := by omega
   have h1 : (kk : Int) < (l0.length : Int) := by omega
   obtain ⟨ad, A3_, c3_, e, hx_0, hx_1, hx_2, hx_3, hl_3, hi_3⟩ := at_T218 HR0.out (kk : Int) h0 h1
   cases e
   replace hx_0 := (HB.out.cell (World.block_lt_of_cell? w _ hx_0)).trans hx_0
   replace hx_1 := (HB.out.cell (World.block_lt_of_cell? w _ hx_1)).trans hx_1
   replace hx_2 := (HB.out.cell (World.block_lt_of_cell? w _ hx_2)).trans hx_2
   replace hx_3 := (HB.out.cell (World.block_lt_of_cell? w _ hx_3)).trans hx_3
   have hd := idxO_drop p l0 kk hlt kk
   have hel : l0[kk] = rd_T218 l0 (kk : Int) := by simp [rd_T218, hlt]
   rw [hd, hel] at HA
   clear hd hel
   have HD := Aside0.mk HA.out
   clear HA
   generalize hy : rd_T218 l0 (kk : Int) = y at *
   clear hy
   obtain ⟨b, hb, H2⟩ := Option.bind_eq_some_iff.mp HD.out
   have hcall := HP.out _ y b _ _ HB.out (Kd.C_below hi_3 HB.out) hl_3 hb
   have HI_3 := Aside0.mk hi_3
   clear hi_3
   have HCL := Aside0.mk hcall
   have H3 := Aside0.mk H2
   clear H2 HD hb hcall
   (try simp only [Go.IntWalk.toNatUp] at hx_0 hx_1 hx_2 hx_3)
   have h2 : kk < l0.length := hlt
   cases b with
   | true =>
    have H4 := H3.out
    rw [if_pos rfl] at H4
    obtain rfl := Option.some.inj H4
    clear H3
    go_wp2_with (go_at_fn g; refine HCL.out.mono ?_; rintro e w' ⟨rfl, hb'⟩)
    go_ret
    exact ⟨rfl, below_step HB.out hb'⟩
   | false =>
    have H4 := H3.out
    rw [if_neg (by simp)] at H4
    have HA := Aside0.mk H4
    clear H3 H4
    go_wp2_with (go_at_fn g; refine HCL.out.mono ?_; rintro e w' ⟨rfl, hb'⟩)
    go_roundg (l0.length - (kk + 1))
    case measure => omega
    case rel => exact ⟨kk + 1, by omega, by omega, by go_num, ⟨below_step HB.out hb'⟩, HA⟩
  have : kk = l0.length := by omega
  subst this
  have h3 := HA.out
  rw [List.drop_length] at h3
  have h4 := Option.some.inj h3
  subst h4
  clear h3
  have h2 : ¬ ((l0.length : Int) < (l0.length : Int)) := by omega
  go_wp2
  go_ret
  exact ⟨rfl, HB.out⟩

/-! ### impl_Block: function 210 -/
set_option maxHeartbeats 1000000 in
set_option maxRecDepth 100000 in
theorem has_210.calls (A0 : Option Addr) (c0 : Nat) (l0 : List S218) (g : Nat) (lb : Array Value) (p : S218 → Option Bool) (r : Bool) (w : World) (hr0 : Kd.C k218 w A0 l0.length l0) (hc0 : l0.length ≤ c0) (eg : ∀ args w, (callFunc g args).run Try.prog w = .ok (.enter g args) w) (hp : ∀ (W : World) (x : S218) (b : Bool) (A3_ : Option Addr) (c3_ : Nat), Below w.heap.size w W → Kd.string.C W A3_ x.f3.length x.f3 → x.f3.length ≤ c3_ → p x = some b → Calls Try.prog g (#[.agg #[.int .i64 x.f0, .int .i64 x.f1, .bool x.f2, .slice A3_ x.f3.length c3_]] ++ lb) W fun e w' => e = .returned (.bool b) ∧ Below W.heap.size W w') (h : anyO p l0 = some r) :
  Calls Try.prog 210 #[.slice A0 l0.length c0, .func (.func g) #[] lb] w fun e w' => e = .returned (.bool r) ∧ Below w.heap.size w w' := by
 obtain ⟨j, hj, hr⟩ := anyO_idx p l0 0 r (by omega) h
 have hcall := idx_281.calls A0 c0 l0 g lb p j w hr0 hc0 eg hp hj
 have HJ := Aside0.mk hr
 clear hr0 hc0 eg hp h hj hr
 go_enter Try.func210, Try.ntmps210
 go_wp2_with (go_at_call 281; refine hcall.mono ?_; rintro e w' ⟨rfl, hb⟩)
 go_ret
 exact ⟨by rw [← HJ.out]; rfl, hb⟩

/-! ### hof_210_211: slices.ContainsFunc[[]loop.example/g00905/impl.Block,loop.example/g00905/impl.Block] at loop.example/g00905/impl.ValidFlash$1 -/
def hof_210_211.p (k : Nat) (f0 f1 f2 : Int) (x : S218) : Option Bool := (impl_Geometry_blockOk.f k f0 f1 f2 x.f0 x.f1 x.f2 x.f3).bind fun t => some (!t)
def hof_210_211.f (k : Nat) (l0 : List S218) (f0 f1 f2 : Int) (l3 : List S218) (f4 f5 : Int) (f6 : Bool) (f7 : Int) : Option Bool := anyO (hof_210_211.p k f0 f1 f2) l0
theorem hof_210_211.mono : ∀ a0 a1 a2 a3 a4 a5 a6 a7 a8 k, LeO (hof_210_211.f k a0 a1 a2 a3 a4 a5 a6 a7 a8) (hof_210_211.f (k + 1) a0 a1 a2 a3 a4 a5 a6 a7 a8) := by
 intro a0 a1 a2 a3 a4 a5 a6 a7 a8 k
 unfold hof_210_211.f
 exact anyO_mono (fun x => LeO.bind (impl_Geometry_blockOk.mono _ _ _ _ _ _ _ k) (fun _ => LeO.refl _)) _
set_option maxHeartbeats 1000000 in
theorem hof_210_211.lit (k : Nat) (x : S218) (A3_ : Option Addr) (c3_ : Nat) (gb : Nat) (f0 f1 f2 : Int) (v3 : Value) (l3 : List S218) (f4 f5 : Int) (f6 : Bool) (f7 : Int) (b : Bool) (W : World) (hr : Kd.string.C W A3_ x.f3.length x.f3) (hc : x.f3.length ≤ c3_) (hb : W.heap[gb]? = some (.cells #[.int .i64 f0, .int .i64 f1, .int .i64 f2, v3, .int .i64 f4, .int .i64 f5, .bool f6, .int .i64 f7] 45 (0, 0))) (h : hof_210_211.p k f0 f1 f2 x = some b) :
  Calls Try.prog 211 #[.agg #[.int .i64 x.f0, .int .i64 x.f1, .bool x.f2, .slice A3_ x.f3.length c3_], .pointer (some ⟨gb, 0, none⟩)] W fun e w' => e = .returned (.bool b) ∧ Below W.heap.size W w' := by
 have hu218 := Try.underlying218
 have hu45 := Try.underlying45
 obtain ⟨b1, hb1, e1⟩ := Option.bind_eq_some_iff.mp h
 obtain rfl := Option.some.inj e1
 have h0 : W.cell? ⟨gb, 0, none⟩ = some (.int .i64 f0) := (blk_cell hb 0).trans rfl
 have h1 : W.cell? ⟨gb, 1, none⟩ = some (.int .i64 f1) := (blk_cell hb 1).trans rfl
 have h2 : W.cell? ⟨gb, 2, none⟩ = some (.int .i64 f2) := (blk_cell hb 2).trans rfl
 have hlt : gb < W.heap.size := blk_lt hb
 have hne : gb ≠ W.heap.size := Nat.ne_of_lt hlt
 have HR := Aside0.mk hr
 have HC := Aside0.mk hc
 have H1 := Aside0.mk hb1
 have HW := Aside0.mk hb
 clear hr hc h e1 hb1 hb
 go_enter Try.func211, Try.ntmps211
 go_wp2_with (go_at_call 212; refine (impl_Geometry_blockOk.calls k f0 f1 f2 x.f0 x.f1 x.f2 A3_ c3_ x.f3 b1 _ (Kd.C_alloc HR.out _) HC.out H1.out).mono ?_; rintro e w' ⟨rfl, hb'⟩)
 go_ret
 exact ⟨rfl, below_step ((Below.refl _ _).alloc (Nat.le_refl _) _) hb'⟩
theorem hof_210_211.calls (k : Nat) (A0 : Option Addr) (c0 : Nat) (l0 : List S218) (gb : Nat) (f0 f1 f2 : Int) (v3 : Value) (l3 : List S218) (f4 f5 : Int) (f6 : Bool) (f7 : Int) (r : Bool) (w : World) (hr0 : Kd.C k218 w A0 l0.length l0) (hc0 : l0.length ≤ c0) (hb : w.heap[gb]? = some (.cells #[.int .i64 f0, .int .i64 f1, .int .i64 f2, v3, .int .i64 f4, .int .i64 f5, .bool f6, .int .i64 f7] 45 (0, 0))) (h : hof_210_211.f k l0 f0 f1 f2 l3 f4 f5 f6 f7 = some r) :
  Calls Try.prog 210 #[.slice A0 l0.length c0, .func (.func 211) #[] #[.pointer (some ⟨gb, 0, none⟩)]] w fun e w' => e = .returned (.bool r) ∧ Below w.heap.size w w' :=
 has_210.calls A0 c0 l0 211 _ (hof_210_211.p k f0 f1 f2) r w hr0 hc0 (enters_of Try.func211 (by kernel_rfl) rfl) (fun W x b A3_ c3_ hB hr hc hp => hof_210_211.lit k x A3_ c3_ gb f0 f1 f2 v3 l3 f4 f5 f6 f7 b W hr hc (blk_below hb hB) hp) h

end Go.Proofs.Ytokonpkecmnneaa.QFnExactRoomInx
