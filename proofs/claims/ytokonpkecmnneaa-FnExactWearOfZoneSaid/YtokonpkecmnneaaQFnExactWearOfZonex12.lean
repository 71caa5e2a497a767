-- made by mp, a turned copy of the print: proofs of this session's
import Derived.Test.YtokonpkecmnneaaQFnExactWearOfZonex0
import Derived.Test.YtokonpkecmnneaaQFnExactWearOfZonex11
namespace Go.Proofs.Ytokonpkecmnneaa.QFnExactWearOfZonex
open Go.RowKit Go.Proofs.YtokonpkecmnneaaW.PrintWords Go.Proofs.YtokonpkecmnneaaW.PrintLast Go.Proofs.YtokonpkecmnneaaW.PrintMore
open Go.Proofs.YtokonpkecmnneaaHw Go.Proofs.YtokonpkecmnneaaHo Go.Proofs.YtokonpkecmnneaaHm
attribute [local go_sem] binOp_leq_hw binOp_geq_hw binOp_gtr_hw
attribute [local go_sem] max2_int min2_int max_two min_two max_three min_three max_four min_four   -- for this text's walks alone
set_option linter.unusedVariables false
set_option linter.unusedSimpArgs false

/-! ### impl_Block: function 281 -/
set_option maxHeartbeats 2000000 in
set_option maxRecDepth 100000 in
theorem idx_281.calls (A0 : Option Addr) (c0 : Nat) (l0 : List S218) (g : Nat) (lb : Array Value) (p : S218 → Option Bool) (r : Int) (w : World) (hr0 : Kd.C k218 w A0 l0.length l0) (hc0 : l0.length ≤ c0) (eg : ∀ args w, (callFunc g args).run Try.prog w = .ok (.enter g args) w) (hp : ∀ (W : World) (x : S218) (b : Bool) (A3_ : Option Addr) (c3_ : Nat), Below w.heap.size w W → Kd.string.C W A3_ x.f3.length x.f3 → x.f3.length ≤ c3_ → p x = some b → Calls Try.prog g (#[.agg #[.int .i64 x.f0, .int .i64 x.f1, .bool x.f2, .slice A3_ x.f3.length c3_]] ++ lb) W fun e w' => e = .returned (.bool b) ∧ Below W.heap.size W w') (h : idxO p l0 0 = some r) :
  Calls Try.prog 281 #[.slice A0 l0.length c0, .func (.func g) #[] lb] w fun e w' => e = .returned (.int .i64 r) ∧ Below w.heap.size w w' := by
 have hu218 := Try.underlying218
 have HR0 := Aside0.mk hr0
 have hbig : l0.length ≤ 9223372036854775807 := hr0.2.1
 have HP := Aside0.mk hp
 have H' := Aside0.mk h
 clear hr0 hc0 hp h
 go_enter Try.func281, Try.ntmps281
 go_wp2
 go_loopg [5, 8] l0.length (fun gg _ s8 wr => ∃ kk : Nat, kk ≤ l0.length ∧ l0.length - kk ≤ gg ∧ s8 = .int .i64 kk ∧ Aside0 (Below w.heap.size w wr) ∧ Aside0 (idxO p (l0.drop kk) kk = some r))
 case atStart => exact ⟨0, Nat.zero_le _, by omega, rfl, ⟨Below.refl _ w⟩, H'⟩
 case round =>
  clear H'
  obtain ⟨kk, hkk, hg, rfl, HB, HA⟩ := hrel
  by_cases hlt : kk < l0.length
  ·have h0 : (0 : Int) ≤ (kk : Int) := by omega
   have h1 : (kk : Int) < (l0.length : Int) := by omega
   obtain ⟨ad, A3_, c3_, e, hx_0, hx_1, hx_2, hx_3, hl_3, hi_3⟩ := at_T218 HR0.out (kk : Int) h0 h1
   cases e
   replace hx_0 := (HB.out.cell (World.block_lt_of_cell? w _ hx_0)).trans hx_0
   replace hx_1 := (HB.out.cell (World.block_lt_of_cell? w _ hx_1)).trans hx_1
   replace hx_2 := (HB.out.cell (World.block_lt_of_cell? w _ hx_2)).trans hx_2
   replace hx_3 := (HB.out.cell (World.block_lt_of_cell? w _ hx_3)).trans hx_3
   have hd := idxO_drop p l0 kk hlt kk
   have hel : l0[kk] = rd_T218 l0 (kk : Int) := by simp [rd_T218, hlt]
   rw [hd, hel] at HA
   clear hd hel
   have HD := Aside0.mk HA.out
   clear HA
   generalize hy : rd_T218 l0 (kk : Int) = y at *
   clear hy
   obtain ⟨b, hb, H2⟩ := Option.bind_eq_some_iff.mp HD.out
   have hcall := HP.out _ y b _ _ HB.out (Kd.C_below hi_3 HB.out) hl_3 hb
   have HI_3 := Aside0.mk hi_3
   clear hi_3
   have HCL := Aside0.mk hcall
   have H3 := Aside0.mk H2
   clear H2 HD hb hcall
   (try simp only [Go.IntWalk.toNatUp] at hx_0 hx_1 hx_2 hx_3)
   have h2 : kk < l0.length := hlt
   cases b with
   | true =>
    have H4 := H3.out
    rw [if_pos rfl] at H4
    obtain rfl := Option.some.inj H4
    clear H3
    go_wp2_with (go_at_fn g; refine HCL.out.mono ?_; rintro e w' ⟨rfl, hb'⟩)
    go_ret
    exact ⟨rfl, below_step HB.out hb'⟩
   | false =>
    have H4 := H3.out
    rw [if_neg (by simp)] at H4
    have HA := Aside0.mk H4
    clear H3 H4
    go_wp2_with (go_at_fn g; refine HCL.out.mono ?_; rintro e w' ⟨rfl, hb'⟩)
    go_roundg (l0.length - (kk + 1))
    case measure => omega
    case rel => exact ⟨kk + 1, by omega, by omega, by go_num, ⟨below_step HB.out hb'⟩, HA⟩
  have : kk = l0.length := by omega
  subst this
  have h3 := HA.out
  rw [List.drop_length] at h3
  have h4 := Option.some.inj h3
  subst h4
  clear h3
  have h2 : ¬ ((l0.length : Int) < (l0.length : Int)) := by omega
  go_wp2
  go_ret
  exact ⟨rfl, HB.out⟩

/-! ### impl_Block: function 210 -/
set_option maxHeartbeats 1000000 in
set_option maxRecDepth 100000 in
theorem has_210.calls (A0 : Option Addr) (c0 : Nat) (l0 : List S218) (g : Nat) (lb : Array Value) (p : S218 → Option Bool) (r : Bool) (w : World) (hr0 : Kd.C k218 w A0 l0.length l0) (hc0 : l0.length ≤ c0) (eg : ∀ args w, (callFunc g args).run Try.prog w = .ok (.enter g args) w) (hp : ∀ (W : World) (x : S218) (b : Bool) (A3_ : Option Addr) (c3_ : Nat), Below w.heap.size w W → Kd.string.C W A3_ x.f3.length x.f3 → x.f3.length ≤ c3_ → p x = some b → Calls Try.prog g (#[.agg #[.int .i64 x.f0, .int .i64 x.f1, .bool x.f2, .slice A3_ x.f3.length c3_]] ++ lb) W fun e w' => e = .returned (.bool b) ∧ Below W.heap.size W w') (h : anyO p l0 = some r) :
  Calls Try.prog 210 #[.slice A0 l0.length c0, .func (.func g) #[] lb] w fun e w' => e = .returned (.bool r) ∧ Below w.heap.size w w' := by
 obtain ⟨j, hj, hr⟩ := anyO_idx p l0 0 r (by omega) h
 have hcall := idx_281.calls A0 c0 l0 g lb p j w hr0 hc0 eg hp hj
 have HJ := Aside0.mk hr
 clear hr0 hc0 eg hp h hj hr
 go_enter Try.func210, Try.ntmps210
 go_wp2_with (go_at_call 281; refine hcall.mono ?_; rintro e w' ⟨rfl, hb⟩)
 go_ret
 exact ⟨by rw [← HJ.out]; rfl, hb⟩

/-! ### hof_210_211: slices.ContainsFunc[[]loop.example/g00905/impl.Block,loop.example/g00905/impl.Block] at loop.example/g00905/impl.ValidFlash$1 -/
def hof_210_211.p (k : Nat) (f0 f1 f2 : Int) (x : S218) : Option Bool := (impl_Geometry_blockOk.f k f0 f1 f2 x.f0 x.f1 x.f2 x.f3).bind fun t => some (!t)
def hof_210_211.f (k : Nat) (l0 : List S218) (f0 f1 f2 : Int) (l3 : List S218) (f4 f5 : Int) (f6 : Bool) (f7 : Int) : Option Bool := anyO (hof_210_211.p k f0 f1 f2) l0
theorem hof_210_211.mono : ∀ a0 a1 a2 a3 a4 a5 a6 a7 a8 k, LeO (hof_210_211.f k a0 a1 a2 a3 a4 a5 a6 a7 a8) (hof_210_211.f (k + 1) a0 a1 a2 a3 a4 a5 a6 a7 a8) := by
 intro a0 a1 a2 a3 a4 a5 a6 a7 a8 k
 unfold hof_210_211.f
 exact anyO_mono (fun x => LeO.bind (impl_Geometry_blockOk.mono _ _ _ _ _ _ _ k) (fun _ => LeO.refl _)) _
set_option maxHeartbeats 1000000 in
theorem hof_210_211.lit (k : Nat) (x : S218) (A3_ : Option Addr) (c3_ : Nat) (gb : Nat) (f0 f1 f2 : Int) (v3 : Value) (l3 : List S218) (f4 f5 : Int) (f6 : Bool) (f7 : Int) (b : Bool) (W : World) (hr : Kd.string.C W A3_ x.f3.length x.f3) (hc : x.f3.length ≤ c3_) (hb : W.heap[gb]? = some (.cells #[.int .i64 f0, .int .i64 f1, .int .i64 f2, v3, .int .i64 f4, .int .i64 f5, .bool f6, .int .i64 f7] 45 (0, 0))) (h : hof_210_211.p k f0 f1 f2 x = some b) :
  Calls Try.prog 211 #[.agg #[.int .i64 x.f0, .int .i64 x.f1, .bool x.f2, .slice A3_ x.f3.length c3_], .pointer (some ⟨gb, 0, none⟩)] W fun e w' => e = .returned (.bool b) ∧ Below W.heap.size W w' := by
 have hu218 := Try.underlying218
 have hu45 := Try.underlying45
 obtain ⟨b1, hb1, e1⟩ := Option.bind_eq_some_iff.mp h
 obtain rfl := Option.some.inj e1
 have h0 : W.cell? ⟨gb, 0, none⟩ = some (.int .i64 f0) := (blk_cell hb 0).trans rfl
 have h1 : W.cell? ⟨gb, 1, none⟩ = some (.int .i64 f1) := (blk_cell hb 1).trans rfl
 have h2 : W.cell? ⟨gb, 2, none⟩ = some (.int .i64 f2) := (blk_cell hb 2).trans rfl
 have hlt : gb < W.heap.size := blk_lt hb
 have hne : gb ≠ W.heap.size := Nat.ne_of_lt hlt
 have HR := Aside0.mk hr
 have HC := Aside0.mk hc
 have H1 := Aside0.mk hb1
 have HW := Aside0.mk hb
 clear hr hc h e1 hb1 hb
 go_enter Try.func211, Try.ntmps211
 go_wp2_with (go_at_call 212; refine (impl_Geometry_blockOk.calls k f0 f1 f2 x.f0 x.f1 x.f2 A3_ c3_ x.f3 b1 _ (Kd.C_alloc HR.out _) HC.out H1.out).mono ?_; rintro e w' ⟨rfl, hb'⟩)
 go_ret
 exact ⟨rfl, below_step ((Below.refl _ _).alloc (Nat.le_refl _) _) hb'⟩
theorem hof_210_211.calls (k : Nat) (A0 : Option Addr) (c0 : Nat) (l0 : List S218) (gb : Nat) (f0 f1 f2 : Int) (v3 : Value) (l3 : List S218) (f4 f5 : Int) (f6 : Bool) (f7 : Int) (r : Bool) (w : World) (hr0 : Kd.C k218 w A0 l0.length l0) (hc0 : l0.length ≤ c0) (hb : w.heap[gb]? = some (.cells #[.int .i64 f0, .int .i64 f1, .int .i64 f2, v3, .int .i64 f4, .int .i64 f5, .bool f6, .int .i64 f7] 45 (0, 0))) (h : hof_210_211.f k l0 f0 f1 f2 l3 f4 f5 f6 f7 = some r) :
  Calls Try.prog 210 #[.slice A0 l0.length c0, .func (.func 211) #[] #[.pointer (some ⟨gb, 0, none⟩)]] w fun e w' => e = .returned (.bool r) ∧ Below w.heap.size w w' :=
 has_210.calls A0 c0 l0 211 _ (hof_210_211.p k f0 f1 f2) r w hr0 hc0 (enters_of Try.func211 (by kernel_rfl) rfl) (fun W x b A3_ c3_ hB hr hc hp => hof_210_211.lit k x A3_ c3_ gb f0 f1 f2 v3 l3 f4 f5 f6 f7 b W hr hc (blk_below hb hB) hp) h

end Go.Proofs.Ytokonpkecmnneaa.QFnExactWearOfZonex
