/- What the law's own functions answer: sizes, copies and comparisons. Conditions: none. -/
import Derived.Test.YtbdkjkedjldheaaTvS
namespace Go.Proofs.YtbdkjkedjldheaaTv.Ytbdkjkedjldheaa
set_option linter.unusedVariables false
set_option linter.unusedSimpArgs false
set_option maxRecDepth 10000
open Go Go.Proofs.YtbdkjkedjldheaaTv Go.Proofs
theorem Geometry_iff (x y : Geometry) : (x.Dies == y.Dies && (x.Blocks == y.Blocks && (x.Pages == y.Pages && true))) = true ↔ x = y := by
  simp only [Bool.and_eq_true, beq_iff_eq, ba_eq, and_true]
  exact ⟨fun h => by cases x; cases y; simpa using h, fun h => by subst h; simp⟩
theorem TableRef_iff (x y : TableRef) : (x.Id == y.Id && (x.Level == y.Level && (x.Zone == y.Zone && (x.Page == y.Page && (x.Pages == y.Pages && (x.Low.toList == y.Low.toList && (x.High.toList == y.High.toList && (x.First == y.First && (x.Last == y.Last && (x.Records == y.Records && true)))))))))) = true ↔ x = y := by
  simp only [Bool.and_eq_true, beq_iff_eq, ba_eq, and_true]
  exact ⟨fun h => by cases x; cases y; simpa using h, fun h => by subst h; simp⟩
theorem Record_iff (x y : Record) : (x.Key.toList == y.Key.toList && (x.Seq == y.Seq && (x.Kind == y.Kind && (x.Value.toList == y.Value.toList && (x.End.toList == y.End.toList && true))))) = true ↔ x = y := by
  simp only [Bool.and_eq_true, beq_iff_eq, ba_eq, and_true]
  exact ⟨fun h => by cases x; cases y; simpa using h, fun h => by subst h; simp⟩
theorem eqStringS (x y : List ByteArray) (hx : smallL 1048576 x) : ∃ b, Den E 68 [Arg.t false x, Arg.t false y] (.bool b) ∧ (b = true ↔ x = y) := by
  have hx1 := hx.1
  refine den_ex (den_of rfl (fnOf_eq Try.func68 (by decide)) rfl rfl rfl ?_)
  conv => arg 1; ext k m; whnf
  refine Evs.cond (fun h => ?_) (fun h => ?_)
  · conv => arg 1; ext k m; whnf
    exact Evs.is ⟨false, rfl, ff_iff (len_ne h)⟩
  have hl := len_eq h
  conv => arg 1; ext k m; whnf
  refine Evs.loop (fun i : Nat => ⟨[Arg.t false x, Arg.t false y, .undef, .undef, .bool false, .int .i64 i] ++ replT 20, replL 26, []⟩) (fun i => i ≤ x.length ∧ ∀ j, j < i → x.getD j Enc.dflt = y.getD j Enc.dflt) (fun i => x.length - i) 0 ⟨Nat.zero_le _, fun j hj => absurd hj (Nat.not_lt_zero _)⟩ (fun K => rfl) (fun i hi ih => ?_)
  obtain ⟨hi1, hi2⟩ := hi
  conv => arg 1; ext k m; whnf
  refine Evs.cond (fun h0 => ?_) (fun h0 => ?_)
  · have h1 : i < x.length := by have := lt_tt h0; omega
    conv => arg 1; ext k m; whnf
    refine Evs.pos ⟨by omega, by omega⟩ ?_
    conv => arg 1; ext k m; whnf
    refine Evs.pos ⟨by omega, by omega⟩ ?_
    conv => arg 1; ext k m; whnf
    refine Evs.cond (fun h => ?_) (fun h => ?_)
    · conv => arg 1; ext k m; whnf
      exact Evs.is ⟨false, rfl, ff_iff fun e => (str_ne h) (by rw [e])⟩
    have e : x.getD i Enc.dflt = y.getD i Enc.dflt := str_eq h
    conv => arg 1; ext k m; whnf
    refine ih (i + 1) _ ⟨h1, upto_next hi2 e⟩ (by omega) (fun K => ?_)
    rw [← wrap_inc (by omega)]
    rfl
  · have h1 : i = x.length := by have := lt_ff h0; omega
    conv => arg 1; ext k m; whnf
    subst h1
    exact Evs.is ⟨true, rfl, tt_iff (list_eq_getD hl hi2)⟩
theorem eqBlock (x y : Block) (hx : Enc.small 1048576 x) : ∃ b, Den E 67 [Arg.t false x, Arg.t false y] (.bool b) ∧ (b = true ↔ x = y) := by
  refine den_ex (den_of rfl (fnOf_eq Try.func67 (by decide)) rfl rfl rfl ?_)
  conv => arg 1; ext k m; whnf
  refine Evs.cond (fun h => ?_) (fun h => ?_)
  · conv => arg 1; ext k m; whnf
    exact Evs.is ⟨false, rfl, ff_iff fun e => (int_ne h) (by rw [e])⟩
  have e0 : x.Erases = y.Erases := int_eq h
  conv => arg 1; ext k m; whnf
  refine Evs.cond (fun h => ?_) (fun h => ?_)
  · conv => arg 1; ext k m; whnf
    exact Evs.is ⟨false, rfl, ff_iff fun e => (int_ne h) (by rw [e])⟩
  have e1 : x.Next = y.Next := int_eq h
  conv => arg 1; ext k m; whnf
  refine Evs.cond (fun h => ?_) (fun h => ?_)
  · conv => arg 1; ext k m; whnf
    exact Evs.is ⟨false, rfl, ff_iff fun e => (bool_ne h) (by rw [e])⟩
  have e2 : x.Bad = y.Bad := bool_eq h
  conv => arg 1; ext k m; whnf
  obtain ⟨b3, hd3, hb3⟩ := eqStringS x.Pages y.Pages hx
  refine Evs.bnd hd3 (args2 false false _ _) ?_
  conv => arg 1; ext k m; whnf
  refine Evs.cond (fun h => ?_) (fun h => ?_)
  · conv => arg 1; ext k m; whnf
    exact Evs.is ⟨false, rfl, ff_iff fun e => (not_ne h hb3) (by rw [e])⟩
  have e3 : x.Pages = y.Pages := not_eq h hb3
  conv => arg 1; ext k m; whnf
  exact Evs.is ⟨true, rfl, tt_iff (by cases x; cases y; simp only at e0 e1 e2 e3; subst e0 e1 e2 e3; rfl)⟩
theorem eqBlockS (x y : List Block) (hx : smallL 1048576 x) : ∃ b, Den E 60 [Arg.t false x, Arg.t false y] (.bool b) ∧ (b = true ↔ x = y) := by
  have hx1 := hx.1
  refine den_ex (den_of rfl (fnOf_eq Try.func60 (by decide)) rfl rfl rfl ?_)
  conv => arg 1; ext k m; whnf
  refine Evs.cond (fun h => ?_) (fun h => ?_)
  · conv => arg 1; ext k m; whnf
    exact Evs.is ⟨false, rfl, ff_iff (len_ne h)⟩
  have hl := len_eq h
  conv => arg 1; ext k m; whnf
  refine Evs.loop (fun i : Nat => ⟨[Arg.t false x, Arg.t false y, .undef, .undef, .bool false, .int .i64 i] ++ replT 21, replL 27, []⟩) (fun i => i ≤ x.length ∧ ∀ j, j < i → x.getD j Enc.dflt = y.getD j Enc.dflt) (fun i => x.length - i) 0 ⟨Nat.zero_le _, fun j hj => absurd hj (Nat.not_lt_zero _)⟩ (fun K => rfl) (fun i hi ih => ?_)
  obtain ⟨hi1, hi2⟩ := hi
  conv => arg 1; ext k m; whnf
  refine Evs.cond (fun h0 => ?_) (fun h0 => ?_)
  · have h1 : i < x.length := by have := lt_tt h0; omega
    conv => arg 1; ext k m; whnf
    refine Evs.pos ⟨by omega, by omega⟩ ?_
    conv => arg 1; ext k m; whnf
    refine Evs.pos ⟨by omega, by omega⟩ ?_
    conv => arg 1; ext k m; whnf
    obtain ⟨b, hd, hb⟩ := eqBlock (x.getD i Enc.dflt) (y.getD i Enc.dflt) (smallL_get hx h1)
    refine Evs.bnd hd (args2 false false _ _) ?_
    conv => arg 1; ext k m; whnf
    refine Evs.cond (fun h => ?_) (fun h => ?_)
    · conv => arg 1; ext k m; whnf
      exact Evs.is ⟨false, rfl, ff_iff fun e => (not_ne h hb) (by rw [e])⟩
    have e : x.getD i Enc.dflt = y.getD i Enc.dflt := not_eq h hb
    conv => arg 1; ext k m; whnf
    refine ih (i + 1) _ ⟨h1, upto_next hi2 e⟩ (by omega) (fun K => ?_)
    rw [← wrap_inc (by omega)]
    rfl
  · have h1 : i = x.length := by have := lt_ff h0; omega
    conv => arg 1; ext k m; whnf
    subst h1
    exact Evs.is ⟨true, rfl, tt_iff (list_eq_getD hl hi2)⟩
theorem eqGeometry (x y : Geometry) (hx : Enc.small 1048576 x) : ∃ b, Den E 59 [Arg.t false x, Arg.t false y] (.bool b) ∧ (b = true ↔ x = y) := by
  refine den_ex (den_of rfl (fnOf_eq Try.func59 (by decide)) rfl rfl rfl ?_)
  conv => arg 1; ext k m; whnf
  refine Evs.cond (fun h => ?_) (fun h => ?_)
  · conv => arg 1; ext k m; whnf
    exact Evs.is ⟨false, rfl, ff_iff fun e => (int_ne h) (by rw [e])⟩
  have e0 : x.Dies = y.Dies := int_eq h
  conv => arg 1; ext k m; whnf
  refine Evs.cond (fun h => ?_) (fun h => ?_)
  · conv => arg 1; ext k m; whnf
    exact Evs.is ⟨false, rfl, ff_iff fun e => (int_ne h) (by rw [e])⟩
  have e1 : x.Blocks = y.Blocks := int_eq h
  conv => arg 1; ext k m; whnf
  refine Evs.cond (fun h => ?_) (fun h => ?_)
  · conv => arg 1; ext k m; whnf
    exact Evs.is ⟨false, rfl, ff_iff fun e => (int_ne h) (by rw [e])⟩
  have e2 : x.Pages = y.Pages := int_eq h
  conv => arg 1; ext k m; whnf
  exact Evs.is ⟨true, rfl, tt_iff (by cases x; cases y; simp only at e0 e1 e2; subst e0 e1 e2; rfl)⟩
theorem eqFlash (x y : Flash) (hx : Enc.small 1048576 x) : ∃ b, Den E 44 [Arg.t false x, Arg.t false y] (.bool b) ∧ (b = true ↔ x = y) := by
  refine den_ex (den_of rfl (fnOf_eq Try.func44 (by decide)) rfl rfl rfl ?_)
  conv => arg 1; ext k m; whnf
  obtain ⟨b0, hd0, hb0⟩ := eqGeometry x.Geo y.Geo trivial
  refine Evs.bnd hd0 (args2 false false _ _) ?_
  conv => arg 1; ext k m; whnf
  refine Evs.cond (fun h => ?_) (fun h => ?_)
  · conv => arg 1; ext k m; whnf
    exact Evs.is ⟨false, rfl, ff_iff fun e => (not_ne h hb0) (by rw [e])⟩
  have e0 : x.Geo = y.Geo := not_eq h hb0
  conv => arg 1; ext k m; whnf
  obtain ⟨b1, hd1, hb1⟩ := eqBlockS x.Blocks y.Blocks hx
  refine Evs.bnd hd1 (args2 false false _ _) ?_
  conv => arg 1; ext k m; whnf
  refine Evs.cond (fun h => ?_) (fun h => ?_)
  · conv => arg 1; ext k m; whnf
    exact Evs.is ⟨false, rfl, ff_iff fun e => (not_ne h hb1) (by rw [e])⟩
  have e1 : x.Blocks = y.Blocks := not_eq h hb1
  conv => arg 1; ext k m; whnf
  refine Evs.cond (fun h => ?_) (fun h => ?_)
  · conv => arg 1; ext k m; whnf
    exact Evs.is ⟨false, rfl, ff_iff fun e => (int_ne h) (by rw [e])⟩
  have e2 : x.Fuse = y.Fuse := int_eq h
  conv => arg 1; ext k m; whnf
  refine Evs.cond (fun h => ?_) (fun h => ?_)
  · conv => arg 1; ext k m; whnf
    exact Evs.is ⟨false, rfl, ff_iff fun e => (int_ne h) (by rw [e])⟩
  have e3 : x.Keep = y.Keep := int_eq h
  conv => arg 1; ext k m; whnf
  refine Evs.cond (fun h => ?_) (fun h => ?_)
  · conv => arg 1; ext k m; whnf
    exact Evs.is ⟨false, rfl, ff_iff fun e => (bool_ne h) (by rw [e])⟩
  have e4 : x.Off = y.Off := bool_eq h
  conv => arg 1; ext k m; whnf
  refine Evs.cond (fun h => ?_) (fun h => ?_)
  · conv => arg 1; ext k m; whnf
    exact Evs.is ⟨false, rfl, ff_iff fun e => (int_ne h) (by rw [e])⟩
  have e5 : x.Ops = y.Ops := int_eq h
  conv => arg 1; ext k m; whnf
  exact Evs.is ⟨true, rfl, tt_iff (by cases x; cases y; simp only at e0 e1 e2 e3 e4 e5; subst e0 e1 e2 e3 e4 e5; rfl)⟩
theorem eqInt64S (x y : List Int) (hx : smallL 1048576 x) : ∃ b, Den E 28 [Arg.t false x, Arg.t false y] (.bool b) ∧ (b = true ↔ x = y) := by
  have hx1 := hx.1
  refine den_ex (den_of rfl (fnOf_eq Try.func28 (by decide)) rfl rfl rfl ?_)
  conv => arg 1; ext k m; whnf
  refine Evs.cond (fun h => ?_) (fun h => ?_)
  · conv => arg 1; ext k m; whnf
    exact Evs.is ⟨false, rfl, ff_iff (len_ne h)⟩
  have hl := len_eq h
  conv => arg 1; ext k m; whnf
  refine Evs.loop (fun i : Nat => ⟨[Arg.t false x, Arg.t false y, .undef, .undef, .bool false, .int .i64 i] ++ replT 20, replL 26, []⟩) (fun i => i ≤ x.length ∧ ∀ j, j < i → x.getD j Enc.dflt = y.getD j Enc.dflt) (fun i => x.length - i) 0 ⟨Nat.zero_le _, fun j hj => absurd hj (Nat.not_lt_zero _)⟩ (fun K => rfl) (fun i hi ih => ?_)
  obtain ⟨hi1, hi2⟩ := hi
  conv => arg 1; ext k m; whnf
  refine Evs.cond (fun h0 => ?_) (fun h0 => ?_)
  · have h1 : i < x.length := by have := lt_tt h0; omega
    conv => arg 1; ext k m; whnf
    refine Evs.pos ⟨by omega, by omega⟩ ?_
    conv => arg 1; ext k m; whnf
    refine Evs.pos ⟨by omega, by omega⟩ ?_
    conv => arg 1; ext k m; whnf
    refine Evs.cond (fun h => ?_) (fun h => ?_)
    · conv => arg 1; ext k m; whnf
      exact Evs.is ⟨false, rfl, ff_iff fun e => (int_ne h) (by rw [e])⟩
    have e : x.getD i Enc.dflt = y.getD i Enc.dflt := int_eq h
    conv => arg 1; ext k m; whnf
    refine ih (i + 1) _ ⟨h1, upto_next hi2 e⟩ (by omega) (fun K => ?_)
    rw [← wrap_inc (by omega)]
    rfl
  · have h1 : i = x.length := by have := lt_ff h0; omega
    conv => arg 1; ext k m; whnf
    subst h1
    exact Evs.is ⟨true, rfl, tt_iff (list_eq_getD hl hi2)⟩
theorem eqZone (x y : Zone) (hx : Enc.small 1048576 x) : ∃ b, Den E 61 [Arg.t false x, Arg.t false y] (.bool b) ∧ (b = true ↔ x = y) := by
  refine den_ex (den_of rfl (fnOf_eq Try.func61 (by decide)) rfl rfl rfl ?_)
  conv => arg 1; ext k m; whnf
  refine Evs.cond (fun h => ?_) (fun h => ?_)
  · conv => arg 1; ext k m; whnf
    exact Evs.is ⟨false, rfl, ff_iff fun e => (int_ne h) (by rw [e])⟩
  have e0 : x.State = y.State := int_eq h
  conv => arg 1; ext k m; whnf
  obtain ⟨b1, hd1, hb1⟩ := eqInt64S x.Blocks y.Blocks hx.1
  refine Evs.bnd hd1 (args2 false false _ _) ?_
  conv => arg 1; ext k m; whnf
  refine Evs.cond (fun h => ?_) (fun h => ?_)
  · conv => arg 1; ext k m; whnf
    exact Evs.is ⟨false, rfl, ff_iff fun e => (not_ne h hb1) (by rw [e])⟩
  have e1 : x.Blocks = y.Blocks := not_eq h hb1
  conv => arg 1; ext k m; whnf
  refine Evs.cond (fun h => ?_) (fun h => ?_)
  · conv => arg 1; ext k m; whnf
    exact Evs.is ⟨false, rfl, ff_iff fun e => (int_ne h) (by rw [e])⟩
  have e2 : x.Written = y.Written := int_eq h
  conv => arg 1; ext k m; whnf
  refine Evs.cond (fun h => ?_) (fun h => ?_)
  · conv => arg 1; ext k m; whnf
    exact Evs.is ⟨false, rfl, ff_iff fun e => (int_ne h) (by rw [e])⟩
  have e3 : x.Synced = y.Synced := int_eq h
  conv => arg 1; ext k m; whnf
  obtain ⟨b4, hd4, hb4⟩ := eqInt64S x.Rows y.Rows hx.2.1
  refine Evs.bnd hd4 (args2 false false _ _) ?_
  conv => arg 1; ext k m; whnf
  refine Evs.cond (fun h => ?_) (fun h => ?_)
  · conv => arg 1; ext k m; whnf
    exact Evs.is ⟨false, rfl, ff_iff fun e => (not_ne h hb4) (by rw [e])⟩
  have e4 : x.Rows = y.Rows := not_eq h hb4
  conv => arg 1; ext k m; whnf
  obtain ⟨b5, hd5, hb5⟩ := eqStringS x.Buffer y.Buffer hx.2.2
  refine Evs.bnd hd5 (args2 false false _ _) ?_
  conv => arg 1; ext k m; whnf
  refine Evs.cond (fun h => ?_) (fun h => ?_)
  · conv => arg 1; ext k m; whnf
    exact Evs.is ⟨false, rfl, ff_iff fun e => (not_ne h hb5) (by rw [e])⟩
  have e5 : x.Buffer = y.Buffer := not_eq h hb5
  conv => arg 1; ext k m; whnf
  exact Evs.is ⟨true, rfl, tt_iff (by cases x; cases y; simp only at e0 e1 e2 e3 e4 e5; subst e0 e1 e2 e3 e4 e5; rfl)⟩
theorem eqZoneS (x y : List Zone) (hx : smallL 1048576 x) : ∃ b, Den E 45 [Arg.t false x, Arg.t false y] (.bool b) ∧ (b = true ↔ x = y) := by
  have hx1 := hx.1
  refine den_ex (den_of rfl (fnOf_eq Try.func45 (by decide)) rfl rfl rfl ?_)
  conv => arg 1; ext k m; whnf
  refine Evs.cond (fun h => ?_) (fun h => ?_)
  · conv => arg 1; ext k m; whnf
    exact Evs.is ⟨false, rfl, ff_iff (len_ne h)⟩
  have hl := len_eq h
  conv => arg 1; ext k m; whnf
  refine Evs.loop (fun i : Nat => ⟨[Arg.t false x, Arg.t false y, .undef, .undef, .bool false, .int .i64 i] ++ replT 21, replL 27, []⟩) (fun i => i ≤ x.length ∧ ∀ j, j < i → x.getD j Enc.dflt = y.getD j Enc.dflt) (fun i => x.length - i) 0 ⟨Nat.zero_le _, fun j hj => absurd hj (Nat.not_lt_zero _)⟩ (fun K => rfl) (fun i hi ih => ?_)
  obtain ⟨hi1, hi2⟩ := hi
  conv => arg 1; ext k m; whnf
  refine Evs.cond (fun h0 => ?_) (fun h0 => ?_)
  · have h1 : i < x.length := by have := lt_tt h0; omega
    conv => arg 1; ext k m; whnf
    refine Evs.pos ⟨by omega, by omega⟩ ?_
    conv => arg 1; ext k m; whnf
    refine Evs.pos ⟨by omega, by omega⟩ ?_
    conv => arg 1; ext k m; whnf
    obtain ⟨b, hd, hb⟩ := eqZone (x.getD i Enc.dflt) (y.getD i Enc.dflt) (smallL_get hx h1)
    refine Evs.bnd hd (args2 false false _ _) ?_
    conv => arg 1; ext k m; whnf
    refine Evs.cond (fun h => ?_) (fun h => ?_)
    · conv => arg 1; ext k m; whnf
      exact Evs.is ⟨false, rfl, ff_iff fun e => (not_ne h hb) (by rw [e])⟩
    have e : x.getD i Enc.dflt = y.getD i Enc.dflt := not_eq h hb
    conv => arg 1; ext k m; whnf
    refine ih (i + 1) _ ⟨h1, upto_next hi2 e⟩ (by omega) (fun K => ?_)
    rw [← wrap_inc (by omega)]
    rfl
  · have h1 : i = x.length := by have := lt_ff h0; omega
    conv => arg 1; ext k m; whnf
    subst h1
    exact Evs.is ⟨true, rfl, tt_iff (list_eq_getD hl hi2)⟩
theorem eqDevice (x y : Device) (hx : Enc.small 1048576 x) : ∃ b, Den E 25 [Arg.t false x, Arg.t false y] (.bool b) ∧ (b = true ↔ x = y) := by
  refine den_ex (den_of rfl (fnOf_eq Try.func25 (by decide)) rfl rfl rfl ?_)
  conv => arg 1; ext k m; whnf
  obtain ⟨b0, hd0, hb0⟩ := eqFlash x.Flash y.Flash hx.1
  refine Evs.bnd hd0 (args2 false false _ _) ?_
  conv => arg 1; ext k m; whnf
  refine Evs.cond (fun h => ?_) (fun h => ?_)
  · conv => arg 1; ext k m; whnf
    exact Evs.is ⟨false, rfl, ff_iff fun e => (not_ne h hb0) (by rw [e])⟩
  have e0 : x.Flash = y.Flash := not_eq h hb0
  conv => arg 1; ext k m; whnf
  obtain ⟨b1, hd1, hb1⟩ := eqZoneS x.Zones y.Zones hx.2
  refine Evs.bnd hd1 (args2 false false _ _) ?_
  conv => arg 1; ext k m; whnf
  refine Evs.cond (fun h => ?_) (fun h => ?_)
  · conv => arg 1; ext k m; whnf
    exact Evs.is ⟨false, rfl, ff_iff fun e => (not_ne h hb1) (by rw [e])⟩
  have e1 : x.Zones = y.Zones := not_eq h hb1
  conv => arg 1; ext k m; whnf
  exact Evs.is ⟨true, rfl, tt_iff (by cases x; cases y; simp only at e0 e1; subst e0 e1; rfl)⟩
theorem eqTableRef (x y : TableRef) (hx : Enc.small 1048576 x) : ∃ b, Den E 62 [Arg.t false x, Arg.t false y] (.bool b) ∧ (b = true ↔ x = y) := by
  refine den_ex (den_of rfl (fnOf_eq Try.func62 (by decide)) rfl rfl rfl ?_)
  conv => arg 1; ext k m; whnf
  refine Evs.cond (fun h => ?_) (fun h => ?_)
  · conv => arg 1; ext k m; whnf
    exact Evs.is ⟨false, rfl, ff_iff fun e => (int_ne h) (by rw [e])⟩
  have e0 : x.Id = y.Id := int_eq h
  conv => arg 1; ext k m; whnf
  refine Evs.cond (fun h => ?_) (fun h => ?_)
  · conv => arg 1; ext k m; whnf
    exact Evs.is ⟨false, rfl, ff_iff fun e => (int_ne h) (by rw [e])⟩
  have e1 : x.Level = y.Level := int_eq h
  conv => arg 1; ext k m; whnf
  refine Evs.cond (fun h => ?_) (fun h => ?_)
  · conv => arg 1; ext k m; whnf
    exact Evs.is ⟨false, rfl, ff_iff fun e => (int_ne h) (by rw [e])⟩
  have e2 : x.Zone = y.Zone := int_eq h
  conv => arg 1; ext k m; whnf
  refine Evs.cond (fun h => ?_) (fun h => ?_)
  · conv => arg 1; ext k m; whnf
    exact Evs.is ⟨false, rfl, ff_iff fun e => (int_ne h) (by rw [e])⟩
  have e3 : x.Page = y.Page := int_eq h
  conv => arg 1; ext k m; whnf
  refine Evs.cond (fun h => ?_) (fun h => ?_)
  · conv => arg 1; ext k m; whnf
    exact Evs.is ⟨false, rfl, ff_iff fun e => (int_ne h) (by rw [e])⟩
  have e4 : x.Pages = y.Pages := int_eq h
  conv => arg 1; ext k m; whnf
  refine Evs.cond (fun h => ?_) (fun h => ?_)
  · conv => arg 1; ext k m; whnf
    exact Evs.is ⟨false, rfl, ff_iff fun e => (str_ne h) (by rw [e])⟩
  have e5 : x.Low = y.Low := str_eq h
  conv => arg 1; ext k m; whnf
  refine Evs.cond (fun h => ?_) (fun h => ?_)
  · conv => arg 1; ext k m; whnf
    exact Evs.is ⟨false, rfl, ff_iff fun e => (str_ne h) (by rw [e])⟩
  have e6 : x.High = y.High := str_eq h
  conv => arg 1; ext k m; whnf
  refine Evs.cond (fun h => ?_) (fun h => ?_)
  · conv => arg 1; ext k m; whnf
    exact Evs.is ⟨false, rfl, ff_iff fun e => (int_ne h) (by rw [e])⟩
  have e7 : x.First = y.First := int_eq h
  conv => arg 1; ext k m; whnf
  refine Evs.cond (fun h => ?_) (fun h => ?_)
  · conv => arg 1; ext k m; whnf
    exact Evs.is ⟨false, rfl, ff_iff fun e => (int_ne h) (by rw [e])⟩
  have e8 : x.Last = y.Last := int_eq h
  conv => arg 1; ext k m; whnf
  refine Evs.cond (fun h => ?_) (fun h => ?_)
  · conv => arg 1; ext k m; whnf
    exact Evs.is ⟨false, rfl, ff_iff fun e => (int_ne h) (by rw [e])⟩
  have e9 : x.Records = y.Records := int_eq h
  conv => arg 1; ext k m; whnf
  exact Evs.is ⟨true, rfl, tt_iff (by cases x; cases y; simp only at e0 e1 e2 e3 e4 e5 e6 e7 e8 e9; subst e0 e1 e2 e3 e4 e5 e6 e7 e8 e9; rfl)⟩
theorem eqTableRefS (x y : List TableRef) (hx : smallL 1048576 x) : ∃ b, Den E 46 [Arg.t false x, Arg.t false y] (.bool b) ∧ (b = true ↔ x = y) := by
  have hx1 := hx.1
  refine den_ex (den_of rfl (fnOf_eq Try.func46 (by decide)) rfl rfl rfl ?_)
  conv => arg 1; ext k m; whnf
  refine Evs.cond (fun h => ?_) (fun h => ?_)
  · conv => arg 1; ext k m; whnf
    exact Evs.is ⟨false, rfl, ff_iff (len_ne h)⟩
  have hl := len_eq h
  conv => arg 1; ext k m; whnf
  refine Evs.loop (fun i : Nat => ⟨[Arg.t false x, Arg.t false y, .undef, .undef, .bool false, .int .i64 i] ++ replT 21, replL 27, []⟩) (fun i => i ≤ x.length ∧ ∀ j, j < i → x.getD j Enc.dflt = y.getD j Enc.dflt) (fun i => x.length - i) 0 ⟨Nat.zero_le _, fun j hj => absurd hj (Nat.not_lt_zero _)⟩ (fun K => rfl) (fun i hi ih => ?_)
  obtain ⟨hi1, hi2⟩ := hi
  conv => arg 1; ext k m; whnf
  refine Evs.cond (fun h0 => ?_) (fun h0 => ?_)
  · have h1 : i < x.length := by have := lt_tt h0; omega
    conv => arg 1; ext k m; whnf
    refine Evs.pos ⟨by omega, by omega⟩ ?_
    conv => arg 1; ext k m; whnf
    refine Evs.pos ⟨by omega, by omega⟩ ?_
    conv => arg 1; ext k m; whnf
    obtain ⟨b, hd, hb⟩ := eqTableRef (x.getD i Enc.dflt) (y.getD i Enc.dflt) (smallL_get hx h1)
    refine Evs.bnd hd (args2 false false _ _) ?_
    conv => arg 1; ext k m; whnf
    refine Evs.cond (fun h => ?_) (fun h => ?_)
    · conv => arg 1; ext k m; whnf
      exact Evs.is ⟨false, rfl, ff_iff fun e => (not_ne h hb) (by rw [e])⟩
    have e : x.getD i Enc.dflt = y.getD i Enc.dflt := not_eq h hb
    conv => arg 1; ext k m; whnf
    refine ih (i + 1) _ ⟨h1, upto_next hi2 e⟩ (by omega) (fun K => ?_)
    rw [← wrap_inc (by omega)]
    rfl
  · have h1 : i = x.length := by have := lt_ff h0; omega
    conv => arg 1; ext k m; whnf
    subst h1
    exact Evs.is ⟨true, rfl, tt_iff (list_eq_getD hl hi2)⟩
theorem eqVersion (x y : Version) (hx : Enc.small 1048576 x) : ∃ b, Den E 26 [Arg.t false x, Arg.t false y] (.bool b) ∧ (b = true ↔ x = y) := by
  refine den_ex (den_of rfl (fnOf_eq Try.func26 (by decide)) rfl rfl rfl ?_)
  conv => arg 1; ext k m; whnf
  refine Evs.cond (fun h => ?_) (fun h => ?_)
  · conv => arg 1; ext k m; whnf
    exact Evs.is ⟨false, rfl, ff_iff fun e => (int_ne h) (by rw [e])⟩
  have e0 : x.NextId = y.NextId := int_eq h
  conv => arg 1; ext k m; whnf
  refine Evs.cond (fun h => ?_) (fun h => ?_)
  · conv => arg 1; ext k m; whnf
    exact Evs.is ⟨false, rfl, ff_iff fun e => (int_ne h) (by rw [e])⟩
  have e1 : x.LogZone = y.LogZone := int_eq h
  conv => arg 1; ext k m; whnf
  refine Evs.cond (fun h => ?_) (fun h => ?_)
  · conv => arg 1; ext k m; whnf
    exact Evs.is ⟨false, rfl, ff_iff fun e => (int_ne h) (by rw [e])⟩
  have e2 : x.LogSeq = y.LogSeq := int_eq h
  conv => arg 1; ext k m; whnf
  obtain ⟨b3, hd3, hb3⟩ := eqTableRefS x.Tables y.Tables hx
  refine Evs.bnd hd3 (args2 false false _ _) ?_
  conv => arg 1; ext k m; whnf
  refine Evs.cond (fun h => ?_) (fun h => ?_)
  · conv => arg 1; ext k m; whnf
    exact Evs.is ⟨false, rfl, ff_iff fun e => (not_ne h hb3) (by rw [e])⟩
  have e3 : x.Tables = y.Tables := not_eq h hb3
  conv => arg 1; ext k m; whnf
  exact Evs.is ⟨true, rfl, tt_iff (by cases x; cases y; simp only at e0 e1 e2 e3; subst e0 e1 e2 e3; rfl)⟩
theorem eqRecord (x y : Record) (hx : Enc.small 1048576 x) : ∃ b, Den E 47 [Arg.t false x, Arg.t false y] (.bool b) ∧ (b = true ↔ x = y) := by
  refine den_ex (den_of rfl (fnOf_eq Try.func47 (by decide)) rfl rfl rfl ?_)
  conv => arg 1; ext k m; whnf
  refine Evs.cond (fun h => ?_) (fun h => ?_)
  · conv => arg 1; ext k m; whnf
    exact Evs.is ⟨false, rfl, ff_iff fun e => (str_ne h) (by rw [e])⟩
  have e0 : x.Key = y.Key := str_eq h
  conv => arg 1; ext k m; whnf
  refine Evs.cond (fun h => ?_) (fun h => ?_)
  · conv => arg 1; ext k m; whnf
    exact Evs.is ⟨false, rfl, ff_iff fun e => (int_ne h) (by rw [e])⟩
  have e1 : x.Seq = y.Seq := int_eq h
  conv => arg 1; ext k m; whnf
  refine Evs.cond (fun h => ?_) (fun h => ?_)
  · conv => arg 1; ext k m; whnf
    exact Evs.is ⟨false, rfl, ff_iff fun e => (int_ne h) (by rw [e])⟩
  have e2 : x.Kind = y.Kind := int_eq h
  conv => arg 1; ext k m; whnf
  refine Evs.cond (fun h => ?_) (fun h => ?_)
  · conv => arg 1; ext k m; whnf
    exact Evs.is ⟨false, rfl, ff_iff fun e => (str_ne h) (by rw [e])⟩
  have e3 : x.Value = y.Value := str_eq h
  conv => arg 1; ext k m; whnf
  refine Evs.cond (fun h => ?_) (fun h => ?_)
  · conv => arg 1; ext k m; whnf
    exact Evs.is ⟨false, rfl, ff_iff fun e => (str_ne h) (by rw [e])⟩
  have e4 : x.End = y.End := str_eq h
  conv => arg 1; ext k m; whnf
  exact Evs.is ⟨true, rfl, tt_iff (by cases x; cases y; simp only at e0 e1 e2 e3 e4; subst e0 e1 e2 e3 e4; rfl)⟩
theorem eqRecordS (x y : List Record) (hx : smallL 1048576 x) : ∃ b, Den E 27 [Arg.t false x, Arg.t false y] (.bool b) ∧ (b = true ↔ x = y) := by
  have hx1 := hx.1
  refine den_ex (den_of rfl (fnOf_eq Try.func27 (by decide)) rfl rfl rfl ?_)
  conv => arg 1; ext k m; whnf
  refine Evs.cond (fun h => ?_) (fun h => ?_)
  · conv => arg 1; ext k m; whnf
    exact Evs.is ⟨false, rfl, ff_iff (len_ne h)⟩
  have hl := len_eq h
  conv => arg 1; ext k m; whnf
  refine Evs.loop (fun i : Nat => ⟨[Arg.t false x, Arg.t false y, .undef, .undef, .bool false, .int .i64 i] ++ replT 21, replL 27, []⟩) (fun i => i ≤ x.length ∧ ∀ j, j < i → x.getD j Enc.dflt = y.getD j Enc.dflt) (fun i => x.length - i) 0 ⟨Nat.zero_le _, fun j hj => absurd hj (Nat.not_lt_zero _)⟩ (fun K => rfl) (fun i hi ih => ?_)
  obtain ⟨hi1, hi2⟩ := hi
  conv => arg 1; ext k m; whnf
  refine Evs.cond (fun h0 => ?_) (fun h0 => ?_)
  · have h1 : i < x.length := by have := lt_tt h0; omega
    conv => arg 1; ext k m; whnf
    refine Evs.pos ⟨by omega, by omega⟩ ?_
    conv => arg 1; ext k m; whnf
    refine Evs.pos ⟨by omega, by omega⟩ ?_
    conv => arg 1; ext k m; whnf
    obtain ⟨b, hd, hb⟩ := eqRecord (x.getD i Enc.dflt) (y.getD i Enc.dflt) (smallL_get hx h1)
    refine Evs.bnd hd (args2 false false _ _) ?_
    conv => arg 1; ext k m; whnf
    refine Evs.cond (fun h => ?_) (fun h => ?_)
    · conv => arg 1; ext k m; whnf
      exact Evs.is ⟨false, rfl, ff_iff fun e => (not_ne h hb) (by rw [e])⟩
    have e : x.getD i Enc.dflt = y.getD i Enc.dflt := not_eq h hb
    conv => arg 1; ext k m; whnf
    refine ih (i + 1) _ ⟨h1, upto_next hi2 e⟩ (by omega) (fun K => ?_)
    rw [← wrap_inc (by omega)]
    rfl
  · have h1 : i = x.length := by have := lt_ff h0; omega
    conv => arg 1; ext k m; whnf
    subst h1
    exact Evs.is ⟨true, rfl, tt_iff (list_eq_getD hl hi2)⟩
theorem eqDB (x y : DB) (hx : Enc.small 1048576 x) : ∃ b, Den E 8 [Arg.t false x, Arg.t false y] (.bool b) ∧ (b = true ↔ x = y) := by
  refine den_ex (den_of rfl (fnOf_eq Try.func8 (by decide)) rfl rfl rfl ?_)
  conv => arg 1; ext k m; whnf
  obtain ⟨b0, hd0, hb0⟩ := eqDevice x.Device y.Device hx.1
  refine Evs.bnd hd0 (args2 false false _ _) ?_
  conv => arg 1; ext k m; whnf
  refine Evs.cond (fun h => ?_) (fun h => ?_)
  · conv => arg 1; ext k m; whnf
    exact Evs.is ⟨false, rfl, ff_iff fun e => (not_ne h hb0) (by rw [e])⟩
  have e0 : x.Device = y.Device := not_eq h hb0
  conv => arg 1; ext k m; whnf
  obtain ⟨b1, hd1, hb1⟩ := eqVersion x.Version y.Version hx.2.1
  refine Evs.bnd hd1 (args2 false false _ _) ?_
  conv => arg 1; ext k m; whnf
  refine Evs.cond (fun h => ?_) (fun h => ?_)
  · conv => arg 1; ext k m; whnf
    exact Evs.is ⟨false, rfl, ff_iff fun e => (not_ne h hb1) (by rw [e])⟩
  have e1 : x.Version = y.Version := not_eq h hb1
  conv => arg 1; ext k m; whnf
  refine Evs.cond (fun h => ?_) (fun h => ?_)
  · conv => arg 1; ext k m; whnf
    exact Evs.is ⟨false, rfl, ff_iff fun e => (int_ne h) (by rw [e])⟩
  have e2 : x.Gen = y.Gen := int_eq h
  conv => arg 1; ext k m; whnf
  refine Evs.cond (fun h => ?_) (fun h => ?_)
  · conv => arg 1; ext k m; whnf
    exact Evs.is ⟨false, rfl, ff_iff fun e => (int_ne h) (by rw [e])⟩
  have e3 : x.Active = y.Active := int_eq h
  conv => arg 1; ext k m; whnf
  obtain ⟨b4, hd4, hb4⟩ := eqRecordS x.Mem y.Mem hx.2.2.1
  refine Evs.bnd hd4 (args2 false false _ _) ?_
  conv => arg 1; ext k m; whnf
  refine Evs.cond (fun h => ?_) (fun h => ?_)
  · conv => arg 1; ext k m; whnf
    exact Evs.is ⟨false, rfl, ff_iff fun e => (not_ne h hb4) (by rw [e])⟩
  have e4 : x.Mem = y.Mem := not_eq h hb4
  conv => arg 1; ext k m; whnf
  refine Evs.cond (fun h => ?_) (fun h => ?_)
  · conv => arg 1; ext k m; whnf
    exact Evs.is ⟨false, rfl, ff_iff fun e => (int_ne h) (by rw [e])⟩
  have e5 : x.Seq = y.Seq := int_eq h
  conv => arg 1; ext k m; whnf
  refine Evs.cond (fun h => ?_) (fun h => ?_)
  · conv => arg 1; ext k m; whnf
    exact Evs.is ⟨false, rfl, ff_iff fun e => (int_ne h) (by rw [e])⟩
  have e6 : x.Synced = y.Synced := int_eq h
  conv => arg 1; ext k m; whnf
  obtain ⟨b7, hd7, hb7⟩ := eqInt64S x.Snapshots y.Snapshots hx.2.2.2
  refine Evs.bnd hd7 (args2 false false _ _) ?_
  conv => arg 1; ext k m; whnf
  refine Evs.cond (fun h => ?_) (fun h => ?_)
  · conv => arg 1; ext k m; whnf
    exact Evs.is ⟨false, rfl, ff_iff fun e => (not_ne h hb7) (by rw [e])⟩
  have e7 : x.Snapshots = y.Snapshots := not_eq h hb7
  conv => arg 1; ext k m; whnf
  exact Evs.is ⟨true, rfl, tt_iff (by cases x; cases y; simp only at e0 e1 e2 e3 e4 e5 e6 e7; subst e0 e1 e2 e3 e4 e5 e6 e7; rfl)⟩
theorem szStringS (x : List ByteArray) (l : Int) (h0 : 0 ≤ l) (h1 : l ≤ 1048576) (hr : smallL 140737488351232 x) : ∃ r : Int, Den E 64 [Arg.t false x, .int .i64 l] (.int .i64 r) ∧ r ≤ l ∧ (0 ≤ r → smallL 1048576 x) := by
  have hr1 := hr.1
  have hw : IntKind.i64.wrap (l - x.length) = l - x.length := wrap_id (by omega) (by omega)
  refine den_ex (den_of rfl (fnOf_eq Try.func64 (by decide)) rfl rfl rfl ?_)
  conv => arg 1; ext k m; whnf
  refine Evs.cond (fun hc => ?_) (fun hc => ?_)
  · conv => arg 1; ext k m; whnf
    exact Evs.is ⟨-1, rfl, by omega, by omega⟩
  have hn := lt_ff hc
  rw [hw] at hn
  conv => arg 1; ext k m; whnf
  refine Evs.loop (fun i : Nat × Int => ⟨[Arg.t false x, .int .i64 i.2, .undef, .undef, .int .i64 0, .int .i64 i.1] ++ replT 22, replL 28, []⟩) (fun i => i.1 ≤ x.length ∧ 0 ≤ i.2 ∧ i.2 ≤ l ∧ ∀ j, j < i.1 → Enc.small 1048576 (x.getD j Enc.dflt)) (fun i => x.length - i.1) (0, IntKind.i64.wrap (l - x.length)) ⟨Nat.zero_le _, by simp only [hw]; omega, by simp only [hw]; omega, fun j hj => absurd hj (Nat.not_lt_zero _)⟩ (fun K => rfl) (fun i hi ih => ?_)
  obtain ⟨i, c⟩ := i
  obtain ⟨hi1, hi2, hi3, hi4⟩ := hi
  simp only at hi1 hi2 hi3 hi4
  conv => arg 1; ext k m; whnf
  refine Evs.cond (fun h0 => ?_) (fun h0 => ?_)
  · have h1 : i < x.length := by have := lt_tt h0; omega
    conv => arg 1; ext k m; whnf
    refine Evs.pos ⟨by omega, by omega⟩ ?_
    have hz : (x.getD i Enc.dflt).size ≤ 140737488351232 := smallL_get hr h1
    have hw : IntKind.i64.wrap (c - (x.getD i Enc.dflt).size) = c - (x.getD i Enc.dflt).size := wrap_id (by omega) (by omega)
    conv => arg 1; ext k m; whnf
    refine Evs.cond (fun hc => ?_) (fun hc => ?_)
    · conv => arg 1; ext k m; whnf
      exact Evs.is ⟨-1, rfl, by omega, by omega⟩
    have hn : ¬ IntKind.i64.wrap (c - (x.getD i Enc.dflt).size) < 0 := lt_ff hc
    rw [hw] at hn
    conv => arg 1; ext k m; whnf
    refine ih (i + 1, IntKind.i64.wrap (c - (x.getD i Enc.dflt).size)) _ ⟨h1, by simp only [hw]; omega, by simp only [hw]; omega, upto_next' hi4 (show (x.getD i Enc.dflt).size ≤ 1048576 by omega)⟩ (by simp only; omega) (fun K => ?_)
    simp only [← wrap_inc (show i < 9223372036854775807 by omega)]
    rfl
  · have h1 : i = x.length := by have := lt_ff h0; omega
    conv => arg 1; ext k m; whnf
    subst h1
    exact Evs.is ⟨_, rfl, by omega, fun _ => smallL_mk (by omega) hi4⟩
theorem szBlock (x : Block) (l : Int) (h0 : 0 ≤ l) (h1 : l ≤ 1048576) (hr : Enc.small 140737488351232 x) : ∃ r : Int, Den E 63 [Arg.t false x, .int .i64 l] (.int .i64 r) ∧ r ≤ l ∧ (0 ≤ r → Enc.small 1048576 x) := by
  refine den_ex (den_of rfl (fnOf_eq Try.func63 (by decide)) rfl rfl rfl ?_)
  obtain ⟨l1, hd0, hl0, hq0⟩ := szStringS x.Pages l (by omega) (by omega) hr
  conv => arg 1; ext k m; whnf
  refine Evs.bnd hd0 (args2 false false x.Pages l) ?_
  conv => arg 1; ext k m; whnf
  refine Evs.cond (fun hc => ?_) (fun hc => ?_)
  · conv => arg 1; ext k m; whnf
    exact Evs.is ⟨-1, rfl, by omega, by omega⟩
  have hn0 := lt_ff hc
  conv => arg 1; ext k m; whnf
  exact Evs.is ⟨l1, rfl, by omega, fun _ => hq0 (by omega)⟩
theorem szBlockS (x : List Block) (l : Int) (h0 : 0 ≤ l) (h1 : l ≤ 1048576) (hr : smallL 140737488351232 x) : ∃ r : Int, Den E 48 [Arg.t false x, .int .i64 l] (.int .i64 r) ∧ r ≤ l ∧ (0 ≤ r → smallL 1048576 x) := by
  have hr1 := hr.1
  have hw : IntKind.i64.wrap (l - x.length) = l - x.length := wrap_id (by omega) (by omega)
  refine den_ex (den_of rfl (fnOf_eq Try.func48 (by decide)) rfl rfl rfl ?_)
  conv => arg 1; ext k m; whnf
  refine Evs.cond (fun hc => ?_) (fun hc => ?_)
  · conv => arg 1; ext k m; whnf
    exact Evs.is ⟨-1, rfl, by omega, by omega⟩
  have hn := lt_ff hc
  rw [hw] at hn
  conv => arg 1; ext k m; whnf
  refine Evs.loop (fun i : Nat × Int => ⟨[Arg.t false x, .int .i64 i.2, .undef, .undef, .int .i64 0, .int .i64 i.1] ++ replT 21, replL 27, []⟩) (fun i => i.1 ≤ x.length ∧ 0 ≤ i.2 ∧ i.2 ≤ l ∧ ∀ j, j < i.1 → Enc.small 1048576 (x.getD j Enc.dflt)) (fun i => x.length - i.1) (0, IntKind.i64.wrap (l - x.length)) ⟨Nat.zero_le _, by simp only [hw]; omega, by simp only [hw]; omega, fun j hj => absurd hj (Nat.not_lt_zero _)⟩ (fun K => rfl) (fun i hi ih => ?_)
  obtain ⟨i, c⟩ := i
  obtain ⟨hi1, hi2, hi3, hi4⟩ := hi
  simp only at hi1 hi2 hi3 hi4
  conv => arg 1; ext k m; whnf
  refine Evs.cond (fun h0 => ?_) (fun h0 => ?_)
  · have h1 : i < x.length := by have := lt_tt h0; omega
    conv => arg 1; ext k m; whnf
    refine Evs.pos ⟨by omega, by omega⟩ ?_
    obtain ⟨r, hd, hle, hq⟩ := szBlock (x.getD i Enc.dflt) c (by omega) (by omega) (smallL_get hr h1)
    conv => arg 1; ext k m; whnf
    refine Evs.bnd hd (args2 false false (x.getD i Enc.dflt) c) ?_
    conv => arg 1; ext k m; whnf
    refine Evs.cond (fun hc => ?_) (fun hc => ?_)
    · conv => arg 1; ext k m; whnf
      exact Evs.is ⟨-1, rfl, by omega, by omega⟩
    have hn := lt_ff hc
    conv => arg 1; ext k m; whnf
    refine ih (i + 1, r) _ ⟨h1, by omega, by omega, upto_next' hi4 (hq (by omega))⟩ (by simp only; omega) (fun K => ?_)
    simp only [← wrap_inc (show i < 9223372036854775807 by omega)]
    rfl
  · have h1 : i = x.length := by have := lt_ff h0; omega
    conv => arg 1; ext k m; whnf
    subst h1
    exact Evs.is ⟨_, rfl, by omega, fun _ => smallL_mk (by omega) hi4⟩
theorem szFlash (x : Flash) (l : Int) (h0 : 0 ≤ l) (h1 : l ≤ 1048576) (hr : Enc.small 140737488351232 x) : ∃ r : Int, Den E 29 [Arg.t false x, .int .i64 l] (.int .i64 r) ∧ r ≤ l ∧ (0 ≤ r → Enc.small 1048576 x) := by
  refine den_ex (den_of rfl (fnOf_eq Try.func29 (by decide)) rfl rfl rfl ?_)
  obtain ⟨l1, hd0, hl0, hq0⟩ := szBlockS x.Blocks l (by omega) (by omega) hr
  conv => arg 1; ext k m; whnf
  refine Evs.bnd hd0 (args2 false false x.Blocks l) ?_
  conv => arg 1; ext k m; whnf
  refine Evs.cond (fun hc => ?_) (fun hc => ?_)
  · conv => arg 1; ext k m; whnf
    exact Evs.is ⟨-1, rfl, by omega, by omega⟩
  have hn0 := lt_ff hc
  conv => arg 1; ext k m; whnf
  exact Evs.is ⟨l1, rfl, by omega, fun _ => hq0 (by omega)⟩
theorem szInt64S (x : List Int) (l : Int) (h0 : 0 ≤ l) (h1 : l ≤ 1048576) (hr : smallL 140737488351232 x) : ∃ r : Int, Den E 12 [Arg.t false x, .int .i64 l] (.int .i64 r) ∧ r ≤ l ∧ (0 ≤ r → smallL 1048576 x) := by
  have hr1 := hr.1
  have hw : IntKind.i64.wrap (l - x.length) = l - x.length := wrap_id (by omega) (by omega)
  refine den_ex (den_of rfl (fnOf_eq Try.func12 (by decide)) rfl rfl rfl ?_)
  conv => arg 1; ext k m; whnf
  refine Evs.cond (fun hc => ?_) (fun hc => ?_)
  · conv => arg 1; ext k m; whnf
    exact Evs.is ⟨-1, rfl, by omega, by omega⟩
  have hn := lt_ff hc
  rw [hw] at hn
  conv => arg 1; ext k m; whnf
  exact Evs.is ⟨_, rfl, by omega, fun _ => ⟨by omega, fun _ _ => trivial⟩⟩
theorem szZone (x : Zone) (l : Int) (h0 : 0 ≤ l) (h1 : l ≤ 1048576) (hr : Enc.small 140737488351232 x) : ∃ r : Int, Den E 49 [Arg.t false x, .int .i64 l] (.int .i64 r) ∧ r ≤ l ∧ (0 ≤ r → Enc.small 1048576 x) := by
  refine den_ex (den_of rfl (fnOf_eq Try.func49 (by decide)) rfl rfl rfl ?_)
  obtain ⟨l1, hd0, hl0, hq0⟩ := szInt64S x.Blocks l (by omega) (by omega) hr.1
  conv => arg 1; ext k m; whnf
  refine Evs.bnd hd0 (args2 false false x.Blocks l) ?_
  conv => arg 1; ext k m; whnf
  refine Evs.cond (fun hc => ?_) (fun hc => ?_)
  · conv => arg 1; ext k m; whnf
    exact Evs.is ⟨-1, rfl, by omega, by omega⟩
  have hn0 := lt_ff hc
  obtain ⟨l2, hd1, hl1, hq1⟩ := szInt64S x.Rows l1 (by omega) (by omega) hr.2.1
  conv => arg 1; ext k m; whnf
  refine Evs.bnd hd1 (args2 false false x.Rows l1) ?_
  conv => arg 1; ext k m; whnf
  refine Evs.cond (fun hc => ?_) (fun hc => ?_)
  · conv => arg 1; ext k m; whnf
    exact Evs.is ⟨-1, rfl, by omega, by omega⟩
  have hn1 := lt_ff hc
  obtain ⟨l3, hd2, hl2, hq2⟩ := szStringS x.Buffer l2 (by omega) (by omega) hr.2.2
  conv => arg 1; ext k m; whnf
  refine Evs.bnd hd2 (args2 false false x.Buffer l2) ?_
  conv => arg 1; ext k m; whnf
  refine Evs.cond (fun hc => ?_) (fun hc => ?_)
  · conv => arg 1; ext k m; whnf
    exact Evs.is ⟨-1, rfl, by omega, by omega⟩
  have hn2 := lt_ff hc
  conv => arg 1; ext k m; whnf
  exact Evs.is ⟨l3, rfl, by omega, fun _ => ⟨hq0 (by omega), hq1 (by omega), hq2 (by omega)⟩⟩
theorem szZoneS (x : List Zone) (l : Int) (h0 : 0 ≤ l) (h1 : l ≤ 1048576) (hr : smallL 140737488351232 x) : ∃ r : Int, Den E 30 [Arg.t false x, .int .i64 l] (.int .i64 r) ∧ r ≤ l ∧ (0 ≤ r → smallL 1048576 x) := by
  have hr1 := hr.1
  have hw : IntKind.i64.wrap (l - x.length) = l - x.length := wrap_id (by omega) (by omega)
  refine den_ex (den_of rfl (fnOf_eq Try.func30 (by decide)) rfl rfl rfl ?_)
  conv => arg 1; ext k m; whnf
  refine Evs.cond (fun hc => ?_) (fun hc => ?_)
  · conv => arg 1; ext k m; whnf
    exact Evs.is ⟨-1, rfl, by omega, by omega⟩
  have hn := lt_ff hc
  rw [hw] at hn
  conv => arg 1; ext k m; whnf
  refine Evs.loop (fun i : Nat × Int => ⟨[Arg.t false x, .int .i64 i.2, .undef, .undef, .int .i64 0, .int .i64 i.1] ++ replT 21, replL 27, []⟩) (fun i => i.1 ≤ x.length ∧ 0 ≤ i.2 ∧ i.2 ≤ l ∧ ∀ j, j < i.1 → Enc.small 1048576 (x.getD j Enc.dflt)) (fun i => x.length - i.1) (0, IntKind.i64.wrap (l - x.length)) ⟨Nat.zero_le _, by simp only [hw]; omega, by simp only [hw]; omega, fun j hj => absurd hj (Nat.not_lt_zero _)⟩ (fun K => rfl) (fun i hi ih => ?_)
  obtain ⟨i, c⟩ := i
  obtain ⟨hi1, hi2, hi3, hi4⟩ := hi
  simp only at hi1 hi2 hi3 hi4
  conv => arg 1; ext k m; whnf
  refine Evs.cond (fun h0 => ?_) (fun h0 => ?_)
  · have h1 : i < x.length := by have := lt_tt h0; omega
    conv => arg 1; ext k m; whnf
    refine Evs.pos ⟨by omega, by omega⟩ ?_
    obtain ⟨r, hd, hle, hq⟩ := szZone (x.getD i Enc.dflt) c (by omega) (by omega) (smallL_get hr h1)
    conv => arg 1; ext k m; whnf
    refine Evs.bnd hd (args2 false false (x.getD i Enc.dflt) c) ?_
    conv => arg 1; ext k m; whnf
    refine Evs.cond (fun hc => ?_) (fun hc => ?_)
    · conv => arg 1; ext k m; whnf
      exact Evs.is ⟨-1, rfl, by omega, by omega⟩
    have hn := lt_ff hc
    conv => arg 1; ext k m; whnf
    refine ih (i + 1, r) _ ⟨h1, by omega, by omega, upto_next' hi4 (hq (by omega))⟩ (by simp only; omega) (fun K => ?_)
    simp only [← wrap_inc (show i < 9223372036854775807 by omega)]
    rfl
  · have h1 : i = x.length := by have := lt_ff h0; omega
    conv => arg 1; ext k m; whnf
    subst h1
    exact Evs.is ⟨_, rfl, by omega, fun _ => smallL_mk (by omega) hi4⟩
theorem szDevice (x : Device) (l : Int) (h0 : 0 ≤ l) (h1 : l ≤ 1048576) (hr : Enc.small 140737488351232 x) : ∃ r : Int, Den E 9 [Arg.t false x, .int .i64 l] (.int .i64 r) ∧ r ≤ l ∧ (0 ≤ r → Enc.small 1048576 x) := by
  refine den_ex (den_of rfl (fnOf_eq Try.func9 (by decide)) rfl rfl rfl ?_)
  obtain ⟨l1, hd0, hl0, hq0⟩ := szFlash x.Flash l (by omega) (by omega) hr.1
  conv => arg 1; ext k m; whnf
  refine Evs.bnd hd0 (args2 false false x.Flash l) ?_
  conv => arg 1; ext k m; whnf
  refine Evs.cond (fun hc => ?_) (fun hc => ?_)
  · conv => arg 1; ext k m; whnf
    exact Evs.is ⟨-1, rfl, by omega, by omega⟩
  have hn0 := lt_ff hc
  obtain ⟨l2, hd1, hl1, hq1⟩ := szZoneS x.Zones l1 (by omega) (by omega) hr.2
  conv => arg 1; ext k m; whnf
  refine Evs.bnd hd1 (args2 false false x.Zones l1) ?_
  conv => arg 1; ext k m; whnf
  refine Evs.cond (fun hc => ?_) (fun hc => ?_)
  · conv => arg 1; ext k m; whnf
    exact Evs.is ⟨-1, rfl, by omega, by omega⟩
  have hn1 := lt_ff hc
  conv => arg 1; ext k m; whnf
  exact Evs.is ⟨l2, rfl, by omega, fun _ => ⟨hq0 (by omega), hq1 (by omega)⟩⟩
theorem szTableRef (x : TableRef) (l : Int) (h0 : 0 ≤ l) (h1 : l ≤ 1048576) (hr : Enc.small 140737488351232 x) : ∃ r : Int, Den E 50 [Arg.t false x, .int .i64 l] (.int .i64 r) ∧ r ≤ l ∧ (0 ≤ r → Enc.small 1048576 x) := by
  refine den_ex (den_of rfl (fnOf_eq Try.func50 (by decide)) rfl rfl rfl ?_)
  have hr0 : x.Low.size ≤ 140737488351232 := hr.1
  have hw0 : IntKind.i64.wrap (l - x.Low.size) = l - x.Low.size := wrap_id (by omega) (by omega)
  conv => arg 1; ext k m; whnf
  refine Evs.cond (fun hc => ?_) (fun hc => ?_)
  · conv => arg 1; ext k m; whnf
    exact Evs.is ⟨-1, rfl, by omega, by omega⟩
  have hn0 := lt_ff hc
  rw [hw0] at hn0
  have hq0 : x.Low.size ≤ 1048576 := by omega
  generalize IntKind.i64.wrap (l - x.Low.size) = l1 at *
  have he0 := hw0
  have hr1 : x.High.size ≤ 140737488351232 := hr.2
  have hw1 : IntKind.i64.wrap (l1 - x.High.size) = l1 - x.High.size := wrap_id (by omega) (by omega)
  conv => arg 1; ext k m; whnf
  refine Evs.cond (fun hc => ?_) (fun hc => ?_)
  · conv => arg 1; ext k m; whnf
    exact Evs.is ⟨-1, rfl, by omega, by omega⟩
  have hn1 := lt_ff hc
  rw [hw1] at hn1
  have hq1 : x.High.size ≤ 1048576 := by omega
  generalize IntKind.i64.wrap (l1 - x.High.size) = l2 at *
  have he1 := hw1
  conv => arg 1; ext k m; whnf
  exact Evs.is ⟨l2, rfl, by omega, fun _ => ⟨hq0, hq1⟩⟩
theorem szTableRefS (x : List TableRef) (l : Int) (h0 : 0 ≤ l) (h1 : l ≤ 1048576) (hr : smallL 140737488351232 x) : ∃ r : Int, Den E 31 [Arg.t false x, .int .i64 l] (.int .i64 r) ∧ r ≤ l ∧ (0 ≤ r → smallL 1048576 x) := by
  have hr1 := hr.1
  have hw : IntKind.i64.wrap (l - x.length) = l - x.length := wrap_id (by omega) (by omega)
  refine den_ex (den_of rfl (fnOf_eq Try.func31 (by decide)) rfl rfl rfl ?_)
  conv => arg 1; ext k m; whnf
  refine Evs.cond (fun hc => ?_) (fun hc => ?_)
  · conv => arg 1; ext k m; whnf
    exact Evs.is ⟨-1, rfl, by omega, by omega⟩
  have hn := lt_ff hc
  rw [hw] at hn
  conv => arg 1; ext k m; whnf
  refine Evs.loop (fun i : Nat × Int => ⟨[Arg.t false x, .int .i64 i.2, .undef, .undef, .int .i64 0, .int .i64 i.1] ++ replT 21, replL 27, []⟩) (fun i => i.1 ≤ x.length ∧ 0 ≤ i.2 ∧ i.2 ≤ l ∧ ∀ j, j < i.1 → Enc.small 1048576 (x.getD j Enc.dflt)) (fun i => x.length - i.1) (0, IntKind.i64.wrap (l - x.length)) ⟨Nat.zero_le _, by simp only [hw]; omega, by simp only [hw]; omega, fun j hj => absurd hj (Nat.not_lt_zero _)⟩ (fun K => rfl) (fun i hi ih => ?_)
  obtain ⟨i, c⟩ := i
  obtain ⟨hi1, hi2, hi3, hi4⟩ := hi
  simp only at hi1 hi2 hi3 hi4
  conv => arg 1; ext k m; whnf
  refine Evs.cond (fun h0 => ?_) (fun h0 => ?_)
  · have h1 : i < x.length := by have := lt_tt h0; omega
    conv => arg 1; ext k m; whnf
    refine Evs.pos ⟨by omega, by omega⟩ ?_
    obtain ⟨r, hd, hle, hq⟩ := szTableRef (x.getD i Enc.dflt) c (by omega) (by omega) (smallL_get hr h1)
    conv => arg 1; ext k m; whnf
    refine Evs.bnd hd (args2 false false (x.getD i Enc.dflt) c) ?_
    conv => arg 1; ext k m; whnf
    refine Evs.cond (fun hc => ?_) (fun hc => ?_)
    · conv => arg 1; ext k m; whnf
      exact Evs.is ⟨-1, rfl, by omega, by omega⟩
    have hn := lt_ff hc
    conv => arg 1; ext k m; whnf
    refine ih (i + 1, r) _ ⟨h1, by omega, by omega, upto_next' hi4 (hq (by omega))⟩ (by simp only; omega) (fun K => ?_)
    simp only [← wrap_inc (show i < 9223372036854775807 by omega)]
    rfl
  · have h1 : i = x.length := by have := lt_ff h0; omega
    conv => arg 1; ext k m; whnf
    subst h1
    exact Evs.is ⟨_, rfl, by omega, fun _ => smallL_mk (by omega) hi4⟩
theorem szVersion (x : Version) (l : Int) (h0 : 0 ≤ l) (h1 : l ≤ 1048576) (hr : Enc.small 140737488351232 x) : ∃ r : Int, Den E 10 [Arg.t false x, .int .i64 l] (.int .i64 r) ∧ r ≤ l ∧ (0 ≤ r → Enc.small 1048576 x) := by
  refine den_ex (den_of rfl (fnOf_eq Try.func10 (by decide)) rfl rfl rfl ?_)
  obtain ⟨l1, hd0, hl0, hq0⟩ := szTableRefS x.Tables l (by omega) (by omega) hr
  conv => arg 1; ext k m; whnf
  refine Evs.bnd hd0 (args2 false false x.Tables l) ?_
  conv => arg 1; ext k m; whnf
  refine Evs.cond (fun hc => ?_) (fun hc => ?_)
  · conv => arg 1; ext k m; whnf
    exact Evs.is ⟨-1, rfl, by omega, by omega⟩
  have hn0 := lt_ff hc
  conv => arg 1; ext k m; whnf
  exact Evs.is ⟨l1, rfl, by omega, fun _ => hq0 (by omega)⟩
theorem szRecord (x : Record) (l : Int) (h0 : 0 ≤ l) (h1 : l ≤ 1048576) (hr : Enc.small 140737488351232 x) : ∃ r : Int, Den E 32 [Arg.t false x, .int .i64 l] (.int .i64 r) ∧ r ≤ l ∧ (0 ≤ r → Enc.small 1048576 x) := by
  refine den_ex (den_of rfl (fnOf_eq Try.func32 (by decide)) rfl rfl rfl ?_)
  have hr0 : x.Key.size ≤ 140737488351232 := hr.1
  have hw0 : IntKind.i64.wrap (l - x.Key.size) = l - x.Key.size := wrap_id (by omega) (by omega)
  conv => arg 1; ext k m; whnf
  refine Evs.cond (fun hc => ?_) (fun hc => ?_)
  · conv => arg 1; ext k m; whnf
    exact Evs.is ⟨-1, rfl, by omega, by omega⟩
  have hn0 := lt_ff hc
  rw [hw0] at hn0
  have hq0 : x.Key.size ≤ 1048576 := by omega
  generalize IntKind.i64.wrap (l - x.Key.size) = l1 at *
  have he0 := hw0
  have hr1 : x.Value.size ≤ 140737488351232 := hr.2.1
  have hw1 : IntKind.i64.wrap (l1 - x.Value.size) = l1 - x.Value.size := wrap_id (by omega) (by omega)
  conv => arg 1; ext k m; whnf
  refine Evs.cond (fun hc => ?_) (fun hc => ?_)
  · conv => arg 1; ext k m; whnf
    exact Evs.is ⟨-1, rfl, by omega, by omega⟩
  have hn1 := lt_ff hc
  rw [hw1] at hn1
  have hq1 : x.Value.size ≤ 1048576 := by omega
  generalize IntKind.i64.wrap (l1 - x.Value.size) = l2 at *
  have he1 := hw1
  have hr2 : x.End.size ≤ 140737488351232 := hr.2.2
  have hw2 : IntKind.i64.wrap (l2 - x.End.size) = l2 - x.End.size := wrap_id (by omega) (by omega)
  conv => arg 1; ext k m; whnf
  refine Evs.cond (fun hc => ?_) (fun hc => ?_)
  · conv => arg 1; ext k m; whnf
    exact Evs.is ⟨-1, rfl, by omega, by omega⟩
  have hn2 := lt_ff hc
  rw [hw2] at hn2
  have hq2 : x.End.size ≤ 1048576 := by omega
  generalize IntKind.i64.wrap (l2 - x.End.size) = l3 at *
  have he2 := hw2
  conv => arg 1; ext k m; whnf
  exact Evs.is ⟨l3, rfl, by omega, fun _ => ⟨hq0, hq1, hq2⟩⟩
theorem szRecordS (x : List Record) (l : Int) (h0 : 0 ≤ l) (h1 : l ≤ 1048576) (hr : smallL 140737488351232 x) : ∃ r : Int, Den E 11 [Arg.t false x, .int .i64 l] (.int .i64 r) ∧ r ≤ l ∧ (0 ≤ r → smallL 1048576 x) := by
  have hr1 := hr.1
  have hw : IntKind.i64.wrap (l - x.length) = l - x.length := wrap_id (by omega) (by omega)
  refine den_ex (den_of rfl (fnOf_eq Try.func11 (by decide)) rfl rfl rfl ?_)
  conv => arg 1; ext k m; whnf
  refine Evs.cond (fun hc => ?_) (fun hc => ?_)
  · conv => arg 1; ext k m; whnf
    exact Evs.is ⟨-1, rfl, by omega, by omega⟩
  have hn := lt_ff hc
  rw [hw] at hn
  conv => arg 1; ext k m; whnf
  refine Evs.loop (fun i : Nat × Int => ⟨[Arg.t false x, .int .i64 i.2, .undef, .undef, .int .i64 0, .int .i64 i.1] ++ replT 21, replL 27, []⟩) (fun i => i.1 ≤ x.length ∧ 0 ≤ i.2 ∧ i.2 ≤ l ∧ ∀ j, j < i.1 → Enc.small 1048576 (x.getD j Enc.dflt)) (fun i => x.length - i.1) (0, IntKind.i64.wrap (l - x.length)) ⟨Nat.zero_le _, by simp only [hw]; omega, by simp only [hw]; omega, fun j hj => absurd hj (Nat.not_lt_zero _)⟩ (fun K => rfl) (fun i hi ih => ?_)
  obtain ⟨i, c⟩ := i
  obtain ⟨hi1, hi2, hi3, hi4⟩ := hi
  simp only at hi1 hi2 hi3 hi4
  conv => arg 1; ext k m; whnf
  refine Evs.cond (fun h0 => ?_) (fun h0 => ?_)
  · have h1 : i < x.length := by have := lt_tt h0; omega
    conv => arg 1; ext k m; whnf
    refine Evs.pos ⟨by omega, by omega⟩ ?_
    obtain ⟨r, hd, hle, hq⟩ := szRecord (x.getD i Enc.dflt) c (by omega) (by omega) (smallL_get hr h1)
    conv => arg 1; ext k m; whnf
    refine Evs.bnd hd (args2 false false (x.getD i Enc.dflt) c) ?_
    conv => arg 1; ext k m; whnf
    refine Evs.cond (fun hc => ?_) (fun hc => ?_)
    · conv => arg 1; ext k m; whnf
      exact Evs.is ⟨-1, rfl, by omega, by omega⟩
    have hn := lt_ff hc
    conv => arg 1; ext k m; whnf
    refine ih (i + 1, r) _ ⟨h1, by omega, by omega, upto_next' hi4 (hq (by omega))⟩ (by simp only; omega) (fun K => ?_)
    simp only [← wrap_inc (show i < 9223372036854775807 by omega)]
    rfl
  · have h1 : i = x.length := by have := lt_ff h0; omega
    conv => arg 1; ext k m; whnf
    subst h1
    exact Evs.is ⟨_, rfl, by omega, fun _ => smallL_mk (by omega) hi4⟩
theorem szDB (x : DB) (l : Int) (h0 : 0 ≤ l) (h1 : l ≤ 1048576) (hr : Enc.small 140737488351232 x) : ∃ r : Int, Den E 4 [Arg.t false x, .int .i64 l] (.int .i64 r) ∧ r ≤ l ∧ (0 ≤ r → Enc.small 1048576 x) := by
  refine den_ex (den_of rfl (fnOf_eq Try.func4 (by decide)) rfl rfl rfl ?_)
  obtain ⟨l1, hd0, hl0, hq0⟩ := szDevice x.Device l (by omega) (by omega) hr.1
  conv => arg 1; ext k m; whnf
  refine Evs.bnd hd0 (args2 false false x.Device l) ?_
  conv => arg 1; ext k m; whnf
  refine Evs.cond (fun hc => ?_) (fun hc => ?_)
  · conv => arg 1; ext k m; whnf
    exact Evs.is ⟨-1, rfl, by omega, by omega⟩
  have hn0 := lt_ff hc
  obtain ⟨l2, hd1, hl1, hq1⟩ := szVersion x.Version l1 (by omega) (by omega) hr.2.1
  conv => arg 1; ext k m; whnf
  refine Evs.bnd hd1 (args2 false false x.Version l1) ?_
  conv => arg 1; ext k m; whnf
  refine Evs.cond (fun hc => ?_) (fun hc => ?_)
  · conv => arg 1; ext k m; whnf
    exact Evs.is ⟨-1, rfl, by omega, by omega⟩
  have hn1 := lt_ff hc
  obtain ⟨l3, hd2, hl2, hq2⟩ := szRecordS x.Mem l2 (by omega) (by omega) hr.2.2.1
  conv => arg 1; ext k m; whnf
  refine Evs.bnd hd2 (args2 false false x.Mem l2) ?_
  conv => arg 1; ext k m; whnf
  refine Evs.cond (fun hc => ?_) (fun hc => ?_)
  · conv => arg 1; ext k m; whnf
    exact Evs.is ⟨-1, rfl, by omega, by omega⟩
  have hn2 := lt_ff hc
  obtain ⟨l4, hd3, hl3, hq3⟩ := szInt64S x.Snapshots l3 (by omega) (by omega) hr.2.2.2
  conv => arg 1; ext k m; whnf
  refine Evs.bnd hd3 (args2 false false x.Snapshots l3) ?_
  conv => arg 1; ext k m; whnf
  refine Evs.cond (fun hc => ?_) (fun hc => ?_)
  · conv => arg 1; ext k m; whnf
    exact Evs.is ⟨-1, rfl, by omega, by omega⟩
  have hn3 := lt_ff hc
  conv => arg 1; ext k m; whnf
  exact Evs.is ⟨l4, rfl, by omega, fun _ => ⟨hq0 (by omega), hq1 (by omega), hq2 (by omega), hq3 (by omega)⟩⟩
theorem toStringS (x : List ByteArray) (hs : smallL 1048576 x) : Den E 66 [Arg.t false x] (Arg.t true x) := by
  have hs1 := hs.1
  refine den_is (den_of rfl (fnOf_eq Try.func66 (by decide)) rfl rfl rfl ?_)
  conv => arg 1; ext k m; whnf
  refine Evs.pos ⟨by omega, by omega, by omega, show (x.length : Int) * 16 ≤ _ by omega⟩ ?_
  conv => arg 1; ext k m; whnf
  refine Evs.loop (fun i : Nat => ⟨[Arg.t false x, .undef, TV.lst true true false 1 0 (fun _ => [TV.str ByteArray.empty]), .own 0 0 0 x.length, .int .i64 i] ++ replT 17, replL 22, [⟨1, 0, x.length, upto i (fun j => Enc.enc true (x.getD j Enc.dflt)) (fun _ => [TV.str ByteArray.empty])⟩]⟩) (fun i => i ≤ x.length) (fun i => x.length - i) 0 (Nat.zero_le _) (fun K => ?_) (fun i hi ih => ?_)
  · simp only [upto_zero]; rfl
  conv => arg 1; ext k m; whnf
  refine Evs.cond (fun h0 => ?_) (fun h0 => ?_)
  · have h1 : i < x.length := by have := lt_tt h0; omega
    conv => arg 1; ext k m; whnf
    refine Evs.pos ⟨by omega, by omega⟩ ?_
    conv => arg 1; ext k m; whnf
    refine Evs.pos ⟨by omega, by omega⟩ ?_
    conv => arg 1; ext k m; whnf
    refine Evs.pos ⟨rfl, h1⟩ ?_
    conv => arg 1; ext k m; whnf
    refine ih (i + 1) _ h1 (by omega) (fun K => ?_)
    rw [← upto_succ i _ _ rfl, ← wrap_inc (by omega)]
    rfl
  · have h1 : i = x.length := by have := lt_ff h0; omega
    conv => arg 1; ext k m; whnf
    refine Evs.is (ret_own rfl rfl rfl (Nat.le_refl _) rfl ?_ ?_)
    · subst h1; exact upto_ret (by decide) fun _ => rfl
    · subst h1; exact upto_z fun _ => rfl
theorem toBlock (x : Block) (hs : Enc.small 1048576 x) : Den E 65 [Arg.t false x] (Arg.t true x) := by
  refine den_is (den_of rfl (fnOf_eq Try.func65 (by decide)) rfl rfl rfl ?_)
  conv => arg 1; ext k m; whnf
  refine Evs.bnd (toStringS _ hs) (args1 false _) ?_
  conv => arg 1; ext k m; whnf
  exact Evs.is (Arg.ret _ x)
theorem toBlockS (x : List Block) (hs : smallL 1048576 x) : Den E 53 [Arg.t false x] (Arg.t true x) := by
  have hs1 := hs.1
  refine den_is (den_of rfl (fnOf_eq Try.func53 (by decide)) rfl rfl rfl ?_)
  conv => arg 1; ext k m; whnf
  refine Evs.pos ⟨by omega, by omega, by omega, show (x.length : Int) * 48 ≤ _ by omega⟩ ?_
  conv => arg 1; ext k m; whnf
  refine Evs.loop (fun i : Nat => ⟨[Arg.t false x, .undef, TV.lst true true false 4 0 (fun _ => [TV.int .i64 0, TV.int .i64 0, TV.bool false, TV.lst true true false 1 0 (fun _ => [TV.str ByteArray.empty])]), .own 0 0 0 x.length, .int .i64 i] ++ replT 18, replL 23, [⟨4, 0, x.length, upto i (fun j => Enc.enc true (x.getD j Enc.dflt)) (fun _ => [TV.int .i64 0, TV.int .i64 0, TV.bool false, TV.lst true true false 1 0 (fun _ => [TV.str ByteArray.empty])])⟩]⟩) (fun i => i ≤ x.length) (fun i => x.length - i) 0 (Nat.zero_le _) (fun K => ?_) (fun i hi ih => ?_)
  · simp only [upto_zero]; rfl
  conv => arg 1; ext k m; whnf
  refine Evs.cond (fun h0 => ?_) (fun h0 => ?_)
  · have h1 : i < x.length := by have := lt_tt h0; omega
    conv => arg 1; ext k m; whnf
    refine Evs.pos ⟨by omega, by omega⟩ ?_
    conv => arg 1; ext k m; whnf
    refine Evs.bnd (toBlock _ (smallL_get hs h1)) (args1 false _) ?_
    conv => arg 1; ext k m; whnf
    refine Evs.pos ⟨by omega, by omega⟩ ?_
    conv => arg 1; ext k m; whnf
    refine Evs.pos ⟨rfl, h1⟩ ?_
    conv => arg 1; ext k m; whnf
    refine ih (i + 1) _ h1 (by omega) (fun K => ?_)
    rw [← upto_succ i _ _ rfl, ← wrap_inc (by omega)]
    rfl
  · have h1 : i = x.length := by have := lt_ff h0; omega
    conv => arg 1; ext k m; whnf
    refine Evs.is (ret_own rfl rfl rfl (Nat.le_refl _) rfl ?_ ?_)
    · subst h1; exact upto_ret (by decide) fun _ => rfl
    · subst h1; exact upto_z fun _ => rfl
theorem toGeometry (x : Geometry) (hs : Enc.small 1048576 x) : Den E 52 [Arg.t false x] (Arg.t true x) := by
  refine den_is (den_of rfl (fnOf_eq Try.func52 (by decide)) rfl rfl rfl ?_)
  conv => arg 1; ext k m; whnf
  exact Evs.is (Arg.ret _ x)
theorem toFlash (x : Flash) (hs : Enc.small 1048576 x) : Den E 36 [Arg.t false x] (Arg.t true x) := by
  refine den_is (den_of rfl (fnOf_eq Try.func36 (by decide)) rfl rfl rfl ?_)
  conv => arg 1; ext k m; whnf
  refine Evs.bnd (toGeometry _ trivial) (args1 false _) ?_
  conv => arg 1; ext k m; whnf
  refine Evs.bnd (toBlockS _ hs) (args1 false _) ?_
  conv => arg 1; ext k m; whnf
  exact Evs.is (Arg.ret _ x)
theorem toInt64S (x : List Int) (hs : smallL 1048576 x) : Den E 20 [Arg.t false x] (Arg.t true x) := by
  have hs1 := hs.1
  refine den_is (den_of rfl (fnOf_eq Try.func20 (by decide)) rfl rfl rfl ?_)
  conv => arg 1; ext k m; whnf
  refine Evs.pos ⟨by omega, by omega, by omega, show (x.length : Int) * 8 ≤ _ by omega⟩ ?_
  conv => arg 1; ext k m; whnf
  refine Evs.loop (fun i : Nat => ⟨[Arg.t false x, .undef, TV.lst true true false 1 0 (fun _ => [TV.int .i64 0]), .own 0 0 0 x.length, .int .i64 i] ++ replT 17, replL 22, [⟨1, 0, x.length, upto i (fun j => Enc.enc true (x.getD j Enc.dflt)) (fun _ => [TV.int .i64 0])⟩]⟩) (fun i => i ≤ x.length) (fun i => x.length - i) 0 (Nat.zero_le _) (fun K => ?_) (fun i hi ih => ?_)
  · simp only [upto_zero]; rfl
  conv => arg 1; ext k m; whnf
  refine Evs.cond (fun h0 => ?_) (fun h0 => ?_)
  · have h1 : i < x.length := by have := lt_tt h0; omega
    conv => arg 1; ext k m; whnf
    refine Evs.pos ⟨by omega, by omega⟩ ?_
    conv => arg 1; ext k m; whnf
    refine Evs.pos ⟨by omega, by omega⟩ ?_
    conv => arg 1; ext k m; whnf
    refine Evs.pos ⟨rfl, h1⟩ ?_
    conv => arg 1; ext k m; whnf
    refine ih (i + 1) _ h1 (by omega) (fun K => ?_)
    rw [← upto_succ i _ _ rfl, ← wrap_inc (by omega)]
    rfl
  · have h1 : i = x.length := by have := lt_ff h0; omega
    conv => arg 1; ext k m; whnf
    refine Evs.is (ret_own rfl rfl rfl (Nat.le_refl _) rfl ?_ ?_)
    · subst h1; exact upto_ret (by decide) fun _ => rfl
    · subst h1; exact upto_z fun _ => rfl
theorem toZone (x : Zone) (hs : Enc.small 1048576 x) : Den E 54 [Arg.t false x] (Arg.t true x) := by
  refine den_is (den_of rfl (fnOf_eq Try.func54 (by decide)) rfl rfl rfl ?_)
  conv => arg 1; ext k m; whnf
  refine Evs.bnd (toInt64S _ hs.1) (args1 false _) ?_
  conv => arg 1; ext k m; whnf
  refine Evs.bnd (toInt64S _ hs.2.1) (args1 false _) ?_
  conv => arg 1; ext k m; whnf
  refine Evs.bnd (toStringS _ hs.2.2) (args1 false _) ?_
  conv => arg 1; ext k m; whnf
  exact Evs.is (Arg.ret _ x)
theorem toZoneS (x : List Zone) (hs : smallL 1048576 x) : Den E 37 [Arg.t false x] (Arg.t true x) := by
  have hs1 := hs.1
  refine den_is (den_of rfl (fnOf_eq Try.func37 (by decide)) rfl rfl rfl ?_)
  conv => arg 1; ext k m; whnf
  refine Evs.pos ⟨by omega, by omega, by omega, show (x.length : Int) * 96 ≤ _ by omega⟩ ?_
  conv => arg 1; ext k m; whnf
  refine Evs.loop (fun i : Nat => ⟨[Arg.t false x, .undef, TV.lst true true false 6 0 (fun _ => [TV.int .i64 0, TV.lst true true false 1 0 (fun _ => [TV.int .i64 0]), TV.int .i64 0, TV.int .i64 0, TV.lst true true false 1 0 (fun _ => [TV.int .i64 0]), TV.lst true true false 1 0 (fun _ => [TV.str ByteArray.empty])]), .own 0 0 0 x.length, .int .i64 i] ++ replT 18, replL 23, [⟨6, 0, x.length, upto i (fun j => Enc.enc true (x.getD j Enc.dflt)) (fun _ => [TV.int .i64 0, TV.lst true true false 1 0 (fun _ => [TV.int .i64 0]), TV.int .i64 0, TV.int .i64 0, TV.lst true true false 1 0 (fun _ => [TV.int .i64 0]), TV.lst true true false 1 0 (fun _ => [TV.str ByteArray.empty])])⟩]⟩) (fun i => i ≤ x.length) (fun i => x.length - i) 0 (Nat.zero_le _) (fun K => ?_) (fun i hi ih => ?_)
  · simp only [upto_zero]; rfl
  conv => arg 1; ext k m; whnf
  refine Evs.cond (fun h0 => ?_) (fun h0 => ?_)
  · have h1 : i < x.length := by have := lt_tt h0; omega
    conv => arg 1; ext k m; whnf
    refine Evs.pos ⟨by omega, by omega⟩ ?_
    conv => arg 1; ext k m; whnf
    refine Evs.bnd (toZone _ (smallL_get hs h1)) (args1 false _) ?_
    conv => arg 1; ext k m; whnf
    refine Evs.pos ⟨by omega, by omega⟩ ?_
    conv => arg 1; ext k m; whnf
    refine Evs.pos ⟨rfl, h1⟩ ?_
    conv => arg 1; ext k m; whnf
    refine ih (i + 1) _ h1 (by omega) (fun K => ?_)
    rw [← upto_succ i _ _ rfl, ← wrap_inc (by omega)]
    rfl
  · have h1 : i = x.length := by have := lt_ff h0; omega
    conv => arg 1; ext k m; whnf
    refine Evs.is (ret_own rfl rfl rfl (Nat.le_refl _) rfl ?_ ?_)
    · subst h1; exact upto_ret (by decide) fun _ => rfl
    · subst h1; exact upto_z fun _ => rfl
theorem toDevice (x : Device) (hs : Enc.small 1048576 x) : Den E 17 [Arg.t false x] (Arg.t true x) := by
  refine den_is (den_of rfl (fnOf_eq Try.func17 (by decide)) rfl rfl rfl ?_)
  conv => arg 1; ext k m; whnf
  refine Evs.bnd (toFlash _ hs.1) (args1 false _) ?_
  conv => arg 1; ext k m; whnf
  refine Evs.bnd (toZoneS _ hs.2) (args1 false _) ?_
  conv => arg 1; ext k m; whnf
  exact Evs.is (Arg.ret _ x)
theorem toTableRef (x : TableRef) (hs : Enc.small 1048576 x) : Den E 55 [Arg.t false x] (Arg.t true x) := by
  refine den_is (den_of rfl (fnOf_eq Try.func55 (by decide)) rfl rfl rfl ?_)
  conv => arg 1; ext k m; whnf
  exact Evs.is (Arg.ret _ x)
theorem toTableRefS (x : List TableRef) (hs : smallL 1048576 x) : Den E 38 [Arg.t false x] (Arg.t true x) := by
  have hs1 := hs.1
  refine den_is (den_of rfl (fnOf_eq Try.func38 (by decide)) rfl rfl rfl ?_)
  conv => arg 1; ext k m; whnf
  refine Evs.pos ⟨by omega, by omega, by omega, show (x.length : Int) * 96 ≤ _ by omega⟩ ?_
  conv => arg 1; ext k m; whnf
  refine Evs.loop (fun i : Nat => ⟨[Arg.t false x, .undef, TV.lst true true false 10 0 (fun _ => [TV.int .i64 0, TV.int .i64 0, TV.int .i64 0, TV.int .i64 0, TV.int .i64 0, TV.str ByteArray.empty, TV.str ByteArray.empty, TV.int .i64 0, TV.int .i64 0, TV.int .i64 0]), .own 0 0 0 x.length, .int .i64 i] ++ replT 18, replL 23, [⟨10, 0, x.length, upto i (fun j => Enc.enc true (x.getD j Enc.dflt)) (fun _ => [TV.int .i64 0, TV.int .i64 0, TV.int .i64 0, TV.int .i64 0, TV.int .i64 0, TV.str ByteArray.empty, TV.str ByteArray.empty, TV.int .i64 0, TV.int .i64 0, TV.int .i64 0])⟩]⟩) (fun i => i ≤ x.length) (fun i => x.length - i) 0 (Nat.zero_le _) (fun K => ?_) (fun i hi ih => ?_)
  · simp only [upto_zero]; rfl
  conv => arg 1; ext k m; whnf
  refine Evs.cond (fun h0 => ?_) (fun h0 => ?_)
  · have h1 : i < x.length := by have := lt_tt h0; omega
    conv => arg 1; ext k m; whnf
    refine Evs.pos ⟨by omega, by omega⟩ ?_
    conv => arg 1; ext k m; whnf
    refine Evs.bnd (toTableRef _ (smallL_get hs h1)) (args1 false _) ?_
    conv => arg 1; ext k m; whnf
    refine Evs.pos ⟨by omega, by omega⟩ ?_
    conv => arg 1; ext k m; whnf
    refine Evs.pos ⟨rfl, h1⟩ ?_
    conv => arg 1; ext k m; whnf
    refine ih (i + 1) _ h1 (by omega) (fun K => ?_)
    rw [← upto_succ i _ _ rfl, ← wrap_inc (by omega)]
    rfl
  · have h1 : i = x.length := by have := lt_ff h0; omega
    conv => arg 1; ext k m; whnf
    refine Evs.is (ret_own rfl rfl rfl (Nat.le_refl _) rfl ?_ ?_)
    · subst h1; exact upto_ret (by decide) fun _ => rfl
    · subst h1; exact upto_z fun _ => rfl
theorem toVersion (x : Version) (hs : Enc.small 1048576 x) : Den E 18 [Arg.t false x] (Arg.t true x) := by
  refine den_is (den_of rfl (fnOf_eq Try.func18 (by decide)) rfl rfl rfl ?_)
  conv => arg 1; ext k m; whnf
  refine Evs.bnd (toTableRefS _ hs) (args1 false _) ?_
  conv => arg 1; ext k m; whnf
  exact Evs.is (Arg.ret _ x)
theorem toRecord (x : Record) (hs : Enc.small 1048576 x) : Den E 39 [Arg.t false x] (Arg.t true x) := by
  refine den_is (den_of rfl (fnOf_eq Try.func39 (by decide)) rfl rfl rfl ?_)
  conv => arg 1; ext k m; whnf
  exact Evs.is (Arg.ret _ x)
theorem toRecordS (x : List Record) (hs : smallL 1048576 x) : Den E 19 [Arg.t false x] (Arg.t true x) := by
  have hs1 := hs.1
  refine den_is (den_of rfl (fnOf_eq Try.func19 (by decide)) rfl rfl rfl ?_)
  conv => arg 1; ext k m; whnf
  refine Evs.pos ⟨by omega, by omega, by omega, show (x.length : Int) * 64 ≤ _ by omega⟩ ?_
  conv => arg 1; ext k m; whnf
  refine Evs.loop (fun i : Nat => ⟨[Arg.t false x, .undef, TV.lst true true false 5 0 (fun _ => [TV.str ByteArray.empty, TV.int .i64 0, TV.int .i64 0, TV.str ByteArray.empty, TV.str ByteArray.empty]), .own 0 0 0 x.length, .int .i64 i] ++ replT 18, replL 23, [⟨5, 0, x.length, upto i (fun j => Enc.enc true (x.getD j Enc.dflt)) (fun _ => [TV.str ByteArray.empty, TV.int .i64 0, TV.int .i64 0, TV.str ByteArray.empty, TV.str ByteArray.empty])⟩]⟩) (fun i => i ≤ x.length) (fun i => x.length - i) 0 (Nat.zero_le _) (fun K => ?_) (fun i hi ih => ?_)
  · simp only [upto_zero]; rfl
  conv => arg 1; ext k m; whnf
  refine Evs.cond (fun h0 => ?_) (fun h0 => ?_)
  · have h1 : i < x.length := by have := lt_tt h0; omega
    conv => arg 1; ext k m; whnf
    refine Evs.pos ⟨by omega, by omega⟩ ?_
    conv => arg 1; ext k m; whnf
    refine Evs.bnd (toRecord _ (smallL_get hs h1)) (args1 false _) ?_
    conv => arg 1; ext k m; whnf
    refine Evs.pos ⟨by omega, by omega⟩ ?_
    conv => arg 1; ext k m; whnf
    refine Evs.pos ⟨rfl, h1⟩ ?_
    conv => arg 1; ext k m; whnf
    refine ih (i + 1) _ h1 (by omega) (fun K => ?_)
    rw [← upto_succ i _ _ rfl, ← wrap_inc (by omega)]
    rfl
  · have h1 : i = x.length := by have := lt_ff h0; omega
    conv => arg 1; ext k m; whnf
    refine Evs.is (ret_own rfl rfl rfl (Nat.le_refl _) rfl ?_ ?_)
    · subst h1; exact upto_ret (by decide) fun _ => rfl
    · subst h1; exact upto_z fun _ => rfl
theorem toDB (x : DB) (hs : Enc.small 1048576 x) : Den E 6 [Arg.t false x] (Arg.t true x) := by
  refine den_is (den_of rfl (fnOf_eq Try.func6 (by decide)) rfl rfl rfl ?_)
  conv => arg 1; ext k m; whnf
  refine Evs.bnd (toDevice _ hs.1) (args1 false _) ?_
  conv => arg 1; ext k m; whnf
  refine Evs.bnd (toVersion _ hs.2.1) (args1 false _) ?_
  conv => arg 1; ext k m; whnf
  refine Evs.bnd (toRecordS _ hs.2.2.1) (args1 false _) ?_
  conv => arg 1; ext k m; whnf
  refine Evs.bnd (toInt64S _ hs.2.2.2) (args1 false _) ?_
  conv => arg 1; ext k m; whnf
  exact Evs.is (Arg.ret _ x)
end Go.Proofs.YtbdkjkedjldheaaTv.Ytbdkjkedjldheaa
