/- What the functions under SameDB answer. Conditions: none. -/
import Derived.Test.YtbdkjkedjldheaaTvF
namespace Go.Proofs.YtbdkjkedjldheaaTv.Ytbdkjkedjldheaa
set_option linter.unusedVariables false
set_option linter.unusedSimpArgs false
set_option maxRecDepth 10000
open Go Go.Proofs.YtbdkjkedjldheaaTv Go.Proofs
theorem l00Same (x y : List Int) (hx : smallL 1048576 x) : ∃ b, Den E 16 [Arg.t false x, Arg.t false y] (.bool b) ∧ (b = true ↔ x = y) := by
  have hx1 := hx.1
  refine den_ex (den_of rfl (fnOf_eq Try.func16 (by decide)) rfl rfl rfl ?_)
  conv => arg 1; ext k m; whnf
  refine Evs.cond (fun h => ?_) (fun h => ?_)
  · conv => arg 1; ext k m; whnf
    exact Evs.is ⟨false, rfl, ff_iff (len_ne h)⟩
  have hl := len_eq h
  conv => arg 1; ext k m; whnf
  refine Evs.loop (fun i : Nat => ⟨[Arg.t false x, Arg.t false y, .undef, .undef, .bool false, .int .i64 i] ++ replT 20, replL 26, []⟩) (fun i => i ≤ x.length ∧ ∀ j, j < i → x.getD j Enc.dflt = y.getD j Enc.dflt) (fun i => x.length - i) 0 ⟨Nat.zero_le _, fun j hj => absurd hj (Nat.not_lt_zero _)⟩ (fun K => rfl) (fun i hi ih => ?_)
  obtain ⟨hi1, hi2⟩ := hi
  conv => arg 1; ext k m; whnf
  refine Evs.cond (fun h0 => ?_) (fun h0 => ?_)
  · have h1 : i < x.length := by have := lt_tt h0; omega
    conv => arg 1; ext k m; whnf
    refine Evs.pos ⟨by omega, by omega⟩ ?_
    conv => arg 1; ext k m; whnf
    refine Evs.pos ⟨by omega, by omega⟩ ?_
    conv => arg 1; ext k m; whnf
    refine Evs.cond (fun h => ?_) (fun h => ?_)
    · conv => arg 1; ext k m; whnf
      exact Evs.is ⟨false, rfl, ff_iff fun e => (bne_ne h : ¬ x.getD i Enc.dflt = y.getD i Enc.dflt) (by rw [e])⟩
    have e : x.getD i Enc.dflt = y.getD i Enc.dflt := bne_eq h
    conv => arg 1; ext k m; whnf
    refine ih (i + 1) _ ⟨h1, upto_next hi2 e⟩ (by omega) (fun K => ?_)
    rw [← wrap_inc (by omega)]
    rfl
  · have h1 : i = x.length := by have := lt_ff h0; omega
    conv => arg 1; ext k m; whnf
    subst h1
    exact Evs.is ⟨true, rfl, tt_iff (list_eq_getD hl hi2)⟩
theorem l16SameInts (x y : List Int) (hx : smallL 1048576 x) : ∃ b, Den E 34 [Arg.t false x, Arg.t false y] (.bool b) ∧ (b = true ↔ x = y) := by
  have hx1 := hx.1
  refine den_ex (den_of rfl (fnOf_eq Try.func34 (by decide)) rfl rfl rfl ?_)
  conv => arg 1; ext k m; whnf
  refine Evs.cond (fun h => ?_) (fun h => ?_)
  · conv => arg 1; ext k m; whnf
    exact Evs.is ⟨false, rfl, ff_iff (len_ne h)⟩
  have hl := len_eq h
  conv => arg 1; ext k m; whnf
  refine Evs.loop (fun i : Nat => ⟨[Arg.t false x, Arg.t false y, .undef, .undef, .bool false, .int .i64 i] ++ replT 20, replL 26, []⟩) (fun i => i ≤ x.length ∧ ∀ j, j < i → x.getD j Enc.dflt = y.getD j Enc.dflt) (fun i => x.length - i) 0 ⟨Nat.zero_le _, fun j hj => absurd hj (Nat.not_lt_zero _)⟩ (fun K => rfl) (fun i hi ih => ?_)
  obtain ⟨hi1, hi2⟩ := hi
  conv => arg 1; ext k m; whnf
  refine Evs.cond (fun h0 => ?_) (fun h0 => ?_)
  · have h1 : i < x.length := by have := lt_tt h0; omega
    conv => arg 1; ext k m; whnf
    refine Evs.pos ⟨by omega, by omega⟩ ?_
    conv => arg 1; ext k m; whnf
    refine Evs.pos ⟨by omega, by omega⟩ ?_
    conv => arg 1; ext k m; whnf
    refine Evs.cond (fun h => ?_) (fun h => ?_)
    · conv => arg 1; ext k m; whnf
      exact Evs.is ⟨false, rfl, ff_iff fun e => (bne_ne h : ¬ x.getD i Enc.dflt = y.getD i Enc.dflt) (by rw [e])⟩
    have e : x.getD i Enc.dflt = y.getD i Enc.dflt := bne_eq h
    conv => arg 1; ext k m; whnf
    refine ih (i + 1) _ ⟨h1, upto_next hi2 e⟩ (by omega) (fun K => ?_)
    rw [← wrap_inc (by omega)]
    rfl
  · have h1 : i = x.length := by have := lt_ff h0; omega
    conv => arg 1; ext k m; whnf
    subst h1
    exact Evs.is ⟨true, rfl, tt_iff (list_eq_getD hl hi2)⟩
theorem l16SameTexts (x y : List ByteArray) (hx : smallL 1048576 x) : ∃ b, Den E 35 [Arg.t false x, Arg.t false y] (.bool b) ∧ (b = true ↔ x = y) := by
  have hx1 := hx.1
  refine den_ex (den_of rfl (fnOf_eq Try.func35 (by decide)) rfl rfl rfl ?_)
  conv => arg 1; ext k m; whnf
  refine Evs.cond (fun h => ?_) (fun h => ?_)
  · conv => arg 1; ext k m; whnf
    exact Evs.is ⟨false, rfl, ff_iff (len_ne h)⟩
  have hl := len_eq h
  conv => arg 1; ext k m; whnf
  refine Evs.loop (fun i : Nat => ⟨[Arg.t false x, Arg.t false y, .undef, .undef, .bool false, .int .i64 i] ++ replT 20, replL 26, []⟩) (fun i => i ≤ x.length ∧ ∀ j, j < i → x.getD j Enc.dflt = y.getD j Enc.dflt) (fun i => x.length - i) 0 ⟨Nat.zero_le _, fun j hj => absurd hj (Nat.not_lt_zero _)⟩ (fun K => rfl) (fun i hi ih => ?_)
  obtain ⟨hi1, hi2⟩ := hi
  conv => arg 1; ext k m; whnf
  refine Evs.cond (fun h0 => ?_) (fun h0 => ?_)
  · have h1 : i < x.length := by have := lt_tt h0; omega
    conv => arg 1; ext k m; whnf
    refine Evs.pos ⟨by omega, by omega⟩ ?_
    conv => arg 1; ext k m; whnf
    refine Evs.pos ⟨by omega, by omega⟩ ?_
    conv => arg 1; ext k m; whnf
    refine Evs.cond (fun h => ?_) (fun h => ?_)
    · conv => arg 1; ext k m; whnf
      exact Evs.is ⟨false, rfl, ff_iff fun e => (not_ne h str_iff : ¬ x.getD i Enc.dflt = y.getD i Enc.dflt) (by rw [e])⟩
    have e : x.getD i Enc.dflt = y.getD i Enc.dflt := not_eq h str_iff
    conv => arg 1; ext k m; whnf
    refine ih (i + 1) _ ⟨h1, upto_next hi2 e⟩ (by omega) (fun K => ?_)
    rw [← wrap_inc (by omega)]
    rfl
  · have h1 : i = x.length := by have := lt_ff h0; omega
    conv => arg 1; ext k m; whnf
    subst h1
    exact Evs.is ⟨true, rfl, tt_iff (list_eq_getD hl hi2)⟩
theorem l28SameRun (x y : List Record) (hx : smallL 1048576 x) : ∃ b, Den E 15 [Arg.t false x, Arg.t false y] (.bool b) ∧ (b = true ↔ x = y) := by
  have hx1 := hx.1
  refine den_ex (den_of rfl (fnOf_eq Try.func15 (by decide)) rfl rfl rfl ?_)
  conv => arg 1; ext k m; whnf
  refine Evs.cond (fun h => ?_) (fun h => ?_)
  · conv => arg 1; ext k m; whnf
    exact Evs.is ⟨false, rfl, ff_iff (len_ne h)⟩
  have hl := len_eq h
  conv => arg 1; ext k m; whnf
  refine Evs.loop (fun i : Nat => ⟨[Arg.t false x, Arg.t false y, .undef, .undef, .bool false, .int .i64 i] ++ replT 20, replL 26, []⟩) (fun i => i ≤ x.length ∧ ∀ j, j < i → x.getD j Enc.dflt = y.getD j Enc.dflt) (fun i => x.length - i) 0 ⟨Nat.zero_le _, fun j hj => absurd hj (Nat.not_lt_zero _)⟩ (fun K => rfl) (fun i hi ih => ?_)
  obtain ⟨hi1, hi2⟩ := hi
  conv => arg 1; ext k m; whnf
  refine Evs.cond (fun h0 => ?_) (fun h0 => ?_)
  · have h1 : i < x.length := by have := lt_tt h0; omega
    conv => arg 1; ext k m; whnf
    refine Evs.pos ⟨by omega, by omega⟩ ?_
    conv => arg 1; ext k m; whnf
    refine Evs.pos ⟨by omega, by omega⟩ ?_
    conv => arg 1; ext k m; whnf
    refine Evs.cond (fun h => ?_) (fun h => ?_)
    · conv => arg 1; ext k m; whnf
      exact Evs.is ⟨false, rfl, ff_iff fun e => (not_ne h (Record_iff _ _) : ¬ x.getD i Enc.dflt = y.getD i Enc.dflt) (by rw [e])⟩
    have e : x.getD i Enc.dflt = y.getD i Enc.dflt := not_eq h (Record_iff _ _)
    conv => arg 1; ext k m; whnf
    refine ih (i + 1) _ ⟨h1, upto_next hi2 e⟩ (by omega) (fun K => ?_)
    rw [← wrap_inc (by omega)]
    rfl
  · have h1 : i = x.length := by have := lt_ff h0; omega
    conv => arg 1; ext k m; whnf
    subst h1
    exact Evs.is ⟨true, rfl, tt_iff (list_eq_getD hl hi2)⟩
theorem slInt (x y : List Int) (hx : smallL 1048576 x) : ∃ b, Den E 24 [Arg.t false x, Arg.t false y] (.bool b) ∧ (b = true ↔ x = y) := by
  have hx1 := hx.1
  refine den_ex (den_of rfl (fnOf_eq Try.func24 (by decide)) rfl rfl rfl ?_)
  conv => arg 1; ext k m; whnf
  refine Evs.cond (fun h => ?_) (fun h => ?_)
  · conv => arg 1; ext k m; whnf
    exact Evs.is ⟨false, rfl, ff_iff (len_ne h)⟩
  have hl := len_eq h
  conv => arg 1; ext k m; whnf
  refine Evs.loop (fun i : Nat => ⟨[Arg.t false x, Arg.t false y, .undef, .undef, .bool false, .undef, .undef, .undef, .undef, .undef, .undef, .undef, .int .i64 x.length, .int .i64 i] ++ replT 12, replL 26, []⟩) (fun i => i ≤ x.length ∧ ∀ j, j < i → x.getD j Enc.dflt = y.getD j Enc.dflt) (fun i => x.length - i) 0 ⟨Nat.zero_le _, fun j hj => absurd hj (Nat.not_lt_zero _)⟩ (fun K => rfl) (fun i hi ih => ?_)
  obtain ⟨hi1, hi2⟩ := hi
  conv => arg 1; ext k m; whnf
  refine Evs.cond (fun h0 => ?_) (fun h0 => ?_)
  · have h1 : i < x.length := by have := lt_tt h0; omega
    conv => arg 1; ext k m; whnf
    refine Evs.pos ⟨by omega, by omega⟩ ?_
    conv => arg 1; ext k m; whnf
    refine Evs.pos ⟨by omega, by omega⟩ ?_
    conv => arg 1; ext k m; whnf
    refine Evs.cond (fun h => ?_) (fun h => ?_)
    · conv => arg 1; ext k m; whnf
      exact Evs.is ⟨false, rfl, ff_iff fun e => (bne_ne h : ¬ x.getD i Enc.dflt = y.getD i Enc.dflt) (by rw [e])⟩
    have e : x.getD i Enc.dflt = y.getD i Enc.dflt := bne_eq h
    conv => arg 1; ext k m; whnf
    refine ih (i + 1) _ ⟨h1, upto_next hi2 e⟩ (by omega) (fun K => ?_)
    rw [← wrap_inc (by omega)]
    rfl
  · have h1 : i = x.length := by have := lt_ff h0; omega
    conv => arg 1; ext k m; whnf
    subst h1
    exact Evs.is ⟨true, rfl, tt_iff (list_eq_getD hl hi2)⟩
theorem slStr (x y : List ByteArray) (hx : smallL 1048576 x) : ∃ b, Den E 58 [Arg.t false x, Arg.t false y] (.bool b) ∧ (b = true ↔ x = y) := by
  have hx1 := hx.1
  refine den_ex (den_of rfl (fnOf_eq Try.func58 (by decide)) rfl rfl rfl ?_)
  conv => arg 1; ext k m; whnf
  refine Evs.cond (fun h => ?_) (fun h => ?_)
  · conv => arg 1; ext k m; whnf
    exact Evs.is ⟨false, rfl, ff_iff (len_ne h)⟩
  have hl := len_eq h
  conv => arg 1; ext k m; whnf
  refine Evs.loop (fun i : Nat => ⟨[Arg.t false x, Arg.t false y, .undef, .undef, .bool false, .undef, .undef, .undef, .undef, .undef, .undef, .undef, .int .i64 x.length, .int .i64 i] ++ replT 12, replL 26, []⟩) (fun i => i ≤ x.length ∧ ∀ j, j < i → x.getD j Enc.dflt = y.getD j Enc.dflt) (fun i => x.length - i) 0 ⟨Nat.zero_le _, fun j hj => absurd hj (Nat.not_lt_zero _)⟩ (fun K => rfl) (fun i hi ih => ?_)
  obtain ⟨hi1, hi2⟩ := hi
  conv => arg 1; ext k m; whnf
  refine Evs.cond (fun h0 => ?_) (fun h0 => ?_)
  · have h1 : i < x.length := by have := lt_tt h0; omega
    conv => arg 1; ext k m; whnf
    refine Evs.pos ⟨by omega, by omega⟩ ?_
    conv => arg 1; ext k m; whnf
    refine Evs.pos ⟨by omega, by omega⟩ ?_
    conv => arg 1; ext k m; whnf
    refine Evs.cond (fun h => ?_) (fun h => ?_)
    · conv => arg 1; ext k m; whnf
      exact Evs.is ⟨false, rfl, ff_iff fun e => (not_ne h str_iff : ¬ x.getD i Enc.dflt = y.getD i Enc.dflt) (by rw [e])⟩
    have e : x.getD i Enc.dflt = y.getD i Enc.dflt := not_eq h str_iff
    conv => arg 1; ext k m; whnf
    refine ih (i + 1) _ ⟨h1, upto_next hi2 e⟩ (by omega) (fun K => ?_)
    rw [← wrap_inc (by omega)]
    rfl
  · have h1 : i = x.length := by have := lt_ff h0; omega
    conv => arg 1; ext k m; whnf
    subst h1
    exact Evs.is ⟨true, rfl, tt_iff (list_eq_getD hl hi2)⟩
theorem slRec (x y : List Record) (hx : smallL 1048576 x) : ∃ b, Den E 23 [Arg.t false x, Arg.t false y] (.bool b) ∧ (b = true ↔ x = y) := by
  have hx1 := hx.1
  refine den_ex (den_of rfl (fnOf_eq Try.func23 (by decide)) rfl rfl rfl ?_)
  conv => arg 1; ext k m; whnf
  refine Evs.cond (fun h => ?_) (fun h => ?_)
  · conv => arg 1; ext k m; whnf
    exact Evs.is ⟨false, rfl, ff_iff (len_ne h)⟩
  have hl := len_eq h
  conv => arg 1; ext k m; whnf
  refine Evs.loop (fun i : Nat => ⟨[Arg.t false x, Arg.t false y, .undef, .undef, .bool false, .undef, .undef, .undef, .undef, .undef, .undef, .undef, .int .i64 x.length, .int .i64 i] ++ replT 12, replL 26, []⟩) (fun i => i ≤ x.length ∧ ∀ j, j < i → x.getD j Enc.dflt = y.getD j Enc.dflt) (fun i => x.length - i) 0 ⟨Nat.zero_le _, fun j hj => absurd hj (Nat.not_lt_zero _)⟩ (fun K => rfl) (fun i hi ih => ?_)
  obtain ⟨hi1, hi2⟩ := hi
  conv => arg 1; ext k m; whnf
  refine Evs.cond (fun h0 => ?_) (fun h0 => ?_)
  · have h1 : i < x.length := by have := lt_tt h0; omega
    conv => arg 1; ext k m; whnf
    refine Evs.pos ⟨by omega, by omega⟩ ?_
    conv => arg 1; ext k m; whnf
    refine Evs.pos ⟨by omega, by omega⟩ ?_
    conv => arg 1; ext k m; whnf
    refine Evs.cond (fun h => ?_) (fun h => ?_)
    · conv => arg 1; ext k m; whnf
      exact Evs.is ⟨false, rfl, ff_iff fun e => (not_ne h (Record_iff _ _) : ¬ x.getD i Enc.dflt = y.getD i Enc.dflt) (by rw [e])⟩
    have e : x.getD i Enc.dflt = y.getD i Enc.dflt := not_eq h (Record_iff _ _)
    conv => arg 1; ext k m; whnf
    refine ih (i + 1) _ ⟨h1, upto_next hi2 e⟩ (by omega) (fun K => ?_)
    rw [← wrap_inc (by omega)]
    rfl
  · have h1 : i = x.length := by have := lt_ff h0; omega
    conv => arg 1; ext k m; whnf
    subst h1
    exact Evs.is ⟨true, rfl, tt_iff (list_eq_getD hl hi2)⟩
theorem slRef (x y : List TableRef) (hx : smallL 1048576 x) : ∃ b, Den E 43 [Arg.t false x, Arg.t false y] (.bool b) ∧ (b = true ↔ x = y) := by
  have hx1 := hx.1
  refine den_ex (den_of rfl (fnOf_eq Try.func43 (by decide)) rfl rfl rfl ?_)
  conv => arg 1; ext k m; whnf
  refine Evs.cond (fun h => ?_) (fun h => ?_)
  · conv => arg 1; ext k m; whnf
    exact Evs.is ⟨false, rfl, ff_iff (len_ne h)⟩
  have hl := len_eq h
  conv => arg 1; ext k m; whnf
  refine Evs.loop (fun i : Nat => ⟨[Arg.t false x, Arg.t false y, .undef, .undef, .bool false, .undef, .undef, .undef, .undef, .undef, .undef, .undef, .int .i64 x.length, .int .i64 i] ++ replT 12, replL 26, []⟩) (fun i => i ≤ x.length ∧ ∀ j, j < i → x.getD j Enc.dflt = y.getD j Enc.dflt) (fun i => x.length - i) 0 ⟨Nat.zero_le _, fun j hj => absurd hj (Nat.not_lt_zero _)⟩ (fun K => rfl) (fun i hi ih => ?_)
  obtain ⟨hi1, hi2⟩ := hi
  conv => arg 1; ext k m; whnf
  refine Evs.cond (fun h0 => ?_) (fun h0 => ?_)
  · have h1 : i < x.length := by have := lt_tt h0; omega
    conv => arg 1; ext k m; whnf
    refine Evs.pos ⟨by omega, by omega⟩ ?_
    conv => arg 1; ext k m; whnf
    refine Evs.pos ⟨by omega, by omega⟩ ?_
    conv => arg 1; ext k m; whnf
    refine Evs.cond (fun h => ?_) (fun h => ?_)
    · conv => arg 1; ext k m; whnf
      exact Evs.is ⟨false, rfl, ff_iff fun e => (not_ne h (TableRef_iff _ _) : ¬ x.getD i Enc.dflt = y.getD i Enc.dflt) (by rw [e])⟩
    have e : x.getD i Enc.dflt = y.getD i Enc.dflt := not_eq h (TableRef_iff _ _)
    conv => arg 1; ext k m; whnf
    refine ih (i + 1) _ ⟨h1, upto_next hi2 e⟩ (by omega) (fun K => ?_)
    rw [← wrap_inc (by omega)]
    rfl
  · have h1 : i = x.length := by have := lt_ff h0; omega
    conv => arg 1; ext k m; whnf
    subst h1
    exact Evs.is ⟨true, rfl, tt_iff (list_eq_getD hl hi2)⟩
theorem sameBlock (x y : Block) (hx : Enc.small 1048576 x) : ∃ b, Den E 57 [Arg.t false x, Arg.t false y] (.bool b) ∧ (b = true ↔ x = y) := by
  refine den_ex (den_of rfl (fnOf_eq Try.func57 (by decide)) rfl rfl rfl ?_)
  conv => arg 1; ext k m; whnf
  refine Evs.cond (fun h => ?_) (fun h => ?_)
  rotate_left
  · conv => arg 1; ext k m; whnf
    exact Evs.is ⟨false, rfl, ff_iff fun e => (eql_ff h int_iff : ¬ x.Erases = y.Erases) (by rw [e])⟩
  have e0 : x.Erases = y.Erases := eql_tt h int_iff
  conv => arg 1; ext k m; whnf
  refine Evs.cond (fun h => ?_) (fun h => ?_)
  rotate_left
  · conv => arg 1; ext k m; whnf
    exact Evs.is ⟨false, rfl, ff_iff fun e => (eql_ff h int_iff : ¬ x.Next = y.Next) (by rw [e])⟩
  have e1 : x.Next = y.Next := eql_tt h int_iff
  conv => arg 1; ext k m; whnf
  refine Evs.cond (fun h => ?_) (fun h => ?_)
  rotate_left
  · conv => arg 1; ext k m; whnf
    exact Evs.is ⟨false, rfl, ff_iff fun e => (eql_ff h bool_iff : ¬ x.Bad = y.Bad) (by rw [e])⟩
  have e2 : x.Bad = y.Bad := eql_tt h bool_iff
  conv => arg 1; ext k m; whnf
  obtain ⟨b3, hd3, hb3⟩ := slStr x.Pages y.Pages hx
  refine Evs.bnd hd3 (args2 false false x.Pages y.Pages) ?_
  conv => arg 1; ext k m; whnf
  exact Evs.is ⟨_, rfl, (hb3 : _ ↔ x.Pages = y.Pages).trans ⟨fun e => by cases x; cases y; simp only at e e0 e1 e2; subst e e0 e1 e2; rfl, fun e => by rw [e]⟩⟩
theorem sameZone (x y : Zone) (hx : Enc.small 1048576 x) : ∃ b, Den E 42 [Arg.t false x, Arg.t false y] (.bool b) ∧ (b = true ↔ x = y) := by
  refine den_ex (den_of rfl (fnOf_eq Try.func42 (by decide)) rfl rfl rfl ?_)
  conv => arg 1; ext k m; whnf
  refine Evs.cond (fun h => ?_) (fun h => ?_)
  rotate_left
  · conv => arg 1; ext k m; whnf
    exact Evs.is ⟨false, rfl, ff_iff fun e => (eql_ff h int_iff : ¬ x.State = y.State) (by rw [e])⟩
  have e0 : x.State = y.State := eql_tt h int_iff
  conv => arg 1; ext k m; whnf
  obtain ⟨b1, hd1, hb1⟩ := slInt x.Blocks y.Blocks hx.1
  refine Evs.bnd hd1 (args2 false false x.Blocks y.Blocks) ?_
  conv => arg 1; ext k m; whnf
  refine Evs.cond (fun h => ?_) (fun h => ?_)
  rotate_left
  · conv => arg 1; ext k m; whnf
    exact Evs.is ⟨false, rfl, ff_iff fun e => (eql_ff h hb1 : ¬ x.Blocks = y.Blocks) (by rw [e])⟩
  have e1 : x.Blocks = y.Blocks := eql_tt h hb1
  conv => arg 1; ext k m; whnf
  refine Evs.cond (fun h => ?_) (fun h => ?_)
  rotate_left
  · conv => arg 1; ext k m; whnf
    exact Evs.is ⟨false, rfl, ff_iff fun e => (eql_ff h int_iff : ¬ x.Written = y.Written) (by rw [e])⟩
  have e2 : x.Written = y.Written := eql_tt h int_iff
  conv => arg 1; ext k m; whnf
  refine Evs.cond (fun h => ?_) (fun h => ?_)
  rotate_left
  · conv => arg 1; ext k m; whnf
    exact Evs.is ⟨false, rfl, ff_iff fun e => (eql_ff h int_iff : ¬ x.Synced = y.Synced) (by rw [e])⟩
  have e3 : x.Synced = y.Synced := eql_tt h int_iff
  conv => arg 1; ext k m; whnf
  obtain ⟨b4, hd4, hb4⟩ := slInt x.Rows y.Rows hx.2.1
  refine Evs.bnd hd4 (args2 false false x.Rows y.Rows) ?_
  conv => arg 1; ext k m; whnf
  refine Evs.cond (fun h => ?_) (fun h => ?_)
  rotate_left
  · conv => arg 1; ext k m; whnf
    exact Evs.is ⟨false, rfl, ff_iff fun e => (eql_ff h hb4 : ¬ x.Rows = y.Rows) (by rw [e])⟩
  have e4 : x.Rows = y.Rows := eql_tt h hb4
  conv => arg 1; ext k m; whnf
  obtain ⟨b5, hd5, hb5⟩ := slStr x.Buffer y.Buffer hx.2.2
  refine Evs.bnd hd5 (args2 false false x.Buffer y.Buffer) ?_
  conv => arg 1; ext k m; whnf
  exact Evs.is ⟨_, rfl, (hb5 : _ ↔ x.Buffer = y.Buffer).trans ⟨fun e => by cases x; cases y; simp only at e e0 e1 e2 e3 e4; subst e e0 e1 e2 e3 e4; rfl, fun e => by rw [e]⟩⟩
theorem fnBlock (x y : List Block) (hx : smallL 1048576 x) : ∃ b, Den E 56 [Arg.t false x, Arg.t false y, .fn 57 []] (.bool b) ∧ (b = true ↔ x = y) := by
  have hx1 := hx.1
  refine den_ex (den_of rfl (fnOf_eq Try.func56 (by decide)) rfl rfl rfl ?_)
  conv => arg 1; ext k m; whnf
  refine Evs.cond (fun h => ?_) (fun h => ?_)
  · conv => arg 1; ext k m; whnf
    exact Evs.is ⟨false, rfl, ff_iff (len_ne h)⟩
  have hl := len_eq h
  conv => arg 1; ext k m; whnf
  refine Evs.loop (fun i : Nat => ⟨[.undef, Arg.t false y, .fn 57 [], .undef, .undef, .undef, .bool false, .undef, .undef, .undef, .undef, .undef, .undef, .undef, .undef, Arg.t false x, .int .i64 x.length, .int .i64 i] ++ replT 14, replL 32, []⟩) (fun i => i ≤ x.length ∧ ∀ j, j < i → x.getD j Enc.dflt = y.getD j Enc.dflt) (fun i => x.length - i) 0 ⟨Nat.zero_le _, fun j hj => absurd hj (Nat.not_lt_zero _)⟩ (fun K => rfl) (fun i hi ih => ?_)
  obtain ⟨hi1, hi2⟩ := hi
  conv => arg 1; ext k m; whnf
  refine Evs.cond (fun h0 => ?_) (fun h0 => ?_)
  · have h1 : i < x.length := by have := lt_tt h0; omega
    conv => arg 1; ext k m; whnf
    refine Evs.pos ⟨by omega, by omega⟩ ?_
    conv => arg 1; ext k m; whnf
    refine Evs.pos ⟨by omega, by omega⟩ ?_
    conv => arg 1; ext k m; whnf
    obtain ⟨b, hd, hb⟩ := sameBlock (x.getD i Enc.dflt) (y.getD i Enc.dflt) (smallL_get hx h1)
    refine Evs.bnd hd (args2 false false (x.getD i Enc.dflt) (y.getD i Enc.dflt)) ?_
    conv => arg 1; ext k m; whnf
    refine Evs.cond (fun h => ?_) (fun h => ?_)
    · conv => arg 1; ext k m; whnf
      exact Evs.is ⟨false, rfl, ff_iff fun e => (not_ne h hb : ¬ x.getD i Enc.dflt = y.getD i Enc.dflt) (by rw [e])⟩
    have e : x.getD i Enc.dflt = y.getD i Enc.dflt := not_eq h hb
    conv => arg 1; ext k m; whnf
    refine ih (i + 1) _ ⟨h1, upto_next hi2 e⟩ (by omega) (fun K => ?_)
    rw [← wrap_inc (by omega)]
    rfl
  · have h1 : i = x.length := by have := lt_ff h0; omega
    conv => arg 1; ext k m; whnf
    subst h1
    exact Evs.is ⟨true, rfl, tt_iff (list_eq_getD hl hi2)⟩
theorem fnZone (x y : List Zone) (hx : smallL 1048576 x) : ∃ b, Den E 41 [Arg.t false x, Arg.t false y, .fn 42 []] (.bool b) ∧ (b = true ↔ x = y) := by
  have hx1 := hx.1
  refine den_ex (den_of rfl (fnOf_eq Try.func41 (by decide)) rfl rfl rfl ?_)
  conv => arg 1; ext k m; whnf
  refine Evs.cond (fun h => ?_) (fun h => ?_)
  · conv => arg 1; ext k m; whnf
    exact Evs.is ⟨false, rfl, ff_iff (len_ne h)⟩
  have hl := len_eq h
  conv => arg 1; ext k m; whnf
  refine Evs.loop (fun i : Nat => ⟨[.undef, Arg.t false y, .fn 42 [], .undef, .undef, .undef, .bool false, .undef, .undef, .undef, .undef, .undef, .undef, .undef, .undef, Arg.t false x, .int .i64 x.length, .int .i64 i] ++ replT 14, replL 32, []⟩) (fun i => i ≤ x.length ∧ ∀ j, j < i → x.getD j Enc.dflt = y.getD j Enc.dflt) (fun i => x.length - i) 0 ⟨Nat.zero_le _, fun j hj => absurd hj (Nat.not_lt_zero _)⟩ (fun K => rfl) (fun i hi ih => ?_)
  obtain ⟨hi1, hi2⟩ := hi
  conv => arg 1; ext k m; whnf
  refine Evs.cond (fun h0 => ?_) (fun h0 => ?_)
  · have h1 : i < x.length := by have := lt_tt h0; omega
    conv => arg 1; ext k m; whnf
    refine Evs.pos ⟨by omega, by omega⟩ ?_
    conv => arg 1; ext k m; whnf
    refine Evs.pos ⟨by omega, by omega⟩ ?_
    conv => arg 1; ext k m; whnf
    obtain ⟨b, hd, hb⟩ := sameZone (x.getD i Enc.dflt) (y.getD i Enc.dflt) (smallL_get hx h1)
    refine Evs.bnd hd (args2 false false (x.getD i Enc.dflt) (y.getD i Enc.dflt)) ?_
    conv => arg 1; ext k m; whnf
    refine Evs.cond (fun h => ?_) (fun h => ?_)
    · conv => arg 1; ext k m; whnf
      exact Evs.is ⟨false, rfl, ff_iff fun e => (not_ne h hb : ¬ x.getD i Enc.dflt = y.getD i Enc.dflt) (by rw [e])⟩
    have e : x.getD i Enc.dflt = y.getD i Enc.dflt := not_eq h hb
    conv => arg 1; ext k m; whnf
    refine ih (i + 1) _ ⟨h1, upto_next hi2 e⟩ (by omega) (fun K => ?_)
    rw [← wrap_inc (by omega)]
    rfl
  · have h1 : i = x.length := by have := lt_ff h0; omega
    conv => arg 1; ext k m; whnf
    subst h1
    exact Evs.is ⟨true, rfl, tt_iff (list_eq_getD hl hi2)⟩
theorem sameFlash (x y : Flash) (hx : Enc.small 1048576 x) : ∃ b, Den E 40 [Arg.t false x, Arg.t false y] (.bool b) ∧ (b = true ↔ x = y) := by
  refine den_ex (den_of rfl (fnOf_eq Try.func40 (by decide)) rfl rfl rfl ?_)
  conv => arg 1; ext k m; whnf
  refine Evs.cond (fun h => ?_) (fun h => ?_)
  rotate_left
  · conv => arg 1; ext k m; whnf
    exact Evs.is ⟨false, rfl, ff_iff fun e => (eql_ff h (Geometry_iff x.Geo y.Geo) : ¬ x.Geo = y.Geo) (by rw [e])⟩
  have e0 : x.Geo = y.Geo := eql_tt h (Geometry_iff x.Geo y.Geo)
  conv => arg 1; ext k m; whnf
  obtain ⟨b1, hd1, hb1⟩ := fnBlock x.Blocks y.Blocks hx
  refine Evs.bnd hd1 (args2f false false x.Blocks y.Blocks) ?_
  conv => arg 1; ext k m; whnf
  refine Evs.cond (fun h => ?_) (fun h => ?_)
  rotate_left
  · conv => arg 1; ext k m; whnf
    exact Evs.is ⟨false, rfl, ff_iff fun e => (eql_ff h hb1 : ¬ x.Blocks = y.Blocks) (by rw [e])⟩
  have e1 : x.Blocks = y.Blocks := eql_tt h hb1
  conv => arg 1; ext k m; whnf
  refine Evs.cond (fun h => ?_) (fun h => ?_)
  rotate_left
  · conv => arg 1; ext k m; whnf
    exact Evs.is ⟨false, rfl, ff_iff fun e => (eql_ff h int_iff : ¬ x.Fuse = y.Fuse) (by rw [e])⟩
  have e2 : x.Fuse = y.Fuse := eql_tt h int_iff
  conv => arg 1; ext k m; whnf
  refine Evs.cond (fun h => ?_) (fun h => ?_)
  rotate_left
  · conv => arg 1; ext k m; whnf
    exact Evs.is ⟨false, rfl, ff_iff fun e => (eql_ff h int_iff : ¬ x.Keep = y.Keep) (by rw [e])⟩
  have e3 : x.Keep = y.Keep := eql_tt h int_iff
  conv => arg 1; ext k m; whnf
  refine Evs.cond (fun h => ?_) (fun h => ?_)
  rotate_left
  · conv => arg 1; ext k m; whnf
    exact Evs.is ⟨false, rfl, ff_iff fun e => (eql_ff h bool_iff : ¬ x.Off = y.Off) (by rw [e])⟩
  have e4 : x.Off = y.Off := eql_tt h bool_iff
  conv => arg 1; ext k m; whnf
  exact Evs.is ⟨_, rfl, (int_iff : _ ↔ x.Ops = y.Ops).trans ⟨fun e => by cases x; cases y; simp only at e e0 e1 e2 e3 e4; subst e e0 e1 e2 e3 e4; rfl, fun e => by rw [e]⟩⟩
theorem sameDevice (x y : Device) (hx : Enc.small 1048576 x) : ∃ b, Den E 21 [Arg.t false x, Arg.t false y] (.bool b) ∧ (b = true ↔ x = y) := by
  refine den_ex (den_of rfl (fnOf_eq Try.func21 (by decide)) rfl rfl rfl ?_)
  conv => arg 1; ext k m; whnf
  obtain ⟨b0, hd0, hb0⟩ := sameFlash x.Flash y.Flash hx.1
  refine Evs.bnd hd0 (args2 false false x.Flash y.Flash) ?_
  conv => arg 1; ext k m; whnf
  refine Evs.cond (fun h => ?_) (fun h => ?_)
  rotate_left
  · conv => arg 1; ext k m; whnf
    exact Evs.is ⟨false, rfl, ff_iff fun e => (eql_ff h hb0 : ¬ x.Flash = y.Flash) (by rw [e])⟩
  have e0 : x.Flash = y.Flash := eql_tt h hb0
  conv => arg 1; ext k m; whnf
  obtain ⟨b1, hd1, hb1⟩ := fnZone x.Zones y.Zones hx.2
  refine Evs.bnd hd1 (args2f false false x.Zones y.Zones) ?_
  conv => arg 1; ext k m; whnf
  exact Evs.is ⟨_, rfl, (hb1 : _ ↔ x.Zones = y.Zones).trans ⟨fun e => by cases x; cases y; simp only at e e0; subst e e0; rfl, fun e => by rw [e]⟩⟩
theorem sameVersion (x y : Version) (hx : Enc.small 1048576 x) : ∃ b, Den E 22 [Arg.t false x, Arg.t false y] (.bool b) ∧ (b = true ↔ x = y) := by
  refine den_ex (den_of rfl (fnOf_eq Try.func22 (by decide)) rfl rfl rfl ?_)
  conv => arg 1; ext k m; whnf
  refine Evs.cond (fun h => ?_) (fun h => ?_)
  rotate_left
  · conv => arg 1; ext k m; whnf
    exact Evs.is ⟨false, rfl, ff_iff fun e => (eql_ff h int_iff : ¬ x.NextId = y.NextId) (by rw [e])⟩
  have e0 : x.NextId = y.NextId := eql_tt h int_iff
  conv => arg 1; ext k m; whnf
  refine Evs.cond (fun h => ?_) (fun h => ?_)
  rotate_left
  · conv => arg 1; ext k m; whnf
    exact Evs.is ⟨false, rfl, ff_iff fun e => (eql_ff h int_iff : ¬ x.LogZone = y.LogZone) (by rw [e])⟩
  have e1 : x.LogZone = y.LogZone := eql_tt h int_iff
  conv => arg 1; ext k m; whnf
  refine Evs.cond (fun h => ?_) (fun h => ?_)
  rotate_left
  · conv => arg 1; ext k m; whnf
    exact Evs.is ⟨false, rfl, ff_iff fun e => (eql_ff h int_iff : ¬ x.LogSeq = y.LogSeq) (by rw [e])⟩
  have e2 : x.LogSeq = y.LogSeq := eql_tt h int_iff
  conv => arg 1; ext k m; whnf
  obtain ⟨b3, hd3, hb3⟩ := slRef x.Tables y.Tables hx
  refine Evs.bnd hd3 (args2 false false x.Tables y.Tables) ?_
  conv => arg 1; ext k m; whnf
  exact Evs.is ⟨_, rfl, (hb3 : _ ↔ x.Tables = y.Tables).trans ⟨fun e => by cases x; cases y; simp only at e e0 e1 e2; subst e e0 e1 e2; rfl, fun e => by rw [e]⟩⟩
theorem sameDB (x y : DB) (hx : Enc.small 1048576 x) : ∃ b, Den E 7 [Arg.t false x, Arg.t false y] (.bool b) ∧ (b = true ↔ x = y) := by
  refine den_ex (den_of rfl (fnOf_eq Try.func7 (by decide)) rfl rfl rfl ?_)
  conv => arg 1; ext k m; whnf
  obtain ⟨b0, hd0, hb0⟩ := sameDevice x.Device y.Device hx.1
  refine Evs.bnd hd0 (args2 false false x.Device y.Device) ?_
  conv => arg 1; ext k m; whnf
  refine Evs.cond (fun h => ?_) (fun h => ?_)
  rotate_left
  · conv => arg 1; ext k m; whnf
    exact Evs.is ⟨false, rfl, ff_iff fun e => (eql_ff h hb0 : ¬ x.Device = y.Device) (by rw [e])⟩
  have e0 : x.Device = y.Device := eql_tt h hb0
  conv => arg 1; ext k m; whnf
  obtain ⟨b1, hd1, hb1⟩ := sameVersion x.Version y.Version hx.2.1
  refine Evs.bnd hd1 (args2 false false x.Version y.Version) ?_
  conv => arg 1; ext k m; whnf
  refine Evs.cond (fun h => ?_) (fun h => ?_)
  rotate_left
  · conv => arg 1; ext k m; whnf
    exact Evs.is ⟨false, rfl, ff_iff fun e => (eql_ff h hb1 : ¬ x.Version = y.Version) (by rw [e])⟩
  have e1 : x.Version = y.Version := eql_tt h hb1
  conv => arg 1; ext k m; whnf
  refine Evs.cond (fun h => ?_) (fun h => ?_)
  rotate_left
  · conv => arg 1; ext k m; whnf
    exact Evs.is ⟨false, rfl, ff_iff fun e => (eql_ff h int_iff : ¬ x.Gen = y.Gen) (by rw [e])⟩
  have e2 : x.Gen = y.Gen := eql_tt h int_iff
  conv => arg 1; ext k m; whnf
  refine Evs.cond (fun h => ?_) (fun h => ?_)
  rotate_left
  · conv => arg 1; ext k m; whnf
    exact Evs.is ⟨false, rfl, ff_iff fun e => (eql_ff h int_iff : ¬ x.Active = y.Active) (by rw [e])⟩
  have e3 : x.Active = y.Active := eql_tt h int_iff
  conv => arg 1; ext k m; whnf
  obtain ⟨b4, hd4, hb4⟩ := slRec x.Mem y.Mem hx.2.2.1
  refine Evs.bnd hd4 (args2 false false x.Mem y.Mem) ?_
  conv => arg 1; ext k m; whnf
  refine Evs.cond (fun h => ?_) (fun h => ?_)
  rotate_left
  · conv => arg 1; ext k m; whnf
    exact Evs.is ⟨false, rfl, ff_iff fun e => (eql_ff h hb4 : ¬ x.Mem = y.Mem) (by rw [e])⟩
  have e4 : x.Mem = y.Mem := eql_tt h hb4
  conv => arg 1; ext k m; whnf
  refine Evs.cond (fun h => ?_) (fun h => ?_)
  rotate_left
  · conv => arg 1; ext k m; whnf
    exact Evs.is ⟨false, rfl, ff_iff fun e => (eql_ff h int_iff : ¬ x.Seq = y.Seq) (by rw [e])⟩
  have e5 : x.Seq = y.Seq := eql_tt h int_iff
  conv => arg 1; ext k m; whnf
  refine Evs.cond (fun h => ?_) (fun h => ?_)
  rotate_left
  · conv => arg 1; ext k m; whnf
    exact Evs.is ⟨false, rfl, ff_iff fun e => (eql_ff h int_iff : ¬ x.Synced = y.Synced) (by rw [e])⟩
  have e6 : x.Synced = y.Synced := eql_tt h int_iff
  conv => arg 1; ext k m; whnf
  obtain ⟨b7, hd7, hb7⟩ := slInt x.Snapshots y.Snapshots hx.2.2.2
  refine Evs.bnd hd7 (args2 false false x.Snapshots y.Snapshots) ?_
  conv => arg 1; ext k m; whnf
  exact Evs.is ⟨_, rfl, (hb7 : _ ↔ x.Snapshots = y.Snapshots).trans ⟨fun e => by cases x; cases y; simp only at e e0 e1 e2 e3 e4 e5 e6; subst e e0 e1 e2 e3 e4 e5 e6; rfl, fun e => by rw [e]⟩⟩
theorem l06SameBlock (x y : Block) (hx : Enc.small 1048576 x) : ∃ b, Den E 51 [Arg.t false x, Arg.t false y] (.bool b) ∧ (b = true ↔ x = y) := by
  have hz := hx
  have hx1 := hz.1
  refine den_ex (den_of rfl (fnOf_eq Try.func51 (by decide)) rfl rfl rfl ?_)
  conv => arg 1; ext k m; whnf
  refine Evs.cond (fun h => ?_) (fun h => ?_)
  rotate_left
  · conv => arg 1; ext k m; whnf
    exact Evs.is ⟨false, rfl, ff_iff fun e => (neq_ff h int_iff : ¬ x.Erases = y.Erases) (by rw [e])⟩
  have e0 : x.Erases = y.Erases := neq_tt h int_iff
  conv => arg 1; ext k m; whnf
  refine Evs.cond (fun h => ?_) (fun h => ?_)
  rotate_left
  · conv => arg 1; ext k m; whnf
    exact Evs.is ⟨false, rfl, ff_iff fun e => (neq_ff h int_iff : ¬ x.Next = y.Next) (by rw [e])⟩
  have e1 : x.Next = y.Next := neq_tt h int_iff
  conv => arg 1; ext k m; whnf
  refine Evs.cond (fun h => ?_) (fun h => ?_)
  rotate_left
  · conv => arg 1; ext k m; whnf
    exact Evs.is ⟨false, rfl, ff_iff fun e => (neq_ff h bool_iff : ¬ x.Bad = y.Bad) (by rw [e])⟩
  have e2 : x.Bad = y.Bad := neq_tt h bool_iff
  conv => arg 1; ext k m; whnf
  refine Evs.cond (fun h => ?_) (fun h => ?_)
  · conv => arg 1; ext k m; whnf
    exact Evs.is ⟨false, rfl, ff_iff fun e => (not_ne h len_iff : ¬ x.Pages.length = y.Pages.length) (by rw [e])⟩
  have hl : x.Pages.length = y.Pages.length := not_eq h len_iff
  conv => arg 1; ext k m; whnf
  refine Evs.loop (fun i : Nat => ⟨[.undef, .undef, .ploc 2 0, .ploc 3 0, .bool false, .int .i64 i] ++ replT 46, none :: none :: some (Enc.enc false x) :: some (Enc.enc false y) :: replL 48, []⟩) (fun i => i ≤ x.Pages.length ∧ ∀ j, j < i → x.Pages.getD j Enc.dflt = y.Pages.getD j Enc.dflt) (fun i => x.Pages.length - i) 0 ⟨Nat.zero_le _, fun j hj => absurd hj (Nat.not_lt_zero _)⟩ (fun K => rfl) (fun i hi ih => ?_)
  obtain ⟨hi1, hi2⟩ := hi
  conv => arg 1; ext k m; whnf
  refine Evs.cond (fun h0 => ?_) (fun h0 => ?_)
  · have h1 : i < x.Pages.length := by have := lt_tt h0; omega
    conv => arg 1; ext k m; whnf
    refine Evs.pos ⟨by omega, by omega⟩ ?_
    conv => arg 1; ext k m; whnf
    refine Evs.pos ⟨by omega, by omega⟩ ?_
    conv => arg 1; ext k m; whnf
    refine Evs.cond (fun h => ?_) (fun h => ?_)
    · conv => arg 1; ext k m; whnf
      exact Evs.is ⟨false, rfl, ff_iff fun e => (not_ne h str_iff : ¬ x.Pages.getD i Enc.dflt = y.Pages.getD i Enc.dflt) (by rw [e])⟩
    have e : x.Pages.getD i Enc.dflt = y.Pages.getD i Enc.dflt := not_eq h str_iff
    conv => arg 1; ext k m; whnf
    refine ih (i + 1) _ ⟨h1, upto_next hi2 e⟩ (by omega) (fun K => ?_)
    rw [← wrap_inc (by omega)]
    rfl
  · have h1 : i = x.Pages.length := by have := lt_ff h0; omega
    conv => arg 1; ext k m; whnf
    subst h1
    exact Evs.is ⟨true, rfl, tt_iff (by have e := list_eq_getD hl hi2; cases x; cases y; simp only at e e0 e1 e2; subst e e0 e1 e2; rfl)⟩
theorem spSameFlash (x y : Flash) (hx : Enc.small 1048576 x) : ∃ b, Den E 33 [Arg.t false x, Arg.t false y] (.bool b) ∧ (b = true ↔ x = y) := by
  have hz := hx
  have hx1 := hz.1
  refine den_ex (den_of rfl (fnOf_eq Try.func33 (by decide)) rfl rfl rfl ?_)
  conv => arg 1; ext k m; whnf
  refine Evs.cond (fun h => ?_) (fun h => ?_)
  rotate_left
  · conv => arg 1; ext k m; whnf
    exact Evs.is ⟨false, rfl, ff_iff fun e => (neq_ff h (Geometry_iff x.Geo y.Geo) : ¬ x.Geo = y.Geo) (by rw [e])⟩
  have e0 : x.Geo = y.Geo := neq_tt h (Geometry_iff x.Geo y.Geo)
  conv => arg 1; ext k m; whnf
  refine Evs.cond (fun h => ?_) (fun h => ?_)
  rotate_left
  · conv => arg 1; ext k m; whnf
    exact Evs.is ⟨false, rfl, ff_iff fun e => (neq_ff h len_iff : ¬ x.Blocks.length = y.Blocks.length) (by rw [e])⟩
  have hl : x.Blocks.length = y.Blocks.length := neq_tt h len_iff
  conv => arg 1; ext k m; whnf
  refine Evs.cond (fun h => ?_) (fun h => ?_)
  rotate_left
  · conv => arg 1; ext k m; whnf
    exact Evs.is ⟨false, rfl, ff_iff fun e => (neq_ff h int_iff : ¬ x.Fuse = y.Fuse) (by rw [e])⟩
  have e2 : x.Fuse = y.Fuse := neq_tt h int_iff
  conv => arg 1; ext k m; whnf
  refine Evs.cond (fun h => ?_) (fun h => ?_)
  rotate_left
  · conv => arg 1; ext k m; whnf
    exact Evs.is ⟨false, rfl, ff_iff fun e => (neq_ff h int_iff : ¬ x.Keep = y.Keep) (by rw [e])⟩
  have e3 : x.Keep = y.Keep := neq_tt h int_iff
  conv => arg 1; ext k m; whnf
  refine Evs.cond (fun h => ?_) (fun h => ?_)
  rotate_left
  · conv => arg 1; ext k m; whnf
    exact Evs.is ⟨false, rfl, ff_iff fun e => (neq_ff h bool_iff : ¬ x.Off = y.Off) (by rw [e])⟩
  have e4 : x.Off = y.Off := neq_tt h bool_iff
  conv => arg 1; ext k m; whnf
  refine Evs.cond (fun h => ?_) (fun h => ?_)
  · conv => arg 1; ext k m; whnf
    exact Evs.is ⟨false, rfl, ff_iff fun e => (not_ne h int_iff : ¬ x.Ops = y.Ops) (by rw [e])⟩
  have e5 : x.Ops = y.Ops := not_eq h int_iff
  conv => arg 1; ext k m; whnf
  refine Evs.loop (fun i : Nat => ⟨[.undef, .undef, .ploc 2 0, .ploc 3 0, .bool false, .int .i64 i] ++ replT 61, none :: none :: some (Enc.enc false x) :: some (Enc.enc false y) :: replL 63, []⟩) (fun i => i ≤ x.Blocks.length ∧ ∀ j, j < i → x.Blocks.getD j Enc.dflt = y.Blocks.getD j Enc.dflt) (fun i => x.Blocks.length - i) 0 ⟨Nat.zero_le _, fun j hj => absurd hj (Nat.not_lt_zero _)⟩ (fun K => rfl) (fun i hi ih => ?_)
  obtain ⟨hi1, hi2⟩ := hi
  conv => arg 1; ext k m; whnf
  refine Evs.cond (fun h0 => ?_) (fun h0 => ?_)
  · have h1 : i < x.Blocks.length := by have := lt_tt h0; omega
    conv => arg 1; ext k m; whnf
    refine Evs.pos ⟨by omega, by omega⟩ ?_
    conv => arg 1; ext k m; whnf
    refine Evs.pos ⟨by omega, by omega⟩ ?_
    conv => arg 1; ext k m; whnf
    obtain ⟨b, hd, hb⟩ := l06SameBlock (x.Blocks.getD i Enc.dflt) (y.Blocks.getD i Enc.dflt) (smallL_get hz h1)
    refine Evs.bnd hd (args2 false false (x.Blocks.getD i Enc.dflt) (y.Blocks.getD i Enc.dflt)) ?_
    conv => arg 1; ext k m; whnf
    refine Evs.cond (fun h => ?_) (fun h => ?_)
    · conv => arg 1; ext k m; whnf
      exact Evs.is ⟨false, rfl, ff_iff fun e => (not_ne h hb : ¬ x.Blocks.getD i Enc.dflt = y.Blocks.getD i Enc.dflt) (by rw [e])⟩
    have e : x.Blocks.getD i Enc.dflt = y.Blocks.getD i Enc.dflt := not_eq h hb
    conv => arg 1; ext k m; whnf
    refine ih (i + 1) _ ⟨h1, upto_next hi2 e⟩ (by omega) (fun K => ?_)
    rw [← wrap_inc (by omega)]
    rfl
  · have h1 : i = x.Blocks.length := by have := lt_ff h0; omega
    conv => arg 1; ext k m; whnf
    subst h1
    exact Evs.is ⟨true, rfl, tt_iff (by have e := list_eq_getD hl hi2; cases x; cases y; simp only at e e0 e2 e3 e4 e5; subst e e0 e2 e3 e4 e5; rfl)⟩
theorem spSameVersion (x y : Version) (hx : Enc.small 1048576 x) : ∃ b, Den E 14 [Arg.t false x, Arg.t false y] (.bool b) ∧ (b = true ↔ x = y) := by
  have hz := hx
  have hx1 := hz.1
  refine den_ex (den_of rfl (fnOf_eq Try.func14 (by decide)) rfl rfl rfl ?_)
  conv => arg 1; ext k m; whnf
  refine Evs.cond (fun h => ?_) (fun h => ?_)
  rotate_left
  · conv => arg 1; ext k m; whnf
    exact Evs.is ⟨false, rfl, ff_iff fun e => (neq_ff h int_iff : ¬ x.NextId = y.NextId) (by rw [e])⟩
  have e0 : x.NextId = y.NextId := neq_tt h int_iff
  conv => arg 1; ext k m; whnf
  refine Evs.cond (fun h => ?_) (fun h => ?_)
  rotate_left
  · conv => arg 1; ext k m; whnf
    exact Evs.is ⟨false, rfl, ff_iff fun e => (neq_ff h int_iff : ¬ x.LogZone = y.LogZone) (by rw [e])⟩
  have e1 : x.LogZone = y.LogZone := neq_tt h int_iff
  conv => arg 1; ext k m; whnf
  refine Evs.cond (fun h => ?_) (fun h => ?_)
  rotate_left
  · conv => arg 1; ext k m; whnf
    exact Evs.is ⟨false, rfl, ff_iff fun e => (neq_ff h int_iff : ¬ x.LogSeq = y.LogSeq) (by rw [e])⟩
  have e2 : x.LogSeq = y.LogSeq := neq_tt h int_iff
  conv => arg 1; ext k m; whnf
  refine Evs.cond (fun h => ?_) (fun h => ?_)
  · conv => arg 1; ext k m; whnf
    exact Evs.is ⟨false, rfl, ff_iff fun e => (not_ne h len_iff : ¬ x.Tables.length = y.Tables.length) (by rw [e])⟩
  have hl : x.Tables.length = y.Tables.length := not_eq h len_iff
  conv => arg 1; ext k m; whnf
  refine Evs.loop (fun i : Nat => ⟨[.undef, .undef, .ploc 2 0, .ploc 3 0, .bool false, .int .i64 i] ++ replT 46, none :: none :: some (Enc.enc false x) :: some (Enc.enc false y) :: replL 48, []⟩) (fun i => i ≤ x.Tables.length ∧ ∀ j, j < i → x.Tables.getD j Enc.dflt = y.Tables.getD j Enc.dflt) (fun i => x.Tables.length - i) 0 ⟨Nat.zero_le _, fun j hj => absurd hj (Nat.not_lt_zero _)⟩ (fun K => rfl) (fun i hi ih => ?_)
  obtain ⟨hi1, hi2⟩ := hi
  conv => arg 1; ext k m; whnf
  refine Evs.cond (fun h0 => ?_) (fun h0 => ?_)
  · have h1 : i < x.Tables.length := by have := lt_tt h0; omega
    conv => arg 1; ext k m; whnf
    refine Evs.pos ⟨by omega, by omega⟩ ?_
    conv => arg 1; ext k m; whnf
    refine Evs.pos ⟨by omega, by omega⟩ ?_
    conv => arg 1; ext k m; whnf
    refine Evs.cond (fun h => ?_) (fun h => ?_)
    · conv => arg 1; ext k m; whnf
      exact Evs.is ⟨false, rfl, ff_iff fun e => (not_ne h (TableRef_iff _ _) : ¬ x.Tables.getD i Enc.dflt = y.Tables.getD i Enc.dflt) (by rw [e])⟩
    have e : x.Tables.getD i Enc.dflt = y.Tables.getD i Enc.dflt := not_eq h (TableRef_iff _ _)
    conv => arg 1; ext k m; whnf
    refine ih (i + 1) _ ⟨h1, upto_next hi2 e⟩ (by omega) (fun K => ?_)
    rw [← wrap_inc (by omega)]
    rfl
  · have h1 : i = x.Tables.length := by have := lt_ff h0; omega
    conv => arg 1; ext k m; whnf
    subst h1
    exact Evs.is ⟨true, rfl, tt_iff (by have e := list_eq_getD hl hi2; cases x; cases y; simp only at e e0 e1 e2; subst e e0 e1 e2; rfl)⟩
theorem spSameDevice (x y : Device) (hx : Enc.small 1048576 x) : ∃ b, Den E 13 [Arg.t false x, Arg.t false y] (.bool b) ∧ (b = true ↔ x = y) := by
  have hz := hx.2
  have hx1 := hz.1
  refine den_ex (den_of rfl (fnOf_eq Try.func13 (by decide)) rfl rfl rfl ?_)
  conv => arg 1; ext k m; whnf
  obtain ⟨b0, hd0, hb0⟩ := spSameFlash x.Flash y.Flash hx.1
  refine Evs.bnd hd0 (args2 false false x.Flash y.Flash) ?_
  conv => arg 1; ext k m; whnf
  refine Evs.cond (fun h => ?_) (fun h => ?_)
  rotate_left
  · conv => arg 1; ext k m; whnf
    exact Evs.is ⟨false, rfl, ff_iff fun e => (neq_ff h hb0 : ¬ x.Flash = y.Flash) (by rw [e])⟩
  have e0 : x.Flash = y.Flash := neq_tt h hb0
  conv => arg 1; ext k m; whnf
  refine Evs.cond (fun h => ?_) (fun h => ?_)
  · conv => arg 1; ext k m; whnf
    exact Evs.is ⟨false, rfl, ff_iff fun e => (not_ne h len_iff : ¬ x.Zones.length = y.Zones.length) (by rw [e])⟩
  have hl : x.Zones.length = y.Zones.length := not_eq h len_iff
  conv => arg 1; ext k m; whnf
  refine Evs.loop (fun i : Nat => ⟨[.undef, .undef, .ploc 2 0, .ploc 3 0, .bool false, .int .i64 i] ++ replT 77, none :: none :: some (Enc.enc false x) :: some (Enc.enc false y) :: replL 79, []⟩) (fun i => i ≤ x.Zones.length ∧ ∀ j, j < i → x.Zones.getD j Enc.dflt = y.Zones.getD j Enc.dflt) (fun i => x.Zones.length - i) 0 ⟨Nat.zero_le _, fun j hj => absurd hj (Nat.not_lt_zero _)⟩ (fun K => rfl) (fun i hi ih => ?_)
  obtain ⟨hi1, hi2⟩ := hi
  conv => arg 1; ext k m; whnf
  refine Evs.cond (fun h0 => ?_) (fun h0 => ?_)
  rotate_left
  · have h1 : i = x.Zones.length := by have := lt_ff h0; omega
    conv => arg 1; ext k m; whnf
    subst h1
    exact Evs.is ⟨true, rfl, tt_iff (by have e := list_eq_getD hl hi2; cases x; cases y; simp only at e e0; subst e e0; rfl)⟩
  have h1 : i < x.Zones.length := by have := lt_tt h0; omega
  conv => arg 1; ext k m; whnf
  refine Evs.pos ⟨by omega, by omega⟩ ?_
  conv => arg 1; ext k m; whnf
  refine Evs.pos ⟨by omega, by omega⟩ ?_
  conv => arg 1; ext k m; whnf
  have hs := smallL_get hz h1
  have fin : ∀ {p q : Zone}, (p.State = q.State) → (p.Written = q.Written) → (p.Synced = q.Synced) → (p.Blocks = q.Blocks) → (p.Rows = q.Rows) → (p.Buffer = q.Buffer) → p = q := fun a1 a2 a3 a4 a5 a6 => by rename_i p q; cases p; cases q; simp only at a1 a2 a3 a4 a5 a6; subst a1 a2 a3 a4 a5 a6; rfl
  refine Evs.cond (fun h => ?_) (fun h => ?_)
  rotate_left
  · conv => arg 1; ext k m; whnf
    exact Evs.is ⟨false, rfl, ff_iff fun e => (neq_ff h int_iff : ¬ (x.Zones.getD i Enc.dflt).State = (y.Zones.getD i Enc.dflt).State) (by rw [e])⟩
  have a0 : (x.Zones.getD i Enc.dflt).State = (y.Zones.getD i Enc.dflt).State := neq_tt h int_iff
  conv => arg 1; ext k m; whnf
  refine Evs.cond (fun h => ?_) (fun h => ?_)
  rotate_left
  · conv => arg 1; ext k m; whnf
    exact Evs.is ⟨false, rfl, ff_iff fun e => (neq_ff h int_iff : ¬ (x.Zones.getD i Enc.dflt).Written = (y.Zones.getD i Enc.dflt).Written) (by rw [e])⟩
  have a1 : (x.Zones.getD i Enc.dflt).Written = (y.Zones.getD i Enc.dflt).Written := neq_tt h int_iff
  conv => arg 1; ext k m; whnf
  refine Evs.cond (fun h => ?_) (fun h => ?_)
  rotate_left
  · conv => arg 1; ext k m; whnf
    exact Evs.is ⟨false, rfl, ff_iff fun e => (neq_ff h int_iff : ¬ (x.Zones.getD i Enc.dflt).Synced = (y.Zones.getD i Enc.dflt).Synced) (by rw [e])⟩
  have a2 : (x.Zones.getD i Enc.dflt).Synced = (y.Zones.getD i Enc.dflt).Synced := neq_tt h int_iff
  conv => arg 1; ext k m; whnf
  obtain ⟨b3, hd3, hb3⟩ := l16SameInts (x.Zones.getD i Enc.dflt).Blocks (y.Zones.getD i Enc.dflt).Blocks hs.1
  refine Evs.bnd hd3 (args2 false false (x.Zones.getD i Enc.dflt).Blocks (y.Zones.getD i Enc.dflt).Blocks) ?_
  conv => arg 1; ext k m; whnf
  refine Evs.cond (fun h => ?_) (fun h => ?_)
  rotate_left
  · conv => arg 1; ext k m; whnf
    exact Evs.is ⟨false, rfl, ff_iff fun e => (neq_ff h hb3 : ¬ (x.Zones.getD i Enc.dflt).Blocks = (y.Zones.getD i Enc.dflt).Blocks) (by rw [e])⟩
  have a3 : (x.Zones.getD i Enc.dflt).Blocks = (y.Zones.getD i Enc.dflt).Blocks := neq_tt h hb3
  conv => arg 1; ext k m; whnf
  obtain ⟨b4, hd4, hb4⟩ := l16SameInts (x.Zones.getD i Enc.dflt).Rows (y.Zones.getD i Enc.dflt).Rows hs.2.1
  refine Evs.bnd hd4 (args2 false false (x.Zones.getD i Enc.dflt).Rows (y.Zones.getD i Enc.dflt).Rows) ?_
  conv => arg 1; ext k m; whnf
  refine Evs.cond (fun h => ?_) (fun h => ?_)
  rotate_left
  · conv => arg 1; ext k m; whnf
    exact Evs.is ⟨false, rfl, ff_iff fun e => (neq_ff h hb4 : ¬ (x.Zones.getD i Enc.dflt).Rows = (y.Zones.getD i Enc.dflt).Rows) (by rw [e])⟩
  have a4 : (x.Zones.getD i Enc.dflt).Rows = (y.Zones.getD i Enc.dflt).Rows := neq_tt h hb4
  conv => arg 1; ext k m; whnf
  obtain ⟨b5, hd5, hb5⟩ := l16SameTexts (x.Zones.getD i Enc.dflt).Buffer (y.Zones.getD i Enc.dflt).Buffer hs.2.2
  refine Evs.bnd hd5 (args2 false false (x.Zones.getD i Enc.dflt).Buffer (y.Zones.getD i Enc.dflt).Buffer) ?_
  conv => arg 1; ext k m; whnf
  refine Evs.cond (fun h => ?_) (fun h => ?_)
  · conv => arg 1; ext k m; whnf
    exact Evs.is ⟨false, rfl, ff_iff fun e => (not_ne h hb5 : ¬ (x.Zones.getD i Enc.dflt).Buffer = (y.Zones.getD i Enc.dflt).Buffer) (by rw [e])⟩
  have a5 : (x.Zones.getD i Enc.dflt).Buffer = (y.Zones.getD i Enc.dflt).Buffer := not_eq h hb5
  conv => arg 1; ext k m; whnf
  have e : x.Zones.getD i Enc.dflt = y.Zones.getD i Enc.dflt := fin a0 a1 a2 a3 a4 a5
  refine ih (i + 1) _ ⟨h1, upto_next hi2 e⟩ (by omega) (fun K => ?_)
  rw [← wrap_inc (by omega)]
  rfl
theorem spSameDB (x y : DB) (hx : Enc.small 1048576 x) : ∃ b, Den E 5 [Arg.t false x, Arg.t false y] (.bool b) ∧ (b = true ↔ x = y) := by
  refine den_ex (den_of rfl (fnOf_eq Try.func5 (by decide)) rfl rfl rfl ?_)
  conv => arg 1; ext k m; whnf
  obtain ⟨b0, hd0, hb0⟩ := spSameDevice x.Device y.Device hx.1
  refine Evs.bnd hd0 (args2 false false x.Device y.Device) ?_
  conv => arg 1; ext k m; whnf
  refine Evs.cond (fun h => ?_) (fun h => ?_)
  rotate_left
  · conv => arg 1; ext k m; whnf
    exact Evs.is ⟨false, rfl, ff_iff fun e => (eql_ff h hb0 : ¬ x.Device = y.Device) (by rw [e])⟩
  have e0 : x.Device = y.Device := eql_tt h hb0
  conv => arg 1; ext k m; whnf
  obtain ⟨b1, hd1, hb1⟩ := spSameVersion x.Version y.Version hx.2.1
  refine Evs.bnd hd1 (args2 false false x.Version y.Version) ?_
  conv => arg 1; ext k m; whnf
  refine Evs.cond (fun h => ?_) (fun h => ?_)
  rotate_left
  · conv => arg 1; ext k m; whnf
    exact Evs.is ⟨false, rfl, ff_iff fun e => (eql_ff h hb1 : ¬ x.Version = y.Version) (by rw [e])⟩
  have e1 : x.Version = y.Version := eql_tt h hb1
  conv => arg 1; ext k m; whnf
  refine Evs.cond (fun h => ?_) (fun h => ?_)
  rotate_left
  · conv => arg 1; ext k m; whnf
    exact Evs.is ⟨false, rfl, ff_iff fun e => (eql_ff h int_iff : ¬ x.Gen = y.Gen) (by rw [e])⟩
  have e2 : x.Gen = y.Gen := eql_tt h int_iff
  conv => arg 1; ext k m; whnf
  refine Evs.cond (fun h => ?_) (fun h => ?_)
  rotate_left
  · conv => arg 1; ext k m; whnf
    exact Evs.is ⟨false, rfl, ff_iff fun e => (eql_ff h int_iff : ¬ x.Active = y.Active) (by rw [e])⟩
  have e3 : x.Active = y.Active := eql_tt h int_iff
  conv => arg 1; ext k m; whnf
  obtain ⟨b4, hd4, hb4⟩ := l28SameRun x.Mem y.Mem hx.2.2.1
  refine Evs.bnd hd4 (args2 false false x.Mem y.Mem) ?_
  conv => arg 1; ext k m; whnf
  refine Evs.cond (fun h => ?_) (fun h => ?_)
  rotate_left
  · conv => arg 1; ext k m; whnf
    exact Evs.is ⟨false, rfl, ff_iff fun e => (eql_ff h hb4 : ¬ x.Mem = y.Mem) (by rw [e])⟩
  have e4 : x.Mem = y.Mem := eql_tt h hb4
  conv => arg 1; ext k m; whnf
  refine Evs.cond (fun h => ?_) (fun h => ?_)
  rotate_left
  · conv => arg 1; ext k m; whnf
    exact Evs.is ⟨false, rfl, ff_iff fun e => (eql_ff h int_iff : ¬ x.Seq = y.Seq) (by rw [e])⟩
  have e5 : x.Seq = y.Seq := eql_tt h int_iff
  conv => arg 1; ext k m; whnf
  refine Evs.cond (fun h => ?_) (fun h => ?_)
  rotate_left
  · conv => arg 1; ext k m; whnf
    exact Evs.is ⟨false, rfl, ff_iff fun e => (eql_ff h int_iff : ¬ x.Synced = y.Synced) (by rw [e])⟩
  have e6 : x.Synced = y.Synced := eql_tt h int_iff
  conv => arg 1; ext k m; whnf
  obtain ⟨b7, hd7, hb7⟩ := l00Same x.Snapshots y.Snapshots hx.2.2.2
  refine Evs.bnd hd7 (args2 false false x.Snapshots y.Snapshots) ?_
  conv => arg 1; ext k m; whnf
  exact Evs.is ⟨_, rfl, (hb7 : _ ↔ x.Snapshots = y.Snapshots).trans ⟨fun e => by cases x; cases y; simp only at e e0 e1 e2 e3 e4 e5 e6; subst e e0 e1 e2 e3 e4 e5 e6; rfl, fun e => by rw [e]⟩⟩
end Go.Proofs.YtbdkjkedjldheaaTv.Ytbdkjkedjldheaa
