/- An evaluator of the program's code over trees: operators. Conditions: none. -/
import Derived.Test.YtbdkjkedjldheaaKvC
import Derived.Laws.StructEq
namespace Go.Proofs.YtbdkjkedjldheaaTv
set_option linter.unusedVariables false
set_option linter.unusedSimpArgs false
set_option linter.unnecessarySimpa false
open Go Go.RowKit
section
variable {P : Program} {E : Env} {w : World}
/-- A value of a type, by its cells. -/
def CV (S : Shd) (w : World) (ℓ : Lm) (agg : Bool) (xs : List TV) (v : Value) : Prop := match agg with
  | true => ∃ vs : Array Value, v = .agg vs ∧ RVs S w ℓ xs vs.toList
  | false => ∃ t, xs = [t] ∧ RV S w ℓ t v
theorem part_run {S : Shd} {ℓ : Lm} {ty : TypeId} {i : TI} (hT : TIok P ty i) {xs : List TV} {vs : Array Value} (h : RVs S w ℓ xs vs.toList) {off : Nat} {ys : List TV} (hs : sub xs off i.size = some ys) :
    ∃ v, (part ty vs off).run P w = .ok v w ∧ CV S w ℓ i.isAgg ys v := by
  obtain ⟨l1, l2⟩ := sub_spec _ _ _ _ hs
  unfold part
  simp only [Sem.run_bind, run_isAgg hT, Result.andThen_ok]
  have hlen : ∀ j, j < i.size → off + j < vs.size := by
    intro j hj
    have hg : ys[j]? = some (ys[j]'(by omega)) := List.getElem?_eq_getElem (by omega)
    rw [l2 j hj] at hg
    obtain ⟨h3, _⟩ := List.getElem?_eq_some_iff.1 hg
    have := h.1
    simp at this
    omega
  cases ha : i.isAgg with
  | true =>
    simp only [if_true, Sem.run_bind, run_sizeOf hT, Result.andThen_ok, Sem.run_pure]
    refine ⟨_, rfl, _, rfl, ?_, fun j t v ht hv => ?_⟩
    · simp only [l1, Array.length_toList, Array.size_extract]
      rcases Nat.eq_zero_or_pos i.size with h0 | h0
      · rw [h0]; omega
      · have := hlen (i.size - 1) (by omega); omega
    · have hj : j < i.size := by rw [← l1]; exact (List.getElem?_eq_some_iff.1 ht).1
      rw [l2 j hj] at ht
      have hv' : vs[off + j]? = some v := by
        rw [← hv]
        have := hlen j hj
        simp only [Array.getElem?_toList]
        rw [Array.getElem?_extract]
        rw [if_pos (by omega)]
      exact h.2 _ t v ht (by simpa using hv')
  | false =>
    have hsz := hT.one ha
    simp only [Bool.false_eq_true, if_false]
    have hlt := hlen 0 (by omega)
    simp only [Nat.add_zero] at hlt
    have e0 : vs[off]? = some vs[off] := Array.getElem?_eq_getElem hlt
    have hy : ∃ t, ys = [t] := by
      match ys, l1 with
      | [t], _ => exact ⟨t, rfl⟩
      | [], e => simp at e; omega
      | _ :: _ :: _, e => simp at e; omega
    obtain ⟨t, rfl⟩ := hy
    refine ⟨vs[off], by simp [e0], t, rfl, ?_⟩
    have := l2 0 (by omega)
    simp at this
    exact h.2 off t _ this.symm (by simpa using e0)
theorem equalIn_run (hE : EnvOk P E) {S : Shd} {ℓ : Lm} : ∀ (d : Nat) (ty : TypeId) (i : TI) (xs ys : List TV) (b : Bool), E.ti ty = some i → eqTy E d ty xs ys = some b → ∀ (D : Nat) (x y : Value), d ≤ D → CV S w ℓ i.isAgg xs x → CV S w ℓ i.isAgg ys y →
    (Op.equalIn D ty x y).run P w = .ok b w := by
  intro d
  induction d with
  | zero => intro ty i xs ys b hi h; simp [eqTy] at h
  | succ d ih =>
    intro ty i xs ys b hi h D x y hD hx hy
    obtain ⟨D, rfl⟩ : ∃ D', D = D' + 1 := ⟨D - 1, by omega⟩
    have hT := hE.ti ty i hi
    have hk := hT.kind
    unfold eqTy at h
    rw [hi] at h
    simp only at h
    unfold Op.equalIn
    have hag : i.isAgg = match i.kind with | .struct _ => true | _ => false := rfl
    cases hq : i.kind with
    | other => rw [hq] at h; simp at h
    | slice e => rw [hq] at h; simp at h
    | int k =>
      rw [hq] at h hk hag
      simp only at h hag
      rw [hag] at hx hy
      obtain ⟨t, rfl, hx⟩ := hx
      obtain ⟨t', rfl, hy⟩ := hy
      split at h
      · rename_i k1 a1 k2 a2 e1 e2
        cases e1; cases e2
        obtain rfl := int_inv hx
        obtain rfl := int_inv hy
        split at h
        · rename_i hkk
          subst hkk
          cases h
          simp only [Sem.run_bind, run_underlying hk, Result.andThen_ok, if_true, Sem.run_pure]
        · cases h
      · cases h
    | bool =>
      rw [hq] at h hk hag
      simp only at h hag
      rw [hag] at hx hy
      obtain ⟨t, rfl, hx⟩ := hx
      obtain ⟨t', rfl, hy⟩ := hy
      split at h
      · rename_i a1 a2 e1 e2
        cases e1; cases e2
        obtain rfl := bool_inv hx
        obtain rfl := bool_inv hy
        cases h
        simp only [Sem.run_bind, run_underlying hk, Result.andThen_ok, Sem.run_pure]
      · cases h
    | str =>
      rw [hq] at h hk hag
      simp only at h hag
      rw [hag] at hx hy
      obtain ⟨t, rfl, hx⟩ := hx
      obtain ⟨t', rfl, hy⟩ := hy
      split at h
      · rename_i a1 a2 e1 e2
        cases e1; cases e2
        obtain rfl := str_inv hx
        obtain rfl := str_inv hy
        cases h
        simp only [Sem.run_bind, run_underlying hk, Result.andThen_ok, Sem.run_pure, beq_toListBytes]
      · cases h
    | struct fs =>
      rw [hq] at h hk hag
      simp only at h hag
      rw [hag] at hx hy
      obtain ⟨vx, rfl, hx⟩ := hx
      obtain ⟨vy, rfl, hy⟩ := hy
      obtain ⟨fields, hu, hf, hn, hst, _⟩ := hk
      show (Op.equalIn (D + 1) ty (.agg vx) (.agg vy)).run P w = .ok b w
      have hfo : P.fieldsOf ty = fields := by simp [Program.fieldsOf, hu]
      rw [run_equalIn_struct w D ty vx vy (by rw [hfo]; exact hu) hst, hfo]
      clear hu hfo hT hq hag
      generalize fields.toList = fl at hf hn
      subst hf
      induction fl generalizing b with
      | nil => simp at h; subst h; simp [Op.eqFields]
      | cons f fl ihf =>
        simp only [List.map_cons, List.foldr_cons] at h
        split at h
        · cases h
        rename_i j hj
        split at h
        · rename_i x1 y1 hx1 hy1
          split at h
          · rename_i b1 hb1
            simp only [Option.map_eq_some_iff] at h
            obtain ⟨b2, hb2, rfl⟩ := h
            obtain ⟨v1, hv1, c1⟩ := part_run (w := w) (hE.ti _ j hj) hx hx1
            obtain ⟨v2, hv2, c2⟩ := part_run (w := w) (hE.ti _ j hj) hy hy1
            have h3 := ih f.type j x1 y1 b1 hj hb1 D v1 v2 (by omega) c1 c2
            have h4 := ihf b2 (fun g hg => hn g (List.mem_cons_of_mem _ hg)) hb2
            simp only [Op.eqFields, Sem.run_ite, Sem.run_bind]
            rw [if_pos (hn f List.mem_cons_self), hv1]
            simp only [Result.andThen_ok, hv2, h3]
            cases b1
            · simp
            · simpa using h4
          · cases h
        · cases h
theorem aggEq_run (hE : EnvOk P E) {S : Shd} {ℓ : Lm} {ty : TypeId} {xs ys : List TV} {b : Bool} {i : TI} (hi : E.ti ty = some i) {fs : List (Nat × TypeId)} (hq : i.kind = .struct fs) (h : eqTy E 8 ty xs ys = some b) {vx vy : Array Value} (hx : RVs S w ℓ xs vx.toList) (hy : RVs S w ℓ ys vy.toList) :
    (Op.equal ty (.agg vx) (.agg vy)).run P w = .ok b w ∧ ∀ (op : BinOp) (ox oy : Operand), (eqGuard op ty ox oy (.agg vx) (.agg vy)).run P w = .ok () w := by
  have hk := (hE.ti ty i hi).kind
  have hag : i.isAgg = match i.kind with | .struct _ => true | _ => false := rfl
  rw [hq] at hk hag
  obtain ⟨fields, hu, hf, hn, hst, hg⟩ := hk
  refine ⟨equalIn_run (P := P) (E := E) (S := S) (ℓ := ℓ) hE 8 ty i xs ys b hi h Op.maxDepth _ _ (by decide) ?_ ?_, ?_⟩
  · rw [hag]; exact ⟨vx, rfl, hx⟩
  · rw [hag]; exact ⟨vy, rfl, hy⟩
  · intro op ox oy
    unfold eqGuard
    cases op <;> simp [hg]
theorem guard_plain (op : BinOp) (ty : TypeId) (ox oy : Operand) {x y : Value} (hx : ∀ vs, x ≠ .agg vs) (hn : x ≠ .nilIface) : (eqGuard op ty ox oy x y).run P w = .ok () w := by
  unfold eqGuard
  cases op <;> first | rfl | (cases x <;> first | rfl | exact absurd rfl hn | exact absurd rfl (hx _))
def scal : TV → Value
  | .int k n => .int k n
  | .bool b => .bool b
  | .str s => .string s
  | _ => undef
theorem binK_ok {R : Type} (hE : EnvOk P E) {op : BinOp} {ty : TypeId} {x y : TV} {K : TV → Option R} {r : R} (h : binK E op ty x y K = some r) :
    ∃ t, K t = some r ∧ ∀ (S : Shd) (ℓ : Lm) (w : World) (vx vy : Value), RV S w ℓ x vx → RV S w ℓ y vy → ∀ (ox oy : Operand), ∃ v, (do eqGuard op ty ox oy vx vy; binOp op ty vx vy : Sem Value).run P w = .ok v w ∧ RV S w ℓ t v := by
  unfold binK at h
  split at h
  · rename_i k a k' b
    have fin : ∀ t, K t = some r → (∀ (w : World), (binOp op ty (.int k a) (.int k' b)).run P w = .ok (scal t) w) → (∀ (S : Shd) (ℓ : Lm) (w : World), RV S w ℓ t (scal t)) →
        ∃ t, K t = some r ∧ ∀ (S : Shd) (ℓ : Lm) (w : World) (vx vy : Value), RV S w ℓ (.int k a) vx → RV S w ℓ (.int k' b) vy → ∀ (ox oy : Operand), ∃ v, (do eqGuard op ty ox oy vx vy; binOp op ty vx vy : Sem Value).run P w = .ok v w ∧ RV S w ℓ t v := by
      intro t ht hb hr
      refine ⟨t, ht, fun S ℓ w vx vy hx hy ox oy => ⟨_, ?_, hr S ℓ w⟩⟩
      obtain rfl := int_inv hx
      obtain rfl := int_inv hy
      simp only [Sem.run_bind]
      rw [guard_plain op ty ox oy (by simp) (by simp)]
      exact hb w
    cases op
    case shl =>
      simp only [ck] at h
      split at h
      · rename_i hb
        exact fin _ h (fun w => by simp [binOp, Op.shift, Int.not_lt.2 hb, scal]) (fun _ _ _ => .int ..)
      · cases h
    case shr =>
      simp only [ck] at h
      split at h
      · rename_i hb
        exact fin _ h (fun w => by simp [binOp, Op.shift, Int.not_lt.2 hb, scal]) (fun _ _ _ => .int ..)
      · cases h
    all_goals
      simp only at h
      split at h
      · rename_i hk
        subst hk
        first
          | (cases h; done)
          | (simp only [ck] at h
             split at h
             · rename_i hb
               first
                 | exact fin _ h (fun w => by simp [binOp, Op.intDiv, hb, scal]) (fun _ _ _ => .int ..)
                 | exact fin _ h (fun w => by simp [binOp, Op.intDiv, hb, scal]) (fun _ _ _ => .int ..)
             · cases h)
          | exact fin _ h (fun w => by simp only [binOp, Op.intArith, Op.intCmp, ne_eq, not_true_eq_false, if_false, Sem.run_pure, scal]) (fun _ _ _ => by first | exact .int .. | exact .bool ..)
      · cases h
  · rename_i a b
    have fin : ∀ t, K t = some r → (∀ (w : World), (binOp op ty (.string a) (.string b)).run P w = .ok (scal t) w) → (∀ (S : Shd) (ℓ : Lm) (w : World), RV S w ℓ t (scal t)) →
        ∃ t, K t = some r ∧ ∀ (S : Shd) (ℓ : Lm) (w : World) (vx vy : Value), RV S w ℓ (.str a) vx → RV S w ℓ (.str b) vy → ∀ (ox oy : Operand), ∃ v, (do eqGuard op ty ox oy vx vy; binOp op ty vx vy : Sem Value).run P w = .ok v w ∧ RV S w ℓ t v := by
      intro t ht hb hr
      refine ⟨t, ht, fun S ℓ w vx vy hx hy ox oy => ⟨_, ?_, hr S ℓ w⟩⟩
      obtain rfl := str_inv hx
      obtain rfl := str_inv hy
      simp only [Sem.run_bind]
      rw [guard_plain op ty ox oy (by simp) (by simp)]
      exact hb w
    cases op <;> simp only at h <;> first
      | (cases h; done)
      | (simp only [ck] at h
         split at h
         · rename_i hb
           exact fin _ h (fun w => by simp only [binOp, Op.stringOp]; rw [Sem.run_ite, if_neg (Int.not_lt.2 hb)]; rfl) (fun _ _ _ => .str ..)
         · cases h)
      | exact fin _ h (fun w => by simp only [binOp, Op.stringOp, Sem.run_pure, scal]) (fun _ _ _ => .bool ..)
  · rename_i a b
    split at h
    · rename_i i hi
      have hk := (hE.ti ty _ hi).kind
      simp only [KOk] at hk
      have fin : ∀ t, K t = some r → (∀ (w : World), (binOp op ty (.bool a) (.bool b)).run P w = .ok (scal t) w) → (∀ (S : Shd) (ℓ : Lm) (w : World), RV S w ℓ t (scal t)) →
          ∃ t, K t = some r ∧ ∀ (S : Shd) (ℓ : Lm) (w : World) (vx vy : Value), RV S w ℓ (.bool a) vx → RV S w ℓ (.bool b) vy → ∀ (ox oy : Operand), ∃ v, (do eqGuard op ty ox oy vx vy; binOp op ty vx vy : Sem Value).run P w = .ok v w ∧ RV S w ℓ t v := by
        intro t ht hb hr
        refine ⟨t, ht, fun S ℓ w vx vy hx hy ox oy => ⟨_, ?_, hr S ℓ w⟩⟩
        obtain rfl := bool_inv hx
        obtain rfl := bool_inv hy
        simp only [Sem.run_bind]
        rw [guard_plain op ty ox oy (by simp) (by simp)]
        exact hb w
      have he : ∀ w : World, (Op.equal ty (.bool a) (.bool b)).run P w = .ok (a == b) w := fun w => run_equalIn_bool' w 9999 ty a b hk
      cases op <;> simp only at h <;> first
        | (cases h; done)
        | exact fin _ h (fun w => by simp only [binOp, Sem.run_bind, he, Result.andThen_ok, Sem.run_pure, scal]) (fun _ _ _ => .bool ..)
    · cases h
  · rename_i xs ys
    split at h
    · rename_i i hi
      rename_i fs _ _
      cases op <;> simp only at h <;> first
        | (cases h; done)
        | (split at h
           · rename_i bb hb
             refine ⟨_, h, fun S ℓ w vx vy hx hy ox oy => ?_⟩
             obtain ⟨vx, rfl, hx'⟩ := agg_inv hx
             obtain ⟨vy, rfl, hy'⟩ := agg_inv hy
             obtain ⟨h1, h2⟩ := aggEq_run (w := w) hE hi rfl hb hx' hy'
             exact ⟨_, by simp only [Sem.run_bind, h2, Result.andThen_ok, binOp, h1, Sem.run_pure], .bool ..⟩
           · cases h)
    · cases h
  · cases h
end
end Go.Proofs.YtbdkjkedjldheaaTv
