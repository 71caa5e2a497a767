/- An evaluator of the program's code over trees: operations that change no memory, all of them. Conditions: none. -/
import Derived.Test.YtbdkjkedjldheaaKvF
namespace Go.Proofs.YtbdkjkedjldheaaTv
set_option linter.unusedVariables false
set_option linter.unusedSimpArgs false
set_option linter.unnecessarySimpa false
open Go Go.RowKit
/-- Calls that only read, answered over trees. -/
def TreeOk (P : Program) (ct : FuncId → List TV → Option TV) : Prop :=
  ∀ g args t, ct g args = some t → ∀ (vs : Array Value) (w : World), (callFunc g vs).run P w = .ok (.enter g vs) w ∧ (RVs (Shd.all w) w no args vs.toList →
    Calls P g vs w fun e w' => ∃ v, e = .returned v ∧ Below w.heap.size w w' ∧ ∀ S0 : Shd, S0.base ≤ w.heap.size → RV (S0.grow w.heap.size w'.heap.size) w' no t v)
def Φq (S : Shd) (ℓ : Lm) (L : Loc) (H : Heap) (w : World) (t : TV) (v : Value) (w' : World) : Prop := ∃ S', Ext S S' ∧ Step S w w' ∧ HR S' ℓ L H w' ∧ RV S' w' ℓ t v
section
variable {P : Program} {E : Env}
theorem sub_one : ∀ (cs : List TV) (off : Nat) (t : TV), nth cs off = some t → sub cs off 1 = some [t]
  | [], off, t, h => by simp [nth] at h
  | c :: cs, 0, t, h => by
    simp only [nth, Option.some.injEq] at h
    subst h
    cases cs <;> simp [sub]
  | c :: cs, off + 1, t, h => by
    simp only [nth] at h
    simpa [sub] using sub_one cs off t h
theorem gives_pure {S : Shd} {ℓ : Lm} {s : St} {a : Act} {w : World} {o : Oper} {t : TV} {v : Value} (hR : Rel S ℓ s a w) (h : (execOp a.eval o).run P w = .ok (.value v) w) (hv : RV S w ℓ t v) : Gives P o a w (Φq S ℓ s.L s.H w t) :=
  .value h ⟨S, Ext.refl _, Step.refl _ _, hR.hr, hv⟩
theorem minmax_ok {R : Type} (mx : Bool) {K : TV → Option R} {r : R} : ∀ (xs : List TV) (k : IntKind) (x : Int), minmax mx k x xs K = some r →
    ∃ t, K t = some r ∧ ∀ (S : Shd) (ℓ : Lm) (w : World) (vs : List Value), RVs S w ℓ xs vs → ∃ v, (vs.foldlM (if mx then Builtin.max2 else Builtin.min2) (.int k x)).run P w = .ok v w ∧ RV S w ℓ t v
  | [], k, x, h => ⟨_, h, fun S ℓ w vs hv => by
      cases vs with
      | nil => exact ⟨_, rfl, .int ..⟩
      | cons v vs => have := hv.1; simp at this⟩
  | .int k' y :: xs, k, x, h => by
    cases mx with
    | true =>
      obtain ⟨t, ht, hh⟩ := minmax_ok true xs k _ h
      refine ⟨t, ht, fun S ℓ w vs hv => ?_⟩
      cases vs with
      | nil => have := hv.1; simp at this
      | cons v vs =>
        obtain rfl := int_inv (hv.2 0 (.int k' y) v (by simp) (by simp))
        obtain ⟨v', h1, h2⟩ := hh S ℓ w vs ⟨by have := hv.1; simpa using this, fun i t v a b => hv.2 (i + 1) t v (by simpa using a) (by simpa using b)⟩
        refine ⟨v', ?_, h2⟩
        simp only [List.foldlM_cons, Sem.run_bind, if_true, Builtin.max2, Sem.run_pure, Result.andThen_ok]
        simpa using h1
    | false =>
      obtain ⟨t, ht, hh⟩ := minmax_ok false xs k _ h
      refine ⟨t, ht, fun S ℓ w vs hv => ?_⟩
      cases vs with
      | nil => have := hv.1; simp at this
      | cons v vs =>
        obtain rfl := int_inv (hv.2 0 (.int k' y) v (by simp) (by simp))
        obtain ⟨v', h1, h2⟩ := hh S ℓ w vs ⟨by have := hv.1; simpa using this, fun i t v a b => hv.2 (i + 1) t v (by simpa using a) (by simpa using b)⟩
        refine ⟨v', ?_, h2⟩
        simp only [List.foldlM_cons, Sem.run_bind, Bool.false_eq_true, if_false, Builtin.min2, Sem.run_pure, Result.andThen_ok]
        simpa using h1
  | .undef :: xs, k, x, h | .bool _ :: xs, k, x, h | .str _ :: xs, k, x, h | .agg _ :: xs, k, x, h | .tup _ :: xs, k, x, h | .lst .. :: xs, k, x, h | .own .. :: xs, k, x, h | .pnil :: xs, k, x, h | .pimm .. :: xs, k, x, h | .ploc .. :: xs, k, x, h | .pown .. :: xs, k, x, h | .fn .. :: xs, k, x, h => by simp [minmax] at h
theorem bnd_some {R α : Type} {c : Option α} {K : α → Option R} {r : R} (h : bnd c K = some r) : ∃ t, c = some t ∧ K t = some r := by
  unfold bnd at h
  split at h
  · exact ⟨_, rfl, h⟩
  · cases h
theorem gives_tree {ct : FuncId → List TV → Option TV} (hct : TreeOk P ct) {o : Oper} {c : Call} (hop : o.op = .call c) {f : Operand} (hc : c.callee = .value f) {s : St} {g : FuncId} {caps : List TV} (hf : rho E s.T 0 f = .fn g caps) {t : TV}
    (ht : ct g ((argsT E s.T c.args.toList c.argTypes.toList ++ caps).map (frz s.L s.H 8)) = some t) {S : Shd} {ℓ : Lm} {a : Act} {w : World} (hR : Rel S ℓ s a w) : Gives P o a w (Φq S ℓ s.L s.H w t) := by
  have hv := hR.ev (E := E) 0 f
  rw [hf] at hv
  obtain ⟨vs, he, hvs⟩ := fn_inv hv
  have hargs := (args_rv (E := E) hR c.args.toList c.argTypes.toList).append hvs
  have hfz := hargs.map (frz_ok hR.hr 8)
  obtain ⟨h1, h2⟩ := hct g _ t ht ((c.args.map a.eval) ++ vs) w
  have h3 := h2 (by simpa using hfz)
  refine Gives.call (f := g) (args := (c.args.map a.eval) ++ vs) (w' := w) ?_ (h3.mono fun e w' hh => ?_)
  · simp only [execOp, hop, resolve, hc, he, Deferred.ofValue, Sem.run_bind, Sem.run_pure, Result.andThen_ok, invoke]
    simpa using h1
  · obtain ⟨v, rfl, hb, hr⟩ := hh
    exact ⟨v, rfl, S.grow w.heap.size w'.heap.size, S.grow_ext _ _, .of_below hR.hr hb, hR.hr.grow hb, (hr S hR.hr.base).up ℓ⟩
theorem evQ_ok {R : Type} (hE : EnvOk P E) {ct : FuncId → List TV → Option TV} (hct : TreeOk P ct) {o : Oper} {s : St} {K : TV → Option R} {r : R} (h : evQ E ct o s.T s.L s.H K = some r) :
    ∃ t, K t = some r ∧ ∀ (S : Shd) (ℓ : Lm) (a : Act) (w : World), Rel S ℓ s a w → Gives P o a w (Φq S ℓ s.L s.H w t) := by
  unfold evQ at h
  cases hop : o.op <;> simp only [hop] at h <;> try (cases h; done)
  case move x => exact ⟨_, h, fun S ℓ a w hR => gives_pure hR (by simp [execOp, hop]) (hR.ev _ x)⟩
  case assign x => exact ⟨_, h, fun S ℓ a w hR => gives_pure hR (by simp [execOp, hop]) (hR.ev _ x)⟩
  case pick c x y =>
    split at h
    · rename_i b hc
      have run : ∀ (S : Shd) (ℓ : Lm) (a : Act) (w : World), Rel S ℓ s a w → (execOp a.eval o).run P w = .ok (.value (if b then a.eval x else a.eval y)) w := by
        intro S ℓ a w hR
        have := hR.ev (E := E) o.type c
        rw [hc] at this
        simp [execOp, hop, bool_inv this, asBool]
      have gen : ∀ t, K t = some r → (∀ (S : Shd) (ℓ : Lm) (a : Act) (w : World), Rel S ℓ s a w → RV S w ℓ t (if b then a.eval x else a.eval y)) → (∃ t, K t = some r ∧ ∀ (S : Shd) (ℓ : Lm) (a : Act) (w : World), Rel S ℓ s a w → Gives P o a w (Φq S ℓ s.L s.H w t)) :=
        fun t ht hh => ⟨t, ht, fun S ℓ a w hR => gives_pure hR (run S ℓ a w hR) (hh S ℓ a w hR)⟩
      unfold pickK at h
      split at h
      · rename_i p q hp hq
        refine gen _ h fun S ℓ a w hR => ?_
        have h1 := hR.ev (E := E) o.type x
        have h2 := hR.ev (E := E) o.type y
        rw [hp] at h1; rw [hq] at h2
        rw [bool_inv h1, bool_inv h2]
        cases b <;> exact .bool ..
      · cases b with
        | true => exact gen _ h fun S ℓ a w hR => hR.ev o.type x
        | false => exact gen _ h fun S ℓ a w hR => hR.ev o.type y
    · cases h
  case load ty p =>
    obtain ⟨t, ht, hh⟩ := loadK_ok hE h
    refine ⟨t, ht, fun S ℓ a w hR => ?_⟩
    obtain ⟨x, ⟨ad, hv, hrun⟩, hr⟩ := hh S ℓ w _ hR.hr (hR.ev 0 p)
    exact gives_pure hR (by simp [execOp, hop, hv, loadAt_run, hrun]) (hr.up ℓ)
  case nilCheck x =>
    split at h
    · rename_i hp
      refine ⟨_, h, fun S ℓ a w hR => ?_⟩
      have hv := hR.ev (E := E) 0 x
      obtain ⟨ad, he⟩ := ptr_some hv hp
      exact gives_pure (v := .pointer (some ad)) hR (by simp [execOp, hop, he]) (by rw [← he]; exact hv)
    · cases h
  case binOp op ty x y yt =>
    obtain ⟨t, ht, hh⟩ := binK_ok hE h
    refine ⟨t, ht, fun S ℓ a w hR => ?_⟩
    obtain ⟨v, hrun, hr⟩ := hh S ℓ w _ _ (hR.ev ty x) (hR.ev ty y) x y
    exact gives_pure hR (by simp only [execOp, hop]; rw [Sem.run_bind, hrun]; rfl) hr
  case unOp op ty x =>
    unfold unK at h
    split at h
    · rename_i b hx
      refine ⟨_, h, fun S ℓ a w hR => ?_⟩
      have := hR.ev (E := E) 0 x
      rw [hx] at this
      exact gives_pure hR (by simp [execOp, hop, bool_inv this, Op.unary]) (.bool ..)
    · rename_i k n hx
      refine ⟨_, h, fun S ℓ a w hR => ?_⟩
      have := hR.ev (E := E) 0 x
      rw [hx] at this
      exact gives_pure hR (by simp [execOp, hop, int_inv this, Op.unary, Op.intArith]) (.int ..)
    · cases h
  case convert src dst x =>
    split at h
    · rename_i hd hs hx
      have h1 := (hE.ti _ _ hd).kind
      have h2 := (hE.ti _ _ hs).kind
      simp only [KOk] at h1 h2
      refine ⟨_, h, fun S ℓ a w hR => ?_⟩
      have := hR.ev (E := E) src x
      rw [hx] at this
      exact gives_pure hR (by simp only [execOp, hop, int_inv this, convert, Sem.run_bind, run_underlying h1, run_underlying h2, Result.andThen_ok, Conv.intToInt, Sem.run_pure]) (.int ..)
    · rename_i hd hs hx
      have h1 := (hE.ti _ _ hd).kind
      have h2 := (hE.ti _ _ hs).kind
      simp only [KOk] at h1 h2
      refine ⟨_, h, fun S ℓ a w hR => ?_⟩
      have := hR.ev (E := E) src x
      rw [hx] at this
      exact gives_pure hR (by simp only [execOp, hop, str_inv this, convert, Sem.run_bind, run_underlying h1, run_underlying h2, Result.andThen_ok, Sem.run_pure]) (.str ..)
    · cases h
  case makeFunc fn first caps =>
    cases fn <;> simp only at h <;> try (cases h; done)
    rename_i f
    split at h
    · rename_i hf
      refine ⟨_, h, fun S ℓ a w hR => ?_⟩
      have hf' : first = #[] := by simpa using hf
      subst hf'
      exact gives_pure (v := .func (.func f) #[] (caps.map a.eval)) hR (by simp [execOp, hop, Instr.makeFunc]) (rv_fn (by simpa using maps_rv (E := E) hR 0 caps.toList))
    · cases h
  case slice ty x lo hi mx =>
    split at h
    · obtain ⟨t, ht, hh⟩ := slice_ok hE h
      refine ⟨t, ht, fun S ℓ a w hR => ?_⟩
      obtain ⟨v, hrun, hr⟩ := hh S ℓ s.L w _ (lo.map a.eval) (hi.map a.eval) hR.hr (hR.ev ty x) (by cases lo with | none => trivial | some y => exact hR.ev 0 y) (by cases hi with | none => trivial | some y => exact hR.ev 0 y)
      exact gives_pure hR (by simp only [execOp, hop, Option.map_none]; rw [Sem.run_bind, hrun]; rfl) hr
    · cases h
  case fieldAddr sty x f =>
    split at h
    · rename_i fs hs
      split at h
      · rename_i off ft hf
        split at h
        · rename_i fi hfi
          split at h
          · rename_i h1 h2
            refine ⟨_, h, fun S ℓ a w hR => ?_⟩
            have hv := hR.ev (E := E) 0 x
            obtain ⟨ad, he⟩ := ptr_some hv h2
            obtain ⟨y, hrun, hr⟩ := fieldAddr_ok hE hs rfl hf hfi (Nat.le_of_ble_eq_true h1) hv h2
            exact gives_pure hR (by simp only [execOp, hop]; rw [Sem.run_bind, hrun ad he]; rfl) hr
          · cases h
        · cases h
      · cases h
    · cases h
  case field sty x f =>
    split at h
    · rename_i fs cs hs hx
      split at h
      · rename_i off ft hf
        have hk := (hE.ti _ _ hs).kind
        obtain ⟨fields, hu, hm, _⟩ := hk
        rw [nth_eq] at hf
        have hfld : ∃ fd, fields[f]? = some fd ∧ fd.offset = off ∧ fd.type = ft := by
          rw [← hm, List.getElem?_map, Option.map_eq_some_iff] at hf
          obtain ⟨fd, e1, e2⟩ := hf
          simp only [Array.getElem?_toList] at e1
          simp only [Prod.mk.injEq] at e2
          exact ⟨fd, e1, e2.1, e2.2⟩
        obtain ⟨fd, e1, e2, e3⟩ := hfld
        unfold rdRow at h
        split at h
        · cases h
        rename_i i hi
        have hT := hE.ti _ _ hi
        have one : ∀ ys, sub cs off i.size = some ys → ∀ (S : Shd) (ℓ : Lm) (a : Act) (w : World), Rel S ℓ s a w → ∃ v, (execOp a.eval o).run P w = .ok (.value v) w ∧ CV S w ℓ i.isAgg ys v := by
          intro ys hys S ℓ a w hR
          have hv := hR.ev (E := E) sty x
          rw [hx] at hv
          obtain ⟨vs, he, hvs⟩ := agg_inv hv
          obtain ⟨v, hp, hc⟩ := part_run (w := w) hT hvs hys
          refine ⟨v, ?_, hc⟩
          simp only [execOp, hop, he, Instr.field, Sem.run_bind, run_underlying hu, Result.andThen_ok, e1, asAgg, Sem.run_pure, e2, e3, hp]
        split at h
        · rename_i ha
          split at h
          · rename_i ys hys
            refine ⟨_, h, fun S ℓ a w hR => ?_⟩
            obtain ⟨v, h1, h2⟩ := one ys hys S ℓ a w hR
            rw [ha] at h2
            obtain ⟨vs, rfl, h2⟩ := h2
            exact gives_pure hR h1 (rv_agg h2)
          · cases h
        · rename_i ha
          split at h
          · rename_i t ht
            have h1s := hT.one ha
            have hys : sub cs off i.size = some [t] := by
              rw [h1s]
              exact sub_one _ _ _ ht
            refine ⟨_, h, fun S ℓ a w hR => ?_⟩
            obtain ⟨v, h1, h2⟩ := one _ hys S ℓ a w hR
            rw [ha] at h2
            obtain ⟨t', e, h2⟩ := h2
            cases e
            exact gives_pure hR h1 h2
          · cases h
      · cases h
    · cases h
  case indexAddr ty x ix =>
    obtain ⟨t, ht, hh⟩ := indexAddr_ok hE h
    refine ⟨t, ht, fun S ℓ a w hR => ?_⟩
    obtain ⟨v, hrun, hr⟩ := hh S ℓ s.L w _ _ hR.hr (hR.ev ty x) (hR.ev 0 ix)
    exact gives_pure hR (by simp only [execOp, hop]; rw [Sem.run_bind, hrun]; rfl) hr
  case index ty x ix =>
    split at h
    · rename_i s0 k i hti hx hix
      obtain ⟨hb, h⟩ := ck_some h
      have hk := (hE.ti _ _ hti).kind
      simp only [KOk] at hk
      refine ⟨_, h, fun S ℓ a w hR => ?_⟩
      have h1 := hR.ev (E := E) ty x
      have h2 := hR.ev (E := E) 0 ix
      rw [hx] at h1; rw [hix] at h2
      have hlt : i.toNat < s0.size := by omega
      refine gives_pure hR ?_ (.int ..)
      simp only [execOp, hop, str_inv h1, int_inv h2, Instr.index, asIntOf, Sem.run_bind, run_underlying hk, Result.andThen_ok, Sem.run_pure, hb.1, if_true]
      have : s0[i.toNat]? = some s0[i.toNat] := by simp [hlt]
      rw [this]
      simp
    · cases h
  case extract x ix =>
    split at h
    · rename_i vs hx
      split at h
      · rename_i v hv
        rw [nth_eq] at hv
        refine ⟨_, h, fun S ℓ a w hR => ?_⟩
        have h1 := hR.ev (E := E) 0 x
        rw [hx] at h1
        obtain ⟨xs, he, h2⟩ := tup_inv h1
        have hlt : ix < xs.size := by
          have := h2.1
          obtain ⟨h3, _⟩ := List.getElem?_eq_some_iff.1 hv
          simp at this; omega
        have h3 : xs[ix]? = some xs[ix] := by simp [hlt]
        exact gives_pure (v := xs[ix]) hR (by simp only [execOp, hop, he, Instr.extract, h3, Sem.run_bind, Sem.run_pure, Result.andThen_ok]) (h2.2 ix v _ hv (by simpa using h3))
      · cases h
    · cases h
  case call c =>
    cases hc : c.callee with
    | invoke x m => simp only [hc] at h; cases h
    | value f =>
      simp only [hc] at h
      split at h
      · rename_i g caps hf
        obtain ⟨t, h1, h2⟩ := bnd_some h
        exact ⟨t, h2, fun S ℓ a w hR => gives_tree hct hop hc hf h1 hR⟩
      · cases h
    | builtin b =>
      simp only [hc] at h
      have run : ∃ cs, ∀ (a : Act) (w : World), (execOp a.eval o).run P w = (builtin b c.argTypes o.type cs (c.args.map a.eval)).run P w :=
        ⟨_, fun a w => by simp only [execOp, hop, resolve, hc, Sem.run_bind, Sem.run_pure, Result.andThen_ok, invoke]; rfl⟩
      obtain ⟨cs, run⟩ := run
      cases b <;> simp only at h <;> try (cases h; done)
      case len =>
        split at h
        · rename_i ty ts x h1 h2
          obtain ⟨t, ht, hh⟩ := len_ok hE h
          refine ⟨t, ht, fun S ℓ a w hR => ?_⟩
          have hargs := args_rv (E := E) hR c.args.toList c.argTypes.toList
          rw [h2] at hargs
          have hx : ∃ v, (c.args.map a.eval)[0]? = some v ∧ RV S w ℓ x v := by
            have hl := hargs.1
            simp only [List.length_cons, List.length_nil, List.length_map, Array.length_toList] at hl
            have : (c.args.map a.eval)[0]? = some ((c.args.map a.eval)[0]'(by simp; omega)) := by simp [← hl]
            refine ⟨_, this, hargs.2 0 x _ (by simp) ?_⟩
            rw [← Array.toList_map, Array.getElem?_toList]; exact this
          obtain ⟨v, hv, hr⟩ := hx
          have hty : c.argTypes[0]? = some ty := by rw [← Array.getElem?_toList, h1]; rfl
          obtain ⟨y, hrun, hry⟩ := hh S ℓ s.L w v hR.hr hr c.argTypes o.type _ hty hv
          exact gives_pure hR (by rw [run]; simp only [builtin, Sem.run_bind, hrun, Result.andThen_ok, Sem.run_pure]) hry
        · cases h
      case max =>
        split at h
        · rename_i k x xs h2
          obtain ⟨t, ht, hh⟩ := minmax_ok (P := P) true xs k x h
          refine ⟨t, ht, fun S ℓ a w hR => ?_⟩
          have hargs := args_rv (E := E) hR c.args.toList c.argTypes.toList
          rw [h2] at hargs
          cases hl : c.args.toList.map a.eval with
          | nil => rw [hl] at hargs; have := hargs.1; simp at this
          | cons v vs =>
            rw [hl] at hargs
            obtain rfl := int_inv (hargs.2 0 (.int k x) v (by simp) (by simp))
            obtain ⟨y, hrun, hry⟩ := hh S ℓ w vs ⟨by have := hargs.1; simpa using this, fun i t v a b => hargs.2 (i + 1) t v (by simpa using a) (by simpa using b)⟩
            refine gives_pure hR ?_ hry
            rw [run]
            simp only [builtin, Builtin.max_, Sem.run_bind]
            rw [Array.toList_map, hl]
            simp only
            simp only [if_true] at hrun
            rw [hrun]; rfl
        · cases h
      case min =>
        split at h
        · rename_i k x xs h2
          obtain ⟨t, ht, hh⟩ := minmax_ok (P := P) false xs k x h
          refine ⟨t, ht, fun S ℓ a w hR => ?_⟩
          have hargs := args_rv (E := E) hR c.args.toList c.argTypes.toList
          rw [h2] at hargs
          cases hl : c.args.toList.map a.eval with
          | nil => rw [hl] at hargs; have := hargs.1; simp at this
          | cons v vs =>
            rw [hl] at hargs
            obtain rfl := int_inv (hargs.2 0 (.int k x) v (by simp) (by simp))
            obtain ⟨y, hrun, hry⟩ := hh S ℓ w vs ⟨by have := hargs.1; simpa using this, fun i t v a b => hargs.2 (i + 1) t v (by simpa using a) (by simpa using b)⟩
            refine gives_pure hR ?_ hry
            rw [run]
            simp only [builtin, Builtin.min_, Sem.run_bind]
            rw [Array.toList_map, hl]
            simp only
            simp only [Bool.false_eq_true, if_false] at hrun
            rw [hrun]; rfl
        · cases h
end
end Go.Proofs.YtbdkjkedjldheaaTv
