/- An evaluator of the program's code over trees: it is sound. Conditions: the environment is the program's; its given answers are right. -/
import Derived.Test.YtbdkjkedjldheaaKvO
namespace Go.Proofs.YtbdkjkedjldheaaTv
set_option linter.unusedVariables false
set_option linter.unusedSimpArgs false
set_option linter.unnecessarySimpa false
open Go Go.RowKit
section
variable {R : Type} {P : Program} {E : Env}
def resOne (tmps : Array Value) : ResultVar → Sem Value
  | .tmp t => pure (tmps.getD t undef)
  | .cell x t => do loadVar t (← asAddr (tmps.getD x undef))
theorem results_eq (fn : Func) (tmps : Array Value) : results fn tmps = (do
    let vs ← fn.results.mapM (resOne tmps)
    pure (if h : vs.size = 1 then vs[0] else .tuple vs)) := by
  unfold results
  congr 1
theorem resK_ok (hE : EnvOk P E) {s : St} : ∀ (l : List ResultVar) (K : List TV → Option R) (r : R), resK E s l K = some r → ∃ ts, K ts = some r ∧ ts.length = l.length ∧ ∀ S ℓ a w, Rel S ℓ s a w →
    ∃ vs : List Value, (l.mapM (resOne a.tmps)).run P w = .ok vs w ∧ RVs S w ℓ ts vs
  | [], K, r, h => ⟨[], h, rfl, fun S ℓ a w hR => ⟨[], rfl, .nil⟩⟩
  | .tmp t :: l, K, r, h => by
    simp only [resK] at h
    obtain ⟨ts, h1, h2, hh⟩ := resK_ok hE l _ r h
    refine ⟨_, h1, by simp [h2], fun S ℓ a w hR => ?_⟩
    obtain ⟨vs, h3, h4⟩ := hh S ℓ a w hR
    refine ⟨a.tmps.getD t undef :: vs, ?_, .cons (hR.ev (E := E) 0 (.tmp t)) h4⟩
    have h5 : (resOne a.tmps (.tmp t)).run P w = .ok (a.tmps.getD t undef) w := rfl
    simp only [List.mapM_cons, Sem.run_bind, Sem.run_pure, Result.andThen_ok, h3, h5]
  | .cell x ty :: l, K, r, h => by
    simp only [resK] at h
    obtain ⟨t, h0, hl⟩ := loadK_ok hE h
    obtain ⟨ts, h1, h2, hh⟩ := resK_ok hE l _ r h0
    refine ⟨_, h1, by simp [h2], fun S ℓ a w hR => ?_⟩
    obtain ⟨vs, h3, h4⟩ := hh S ℓ a w hR
    obtain ⟨y, ⟨ad, he, hy⟩, hr⟩ := hl S ℓ w _ hR.hr (hR.ev (E := E) 0 (.tmp x))
    have he' : a.tmps.getD x undef = .pointer (some ad) := he
    refine ⟨y :: vs, ?_, .cons (hr.up ℓ) h4⟩
    have h5 : (resOne a.tmps (.cell x ty)).run P w = .ok y w := by simp only [resOne, Sem.run_bind, he', asAddr, Sem.run_pure, Result.andThen_ok, hy]
    simp only [List.mapM_cons, Sem.run_bind, h5, Sem.run_pure, Result.andThen_ok, h3]
theorem one_rv {S : Shd} {w : World} {ℓ : Lm} {ts : List TV} {vs : Array Value} (h : RVs S w ℓ ts vs.toList) : RV S w ℓ (oneT ts) (if h : vs.size = 1 then vs[0] else .tuple vs) := by
  have hl := h.1
  simp only [Array.length_toList] at hl
  split
  · rename_i h1
    match ts, hl, h with
    | [t], _, h => exact h.2 0 t _ rfl (by simp [h1])
    | [], e, _ => simp at e; omega
    | _ :: _ :: _, e, _ => simp at e; omega
  · rename_i h1
    match ts, hl, h with
    | [t], e, _ => simp at e; omega
    | [], _, h => exact rv_tup h
    | _ :: _ :: _, _, h => exact rv_tup h
theorem replL_get (n d : Nat) (row : List TV) : (replL n)[d]? = some (some row) → False := by
  induction n generalizing d with
  | zero => simp [replL]
  | succ n ih =>
    cases d with
    | zero => simp [replL]
    | succ d => simpa [replL] using ih d
theorem replT_len (n : Nat) : (replT n).length = n := by
  induction n with
  | zero => rfl
  | succ n ih => simp [replT, ih]
theorem replT_get (n i : Nat) (t : TV) : (replT n)[i]? = some t → t = .undef := by
  induction n generalizing i with
  | zero => simp [replT]
  | succ n ih =>
    cases i with
    | zero => simp [replT]; exact fun e => e.symm
    | succ i => simpa [replT] using ih i
theorem evFun_ok (hE : EnvOk P E) {ct : FuncId → List TV → Option TV} {ch : FuncId → List TV → Heap → Option (TV × Heap)} (hct : TreeOk P ct) (hch : HeapOk P ch) {k : Nat} {f : FuncId} {args : List TV} {H : Heap} {r : TV × Heap} (h : evFun E ct ch k f args H = some r) (vs : Array Value) (w : World) :
    (callFunc f vs).run P w = .ok (.enter f vs) w ∧ ∀ S : Shd, HR S no [] H w → RVs S w no args vs.toList → Calls P f vs w fun e w' => ∃ v S', e = .returned v ∧ Ext S S' ∧ Step S w w' ∧ HR S' no [] r.2 w' ∧ RV S' w' no r.1 v := by
  unfold evFun at h
  split at h
  · cases h
  rename_i fn hfn
  split at h
  · cases h
  rename_i c hc
  obtain ⟨hf, hnm⟩ := hE.fn f fn hfn
  refine ⟨by simp [callFunc, hf, hc]; simpa using hnm, fun S hR hv => ?_⟩
  refine calls_of_wp hf hc ?_
  obtain ⟨e, s', h1, hh⟩ := evCode_ok hE hct hch c _ _ r h
  have hR0 : Rel S no ⟨args ++ replT (fn.ntmps - args.length), replL fn.ntmps, H⟩ { tmps := vs ++ Array.replicate (fn.ntmps - vs.size) undef, defers := [] } w := by
    have hl := hv.1
    simp only [Array.length_toList] at hl
    refine ⟨⟨hR.base, hR.imm, hR.kept, hR.ki, hR.gen, hR.blk, hR.inj, fun d b hd => (by cases hd), fun d row hd => absurd hd (fun h => replL_get _ _ _ h), fun d d' b hd => (by cases hd), fun d b id o hd => (by cases hd)⟩, by simp [replT_len, hl], fun i t v a b => ?_, rfl⟩
    by_cases hi : i < args.length
    · rw [List.getElem?_append_left hi] at a
      rw [Array.getElem?_append_left (by omega)] at b
      exact hv.2 i t v a (by simpa using b)
    · rw [List.getElem?_append_right (by omega)] at a
      rw [replT_get _ _ _ a]; exact .undef ..
  have fin : ∀ (e : Ex), (resK E s' fn.results.toList fun vs => match nolocD 4 (oneT vs) with | true => some (oneT vs, s'.H) | false => none) = some r → ∀ S' ℓ' a' w', Ext S S' → Step S w w' → Rel S' ℓ' s' a' w' →
      a'.defers = [] ∧ ∃ v, (results fn a'.tmps).run P w' = .ok v w' ∧ ∃ v1 S', Ending.returned v = .returned v1 ∧ Ext S S' ∧ Step S w w' ∧ HR S' no [] r.2 w' ∧ RV S' w' no r.1 v1 := by
    intro e h S' ℓ' a' w' e1 st1 r1
    obtain ⟨ts, h2, h3, hres⟩ := resK_ok hE _ _ r h
    split at h2
    · rename_i hno
      cases h2
      obtain ⟨xs, hx, hxr⟩ := hres S' ℓ' a' w' r1
      have hone := one_rv (vs := xs.toArray) (by simpa using hxr)
      refine ⟨r1.df, _, ?_, _, S', rfl, e1, st1, ?_, hone.nolocD 4 hno no⟩
      · rw [results_eq, Sem.run_bind]
        have : (fn.results.mapM (resOne a'.tmps)).run P w' = .ok xs.toArray w' := by
          rw [Array.mapM_eq_mapM_toList, Sem.run_map, hx]; rfl
        rw [this]; rfl
      · have hr := r1.hr
        exact ⟨hr.base, hr.imm, hr.kept, hr.ki, hr.gen, hr.blk, hr.inj, fun d b hd => (by cases hd), fun d row hd => (by simp at hd), fun d d' b hd => (by cases hd), fun d b id o hd => (by cases hd)⟩
    · cases h2
  refine hh S no _ w hR0 _ fun S1 ℓ1 a1 w1 e1 st1 r1 => ?_
  cases e with
  | normal => exact fin .normal h1 S1 ℓ1 a1 w1 e1 st1 r1
  | ret => exact fin .ret h1 S1 ℓ1 a1 w1 e1 st1 r1
  | exit id => simp at h1
/-- The given answers of library functions are right. -/
def PrimOk (P : Program) (E : Env) : Prop := ∀ g p, E.prim g = some p → TreeOk P (fun x args => if x = g then p args else none)
theorem both_ok (hE : EnvOk P E) (hp : PrimOk P E) : ∀ k, TreeOk P (both E k).1 ∧ HeapOk P (both E k).2
  | 0 => ⟨fun g args t h => by simp [both] at h, fun g args H r h => by simp [both] at h⟩
  | k + 1 => by
    obtain ⟨h1, h2⟩ := both_ok hE hp k
    refine ⟨fun g args t h => ?_, fun g args H r h vs w => evFun_ok hE h1 h2 h vs w⟩
    simp only [both] at h
    split at h
    · rename_i p hpg
      exact hp g p hpg g args t (by simp [h])
    · obtain ⟨r, hr, ht⟩ := bnd_some h
      cases ht
      intro vs w
      obtain ⟨c1, c2⟩ := evFun_ok hE h1 h2 hr vs w
      refine ⟨c1, fun hv => ?_⟩
      have hR : HR (Shd.all w) no [] [] w := ⟨Nat.le_refl _, fun b h => h, fun b h => h.elim, fun b h => h.elim, fun id => by simp [Shd.all], fun id o ho => (by simp at ho), fun i j oi oj hi => (by simp at hi), fun d b hd => (by cases hd), fun d row hd => (by simp at hd), fun d d' b hd => (by cases hd), fun d b id o hd => (by cases hd)⟩
      refine (c2 (Shd.all w) hR hv).mono fun e w' hh => ?_
      obtain ⟨v, S', rfl, hE', hs, hr', hv'⟩ := hh
      refine ⟨v, rfl, hs.below, fun S0 h0 => ?_⟩
      have hbase : S'.base = w.heap.size := hE'.base
      have := ret_ok (S0 := S0) hr' (by rw [hbase]; exact h0) 8 r.1 v hv'
      rw [hbase] at this; exact this
theorem callT_ok (hE : EnvOk P E) (hp : PrimOk P E) (k : Nat) : TreeOk P (callT E k) := (both_ok hE hp k).1
#print axioms callT_ok
end
end Go.Proofs.YtbdkjkedjldheaaTv
