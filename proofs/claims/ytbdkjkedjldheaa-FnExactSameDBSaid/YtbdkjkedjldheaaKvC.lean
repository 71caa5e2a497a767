/- An evaluator of the program's code over trees: operations that only read. Conditions: none. -/
import Derived.Test.YtbdkjkedjldheaaKvB
import Derived.Laws.Cells
namespace Go.Proofs.YtbdkjkedjldheaaTv
set_option linter.unusedVariables false
set_option linter.unusedSimpArgs false
set_option linter.unnecessarySimpa false
open Go Go.RowKit
section
variable {P : Program} {E : Env} {S : Shd} {ℓ : Lm} {w : World}
theorem cTV1_rv (v : Value) : RV S w ℓ (cTV1 v) v := by
  unfold cTV1
  split <;> first | exact .bool .. | exact .int .. | exact .str .. | exact .pnil _ | exact .undef ..
theorem cCell_rv (z : TV) (v : Value) : RV S w ℓ (cCell z v) v := by
  unfold cCell
  split
  · split
    · exact .lst0 ..
    · exact .undef ..
  · exact cTV1_rv _
theorem cCells_rv : ∀ (zs : List TV) (vs : List Value), RVs S w ℓ (cCells zs vs) vs
  | z :: zs, v :: vs => .cons (cCell_rv z v) (cCells_rv zs vs)
  | [], [] => by unfold cCells; exact .nil
  | _ :: _, [] => by unfold cCells; exact .nil
  | [], v :: vs => by unfold cCells; exact .cons (cTV1_rv v) (cCells_rv [] vs)
theorem rv_agg {cs : List TV} {vs : Array Value} (h : RVs S w ℓ cs vs.toList) : RV S w ℓ (.agg cs) (.agg vs) :=
  .agg _ _ _ (by simpa using h.1) fun i t v a b => h.2 i t v a (by simpa using b)
theorem rv_tup {cs : List TV} {vs : Array Value} (h : RVs S w ℓ cs vs.toList) : RV S w ℓ (.tup cs) (.tuple vs) :=
  .tup _ _ _ (by simpa using h.1) fun i t v a b => h.2 i t v a (by simpa using b)
theorem rv_fn {f : FuncId} {cs : List TV} {vs : Array Value} (h : RVs S w ℓ cs vs.toList) : RV S w ℓ (.fn f cs) (.func (.func f) #[] vs) :=
  .fn _ _ _ _ (by simpa using h.1) fun i t v a b => h.2 i t v a (by simpa using b)
theorem agg_inv {cs : List TV} {v : Value} (h : RV S w ℓ (.agg cs) v) : ∃ vs : Array Value, v = .agg vs ∧ RVs S w ℓ cs vs.toList := by
  cases h with
  | agg _ _ vs hl h => exact ⟨vs, rfl, by simpa using hl, fun i t v a b => h i t v a (by simpa using b)⟩
theorem tup_inv {cs : List TV} {v : Value} (h : RV S w ℓ (.tup cs) v) : ∃ vs : Array Value, v = .tuple vs ∧ RVs S w ℓ cs vs.toList := by
  cases h with
  | tup _ _ vs hl h => exact ⟨vs, rfl, by simpa using hl, fun i t v a b => h i t v a (by simpa using b)⟩
theorem fn_inv {f : FuncId} {cs : List TV} {v : Value} (h : RV S w ℓ (.fn f cs) v) : ∃ vs : Array Value, v = .func (.func f) #[] vs ∧ RVs S w ℓ cs vs.toList := by
  cases h with
  | fn _ _ _ vs hl h => exact ⟨vs, rfl, by simpa using hl, fun i t v a b => h i t v a (by simpa using b)⟩
theorem int_inv {k : IntKind} {n : Int} {v : Value} (h : RV S w ℓ (.int k n) v) : v = .int k n := by cases h; rfl
theorem bool_inv {b : Bool} {v : Value} (h : RV S w ℓ (.bool b) v) : v = .bool b := by cases h; rfl
theorem str_inv {b : ByteArray} {v : Value} (h : RV S w ℓ (.str b) v) : v = .string b := by cases h; rfl
theorem nilT_rv (ty : TypeId) : RV S w ℓ (nilT E ty) (.slice none 0 0) := by
  unfold nilT
  split
  · split
    · exact cCell_rv _ _
    · exact .undef ..
  · exact .undef ..
theorem cTV_rv (ty : TypeId) (v : Value) : RV S w ℓ (cTV E ty v) v := by
  unfold cTV
  split
  · exact rv_agg (cCells_rv _ _)
  · split
    · rename_i h; exact rv_tup (by rw [h]; exact .nil)
    · exact .undef ..
  · exact nilT_rv ty
  · exact cTV1_rv _
theorem nthD_eq (l : List TV) (n : Nat) : nthD l n = (l[n]?).getD .undef := by simp [nthD, nth_eq]
theorem eval_rv {T : List TV} {a : Act} (hl : T.length = a.tmps.size) (tm : ∀ (i : Nat) (t : TV) (v : Value), T[i]? = some t → a.tmps[i]? = some v → RV S w ℓ t v) (ty : TypeId) (x : Operand) :
    RV S w ℓ (rho E T ty x) (a.eval x) := by
  cases x with
  | tmp t =>
    show RV S w ℓ (nthD T t) (a.tmps.getD t undef)
    rw [nthD_eq]
    cases h : T[t]? with
    | none => exact .undef ..
    | some tv =>
      have hlt : t < a.tmps.size := by
        obtain ⟨h1, _⟩ := List.getElem?_eq_some_iff.1 h
        rw [← hl]; exact h1
      have he : a.tmps[t]? = some (a.tmps.getD t undef) := by simp [hlt]
      exact tm t tv _ h he
  | const v => exact cTV_rv ty v
  | global g => exact .undef ..
  | func f => exact rv_fn .nil
theorem Rel.ev {s : St} {a : Act} (h : Rel S ℓ s a w) (ty : TypeId) (x : Operand) : RV S w ℓ (rho E s.T ty x) (a.eval x) := eval_rv h.len h.tm ty x
theorem args_rv {s : St} {a : Act} (h : Rel S ℓ s a w) : ∀ (xs : List Operand) (ts : List TypeId), RVs S w ℓ (argsT E s.T xs ts) (xs.map a.eval)
  | [], _ => by unfold argsT; exact .nil
  | x :: xs, t :: ts => .cons (h.ev t x) (args_rv h xs ts)
  | x :: xs, [] => by unfold argsT; exact .cons (h.ev 0 x) (args_rv h xs [])
theorem maps_rv {s : St} {a : Act} (h : Rel S ℓ s a w) (ty : TypeId) : ∀ (xs : List Operand), RVs S w ℓ (xs.map (rho E s.T ty)) (xs.map a.eval)
  | [] => .nil
  | x :: xs => .cons (h.ev ty x) (maps_rv h ty xs)
/-- What an operation does. -/
def Gives (P : Program) (o : Oper) (a : Act) (w : World) (Φ : Value → World → Prop) : Prop :=
  ∀ (next : Act → World → Prop) (Q : Exit → Act → World → Prop), (∀ v w', Φ v w' → next (a.put o.dst v) w') → o.wp P a w next Q
theorem Gives.value {o : Oper} {a : Act} {Φ : Value → World → Prop} {v : Value} {w' : World} (h : (execOp a.eval o).run P w = .ok (.value v) w') (hp : Φ v w') : Gives P o a w Φ :=
  fun next Q hn => by unfold Oper.wp; rw [h]; exact hn v w' hp
theorem Gives.skip {o : Oper} {a : Act} {Φ : Value → World → Prop} {w' : World} (h : (execOp a.eval o).run P w = .ok .skip w') (hp : Φ undef w') : Gives P o a w Φ :=
  fun next Q hn => by unfold Oper.wp; rw [h]; exact hn undef w' hp
theorem Gives.call {o : Oper} {a : Act} {Φ : Value → World → Prop} {f : FuncId} {args : Array Value} {w' : World} (h : (execOp a.eval o).run P w = .ok (.enter f args) w')
    (hc : Calls P f args w' fun e w'' => ∃ v, e = .returned v ∧ Φ v w'') : Gives P o a w Φ :=
  fun next Q hn => by
    unfold Oper.wp; rw [h]
    refine hc.mono fun e w'' he => ?_
    obtain ⟨v, rfl, hv⟩ := he
    exact hn v w'' hv
theorem Gives.mono {o : Oper} {a : Act} {Φ Φ' : Value → World → Prop} (h : Gives P o a w Φ) (hp : ∀ v w', Φ v w' → Φ' v w') : Gives P o a w Φ' :=
  fun next Q hn => h next Q fun v w' x => hn v w' (hp v w' x)
theorem TIok.und {t : TypeId} {i : TI} (h : TIok P t i) : ∃ d, P.underlying t = some d := by
  have := h.kind
  cases hk : i.kind <;> rw [hk] at this <;> simp only [KOk] at this
  case struct fs => obtain ⟨x, hx, _⟩ := this; exact ⟨_, hx⟩
  case other => obtain ⟨x, hx, _⟩ := this; exact ⟨_, hx⟩
  all_goals exact ⟨_, this⟩
theorem run_underlying {t : TypeId} {d : TypeDesc} (h : P.underlying t = some d) : (underlying t).run P w = .ok d w := by
  simp [underlying, h]
theorem run_isAgg {t : TypeId} {i : TI} (h : TIok P t i) : (isAgg t).run P w = .ok i.isAgg w := by
  have hk := h.kind
  unfold isAgg TI.isAgg
  cases hq : i.kind <;> rw [hq] at hk <;> simp only [KOk] at hk
  case struct fs => obtain ⟨x, hx, _⟩ := hk; simp [run_underlying hx]
  case other =>
    obtain ⟨d, hx, h1, h2⟩ := hk
    simp only [Sem.run_bind, run_underlying hx, Result.andThen_ok]
    cases d <;> first | rfl | exact absurd rfl (h1 _) | exact absurd rfl (h2 _ _)
  all_goals simp [run_underlying hk]
theorem run_sizeOf {t : TypeId} {i : TI} (h : TIok P t i) : (sizeOf t).run P w = .ok i.size w := by
  obtain ⟨inf, z, h1, h2, _⟩ := h.info
  simp [sizeOf, typeInfo, h1, h2]
theorem sub_spec {α : Type} : ∀ (l : List α) (off m : Nat) (r : List α), sub l off m = some r → r.length = m ∧ ∀ j, j < m → r[j]? = l[off + j]?
  | l, 0, 0, r, h => by cases l <;> (simp [sub] at h; subst h; simp)
  | a :: l, 0, m + 1, r, h => by
    simp only [sub, Option.map_eq_some_iff] at h
    obtain ⟨r', h', rfl⟩ := h
    obtain ⟨h1, h2⟩ := sub_spec l 0 m r' h'
    refine ⟨by simp [h1], fun j hj => ?_⟩
    cases j with
    | zero => simp
    | succ j => have := h2 j (by omega); simp at this; simpa using this
  | a :: l, off + 1, m, r, h => by
    have h' : sub l off m = some r := by cases m <;> simpa [sub] using h
    obtain ⟨h1, h2⟩ := sub_spec l off m r h'
    refine ⟨h1, fun j hj => ?_⟩
    rw [h2 j hj, show off + 1 + j = (off + j) + 1 by omega]
    simp
  | [], off + 1, m, r, h => by simp [sub] at h
  | [], 0, m + 1, r, h => by simp [sub] at h
/-- A variable in a row is read. -/
theorem load_row {R : Type} (hE : EnvOk P E) {ty : TypeId} {row : List TV} {off : Nat} {K : TV → Option R} {r : R} (h : rdRow E ty row off K = some r)
    : ∃ t, K t = some r ∧ ∀ (S : Shd) (w : World) (b o : Nat), (∀ (j : Nat) (t : TV), row[j]? = some t → ∃ v, w.cell? ⟨b, o + j, none⟩ = some v ∧ RV S w no t v) → ∃ v, (loadVar ty ⟨b, o + off, none⟩).run P w = .ok v w ∧ RV S w no t v := by
  unfold rdRow at h
  split at h
  · cases h
  rename_i i hi
  have hT := hE.ti ty i hi
  split at h
  · rename_i ha
    split at h
    · rename_i cs hcs
      obtain ⟨h1, h2⟩ := sub_spec _ _ _ _ hcs
      refine ⟨_, h, fun S w b o hr => ?_⟩
      have hex : ∀ j, j < i.size → ∃ v, w.cell? ⟨b, o + off + j, none⟩ = some v ∧ ∀ t, cs[j]? = some t → RV S w no t v := by
        intro j hj
        have hjc : j < cs.length := by omega
        have hg : cs[j]? = some cs[j] := List.getElem?_eq_getElem hjc
        obtain ⟨v, hv, hrv⟩ := hr (off + j) cs[j] (by rw [← h2 j hj, hg])
        exact ⟨v, by rw [Nat.add_assoc]; exact hv, fun t ht => by rw [hg] at ht; cases ht; exact hrv⟩
      have hall : ∃ g : Nat → Value, ∀ j, j < i.size → w.cell? ⟨b, o + off + j, none⟩ = some (g j) ∧ ∀ t, cs[j]? = some t → RV S w no t (g j) := by
        refine ⟨fun j => (w.cell? ⟨b, o + off + j, none⟩).getD undef, fun j hj => ?_⟩
        obtain ⟨v, hv, hrv⟩ := hex j hj
        simp only [hv, Option.getD_some]
        exact ⟨trivial, hrv⟩
      obtain ⟨g, hg⟩ := hall
      refine ⟨.agg ((List.range i.size).map g).toArray, ?_, ?_⟩
      · unfold loadVar
        simp only [Sem.run_bind, run_isAgg hT, Result.andThen_ok, ha, if_true, run_sizeOf hT]
        rw [run_loadCells w ⟨b, o + off, none⟩ i.size g (fun j hj => by
          rw [← (hg j hj).1]
          unfold Addr.add
          split
          · rename_i h0; subst h0; simp
          · rfl)]
        rfl
      · refine rv_agg ⟨by simp [h1], fun j t v ht hv => ?_⟩
        have hj : j < i.size := by rw [← h1]; exact (List.getElem?_eq_some_iff.1 ht).1
        have : v = g j := by simpa [hj] using hv.symm
        subst this
        exact (hg j hj).2 t ht
    · cases h
  · rename_i ha
    split at h
    · rename_i t ht
      rw [nth_eq] at ht
      refine ⟨t, h, fun S w b o hr => ?_⟩
      obtain ⟨v, hv, hrv⟩ := hr off t ht
      refine ⟨v, ?_, hrv⟩
      unfold loadVar
      simp [run_isAgg hT, ha, hv]
    · cases h
end
end Go.Proofs.YtbdkjkedjldheaaTv
