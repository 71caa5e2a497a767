/- An evaluator of the program's code over trees: regions, in order. Conditions: none. -/
import Derived.Test.YtbdkjkedjldheaaKvL
namespace Go.Proofs.YtbdkjkedjldheaaTv
set_option linter.unusedVariables false
set_option linter.unusedSimpArgs false
set_option linter.unnecessarySimpa false
open Go Go.RowKit
/-- A frame goes on. -/
def Goes (S : Shd) (ℓ : Lm) (s : St) (a : Act) (w : World) (s' : St) (next : Act → World → Prop) : Prop :=
  ∀ S' ℓ' a' w', Ext S S' → Step S w w' → Rel S' ℓ' s' a' w' → next a' w'
section
variable {R : Type} {P : Program} {E : Env}
theorem putT_eq (T : List TV) (dst : Option Tmp) (t : TV) : putT T dst t = match dst with | some d => T.set d t | none => T := by
  cases dst <;> simp [putT, upd_eq]
theorem put_rel {S S' : Shd} {ℓ ℓ' : Lm} {s : St} {a : Act} {w w' : World} (hR : Rel S ℓ s a w) (hE : Ext S S') (hs : Step S w w') (hl : ∀ d b, ℓ d = some b → ℓ' d = some b) {L : Loc} {H : Heap} (hr : HR S' ℓ' L H w') {dst : Option Tmp} {t : TV} {v : Value} (hv : RV S' w' ℓ' t v) :
    Rel S' ℓ' ⟨putT s.T dst t, L, H⟩ (a.put dst v) w' := by
  have old : ∀ (i : Nat) (t : TV) (v : Value), s.T[i]? = some t → a.tmps[i]? = some v → RV S' w' ℓ' t v := fun i t v h1 h2 => (hR.tm i t v h1 h2).mono hE hs.imm ℓ' hl
  cases dst with
  | none => exact ⟨hr, hR.len, old, hR.df⟩
  | some d =>
    refine ⟨hr, by simp [putT_eq, Act.put, hR.len], fun i t' v' h1 h2 => ?_, hR.df⟩
    simp only [putT_eq] at h1
    simp only [Act.put] at h2
    by_cases hi : d = i
    · subst hi
      have hlt : d < s.T.length := by
        have := (List.getElem?_eq_some_iff.1 h1).1
        simpa using this
      rw [List.getElem?_set_self hlt] at h1
      have hlt2 : d < a.tmps.size := Nat.lt_of_lt_of_eq hlt hR.len
      rw [Array.getElem?_setIfInBounds_self_of_lt hlt2] at h2
      cases h1; cases h2; exact hv
    · rw [List.getElem?_set_ne hi] at h1
      rw [Array.getElem?_setIfInBounds_ne hi] at h2
      exact old i t' v' h1 h2
theorem evOp_ok (hE : EnvOk P E) {ct : FuncId → List TV → Option TV} {ch : FuncId → List TV → Heap → Option (TV × Heap)} (hct : TreeOk P ct) (hch : HeapOk P ch) {f : FuncId} {dr : Bool} {o : Oper} {s : St} {K : St → Option R} {r : R} (h : evOp E ct ch f dr o s K = some r) :
    ∃ s', K s' = some r ∧ ∀ S ℓ a w, Rel S ℓ s a w → ∀ next Q, Goes S ℓ s a w s' next → o.wp P a w next Q := by
  rw [evOp_eq] at h
  split at h
  · obtain ⟨t, L, H, hK, hh⟩ := evL_ok hE hch h
    refine ⟨_, hK, fun S ℓ a w hR next Q hg => hh S ℓ a w hR next Q fun v w' hp => ?_⟩
    obtain ⟨S', ℓ', h1, h2, h3, h4, h5⟩ := hp
    exact hg S' ℓ' _ w' h1 h2 (put_rel hR h1 h2 h3 h4 h5)
  · obtain ⟨t, hK, hh⟩ := evQ_ok hE hct h
    refine ⟨_, hK, fun S ℓ a w hR next Q hg => hh S ℓ a w hR next Q fun v w' hp => ?_⟩
    obtain ⟨S', h1, h2, h4, h5⟩ := hp
    exact hg S' ℓ _ w' h1 h2 (put_rel hR h1 h2 (fun _ _ e => e) h4 h5)
theorem upd_same {T : List TV} {g : Nat} {t : TV} (h : nthD T g = t) (hu : t ≠ .undef) : upd T g t = T := by
  rw [upd_eq]
  rw [nthD_eq] at h
  cases hg : T[g]? with
  | none => rw [hg] at h; exact absurd h.symm hu
  | some x =>
    rw [hg] at h
    simp only [Option.getD_some] at h
    subst h
    obtain ⟨h1, h2⟩ := List.getElem?_eq_some_iff.1 hg
    rw [← h2]; exact List.set_getElem_self h1
theorem guard_val {S : Shd} {ℓ : Lm} {s : St} {a : Act} {w : World} (hR : Rel S ℓ s a w) {g : Nat} {t : TV} (h : nthD s.T g = t) (hu : t ≠ .undef) : ∃ v, a.tmps[g]? = some v ∧ RV S w ℓ t v := by
  rw [nthD_eq] at h
  cases hg : s.T[g]? with
  | none => rw [hg] at h; exact absurd h.symm hu
  | some x =>
    rw [hg] at h
    simp only [Option.getD_some] at h
    subst h
    have hlt : g < a.tmps.size := by
      obtain ⟨h1, _⟩ := List.getElem?_eq_some_iff.1 hg
      have := hR.len; omega
    exact ⟨a.tmps[g], by simp [hlt], hR.tm g _ _ hg (by simp [hlt])⟩
theorem guardT_eq {ops : Array Oper} (j : Nat) : guardT ops.toList j = (ops[j]?).bind (·.dst) := by simp [guardT, nth_eq]
theorem wanted_bool {ops : Array Oper} {o : Oper} {j : Nat} {want b : Bool} {g : Nat} (hg : o.guard = some (j, want)) (hj : guardT ops.toList j = some g) {tmps : Array Value} (hv : tmps[g]? = some (.bool b)) : Region.wanted o (yielded ops tmps) = (b == want) := by
  rw [guardT_eq] at hj
  simp only [Region.wanted, hg, yielded, hj, Option.bind_some, hv]
  cases b <;> cases want <;> rfl
theorem wanted_skip {ops : Array Oper} {o : Oper} {j : Nat} {want : Bool} {g : Nat} (hg : o.guard = some (j, want)) (hj : guardT ops.toList j = some g) {tmps : Array Value} (hv : tmps[g]? = some (.tuple #[])) : Region.wanted o (yielded ops tmps) = false := by
  rw [guardT_eq] at hj
  simp only [Region.wanted, hg, yielded, hj, Option.bind_some, hv]
  rfl
theorem evOps_ok (hE : EnvOk P E) {ct : FuncId → List TV → Option TV} {ch : FuncId → List TV → Heap → Option (TV × Heap)} (hct : TreeOk P ct) (hch : HeapOk P ch) {f : FuncId} {dr : Bool} (ops : Array Oper) : ∀ (l : List Oper) (s : St) (K : St → Option R) (r : R), evOps E ct ch f dr ops.toList l s K = some r →
    ∃ s', K s' = some r ∧ ∀ S ℓ a w, Rel S ℓ s a w → ∀ Q, Goes S ℓ s a w s' (Q .normal) → wpList P ops Q l a w
  | [], s, K, r, h => ⟨s, h, fun S ℓ a w hR Q hg => hg S ℓ a w (Ext.refl S) (Step.refl S w) hR⟩
  | o :: l, s, K, r, h => by
    -- one operation that is wanted, then the others
    have go : evOp E ct ch f dr o s (fun s' => evOps E ct ch f dr ops.toList l s' K) = some r → ∃ s', K s' = some r ∧ ∀ S ℓ a w, Rel S ℓ s a w → Region.wanted o (yielded ops a.tmps) = true → ∀ Q, Goes S ℓ s a w s' (Q .normal) → wpList P ops Q (o :: l) a w := by
      intro h
      obtain ⟨s1, h1, hh⟩ := evOp_ok hE hct hch h
      obtain ⟨s2, h2, hh2⟩ := evOps_ok hE hct hch ops l s1 K r h1
      refine ⟨s2, h2, fun S ℓ a w hR hw Q hg => ?_⟩
      unfold wpList
      rw [if_pos hw]
      exact .inl (hh S ℓ a w hR _ Q fun S1 ℓ1 a1 w1 e1 st1 r1 => hh2 S1 ℓ1 a1 w1 r1 Q fun S2 ℓ2 a2 w2 e2 st2 r2 => hg S2 ℓ2 a2 w2 (e1.trans e2) (st1.trans e1 st2) r2)
    have skip : ∀ s0 : St, s0.T = s.T → s0.L = s.L → s0.H = s.H → evOps E ct ch f dr ops.toList l ⟨putT s0.T o.dst (.tup []), s0.L, s0.H⟩ K = some r → ∃ s', K s' = some r ∧ ∀ S ℓ a w, Rel S ℓ s a w → Region.wanted o (yielded ops a.tmps) = false → ∀ Q, Goes S ℓ s a w s' (Q .normal) → wpList P ops Q (o :: l) a w := by
      intro s0 e1 e2 e3 h
      obtain ⟨s2, h2, hh2⟩ := evOps_ok hE hct hch ops l _ K r h
      refine ⟨s2, h2, fun S ℓ a w hR hw Q hg => ?_⟩
      unfold wpList
      rw [if_neg (by rw [hw]; simp)]
      refine hh2 S ℓ _ w ?_ Q fun S2 ℓ2 a2 w2 e st2 r2 => hg S2 ℓ2 a2 w2 e st2 r2
      rw [e1, e2, e3]
      exact put_rel hR (Ext.refl S) (Step.refl S w) (fun _ _ e => e) hR.hr (rv_tup .nil)
    rw [evOps_cons] at h
    split at h
    · rename_i hg
      obtain ⟨s', h1, hh⟩ := go h
      exact ⟨s', h1, fun S ℓ a w hR Q => hh S ℓ a w hR (by simp [Region.wanted, hg]) Q⟩
    · rename_i j want hg
      split at h
      · cases h
      rename_i g hj
      split at h
      · rename_i b hb
        have hst : ∀ b', b' = b → (⟨upd s.T g (.bool b'), s.L, s.H⟩ : St) = s := by
          intro b' e; subst e
          rw [upd_same hb (by simp)]
        cases hbw : b == want with
        | true =>
          rw [hbw] at h
          simp only [cond_true] at h
          rw [hst want (by simpa using (beq_iff_eq.1 hbw).symm)] at h
          obtain ⟨s', h1, hh⟩ := go h
          refine ⟨s', h1, fun S ℓ a w hR Q => hh S ℓ a w hR ?_ Q⟩
          obtain ⟨v, hv, hr⟩ := guard_val hR hb (by simp)
          rw [wanted_bool hg hj (by rw [hv, bool_inv hr]), hbw]
        | false =>
          rw [hbw] at h
          simp only [cond_false] at h
          have hnw : (!want) = b := by cases b <;> cases want <;> simp at hbw ⊢
          have he := hst (!want) hnw
          have h' : evOps E ct ch f dr ops.toList l ⟨putT s.T o.dst (.tup []), s.L, s.H⟩ K = some r := by
            have : upd s.T g (.bool !want) = s.T := congrArg St.T he
            rw [this] at h; exact h
          obtain ⟨s', h1, hh⟩ := skip s rfl rfl rfl h'
          refine ⟨s', h1, fun S ℓ a w hR Q => hh S ℓ a w hR ?_ Q⟩
          obtain ⟨v, hv, hr⟩ := guard_val hR hb (by simp)
          rw [wanted_bool hg hj (by rw [hv, bool_inv hr]), hbw]
      · rename_i hb
        obtain ⟨s', h1, hh⟩ := skip s rfl rfl rfl h
        refine ⟨s', h1, fun S ℓ a w hR Q => hh S ℓ a w hR ?_ Q⟩
        obtain ⟨v, hv, hr⟩ := guard_val hR hb (by simp)
        obtain ⟨vs, rfl, hvs⟩ := tup_inv hr
        have : vs = #[] := by
          apply Array.eq_empty_of_size_eq_zero
          have := hvs.1
          simp at this
          exact this.symm ▸ rfl
        rw [wanted_skip hg hj (by rw [hv, this])]
      · cases h
end
end Go.Proofs.YtbdkjkedjldheaaTv
