/- An evaluator of the program's code over trees: regions that draw their order. Conditions: none. -/
import Derived.Test.YtbdkjkedjldheaaKvM
namespace Go.Proofs.YtbdkjkedjldheaaTv
set_option linter.unusedVariables false
set_option linter.unusedSimpArgs false
set_option linter.unnecessarySimpa false
open Go Go.RowKit
section
variable {R : Type} {P : Program} {E : Env}
/-- What an operation yields, at T. -/
def Yv (E : Env) (ct : FuncId → List TV → Option TV) (ops : List Oper) (L : Loc) (H : Heap) (T : List TV) (o : Oper) (t : TV) : Prop :=
  ((o.guard = none ∨ ∃ j want g, o.guard = some (j, want) ∧ guardT ops j = some g ∧ nthD T g = .bool want) ∧ evQ E ct o T L H some = some t) ∨
  (∃ j want g, o.guard = some (j, want) ∧ guardT ops j = some g ∧ (nthD T g = .bool (!want) ∨ nthD T g = .tup []) ∧ t = .tup [])
inductive Tr (E : Env) (ct : FuncId → List TV → Option TV) (ops : List Oper) (L : Loc) (H : Heap) : List TV → List Oper → List TV → List TV → Prop
  | nil (T : List TV) : Tr E ct ops L H T [] [] T
  | cons {T : List TV} {o : Oper} {t : TV} {l : List Oper} {ts T' : List TV} (h : Yv E ct ops L H T o t) (hs : Tr E ct ops L H (putT T o.dst t) l ts T') : Tr E ct ops L H T (o :: l) (t :: ts) T'
theorem trace (ct : FuncId → List TV → Option TV) (ch : FuncId → List TV → Heap → Option (TV × Heap)) (f : FuncId) (ops : List Oper) : ∀ (l : List Oper) (s : St) (K : St → Option R) (r : R), evOps E ct ch f true ops l s K = some r →
    ∃ ts T', Tr E ct ops s.L s.H s.T l ts T' ∧ K ⟨T', s.L, s.H⟩ = some r
  | [], s, K, r, h => ⟨[], s.T, .nil _, h⟩
  | o :: l, s, K, r, h => by
    have go : (o.guard = none ∨ ∃ j want g, o.guard = some (j, want) ∧ guardT ops j = some g ∧ nthD s.T g = .bool want) → evOp E ct ch f true o s (fun s' => evOps E ct ch f true ops l s' K) = some r → ∃ ts T', Tr E ct ops s.L s.H s.T (o :: l) ts T' ∧ K ⟨T', s.L, s.H⟩ = some r := by
      intro hg h
      rw [evOp_eq] at h
      simp only [Bool.not_true, Bool.false_and] at h
      rw [evQ_cps] at h
      cases ht : evQ E ct o s.T s.L s.H some with
      | none => rw [ht] at h; cases h
      | some t =>
        rw [ht] at h
        simp only [Option.bind_some] at h
        obtain ⟨ts, T', h1, h2⟩ := trace ct ch f ops l _ K r h
        exact ⟨t :: ts, T', .cons (.inl ⟨hg, ht⟩) h1, h2⟩
    have skip : ∀ {j : Nat} {want : Bool} {g : Nat}, o.guard = some (j, want) → guardT ops j = some g → (nthD s.T g = .bool (!want) ∨ nthD s.T g = .tup []) → evOps E ct ch f true ops l ⟨putT s.T o.dst (.tup []), s.L, s.H⟩ K = some r → ∃ ts T', Tr E ct ops s.L s.H s.T (o :: l) ts T' ∧ K ⟨T', s.L, s.H⟩ = some r := by
      intro j want g hg hj hn h
      obtain ⟨ts, T', h1, h2⟩ := trace ct ch f ops l _ K r h
      exact ⟨.tup [] :: ts, T', .cons (.inr ⟨j, want, g, hg, hj, hn, rfl⟩) h1, h2⟩
    rw [evOps_cons] at h
    split at h
    · rename_i hg; exact go (.inl hg) h
    · rename_i j want hg
      split at h
      · cases h
      rename_i g hj
      split at h
      · rename_i b hb
        cases hbw : b == want with
        | true =>
          rw [hbw] at h
          simp only [cond_true] at h
          have e : b = want := beq_iff_eq.1 hbw
          subst e
          rw [upd_same hb (by simp)] at h
          exact go (.inr ⟨j, b, g, hg, hj, hb⟩) h
        | false =>
          rw [hbw] at h
          simp only [cond_false] at h
          have hnw : b = !want := by cases b <;> cases want <;> simp at hbw ⊢
          subst hnw
          rw [upd_same hb (by simp)] at h
          exact skip hg hj (.inl hb) h
      · rename_i hb
        exact skip hg hj (.inr hb) h
      · cases h
/-- T has the values of the operations in D, and else what T0 has. -/
structure At (l : List Oper) (ts T0 : List TV) (D : Nat → Bool) (T : List TV) : Prop where
  len : T.length = T0.length
  yes : ∀ (k j : Nat) (oj : Oper) (tj : TV), D j = true → l[j]? = some oj → ts[j]? = some tj → oj.dst = some k → k < T0.length → T[k]? = some tj
  no : ∀ (k : Nat), (∀ (j : Nat) (oj : Oper), D j = true → l[j]? = some oj → oj.dst ≠ some k) → T[k]? = T0[k]?
def Uniq (l : List Oper) : Prop := ∀ (i j : Nat) (oi oj : Oper) (d : Nat), l[i]? = some oi → l[j]? = some oj → oi.dst = some d → oj.dst = some d → i = j
theorem At.step {l : List Oper} {ts T0 : List TV} {D D' : Nat → Bool} {T : List TV} (h : At l ts T0 D T) (hu : Uniq l) {i : Nat} {o : Oper} {t : TV} (ho : l[i]? = some o) (ht : ts[i]? = some t) (hD : ∀ j, D' j = (D j || decide (j = i))) : At l ts T0 D' (putT T o.dst t) := by
  have hlen : (putT T o.dst t).length = T.length := by rw [putT_eq]; split <;> simp
  have hne : ∀ k, o.dst ≠ some k → (putT T o.dst t)[k]? = T[k]? := by
    intro k hk
    rw [putT_eq]
    split
    · rename_i d hd
      rw [List.getElem?_set_ne]
      intro e; subst e; exact hk hd
    · rfl
  refine ⟨by rw [hlen]; exact h.len, fun k j oj tj hj hoj htj hd hk => ?_, fun k hk => ?_⟩
  · by_cases hji : j = i
    · subst hji
      rw [ho] at hoj; cases hoj
      rw [ht] at htj; cases htj
      rw [putT_eq, hd]
      exact List.getElem?_set_self (by rw [h.len]; exact hk)
    · have hDj : D j = true := by
        have := hD j
        rw [hj] at this
        simpa [hji] using this.symm
      have : o.dst ≠ some k := fun e => hji (hu j i oj o k hoj ho hd e)
      rw [hne k this]
      exact h.yes k j oj tj hDj hoj htj hd hk
  · have h1 : o.dst ≠ some k := hk i o (by rw [hD]; simp) ho
    rw [hne k h1]
    exact h.no k fun j oj hj hoj => hk j oj (by rw [hD, hj]; rfl) hoj
theorem At.agree {l : List Oper} {ts T0 : List TV} {D D' : Nat → Bool} {T T' : List TV} (h : At l ts T0 D T) (h' : At l ts T0 D' T') (hts : ts.length = l.length) {k : Nat} (hk : ∀ (j : Nat) (oj : Oper), l[j]? = some oj → oj.dst = some k → D j = true ∧ D' j = true) : nthD T k = nthD T' k := by
  rw [nthD_eq, nthD_eq]
  by_cases hlt : k < T0.length
  · by_cases hex : ∃ (j : Nat) (oj : Oper), l[j]? = some oj ∧ oj.dst = some k
    · obtain ⟨j, oj, hoj, hd⟩ := hex
      have hj : j < ts.length := by rw [hts]; exact (List.getElem?_eq_some_iff.1 hoj).1
      obtain ⟨d1, d2⟩ := hk j oj hoj hd
      rw [h.yes k j oj ts[j] d1 hoj (List.getElem?_eq_getElem hj) hd hlt, h'.yes k j oj ts[j] d2 hoj (List.getElem?_eq_getElem hj) hd hlt]
    · rw [h.no k fun j oj _ hoj hd => hex ⟨j, oj, hoj, hd⟩, h'.no k fun j oj _ hoj hd => hex ⟨j, oj, hoj, hd⟩]
  · rw [List.getElem?_eq_none (by rw [h.len]; omega), List.getElem?_eq_none (by rw [h'.len]; omega)]
theorem At.eq {l : List Oper} {ts T0 : List TV} {D D' : Nat → Bool} {T T' : List TV} (h : At l ts T0 D T) (h' : At l ts T0 D' T') (hts : ts.length = l.length) (hD : ∀ j, j < l.length → D j = true ∧ D' j = true) : T = T' := by
  apply List.ext_getElem?
  intro k
  by_cases hlt : k < T0.length
  · by_cases hex : ∃ (j : Nat) (oj : Oper), l[j]? = some oj ∧ oj.dst = some k
    · obtain ⟨j, oj, hoj, hd⟩ := hex
      have hj' := (List.getElem?_eq_some_iff.1 hoj).1
      have hj : j < ts.length := by rw [hts]; exact hj'
      obtain ⟨d1, d2⟩ := hD j hj'
      rw [h.yes k j oj ts[j] d1 hoj (List.getElem?_eq_getElem hj) hd hlt, h'.yes k j oj ts[j] d2 hoj (List.getElem?_eq_getElem hj) hd hlt]
    · rw [h.no k fun j oj _ hoj hd => hex ⟨j, oj, hoj, hd⟩, h'.no k fun j oj _ hoj hd => hex ⟨j, oj, hoj, hd⟩]
  · rw [List.getElem?_eq_none (by rw [h.len]; omega), List.getElem?_eq_none (by rw [h'.len]; omega)]
theorem Tr.states {ct : FuncId → List TV → Option TV} {ops : List Oper} {L : Loc} {H : Heap} {l0 : List Oper} {ts0 T0 : List TV} (hu : Uniq l0) : ∀ {T : List TV} {l : List Oper} {ts T' : List TV}, Tr E ct ops L H T l ts T' → ∀ (i0 : Nat), (∀ i, l[i]? = l0[i0 + i]?) → (∀ i, ts[i]? = ts0[i0 + i]?) → At l0 ts0 T0 (fun j => decide (j < i0)) T →
    ts.length = l.length ∧ At l0 ts0 T0 (fun j => decide (j < i0 + l.length)) T' ∧ ∀ (i : Nat) (o : Oper) (t : TV), l[i]? = some o → ts[i]? = some t → ∃ Ti, Yv E ct ops L H Ti o t ∧ At l0 ts0 T0 (fun j => decide (j < i0 + i)) Ti := by
  intro T l ts T' h
  induction h with
  | nil T => intro i0 _ _ hA; exact ⟨rfl, by simpa using hA, fun i o t hi => by simp at hi⟩
  | @cons T o t l ts T' hy hs ih =>
    intro i0 h1 h2 hA
    have hA' : At l0 ts0 T0 (fun j => decide (j < i0 + 1)) (putT T o.dst t) := hA.step hu (i := i0) (o := o) (t := t) (by rw [← Nat.add_zero i0, ← h1 0]; rfl) (by rw [← Nat.add_zero i0, ← h2 0]; rfl) fun j => by
      rw [Bool.eq_iff_iff]; simp; omega
    obtain ⟨a1, a2, a3⟩ := ih (i0 + 1) (fun i => by have := h1 (i + 1); simp only [List.getElem?_cons_succ] at this; rw [this]; congr 1; omega) (fun i => by have := h2 (i + 1); simp only [List.getElem?_cons_succ] at this; rw [this]; congr 1; omega) hA'
    refine ⟨by simp [a1], ?_, fun i o' t' hi ht => ?_⟩
    · have : i0 + 1 + l.length = i0 + (o :: l).length := by simp; omega
      rw [← this]; exact a2
    · cases i with
      | zero => simp at hi ht; subst hi; subst ht; exact ⟨T, hy, by simpa using hA⟩
      | succ i =>
        simp only [List.getElem?_cons_succ] at hi ht
        obtain ⟨Ti, b1, b2⟩ := a3 i o' t' hi ht
        exact ⟨Ti, b1, by rw [show i0 + (i + 1) = i0 + 1 + i by omega]; exact b2⟩
/-- What depsOk says of one operation. -/
structure Deps (ops : List Oper) (i : Nat) (o : Oper) : Prop where
  use : ∀ t ∈ opOperands o, ∀ j d, guardT ops j = some d → d = t → j ∈ dirDeps o
  guard : ∀ j want, o.guard = some (j, want) → j ∈ dirDeps o
  lt : ∀ j ∈ dirDeps o, j < i
  dst : ∀ d, o.dst = some d → ∀ j, guardT ops j = some d → j = i
theorem guardT_lt {ops : List Oper} {j d : Nat} (h : guardT ops j = some d) : j < ops.length := by
  unfold guardT at h
  rw [nth_eq, Option.bind_eq_some_iff] at h
  obtain ⟨o, h1, _⟩ := h
  exact (List.getElem?_eq_some_iff.1 h1).1
theorem depsOk_spec (ops : List Oper) : ∀ (l : List Oper) (i0 : Nat), depsOk ops l i0 = true → ∀ (i : Nat) (o : Oper), l[i]? = some o → Deps ops (i0 + i) o
  | [], _, _, i, o, h => by simp at h
  | o' :: l, i0, h, i, o, hi => by
    simp only [depsOk, Bool.and_eq_true] at h
    obtain ⟨⟨⟨⟨h1, h2⟩, h3⟩, h4⟩, h5⟩ := h
    cases i with
    | succ i =>
      simp only [List.getElem?_cons_succ] at hi
      have := depsOk_spec ops l (i0 + 1) h5 i o hi
      rwa [show i0 + (i + 1) = i0 + 1 + i by omega]
    | zero =>
      simp at hi; subst hi
      refine ⟨fun t ht j d hj hd => ?_, fun j want hg => ?_, fun j hj => ?_, fun d hd j hj => ?_⟩
      · have := List.all_eq_true.1 (List.all_eq_true.1 h1 t ht) j (List.mem_range.2 (guardT_lt hj))
        simp only [hj] at this
        subst hd
        simp only [Bool.or_eq_true, Bool.not_eq_true', Bool.and_eq_true] at this
        rcases this with h | h
        · have : Nat.beq d d = true := Nat.beq_refl d
          rw [this] at h; cases h
        · simpa using h.1
      · simp only [hg, Bool.and_eq_true] at h2
        simpa using h2.1
      · have := List.all_eq_true.1 h3 j hj
        exact (by simpa [Nat.blt] using this : j + 1 ≤ i0)
      · simp only [hd] at h4
        have := List.all_eq_true.1 h4 j (List.mem_range.2 (guardT_lt hj))
        simp only [hj, Bool.or_eq_true, Bool.not_eq_true'] at this
        rcases this with h | h
        · simpa using Nat.eq_of_beq_eq_true h
        · have : Nat.beq d d = true := Nat.beq_refl d
          rw [this] at h; cases h
theorem Yv.congr {ct : FuncId → List TV → Option TV} {ops : List Oper} {L : Loc} {H : Heap} {T T' : List TV} {o : Oper} {t : TV} (h : Yv E ct ops L H T o t) (h1 : ∀ k ∈ opOperands o, nthD T k = nthD T' k) (h2 : ∀ j want g, o.guard = some (j, want) → guardT ops j = some g → nthD T g = nthD T' g) : Yv E ct ops L H T' o t := by
  rcases h with ⟨hg, he⟩ | ⟨j, want, g, hg, hj, hn, ht⟩
  · refine .inl ⟨?_, by rw [← evQ_congr ct o L H some h1]; exact he⟩
    rcases hg with hg | ⟨j, want, g, hg, hj, hn⟩
    · exact .inl hg
    · exact .inr ⟨j, want, g, hg, hj, by rw [← h2 j want g hg hj]; exact hn⟩
  · exact .inr ⟨j, want, g, hg, hj, by rw [← h2 j want g hg hj]; exact hn, ht⟩
theorem Yv.wp (hE : EnvOk P E) {ct : FuncId → List TV → Option TV} (hct : TreeOk P ct) {ops : Array Oper} {L : Loc} {H : Heap} {T : List TV} {o : Oper} {t : TV} (h : Yv E ct ops.toList L H T o t) {i : Nat} (hi : ops[i]? = some o) {S : Shd} {ℓ : Lm} {a : Act} {w : World} (hR : Rel S ℓ ⟨T, L, H⟩ a w) {next : Act → World → Prop} {Q : Exit → Act → World → Prop}
    (hg : Goes S ℓ ⟨T, L, H⟩ a w ⟨putT T o.dst t, L, H⟩ next) : wpOp P ops Q i next a w := by
  unfold wpOp
  simp only [hi]
  rcases h with ⟨hgd, he⟩ | ⟨j, want, g, hgd, hj, hn, rfl⟩
  · have hw : Region.wanted o (yielded ops a.tmps) = true := by
      rcases hgd with hgd | ⟨j, want, g, hgd, hj, hn⟩
      · simp [Region.wanted, hgd]
      · obtain ⟨v, hv, hr⟩ := guard_val hR hn (by simp)
        rw [wanted_bool hgd hj (by rw [hv, bool_inv hr])]; simp
    rw [if_pos hw]
    obtain ⟨t', ht', hh⟩ := evQ_ok hE hct (s := ⟨T, L, H⟩) he
    cases ht'
    refine .inl (hh S ℓ a w hR next Q fun v w' hp => ?_)
    obtain ⟨S', h1, h2, h4, h5⟩ := hp
    exact hg S' ℓ _ w' h1 h2 (put_rel hR h1 h2 (fun _ _ e => e) h4 h5)
  · have hw : Region.wanted o (yielded ops a.tmps) = false := by
      rcases hn with hn | hn
      · obtain ⟨v, hv, hr⟩ := guard_val hR hn (by simp)
        rw [wanted_bool hgd hj (by rw [hv, bool_inv hr])]; cases want <;> rfl
      · obtain ⟨v, hv, hr⟩ := guard_val hR hn (by simp)
        obtain ⟨vs, rfl, hvs⟩ := tup_inv hr
        have : vs = #[] := by
          apply Array.eq_empty_of_size_eq_zero
          have := hvs.1
          simp at this
          exact this.symm ▸ rfl
        rw [wanted_skip hgd hj (by rw [hv, this])]
    rw [if_neg (by rw [hw]; simp)]
    exact hg S ℓ _ w (Ext.refl S) (Step.refl S w) (put_rel hR (Ext.refl S) (Step.refl S w) (fun _ _ e => e) hR.hr (rv_tup .nil))
theorem count_set : ∀ (l : List Bool) (i : Nat), l[i]? = some false → (l.set i true).count false + 1 = l.count false
  | [], i, h => by simp at h
  | b :: l, 0, h => by simp at h; subst h; simp
  | b :: l, i + 1, h => by
    have := count_set l i (by simpa using h)
    simp only [List.set_cons_succ, List.count_cons]
    omega
theorem draw_ok (hE : EnvOk P E) {ct : FuncId → List TV → Option TV} (hct : TreeOk P ct) {ops : Array Oper} {L : Loc} {H : Heap} {T0 Tf ts : List TV} (hd : depsOk ops.toList ops.toList 0 = true) (htr : Tr E ct ops.toList L H T0 ops.toList ts Tf) {Q : Exit → Act → World → Prop} :
    ∀ (fuel : Nat) (listed : Array Bool) (T : List TV) (S : Shd) (ℓ : Lm) (a : Act) (w : World), listed.size = ops.size → listed.toList.count false = fuel → At ops.toList ts T0 (fun j => listed.getD j false) T → Rel S ℓ ⟨T, L, H⟩ a w → Goes S ℓ ⟨T, L, H⟩ a w ⟨Tf, L, H⟩ (Q .normal) → wpAny P .any ops Q fuel listed a w := by
  have hdeps := depsOk_spec ops.toList ops.toList 0 hd
  have hu : Uniq ops.toList := by
    intro i j oi oj d h1 h2 h3 h4
    exact ((by simpa using hdeps j oj h2 : Deps ops.toList j oj).dst d h4 i (by rw [guardT, nth_eq, h1]; exact h3))
  have hA0 : At ops.toList ts T0 (fun j => decide (j < 0)) T0 := ⟨rfl, fun k j oj tj hj => by simp at hj, fun k _ => rfl⟩
  obtain ⟨hts, hAf, hst⟩ := htr.states (E := E) hu 0 (fun i => by simp) (fun i => by simp) hA0
  intro fuel
  induction fuel with
  | zero =>
    intro listed T S ℓ a w hsz hc hA hR hg
    have hall : ∀ j, j < ops.size → listed.getD j false = true := by
      intro j hj
      have hm : listed[j]'(by omega) ∈ listed.toList := by simp
      have := List.count_eq_zero.1 hc
      have hne : listed[j]'(by omega) ≠ false := fun e => this (e ▸ hm)
      have : listed.getD j false = listed[j]'(by omega) := by simp [Array.getD, hsz, hj]
      rw [this]; simpa using hne
    have hT : T = Tf := hA.eq hAf hts fun j hj => ⟨hall j (by simpa using hj), by simpa using hj⟩
    refine ⟨?_, by subst hT; exact hg S ℓ a w (Ext.refl S) (Step.refl S w) hR⟩
    apply List.eq_nil_iff_forall_not_mem.2
    intro j hj
    obtain ⟨h0, o, ho, _⟩ := mem_ready.1 hj
    have hj' : j < ops.size := (Array.getElem?_eq_some_iff.1 ho).1
    have h1 := hall j hj'
    simp only [Array.getD_eq_getD_getElem?] at h0 h1
    have : listed[j]? = some (listed[j]'(by omega)) := by simp [hsz, hj']
    rw [this] at h0 h1
    simp at h0 h1
    rw [h0] at h1; cases h1
  | succ fuel ih =>
    intro listed T S ℓ a w hsz hc hA hR hg
    refine ⟨fun hnil => ?_, fun i hi => ?_⟩
    · -- there is one that is ready
      exfalso
      have hmem : false ∈ listed.toList := by
        apply List.count_pos_iff.1; omega
      have hex : ∃ i, i < ops.size ∧ listed[i]? = some false := by
        obtain ⟨i, hi, he⟩ := List.mem_iff_getElem.1 hmem
        have hi' : i < listed.size := by simpa using hi
        refine ⟨i, by omega, ?_⟩
        rw [Array.getElem?_eq_getElem hi']
        congr 1
      have hmin : ∃ i, (i < ops.size ∧ listed[i]? = some false) ∧ ∀ j, j < i → ¬ (j < ops.size ∧ listed[j]? = some false) := by
        obtain ⟨i, hi⟩ := hex
        induction i using Nat.strongRecOn with
        | _ i ih2 =>
          by_cases hj : ∃ j, j < i ∧ (j < ops.size ∧ listed[j]? = some false)
          · obtain ⟨j, hji, hj⟩ := hj
            exact ih2 j hji hj
          · exact ⟨i, hi, fun j hji hh => hj ⟨j, hji, hh⟩⟩
      obtain ⟨i, ⟨hlt, hf⟩, hmin⟩ := hmin
      have ho : ops[i]? = some ops[i] := by simp [hlt]
      have hD : Deps ops.toList i ops[i] := by simpa using hdeps i ops[i] (by simp [hlt])
      have : i ∈ Region.ready .any ops listed := by
        refine mem_ready.2 ⟨by simp [Array.getD_eq_getD_getElem?, hf], _, ho, fun e he hb => ?_⟩
        have hmem : e.on ∈ dirDeps ops[i] := by
          unfold dirDeps
          exact List.mem_map.2 ⟨e, List.mem_filter.2 ⟨by simpa using he, hb⟩, rfl⟩
        have hlt' := hD.lt _ hmem
        have hs : e.on < listed.size := by omega
        have hne := hmin e.on hlt'
        have he' : listed[e.on]? = some listed[e.on] := by simp [hs]
        rw [Array.getD_eq_getD_getElem?, he']
        simp only [Option.getD_some]
        cases hb : listed[e.on] with
        | true => rfl
        | false => exact absurd ⟨by omega, by rw [he', hb]⟩ hne
      rw [hnil] at this
      cases this
    · obtain ⟨h0, o, ho, hdep⟩ := mem_ready.1 hi
      have hlt : i < ops.size := (Array.getElem?_eq_some_iff.1 ho).1
      have hol : ops.toList[i]? = some o := by simpa using ho
      have hti : ts[i]? = some (ts[i]'(by rw [hts]; simpa using hlt)) := List.getElem?_eq_getElem _
      obtain ⟨Ti, hy, hATi⟩ := hst i o _ hol hti
      have hD : Deps ops.toList i o := by simpa using hdeps i o hol
      have hl0 : listed[i]? = some false := by
        have : listed[i]? = some (listed[i]'(by omega)) := by simp [hsz, hlt]
        rw [Array.getD_eq_getD_getElem?, this] at h0
        simp only [Option.getD_some] at h0
        rw [this, h0]
      have hin : ∀ j ∈ dirDeps o, listed.getD j false = true := by
        intro j hj
        obtain ⟨e, he, rfl⟩ := List.mem_map.1 hj
        obtain ⟨he1, he2⟩ := List.mem_filter.1 he
        exact hdep e (by simpa using he1) he2
      have hagree : ∀ k, (∀ j oj, ops.toList[j]? = some oj → oj.dst = some k → j ∈ dirDeps o) → nthD Ti k = nthD T k := by
        intro k hk
        refine hATi.agree hA hts fun j oj hoj hd => ?_
        have hm := hk j oj hoj hd
        exact ⟨by simpa using hD.lt j hm, hin j hm⟩
      have hy' : Yv E ct ops.toList L H T o _ := hy.congr (fun k hk => hagree k fun j oj hoj hd => hD.use k hk j k (by rw [guardT, nth_eq, hoj]; exact hd) rfl) (fun j want g hgd hj => hagree g fun j' oj' hoj' hd' => by
        have : j' = j := by
          rw [guardT, nth_eq, Option.bind_eq_some_iff] at hj
          obtain ⟨oj, e1, e2⟩ := hj
          exact hu j' j oj' oj g hoj' e1 hd' e2
        rw [this]; exact hD.guard j want hgd)
      refine hy'.wp hE hct ho hR fun S' ℓ' a' w' hE' hs' hR' => ?_
      refine ih (listed.setIfInBounds i true) _ S' ℓ' a' w' (by simpa using hsz) ?_ ?_ hR' fun S2 ℓ2 a2 w2 e2 st2 r2 => hg S2 ℓ2 a2 w2 (hE'.trans e2) (hs'.trans hE' st2) r2
      · have := count_set listed.toList i (by simpa using hl0)
        simp only [Array.toList_setIfInBounds]
        omega
      · refine hA.step hu hol hti fun j => ?_
        by_cases hji : j = i
        · subst hji
          have : j < listed.size := by omega
          simp [this]
        · have : (listed.setIfInBounds i true).getD j false = listed.getD j false := getD_set_ne false (Ne.symm hji)
          rw [this]; simp [hji]
end
end Go.Proofs.YtbdkjkedjldheaaTv
