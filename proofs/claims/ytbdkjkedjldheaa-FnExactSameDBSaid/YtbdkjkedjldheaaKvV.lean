/- An evaluator of the program's code over trees: regions that draw their order, with variables that are made and filled. Conditions: none. -/
import Derived.Test.YtbdkjkedjldheaaKvN
namespace Go.Proofs.YtbdkjkedjldheaaTv
set_option linter.unusedVariables false
set_option linter.unusedSimpArgs false
set_option linter.unnecessarySimpa false
open Go Go.RowKit
section
variable {R : Type} {P : Program} {E : Env}
theorem qop_dst (o : Oper) : (qop o).dst = o.dst := by unfold qop; split <;> rfl
theorem qop_quiet {o : Oper} (h : isLoudD o = false) : qop o = o := by unfold qop; rw [h]
theorem guardT_map (ops : List Oper) (j : Nat) : guardT (ops.map qop) j = guardT ops j := by
  simp only [guardT, nth_eq, List.getElem?_map]
  cases ops[j]? with
  | none => rfl
  | some o => exact qop_dst o
/-- One operation that reads, whose order is drawn: the frame changes in one place only. -/
theorem Yv.wp2 (hE : EnvOk P E) {ct : FuncId → List TV → Option TV} (hct : TreeOk P ct) {ops : Array Oper} {L : Loc} {H : Heap} {T : List TV} {o : Oper} {t : TV} (h : Yv E ct ops.toList L H T o t) {i : Nat} (hi : ops[i]? = some o) {S : Shd} {ℓ : Lm} {a : Act} {w : World} (hR : Rel S ℓ ⟨T, L, H⟩ a w) {next : Act → World → Prop} {Q : Exit → Act → World → Prop}
    (hg : ∀ S' v w', Ext S S' → Step S w w' → Rel S' ℓ ⟨putT T o.dst t, L, H⟩ (a.put o.dst v) w' → next (a.put o.dst v) w') : wpOp P ops Q i next a w := by
  unfold wpOp
  simp only [hi]
  rcases h with ⟨hgd, he⟩ | ⟨j, want, g, hgd, hj, hn, rfl⟩
  · have hw : Region.wanted o (yielded ops a.tmps) = true := by
      rcases hgd with hgd | ⟨j, want, g, hgd, hj, hn⟩
      · simp [Region.wanted, hgd]
      · obtain ⟨v, hv, hr⟩ := guard_val hR hn (by simp)
        rw [wanted_bool hgd hj (by rw [hv, bool_inv hr])]; simp
    rw [if_pos hw]
    obtain ⟨t', ht', hh⟩ := evQ_ok hE hct (s := ⟨T, L, H⟩) he
    cases ht'
    refine .inl (hh S ℓ a w hR next Q fun v w' hp => ?_)
    obtain ⟨S', h1, h2, h4, h5⟩ := hp
    exact hg S' v w' h1 h2 (put_rel hR h1 h2 (fun _ _ e => e) h4 h5)
  · have hw : Region.wanted o (yielded ops a.tmps) = false := by
      rcases hn with hn | hn
      · obtain ⟨v, hv, hr⟩ := guard_val hR hn (by simp)
        rw [wanted_bool hgd hj (by rw [hv, bool_inv hr])]; cases want <;> rfl
      · obtain ⟨v, hv, hr⟩ := guard_val hR hn (by simp)
        obtain ⟨vs, rfl, hvs⟩ := tup_inv hr
        have : vs = #[] := by
          apply Array.eq_empty_of_size_eq_zero
          have := hvs.1
          simp at this
          exact this.symm ▸ rfl
        rw [wanted_skip hgd hj (by rw [hv, this])]
    rw [if_neg (by rw [hw]; simp)]
    exact hg S _ w (Ext.refl S) (Step.refl S w) (put_rel hR (Ext.refl S) (Step.refl S w) (fun _ _ e => e) hR.hr (rv_tup .nil))
def Shd.kp (S : Shd) (k : Nat → Prop) : Shd := { S with kept := k }
theorem Ext.kp {S S' : Shd} (h : Ext S S') (k : Nat → Prop) : Ext (S.kp k) (S'.kp k) := ⟨h.base, rfl, h.imm, h.gen⟩
theorem Step.kp {S : Shd} {w w' : World} (h : Step S w w') {k : Nat → Prop} (hk : ∀ b, k b → S.kept b) : Step (S.kp k) w w' := ⟨h.below, h.imm, fun b x => h.kept b (hk b x)⟩
theorem HR.kp {S : Shd} {ℓ : Lm} {L : Loc} {H : Heap} {w : World} (h : HR S ℓ L H w) {k : Nat → Prop} (hk : ∀ b, k b → S.kept b) : HR (S.kp k) ℓ L H w :=
  ⟨h.base, h.imm, fun b x => h.kept b (hk b x), fun b x => h.ki b (hk b x), h.gen, fun id o ho => by
    obtain ⟨a1, a2, a3, a4, a5, a6⟩ := h.blk id o ho
    exact ⟨a1, a2, fun x => a3 (hk _ x), a4, a5, a6.keptTo k⟩, h.inj, fun d b hd => by
    obtain ⟨r, a0, a1, a2, a3, a6⟩ := h.loc d b hd
    exact ⟨r, a0, a1, a2, fun x => a3 (hk _ x), a6.keptTo k⟩, h.locv, h.linj, h.apart⟩
/-- A new block, kept. -/
theorem HR.alloc_kept {S : Shd} {ℓ : Lm} {L : Loc} {H : Heap} {w : World} (h : HR S ℓ L H w) (o : Obj) : HR (S.kp fun b => S.kept b ∨ b = w.heap.size) ℓ L H (w.alloc o) := by
  have hb : Below w.heap.size w (w.alloc o) := (Below.refl _ _).alloc (Nat.le_refl _) _
  have hs : Step S w (w.alloc o) := .of_below h hb
  have hE := Ext.refl S
  refine ⟨by simp only [Shd.kp]; have := h.base; have := hb.size; omega, fun b x => Nat.lt_of_lt_of_le (h.imm b x) hb.size, ?_, ?_, h.gen, fun id oo ho => ?_, h.inj, fun d b hd => ?_, h.locv, h.linj, h.apart⟩
  · rintro b (x | x)
    · exact Nat.lt_of_lt_of_le (h.kept b x) hb.size
    · subst x; exact lt_of_heap (alloc_at w o)
  · rintro b (x | x)
    · exact h.ki b x
    · subst x; exact fun y => Nat.lt_irrefl _ (h.imm _ y)
  · obtain ⟨a1, a2, a3, a4, a5, a6⟩ := h.blk id oo ho
    have hlt := a6.lt
    refine ⟨a1, a2, ?_, a4, a5, (a6.mono hE hs.imm (hb.block _ hlt)).keptTo _⟩
    rintro (x | x)
    · exact a3 x
    · exact absurd hlt (by simp only [Shd.kp] at x; omega)
  · obtain ⟨r, a0, a1, a2, a3, a6⟩ := h.loc d b hd
    have hlt := a6.lt
    refine ⟨r, a0, a1, a2, ?_, (a6.mono hE hs.imm (hb.block _ hlt)).keptTo _⟩
    rintro (x | x)
    · exact a3 x
    · omega
/-- A kept block is written. -/
theorem HR.wr_kept {S : Shd} {ℓ : Lm} {L : Loc} {H : Heap} {w w' : World} (h : HR S ℓ L H w) {b : Nat} (hb : S.kept b) {c' : Array Value} {e : TypeId} (hw : Wr b c' e w w') : HR S ℓ L H w' ∧ (∀ x, S.imm x → w'.heap[x]? = w.heap[x]?) := by
  have hi : ∀ x, S.imm x → w'.heap[x]? = w.heap[x]? := fun x hx => hw.other x fun e => h.ki b hb (e ▸ hx)
  have hE := Ext.refl S
  refine ⟨⟨by rw [hw.size]; exact h.base, fun x hx => by rw [hw.size]; exact h.imm x hx, fun x hx => by rw [hw.size]; exact h.kept x hx, h.ki, h.gen, fun id o ho => ?_, h.inj, fun d b' hd => ?_, h.locv, h.linj, h.apart⟩, hi⟩
  · obtain ⟨a1, a2, a3, a4, a5, a6⟩ := h.blk id o ho
    exact ⟨a1, a2, a3, a4, a5, a6.mono hE hi (hw.other _ fun e => a3 (by rw [e]; exact hb))⟩
  · obtain ⟨r, a0, a1, a2, a3, a6⟩ := h.loc d b' hd
    exact ⟨r, a0, a1, a2, a3, a6.mono hE hi (hw.other _ fun e => a3 (by rw [e]; exact hb))⟩
/-- What dlOk says of one operation. -/
theorem dlOk_spec (ops : List Oper) : ∀ (l : List Oper) (i0 : Nat), dlOk ops l i0 = true → ∀ (i : Nat) (o : Oper), l[i]? = some o →
    (∀ ty, o.op = .alloc ty → o.guard = none ∧ ∃ d, o.dst = some d) ∧
    (∀ ty p x, o.op = .store ty p x → o.guard = none ∧ o.dst = none ∧ ∃ d, p = .tmp d ∧ (∃ j oj, j ∈ dirDeps o ∧ ops[j]? = some oj ∧ oj.op = .alloc ty ∧ oj.dst = some d) ∧ ∀ j oj, ops[j]? = some oj → storeAtD oj = some d → j = i0 + i)
  | [], _, _, i, o, h => by simp at h
  | o' :: l, i0, h, i, o, hi => by
    simp only [dlOk, Bool.and_eq_true] at h
    obtain ⟨h1, h2⟩ := h
    cases i with
    | succ i =>
      simp only [List.getElem?_cons_succ] at hi
      have := dlOk_spec ops l (i0 + 1) h2 i o hi
      rwa [show i0 + 1 + i = i0 + (i + 1) by omega] at this
    | zero =>
      simp at hi; subst hi
      refine ⟨fun ty hop => ?_, fun ty p x hop => ?_⟩
      · rw [hop] at h1
        simp only [Bool.and_eq_true, Option.isNone_iff_eq_none, Option.isSome_iff_exists] at h1
        exact h1
      · rw [hop] at h1
        cases p with
        | tmp d =>
          simp only [Bool.and_eq_true, Option.isNone_iff_eq_none] at h1
          obtain ⟨⟨⟨g1, g2⟩, g3⟩, g4⟩ := h1
          refine ⟨g1, g2, d, rfl, ?_, fun j oj hj hs => ?_⟩
          · obtain ⟨j, hj, hq⟩ := List.any_eq_true.1 g3
            refine ⟨j, ?_⟩
            unfold allocAt at hq
            rw [nth_eq] at hq
            cases hoj : ops[j]? with
            | none => rw [hoj] at hq; cases hq
            | some oj =>
              rw [hoj] at hq
              simp only at hq
              cases hop' : oj.op <;> cases hd' : oj.dst <;> simp only [hop', hd'] at hq <;> try (cases hq; done)
              simp only [Bool.and_eq_true] at hq
              have e1 := Nat.eq_of_beq_eq_true hq.1
              have e2 := Nat.eq_of_beq_eq_true hq.2
              subst e1; subst e2
              exact ⟨oj, hj, rfl, hop', hd'⟩
          · have hlt : j < ops.length := (List.getElem?_eq_some_iff.1 hj).1
            have := List.all_eq_true.1 g4 j (List.mem_range.2 hlt)
            rw [nth_eq, hj] at this
            simp only [hs, Bool.or_eq_true, Bool.not_eq_true'] at this
            rcases this with this | this
            · have := Nat.eq_of_beq_eq_true this; omega
            · have e : Nat.beq d d = true := Nat.beq_refl d
              rw [e] at this; cases this
        | const v => cases h1
        | global g => cases h1
        | func g => cases h1
theorem storeTo_spec : ∀ (l : List Oper) (d : Tmp), (storeTo l d = none → ∀ (i : Nat) (o : Oper), l[i]? = some o → storeAtD o ≠ some d) ∧ (∀ x, storeTo l d = some x → ∃ (i : Nat) (o : Oper) (ty : TypeId), l[i]? = some o ∧ o.op = .store ty (.tmp d) x)
  | [], d => ⟨fun _ i o h => by simp at h, fun x h => by simp [storeTo] at h⟩
  | o :: l, d => by
    obtain ⟨h1, h2⟩ := storeTo_spec l d
    have skip : storeAtD o ≠ some d → storeTo (o :: l) d = storeTo l d := by
      intro hne
      cases hop : o.op <;> simp only [storeTo, hop] <;> try rfl
      rename_i ty p x
      cases p <;> simp only <;> try rfl
      rename_i p
      have : Nat.beq p d = false := by
        cases hb : Nat.beq p d with
        | false => rfl
        | true => exact absurd (by simp [storeAtD, hop, Nat.eq_of_beq_eq_true hb]) hne
      simp only [this]
    by_cases hs : storeAtD o = some d
    · unfold storeAtD at hs
      split at hs
      · rename_i ty d' x hop
        cases hs
        have hst : storeTo (o :: l) d = some x := by
          simp only [storeTo, hop]
          have : Nat.beq d d = true := Nat.beq_refl d
          simp only [this]
        refine ⟨fun h => (by rw [hst] at h; cases h), fun y hy => ?_⟩
        rw [hst] at hy; cases hy
        exact ⟨0, o, ty, rfl, hop⟩
      · cases hs
    · rw [skip hs]
      refine ⟨fun h i o' hi => ?_, fun x hx => ?_⟩
      · cases i with
        | zero => simp at hi; subst hi; exact hs
        | succ i => exact h1 h i o' (by simpa using hi)
      · obtain ⟨i, o', ty, hi, hop⟩ := h2 x hx
        exact ⟨i + 1, o', ty, by simpa using hi, hop⟩
/-- What the region's variables are in the end. -/
theorem dFin_spec {ops : List Oper} {T1 : List TV} : ∀ (l : List Oper) (T : List TV) (L : Loc) (K : List TV → Loc → Option R) (r : R), dFin E ops T1 l T L K = some r → (∀ (i j : Nat) (oi oj : Oper) (d : Nat), l[i]? = some oi → l[j]? = some oj → oi.dst = some d → oj.dst = some d → i = j) →
    ∃ T' L', K T' L' = some r ∧ T'.length = T.length ∧ L'.length = L.length ∧
      (∀ (i : Nat) (o : Oper) (ty : TypeId) (d : Tmp), l[i]? = some o → o.op = .alloc ty → o.dst = some d → L[d]? = some none ∧ d < T.length ∧ T'[d]? = some (.ploc d 0) ∧ ∃ row, rowD E ops T1 d ty = some row ∧ L'[d]? = some (some row)) ∧
      (∀ k, (∀ (i : Nat) (o : Oper) (ty : TypeId), l[i]? = some o → o.op = .alloc ty → o.dst ≠ some k) → T'[k]? = T[k]? ∧ L'[k]? = L[k]?)
  | [], T, L, K, r, h, _ => ⟨T, L, h, rfl, rfl, fun i o ty d hi => by simp at hi, fun k _ => ⟨rfl, rfl⟩⟩
  | o :: l, T, L, K, r, h, hu => by
    have hu' : ∀ (i j : Nat) (oi oj : Oper) (d : Nat), l[i]? = some oi → l[j]? = some oj → oi.dst = some d → oj.dst = some d → i = j := fun i j oi oj d h1 h2 h3 h4 => by
      have := hu (i + 1) (j + 1) oi oj d (by simpa using h1) (by simpa using h2) h3 h4; omega
    have skip : (∀ ty d, ¬ (o.op = .alloc ty ∧ o.dst = some d)) → dFin E ops T1 (o :: l) T L K = dFin E ops T1 l T L K := by
      intro hne
      cases hop : o.op <;> cases hd : o.dst <;> simp only [dFin, hop, hd]
      exact absurd ⟨hop, hd⟩ (hne _ _)
    by_cases ha : ∃ ty d, o.op = .alloc ty ∧ o.dst = some d
    · obtain ⟨ty, d, hop, hd⟩ := ha
      simp only [dFin, hop, hd, forceL_eq, updK_eq] at h
      split at h
      · rename_i t0 row hL hT hrow
        rw [nth_eq] at hL hT
        obtain ⟨T', L', e1, e2, e3, e4, e5⟩ := dFin_spec l _ _ K r h hu'
        have hltL : d < L.length := (List.getElem?_eq_some_iff.1 hL).1
        have hltT : d < T.length := (List.getElem?_eq_some_iff.1 hT).1
        have other : ∀ (i : Nat) (o' : Oper), l[i]? = some o' → o'.dst ≠ some d := fun i o' hi hd' => by
          have := hu 0 (i + 1) o o' d rfl (by simpa using hi) hd hd'; omega
        obtain ⟨t5, l5⟩ := e5 d (fun i o' ty' hi _ => other i o' hi)
        have hTd : T'[d]? = some (.ploc d 0) := by rw [t5, upd_eq, List.getElem?_set_self hltT]
        have hLd : L'[d]? = some (some row) := by rw [l5, upd_eq, List.getElem?_set_self hltL]
        refine ⟨T', L', e1, by rw [e2, upd_eq]; simp, by rw [e3, upd_eq]; simp, fun i o' ty' d' hi hop' hd' => ?_, fun k hk => ?_⟩
        · cases i with
          | zero =>
            simp at hi; subst hi
            rw [hop] at hop'; rw [hd] at hd'
            cases hop'; cases hd'
            exact ⟨hL, hltT, hTd, row, hrow, hLd⟩
          | succ i =>
            have hi' : l[i]? = some o' := by simpa using hi
            have hne : d ≠ d' := fun e => other i o' hi' (e ▸ hd')
            obtain ⟨a1, a2, a3, a4⟩ := e4 i o' ty' d' hi' hop' hd'
            refine ⟨?_, by rw [upd_eq] at a2; simpa using a2, a3, a4⟩
            rw [upd_eq, List.getElem?_set_ne hne] at a1
            exact a1
        · have hne : d ≠ k := fun e => hk 0 o ty rfl hop (by rw [hd, e])
          obtain ⟨a1, a2⟩ := e5 k fun i o' ty' hi hop' => hk (i + 1) o' ty' (by simpa using hi) hop'
          rw [a1, a2, upd_eq, upd_eq, List.getElem?_set_ne hne, List.getElem?_set_ne hne]
          exact ⟨rfl, rfl⟩
      · cases h
    · rw [skip fun ty d hh => ha ⟨ty, d, hh⟩] at h
      obtain ⟨T', L', e1, e2, e3, e4, e5⟩ := dFin_spec l T L K r h hu'
      refine ⟨T', L', e1, e2, e3, fun i o' ty' d' hi hop' hd' => ?_, fun k hk => e5 k fun i o' ty' hi hop' => hk (i + 1) o' ty' (by simpa using hi) hop'⟩
      cases i with
      | zero => simp at hi; subst hi; exact absurd ⟨ty', d', hop', hd'⟩ ha
      | succ i => exact e4 i o' ty' d' (by simpa using hi) hop' hd'
/-- Where the variables lie that are made so far. -/
structure BInv (E : Env) (ops : List Oper) (T1 : List TV) (κ : Nat → Prop) (D : Nat → Bool) (S : Shd) (w : World) (a : Act) (β : Lm) : Prop where
  dom : ∀ d b, β d = some b → ∃ (i : Nat) (o : Oper) (ty : TypeId), D i = true ∧ ops[i]? = some o ∧ o.op = .alloc ty ∧ o.dst = some d
  dom' : ∀ (i : Nat) (o : Oper) (ty : TypeId) (d : Tmp), D i = true → ops[i]? = some o → o.op = .alloc ty → o.dst = some d → ∃ b, β d = some b
  blk : ∀ d b, β d = some b → S.base ≤ b ∧ S.kept b ∧ ¬ κ b ∧ a.tmps[d]? = some (.pointer (some ⟨b, 0, none⟩))
  inj : ∀ d d' b, β d = some b → β d' = some b → d = d'
  row : ∀ (i : Nat) (o : Oper) (ty : TypeId) (d : Tmp) (b : Nat) (inf : TI), ops[i]? = some o → o.op = .alloc ty → o.dst = some d → β d = some b → E.ti ty = some inf → ∃ row, RowR S w b row ∧ row.length = inf.size ∧
    (∀ (j : Nat) (oj : Oper), D j = true → ops[j]? = some oj → storeAtD oj = some d → rowD E ops T1 d ty = some row) ∧ ((∀ (j : Nat) (oj : Oper), ops[j]? = some oj → storeAtD oj ≠ some d) → row = inf.zero)
theorem BInv.next {ops : List Oper} {T1 : List TV} {κ : Nat → Prop} {D D' : Nat → Bool} {S S' : Shd} {w w' : World} {a a' : Act} {β : Lm} (h : BInv E ops T1 κ D S w a β) {i : Nat} {o : Oper} (ho : ops[i]? = some o) (hq : isLoudD o = false) (hD : ∀ j, D' j = (D j || decide (j = i)))
    (hE : Ext S S') (hs : Step S w w') (ht : ∀ d, (∃ (j : Nat) (oj : Oper) (ty : TypeId), D j = true ∧ ops[j]? = some oj ∧ oj.op = .alloc ty ∧ oj.dst = some d) → a'.tmps[d]? = a.tmps[d]?) : BInv E ops T1 κ D' S' w' a' β := by
  have isD : ∀ j, D' j = true → j ≠ i → D j = true := fun j hj hne => by
    have := hD j; rw [hj] at this; simpa [hne] using this.symm
  refine ⟨fun d b hb => ?_, fun j oj ty d hj hoj hop hd => ?_, fun d b hb => ?_, h.inj, fun j oj ty d b inf hoj hop hd hb hi => ?_⟩
  · obtain ⟨j, oj, ty, x1, x2, x3, x4⟩ := h.dom d b hb
    exact ⟨j, oj, ty, by rw [hD, x1]; rfl, x2, x3, x4⟩
  · have hne : j ≠ i := fun e => by
      subst e; rw [ho] at hoj; cases hoj
      simp [isLoudD, hop] at hq
    exact h.dom' j oj ty d (isD j hj hne) hoj hop hd
  · obtain ⟨x1, x2, x3, x4⟩ := h.blk d b hb
    exact ⟨by rw [hE.base]; exact x1, by rw [hE.kept]; exact x2, x3, by rw [ht d (h.dom d b hb)]; exact x4⟩
  · obtain ⟨row, y1, y2, y3, y4⟩ := h.row j oj ty d b inf hoj hop hd hb hi
    refine ⟨row, y1.mono hE hs.imm (hs.kept b (h.blk d b hb).2.1), y2, fun k ok hk hok hst => ?_, y4⟩
    have hne : k ≠ i := fun e => by
      subst e; rw [ho] at hok; cases hok
      unfold storeAtD at hst
      split at hst
      · rename_i hop'; simp [isLoudD, hop'] at hq
      · cases hst
    exact y3 k ok (isD k hk hne) hok hst
theorem draw2_ok (hE : EnvOk P E) {ct : FuncId → List TV → Option TV} (hct : TreeOk P ct) {ops : Array Oper} {L : Loc} {H : Heap} {T0 T1 Tf ts : List TV} {Lf : Loc} (hd : depsOk ops.toList ops.toList 0 = true) (hl : dlOk ops.toList ops.toList 0 = true) (htr : Tr E ct (ops.toList.map qop) L H T0 (ops.toList.map qop) ts T1)
    (hlen : Tf.length = T1.length ∧ Lf.length = L.length)
    (hal : ∀ (i : Nat) (o : Oper) (ty : TypeId) (d : Tmp), ops.toList[i]? = some o → o.op = .alloc ty → o.dst = some d → L[d]? = some none ∧ d < T1.length ∧ Tf[d]? = some (.ploc d 0) ∧ ∃ row, rowD E ops.toList T1 d ty = some row ∧ Lf[d]? = some (some row))
    (hno : ∀ k, (∀ (i : Nat) (o : Oper) (ty : TypeId), ops.toList[i]? = some o → o.op = .alloc ty → o.dst ≠ some k) → Tf[k]? = T1[k]? ∧ Lf[k]? = L[k]?)
    {Q : Exit → Act → World → Prop} {κ : Nat → Prop} {ℓ : Lm} {S0 : Shd} {w0 : World} (hQ : ∀ S' ℓ' a' w', Ext S0 S' → Step S0 w0 w' → Rel S' ℓ' ⟨Tf, Lf, H⟩ a' w' → Q .normal a' w') :
    ∀ (fuel : Nat) (listed : Array Bool) (T : List TV) (S : Shd) (a : Act) (w : World) (β : Lm), listed.size = ops.size → listed.toList.count false = fuel → At (ops.toList.map qop) ts T0 (fun j => listed.getD j false) T → Rel S ℓ ⟨T, L, H⟩ a w →
      (∀ b, κ b → S.kept b) → (∀ i o, listed.getD i false = true → ops[i]? = some o → ∀ j ∈ dirDeps o, listed.getD j false = true) → BInv E ops.toList T1 κ (fun j => listed.getD j false) S w a β → Ext S0 (S.kp κ) → Step S0 w0 w → wpAny P .any ops Q fuel listed a w := by
  have hdeps := depsOk_spec ops.toList ops.toList 0 hd
  have hdl := dlOk_spec ops.toList ops.toList 0 hl
  have hu : Uniq (ops.toList.map qop) := by
    intro i j oi oj d h1 h2 h3 h4
    rw [List.getElem?_map, Option.map_eq_some_iff] at h1 h2
    obtain ⟨oi', h1, rfl⟩ := h1
    obtain ⟨oj', h2, rfl⟩ := h2
    rw [qop_dst] at h3 h4
    exact ((by simpa using hdeps j oj' h2 : Deps ops.toList j oj').dst d h4 i (by rw [guardT, nth_eq, h1]; exact h3))
  have hu0 : ∀ (i j : Nat) (oi oj : Oper) (d : Tmp), ops.toList[i]? = some oi → ops.toList[j]? = some oj → oi.dst = some d → oj.dst = some d → i = j := by
    intro i j oi oj d h1 h2 h3 h4
    exact hu i j (qop oi) (qop oj) d (by simp [h1]) (by simp [h2]) (by rw [qop_dst]; exact h3) (by rw [qop_dst]; exact h4)
  have hA0 : At (ops.toList.map qop) ts T0 (fun j => decide (j < 0)) T0 := ⟨rfl, fun k j oj tj hj => by simp at hj, fun k _ => rfl⟩
  obtain ⟨hts, hAf, hst⟩ := htr.states (E := E) hu 0 (fun i => by simp) (fun i => by simp) hA0
  have hts' : ts.length = ops.size := by simpa using hts
  intro fuel
  induction fuel with
  | zero =>
    intro listed T S a w β hsz hc hA hR hκ hdown hB hE0 hs0
    have hall : ∀ j, j < ops.size → listed.getD j false = true := by
      intro j hj
      have hm : listed[j]'(by omega) ∈ listed.toList := by simp
      have := List.count_eq_zero.1 hc
      have hne : listed[j]'(by omega) ≠ false := fun e => this (e ▸ hm)
      have : listed.getD j false = listed[j]'(by omega) := by simp [Array.getD, hsz, hj]
      rw [this]; simpa using hne
    have hT : T = T1 := hA.eq hAf hts fun j hj => ⟨hall j (by simpa using hj), by simpa using hj⟩
    refine ⟨?_, ?_⟩
    · apply List.eq_nil_iff_forall_not_mem.2
      intro j hj
      obtain ⟨h0, o, ho, _⟩ := mem_ready.1 hj
      have hj' : j < ops.size := (Array.getElem?_eq_some_iff.1 ho).1
      have h1 := hall j hj'
      simp only [Array.getD_eq_getD_getElem?] at h0 h1
      have : listed[j]? = some (listed[j]'(by omega)) := by simp [hsz, hj']
      rw [this] at h0 h1
      simp at h0 h1
      rw [h0] at h1; cases h1
    · subst hT
      have lt_of : ∀ (i : Nat) (o : Oper), ops.toList[i]? = some o → i < ops.size := fun i o h => by simpa using (List.getElem?_eq_some_iff.1 h).1
      -- a variable of the region's
      have own : ∀ d b, β d = some b → ∃ row, Lf[d]? = some (some row) ∧ Tf[d]? = some (.ploc d 0) ∧ L[d]? = some none ∧ RowR (S.kp κ) w b row := by
        intro d b hb
        obtain ⟨i, o, ty, hi, ho, hop, hdd⟩ := hB.dom d b hb
        obtain ⟨x1, x2, x3, row, x4, x5⟩ := hal i o ty d ho hop hdd
        obtain ⟨inf, hinf⟩ : ∃ inf, E.ti ty = some inf := by
          unfold rowD at x4
          split at x4
          · cases x4
          · rename_i inf h; exact ⟨inf, h⟩
        obtain ⟨row', y1, y2, y3, y4⟩ := hB.row i o ty d b inf ho hop hdd hb hinf
        have : row' = row := by
          obtain ⟨q1, q2⟩ := storeTo_spec ops.toList d
          cases hst : storeTo ops.toList d with
          | none =>
            have := y4 (q1 hst)
            subst this
            unfold rowD at x4
            rw [hinf] at x4
            simp only [hst] at x4
            split at x4
            · cases x4; rfl
            · cases x4
          | some x =>
            obtain ⟨j, oj, ty', hj, hopj⟩ := q2 x hst
            have := y3 j oj (hall j (lt_of j oj hj)) hj (by simp [storeAtD, hopj])
            rw [this] at x4; cases x4; rfl
        subst this
        exact ⟨row', x5, x3, x1, y1.keptTo κ⟩
      have ℓnone : ∀ d b, β d = some b → ℓ d = none := by
        intro d b hb
        obtain ⟨row, _, _, h3, _⟩ := own d b hb
        cases hx : ℓ d with
        | none => rfl
        | some b' => obtain ⟨r, h1, _⟩ := hR.hr.loc d b' hx; rw [h3] at h1; cases h1
      have βof : ∀ k, β k = none → ∀ (i : Nat) (o : Oper) (ty : TypeId), ops.toList[i]? = some o → o.op = .alloc ty → o.dst ≠ some k := by
        intro k hk i o ty hi hop hdk
        obtain ⟨b, hb⟩ := hB.dom' i o ty k (hall i (lt_of i o hi)) hi hop hdk
        rw [hk] at hb; cases hb
      have hR0 := hR.hr.kp hκ
      have le : ∀ d b, ℓ d = some b → (match β d with | some b => some b | none => ℓ d) = some b := by
        intro d b hb
        cases hβ : β d with
        | none => exact hb
        | some b' => rw [ℓnone d b' hβ] at hb; cases hb
      refine hQ (S.kp κ) (fun d => match β d with | some b => some b | none => ℓ d) a w hE0 hs0 ⟨⟨hR0.base, hR0.imm, hR0.kept, hR0.ki, hR0.gen, hR0.blk, hR0.inj, fun d b hdb => ?_, fun d row hrow => ?_, fun d d' b h1 h2 => ?_, fun d b id o hdb ho => ?_⟩, ?_, fun i t v hi hv => ?_, hR.df⟩
      · cases hβ : β d with
        | some b' =>
          simp only [hβ, Option.some.injEq] at hdb; subst hdb
          obtain ⟨row, h1, _, _, h4⟩ := own d b' hβ
          obtain ⟨z1, z2, z3, _⟩ := hB.blk d b' hβ
          exact ⟨row, h1, z1, hR.hr.ki b' z2, z3, h4⟩
        | none =>
          simp only [hβ] at hdb
          obtain ⟨row, h1, h2⟩ := hR0.loc d b hdb
          exact ⟨row, by rw [(hno d (βof d hβ)).2]; exact h1, h2⟩
      · cases hβ : β d with
        | some b' => exact ⟨b', by simp [hβ]⟩
        | none =>
          simp only [(hno d (βof d hβ)).2] at hrow
          obtain ⟨b, hb⟩ := hR0.locv d row hrow
          exact ⟨b, by simp [hβ, hb]⟩
      · have cross : ∀ d d' b, β d = some b → ℓ d' = some b → False := by
          intro d d' b h1 h2
          obtain ⟨r, _, _, _, h3, _⟩ := hR.hr.loc d' b h2
          exact h3 (hB.blk d b h1).2.1
        cases hβ : β d with
        | some b1 =>
          cases hβ' : β d' with
          | some b2 =>
            simp only [hβ, Option.some.injEq] at h1
            simp only [hβ', Option.some.injEq] at h2
            subst h1; subst h2
            exact hB.inj d d' b2 hβ hβ'
          | none =>
            simp only [hβ, Option.some.injEq] at h1
            simp only [hβ'] at h2
            subst h1
            exact (cross d d' b1 hβ h2).elim
        | none =>
          simp only [hβ] at h1
          cases hβ' : β d' with
          | some b2 =>
            simp only [hβ', Option.some.injEq] at h2
            subst h2
            exact (cross d' d b2 hβ' h1).elim
          | none =>
            simp only [hβ'] at h2
            exact hR.hr.linj d d' b h1 h2
      · cases hβ : β d with
        | some b' =>
          simp only [hβ, Option.some.injEq] at hdb; subst hdb
          exact fun e => (hR.hr.blk id o ho).2.2.1 (e ▸ (hB.blk d b' hβ).2.1)
        | none =>
          simp only [hβ] at hdb
          exact hR.hr.apart d b id o hdb ho
      · show Tf.length = _
        rw [hlen.1]; exact hR.len
      · cases hβ : β i with
        | some b =>
          obtain ⟨row, _, h2, _, _⟩ := own i b hβ
          have hi' : Tf[i]? = some t := hi
          rw [h2] at hi'; cases hi'
          rw [(hB.blk i b hβ).2.2.2] at hv; cases hv
          exact .ploc _ i 0 b (by simp [hβ])
        | none =>
          have hi' : Tf[i]? = some t := hi
          rw [(hno i (βof i hβ)).1] at hi'
          exact ((hR.tm i t v hi' hv).keptTo κ).mono (Ext.refl _) (fun _ _ => rfl) _ le
  | succ fuel ih =>
    intro listed T S a w β hsz hc hA hR hκ hdown hB hE0 hs0
    refine ⟨fun hnil => ?_, fun i hi => ?_⟩
    · exfalso
      have hmem : false ∈ listed.toList := by
        apply List.count_pos_iff.1; omega
      have hex : ∃ i, i < ops.size ∧ listed[i]? = some false := by
        obtain ⟨i, hi, he⟩ := List.mem_iff_getElem.1 hmem
        have hi' : i < listed.size := by simpa using hi
        refine ⟨i, by omega, ?_⟩
        rw [Array.getElem?_eq_getElem hi']
        congr 1
      have hmin : ∃ i, (i < ops.size ∧ listed[i]? = some false) ∧ ∀ j, j < i → ¬ (j < ops.size ∧ listed[j]? = some false) := by
        obtain ⟨i, hi⟩ := hex
        induction i using Nat.strongRecOn with
        | _ i ih2 =>
          by_cases hj : ∃ j, j < i ∧ (j < ops.size ∧ listed[j]? = some false)
          · obtain ⟨j, hji, hj⟩ := hj
            exact ih2 j hji hj
          · exact ⟨i, hi, fun j hji hh => hj ⟨j, hji, hh⟩⟩
      obtain ⟨i, ⟨hlt, hf⟩, hmin⟩ := hmin
      have ho : ops[i]? = some ops[i] := by simp [hlt]
      have hD : Deps ops.toList i ops[i] := by simpa using hdeps i ops[i] (by simp [hlt])
      have : i ∈ Region.ready .any ops listed := by
        refine mem_ready.2 ⟨by simp [Array.getD_eq_getD_getElem?, hf], _, ho, fun e he hb => ?_⟩
        have hmem : e.on ∈ dirDeps ops[i] := by
          unfold dirDeps
          exact List.mem_map.2 ⟨e, List.mem_filter.2 ⟨by simpa using he, hb⟩, rfl⟩
        have hlt' := hD.lt _ hmem
        have hs : e.on < listed.size := by omega
        have hne := hmin e.on hlt'
        have he' : listed[e.on]? = some listed[e.on] := by simp [hs]
        rw [Array.getD_eq_getD_getElem?, he']
        simp only [Option.getD_some]
        cases hb : listed[e.on] with
        | true => rfl
        | false => exact absurd ⟨by omega, by rw [he', hb]⟩ hne
      rw [hnil] at this
      cases this
    · obtain ⟨h0, o, ho, hdep⟩ := mem_ready.1 hi
      have hlt : i < ops.size := (Array.getElem?_eq_some_iff.1 ho).1
      have hol : ops.toList[i]? = some o := by simpa using ho
      have holq : (ops.toList.map qop)[i]? = some (qop o) := by simp [hol]
      have hti : ts[i]? = some (ts[i]'(by omega)) := List.getElem?_eq_getElem _
      obtain ⟨Ti, hy, hATi⟩ := hst i (qop o) _ holq hti
      have hD : Deps ops.toList i o := by simpa using hdeps i o hol
      have hl0 : listed[i]? = some false := by
        have : listed[i]? = some (listed[i]'(by omega)) := by simp [hsz, hlt]
        rw [Array.getD_eq_getD_getElem?, this] at h0
        simp only [Option.getD_some] at h0
        rw [this, h0]
      have hin : ∀ j ∈ dirDeps o, listed.getD j false = true := by
        intro j hj
        obtain ⟨e, he, rfl⟩ := List.mem_map.1 hj
        obtain ⟨he1, he2⟩ := List.mem_filter.1 he
        exact hdep e (by simpa using he1) he2
      have hset : ∀ j, (listed.setIfInBounds i true).getD j false = (listed.getD j false || decide (j = i)) := by
        intro j
        by_cases hji : j = i
        · subst hji
          have : j < listed.size := by omega
          simp [this]
        · have : (listed.setIfInBounds i true).getD j false = listed.getD j false := getD_set_ne false (Ne.symm hji)
          rw [this]; simp [hji]
      have hcount : (listed.setIfInBounds i true).toList.count false = fuel := by
        have := count_set listed.toList i (by simpa using hl0)
        simp only [Array.toList_setIfInBounds]
        omega
      have hsz' : (listed.setIfInBounds i true).size = ops.size := by simpa using hsz
      have hi0 : listed.getD i false = false := by
        rw [Array.getD_eq_getD_getElem?, hl0]; rfl
      have hdown' : ∀ i' o', (listed.setIfInBounds i true).getD i' false = true → ops[i']? = some o' → ∀ j ∈ dirDeps o', (listed.setIfInBounds i true).getD j false = true := by
        intro i' o' h1 h2 j hj
        rw [hset] at h1 ⊢
        by_cases he : i' = i
        · subst he; rw [ho] at h2; cases h2; rw [hin j hj]; rfl
        · have : listed.getD i' false = true := by simpa [he] using h1
          rw [hdown i' o' this h2 j hj]; rfl
      have hA' : At (ops.toList.map qop) ts T0 (fun j => (listed.setIfInBounds i true).getD j false) (putT T (qop o).dst (ts[i]'(by omega))) := hA.step hu holq hti hset
      have hagree : ∀ k, (∀ j oj, (ops.toList.map qop)[j]? = some oj → oj.dst = some k → j ∈ dirDeps o) → nthD Ti k = nthD T k := by
        intro k hk
        refine hATi.agree hA hts fun j oj hoj hd => ?_
        have hm := hk j oj hoj hd
        exact ⟨by simpa using hD.lt j hm, hin j hm⟩
      have hdst : ∀ k j oj, (ops.toList.map qop)[j]? = some oj → oj.dst = some k → guardT ops.toList j = some k := by
        intro k j oj hoj hdk
        rw [← guardT_map, guardT, nth_eq, hoj]; exact hdk
      have hEk : Ext (S.kp κ) (S.kp κ) := Ext.refl _
      cases hlo : isLoudD o with
      | false =>
        rw [qop_quiet hlo] at hy hA'
        have hy1 : Yv E ct (ops.toList.map qop) L H T o _ := hy.congr (fun k hk => hagree k fun j oj hoj hd => hD.use k hk j k (hdst k j oj hoj hd) rfl) (fun j want g hgd hj => hagree g fun j' oj' hoj' hd' => by
          rw [guardT_map] at hj
          have h1 := hdst g j' oj' hoj' hd'
          have : j' = j := by
            rw [guardT, nth_eq, Option.bind_eq_some_iff] at hj h1
            obtain ⟨o1, a1, a2⟩ := hj
            obtain ⟨o2, b1, b2⟩ := h1
            exact hu0 j' j o2 o1 g b1 a1 b2 a2
          rw [this]; exact hD.guard j want hgd)
        have hy' : Yv E ct ops.toList L H T o (ts[i]'(by omega)) := by
          rcases hy1 with ⟨hg, he⟩ | ⟨j, want, g, hg, hj, hn, ht⟩
          · refine .inl ⟨?_, he⟩
            rcases hg with hg | ⟨j, want, g, hg, hj, hn⟩
            · exact .inl hg
            · exact .inr ⟨j, want, g, hg, by rw [← guardT_map]; exact hj, hn⟩
          · exact .inr ⟨j, want, g, hg, by rw [← guardT_map]; exact hj, hn, ht⟩
        refine hy'.wp2 hE hct ho hR fun S' v w' hE' hs' hR' => ?_
        refine ih (listed.setIfInBounds i true) _ S' _ w' β hsz' hcount hA' hR' (fun b hb => by rw [hE'.kept]; exact hκ b hb) hdown' (hB.next hol hlo hset hE' hs' fun d hdd => ?_) (hE0.trans (hE'.kp κ)) (hs0.trans hE0 (hs'.kp hκ))
        obtain ⟨j, oj, ty, hj, hoj, hop, hdj⟩ := hdd
        have hne : o.dst ≠ some d := fun e => by
          have := hu0 i j o oj d hol hoj e hdj
          subst this
          rw [hol] at hoj; cases hoj
          simp [isLoudD, hop] at hlo
        cases hdo : o.dst with
        | none => rfl
        | some d' =>
          have : d' ≠ d := fun e => hne (by rw [hdo, e])
          simp only [Act.put]
          rw [Array.getElem?_setIfInBounds_ne this]
      | true =>
        obtain ⟨dl1, dl2⟩ := hdl i o hol
        have hq : qop o = { o with op := .move (.global 0) } := by unfold qop; rw [hlo]
        have htu : ts[i]'(by omega) = .undef ∨ o.guard ≠ none := by
          by_cases hg : o.guard = none
          · left
            rcases hy with ⟨_, he⟩ | ⟨j, want, g, hgd, _⟩
            · rw [hq] at he
              simp only [evQ, rho] at he
              exact (Option.some.inj he).symm
            · rw [hq] at hgd; simp only at hgd; rw [hg] at hgd; cases hgd
          · exact .inr hg
        cases hop : o.op with
        | alloc ty =>
          obtain ⟨hgn, d, hdd⟩ := dl1 ty hop
          have hun : ts[i]'(by omega) = .undef := htu.resolve_right (fun h => h hgn)
          rw [hun, qop_dst, hdd] at hA'
          obtain ⟨hLd, hTd, _, row, hrow, _⟩ := hal i o ty d hol hop hdd
          obtain ⟨inf, hinf⟩ : ∃ inf, E.ti ty = some inf := by
            unfold rowD at hrow
            split at hrow
            · cases hrow
            · rename_i inf h; exact ⟨inf, h⟩
          obtain ⟨info, z, i1, i2, i3, i4, i5, i6, i7⟩ := zero_rv (hE.ti ty inf hinf)
          have hβd : β d = none := by
            cases hx : β d with
            | none => rfl
            | some b =>
              obtain ⟨j, oj, ty', hj, hoj, _, hdj⟩ := hB.dom d b hx
              have := hu0 i j o oj d hol hoj hdd hdj
              subst this
              rw [hi0] at hj; cases hj
          unfold wpOp
          simp only [ho]
          rw [if_pos (by simp [Region.wanted, hgn])]
          refine .inl ((Gives.value (Φ := fun v w' => v = .pointer (some ⟨w.heap.size, 0, none⟩) ∧ w' = w.alloc (.cells z.cells ty)) (v := .pointer (some ⟨w.heap.size, 0, none⟩)) (w' := w.alloc (.cells z.cells ty)) (by simp only [execOp, hop, Instr.alloc, Sem.run_bind, zeros_run i1 i4, Result.andThen_ok, newVar, newRow, run_newObj, Sem.run_pure]; rfl) ⟨rfl, rfl⟩) _ Q fun v w' hv => ?_)
          obtain ⟨rfl, rfl⟩ := hv
          have hb : Below w.heap.size w (w.alloc (.cells z.cells ty)) := (Below.refl _ _).alloc (Nat.le_refl _) _
          have hs' : Step S w (w.alloc (.cells z.cells ty)) := .of_below hR.hr hb
          have hnk : ¬ S.kept w.heap.size := fun h => Nat.lt_irrefl _ (hR.hr.kept _ h)
          have hTlen : T.length = T1.length := by
            have e1 := hA.len; have e2 := hAf.len; omega
          have hdT : d < T.length := Nat.lt_of_lt_of_eq hTd hTlen.symm
          have hdt : d < a.tmps.size := Nat.lt_of_lt_of_eq hdT hR.len
          have hHR := hR.hr.alloc_kept (.cells z.cells ty)
          refine ih (listed.setIfInBounds i true) _ (S.kp fun b => S.kept b ∨ b = w.heap.size) _ _ (fun x => if x = d then some w.heap.size else β x) hsz' hcount hA' ⟨hHR, ?_, ?_, by rw [hdd]; exact hR.df⟩ (fun b hb => .inl (hκ b hb)) hdown' ⟨?_, ?_, ?_, ?_, ?_⟩ (hE0.trans ⟨rfl, rfl, fun _ h => h, fun _ l h => ⟨l, h, Nat.le_refl _, rfl, fun _ => ⟨rfl, rfl⟩⟩⟩) (hs0.trans hE0 (hs'.kp hκ))
          · have := hR.len
            simp only [putT_eq, Act.put, hdd] at this ⊢
            simpa using this
          · intro k t v hk hv
            simp only [putT_eq] at hk
            simp only [Act.put, hdd] at hv
            by_cases he : d = k
            · subst he
              rw [List.getElem?_set_self hdT] at hk
              cases hk
              exact .undef ..
            · rw [List.getElem?_set_ne he] at hk
              rw [Array.getElem?_setIfInBounds_ne he] at hv
              exact ((hR.tm k t v hk hv).mono (Ext.refl S) hs'.imm ℓ fun _ _ e => e).keptTo _
          · intro x b hx
            by_cases he : x = d
            · subst he
              exact ⟨i, o, ty, by rw [hset]; simp, hol, hop, hdd⟩
            · simp only [he, if_false] at hx
              obtain ⟨j, oj, ty', hj, hoj⟩ := hB.dom x b hx
              exact ⟨j, oj, ty', by rw [hset, hj]; rfl, hoj⟩
          · intro j oj ty' x hj hoj hopj hdj
            by_cases he : x = d
            · exact ⟨w.heap.size, by simp [he]⟩
            · have hne : j ≠ i := fun e => by
                subst e; rw [hol] at hoj; cases hoj
                rw [hdd] at hdj; cases hdj; exact he rfl
              rw [hset] at hj
              obtain ⟨b, hb'⟩ := hB.dom' j oj ty' x (by simpa [hne] using hj) hoj hopj hdj
              exact ⟨b, by simp [he, hb']⟩
          · intro x b hx
            by_cases he : x = d
            · subst he
              simp only [if_true, Option.some.injEq] at hx
              subst hx
              exact ⟨hR.hr.base, .inr rfl, fun h => hnk (hκ _ h), by simp only [Act.put, hdd]; exact Array.getElem?_setIfInBounds_self_of_lt hdt⟩
            · simp only [he, if_false] at hx
              obtain ⟨x1, x2, x3, x4⟩ := hB.blk x b hx
              refine ⟨x1, .inl x2, x3, ?_⟩
              simp only [Act.put, hdd]
              rw [Array.getElem?_setIfInBounds_ne (Ne.symm he)]
              exact x4
          · intro x x' b h1 h2
            by_cases e1 : x = d <;> by_cases e2 : x' = d <;> simp only [e1, e2, if_true, if_false, Option.some.injEq] at h1 h2
            · rw [e1, e2]
            · exact absurd (h1 ▸ (hB.blk x' b h2).2.1) hnk
            · exact absurd (h2 ▸ (hB.blk x b h1).2.1) hnk
            · exact hB.inj x x' b h1 h2
          · intro j oj ty' x b inf' hoj hopj hdj hx hinf'
            by_cases he : x = d
            · subst he
              have := hu0 i j o oj x hol hoj hdd hdj
              subst this
              rw [hol] at hoj; cases hoj
              rw [hop] at hopj; cases hopj
              rw [hinf] at hinf'; cases hinf'
              simp only [if_true, Option.some.injEq] at hx
              subst hx
              refine ⟨inf.zero, ⟨z.cells, ty, alloc_at w _, by omega, fun j t ht => ?_⟩, i7, fun j' oj' hj' hoj' hs' => ?_, fun _ => rfl⟩
              · have hrv := i5 (S.kp fun b => S.kept b ∨ b = w.heap.size) (w.alloc (.cells z.cells ty)) no
                have hj : j < z.cells.size := by have := hrv.1; obtain ⟨h1, _⟩ := List.getElem?_eq_some_iff.1 ht; simp at this; omega
                exact ⟨z.cells[j], by simp [hj], hrv.2 j t _ ht (by simp [hj])⟩
              · exfalso
                unfold storeAtD at hs'
                split at hs'
                · rename_i tyj dj xj hopj'
                  cases hs'
                  obtain ⟨_, dl2'⟩ := hdl j' oj' hoj'
                  obtain ⟨_, _, d2, hp2, ⟨k, ok, hk1, hk2, hk3, hk4⟩, _⟩ := dl2' _ _ _ hopj'
                  cases hp2
                  have e := hu0 i k o ok x hol hk2 hdd hk4
                  subst e
                  have hne : j' ≠ i := fun e => by
                    subst e; rw [hol] at hoj'; cases hoj'
                    rw [hop] at hopj'; cases hopj'
                  rw [hset] at hj'
                  have hj2 : listed.getD j' false = true := by simpa [hne] using hj'
                  have := hdown j' oj' hj2 (by simpa using hoj') i hk1
                  rw [hi0] at this; cases this
                · cases hs'
            · simp only [he, if_false] at hx
              obtain ⟨row', y1, y2, y3, y4⟩ := hB.row j oj ty' x b inf' hoj hopj hdj hx hinf'
              refine ⟨row', (y1.mono (Ext.refl S) hs'.imm (hs'.kept b (hB.blk x b hx).2.1)).keptTo _, y2, fun k ok hk hok hst' => ?_, y4⟩
              have hne : k ≠ i := fun e => by
                subst e; rw [hol] at hok; cases hok
                simp [storeAtD, hop] at hst'
              rw [hset] at hk
              exact y3 k ok (by simpa [hne] using hk) hok hst'
        | store ty p x =>
          obtain ⟨hgn, hdn, d, hp, ⟨j, oj, hj1, hj2, hj3, hj4⟩, hun⟩ := dl2 ty p x hop
          subst hp
          rw [qop_dst, hdn] at hA'
          obtain ⟨b, hb⟩ := hB.dom' j oj ty d (hin j hj1) hj2 hj3 hj4
          obtain ⟨_, _, _, row, hrow, _⟩ := hal j oj ty d hj2 hj3 hj4
          obtain ⟨inf, hinf⟩ : ∃ inf, E.ti ty = some inf := by
            have h := hrow
            unfold rowD at h
            split at h
            · cases h
            · rename_i inf h'; exact ⟨inf, h'⟩
          have hT := hE.ti ty inf hinf
          -- what is stored
          have hsx : storeTo ops.toList d = some x := by
            obtain ⟨q1, q2⟩ := storeTo_spec ops.toList d
            cases hst : storeTo ops.toList d with
            | none => exact absurd (by simp [storeAtD, hop]) (q1 hst i o hol)
            | some x' =>
              obtain ⟨k, ok, ty', hk, hopk⟩ := q2 x' hst
              have : k = 0 + i := hun k ok hk (by simp [storeAtD, hopk])
              have : k = i := by omega
              subst this
              rw [hol] at hk; cases hk
              rw [hop] at hopk; cases hopk
              rfl
          have hx1 : rho E T1 ty x = rho E T ty x := by
            cases x with
            | tmp k =>
              show nthD T1 k = nthD T k
              refine hAf.agree hA hts fun j' oj' hoj' hdj' => ?_
              have hlt' : j' < ops.toList.length := by simpa using (List.getElem?_eq_some_iff.1 hoj').1
              refine ⟨by simpa using hlt', hin j' (hD.use k ?_ j' k (hdst k j' oj' hoj' hdj') rfl)⟩
              unfold opOperands
              rw [hop]
              simp [Op.operands]
            | _ => rfl
          have hr := hrow
          unfold rowD at hr
          rw [hinf] at hr
          simp only [hsx, hx1] at hr
          split at hr
          · rename_i hck
            cases hr
            rw [Bool.and_eq_true] at hck
            have hlenc : (cellsT (rho E T ty x)).length = inf.size := Nat.eq_of_beq_eq_true hck.1
            have hv := hR.ev (E := E) ty x
            obtain ⟨hc1, hc2⟩ := rvs_cells hv hck.2
            obtain ⟨z1, z2, z3, z4⟩ := hB.blk d b hb
            obtain ⟨row0, y1, y2, y3, y4⟩ := hB.row j oj ty d b inf hj2 hj3 hj4 hb hinf
            obtain ⟨c, e, r1, r2, r3⟩ := y1
            have hvs : (a.eval x).cells.size = inf.size := by have := hc1.1; simp at this; omega
            obtain ⟨w', c', s1, s2, s3, s4⟩ := storeVar_run (P := P) hT r1 (o := 0) hvs (by omega) hc2
            have hpe : a.eval (.tmp d) = .pointer (some ⟨b, 0, none⟩) := by
              show a.tmps.getD d undef = _
              rw [Array.getD_eq_getD_getElem?, z4]; rfl
            unfold wpOp
            simp only [ho]
            rw [if_pos (by simp [Region.wanted, hgn])]
            refine .inl ((Gives.skip (Φ := fun v w2 => v = undef ∧ w2 = w') (w' := w') (by
              simp only [execOp, hop, hpe]
              rw [Sem.run_bind]
              have : (Instr.storeAt ty (.pointer (some ⟨b, 0, none⟩)) (a.eval x)).run P w = .ok () w' := by
                simp only [Instr.storeAt, Instr.sureAddr, Sem.run_bind, Sem.run_pure, Result.andThen_ok]
                exact s1
              rw [this]; rfl) ⟨rfl, rfl⟩) _ Q fun v w2 hv2 => ?_)
            obtain ⟨q1, q2⟩ := hv2
            rw [q1, q2]
            obtain ⟨hHR, himm⟩ := hR.hr.wr_kept z2 s2
            have hst1 : Step (S.kp κ) w w' := ⟨⟨s2.os, s2.tape, s2.output, by rw [s2.size]; exact Nat.le_refl _, fun k hk => s2.other k (by have : S.base = (S.kp κ).base := rfl; omega)⟩, himm, fun k hk => s2.other k fun e => z3 (e ▸ hk)⟩
            have hput : a.put o.dst undef = a := by rw [hdn]; rfl
            rw [hput]
            refine ih (listed.setIfInBounds i true) _ S a w' β hsz' hcount hA' ⟨hHR, hR.len, fun k t v hk hv => (hR.tm k t v hk hv).mono (Ext.refl S) himm ℓ fun _ _ e => e, hR.df⟩ hκ hdown' ⟨?_, ?_, hB.blk, hB.inj, ?_⟩ hE0 (hs0.trans hE0 hst1)
            · intro x' b' hx'
              obtain ⟨k, ok, ty', h1, h2⟩ := hB.dom x' b' hx'
              exact ⟨k, ok, ty', by rw [hset, h1]; rfl, h2⟩
            · intro k ok ty' x' hk hok hopk hdk
              have hne : k ≠ i := fun e => by
                subst e; rw [hol] at hok; cases hok
                rw [hop] at hopk; cases hopk
              rw [hset] at hk
              exact hB.dom' k ok ty' x' (by simpa [hne] using hk) hok hopk hdk
            · intro k ok ty' x' b' inf' hok hopk hdk hx' hinf'
              by_cases he : x' = d
              · subst he
                rw [hb] at hx'; cases hx'
                have := hu0 j k oj ok x' hj2 hok hj4 hdk
                subst this
                rw [hj2] at hok; cases hok
                rw [hj3] at hopk; cases hopk
                rw [hinf] at hinf'; cases hinf'
                refine ⟨cellsT (rho E T ty x), ⟨c', e, s2.at_, by omega, fun m t ht => ?_⟩, hlenc, fun _ _ _ _ _ => hrow, fun hns => absurd (by simp [storeAtD, hop]) (hns i o hol)⟩
                have hm : m < (a.eval x).cells.size := by have := (List.getElem?_eq_some_iff.1 ht).1; omega
                refine ⟨(a.eval x).cells[m], ?_, (hc1.2 m t _ ht (by simp [hm])).mono (Ext.refl S) himm no fun _ _ e => e⟩
                rw [s4, if_pos (by omega)]
                simp [hm]
              · obtain ⟨row', q1, q2, q3, q4⟩ := hB.row k ok ty' x' b' inf' hok hopk hdk hx' hinf'
                have hbb : b' ≠ b := fun e => he (hB.inj x' d b (e ▸ hx') hb)
                refine ⟨row', q1.mono (Ext.refl S) himm (s2.other b' hbb), q2, fun m om hm hom hs => ?_, q4⟩
                have hne : m ≠ i := fun e => by
                  subst e; rw [hol] at hom; cases hom
                  simp [storeAtD, hop] at hs
                  exact he hs.symm
                rw [hset] at hm
                exact q3 m om (by simpa [hne] using hm) hom hs
          · cases hr
        | _ => simp [isLoudD, hop] at hlo
end
end Go.Proofs.YtbdkjkedjldheaaTv
