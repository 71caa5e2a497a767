/- An evaluator of the program's code over trees: whole functions. Conditions: none. -/
import Derived.Test.YtbdkjkedjldheaaKvV
namespace Go.Proofs.YtbdkjkedjldheaaTv
set_option linter.unusedVariables false
set_option linter.unusedSimpArgs false
set_option linter.unnecessarySimpa false
open Go Go.RowKit
def exOf : Ex → Exit
  | .normal => .normal
  | .exit id => .exit id
  | .ret => .ret
section
variable {R : Type} {P : Program} {E : Env}
theorem maskT_get (m : Nat) : ∀ (T : List TV) (i k : Nat), (maskT m i T)[k]? = (T[k]?).map fun t => if m.testBit (i + k) then .undef else t
  | [], i, k => by simp [maskT]
  | t :: T, i, 0 => by
    simp only [maskT, List.getElem?_cons_zero, Option.map_some, Nat.add_zero]
    cases m.testBit i <;> rfl
  | t :: T, i, k + 1 => by
    simp only [maskT, List.getElem?_cons_succ]
    rw [maskT_get m T (i + 1) k, show i + 1 + k = i + (k + 1) by omega]
theorem maskT_len (m : Nat) : ∀ (T : List TV) (i : Nat), (maskT m i T).length = T.length
  | [], _ => rfl
  | _ :: T, i => by simp [maskT, maskT_len m T]
theorem maskL_get (m : Nat) : ∀ (T : Loc) (i k : Nat), (maskL m i T)[k]? = (T[k]?).map fun t => if m.testBit (i + k) then none else t
  | [], i, k => by simp [maskL]
  | t :: T, i, 0 => by
    simp only [maskL, List.getElem?_cons_zero, Option.map_some, Nat.add_zero]
    cases m.testBit i <;> rfl
  | t :: T, i, k + 1 => by
    simp only [maskL, List.getElem?_cons_succ]
    rw [maskL_get m T (i + 1) k, show i + 1 + k = i + (k + 1) by omega]
def Lm.cut (ℓ : Lm) (m : Nat) : Lm := fun d => if m.testBit d then none else ℓ d
theorem RV.cut1 {S : Shd} {w : World} {ℓ : Lm} {m : Nat} {t : TV} {v : Value} (h : RV S w ℓ t v) (hn : noDead1 m t = true) : RV S w (ℓ.cut m) t v := by
  cases h with
  | ploc _ d off b hb =>
    refine .ploc _ d off b ?_
    simp only [noDead1, Bool.not_eq_true'] at hn
    simp [Lm.cut, hn, hb]
  | agg => simp [noDead1] at hn
  | tup => simp [noDead1] at hn
  | fn => simp [noDead1] at hn
  | undef _ v => exact .undef _ v
  | int _ k n => exact .int _ k n
  | bool _ b => exact .bool _ b
  | str _ s => exact .str _ s
  | lst _ fr ex nn sz n f a cap vals a1 a2 a3 a4 a5 a6 => exact .lst _ fr ex nn sz n f a cap vals a1 a2 a3 a4 a5 a6
  | lst0 => exact .lst0 ..
  | own _ id g lo n v l a1 a2 a3 a4 => exact .own _ id g lo n v l a1 a2 a3 a4
  | pnil => exact .pnil _
  | pimm _ row off b o vals a1 a2 a3 => exact .pimm _ row off b o vals a1 a2 a3
  | pown _ id g r off v l a1 a2 a3 a4 => exact .pown _ id g r off v l a1 a2 a3 a4
theorem RV.cut {S : Shd} {w : World} {ℓ : Lm} {m : Nat} {t : TV} {v : Value} (h : RV S w ℓ t v) (hn : noDead m t = true) : RV S w (ℓ.cut m) t v := by
  cases t with
  | agg cs => obtain ⟨vs, rfl, hr⟩ := agg_inv h; exact rv_agg ⟨hr.1, fun i t v a b => (hr.2 i t v a b).cut1 (all_get hn a)⟩
  | tup cs => obtain ⟨vs, rfl, hr⟩ := tup_inv h; exact rv_tup ⟨hr.1, fun i t v a b => (hr.2 i t v a b).cut1 (all_get hn a)⟩
  | fn f cs => obtain ⟨vs, rfl, hr⟩ := fn_inv h; exact rv_fn ⟨hr.1, fun i t v a b => (hr.2 i t v a b).cut1 (all_get hn a)⟩
  | ploc d off => exact h.cut1 hn
  | _ => exact h.cut1 rfl
theorem mask_ok {m : Nat} {s : St} {K : St → Option R} {r : R} (h : maskK m s K = some r) : ∃ s', K s' = some r ∧ ∀ S ℓ a w, Rel S ℓ s a w → ∃ ℓ', Rel S ℓ' s' a w := by
  rw [maskK_eq] at h
  split at h
  · rename_i hall
    refine ⟨_, h, fun S ℓ a w hR => ⟨ℓ.cut m, ⟨?_, by simp [maskT_len, hR.len], fun i t v h1 h2 => ?_, hR.df⟩⟩⟩
    · have hr := hR.hr
      have hcut : ∀ d b, (ℓ.cut m) d = some b → m.testBit d = false ∧ ℓ d = some b := by
        intro d b hd
        unfold Lm.cut at hd
        split at hd
        · cases hd
        · rename_i hb; exact ⟨by simpa using hb, hd⟩
      refine ⟨hr.base, hr.imm, hr.kept, hr.ki, hr.gen, hr.blk, hr.inj, fun d b hd => ?_, fun d row hd => ?_, fun d d' b h1 h2 => hr.linj d d' b (hcut d b h1).2 (hcut d' b h2).2, fun d b id o hd => hr.apart d b id o (hcut d b hd).2⟩
      · obtain ⟨h1, h2⟩ := hcut d b hd
        obtain ⟨row, x1, x2⟩ := hr.loc d b h2
        exact ⟨row, by rw [maskL_get, x1]; simp [h1], x2⟩
      · rw [maskL_get, Option.map_eq_some_iff] at hd
        obtain ⟨x, hx, hd⟩ := hd
        simp only [Nat.zero_add] at hd
        split at hd
        · cases hd
        · rename_i hb
          subst hd
          obtain ⟨b, hb'⟩ := hr.locv d row hx
          exact ⟨b, by simp [Lm.cut, hb, hb']⟩
    · rw [maskT_get, Option.map_eq_some_iff] at h1
      obtain ⟨x, hx, e⟩ := h1
      simp only [Nat.zero_add] at e
      split at e
      · subst e; exact .undef ..
      · subst e
        refine (hR.tm i x v hx h2).cut ?_
        have hb : (maskT m 0 s.T)[i]? = some x := by rw [maskT_get, hx]; simp only [Option.map_some, Nat.zero_add]; rw [if_neg ‹_›]
        exact all_get hall hb
  · cases h
/-- From a loop's later rounds on. -/
def wpIn (P : Program) (c : Code) (Q : Exit → Act → World → Prop) (a : Act) (w : World) : Prop :=
  ∀ (b : Frame) (k : List Item) (cs : List Frame), ∃ e a' w', Q e a' w' ∧ Arrives P (lone (b.at a (.inLoop c :: k)) cs w) b k cs e a' w'
theorem round_of {c : Code} {Q : Exit → Act → World → Prop} {a : Act} {w : World} (h : c.wp P (Exit.then (wpIn P c Q) Q) a w) (b : Frame) (k : List Item) (cs : List Frame) :
    ∃ e a' w', Q e a' w' ∧ Arrives P (lone (b.at a (.code c :: .inLoop c :: k)) cs w) b k cs e a' w' := by
  obtain ⟨e, a₁, w₁, hq, harr⟩ := h b (.inLoop c :: k) cs
  cases e with
  | normal =>
    obtain ⟨e₂, a₂, w₂, hq₂, harr₂⟩ := hq b k cs
    exact ⟨e₂, a₂, w₂, hq₂, .of_steps harr harr₂⟩
  | exit id => exact ⟨_, a₁, w₁, hq, .pass (x := .inLoop c) rfl (fun _ _ => .inl (by simp)) harr⟩
  | goto l => exact ⟨_, a₁, w₁, hq, .pass (x := .inLoop c) rfl (fun _ _ => .inl (by simp)) harr⟩
  | ret => exact ⟨_, a₁, w₁, hq, .pass (x := .inLoop c) rfl (fun _ _ => .inl (by simp)) harr⟩
  | panic ch => exact ⟨_, a₁, w₁, hq, .pass (x := .inLoop c) rfl (fun _ _ => .inl (by simp)) harr⟩
  | outgrown => exact ⟨_, a₁, w₁, hq, .pass (x := .inLoop c) rfl (fun _ _ => .inl (by simp)) harr⟩
theorem wpIn_of {c : Code} {Q : Exit → Act → World → Prop} {a : Act} {w : World} (h : c.wp P (Exit.then (wpIn P c Q) Q) a w) : wpIn P c Q a w := fun b k cs => by
  obtain ⟨e, a', w', hq, harr⟩ := round_of h b k cs
  exact ⟨e, a', w', hq, .of_steps (.one step_inLoop) harr⟩
theorem wp_loop_of {c : Code} {Q : Exit → Act → World → Prop} {a : Act} {w : World} (h : c.wp P (Exit.then (wpIn P c Q) Q) a w) : (Code.loop c).wp P Q a w := fun b k cs => by
  obtain ⟨e, a', w', hq, harr⟩ := round_of h b k cs
  exact ⟨e, a', w', hq, .of_steps (.one step_loop) harr⟩
/-- What is shown of a piece of code. -/
def CodeOk (P : Program) (c : Code) (s : St) (e : Ex) (s' : St) : Prop :=
  ∀ S ℓ a w, Rel S ℓ s a w → ∀ Q, Goes S ℓ s a w s' (Q (exOf e)) → c.wp P Q a w
theorem Goes.refl {S : Shd} {ℓ : Lm} {s : St} {a : Act} {w : World} {next : Act → World → Prop} (hR : Rel S ℓ s a w) (h : Goes S ℓ s a w s next) : next a w := h S ℓ a w (Ext.refl S) (Step.refl S w) hR
theorem upd_st {s : St} {t : Nat} {b : Bool} (h : nthD s.T t = .bool b) : (⟨upd s.T t (.bool b), s.L, s.H⟩ : St) = s := by rw [upd_same h (by simp)]
theorem evCode_ok (hE : EnvOk P E) {ct : FuncId → List TV → Option TV} {ch : FuncId → List TV → Heap → Option (TV × Heap)} (hct : TreeOk P ct) (hch : HeapOk P ch) {f : FuncId} {k : Nat} : ∀ (c : Code) (s : St) (K : Ex → St → Option R) (r : R), evCode E ct ch f k c s K = some r →
    ∃ e s', K e s' = some r ∧ CodeOk P c s e s' := by
  intro c
  induction c with
  | skip => intro s K r h; exact ⟨_, _, h, fun S ℓ a w hR Q hg => wp_skip (hg.refl hR)⟩
  | ret => intro s K r h; exact ⟨_, _, h, fun S ℓ a w hR Q hg => wp_ret (hg.refl hR)⟩
  | exit id => intro s K r h; exact ⟨_, _, h, fun S ℓ a w hR Q hg => wp_exit (hg.refl hR)⟩
  | region id ops draw =>
    intro s K r h
    simp only [evCode] at h
    cases draw with
    | false =>
      simp only at h
      obtain ⟨s', h1, hh⟩ := evOps_ok hE hct hch ops _ s _ r h
      exact ⟨.normal, s', h1, fun S ℓ a w hR Q hg => wp_region_list (hh S ℓ a w hR Q hg)⟩
    | true =>
      have hinit : ∀ j, j < ops.size → (Array.replicate ops.size false).getD j false = false := fun j hj => by simp [hj]
      simp only at h
      split at h
      · rename_i hd _
        obtain ⟨ts, T', htr, h1⟩ := trace ct ch f ops.toList _ s _ r h
        refine ⟨.normal, _, h1, fun S ℓ a w hR Q hg => wp_region_any hE.mixed ?_⟩
        have hb : Below w.heap.size w w.drew := (Below.refl _ _).drew
        have hR' : Rel (S.grow w.heap.size w.drew.heap.size) ℓ s a w.drew := ⟨hR.hr.grow hb, hR.len, fun i t v h1 h2 => RV.mono (S' := S.grow w.heap.size w.drew.heap.size) (w := w) (w' := w.drew) (S.grow_ext _ _) (fun b x => rfl) (hR.tm i t v h1 h2) ℓ (fun _ _ e => e), hR.df⟩
        exact draw_ok hE hct hd htr ops.size _ s.T _ ℓ a w.drew (by simp) (by simp) ⟨rfl, fun k j oj tj hj hoj => (by
          have hlt : j < ops.size := by simpa using (List.getElem?_eq_some_iff.1 hoj).1
          simp [hlt] at hj), fun k _ => rfl⟩ hR' fun S2 ℓ2 a2 w2 e2 st2 r2 => hg S2 ℓ2 a2 w2 ((S.grow_ext _ _).trans e2) ((Step.of_below hR.hr hb).trans (S.grow_ext _ _) st2) r2
      · rename_i hd _
        split at h
        · rename_i hl
          obtain ⟨ts, T1, htr, h1⟩ := trace ct ch f (ops.toList.map qop) _ s _ r h
          simp only at h1
          have hdeps := depsOk_spec ops.toList ops.toList 0 hd
          obtain ⟨Tf, Lf, e1, e2, e3, e4, e5⟩ := dFin_spec _ _ _ _ r h1 (fun i j oi oj d a1 a2 a3 a4 => (by simpa using hdeps j oj a2 : Deps ops.toList j oj).dst d a4 i (by rw [guardT, nth_eq, a1]; exact a3))
          refine ⟨.normal, _, e1, fun S ℓ a w hR Q hg => wp_region_any hE.mixed ?_⟩
          have hb : Below w.heap.size w w.drew := (Below.refl _ _).drew
          have hR' : Rel (S.grow w.heap.size w.drew.heap.size) ℓ s a w.drew := ⟨hR.hr.grow hb, hR.len, fun i t v h1 h2 => RV.mono (S' := S.grow w.heap.size w.drew.heap.size) (w := w) (w' := w.drew) (S.grow_ext _ _) (fun b x => rfl) (hR.tm i t v h1 h2) ℓ (fun _ _ e => e), hR.df⟩
          exact draw2_ok hE hct hd hl htr ⟨e2, e3⟩ e4 e5 (κ := S.kept) (ℓ := ℓ) (S0 := S.grow w.heap.size w.drew.heap.size) (w0 := w.drew)
            (fun S2 ℓ2 a2 w2 x2 st2 r2 => hg S2 ℓ2 a2 w2 ((S.grow_ext _ _).trans x2) ((Step.of_below hR.hr hb).trans (S.grow_ext _ _) st2) r2)
            ops.size _ s.T (S.grow w.heap.size w.drew.heap.size) a w.drew no (by simp) (by simp) ⟨rfl, fun k j oj tj hj hoj => (by
              have hlt : j < ops.size := by simpa using (List.getElem?_eq_some_iff.1 hoj).1
              simp [hlt] at hj), fun k _ => rfl⟩ hR' (fun b x => x) (fun i o hi ho => (by
              have hlt : i < ops.size := (Array.getElem?_eq_some_iff.1 ho).1
              simp [hlt] at hi)) ⟨fun d b hb => (by cases hb), fun i o ty d hi ho => (by
              have hlt : i < ops.size := by simpa using (List.getElem?_eq_some_iff.1 ho).1
              simp [hlt] at hi), fun d b hb => (by cases hb), fun d d' b hb => (by cases hb), fun i o ty d b inf _ _ _ hb => (by cases hb)⟩ (Ext.refl _) (Step.refl _ _)
        · cases h
      · cases h
  | seq x y ihx ihy =>
    intro s K r h
    simp only [evCode] at h
    obtain ⟨e, s1, h1, hx⟩ := ihx s _ r h
    cases e with
    | normal =>
      simp only at h1
      obtain ⟨e2, s2, h2, hy⟩ := ihy s1 K r h1
      exact ⟨e2, s2, h2, fun S ℓ a w hR Q hg => wp_seq (hx S ℓ a w hR _ fun S1 ℓ1 a1 w1 e1 st1 r1 => hy S1 ℓ1 a1 w1 r1 Q fun S2 ℓ2 a2 w2 e2 st2 r2 => hg S2 ℓ2 a2 w2 (e1.trans e2) (st1.trans e1 st2) r2)⟩
    | exit id => exact ⟨_, _, h1, fun S ℓ a w hR Q hg => wp_seq (hx S ℓ a w hR _ hg)⟩
    | ret => exact ⟨_, _, h1, fun S ℓ a w hR Q hg => wp_seq (hx S ℓ a w hR _ hg)⟩
  | cond c x y ihx ihy =>
    intro s K r h
    cases c with
    | tmp t =>
      rw [evCode_cond] at h
      split at h
      · rename_i b hb
        have hval : ∀ S ℓ a w, Rel S ℓ s a w → a.eval (.tmp t) = .bool b := by
          intro S ℓ a w hR
          obtain ⟨v, hv, hr⟩ := guard_val hR hb (by simp)
          show a.tmps.getD t undef = _
          rw [Array.getD_eq_getD_getElem?, hv, bool_inv hr]; rfl
        cases b with
        | true =>
          simp only [cond_true, upd_st hb] at h
          obtain ⟨e, s', h1, hh⟩ := ihx s K r h
          exact ⟨e, s', h1, fun S ℓ a w hR Q hg => wp_cond_true (hval S ℓ a w hR) (hh S ℓ a w hR Q hg)⟩
        | false =>
          simp only [cond_false, upd_st hb] at h
          obtain ⟨e, s', h1, hh⟩ := ihy s K r h
          exact ⟨e, s', h1, fun S ℓ a w hR Q hg => wp_cond_false (hval S ℓ a w hR) (hh S ℓ a w hR Q hg)⟩
      · cases h
    | const v =>
      simp only [evCode] at h
      cases v <;> simp only at h <;> try (cases h; done)
      rename_i b
      cases b with
      | true =>
        obtain ⟨e, s', h1, hh⟩ := ihx s K r h
        exact ⟨e, s', h1, fun S ℓ a w hR Q hg => wp_cond_true rfl (hh S ℓ a w hR Q hg)⟩
      | false =>
        obtain ⟨e, s', h1, hh⟩ := ihy s K r h
        exact ⟨e, s', h1, fun S ℓ a w hR Q hg => wp_cond_false rfl (hh S ℓ a w hR Q hg)⟩
    | global g => simp [evCode] at h
    | func g => simp [evCode] at h
  | block id c ih =>
    intro s K r h
    simp only [evCode] at h
    obtain ⟨e, s', h1, hh⟩ := ih s _ r h
    cases e with
    | normal => exact ⟨_, _, h1, fun S ℓ a w hR Q hg => wp_block (hh S ℓ a w hR _ hg)⟩
    | ret => exact ⟨_, _, h1, fun S ℓ a w hR Q hg => wp_block (hh S ℓ a w hR _ hg)⟩
    | exit i =>
      simp only at h1
      split at h1
      · rename_i hi
        have hi' := Nat.eq_of_beq_eq_true hi
        exact ⟨_, _, h1, fun S ℓ a w hR Q hg => wp_block (hh S ℓ a w hR _ fun S1 ℓ1 a1 w1 e1 st1 r1 => by
          simp only [exOf, Exit.inBlock, hi', if_true]; exact hg S1 ℓ1 a1 w1 e1 st1 r1)⟩
      · rename_i hi
        have hi' : i ≠ id := fun e => by subst e; rw [Nat.beq_refl] at hi; cases hi
        exact ⟨_, _, h1, fun S ℓ a w hR Q hg => wp_block (hh S ℓ a w hR _ fun S1 ℓ1 a1 w1 e1 st1 r1 => by
          simp only [exOf, Exit.inBlock, hi', if_false]; exact hg S1 ℓ1 a1 w1 e1 st1 r1)⟩
  | loop c ih =>
    intro s K r h
    simp only [evCode] at h
    have rounds : ∀ (n : Nat) (s : St), evLoop (E.dead f (loopId c)) (fun s K => evCode E ct ch f k c s K) n s K = some r → ∃ e s', K e s' = some r ∧ ∀ S ℓ a w, Rel S ℓ s a w → ∀ Q, Goes S ℓ s a w s' (Q (exOf e)) → c.wp P (Exit.then (wpIn P c Q) Q) a w := by
      intro n
      induction n with
      | zero => intro s h; simp [evLoop] at h
      | succ n ihn =>
        intro s h
        simp only [evLoop] at h
        obtain ⟨s0, h0, hm⟩ := mask_ok h
        obtain ⟨e, s1, h1, hh⟩ := ih s0 _ r h0
        cases e with
        | normal =>
          simp only at h1
          obtain ⟨e2, s2, h2, hh2⟩ := ihn s1 h1
          refine ⟨e2, s2, h2, fun S ℓ a w hR Q hg => ?_⟩
          obtain ⟨ℓ', hR'⟩ := hm S ℓ a w hR
          exact hh S ℓ' a w hR' _ fun S1 ℓ1 a1 w1 e1 st1 r1 => wpIn_of (hh2 S1 ℓ1 a1 w1 r1 Q fun S2 ℓ2 a2 w2 e2 st2 r2 => hg S2 ℓ2 a2 w2 (e1.trans e2) (st1.trans e1 st2) r2)
        | exit id =>
          simp only at h1
          obtain ⟨s2, h2, hm2⟩ := mask_ok h1
          refine ⟨.exit id, s2, h2, fun S ℓ a w hR Q hg => ?_⟩
          obtain ⟨ℓ', hR'⟩ := hm S ℓ a w hR
          refine hh S ℓ' a w hR' _ fun S1 ℓ1 a1 w1 e1 st1 r1 => ?_
          obtain ⟨ℓ2, r2⟩ := hm2 S1 ℓ1 a1 w1 r1
          exact hg S1 ℓ2 a1 w1 e1 st1 r2
        | ret =>
          simp only at h1
          obtain ⟨s2, h2, hm2⟩ := mask_ok h1
          refine ⟨.ret, s2, h2, fun S ℓ a w hR Q hg => ?_⟩
          obtain ⟨ℓ', hR'⟩ := hm S ℓ a w hR
          refine hh S ℓ' a w hR' _ fun S1 ℓ1 a1 w1 e1 st1 r1 => ?_
          obtain ⟨ℓ2, r2⟩ := hm2 S1 ℓ1 a1 w1 r1
          exact hg S1 ℓ2 a1 w1 e1 st1 r2
    obtain ⟨e, s', h1, hh⟩ := rounds k s h
    exact ⟨e, s', h1, fun S ℓ a w hR Q hg => wp_loop_of (hh S ℓ a w hR Q hg)⟩
  | rangeFunc => intro s K r h; simp [evCode] at h
  | scope => intro s K r h; simp [evCode] at h
  | label => intro s K r h; simp [evCode] at h
  | goto => intro s K r h; simp [evCode] at h
  | refuse => intro s K r h; simp [evCode] at h
end
end Go.Proofs.YtbdkjkedjldheaaTv
