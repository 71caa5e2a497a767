/- An evaluator of the program's code over trees: variables, stores, slices that are made, calls that write. Conditions: none. -/
import Derived.Test.YtbdkjkedjldheaaKvH
namespace Go.Proofs.YtbdkjkedjldheaaTv
set_option linter.unusedVariables false
set_option linter.unusedSimpArgs false
set_option linter.unnecessarySimpa false
open Go Go.RowKit
/-- Calls that share the frame's objects. -/
def HeapOk (P : Program) (ch : FuncId → List TV → Heap → Option (TV × Heap)) : Prop :=
  ∀ g args H r, ch g args H = some r → ∀ (vs : Array Value) (w : World), (callFunc g vs).run P w = .ok (.enter g vs) w ∧ ∀ S : Shd, HR S no [] H w → RVs S w no args vs.toList →
    Calls P g vs w fun e w' => ∃ v S', e = .returned v ∧ Ext S S' ∧ Step S w w' ∧ HR S' no [] r.2 w' ∧ RV S' w' no r.1 v
def Φl (S : Shd) (ℓ : Lm) (L : Loc) (H : Heap) (w : World) (t : TV) (v : Value) (w' : World) : Prop := ∃ S' ℓ', Ext S S' ∧ Step S w w' ∧ (∀ d b, ℓ d = some b → ℓ' d = some b) ∧ HR S' ℓ' L H w' ∧ RV S' w' ℓ' t v
section
variable {P : Program} {E : Env}
theorem RV.keptTo {S : Shd} {w : World} {ℓ : Lm} {t : TV} {v : Value} (h : RV S w ℓ t v) (k : Nat → Prop) : RV { S with kept := k } w ℓ t v := by
  induction h with
  | undef ℓ v => exact .undef ℓ v
  | int ℓ k n => exact .int ℓ k n
  | bool ℓ b => exact .bool ℓ b
  | str ℓ s => exact .str ℓ s
  | agg ℓ cs vs hl h ih => exact .agg ℓ cs vs hl ih
  | tup ℓ cs vs hl h ih => exact .tup ℓ cs vs hl ih
  | lst ℓ fr ex nn sz n f a cap vals hn hx hi hs hc hv ih => exact .lst ℓ fr ex nn sz n f a cap vals hn hx hi hs hc ih
  | lst0 ℓ fr ex sz f => exact .lst0 ℓ fr ex sz f
  | own ℓ id g lo n v l hl hg hp h => exact .own ℓ id g lo n v l hl hg hp h
  | pnil ℓ => exact .pnil ℓ
  | pimm ℓ row off b o vals hi hc hv ih => exact .pimm ℓ row off b o vals hi hc ih
  | ploc ℓ d off b h => exact .ploc ℓ d off b h
  | pown ℓ id g r off v l hl hg hp h => exact .pown ℓ id g r off v l hl hg hp h
  | fn ℓ f cs vs hl h ih => exact .fn ℓ f cs vs hl ih
theorem RowR.keptTo {S : Shd} {w : World} {b : Nat} {row : List TV} (h : RowR S w b row) (k : Nat → Prop) : RowR { S with kept := k } w b row := by
  obtain ⟨c, e, h1, h2, h3⟩ := h
  exact ⟨c, e, h1, h2, fun j t ht => let ⟨v, hv, hr⟩ := h3 j t ht; ⟨v, hv, hr.keptTo k⟩⟩
theorem ObR.keptTo {S : Shd} {w : World} {b cap : Nat} {o : Ob} (h : ObR S w b cap o) (k : Nat → Prop) : ObR { S with kept := k } w b cap o := by
  obtain ⟨c, e, h1, h2, h3⟩ := h
  exact ⟨c, e, h1, h2, fun i hi => ⟨(h3 i hi).1, fun j t ht => let ⟨v, hv, hr⟩ := (h3 i hi).2 j t ht; ⟨v, hv, hr.keptTo k⟩⟩⟩
/-- The callee's view of the frame's objects. -/
def Shd.sub (S : Shd) (ℓ : Lm) : Shd := { S with kept := fun b => S.kept b ∨ ∃ d, ℓ d = some b }
theorem HR.sub {S : Shd} {ℓ : Lm} {L : Loc} {H : Heap} {w : World} (h : HR S ℓ L H w) : HR (S.sub ℓ) no [] H w := by
  refine ⟨h.base, h.imm, ?_, ?_, h.gen, fun id o ho => ?_, h.inj, fun d b hd => (by cases hd), fun d row hd => (by simp at hd), fun d d' b hd => (by cases hd), fun d b id o hd => (by cases hd)⟩
  · rintro b (x | ⟨d, hd⟩)
    · exact h.kept b x
    · obtain ⟨r, _, _, _, _, hr⟩ := h.loc d b hd; exact hr.lt
  · rintro b (x | ⟨d, hd⟩)
    · exact h.ki b x
    · obtain ⟨r, _, _, hi, _⟩ := h.loc d b hd; exact hi
  · obtain ⟨a1, a2, a3, a4, a5, a6⟩ := h.blk id o ho
    refine ⟨a1, a2, ?_, a4, a5, a6.keptTo _⟩
    rintro (x | ⟨d, hd⟩)
    · exact a3 x
    · exact h.apart d _ id o hd ho rfl
theorem heapcall_back {S S1 : Shd} {ℓ : Lm} {L : Loc} {H H' : Heap} {w w' : World} (h : HR S ℓ L H w) (hE : Ext (S.sub ℓ) S1) (hs : Step (S.sub ℓ) w w') (h1 : HR S1 no [] H' w') {t : TV} {v : Value} (hr : RV S1 w' no t v) : Φl S ℓ L H' w t v w' := by
  have hE' : Ext S { S1 with kept := S.kept } := ⟨hE.base, rfl, hE.imm, hE.gen⟩
  refine ⟨{ S1 with kept := S.kept }, ℓ, hE', ⟨hs.below, hs.imm, fun b x => hs.kept b (.inl x)⟩, fun _ _ e => e, ⟨h1.base, h1.imm, fun b x => ?_, fun b x => ?_, h1.gen, fun id o ho => ?_, h1.inj, fun d b hd => ?_, h.locv, h.linj, fun d b id o hd ho => ?_⟩, (hr.keptTo _).up ℓ⟩
  · exact h1.kept b (by rw [hE.kept]; exact .inl x)
  · exact h1.ki b (by rw [hE.kept]; exact .inl x)
  · obtain ⟨a1, a2, a3, a4, a5, a6⟩ := h1.blk id o ho
    exact ⟨a1, a2, fun x => a3 (by rw [hE.kept]; exact .inl x), a4, a5, a6.keptTo _⟩
  · obtain ⟨r, x1, x2, x3, x4, x5⟩ := h.loc d b hd
    have hk : S1.kept b := by rw [hE.kept]; exact .inr ⟨d, hd⟩
    exact ⟨r, x1, by show S1.base ≤ b; rw [hE.base]; exact x2, h1.ki b hk, x4, x5.mono hE' (fun b x => hs.imm b x) (hs.kept b (.inr ⟨d, hd⟩))⟩
  · have hk : S1.kept b := by rw [hE.kept]; exact .inr ⟨d, hd⟩
    intro e
    exact (h1.blk id o ho).2.2.1 (e ▸ hk)
theorem gives_heap {ch : FuncId → List TV → Heap → Option (TV × Heap)} (hch : HeapOk P ch) {o : Oper} {c : Call} (hop : o.op = .call c) {f : Operand} (hc : c.callee = .value f) {s : St} {g : FuncId} {caps : List TV} (hf : rho E s.T 0 f = .fn g caps)
    (hn : (argsT E s.T c.args.toList c.argTypes.toList ++ caps).all (nolocD 4) = true) {r : TV × Heap}
    (ht : ch g (argsT E s.T c.args.toList c.argTypes.toList ++ caps) s.H = some r) {S : Shd} {ℓ : Lm} {a : Act} {w : World} (hR : Rel S ℓ s a w) : Gives P o a w (Φl S ℓ s.L r.2 w r.1) := by
  have hv := hR.ev (E := E) 0 f
  rw [hf] at hv
  obtain ⟨vs, he, hvs⟩ := fn_inv hv
  have hargs := (args_rv (E := E) hR c.args.toList c.argTypes.toList).append hvs
  obtain ⟨h1, h2⟩ := hch g _ _ r ht ((c.args.map a.eval) ++ vs) w
  have h3 := h2 (S.sub ℓ) hR.hr.sub ⟨by have := hargs.1; simpa using this, fun i t v a b => ((hargs.2 i t v a (by simpa using b)).nolocD 4 (all_get hn a) no).keptTo _⟩
  refine Gives.call (f := g) (args := (c.args.map a.eval) ++ vs) (w' := w) ?_ (h3.mono fun e w' hh => ?_)
  · simp only [execOp, hop, resolve, hc, he, Deferred.ofValue, Sem.run_bind, Sem.run_pure, Result.andThen_ok, invoke]
    simpa using h1
  · obtain ⟨v, S', rfl, hE, hs, hr, hv⟩ := hh
    exact ⟨v, rfl, heapcall_back hR.hr hE hs hr hv⟩
theorem newVar_ok {R : Type} {f : FuncId} {dst : Option Tmp} {row : List TV} {L : Loc} {H : Heap} {K : TV → Loc → Heap → Option R} {r : R} (h : newVarK E f dst row L H K = some r) :
    ∃ t L' H', K t L' H' = some r ∧ ∀ (S : Shd) (ℓ : Lm) (w : World) (c : Array Value) (e : TypeId), HR S ℓ L H w → RVs S w ℓ row c.toList → Φl S ℓ L' H' w t (.pointer (some ⟨w.heap.size, 0, none⟩)) (w.alloc (.cells c e)) := by
  unfold newVarK at h
  simp only [forceL_eq, updK_eq] at h
  split at h
  · cases h
  rename_i hn
  have hno : ∀ {S : Shd} {ℓ : Lm} {w : World} {c : Array Value}, RVs S w ℓ row c.toList → RVs S w no row c.toList := fun h => ⟨h.1, fun i t v a b => (h.2 i t v a b).noloc1 (all_get hn a) no⟩
  split at h
  · cases h
  rename_i d
  split at h
  · refine ⟨_, _, _, h, fun S ℓ w c e hR hc => ?_⟩
    have hc' := hno hc
    have hsz : c.size = row.length := by have := hc'.1; simp at this; omega
    obtain ⟨h1, h2, h3⟩ := hR.new_own (w1 := w) (Below.refl _ _) rfl (c := c) (e := e) (id := H.length) (o := { sz := row.length, gen := 0, n := 1, f := fun _ => row }) (H' := H ++ [{ sz := row.length, gen := 0, n := 1, f := fun _ => row }]) (cap := 1)
      (fun i hi => by
        by_cases hlt : i < H.length
        · rw [List.getElem?_append_left hlt]
        · rw [List.getElem?_append_right (by omega), List.getElem?_eq_none (l := H) (by omega)]
          have : i - H.length ≠ 0 := by omega
          simp; omega) (by simp) (fun o' ho' => by simp at ho') (Nat.le_refl _) (by simp [hsz])
      (fun i hi => ⟨rfl, fun j t ht => by
        have hi0 : i = 0 := by simpa using hi
        subst hi0
        have hj : j < c.size := by rw [hsz]; exact (List.getElem?_eq_some_iff.1 ht).1
        exact ⟨c[j], by simp [hj], hc'.2 j t _ ht (by simp [hj])⟩⟩)
    refine ⟨_, ℓ, h1, h2, fun _ _ e => e, h3, .pown _ H.length 0 0 0 _ 0 (by simp [Shd.add]) (Nat.le_refl _) ⟨_, _, rfl⟩ fun _ => by simp [Shd.add]⟩
  · split at h
    · rename_i hL
      rw [nth_eq] at hL
      refine ⟨_, _, _, h, fun S ℓ w c e hR hc => ?_⟩
      obtain ⟨h1, h2⟩ := hR.new_loc hL (c := c) (e := e) (hno hc)
      exact ⟨S, _, Ext.refl S, .of_below hR ((Below.refl _ _).alloc (Nat.le_refl _) _), h2, h1, .ploc _ d 0 _ (by simp)⟩
    · cases h
theorem zero_rv {ty : TypeId} {i : TI} (hT : TIok P ty i) : ∃ inf z, P.info? ty = some inf ∧ inf.size = i.size ∧ inf.bytes = i.bytes ∧ inf.zero = some z ∧ (∀ (S : Shd) (w : World) (ℓ : Lm), RVs S w ℓ i.zero z.cells.toList) ∧ z.cells.size = i.size ∧ i.zero.length = i.size := by
  obtain ⟨inf, z, h1, h2, h3, h4, h5, h6⟩ := hT.info
  have : ∀ (S : Shd) (w : World) (ℓ : Lm), RVs S w ℓ i.zero z.cells.toList := fun S w ℓ => zsOk_rvs h5
  refine ⟨inf, z, h1, h2, h3, h4, this, ?_, h6⟩
  have h7 := (this (Shd.all default) default no).1
  simp at h7; omega
theorem rvs_whole {S : Shd} {w : World} {ℓ : Lm} {t : TV} {v : Value} (h : RV S w ℓ t v) (hs : (cellsT t).all noloc1 = true) (hu : ∀ c ∈ cellsT t, solid c = true) : RVs S w ℓ (cellsT t) v.cells.toList := by
  obtain ⟨h1, _⟩ := rvs_cells h (List.all_eq_true.2 hu)
  exact ⟨h1.1, fun i t v a b => (h1.2 i t v a b).up ℓ⟩
theorem put_some {α : Type} : ∀ (l : List α) (off : Nat) (bs : List α), off + bs.length ≤ l.length → ∃ r, put l off bs = some r
  | l, 0, [], _ => ⟨l, by cases l <;> rfl⟩
  | a :: l, 0, b :: bs, h => by
    obtain ⟨r, hr⟩ := put_some l 0 bs (by simp at h ⊢; omega)
    exact ⟨b :: r, by simp [put, hr]⟩
  | a :: l, off + 1, bs, h => by
    obtain ⟨r, hr⟩ := put_some l off bs (by simp at h; omega)
    exact ⟨a :: r, by cases bs <;> simp [put, hr]⟩
  | [], off + 1, bs, h => by simp at h
  | [], 0, b :: bs, h => by simp at h
theorem put_ovr {α : Type} {l : List α} {off : Nat} {bs : List α} (h : off + bs.length ≤ l.length) : put l off bs = some (ovr l off bs) := by
  obtain ⟨r, hr⟩ := put_some l off bs h
  rw [ovr, hr]; rfl
theorem put_whole {α : Type} : ∀ {l bs : List α}, bs.length = l.length → put l 0 bs = some bs
  | [], [], _ => rfl
  | a :: l, b :: bs, h => by
    have := put_whole (l := l) (bs := bs) (by simpa using h)
    simp [put, this]
  | [], _ :: _, h => by simp at h
  | _ :: _, [], h => by simp at h
theorem store_ok {R : Type} (hE : EnvOk P E) {L : Loc} {H : Heap} {ty : TypeId} {p v : TV} {K : Loc → Heap → Option R} {r : R} (h : storeK E L H ty p v K = some r) :
    ∃ L' H', K L' H' = some r ∧ ∀ (S : Shd) (ℓ : Lm) (w : World) (vp vv : Value), HR S ℓ L H w → RV S w ℓ p vp → RV S w ℓ v vv → ∃ w', (Instr.storeAt ty vp vv).run P w = .ok () w' ∧ Step S w w' ∧ HR S ℓ L' H' w' := by
  unfold storeK at h
  simp only [forceL_eq, updK_eq] at h
  split at h
  · cases h
  rename_i i hi
  have hT := hE.ti ty i hi
  split at h
  · rename_i hlen hsol
    have hlen' : (cellsT v).length = i.size := Nat.eq_of_beq_eq_true hlen
    have run : ∀ (w : World) (a : Addr) (vv : Value), (Instr.storeAt ty (.pointer (some a)) vv).run P w = (storeVar ty a vv).run P w := by
      intro w a vv; simp [Instr.storeAt, Instr.sureAddr]
    split at h
    · rename_i d off
      split at h
      · rename_i row hL
        rw [nth_eq] at hL
        split at h
        · rename_i row' hp
          refine ⟨_, _, h, fun S ℓ w vp vv hR hrp hrv => ?_⟩
          obtain ⟨p1, p2, p3⟩ := put_spec _ _ _ _ hp
          obtain ⟨b, hb, rfl⟩ := ploc_inv hrp
          obtain ⟨row0, x1, x2, x3, x4, c, e, y1, y2, y3⟩ := hR.loc d b hb
          rw [hL] at x1; cases x1
          obtain ⟨hc1, hc2⟩ := rvs_cells hrv hsol
          have hvs : vv.cells.size = i.size := by have := hc1.1; simp at this; omega
          obtain ⟨w', c', h1, h2, h3, h4⟩ := storeVar_run (P := P) hT y1 (o := off) hvs (by omega) hc2
          refine ⟨w', by rw [run]; exact h1, h2.step x2 x3 x4, hR.wr_loc hb h2 (List.getElem?_eq_some_iff.1 hL).1 (by omega) fun j t ht => ?_⟩
          rw [p3] at ht
          rw [h4]
          by_cases hj : off ≤ j ∧ j < off + (cellsT v).length
          · rw [if_pos hj] at ht
            rw [if_pos (by omega)]
            have hjl : j - off < vv.cells.size := by omega
            exact ⟨vv.cells[j - off], by simp [hjl], hc1.2 _ t _ ht (by simp [hjl])⟩
          · rw [if_neg hj] at ht
            rw [if_neg (by omega)]
            exact y3 j t ht
        · cases h
      · cases h
    · rename_i id g rr off
      split at h
      · rename_i o ho
        rw [nth_eq] at ho
        obtain ⟨⟨hg, hrn⟩, h⟩ := ck_some h
        have key : ∀ row', ((o.f rr).length = o.sz → put (o.f rr) off (cellsT v) = some row') → K L (upd H id { o with f := setF o.f rr row' }) = some r → ∃ L' H', K L' H' = some r ∧ ∀ (S : Shd) (ℓ : Lm) (w : World) (vp vv : Value), HR S ℓ L H w → RV S w ℓ (.pown id g rr off) vp → RV S w ℓ v vv → ∃ w', (Instr.storeAt ty vp vv).run P w = .ok () w' ∧ Step S w w' ∧ HR S ℓ L' H' w' := by
          intro row' hrow h
          refine ⟨_, _, h, fun S ℓ w vp vv hR hrp hrv => ?_⟩
          obtain ⟨_, l, a1, a2, a3⟩ := pown_inv hrp
          rw [hR.gen_eq ho] at a1; cases a1
          obtain rfl := a3 hg.symm
          obtain ⟨x1, x2, x3, x4, x5, c, e, y1, y2, y3⟩ := hR.blk id o ho
          obtain ⟨hc1, hc2⟩ := rvs_cells hrv hsol
          have hvs : vv.cells.size = i.size := by have := hc1.1; simp at this; omega
          have hlenr := (y3 rr hrn).1
          obtain ⟨p1, p2, p3⟩ := put_spec _ _ _ _ (hrow hlenr)
          have hcap : rr * o.sz + o.sz ≤ S.cap id * o.sz := by
            have : (rr + 1) * o.sz ≤ S.cap id * o.sz := Nat.mul_le_mul_right _ (by omega)
            rwa [Nat.add_mul, Nat.one_mul] at this
          rw [x4] at *
          obtain ⟨w', c', h1, h2, h3, h4⟩ := storeVar_run (P := P) hT y1 (o := rr * o.sz + off) hvs (by omega) hc2
          have hst := h2.step (S := S) x1 x2 x3
          refine ⟨w', by rw [run]; exact h1, hst, hR.wr_own ho h2 ⟨c', e, h2.at_, by simp only; omega, fun k hk => ?_⟩⟩
          simp only [setF] at hk ⊢
          have keep : ∀ (j : Nat) (t : TV), k ≠ rr ∨ ¬ (off ≤ j ∧ j < off + i.size) → (o.f k)[j]? = some t → ∃ v, c'[k * o.sz + j]? = some v ∧ RV S w' no t v := by
            intro j t hne ht
            obtain ⟨v', hv', hr'⟩ := (y3 k hk).2 j t ht
            refine ⟨v', ?_, hr'.mono (Ext.refl S) hst.imm no fun _ _ e => e⟩
            rw [h4, if_neg, hv']
            have hjl : j < o.sz := by rw [← (y3 k hk).1]; exact (List.getElem?_eq_some_iff.1 ht).1
            rcases hne with hne | hne
            · rcases Nat.lt_or_gt_of_ne hne with hlt | hgt
              · have : (k + 1) * o.sz ≤ rr * o.sz := Nat.mul_le_mul_right _ hlt
                rw [Nat.add_mul, Nat.one_mul] at this
                omega
              · have : (rr + 1) * o.sz ≤ k * o.sz := Nat.mul_le_mul_right _ hgt
                rw [Nat.add_mul, Nat.one_mul] at this
                omega
            · by_cases hkr : k = rr
              · subst hkr; omega
              · rcases Nat.lt_or_gt_of_ne hkr with hlt | hgt
                · have : (k + 1) * o.sz ≤ rr * o.sz := Nat.mul_le_mul_right _ hlt
                  rw [Nat.add_mul, Nat.one_mul] at this
                  omega
                · have : (rr + 1) * o.sz ≤ k * o.sz := Nat.mul_le_mul_right _ hgt
                  rw [Nat.add_mul, Nat.one_mul] at this
                  omega
          by_cases hkr : k = rr
          · subst hkr
            simp only [if_true]
            refine ⟨by rw [p1]; exact hlenr, fun j t ht => ?_⟩
            rw [p3] at ht
            by_cases hj : off ≤ j ∧ j < off + (cellsT v).length
            · rw [if_pos hj] at ht
              have hjl : j - off < vv.cells.size := by omega
              refine ⟨vv.cells[j - off], ?_, (hc1.2 _ t _ ht (by simp [hjl])).mono (Ext.refl S) hst.imm no fun _ _ e => e⟩
              rw [h4, if_pos (by omega), show k * o.sz + j - (k * o.sz + off) = j - off by omega]
              simp [hjl]
            · rw [if_neg hj] at ht
              exact keep j t (.inr (by omega)) ht
          · simp only [hkr, if_false]
            exact ⟨(y3 k hk).1, fun j t ht => keep j t (.inl hkr) ht⟩
        have rest : (match Nat.ble (off + (cellsT v).length) o.sz with
            | true => K L (upd H id { o with f := setF o.f rr (ovr (o.f rr) off (cellsT v)) })
            | false => none) = some r → ∃ L' H', K L' H' = some r ∧ ∀ (S : Shd) (ℓ : Lm) (w : World) (vp vv : Value), HR S ℓ L H w → RV S w ℓ (.pown id g rr off) vp → RV S w ℓ v vv → ∃ w', (Instr.storeAt ty vp vv).run P w = .ok () w' ∧ Step S w w' ∧ HR S ℓ L' H' w' := by
          intro h
          cases hb : Nat.ble (off + (cellsT v).length) o.sz with
          | true =>
            simp only [hb] at h
            exact key _ (fun hl => put_ovr (by rw [hl]; exact Nat.le_of_ble_eq_true hb)) h
          | false => simp only [hb] at h; cases h
        cases hb : Nat.beq (cellsT v).length o.sz with
        | false => simp only [hb] at h; exact rest h
        | true =>
          cases off with
          | succ off => simp only [hb] at h; exact rest h
          | zero =>
            simp only [hb] at h
            exact key _ (fun hl => put_whole (by rw [hl]; exact Nat.eq_of_beq_eq_true hb)) h
      · cases h
    · cases h
  · cases h
end
end Go.Proofs.YtbdkjkedjldheaaTv
