/- An evaluator of the program's code over trees: operations that change memory, all of them. Conditions: none. -/
import Derived.Test.YtbdkjkedjldheaaKvJ
namespace Go.Proofs.YtbdkjkedjldheaaTv
set_option linter.unusedVariables false
set_option linter.unusedSimpArgs false
set_option linter.unnecessarySimpa false
open Go Go.RowKit
section
variable {P : Program} {E : Env}
theorem zeros_run {ty : TypeId} {inf : TypeInfo} {z : Value} (h1 : P.info? ty = some inf) (h4 : inf.zero = some z) (w : World) : (zeroValue ty).run P w = .ok z w := by
  simp [zeroValue, typeInfo, h1, h4]
theorem rowsOf_spec {s : St} {a : Act} {S : Shd} {ℓ : Lm} {w : World} (hR : Rel S ℓ s a w) {e : TypeId} {size : Nat} : ∀ (parts : List (Nat × Operand)) (j : Nat) (rows : List (List TV)), rowsOf E s.T e size parts j = some rows →
    rows.length = parts.length ∧ (parts.map fun (i, x) => (i, a.eval x)) = ((parts.map fun p => a.eval p.2).zipIdx j).map (fun x => (x.2, x.1)) ∧
    ∀ (k : Nat) (r : List TV), rows[k]? = some r → r.length = size ∧ ∃ p, parts[k]? = some p ∧ r = cellsT (rho E s.T e p.2) ∧ r.all noloc1 = true ∧ whole (rho E s.T e p.2) = true
  | [], j, rows, h => by
    simp [rowsOf] at h; subst h; simp
  | (i, x) :: r, j, rows, h => by
    simp only [rowsOf] at h
    split at h
    · rename_i h1 h2 h3 h4
      rw [Option.map_eq_some_iff] at h
      obtain ⟨rows', h5, rfl⟩ := h
      obtain ⟨e1, e2, e3⟩ := rowsOf_spec hR r (j + 1) rows' h5
      have hij : i = j := Nat.eq_of_beq_eq_true h1
      refine ⟨by simp [e1], by simp [e2, hij], fun k rr hk => ?_⟩
      cases k with
      | zero =>
        simp at hk; subst hk
        exact ⟨Nat.eq_of_beq_eq_true h2, (i, x), by simp, rfl, h3, h4⟩
      | succ k => simp at hk; simpa using e3 k rr hk
    · cases h
theorem whole_cells {S : Shd} {ℓ : Lm} {w : World} {t : TV} {v : Value} (h : RV S w ℓ t v) (hs : whole t = true) : RVs S w ℓ (cellsT t) v.cells.toList := by
  have one : solid t = true → cellsT t = [t] → RVs S w ℓ (cellsT t) v.cells.toList := by
    intro hs h2
    have hv := solid_one h hs
    have : v.cells.toList = [v] := by cases v <;> first | rfl | (simp [Value.oneCell'] at hv)
    rw [this, h2]; exact .cons h .nil
  cases t with
  | agg cs => obtain ⟨vs, rfl, hr⟩ := agg_inv h; exact hr
  | _ => exact one hs rfl
theorem build_ok (hE : EnvOk P E) {s : St} {a : Act} {S : Shd} {ℓ : Lm} {w : World} (hR : Rel S ℓ s a w) {ty e : TypeId} {ti : TI} (ht : E.ti ty = some ti) (hk : ti.kind = .slice e) {ei : TI} (he : E.ti e = some ei) {len : Nat} {parts : Array (Nat × Operand)} {rows : List (List TV)}
    (hl : parts.toList.length = len) (h1 : 1 ≤ ei.size) (hsmall : len * ei.size ≤ 2 ^ 24) (hrows : rowsOf E s.T e ei.size parts.toList 0 = some rows) :
    ∃ (c : Array Value), (Instr.buildSlice ty len (parts.map fun (i, x) => (i, a.eval x))).run P w = .ok (.slice (some ⟨w.heap.size, 0, none⟩) len len) (w.alloc (.cells c e)) ∧ c.size = len * ei.size ∧
      ∀ i, i < len → (((nth rows i).getD ei.zero).length = ei.size) ∧ ∀ (j : Nat) (t : TV), ((nth rows i).getD ei.zero)[j]? = some t → ∃ v, c[i * ei.size + j]? = some v ∧ RV S w no t v := by
  have hku := (hE.ti ty ti ht).kind
  rw [hk] at hku
  simp only [KOk] at hku
  obtain ⟨inf, z, i1, i2, i3, i4, i5, i6, i7⟩ := zero_rv (hE.ti e ei he)
  obtain ⟨r1, r2, r3⟩ := rowsOf_spec (E := E) hR _ _ _ hrows
  have hpl : (parts.map fun (i, x) => (i, a.eval x)).toList = ((parts.toList.map fun p => a.eval p.2).zipIdx 0).map (fun x => (x.2, x.1)) := by rw [Array.toList_map]; exact r2
  rcases Nat.eq_zero_or_pos len with h0 | h0
  · subst h0
    have hp : parts = #[] := by
      apply Array.eq_empty_of_size_eq_zero
      simpa using hl
    subst hp
    refine ⟨#[], ?_, by simp, fun i hi => absurd hi (Nat.not_lt_zero _)⟩
    simp [Instr.buildSlice, run_underlying hku, sizeOf, typeInfo, i1, i2, Instr.fill, newRow, Array.range_zero']
  · have hpos : 0 < len * ei.size := Nat.mul_pos h0 (by omega)
    have hcell : ∀ k, k < len → ∃ p, parts.toList[k]? = some p ∧ ((nth rows k).getD ei.zero) = cellsT (rho E s.T e p.2) ∧ (cellsT (rho E s.T e p.2)).length = ei.size ∧ (cellsT (rho E s.T e p.2)).all noloc1 = true ∧ RVs S w ℓ (cellsT (rho E s.T e p.2)) (a.eval p.2).cells.toList := by
      intro k hk'
      have hkr : k < rows.length := by omega
      obtain ⟨q1, p, q2, q3, q4, q5⟩ := r3 k _ (List.getElem?_eq_getElem hkr)
      refine ⟨p, q2, by rw [nth_eq, List.getElem?_eq_getElem hkr, q3]; rfl, by rw [← q3]; exact q1, by rw [← q3]; exact q4, whole_cells (hR.ev (E := E) e p.2) q5⟩
    have hvs : ∀ v ∈ parts.toList.map (fun p => a.eval p.2), v.cells.size = ei.size := by
      intro v hv
      obtain ⟨k, hk', rfl⟩ := List.mem_iff_getElem.1 hv
      have hk : k < len := by simpa [hl] using hk'
      obtain ⟨p, q1, _, q3, _, q5⟩ := hcell k hk
      have := q5.1
      have hg : parts.toList[k]'(by omega) = p := by
        have := List.getElem?_eq_getElem (l := parts.toList) (i := k) (by omega)
        rw [this] at q1; exact Option.some.inj q1
      simp only [List.getElem_map, hg]
      simp at this; omega
    obtain ⟨c, f1, f2, f3⟩ := Great.fill_dense (s := ei.size) (by omega) (parts.toList.map fun p => a.eval p.2) 0 ((Array.range (len * ei.size)).map (z.cells[· % z.cells.size]!)) hvs (by simp [hl])
    refine ⟨c, run_buildSlice w ty e len _ c inf z hku i1 i4 (by rw [i2]; omega) (by rw [i2]; omega) (by rw [i2, hpl]; exact f1), by rw [f2]; simp, fun i hi => ?_⟩
    obtain ⟨p, q1, q2, q3, q4, q5⟩ := hcell i hi
    rw [q2]
    refine ⟨q3, fun j t htj => ?_⟩
    have hj : j < ei.size := by rw [← q3]; exact (List.getElem?_eq_some_iff.1 htj).1
    have hjv : j < (a.eval p.2).cells.size := by have := q5.1; simp at this; omega
    refine ⟨(a.eval p.2).cells[j], ?_, (q5.2 j t _ htj (by simp [hjv])).noloc1 (all_get q4 htj) no⟩
    rw [f3, if_pos ⟨by omega, by simp only [List.length_map, hl, Nat.zero_add]; exact row_lt hi hj⟩, (div_row hj).1, (div_row hj).2]
    simp [q1, hjv]
theorem evL_ok {R : Type} (hE : EnvOk P E) {ch : FuncId → List TV → Heap → Option (TV × Heap)} (hch : HeapOk P ch) {f : FuncId} {o : Oper} {s : St} {K : TV → Loc → Heap → Option R} {r : R} (h : evL E ch f o s.T s.L s.H K = some r) :
    ∃ t L' H', K t L' H' = some r ∧ ∀ (S : Shd) (ℓ : Lm) (a : Act) (w : World), Rel S ℓ s a w → Gives P o a w (Φl S ℓ L' H' w t) := by
  unfold evL at h
  cases hop : o.op <;> simp only [hop] at h <;> try (cases h; done)
  case alloc ty =>
    split at h
    · rename_i i hi
      obtain ⟨t, L', H', hK, hh⟩ := newVar_ok h
      obtain ⟨inf, z, i1, i2, i3, i4, i5, i6, i7⟩ := zero_rv (hE.ti ty i hi)
      exact ⟨t, L', H', hK, fun S ℓ a w hR => .value (by simp only [execOp, hop, Instr.alloc, Sem.run_bind, zeros_run i1 i4, Result.andThen_ok, newVar, newRow, run_newObj, Sem.run_pure]; rfl) (hh S ℓ w z.cells ty hR.hr (i5 S w ℓ))⟩
    · cases h
  case box ty x =>
    split at h
    · obtain ⟨t, L', H', hK, hh⟩ := newVar_ok h
      rename_i hwh
      exact ⟨t, L', H', hK, fun S ℓ a w hR => .value (by simp only [execOp, hop, Instr.box, Sem.run_bind, newVar, newRow, run_newObj, Result.andThen_ok, Sem.run_pure]; rfl) (hh S ℓ w (a.eval x).cells ty hR.hr (whole_cells (hR.ev ty x) hwh))⟩
    · cases h
  case store ty p x =>
    obtain ⟨L', H', hK, hh⟩ := store_ok hE h
    refine ⟨_, L', H', hK, fun S ℓ a w hR => ?_⟩
    obtain ⟨w', h1, h2, h3⟩ := hh S ℓ w _ _ hR.hr (hR.ev 0 p) (hR.ev ty x)
    exact .skip (by simp only [execOp, hop]; rw [Sem.run_bind, h1]; rfl) ⟨S, ℓ, Ext.refl S, h2, fun _ _ e => e, h3, rv_tup .nil⟩
  case makeSlice ty l c =>
    split at h
    · rename_i e k1 l' k2 c' hti hl hc
      split at h
      · rename_i ei hei
        obtain ⟨hb, h⟩ := ck_some h
        split at h
        · rename_i hz
          refine ⟨_, _, _, h, fun S ℓ a w hR => ?_⟩
          have h1 := hR.ev (E := E) 0 l
          have h2 := hR.ev (E := E) 0 c
          rw [hl] at h1; rw [hc] at h2
          obtain ⟨v, w', hrun, hp⟩ := make_ok (P := P) hE hti rfl hei hb hz (k1 := k1) (k2 := k2) hR.hr
          exact .value (by simp only [execOp, hop, int_inv h1, int_inv h2]; rw [Sem.run_bind, hrun]; rfl) hp
        · cases h
      · cases h
    · cases h
  case buildSlice ty len parts =>
    split at h
    · rename_i e hti
      split at h
      · rename_i ei hei
        split at h
        · rename_i rows hlen hsm hrows
          rw [Bool.and_eq_true] at hlen
          have hl : parts.toList.length = len := Nat.eq_of_beq_eq_true hlen.1
          have h1 : 1 ≤ ei.size := Nat.le_of_ble_eq_true hlen.2
          split at h
          · refine ⟨_, _, _, h, fun S ℓ a w hR => ?_⟩
            obtain ⟨c, hrun, hsz, hc⟩ := build_ok hE hR hti rfl hei hl h1 (Nat.le_of_ble_eq_true hsm) hrows
            refine .value (by simp only [execOp, hop]; rw [Sem.run_bind, hrun]; rfl) ?_
            obtain ⟨a1, a2⟩ := app_at (H := s.H) (o := { sz := ei.size, gen := 0, n := len, f := fun i => (nth rows i).getD ei.zero })
            obtain ⟨b1, b2, b3⟩ := hR.hr.new_own (w1 := w) (Below.refl _ _) rfl (c := c) (e := e) (id := s.H.length) (cap := len) a1 a2 (fun o' ho' => by simp at ho') (Nat.le_refl _) hsz hc
            exact ⟨_, ℓ, b1, b2, fun _ _ e => e, b3, .own _ s.H.length 0 0 len _ 0 (by simp [Shd.add]) (Nat.le_refl _) ⟨_, _, rfl⟩ fun _ => ⟨_, _, rfl, by simp [Shd.add], rfl, by simp [Shd.add], Nat.le_refl _, by simp⟩⟩
          · refine ⟨_, _, _, h, fun S ℓ a w hR => ?_⟩
            obtain ⟨c, hrun, hsz, hc⟩ := build_ok hE hR hti rfl hei hl h1 (Nat.le_of_ble_eq_true hsm) hrows
            refine .value (by simp only [execOp, hop]; rw [Sem.run_bind, hrun]; rfl) ?_
            have hb : Below w.heap.size w (w.alloc (.cells c e)) := (Below.refl _ _).alloc (Nat.le_refl _) _
            have hst := Step.of_below hR.hr hb
            refine ⟨S.grow w.heap.size (w.alloc (.cells c e)).heap.size, ℓ, S.grow_ext _ _, hst, fun _ _ e => e, hR.hr.grow hb, ?_⟩
            have hcell : ∀ k, (w.alloc (.cells c e)).cell? ⟨w.heap.size, k, none⟩ = c[k]? := fun k => cell_of_obj (alloc_at w _) k
            refine .lst ℓ true true true ei.size len _ ⟨w.heap.size, 0, none⟩ len (fun i j => (c[i * ei.size + j]?).getD undef) (Nat.le_refl _) (fun _ => rfl) (fun _ => ⟨.inr ⟨Nat.le_refl _, by simp⟩, rfl, fun _ => hR.hr.base⟩) (fun i hi => (hc i hi).1) (fun i j t hi htj => ?_) (fun i j t hi htj => ?_)
            · obtain ⟨v, hv, _⟩ := (hc i hi).2 j t htj
              simp [hcell, hv]
            · obtain ⟨v, hv, hr⟩ := (hc i hi).2 j t htj
              simp only [hv, Option.getD_some]
              exact hr.mono (S.grow_ext _ _) hst.imm no fun _ _ e => e
        · cases h
      · cases h
    · cases h
  case call c =>
    cases hc : c.callee with
    | invoke x m => simp only [hc] at h; cases h
    | value x =>
      simp only [hc] at h
      split at h
      · rename_i g caps hf
        split at h
        · rename_i hn
          obtain ⟨r', h1, h2⟩ := bnd_some h
          exact ⟨_, _, _, h2, fun S ℓ a w hR => gives_heap hch hop hc hf hn h1 hR⟩
        · cases h
      · cases h
    | builtin b =>
      simp only [hc] at h
      cases b <;> simp only at h <;> try (cases h; done)
      split at h
      · rename_i ty ty2 sx x hts hxs
        split at h
        · rename_i e hbeq hti
          have hty : ty2 = ty := (Nat.eq_of_beq_eq_true hbeq).symm
          subst hty
          obtain ⟨t, H', hK, hh⟩ := append_ok (P := P) hE hti rfl h
          refine ⟨t, s.L, H', hK, fun S ℓ a w hR => ?_⟩
          have hargs := args_rv (E := E) hR c.args.toList c.argTypes.toList
          rw [hxs] at hargs
          cases hl : c.args.toList.map a.eval with
          | nil => rw [hl] at hargs; have := hargs.1; simp at this
          | cons v1 vs =>
            cases vs with
            | nil => rw [hl] at hargs; have := hargs.1; simp at this
            | cons v2 vs =>
              rw [hl] at hargs
              have hvs : vs = [] := by
                have h0 := hargs.1
                simp only [List.length_cons, List.length_nil] at h0
                exact List.length_eq_zero_iff.1 (by omega)
              subst hvs
              obtain ⟨v, w', hrun, hp⟩ := hh S ℓ s.L w v1 v2 o.type hR.hr (hargs.2 0 sx v1 (by simp) (by simp)) (hargs.2 1 x v2 (by simp) (by simp))
              have hat : c.argTypes = #[ty2, ty2] := by apply Array.toList_inj.1; rw [hts]
              have har : c.args.map a.eval = #[v1, v2] := by apply Array.toList_inj.1; rw [Array.toList_map, hl]
              refine .value (v := v) (w' := w') ?_ hp
              simp only [execOp, hop, resolve, hc, Sem.run_bind, Sem.run_pure, Result.andThen_ok, invoke, builtin, har, hat, hrun]
        · cases h
      · cases h
end
end Go.Proofs.YtbdkjkedjldheaaTv
