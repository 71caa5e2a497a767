/- An evaluator of the program's code over trees: slices of slices, arguments, results. Conditions: none. -/
import Derived.Test.YtbdkjkedjldheaaKvE
namespace Go.Proofs.YtbdkjkedjldheaaTv
set_option linter.unusedVariables false
set_option linter.unusedSimpArgs false
set_option linter.unnecessarySimpa false
open Go Go.RowKit
section
variable {P : Program} {E : Env}
theorem shf_eq (lo : Nat) (f : Nat → List TV) (i : Nat) : shf lo f i = f (lo + i) := by
  cases lo with
  | zero => simp [shf]
  | succ lo => rfl
def ORV (S : Shd) (w : World) (ℓ : Lm) : Option TV → Option Value → Prop
  | none, none => True
  | some t, some v => RV S w ℓ t v
  | _, _ => False
theorem bound_ok {R : Type} {n : Nat} {x : Option TV} {dflt : Nat} {K : Nat → Option R} {r : R} (h : boundK n x dflt K = some r) :
    ∃ h', K h' = some r ∧ ((x = none ∧ h' = dflt) ∨ ∃ k i, x = some (.int k i) ∧ 0 ≤ i ∧ i ≤ n ∧ h' = i.toNat) := by
  unfold boundK at h
  split at h
  · exact ⟨_, h, .inl ⟨rfl, rfl⟩⟩
  · obtain ⟨hb, h⟩ := ck_some h
    exact ⟨_, h, .inr ⟨_, _, rfl, hb.1, hb.2, rfl⟩⟩
  · cases h
theorem sliceBounds_run {S : Shd} {ℓ : Lm} {w : World} (isS : Bool) {n cap : Nat} (hc : n ≤ cap) {hi lo : Option TV} {vhi vlo : Option Value} {h l : Nat}
    (hh : (hi = none ∧ h = n) ∨ ∃ k i, hi = some (.int k i) ∧ 0 ≤ i ∧ i ≤ n ∧ h = i.toNat) (hl : (lo = none ∧ l = 0) ∨ ∃ k i, lo = some (.int k i) ∧ 0 ≤ i ∧ i ≤ (h : Nat) ∧ l = i.toNat)
    (rh : ORV S w ℓ hi vhi) (rl : ORV S w ℓ lo vlo) : (Instr.sliceBounds isS n cap vlo vhi none).run P w = .ok (l, h, cap) w ∧ l ≤ h ∧ h ≤ n := by
  have e1 : h ≤ n := by rcases hh with ⟨_, rfl⟩ | ⟨k, i, _, h0, h1, rfl⟩ <;> omega
  have e2 : l ≤ h := by rcases hl with ⟨_, rfl⟩ | ⟨k, i, _, h0, h1, rfl⟩ <;> omega
  refine ⟨?_, e2, e1⟩
  unfold Instr.sliceBounds
  rcases hh with ⟨rfl, rfl⟩ | ⟨k, i, rfl, h0, h1, rfl⟩
  · cases vhi with
    | some v => exact rh.elim
    | none =>
      rcases hl with ⟨rfl, rfl⟩ | ⟨k, i, rfl, h0, h1, rfl⟩
      · cases vlo with
        | some v => exact rl.elim
        | none => simp
      · cases vlo with
        | none => exact rl.elim
        | some v =>
          obtain rfl := int_inv (show RV S w ℓ (.int k i) v from rl)
          simp [Instr.sliceBound, asIntOf, h0, h1]
  · cases vhi with
    | none => exact rh.elim
    | some v =>
      obtain rfl := int_inv (show RV S w ℓ (.int k i) v from rh)
      have h2 : i ≤ (cap : Int) := by omega
      rcases hl with ⟨rfl, rfl⟩ | ⟨k', i', rfl, h0', h1', rfl⟩
      · cases vlo with
        | some v => exact rl.elim
        | none => simp [Instr.sliceBound, asIntOf, h0, h2]
      · cases vlo with
        | none => exact rl.elim
        | some v =>
          obtain rfl := int_inv (show RV S w ℓ (.int k' i') v from rl)
          have h3 : i' ≤ i := by omega
          have h4 : i' ≤ max i 0 := by omega
          simp [Instr.sliceBound, asIntOf, h0, h2, h0', h3, h4]
theorem slice_ok {R : Type} (hE : EnvOk P E) {H : Heap} {ty : TypeId} {x : TV} {lo hi : Option TV} {K : TV → Option R} {r : R} (h : sliceK E ty x H lo hi K = some r) :
    ∃ t, K t = some r ∧ ∀ (S : Shd) (ℓ : Lm) (L : Loc) (w : World) (vx : Value) (vlo vhi : Option Value), HR S ℓ L H w → RV S w ℓ x vx → ORV S w ℓ lo vlo → ORV S w ℓ hi vhi →
      ∃ v, (Instr.sliceAt ty vx vlo vhi none).run P w = .ok v w ∧ RV S w ℓ t v := by
  unfold sliceK at h
  split at h
  · rename_i hti
    have hk := (hE.ti ty _ hti).kind
    simp only [KOk] at hk
    split at h
    · rename_i s
      obtain ⟨h', h, hh⟩ := bound_ok h
      obtain ⟨l', h, hl⟩ := bound_ok h
      refine ⟨_, h, fun S ℓ L w vx vlo vhi hR hx rl rh => ?_⟩
      obtain rfl := str_inv hx
      obtain ⟨e, _, _⟩ := sliceBounds_run (P := P) (w := w) false (Nat.le_refl _) hh hl rh rl
      refine ⟨_, ?_, .str ..⟩
      unfold Instr.sliceAt
      simp only [Sem.run_bind, run_underlying hk, Result.andThen_ok]
      unfold Instr.slice
      simp only [Sem.run_bind, run_underlying hk, Result.andThen_ok, Option.isSome_none, Bool.false_eq_true, if_false, Sem.run_pure, e]
    · cases h
  · rename_i e hti
    have hk := (hE.ti ty _ hti).kind
    simp only [KOk] at hk
    split at h
    · cases h
    rename_i ei hei
    have hsz : ∀ w, (sizeOf e).run P w = .ok ei.size w := fun w => run_sizeOf (hE.ti e ei hei)
    have run : ∀ (w : World) (a : Option Addr) (n cap l' h' : Nat) (vlo vhi : Option Value), (Instr.sliceBounds true n cap vlo vhi none).run P w = .ok (l', h', cap) w →
        (Instr.sliceAt ty (.slice a n cap) vlo vhi none).run P w = .ok (.slice (if cap = l' then a else a.map (·.add (l' * ei.size))) (h' - l') (cap - l')) w := by
      intro w a n cap l' h' vlo vhi hb
      unfold Instr.sliceAt
      simp only [Sem.run_bind, run_underlying hk, Result.andThen_ok]
      unfold Instr.slice
      simp only [Sem.run_bind, run_underlying hk, Result.andThen_ok, hb, hsz, Sem.run_pure]
    split at h
    · rename_i fr ex nn sz n f
      obtain ⟨hs, h⟩ := ck_some h
      obtain ⟨h', h, hh⟩ := bound_ok h
      obtain ⟨l', h, hl⟩ := bound_ok h
      refine ⟨_, h, fun S ℓ L w vx vlo vhi hR hx rl rh => ?_⟩
      obtain ⟨a, cap, rfl, h1, _, _, h2, h3⟩ := lst_inv hx
      obtain ⟨eb, e1, e2⟩ := sliceBounds_run (P := P) (w := w) true h1 hh hl rh rl
      refine ⟨_, run w a n cap l' h' vlo vhi eb, ?_⟩
      refine lst_mk ℓ fr (by omega) (fun hn => ?_) (fun h0 => ?_)
      · have ha : a = none := by
          split at hn
          · exact hn
          · simpa using hn
        obtain ⟨rfl, rfl⟩ := h2 ha
        omega
      · obtain ⟨b, rfl, h4, h5, h6, h7⟩ := h3 (by omega)
        rw [if_neg (by omega)]
        refine ⟨b.add (l' * ei.size), rfl, ?_, ?_, ?_, fun i hi => ?_⟩
        · rw [add_none b _ h5]; exact h4
        · rw [add_none b _ h5]
        · rw [add_none b _ h5]; exact h6
        · rw [shf_eq, add_none b _ h5, ← hs]
          obtain ⟨h8, h9⟩ := h7 (l' + i) (by omega)
          refine ⟨h8, fun j t ht => ?_⟩
          obtain ⟨y, hy, hr⟩ := h9 j t ht
          exact ⟨y, by rw [← hy]; simp only [Nat.add_mul, Nat.add_assoc], hr⟩
    · rename_i id g a0 n
      split at h
      · rename_i o ho
        rw [nth_eq] at ho
        obtain ⟨⟨hg, hs⟩, h⟩ := ck_some h
        obtain ⟨h', h, hh⟩ := bound_ok h
        obtain ⟨l', h, hl⟩ := bound_ok h
        have hown : ∀ (S : Shd) (ℓ : Lm) (L : Loc) (w : World) (vx : Value), HR S ℓ L H w → RV S w ℓ (.own id g a0 n) vx → S.gen id = some g ∧ S.sz id = o.sz ∧ ∃ a cap, vx = .slice (some a) n cap ∧ a.block = S.blk id ∧ a.spot = none ∧ a0 + cap = S.cap id ∧ n ≤ cap ∧ a.off = a0 * S.sz id := by
          intro S ℓ L w vx hR hx
          obtain ⟨l, a1, a2, a3⟩ := own_inv hx
          have hgl := hR.gen_eq ho
          rw [a1] at hgl; cases hgl
          exact ⟨by rw [a1, hg], (hR.blk id o ho).2.2.2.1, a3 hg.symm⟩
        split at h
        · refine ⟨_, h, fun S ℓ L w vx vlo vhi hR hx rl rh => ?_⟩
          obtain ⟨hgen, hsz', a, cap, rfl, b1, b2, b3, b4, b5⟩ := hown S ℓ L w vx hR hx
          obtain ⟨eb, e1, e2⟩ := sliceBounds_run (P := P) (w := w) true b4 hh hl rh rl
          refine ⟨_, run w (some a) n cap _ h' vlo vhi eb, .own _ id g a0 h' _ g hgen (Nat.le_refl _) ⟨_, _, rfl⟩ fun _ => ?_⟩
          refine ⟨a, cap, ?_, b1, b2, b3, by omega, b5⟩
          have : a.add 0 = a := by simp [Addr.add]
          simp [this]
        · rename_i hl0
          split at h
          · rename_i hlt
            refine ⟨_, h, fun S ℓ L w vx vlo vhi hR hx rl rh => ?_⟩
            obtain ⟨hgen, hsz', a, cap, rfl, b1, b2, b3, b4, b5⟩ := hown S ℓ L w vx hR hx
            obtain ⟨eb, e1, e2⟩ := sliceBounds_run (P := P) (w := w) true b4 hh hl rh rl
            refine ⟨_, run w (some a) n cap _ h' vlo vhi eb, .own _ id g (a0 + l') (h' - l') _ g hgen (Nat.le_refl _) ⟨_, _, rfl⟩ fun _ => ?_⟩
            rw [if_neg (by omega)]
            refine ⟨a.add (l' * ei.size), cap - l', rfl, by rw [add_none a _ b2]; exact b1, by rw [add_none a _ b2], by omega, by omega, ?_⟩
            rw [add_none a _ b2, b5, hsz', hs, Nat.add_mul]
          · refine ⟨_, h, fun S ℓ L w vx vlo vhi hR hx rl rh => ?_⟩
            obtain ⟨hgen, hsz', a, cap, rfl, b1, b2, b3, b4, b5⟩ := hown S ℓ L w vx hR hx
            obtain ⟨eb, e1, e2⟩ := sliceBounds_run (P := P) (w := w) true b4 hh hl rh rl
            refine ⟨_, run w (some a) n cap _ h' vlo vhi eb, ?_⟩
            rw [show h' - l' = 0 by omega]
            refine lst_mk ℓ false (by omega) (fun hn => ?_) (fun h0 => by omega)
            split at hn <;> simp at hn
      · cases h
    · cases h
  · cases h
/-- All that there is, as an argument's memory. -/
def Shd.all (w : World) : Shd := { base := w.heap.size, imm := fun b => b < w.heap.size, kept := fun _ => False, gen := fun _ => none, blk := fun _ => 0, cap := fun _ => 0, sz := fun _ => 0 }
theorem map_get {g : TV → TV} {cs : List TV} {i : Nat} {t : TV} (h : (cs.map g)[i]? = some t) : ∃ t0, cs[i]? = some t0 ∧ t = g t0 := by
  rw [List.getElem?_map, Option.map_eq_some_iff] at h
  obtain ⟨t0, h1, h2⟩ := h
  exact ⟨t0, h1, h2.symm⟩
theorem RVs.map {S S' : Shd} {w w' : World} {ℓ ℓ' : Lm} {g : TV → TV} {ts : List TV} {vs : List Value} (h : RVs S w ℓ ts vs) (hg : ∀ t v, RV S w ℓ t v → RV S' w' ℓ' (g t) v) : RVs S' w' ℓ' (ts.map g) vs :=
  ⟨by simp [h.1], fun i t v a b => by obtain ⟨t0, h1, rfl⟩ := map_get a; exact hg t0 v (h.2 i t0 v h1 b)⟩
theorem pimm_mk {S : Shd} {w : World} (ℓ : Lm) {row : List TV} (off : Nat) {b o : Nat} (hi : S.imm b) (hc : ∀ (j : Nat) (t : TV), row[j]? = some t → ∃ v, w.cell? ⟨b, o + j, none⟩ = some v ∧ RV S w no t v) :
    RV S w ℓ (.pimm row off) (.pointer (some ⟨b, o + off, none⟩)) :=
  .pimm ℓ row off b o (fun j => (w.cell? ⟨b, o + j, none⟩).getD undef) hi (fun j t ht => by obtain ⟨v, hv, _⟩ := hc j t ht; simp [hv]) (fun j t ht => by obtain ⟨v, hv, hr⟩ := hc j t ht; simpa [hv] using hr)
/-- What is handed on, as the callee sees it. -/
theorem frz_ok {S : Shd} {ℓ : Lm} {L : Loc} {H : Heap} {w : World} (hR : HR S ℓ L H w) : ∀ (d : Nat) (t : TV) (v : Value), RV S w ℓ t v → RV (Shd.all w) w no (frz L H d t) v := by
  intro d
  induction d with
  | zero => intro t v h; exact .undef ..
  | succ d ih =>
    have ihn : ∀ t v, RV S w no t v → RV (Shd.all w) w no (frz L H d t) v := fun t v h => ih t v (h.up ℓ)
    intro t v h
    cases t with
    | undef => exact .undef ..
    | int k n => obtain rfl := int_inv h; exact .int ..
    | bool b => obtain rfl := bool_inv h; exact .bool ..
    | str s => obtain rfl := str_inv h; exact .str ..
    | agg cs => obtain ⟨vs, rfl, hv⟩ := agg_inv h; exact rv_agg (hv.map ih)
    | tup cs => obtain ⟨vs, rfl, hv⟩ := tup_inv h; exact rv_tup (hv.map ih)
    | fn f cs => obtain ⟨vs, rfl, hv⟩ := fn_inv h; exact rv_fn (hv.map ih)
    | pnil => cases h; exact .pnil _
    | lst fr ex nn sz n f =>
      obtain ⟨a, cap, rfl, h1, _, _, h2, h3⟩ := lst_inv h
      refine lst_mk _ false h1 h2 fun h0 => ?_
      obtain ⟨b, rfl, h4, h5, _, h6⟩ := h3 h0
      refine ⟨b, rfl, hR.imm _ h4, h5, (fun h => by cases h), fun i hi => ?_⟩
      obtain ⟨h7, h8⟩ := h6 i hi
      refine ⟨by simpa using h7, fun j t ht => ?_⟩
      obtain ⟨t0, ht0, rfl⟩ := map_get ht
      obtain ⟨x, hx, hr⟩ := h8 j t0 ht0
      exact ⟨x, hx, ihn t0 x hr⟩
    | own id g lo n =>
      unfold frz
      simp only
      split
      · rename_i o ho
        rw [nth_eq] at ho
        split
        · rename_i hd
          obtain ⟨hg, hn⟩ := of_decide_eq_true hd
          obtain ⟨l, a1, a2, a3⟩ := own_inv h
          rw [hR.gen_eq ho] at a1; cases a1
          obtain ⟨a, cap, rfl, b1, b2, b3, b4, b5⟩ := a3 hg.symm
          obtain ⟨_, _, _, c4, c5, c6⟩ := hR.blk id o ho
          refine lst_mk _ false b4 (fun h => by cases h) fun h0 => ⟨a, rfl, ?_, b2, (fun h => by cases h), fun i hi => ?_⟩
          · rw [b1]; exact c6.lt
          · rw [shf_eq]
            obtain ⟨c, e, h1, h2, h3⟩ := c6
            refine ⟨by simpa using (h3 (lo + i) (by omega)).1, fun j t ht => ?_⟩
            obtain ⟨t0, ht0, rfl⟩ := map_get ht
            obtain ⟨x, hx, hr⟩ := (h3 (lo + i) (by omega)).2 j t0 ht0
            refine ⟨x, ?_, ihn t0 x hr⟩
            rw [b1, cell_of_obj h1, b5, c4, ← hx]
            simp only [Nat.add_mul]
        · exact .undef ..
      · exact .undef ..
    | pimm row off =>
      obtain ⟨b, o, rfl, hi, hc⟩ := row_pimm h
      refine pimm_mk _ off (hR.imm _ hi) fun j t ht => ?_
      obtain ⟨t0, ht0, rfl⟩ := map_get ht
      obtain ⟨x, hx, hr⟩ := hc j t0 ht0
      exact ⟨x, hx, ihn t0 x hr⟩
    | ploc s off =>
      unfold frz
      simp only
      split
      · rename_i row hL
        rw [nth_eq] at hL
        obtain ⟨b, hb, rfl⟩ := ploc_inv h
        have := pimm_mk (S := Shd.all w) (w := w) no (row := row.map (frz L H d)) off (b := b) (o := 0) (by
          obtain ⟨row', _, _, _, _, hr⟩ := hR.loc s b hb; exact hr.lt) fun j t ht => by
            obtain ⟨t0, ht0, rfl⟩ := map_get ht
            obtain ⟨x, hx, hr⟩ := hR.row hb hL j t0 ht0
            exact ⟨x, hx, ihn t0 x hr⟩
        simpa using this
      · exact .undef ..
    | pown id g r off =>
      unfold frz
      simp only
      split
      · rename_i o ho
        rw [nth_eq] at ho
        split
        · rename_i hd
          obtain ⟨hg, hn⟩ := of_decide_eq_true hd
          obtain ⟨_, l, a1, a2, a3⟩ := pown_inv h
          rw [hR.gen_eq ho] at a1; cases a1
          obtain rfl := a3 hg.symm
          refine pimm_mk _ off ?_ fun j t ht => ?_
          · exact (hR.blk id o ho).2.2.2.2.2.lt
          · obtain ⟨t0, ht0, rfl⟩ := map_get ht
            obtain ⟨x, hx, hr⟩ := hR.orow ho hn j t0 ht0
            exact ⟨x, hx, ihn t0 x hr⟩
        · exact .undef ..
      · exact .undef ..
/-- What is handed back, as the caller sees it. -/
theorem ret_ok {S S0 : Shd} {ℓ : Lm} {L : Loc} {H : Heap} {w : World} (hR : HR S ℓ L H w) (h0 : S0.base ≤ S.base) : ∀ (d : Nat) (t : TV) (v : Value), RV S w no t v → RV (S0.grow S.base w.heap.size) w no (ret H d t) v := by
  intro d
  induction d with
  | zero => intro t v h; exact .undef ..
  | succ d ih =>
    intro t v h
    cases t with
    | undef => exact .undef ..
    | int k n => obtain rfl := int_inv h; exact .int ..
    | bool b => obtain rfl := bool_inv h; exact .bool ..
    | str s => obtain rfl := str_inv h; exact .str ..
    | agg cs => obtain ⟨vs, rfl, hv⟩ := agg_inv h; exact rv_agg (hv.map ih)
    | tup cs => obtain ⟨vs, rfl, hv⟩ := tup_inv h; exact rv_tup (hv.map ih)
    | fn f cs => exact .undef ..
    | pnil => cases h; exact .pnil _
    | pimm row off => exact .undef ..
    | ploc s off => exact .undef ..
    | pown id g r off => exact .undef ..
    | lst fr ex nn sz n f =>
      cases fr with
      | false => exact .undef ..
      | true =>
        obtain ⟨a, cap, rfl, h1, _, _, h2, h3⟩ := lst_inv h
        refine lst_mk _ true h1 h2 fun h0' => ?_
        obtain ⟨b, rfl, h4, h5, h5', h6⟩ := h3 h0'
        refine ⟨b, rfl, .inr ⟨h5' rfl, hR.imm _ h4⟩, h5, fun _ => Nat.le_trans h0 (h5' rfl), fun i hi => ?_⟩
        obtain ⟨h7, h8⟩ := h6 i hi
        refine ⟨by simpa using h7, fun j t ht => ?_⟩
        obtain ⟨t0, ht0, rfl⟩ := map_get ht
        obtain ⟨x, hx, hr⟩ := h8 j t0 ht0
        exact ⟨x, hx, ih t0 x hr⟩
    | own id g lo n =>
      unfold ret
      simp only
      split
      · rename_i o ho
        rw [nth_eq] at ho
        split
        · rename_i hd
          obtain ⟨hg, hn⟩ := of_decide_eq_true hd
          obtain ⟨l, a1, a2, a3⟩ := own_inv h
          rw [hR.gen_eq ho] at a1; cases a1
          obtain ⟨a, cap, rfl, b1, b2, b3, b4, b5⟩ := a3 hg.symm
          obtain ⟨c1, _, _, c4, c5, c6⟩ := hR.blk id o ho
          refine lst_mk _ true b4 (fun h => by cases h) fun h0' => ⟨a, rfl, ?_, b2, fun _ => by rw [b1]; exact Nat.le_trans h0 c1, fun i hi => ?_⟩
          · rw [b1]; exact .inr ⟨c1, c6.lt⟩
          · rw [shf_eq]
            obtain ⟨c, e, h1, h2, h3⟩ := c6
            refine ⟨by simpa using (h3 (lo + i) (by omega)).1, fun j t ht => ?_⟩
            obtain ⟨t0, ht0, rfl⟩ := map_get ht
            obtain ⟨x, hx, hr⟩ := (h3 (lo + i) (by omega)).2 j t0 ht0
            refine ⟨x, ?_, ih t0 x hr⟩
            rw [b1, cell_of_obj h1, b5, c4, ← hx]
            simp only [Nat.add_mul]
        · exact .undef ..
      · exact .undef ..
end
end Go.Proofs.YtbdkjkedjldheaaTv
