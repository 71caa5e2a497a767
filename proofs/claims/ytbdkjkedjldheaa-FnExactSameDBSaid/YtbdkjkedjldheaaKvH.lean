/- An evaluator of the program's code over trees: memory that is made and written. Conditions: none. -/
import Derived.Test.YtbdkjkedjldheaaKvG
namespace Go.Proofs.YtbdkjkedjldheaaTv
set_option linter.unusedVariables false
set_option linter.unusedSimpArgs false
set_option linter.unnecessarySimpa false
open Go Go.RowKit
section
variable {P : Program} {E : Env}
theorem solid_one {S : Shd} {w : World} {ℓ : Lm} {t : TV} {v : Value} (h : RV S w ℓ t v) (hs : solid t = true) : v.oneCell' = true := by
  cases h <;> simp [solid] at hs <;> try rfl
  · rename_i hp _; obtain ⟨a, cap, rfl⟩ := hp; rfl
  · rename_i hp _; obtain ⟨b, o, rfl⟩ := hp; rfl
theorem solid_noloc {t : TV} (h : solid t = true) : noloc1 t = true := by cases t <;> simp [solid, noloc1] at *
/-- w' is w but for block b, which holds c'. -/
structure Wr (b : Nat) (c' : Array Value) (e : TypeId) (w w' : World) : Prop where
  os : w'.os = w.os
  tape : w'.tape = w.tape
  output : w'.output = w.output
  size : w'.heap.size = w.heap.size
  at_ : w'.heap[b]? = some (.cells c' e (0, 0))
  other : ∀ k, k ≠ b → w'.heap[k]? = w.heap[k]?
theorem setCell_wr {w : World} {b o : Nat} {c : Array Value} {e : TypeId} (h : w.heap[b]? = some (.cells c e (0, 0))) (v : Value) : Wr b (c.setIfInBounds o v) e w (w.setCell ⟨b, o, none⟩ v) := by
  refine ⟨rfl, rfl, rfl, by simp [World.setCell], ?_, fun k hk => Below.heap_setCell w ⟨b, o, none⟩ v k hk⟩
  simp only [World.setCell, Array.getElem?_modify]
  simp [h]
theorem store_run {w : World} {b o : Nat} {c : Array Value} {e : TypeId} (h : w.heap[b]? = some (.cells c e (0, 0))) (ho : o < c.size) {v : Value} (hv : v.oneCell' = true) :
    (store ⟨b, o, none⟩ v).run P w = .ok () (w.setCell ⟨b, o, none⟩ v) := by
  rw [run_store P w _ v _ hv]
  have hc : w.cell? ⟨b, o, none⟩ = some c[o] := by rw [cell_of_obj h]; simp [ho]
  have hf : w.frozen? ⟨b, o, none⟩ = false := by simp [World.frozen?, h]
  rw [hc]
  simp [hf]
theorem storeCells_run : ∀ (vs : List Value) (i : Nat) (w : World) (b o : Nat) (c : Array Value) (e : TypeId), w.heap[b]? = some (.cells c e (0, 0)) → o + i + vs.length ≤ c.size → (∀ v ∈ vs, v.oneCell' = true) →
    ∃ w' c', (storeCells ⟨b, o, none⟩ vs i).run P w = .ok () w' ∧ Wr b c' e w w' ∧ c'.size = c.size ∧ ∀ j, c'[j]? = if o + i ≤ j ∧ j < o + i + vs.length then vs[j - (o + i)]? else c[j]?
  | [], i, w, b, o, c, e, h, hl, hv => ⟨w, c, rfl, ⟨rfl, rfl, rfl, rfl, h, fun _ _ => rfl⟩, rfl, fun j => by rw [if_neg (by simp only [List.length_nil]; omega)]⟩
  | v :: vs, i, w, b, o, c, e, h, hl, hv => by
    have hl' : o + i < c.size := by simp at hl; omega
    have h1 := store_run (P := P) (o := o + i) h hl' (hv v List.mem_cons_self)
    have h2 := setCell_wr (o := o + i) h v
    obtain ⟨w', c', h3, h4, h5, h6⟩ := storeCells_run vs (i + 1) (w.setCell ⟨b, o + i, none⟩ v) b o _ e h2.at_ (by simp at hl ⊢; omega) (fun x hx => hv x (List.mem_cons_of_mem _ hx))
    refine ⟨w', c', ?_, ⟨h4.os.trans h2.os, h4.tape.trans h2.tape, h4.output.trans h2.output, h4.size.trans h2.size, h4.at_, fun k hk => (h4.other k hk).trans (h2.other k hk)⟩, by simpa using h5, fun j => ?_⟩
    · simp only [storeCells, Sem.run_bind]
      rw [add_none ⟨b, o, none⟩ i rfl]
      simp only
      rw [h1]
      exact h3
    · rw [h6 j]
      by_cases hj : j = o + i
      · subst hj
        rw [if_neg (by omega), if_pos (by simp)]
        simp [hl']
      · by_cases hr : o + i ≤ j ∧ j < o + i + (v :: vs).length
        · rw [if_pos hr, if_pos (by simp at hr; omega)]
          obtain ⟨m, hm⟩ : ∃ m, j - (o + i) = m + 1 := ⟨j - (o + i) - 1, by omega⟩
          rw [hm, show j - (o + (i + 1)) = m by omega]
          simp
        · rw [if_neg hr, if_neg (by simp at hr; omega)]
          rw [Array.getElem?_setIfInBounds_ne (by omega)]
theorem storeVar_run {ty : TypeId} {i : TI} (hT : TIok P ty i) {w : World} {b o : Nat} {c : Array Value} {e : TypeId} (h : w.heap[b]? = some (.cells c e (0, 0))) {v : Value} (hs : v.cells.size = i.size) (hl : o + i.size ≤ c.size) (hv : ∀ x ∈ v.cells.toList, x.oneCell' = true) :
    ∃ w' c', (storeVar ty ⟨b, o, none⟩ v).run P w = .ok () w' ∧ Wr b c' e w w' ∧ c'.size = c.size ∧ ∀ j, c'[j]? = if o ≤ j ∧ j < o + i.size then v.cells[j - o]? else c[j]? := by
  obtain ⟨w', c', h1, h2, h3, h4⟩ := storeCells_run (P := P) v.cells.toList 0 w b o c e h (by simp [hs]; omega) hv
  refine ⟨w', c', ?_, h2, h3, fun j => ?_⟩
  · unfold storeVar
    simp only [Sem.run_bind, run_sizeOf hT, Result.andThen_ok]
    rw [Sem.run_ite, if_neg (by simpa using hs)]
    exact h1
  · rw [h4 j]
    simp [hs]
theorem put_spec : ∀ (l : List TV) (off : Nat) (bs r : List TV), put l off bs = some r → r.length = l.length ∧ off + bs.length ≤ l.length ∧ ∀ j, r[j]? = if off ≤ j ∧ j < off + bs.length then bs[j - off]? else l[j]?
  | l, 0, [], r, h => by
    have : put l 0 [] = some l := by cases l <;> rfl
    rw [this] at h; cases h
    exact ⟨rfl, by simp, fun j => by rw [if_neg (by simp only [List.length_nil]; omega)]⟩
  | a :: l, 0, b :: bs, r, h => by
    simp only [put, Option.map_eq_some_iff] at h
    obtain ⟨r', h', rfl⟩ := h
    obtain ⟨h1, h2, h3⟩ := put_spec l 0 bs r' h'
    refine ⟨by simp [h1], by simp at h2 ⊢; omega, fun j => ?_⟩
    cases j with
    | zero => simp
    | succ j => have := h3 j; simp at this ⊢; rw [this]
  | a :: l, off + 1, bs, r, h => by
    have h' : (put l off bs).map (a :: ·) = some r := by cases bs <;> simpa [put] using h
    simp only [Option.map_eq_some_iff] at h'
    obtain ⟨r', h', rfl⟩ := h'
    obtain ⟨h1, h2, h3⟩ := put_spec l off bs r' h'
    refine ⟨by simp [h1], by simp; omega, fun j => ?_⟩
    cases j with
    | zero => simp
    | succ j =>
      have := h3 j
      simp only [List.getElem?_cons_succ, this]
      by_cases hr : off ≤ j ∧ j < off + bs.length
      · rw [if_pos hr, if_pos (by omega), show j + 1 - (off + 1) = j - off by omega]
      · rw [if_neg hr, if_neg (by omega)]
  | [], _ + 1, _, r, h => by simp [put] at h
  | [], 0, _ :: _, r, h => by simp [put] at h
theorem Wr.step {S : Shd} {b : Nat} {c' : Array Value} {e : TypeId} {w w' : World} (h : Wr b c' e w w') (hb : S.base ≤ b) (hi : ¬ S.imm b) (hk : ¬ S.kept b) : Step S w w' :=
  ⟨⟨h.os, h.tape, h.output, by rw [h.size]; exact Nat.le_refl _, fun k hk => h.other k (by omega)⟩, fun k hk' => h.other k (fun e => hi (e ▸ hk')), fun k hk' => h.other k (fun e => hk (e ▸ hk'))⟩
theorem rvs_cells {S : Shd} {w : World} {ℓ : Lm} {t : TV} {v : Value} (h : RV S w ℓ t v) (hs : (cellsT t).all solid = true) : RVs S w no (cellsT t) v.cells.toList ∧ ∀ x ∈ v.cells.toList, x.oneCell' = true := by
  have key : ∀ (ts : List TV) (vs : List Value), RVs S w ℓ ts vs → ts.all solid = true → RVs S w no ts vs ∧ ∀ x ∈ vs, x.oneCell' = true := by
    intro ts vs hr ha
    refine ⟨⟨hr.1, fun i t v a b => (hr.2 i t v a b).noloc1 (solid_noloc (all_get ha a)) no⟩, fun x hx => ?_⟩
    obtain ⟨i, hi, rfl⟩ := List.mem_iff_getElem.1 hx
    have hi' : i < ts.length := by rw [hr.1]; exact hi
    exact solid_one (hr.2 i ts[i] _ (List.getElem?_eq_getElem hi') (List.getElem?_eq_getElem hi)) (all_get ha (List.getElem?_eq_getElem hi'))
  have single : solid t = true → cellsT t = [t] → RVs S w no (cellsT t) v.cells.toList ∧ ∀ x ∈ v.cells.toList, x.oneCell' = true := by
    intro h1 h2
    have hv := solid_one h h1
    have : v.cells.toList = [v] := by cases v <;> first | rfl | (simp [Value.oneCell'] at hv)
    rw [this, h2]
    exact key [t] [v] (.cons h .nil) (by simp [h1])
  cases t with
  | agg cs => obtain ⟨vs, rfl, hr⟩ := agg_inv h; exact key cs vs.toList hr hs
  | _ => exact single (by simpa [cellsT] using hs) rfl
theorem HR.wr_loc {S : Shd} {ℓ : Lm} {L : Loc} {H : Heap} {w w' : World} (h : HR S ℓ L H w) {d b : Nat} (hd : ℓ d = some b) {c' : Array Value} {e : TypeId} (hw : Wr b c' e w w') {row' : List TV} (hlt : d < L.length) (hsz : c'.size = row'.length)
    (hr : ∀ (j : Nat) (t : TV), row'[j]? = some t → ∃ v, c'[j]? = some v ∧ RV S w no t v) : HR S ℓ (upd L d (some row')) H w' := by
  obtain ⟨row, h1, h2, h3, h4, h5⟩ := h.loc d b hd
  have hs := hw.step h2 h3 h4
  have hE := Ext.refl S
  rw [upd_eq]
  have hne : ∀ d', d' ≠ d → (L.set d (some row'))[d']? = L[d']? := fun d' hd' => by rw [List.getElem?_set_ne (by omega)]
  have hat : (L.set d (some row'))[d]? = some (some row') := by rw [List.getElem?_set_self hlt]
  refine ⟨by rw [hw.size]; exact h.base, fun x hx => by rw [hw.size]; exact h.imm x hx, fun x hx => by rw [hw.size]; exact h.kept x hx, h.ki, h.gen, fun id o ho => ?_, h.inj, fun d' b' hd' => ?_, fun d' r' hd' => ?_, h.linj, h.apart⟩
  · obtain ⟨a1, a2, a3, a4, a5, a6⟩ := h.blk id o ho
    exact ⟨a1, a2, a3, a4, a5, a6.mono hE hs.imm (hw.other _ (fun e => h.apart d b id o hd ho e.symm))⟩
  · by_cases hdd : d' = d
    · subst hdd
      rw [hd] at hd'; cases hd'
      exact ⟨row', hat, h2, h3, h4, c', e, hw.at_, hsz, fun j t ht => let ⟨v, hv, hr'⟩ := hr j t ht; ⟨v, hv, hr'.mono hE hs.imm no fun _ _ e => e⟩⟩
    · obtain ⟨r, x1, x2, x3, x4, x5⟩ := h.loc d' b' hd'
      refine ⟨r, by rw [hne d' hdd]; exact x1, x2, x3, x4, x5.mono hE hs.imm (hw.other _ fun e => hdd (h.linj d' d b' hd' (by rw [e]; exact hd)))⟩
  · by_cases hdd : d' = d
    · subst hdd; exact ⟨b, hd⟩
    · rw [hne d' hdd] at hd'; exact h.locv d' r' hd'
theorem HR.wr_own {S : Shd} {ℓ : Lm} {L : Loc} {H : Heap} {w w' : World} (h : HR S ℓ L H w) {id : Nat} {o : Ob} (ho : H[id]? = some o) {c' : Array Value} {e : TypeId} (hw : Wr (S.blk id) c' e w w') {f' : Nat → List TV}
    (hr : ObR S w' (S.blk id) (S.cap id) { o with f := f' }) : HR S ℓ L (upd H id { o with f := f' }) w' := by
  obtain ⟨h1, h2, h3, h4, h5, h6⟩ := h.blk id o ho
  have hs := hw.step h1 h2 h3
  have hE := Ext.refl S
  rw [upd_eq]
  have hlt : id < H.length := (List.getElem?_eq_some_iff.1 ho).1
  have hne : ∀ i, i ≠ id → (H.set id { o with f := f' })[i]? = H[i]? := fun i hi => by rw [List.getElem?_set_ne (by omega)]
  have hat : (H.set id { o with f := f' })[id]? = some { o with f := f' } := by rw [List.getElem?_set_self hlt]
  have old : ∀ (i : Nat) (oi : Ob), (H.set id { o with f := f' })[i]? = some oi → ∃ oi' : Ob, H[i]? = some oi' := by
    intro i oi hi
    by_cases hii : i = id
    · subst hii; exact ⟨o, ho⟩
    · rw [hne i hii] at hi; exact ⟨oi, hi⟩
  refine ⟨by rw [hw.size]; exact h.base, fun x hx => by rw [hw.size]; exact h.imm x hx, fun x hx => by rw [hw.size]; exact h.kept x hx, h.ki, fun i => ?_, fun i oi hi => ?_, fun i j oi oj hi hj hb => ?_, fun d b hd => ?_, h.locv, h.linj, fun d b i oi hd hi => ?_⟩
  · rw [h.gen i]
    by_cases hii : i = id
    · subst hii; rw [hat, ho]; rfl
    · rw [hne i hii]
  · by_cases hii : i = id
    · subst hii; rw [hat] at hi; cases hi
      exact ⟨h1, h2, h3, h4, h5, hr⟩
    · rw [hne i hii] at hi
      obtain ⟨a1, a2, a3, a4, a5, a6⟩ := h.blk i oi hi
      exact ⟨a1, a2, a3, a4, a5, a6.mono hE hs.imm (hw.other _ fun e => hii (h.inj i id oi o hi ho e))⟩
  · obtain ⟨x, hx⟩ := old i oi hi
    obtain ⟨y, hy⟩ := old j oj hj
    exact h.inj i j x y hx hy hb
  · obtain ⟨r, x1, x2, x3, x4, x5⟩ := h.loc d b hd
    exact ⟨r, x1, x2, x3, x4, x5.mono hE hs.imm (hw.other _ (h.apart d b id o hd ho))⟩
  · obtain ⟨x, hx⟩ := old i oi hi
    exact h.apart d b i x hd hx
theorem alloc_at (w : World) (o : Obj) : (w.alloc o).heap[w.heap.size]? = some o := by
  show (w.heap.push o)[w.heap.size]? = _
  simp
theorem HR.new_loc {S : Shd} {ℓ : Lm} {L : Loc} {H : Heap} {w : World} (h : HR S ℓ L H w) {d : Nat} (hd : L[d]? = some none) {row : List TV} {c : Array Value} {e : TypeId} (hc : RVs S w no row c.toList) :
    HR S (fun x => if x = d then some w.heap.size else ℓ x) (upd L d (some row)) H (w.alloc (.cells c e)) ∧ (∀ x b, ℓ x = some b → (if x = d then some w.heap.size else ℓ x) = some b) := by
  have hE := Ext.refl S
  have hb : Below w.heap.size w (w.alloc (.cells c e)) := (Below.refl _ _).alloc (Nat.le_refl _) _
  have hs : Step S w (w.alloc (.cells c e)) := .of_below h hb
  have hℓ : ℓ d = none := by
    cases hx : ℓ d with
    | none => rfl
    | some b => obtain ⟨r, h1, _⟩ := h.loc d b hx; rw [hd] at h1; cases h1
  have hlt : d < L.length := (List.getElem?_eq_some_iff.1 hd).1
  rw [upd_eq]
  have hne : ∀ d', d' ≠ d → (L.set d (some row))[d']? = L[d']? := fun d' hd' => by rw [List.getElem?_set_ne (by omega)]
  have hat : (L.set d (some row))[d]? = some (some row) := by rw [List.getElem?_set_self hlt]
  have hnew : (w.alloc (.cells c e)).heap[w.heap.size]? = some (.cells c e (0, 0)) := alloc_at w _
  refine ⟨⟨by simp; have := h.base; omega, fun b x => by simp; have := h.imm b x; omega, fun b x => by simp; have := h.kept b x; omega, h.ki, h.gen, fun id o ho => ?_, h.inj, fun d' b hd' => ?_, fun d' r hr => ?_, fun d1 d2 b h1 h2 => ?_, fun d' b id o hd' ho => ?_⟩, fun x b hx => ?_⟩
  · obtain ⟨a1, a2, a3, a4, a5, a6⟩ := h.blk id o ho
    exact ⟨a1, a2, a3, a4, a5, a6.mono hE hs.imm (hb.block _ a6.lt)⟩
  · by_cases hdd : d' = d
    · subst hdd
      simp only [if_true, Option.some.injEq] at hd'
      subst hd'
      refine ⟨row, hat, h.base, fun x => Nat.lt_irrefl _ (h.imm _ x), fun x => Nat.lt_irrefl _ (h.kept _ x), c, e, hnew, by have := hc.1; simp at this; omega, fun j t ht => ?_⟩
      have hj : j < c.size := by have := hc.1; obtain ⟨h1, _⟩ := List.getElem?_eq_some_iff.1 ht; simp at this; omega
      exact ⟨c[j], by simp [hj], (hc.2 j t _ ht (by simp [hj])).mono hE hs.imm no fun _ _ e => e⟩
    · simp only [hdd, if_false] at hd'
      obtain ⟨r, x1, x2, x3, x4, x5⟩ := h.loc d' b hd'
      exact ⟨r, by rw [hne d' hdd]; exact x1, x2, x3, x4, x5.mono hE hs.imm (hb.block _ x5.lt)⟩
  · by_cases hdd : d' = d
    · subst hdd; exact ⟨w.heap.size, by simp⟩
    · rw [hne d' hdd] at hr
      obtain ⟨b, hb'⟩ := h.locv d' r hr
      exact ⟨b, by simp [hdd, hb']⟩
  · have lt : ∀ x b, ℓ x = some b → b < w.heap.size := fun x b hx => by obtain ⟨r, _, _, _, _, hr⟩ := h.loc x b hx; exact hr.lt
    by_cases e1 : d1 = d <;> by_cases e2 : d2 = d <;> simp only [e1, e2, if_true, if_false, Option.some.injEq] at h1 h2
    · rw [e1, e2]
    · have := lt d2 b h2; omega
    · have := lt d1 b h1; omega
    · exact h.linj d1 d2 b h1 h2
  · have lt := (h.blk id o ho).2.2.2.2.2.lt
    by_cases e1 : d' = d
    · simp only [e1, if_true, Option.some.injEq] at hd'; omega
    · simp only [e1, if_false] at hd'; exact h.apart d' b id o hd' ho
  · have : x ≠ d := fun e => by rw [e, hℓ] at hx; cases hx
    simp [this, hx]
/-- One more object. -/
def Shd.add (S : Shd) (id gen blk cap sz : Nat) : Shd := { S with gen := fun i => if i = id then some gen else S.gen i, blk := fun i => if i = id then blk else S.blk i, cap := fun i => if i = id then cap else S.cap i, sz := fun i => if i = id then sz else S.sz i }
theorem Shd.add_ext {S : Shd} {id gen blk cap sz : Nat} (h : ∀ l, S.gen id = some l → l < gen ∧ sz = S.sz id) : Ext S (S.add id gen blk cap sz) := by
  refine ⟨rfl, rfl, fun _ h => h, fun i l hl => ?_⟩
  by_cases hi : i = id
  · subst hi
    obtain ⟨h1, h2⟩ := h l hl
    exact ⟨gen, by simp [Shd.add], by omega, by simp [Shd.add, h2], fun e => by omega⟩
  · exact ⟨l, by simp [Shd.add, hi, hl], Nat.le_refl _, by simp [Shd.add, hi], fun _ => by simp [Shd.add, hi]⟩
/-- An object gets a new block (a new object, or one that has grown). -/
theorem HR.new_own {S : Shd} {ℓ : Lm} {L : Loc} {H : Heap} {w w1 : World} (h : HR S ℓ L H w) (hb : Below w.heap.size w w1) (hz : w1.heap.size = w.heap.size) {c : Array Value} {e : TypeId} {id : Nat} {o : Ob} {H' : Heap} {cap : Nat}
    (hH : ∀ i, i ≠ id → H'[i]? = H[i]?) (hat : H'[id]? = some o) (hg : ∀ o', H[id]? = some o' → o'.gen < o.gen ∧ o.sz = o'.sz) (hn : o.n ≤ cap) (hc : c.size = cap * o.sz)
    (hr : ∀ i, i < o.n → (o.f i).length = o.sz ∧ ∀ (j : Nat) (t : TV), (o.f i)[j]? = some t → ∃ v, c[i * o.sz + j]? = some v ∧ RV S w no t v) :
    Ext S (S.add id o.gen w.heap.size cap o.sz) ∧ Step S w (w1.alloc (.cells c e)) ∧ HR (S.add id o.gen w.heap.size cap o.sz) ℓ L H' (w1.alloc (.cells c e)) := by
  have hE : Ext S (S.add id o.gen w.heap.size cap o.sz) := Shd.add_ext fun l hl => by
    rw [h.gen id, Option.map_eq_some_iff] at hl
    obtain ⟨o', h1, rfl⟩ := hl
    refine ⟨(hg o' h1).1, ?_⟩
    rw [(hg o' h1).2, (h.blk id o' h1).2.2.2.1]
  have hb' : Below w.heap.size w (w1.alloc (.cells c e)) := hb.alloc (by omega) _
  have hs : Step S w (w1.alloc (.cells c e)) := .of_below h hb'
  have hnew : (w1.alloc (.cells c e)).heap[w.heap.size]? = some (.cells c e (0, 0)) := by rw [← hz]; exact alloc_at w1 _
  have hsize : (w1.alloc (.cells c e)).heap.size = w.heap.size + 1 := by simp [hz]
  refine ⟨hE, hs, ⟨by rw [hsize]; have := h.base; simp [Shd.add]; omega, fun b x => by rw [hsize]; have := h.imm b x; omega, fun b x => by rw [hsize]; have := h.kept b x; omega, h.ki, fun i => ?_, fun i oi hi => ?_, fun i j oi oj hi hj hbl => ?_, fun d b hd => ?_, h.locv, h.linj, fun d b i oi hd hi => ?_⟩⟩
  · by_cases hii : i = id
    · subst hii; rw [hat]; simp [Shd.add]
    · rw [hH i hii, ← h.gen i]; simp [Shd.add, hii]
  · by_cases hii : i = id
    · subst hii; rw [hat] at hi; cases hi
      refine ⟨by simp [Shd.add]; exact h.base, by simp [Shd.add]; exact fun x => Nat.lt_irrefl _ (h.imm _ x), by simp [Shd.add]; exact fun x => Nat.lt_irrefl _ (h.kept _ x), by simp [Shd.add], by simp [Shd.add]; exact hn, ?_⟩
      simp only [Shd.add, if_true]
      refine ⟨c, e, hnew, hc, fun k hk => ⟨(hr k hk).1, fun j t ht => ?_⟩⟩
      obtain ⟨v, hv, hr'⟩ := (hr k hk).2 j t ht
      exact ⟨v, hv, hr'.mono hE hs.imm no fun _ _ e => e⟩
    · rw [hH i hii] at hi
      obtain ⟨a1, a2, a3, a4, a5, a6⟩ := h.blk i oi hi
      simp only [Shd.add, hii, if_false]
      exact ⟨a1, a2, a3, a4, a5, a6.mono hE hs.imm (hb'.block _ a6.lt)⟩
  · have lt : ∀ (i : Nat) (oi : Ob), H[i]? = some oi → S.blk i < w.heap.size := fun i oi hi => (h.blk i oi hi).2.2.2.2.2.lt
    by_cases e1 : i = id <;> by_cases e2 : j = id <;> simp only [Shd.add, e1, e2, if_true, if_false] at hbl
    · rw [e1, e2]
    · rw [hH j e2] at hj; have := lt j oj hj; omega
    · rw [hH i e1] at hi; have := lt i oi hi; omega
    · rw [hH i e1] at hi; rw [hH j e2] at hj; exact h.inj i j oi oj hi hj hbl
  · obtain ⟨r, x1, x2, x3, x4, x5⟩ := h.loc d b hd
    exact ⟨r, x1, x2, x3, x4, x5.mono hE hs.imm (hb'.block _ x5.lt)⟩
  · by_cases e1 : i = id
    · subst e1
      obtain ⟨r, x1, x2, x3, x4, x5⟩ := h.loc d b hd
      have := x5.lt
      simp [Shd.add]; omega
    · rw [hH i e1] at hi
      simp only [Shd.add, e1, if_false]
      exact h.apart d b i oi hd hi
end
end Go.Proofs.YtbdkjkedjldheaaTv
