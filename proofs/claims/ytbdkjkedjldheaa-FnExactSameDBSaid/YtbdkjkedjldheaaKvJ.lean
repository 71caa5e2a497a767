/- An evaluator of the program's code over trees: slices that are made and grow. Conditions: none. -/
import Derived.Test.YtbdkjkedjldheaaKvI
import Derived.Laws.MakeOwn
import Derived.Great.BuildSlice
namespace Go.Proofs.YtbdkjkedjldheaaTv
set_option linter.unusedVariables false
set_option linter.unusedSimpArgs false
set_option linter.unnecessarySimpa false
open Go Go.RowKit
section
variable {P : Program} {E : Env}
theorem div_row {i sz j : Nat} (hj : j < sz) : (i * sz + j) / sz = i ∧ (i * sz + j) % sz = j := by
  have h0 : 0 < sz := by omega
  constructor
  · rw [Nat.mul_comm, Nat.mul_add_div h0, Nat.div_eq_of_lt hj]; rfl
  · rw [Nat.mul_comm, Nat.mul_add_mod, Nat.mod_eq_of_lt hj]
theorem row_lt {i n sz j : Nat} (hi : i < n) (hj : j < sz) : i * sz + j < n * sz := by
  have : (i + 1) * sz ≤ n * sz := Nat.mul_le_mul_right _ hi
  rw [Nat.add_mul, Nat.one_mul] at this; omega
theorem app_at {H : Heap} {o : Ob} : (∀ i, i ≠ H.length → (H ++ [o])[i]? = H[i]?) ∧ (H ++ [o])[H.length]? = some o := by
  refine ⟨fun i hi => ?_, by simp⟩
  by_cases hlt : i < H.length
  · rw [List.getElem?_append_left hlt]
  · rw [List.getElem?_append_right (by omega), List.getElem?_eq_none (l := H) (by omega)]
    have : i - H.length ≠ 0 := by omega
    simp; omega
theorem make_ok (hE : EnvOk P E) {ty : TypeId} {e : TypeId} {ti : TI} (ht : E.ti ty = some ti) (hk : ti.kind = .slice e) {ei : TI} (he : E.ti e = some ei) {l c : Int} (hc : 0 ≤ l ∧ l ≤ c ∧ c ≤ 2 ^ 46 ∧ c * ei.bytes ≤ 2 ^ 46) (hz : ei.zero.all noloc1 = true) {k1 k2 : IntKind}
    {S : Shd} {ℓ : Lm} {L : Loc} {H : Heap} {w : World} (hR : HR S ℓ L H w) :
    ∃ v w', (Instr.makeSlice ty (.int k1 l) (.int k2 c)).run P w = .ok v w' ∧ Φl S ℓ L (H ++ [{ sz := ei.zero.length, gen := 0, n := l.toNat, f := fun _ => ei.zero }]) w (.own H.length 0 0 l.toNat) v w' := by
  have hku := (hE.ti ty ti ht).kind
  rw [hk] at hku
  simp only [KOk] at hku
  obtain ⟨inf, z, h1, h2, h3, h4, h5, h6, h7⟩ := zero_rv (hE.ti e ei he)
  obtain ⟨c0, c1, c2, c3⟩ := hc
  refine ⟨_, _, run_make w ty e inf z hku h1 h4 k1 k2 l c c0 c1 (by rw [h3, Int.mul_comm]; omega) (by omega), ?_⟩
  have hzs : z.cells.size = ei.zero.length := by omega
  obtain ⟨a1, a2⟩ := app_at (H := H) (o := { sz := ei.zero.length, gen := 0, n := l.toNat, f := fun _ => ei.zero })
  obtain ⟨b1, b2, b3⟩ := hR.new_own (w1 := w) (Below.refl _ _) rfl (c := madeCells z.cells (c.toNat * inf.size)) (e := e) (id := H.length) (cap := c.toNat) a1 a2 (fun o' ho' => by simp at ho') (by simp only; omega) (by rw [size_madeCells, h2, h7])
    (fun i hi => ⟨rfl, fun j t htj => by
      simp only at hi htj ⊢
      have hj : j < ei.zero.length := (List.getElem?_eq_some_iff.1 htj).1
      have hlt := row_lt (show i < c.toNat by omega) hj
      have hjz : j < z.cells.size := by omega
      refine ⟨z.cells[j], ?_, (h5 S w no).2 j t _ htj (by simp [hjz])⟩
      have hm := (div_row (i := i) hj).2
      simp only [madeCells, Array.getElem?_map, h2, ← h7]
      rw [Array.getElem?_range, if_pos hlt]
      simp only [Option.map_some, hzs, hm]
      rw [getElem!_pos z.cells j hjz]⟩)
  exact ⟨_, ℓ, b1, b2, fun _ _ e => e, b3, .own _ H.length 0 0 l.toNat _ 0 (by simp [Shd.add]) (Nat.le_refl _) ⟨_, _, rfl⟩ fun _ => ⟨_, _, rfl, by simp [Shd.add], rfl, by simp [Shd.add], by omega, by simp⟩⟩
/-- Rows of cells from an address on. -/
def RowsAt (S : Shd) (w : World) (a : Addr) (sz m : Nat) (g : Nat → List TV) : Prop := a.spot = none ∧ ∀ i, i < m → (g i).length = sz ∧ ∀ (j : Nat) (t : TV), (g i)[j]? = some t → ∃ x, w.cell? ⟨a.block, a.off + i * sz + j, none⟩ = some x ∧ RV S w no t x
def news (w : World) (a : Addr) (k : Nat) : List Value := (List.range k).map fun j => (w.cell? ⟨a.block, a.off + j, none⟩).getD undef
theorem RowsAt.cell {S : Shd} {w : World} {a : Addr} {sz m : Nat} {g : Nat → List TV} (h : RowsAt S w a sz m g) {k : Nat} (hk : k < m * sz) : ∃ t, (g (k / sz))[k % sz]? = some t ∧ ∃ x, w.cell? ⟨a.block, a.off + k, none⟩ = some x ∧ RV S w no t x := by
  have h0 : 0 < sz := Nat.pos_of_ne_zero fun e => by subst e; omega
  have hi : k / sz < m := by rw [Nat.div_lt_iff_lt_mul h0]; exact hk
  have hj : k % sz < sz := Nat.mod_lt _ h0
  obtain ⟨h1, h2⟩ := h.2 _ hi
  obtain ⟨x, hx, hr⟩ := h2 (k % sz) _ (List.getElem?_eq_getElem (by omega))
  have he : a.off + k / sz * sz + k % sz = a.off + k := by rw [Nat.add_assoc, Nat.div_add_mod']
  rw [he] at hx
  exact ⟨_, List.getElem?_eq_getElem (by omega), x, hx, hr⟩
theorem RowsAt.news {S : Shd} {w : World} {a : Addr} {sz m : Nat} {g : Nat → List TV} (h : RowsAt S w a sz m g) : (YtbdkjkedjldheaaTv.news w a (m * sz)).length = m * sz ∧ (∀ (j : Nat) (v : Value), (YtbdkjkedjldheaaTv.news w a (m * sz))[j]? = some v → w.cell? (a.add j) = some v) ∧
    ∀ i, i < m → ∀ (j : Nat) (t : TV), (g i)[j]? = some t → ∃ v, (YtbdkjkedjldheaaTv.news w a (m * sz))[i * sz + j]? = some v ∧ RV S w no t v := by
  refine ⟨by simp [YtbdkjkedjldheaaTv.news], fun j v hv => ?_, fun i hi j t ht => ?_⟩
  · have hj : j < m * sz := by have := (List.getElem?_eq_some_iff.1 hv).1; simpa [YtbdkjkedjldheaaTv.news] using this
    obtain ⟨t, _, x, hx, _⟩ := h.cell hj
    simp only [YtbdkjkedjldheaaTv.news, List.getElem?_map, List.getElem?_range hj, Option.map_some, hx, Option.getD_some, Option.some.injEq] at hv
    subst hv
    rw [add_none a j h.1]; exact hx
  · obtain ⟨h1, h2⟩ := h.2 i hi
    obtain ⟨x, hx, hr⟩ := h2 j t ht
    have hj : j < sz := by rw [← h1]; exact (List.getElem?_eq_some_iff.1 ht).1
    have hlt := row_lt hi hj
    refine ⟨x, ?_, hr⟩
    rw [Nat.add_assoc] at hx
    simp [YtbdkjkedjldheaaTv.news, List.getElem?_range hlt, hx]
theorem src_ok {R : Type} {H : Heap} {x : TV} {K : Nat → Nat → (Nat → List TV) → Option R} {r : R} (h : srcK H x K = some r) :
    ∃ sz m g, K sz m g = some r ∧ ∀ (S : Shd) (ℓ : Lm) (L : Loc) (w : World) (vx : Value), HR S ℓ L H w → RV S w ℓ x vx → ∃ b cap, vx = .slice b m cap ∧ (0 < m → ∃ a, b = some a ∧ RowsAt S w a sz m g) := by
  unfold srcK at h
  split at h
  · refine ⟨_, _, _, h, fun S ℓ L w vx hR hx => ?_⟩
    obtain ⟨a, cap, rfl, _, _, _, _, h3⟩ := lst_inv hx
    exact ⟨a, cap, rfl, fun h0 => by obtain ⟨b, rfl, _, h5, _, h6⟩ := h3 h0; exact ⟨b, rfl, h5, h6⟩⟩
  · split at h
    · rename_i o ho
      rw [nth_eq] at ho
      obtain ⟨⟨hg, hn⟩, h⟩ := ck_some h
      refine ⟨_, _, _, h, fun S ℓ L w vx hR hx => ?_⟩
      obtain ⟨l, a1, a2, a3⟩ := own_inv hx
      rw [hR.gen_eq ho] at a1; cases a1
      obtain ⟨a, cap, rfl, b1, b2, b3, b4, b5⟩ := a3 hg.symm
      obtain ⟨_, _, _, c4, c5, c, e, h1, h2, h3⟩ := hR.blk _ o ho
      refine ⟨_, cap, rfl, fun h0 => ⟨a, rfl, b2, fun i hi => ?_⟩⟩
      rw [shf_eq]
      refine ⟨(h3 _ (by omega)).1, fun j t ht => ?_⟩
      obtain ⟨v, hv, hr⟩ := (h3 _ (by omega)).2 j t ht
      refine ⟨v, ?_, hr⟩
      rw [b1, cell_of_obj h1, b5, c4, ← hv]
      simp only [Nat.add_mul]
    · cases h
  · cases h
theorem append_zero {ty e : TypeId} {inf : TypeInfo} (hu : P.underlying ty = some (.slice e)) (hi : P.info? e = some inf) {w : World} {a b : Option Addr} {n cap cap' : Nat} (h : n ≤ cap) (u : TypeId) :
    (Builtin.append_ #[ty, ty] u #[.slice a n cap, .slice b 0 cap']).run P w = .ok (.slice a n cap) w := by
  have hf : ∀ b, (Builtin.firstCells inf.size 0 (.slice b 0 cap')).run P w = .ok #[] w := by
    intro b; cases b <;> simp [Builtin.firstCells, loadCells, loadCellsFrom]
  cases a <;> simp [Builtin.append_, run_underlying hu, sizeOf, typeInfo, hi, Builtin.lenOf, h, hf, storeCells]
theorem append_ok {R : Type} (hE : EnvOk P E) {H : Heap} {ty e : TypeId} {ti : TI} (ht : E.ti ty = some ti) (hk : ti.kind = .slice e) {s x : TV} {K : TV → Heap → Option R} {r : R} (h : appendK E H e s x K = some r) :
    ∃ t H', K t H' = some r ∧ ∀ (S : Shd) (ℓ : Lm) (L : Loc) (w : World) (vs vx : Value) (u : TypeId), HR S ℓ L H w → RV S w ℓ s vs → RV S w ℓ x vx → ∃ v w', (Builtin.append_ #[ty, ty] u #[vs, vx]).run P w = .ok v w' ∧ Φl S ℓ L H' w t v w' := by
  have hku := (hE.ti ty ti ht).kind
  rw [hk] at hku
  simp only [KOk] at hku
  unfold appendK at h
  split at h
  · cases h
  rename_i ei hei
  obtain ⟨inf, z, i1, i2, i3, i4, i5, i6, i7⟩ := zero_rv (hE.ti e ei hei)
  obtain ⟨sz, m, g, h', hsrc⟩ := src_ok h
  clear h
  have h := h'
  clear h'
  split at h
  · rename_i fr nn sz0 n f
    split at h
    · rename_i hm
      subst hm
      refine ⟨_, _, h, fun S ℓ L w vs vx u hR hs hx => ?_⟩
      obtain ⟨b, cap', rfl, _⟩ := hsrc S ℓ L w vx hR hx
      obtain ⟨a, cap, rfl, h1, _⟩ := lst_inv hs
      exact ⟨_, w, append_zero hku i1 h1 u, S, ℓ, Ext.refl S, Step.refl _ _, fun _ _ e => e, hR, hs⟩
    · rename_i hm
      obtain ⟨⟨c1, c2, c3, c4⟩, h⟩ := ck_some h
      refine ⟨_, _, h, fun S ℓ L w vs vx u hR hs hx => ?_⟩
      obtain ⟨b, cap', rfl, hrow⟩ := hsrc S ℓ L w vx hR hx
      obtain ⟨ax, rfl, hrows⟩ := hrow (by omega)
      rw [c3] at hrows
      obtain ⟨n1, n2, n3⟩ := hrows.news
      obtain ⟨a, cap, rfl, s1, s2, _, s4, s5⟩ := lst_inv hs
      have hcap : cap = n := s2 rfl
      subst hcap
      have hfit : Builtin.nextslicecap (cap + m) cap * inf.bytes ≤ 281474976710656 := growslice_fits (by omega) (by
        rw [i3]
        have : (cap + m) * ei.bytes ≤ (cap + m + 256) * ei.bytes := Nat.mul_le_mul_right _ (by omega)
        omega)
      -- the block that is made
      have fin : ∀ (olds : List Value) (newCap : Nat), cap + m ≤ newCap → olds.length = cap * ei.size → (∀ i, i < cap → (f i).length = ei.size ∧ ∀ (j : Nat) (t : TV), (f i)[j]? = some t → ∃ v, olds[i * ei.size + j]? = some v ∧ RV S w no t v) →
          Φl S ℓ L (H ++ [{ sz := ei.size, gen := 0, n := cap + m, f := appF cap f m g }]) w (.own H.length 0 0 (cap + m)) (.slice (some ⟨w.heap.size, 0, none⟩) (cap + m) newCap) (w.drew.alloc (.cells (olds.toArray ++ (YtbdkjkedjldheaaTv.news w ax (m * ei.size)).toArray ++ Builtin.zeroCells z.cells (newCap - (cap + m))) e)) := by
        intro olds newCap hnc hol hold
        obtain ⟨a1, a2⟩ := app_at (H := H) (o := { sz := ei.size, gen := 0, n := cap + m, f := appF cap f m g })
        obtain ⟨b1, b2, b3⟩ := hR.new_own (w1 := w.drew) (Below.drewB w) rfl (c := olds.toArray ++ (YtbdkjkedjldheaaTv.news w ax (m * ei.size)).toArray ++ Builtin.zeroCells z.cells (newCap - (cap + m))) (e := e) (id := H.length) (cap := newCap) a1 a2 (fun o' ho' => by simp at ho') hnc
          (by
            simp only [Array.size_append, List.size_toArray, size_zeroCells, hol, n1, i6, ← Nat.add_mul]
            congr 1; omega)
          (fun i hi => by
            simp only at hi ⊢
            by_cases hic : i < cap
            · have hap : appF cap f m g i = f i := by simp [appF]; omega
              rw [hap]
              refine ⟨(hold i hic).1, fun j t htj => ?_⟩
              obtain ⟨v, hv, hr⟩ := (hold i hic).2 j t htj
              refine ⟨v, ?_, hr⟩
              have hlt : i * ei.size + j < olds.length := (List.getElem?_eq_some_iff.1 hv).1
              rw [Array.append_assoc, Array.getElem?_append_left (by simpa using hlt)]
              simpa using hv
            · have hap : appF cap f m g i = g (i - cap) := by simp [appF]; omega
              rw [hap]
              refine ⟨(hrows.2 _ (by omega)).1, fun j t htj => ?_⟩
              obtain ⟨v, hv, hr⟩ := n3 (i - cap) (by omega) j t htj
              refine ⟨v, ?_, hr⟩
              have hlt := (List.getElem?_eq_some_iff.1 hv).1
              have hidx : i * ei.size + j = cap * ei.size + ((i - cap) * ei.size + j) := by
                rw [← Nat.add_assoc, ← Nat.add_mul]; congr 2; omega
              rw [Array.append_assoc, Array.getElem?_append_right (by simp [hol]; omega), Array.getElem?_append_left (by simp [hol]; omega)]
              simp only [List.size_toArray, hol, List.getElem?_toArray]
              rw [hidx, Nat.add_sub_cancel_left]; exact hv)
        exact ⟨_, ℓ, b1, b2, fun _ _ e => e, b3, .own _ H.length 0 0 _ _ 0 (by simp [Shd.add]) (Nat.le_refl _) ⟨_, _, rfl⟩ fun _ => ⟨_, _, rfl, by simp [Shd.add], rfl, by simp [Shd.add], hnc, by simp⟩⟩
      cases a with
      | none =>
        obtain ⟨rfl, _⟩ := s4 rfl
        have hrun := run_append_nil (P := P) w ty u e inf z hku i1 i4 ax m cap' (YtbdkjkedjldheaaTv.news w ax (m * ei.size)) (by rw [n1, i2]) n2 (by omega) (by omega) (by
          rw [i3]
          have : m * ei.bytes ≤ (0 + m + 256) * ei.bytes := Nat.mul_le_mul_right _ (by omega)
          omega)
        have := fin [] (grownCap w m 0 e) (by rw [Nat.zero_add]; exact grownCap_ge _ _ _ _) (by simp) (fun i hi => by omega)
        simp only [Nat.zero_add] at this
        refine ⟨_, _, hrun, ?_⟩
        simpa using this
      | some a =>
        have hrun := fun olds hlo holds => run_append_grow (P := P) w ty u e inf z hku i1 i4 a cap cap olds hlo holds ax m cap' (YtbdkjkedjldheaaTv.news w ax (m * ei.size)) (by rw [n1, i2]) n2 (by omega) (by omega) hfit
        rcases Nat.eq_zero_or_pos cap with h0 | h0
        · subst h0
          refine ⟨_, _, hrun [] (by simp) (by simp), fin [] _ (grownCap_ge _ _ _ _) (by simp) (fun i hi => by omega)⟩
        · obtain ⟨b, e1, _, e3, _, e5⟩ := s5 h0
          cases e1
          have hsz : sz0 = ei.size := c4.resolve_left (by omega)
          subst hsz
          have hro : RowsAt S w a ei.size cap f := ⟨e3, e5⟩
          obtain ⟨o1, o2, o3⟩ := hro.news
          exact ⟨_, _, hrun (YtbdkjkedjldheaaTv.news w a (cap * ei.size)) (by rw [o1, i2]) o2, fin _ _ (grownCap_ge _ _ _ _) o1 fun i hi => ⟨(e5 i hi).1, o3 i hi⟩⟩
  · rename_i id g0 lo n
    split at h
    · rename_i o ho
      rw [nth_eq] at ho
      obtain ⟨⟨c1, c2, c3, c4⟩, h1⟩ := ck_some h
      clear h
      have h := h1
      clear h1
      subst c2
      have hown : ∀ (S : Shd) (ℓ : Lm) (L : Loc) (w : World) (vs : Value), HR S ℓ L H w → RV S w ℓ (.own id g0 0 n) vs → ∃ a cap, vs = .slice (some a) n cap ∧ a = ⟨S.blk id, 0, none⟩ ∧ cap = S.cap id ∧ n ≤ cap := by
        intro S ℓ L w vs hR hs
        obtain ⟨l, a1, a2, a3⟩ := own_inv hs
        rw [hR.gen_eq ho] at a1; cases a1
        obtain ⟨a, cap, rfl, b1, b2, b3, b4, b5⟩ := a3 c1.symm
        refine ⟨a, cap, rfl, ?_, by omega, b4⟩
        cases a; simp at b1 b2 b5; simp [b1, b2, b5]
      split at h
      · rename_i hm
        subst hm
        refine ⟨_, _, h, fun S ℓ L w vs vx u hR hs hx => ?_⟩
        obtain ⟨b, cap', rfl, _⟩ := hsrc S ℓ L w vx hR hx
        obtain ⟨a, cap, rfl, _, _, h1⟩ := hown S ℓ L w vs hR hs
        exact ⟨_, w, append_zero hku i1 h1 u, S, ℓ, Ext.refl S, Step.refl _ _, fun _ _ e => e, hR, hs⟩
      · rename_i hm
        obtain ⟨⟨d1, d2, d3, d4⟩, h⟩ := ck_some h
        refine ⟨_, _, h, fun S ℓ L w vs vx u hR hs hx => ?_⟩
        obtain ⟨b, cap', rfl, hrow⟩ := hsrc S ℓ L w vx hR hx
        obtain ⟨ax, rfl, hrows⟩ := hrow (by omega)
        rw [d3] at hrows
        obtain ⟨n1, n2, n3⟩ := hrows.news
        obtain ⟨a, cap, rfl, rfl, rfl, hnc⟩ := hown S ℓ L w vs hR hs
        obtain ⟨x1, x2, x3, x4, x5, c, e', y1, y2, y3⟩ := hR.blk id o ho
        subst c3
        by_cases hroom : o.n + m ≤ S.cap id
        · -- in place
          have hone : ∀ v ∈ YtbdkjkedjldheaaTv.news w ax (m * ei.size), v.oneCell' = true := by
            intro v hv
            obtain ⟨k, hk', rfl⟩ := List.mem_iff_getElem.1 hv
            have hk : k < m * ei.size := by rw [← n1]; exact hk'
            obtain ⟨t, ht', x, hx', hr⟩ := hrows.cell hk
            have hsz0 : 0 < ei.size := Nat.pos_of_ne_zero fun e => by rw [e] at hk; omega
            have hki : k / ei.size < m := by rw [Nat.div_lt_iff_lt_mul hsz0]; exact hk
            have := solid_one hr (all_get (d4 _ hki) ht')
            simpa [YtbdkjkedjldheaaTv.news, hx'] using this
          have hfitc : o.n * ei.size + (YtbdkjkedjldheaaTv.news w ax (m * ei.size)).length ≤ c.size := by
            rw [n1, y2, c4, ← Nat.add_mul]; exact Nat.mul_le_mul_right _ hroom
          obtain ⟨w', c', r1, r2, r3, r4⟩ := storeCells_run (P := P) (YtbdkjkedjldheaaTv.news w ax (m * ei.size)) 0 w (S.blk id) (o.n * ei.size) c e' y1 (by omega) hone
          have hst := r2.step (S := S) x1 x2 x3
          have hfc := run_firstCells_some (P := P) w ei.size m ax m cap' (YtbdkjkedjldheaaTv.news w ax (m * ei.size)) n1 n2
          refine ⟨.slice (some ⟨S.blk id, 0, none⟩) (o.n + m) (S.cap id), w', ?_, ?_⟩
          · simp [Builtin.append_, run_underlying hku, sizeOf, typeInfo, i1, i2, Builtin.lenOf, hroom, hfc, add_none, r1]
          · have hE : Ext S (S.add id (g0 + 1) (S.blk id) (S.cap id) (S.sz id)) := Shd.add_ext fun l hl => by
              rw [hR.gen_eq ho] at hl; cases hl; exact ⟨by omega, rfl⟩
            have hlt : id < H.length := (List.getElem?_eq_some_iff.1 ho).1
            rw [upd_eq]
            have hne : ∀ i, i ≠ id → (H.set id { o with gen := g0 + 1, n := o.n + m, f := appF o.n o.f m g })[i]? = H[i]? := fun i hi => by rw [List.getElem?_set_ne (by omega)]
            have hat : (H.set id { o with gen := g0 + 1, n := o.n + m, f := appF o.n o.f m g })[id]? = some { o with gen := g0 + 1, n := o.n + m, f := appF o.n o.f m g } := by rw [List.getElem?_set_self hlt]
            have hsame : ∀ i, (S.add id (g0 + 1) (S.blk id) (S.cap id) (S.sz id)).blk i = S.blk i ∧ (S.add id (g0 + 1) (S.blk id) (S.cap id) (S.sz id)).cap i = S.cap i ∧ (S.add id (g0 + 1) (S.blk id) (S.cap id) (S.sz id)).sz i = S.sz i := by
              intro i
              by_cases hi : i = id <;> simp [Shd.add, hi]
            have old : ∀ (i : Nat) (oi : Ob), (H.set id { o with gen := g0 + 1, n := o.n + m, f := appF o.n o.f m g })[i]? = some oi → ∃ oi' : Ob, H[i]? = some oi' := by
              intro i oi hi
              by_cases hii : i = id
              · subst hii; exact ⟨o, ho⟩
              · rw [hne i hii] at hi; exact ⟨oi, hi⟩
            have hobj : ObR (S.add id (g0 + 1) (S.blk id) (S.cap id) (S.sz id)) w' (S.blk id) (S.cap id) { o with gen := g0 + 1, n := o.n + m, f := appF o.n o.f m g } := by
              refine ⟨c', e', r2.at_, by simp only; omega, fun k hk => ?_⟩
              simp only at hk ⊢
              by_cases hkc : k < o.n
              · have hap : appF o.n o.f m g k = o.f k := by simp [appF]; omega
                rw [hap]
                refine ⟨(y3 k hkc).1, fun j t htj => ?_⟩
                obtain ⟨v, hv, hr⟩ := (y3 k hkc).2 j t htj
                have hj : j < o.sz := by rw [← (y3 k hkc).1]; exact (List.getElem?_eq_some_iff.1 htj).1
                have hlt' := row_lt hkc hj
                refine ⟨v, ?_, hr.mono hE hst.imm no fun _ _ e => e⟩
                rw [r4, if_neg (by rw [← c4]; omega), hv]
              · have hap : appF o.n o.f m g k = g (k - o.n) := by simp [appF]; omega
                rw [hap]
                refine ⟨by rw [(hrows.2 _ (by omega)).1, c4], fun j t htj => ?_⟩
                obtain ⟨v, hv, hr⟩ := n3 (k - o.n) (by omega) j t htj
                refine ⟨v, ?_, hr.mono hE hst.imm no fun _ _ e => e⟩
                have hlt' := (List.getElem?_eq_some_iff.1 hv).1
                have hidx : k * ei.size + j = o.n * ei.size + ((k - o.n) * ei.size + j) := by
                  rw [← Nat.add_assoc, ← Nat.add_mul]; congr 2; omega
                rw [r4, c4, if_pos (by omega), hidx, show o.n * ei.size + ((k - o.n) * ei.size + j) - (o.n * ei.size + 0) = (k - o.n) * ei.size + j by omega, hv]
            refine ⟨_, ℓ, hE, hst, fun _ _ e => e, ⟨by rw [r2.size]; exact hR.base, fun x hx => by rw [r2.size]; exact hR.imm x hx, fun x hx => by rw [r2.size]; exact hR.kept x hx, hR.ki, fun i => ?_, fun i oi hi => ?_, fun i j oi oj hi hj hb => ?_, fun d b hd => ?_, hR.locv, hR.linj, fun d b i oi hd hi => ?_⟩, ?_⟩
            · by_cases hii : i = id
              · subst hii; rw [hat]; simp [Shd.add]
              · rw [hne i hii, ← hR.gen i]; simp [Shd.add, hii]
            · obtain ⟨q1, q2, q3⟩ := hsame i
              rw [q1, q2, q3]
              by_cases hii : i = id
              · subst hii; rw [hat] at hi; cases hi
                exact ⟨x1, x2, x3, x4, hroom, hobj⟩
              · rw [hne i hii] at hi
                obtain ⟨a1, a2, a3, a4, a5, a6⟩ := hR.blk i oi hi
                exact ⟨a1, a2, a3, a4, a5, a6.mono hE hst.imm (r2.other _ fun e => hii (hR.inj i id oi o hi ho e))⟩
            · rw [(hsame i).1, (hsame j).1] at hb
              obtain ⟨x, hx⟩ := old i oi hi
              obtain ⟨y, hy⟩ := old j oj hj
              exact hR.inj i j x y hx hy hb
            · obtain ⟨r, z1, z2, z3, z4, z5⟩ := hR.loc d b hd
              exact ⟨r, z1, z2, z3, z4, z5.mono hE hst.imm (r2.other _ (hR.apart d b id o hd ho))⟩
            · rw [(hsame i).1]
              obtain ⟨x, hx⟩ := old i oi hi
              exact hR.apart d b i x hd hx
            · exact .own _ id (g0 + 1) 0 _ _ (g0 + 1) (by simp [Shd.add]) (Nat.le_refl _) ⟨_, _, rfl⟩ fun _ => ⟨_, _, rfl, by simp [Shd.add], rfl, by simp [Shd.add], hroom, by simp⟩
        · -- a new block
          have hfit : Builtin.nextslicecap (o.n + m) (S.cap id) * inf.bytes ≤ 281474976710656 := growslice_fits (by omega) (by
            rw [i3]
            have : (o.n + m) * ei.bytes ≤ (o.n + m + 256) * ei.bytes := Nat.mul_le_mul_right _ (by omega)
            omega)
          have hro : RowsAt S w ⟨S.blk id, 0, none⟩ ei.size o.n o.f := by
            refine ⟨rfl, fun i hi => ⟨by rw [← c4]; exact (y3 i hi).1, fun j t htj => ?_⟩⟩
            obtain ⟨v, hv, hr⟩ := (y3 i hi).2 j t htj
            exact ⟨v, by rw [cell_of_obj y1, ← hv, c4]; simp, hr⟩
          obtain ⟨o1, o2, o3⟩ := hro.news
          have hrun := run_append_grow (P := P) w ty u e inf z hku i1 i4 ⟨S.blk id, 0, none⟩ o.n (S.cap id) (YtbdkjkedjldheaaTv.news w ⟨S.blk id, 0, none⟩ (o.n * ei.size)) (by rw [o1, i2]) o2 ax m cap' (YtbdkjkedjldheaaTv.news w ax (m * ei.size)) (by rw [n1, i2]) n2 (by omega) (by omega) hfit
          refine ⟨_, _, hrun, ?_⟩
          have hlt : id < H.length := (List.getElem?_eq_some_iff.1 ho).1
          have hge := grownCap_ge w (o.n + m) (S.cap id) e
          obtain ⟨b1, b2, b3⟩ := hR.new_own (w1 := w.drew) (Below.drewB w) rfl (c := (YtbdkjkedjldheaaTv.news w ⟨S.blk id, 0, none⟩ (o.n * ei.size)).toArray ++ (YtbdkjkedjldheaaTv.news w ax (m * ei.size)).toArray ++ Builtin.zeroCells z.cells (grownCap w (o.n + m) (S.cap id) e - (o.n + m))) (e := e) (id := id)
            (o := { o with gen := g0 + 1, n := o.n + m, f := appF o.n o.f m g }) (H' := upd H id { o with gen := g0 + 1, n := o.n + m, f := appF o.n o.f m g }) (cap := grownCap w (o.n + m) (S.cap id) e)
            (fun i hi => by rw [upd_eq, List.getElem?_set_ne (by omega)]) (by rw [upd_eq, List.getElem?_set_self hlt]) (fun o' ho' => by rw [ho] at ho'; cases ho'; exact ⟨by simp only; omega, rfl⟩) hge
            (by
              simp only [Array.size_append, List.size_toArray, size_zeroCells, o1, n1, i6, ← Nat.add_mul, c4]
              congr 1; omega)
            (fun i hi => by
              simp only [c4] at hi ⊢
              by_cases hic : i < o.n
              · have hap : appF o.n o.f m g i = o.f i := by simp [appF]; omega
                rw [hap]
                refine ⟨(hro.2 i hic).1, fun j t htj => ?_⟩
                obtain ⟨v, hv, hr⟩ := o3 i hic j t htj
                refine ⟨v, ?_, hr⟩
                have hlt : i * ei.size + j < (YtbdkjkedjldheaaTv.news w ⟨S.blk id, 0, none⟩ (o.n * ei.size)).length := (List.getElem?_eq_some_iff.1 hv).1
                rw [Array.append_assoc, Array.getElem?_append_left (by simpa using hlt)]
                simpa using hv
              · have hap : appF o.n o.f m g i = g (i - o.n) := by simp [appF]; omega
                rw [hap]
                refine ⟨(hrows.2 _ (by omega)).1, fun j t htj => ?_⟩
                obtain ⟨v, hv, hr⟩ := n3 (i - o.n) (by omega) j t htj
                refine ⟨v, ?_, hr⟩
                have hlt := (List.getElem?_eq_some_iff.1 hv).1
                have hidx : i * ei.size + j = o.n * ei.size + ((i - o.n) * ei.size + j) := by
                  rw [← Nat.add_assoc, ← Nat.add_mul]; congr 2; omega
                rw [Array.append_assoc, Array.getElem?_append_right (by simp [o1]; omega), Array.getElem?_append_left (by simp [o1]; omega)]
                simp only [List.size_toArray, o1, List.getElem?_toArray]
                rw [hidx, Nat.add_sub_cancel_left]; exact hv)
          exact ⟨_, ℓ, b1, b2, fun _ _ e => e, b3, .own _ id (g0 + 1) 0 _ _ (g0 + 1) (by simp [Shd.add]) (Nat.le_refl _) ⟨_, _, rfl⟩ fun _ => ⟨_, _, rfl, by simp [Shd.add], rfl, by simp [Shd.add], hge, by simp⟩⟩
    · cases h
  · cases h
end
end Go.Proofs.YtbdkjkedjldheaaTv
