/- An evaluator of the program's code over trees: what only reads memory. Conditions: none. -/
import Derived.Test.YtbdkjkedjldheaaKvD
namespace Go.Proofs.YtbdkjkedjldheaaTv
set_option linter.unusedVariables false
set_option linter.unusedSimpArgs false
set_option linter.unnecessarySimpa false
open Go Go.RowKit
section
variable {P : Program} {E : Env}
theorem ck_some {R : Type} {c : Prop} [Decidable c] {x : Option R} {r : R} (h : ck c x = some r) : c ∧ x = some r := by
  unfold ck at h; split at h
  · exact ⟨‹_›, h⟩
  · cases h
/-- The cells of the row to which a pointer leads. -/
theorem row_pimm {S : Shd} {ℓ : Lm} {w : World} {row : List TV} {off : Nat} {v : Value} (h : RV S w ℓ (.pimm row off) v) :
    ∃ b o, v = .pointer (some ⟨b, o + off, none⟩) ∧ S.imm b ∧ ∀ (j : Nat) (t : TV), row[j]? = some t → ∃ v, w.cell? ⟨b, o + j, none⟩ = some v ∧ RV S w no t v := by
  cases h with
  | pimm _ _ _ b o vals hi hc hv => exact ⟨b, o, rfl, hi, fun j t ht => ⟨_, hc j t ht, hv j t ht⟩⟩
theorem ploc_inv {S : Shd} {ℓ : Lm} {w : World} {d off : Nat} {v : Value} (h : RV S w ℓ (.ploc d off) v) : ∃ b, ℓ d = some b ∧ v = .pointer (some ⟨b, off, none⟩) := by
  cases h with
  | ploc _ _ _ b hb => exact ⟨b, hb, rfl⟩
theorem pown_inv {S : Shd} {ℓ : Lm} {w : World} {id g r off : Nat} {v : Value} (h : RV S w ℓ (.pown id g r off) v) : (∃ b o, v = .pointer (some ⟨b, o, none⟩)) ∧ ∃ l, S.gen id = some l ∧ g ≤ l ∧ (g = l → v = .pointer (some ⟨S.blk id, r * S.sz id + off, none⟩)) := by
  cases h with
  | pown _ _ _ _ _ _ l a b h c => exact ⟨h, l, a, b, c⟩
theorem own_inv {S : Shd} {ℓ : Lm} {w : World} {id g lo n : Nat} {v : Value} (h : RV S w ℓ (.own id g lo n) v) : ∃ l, S.gen id = some l ∧ g ≤ l ∧ (g = l → ∃ a cap, v = .slice (some a) n cap ∧ a.block = S.blk id ∧ a.spot = none ∧ lo + cap = S.cap id ∧ n ≤ cap ∧ a.off = lo * S.sz id) := by
  cases h with
  | own _ _ _ _ _ _ l a b _ c => exact ⟨l, a, b, c⟩
theorem cell_of_obj {w : World} {b : Nat} {c : Array Value} {e : TypeId} {z : Nat × Nat} (h : w.heap[b]? = some (.cells c e z)) (o : Nat) : w.cell? ⟨b, o, none⟩ = c[o]? := by
  simp [World.cell?, h]
theorem HR.row {S : Shd} {ℓ : Lm} {L : Loc} {H : Heap} {w : World} (h : HR S ℓ L H w) {d b : Nat} (hb : ℓ d = some b) {row : List TV} (hL : L[d]? = some (some row)) :
    ∀ (j : Nat) (t : TV), row[j]? = some t → ∃ v, w.cell? ⟨b, 0 + j, none⟩ = some v ∧ RV S w no t v := by
  obtain ⟨row', h1, _, _, _, c, e, h2, _, h4⟩ := h.loc d b hb
  rw [hL] at h1; cases h1
  intro j t ht
  obtain ⟨v, hv, hr⟩ := h4 j t ht
  exact ⟨v, by rw [Nat.zero_add, cell_of_obj h2]; exact hv, hr⟩
theorem HR.orow {S : Shd} {ℓ : Lm} {L : Loc} {H : Heap} {w : World} (h : HR S ℓ L H w) {id : Nat} {o : Ob} (ho : H[id]? = some o) {r : Nat} (hr : r < o.n) :
    ∀ (j : Nat) (t : TV), (o.f r)[j]? = some t → ∃ v, w.cell? ⟨S.blk id, r * S.sz id + j, none⟩ = some v ∧ RV S w no t v := by
  obtain ⟨_, _, _, h4, _, c, e, h2, _, h5⟩ := h.blk id o ho
  intro j t ht
  obtain ⟨v, hv, hr'⟩ := (h5 r hr).2 j t ht
  exact ⟨v, by rw [cell_of_obj h2, h4]; exact hv, hr'⟩
theorem HR.gen_eq {S : Shd} {ℓ : Lm} {L : Loc} {H : Heap} {w : World} (h : HR S ℓ L H w) {id : Nat} {o : Ob} (ho : H[id]? = some o) : S.gen id = some o.gen := by rw [h.gen, ho]; rfl
theorem loadAt_run {ty : TypeId} {a : Addr} {w : World} : (Instr.loadAt ty (.pointer (some a))).run P w = (loadVar ty a).run P w := by simp [Instr.loadAt, Instr.sureAddr]
theorem loadK_ok {R : Type} (hE : EnvOk P E) {L : Loc} {H : Heap} {ty : TypeId} {p : TV} {K : TV → Option R} {r : R} (h : loadK E L H ty p K = some r) :
    ∃ t, K t = some r ∧ ∀ (S : Shd) (ℓ : Lm) (w : World) (v : Value), HR S ℓ L H w → RV S w ℓ p v → ∃ x, (∃ a, v = .pointer (some a) ∧ (loadVar ty a).run P w = .ok x w) ∧ RV S w no t x := by
  unfold loadK at h
  split at h
  · obtain ⟨t, ht, hl⟩ := load_row hE h
    refine ⟨t, ht, fun S ℓ w v hR hp => ?_⟩
    obtain ⟨b, o, rfl, _, hc⟩ := row_pimm hp
    obtain ⟨x, hx, hr⟩ := hl S w b o hc
    exact ⟨x, ⟨_, rfl, hx⟩, hr⟩
  · split at h
    · rename_i row hL
      rw [nth_eq] at hL
      obtain ⟨t, ht, hl⟩ := load_row hE h
      refine ⟨t, ht, fun S ℓ w v hR hp => ?_⟩
      obtain ⟨b, hb, rfl⟩ := ploc_inv hp
      obtain ⟨x, hx, hr⟩ := hl S w b 0 (hR.row hb hL)
      exact ⟨x, ⟨_, rfl, by simpa using hx⟩, hr⟩
    · cases h
  · split at h
    · rename_i o ho
      rw [nth_eq] at ho
      obtain ⟨⟨hg, hrn⟩, h⟩ := ck_some h
      obtain ⟨t, ht, hl⟩ := load_row hE h
      refine ⟨t, ht, fun S ℓ w v hR hp => ?_⟩
      obtain ⟨_, l, h1, h2, h3⟩ := pown_inv hp
      rw [hR.gen_eq ho] at h1
      cases h1
      obtain rfl := h3 hg.symm
      obtain ⟨x, hx, hr⟩ := hl S w _ _ (hR.orow ho hrn)
      exact ⟨x, ⟨_, rfl, hx⟩, hr⟩
    · cases h
  · cases h
theorem add_none (a : Addr) (n : Nat) (h : a.spot = none) : a.add n = ⟨a.block, a.off + n, none⟩ := by
  unfold Addr.add; split
  · rename_i h0; subst h0; cases a; simp_all
  · rfl
theorem fieldAddr_ok (hE : EnvOk P E) {s : TypeId} {si : TI} {fs : List (Nat × TypeId)} (hs : E.ti s = some si) (hk : si.kind = .struct fs) {f off : Nat} {ft : TypeId} (hf : nth fs f = some (off, ft)) {fi : TI} (hfi : E.ti ft = some fi) (hsz : 1 ≤ fi.size)
    {S : Shd} {ℓ : Lm} {w : World} {p : TV} {v : Value} (hp : RV S w ℓ p v) (hptr : isPtr p = true) : ∃ x, (∀ a, v = .pointer (some a) → (Instr.fieldAt s v f).run P w = .ok x w) ∧ RV S w ℓ (addOff off p) x := by
  have hT := (hE.ti s si hs).kind
  rw [hk] at hT
  obtain ⟨fields, hu, hm, _⟩ := hT
  rw [nth_eq] at hf
  have hfld : ∃ fd, fields[f]? = some fd ∧ fd.offset = off ∧ fd.type = ft := by
    rw [← hm, List.getElem?_map] at hf
    rw [Option.map_eq_some_iff] at hf
    obtain ⟨fd, h1, h2⟩ := hf
    simp only [Array.getElem?_toList] at h1
    simp only [Prod.mk.injEq] at h2
    exact ⟨fd, h1, h2.1, h2.2⟩
  obtain ⟨fd, h1, h2, h3⟩ := hfld
  have run : ∀ a : Addr, a.spot = none → (Instr.fieldAt s (.pointer (some a)) f).run P w = .ok (.pointer (some ⟨a.block, a.off + off, none⟩)) w := by
    intro a ha
    unfold Instr.fieldAt
    simp only [Sem.run_bind, run_underlying hu, Result.andThen_ok, h1, Instr.sureAddr, Sem.run_pure, fieldPlace, h3, run_sizeOf (hE.ti ft fi hfi)]
    rw [Sem.run_ite, if_neg (by omega), h2, add_none a off ha]
    rfl
  cases p <;> simp [isPtr] at hptr
  case pimm row o =>
    obtain ⟨b, o', rfl, hi, hc⟩ := row_pimm hp
    refine ⟨_, fun a ha => run _ rfl, ?_⟩
    simp only [addOff, Nat.add_assoc]
    exact .pimm _ row (o + off) b o' (fun j => (w.cell? ⟨b, o' + j, none⟩).getD undef) hi (fun j t ht => by obtain ⟨v, hv, _⟩ := hc j t ht; simp [hv]) (fun j t ht => by obtain ⟨v, hv, hr⟩ := hc j t ht; simpa [hv] using hr)
  case ploc d o =>
    obtain ⟨b, hb, rfl⟩ := ploc_inv hp
    exact ⟨_, fun a ha => run _ rfl, .ploc _ d (o + off) b hb⟩
  case pown id g r o =>
    obtain ⟨⟨b, o', rfl⟩, l, a1, a2, a3⟩ := pown_inv hp
    refine ⟨_, fun a ha => run _ rfl, ?_⟩
    refine .pown _ id g r (o + off) _ l a1 a2 ⟨_, _, rfl⟩ fun hg => ?_
    have h := a3 hg
    simp only [Value.pointer.injEq, Option.some.injEq, Addr.mk.injEq] at h
    obtain ⟨rfl, rfl, _⟩ := h
    simp [Nat.add_assoc]
theorem ptr_some {S : Shd} {ℓ : Lm} {w : World} {p : TV} {v : Value} (hp : RV S w ℓ p v) (hptr : isPtr p = true) : ∃ a, v = .pointer (some a) := by
  cases p <;> simp [isPtr] at hptr
  · obtain ⟨b, o, rfl, _⟩ := row_pimm hp; exact ⟨_, rfl⟩
  · obtain ⟨b, _, rfl⟩ := ploc_inv hp; exact ⟨_, rfl⟩
  · obtain ⟨⟨b, o, rfl⟩, _⟩ := pown_inv hp; exact ⟨_, rfl⟩
theorem lst_inv {S : Shd} {ℓ : Lm} {w : World} {fr ex nn : Bool} {sz n : Nat} {f : Nat → List TV} {v : Value} (h : RV S w ℓ (.lst fr ex nn sz n f) v) :
    ∃ (a : Option Addr) (cap : Nat), v = .slice a n cap ∧ n ≤ cap ∧ (ex = true → cap = n) ∧ (nn = true → a ≠ none) ∧ (a = none → n = 0 ∧ cap = 0) ∧ (0 < n → ∃ b, a = some b ∧ S.imm b.block ∧ b.spot = none ∧ (fr = true → S.base ≤ b.block) ∧
      ∀ i, i < n → (f i).length = sz ∧ ∀ (j : Nat) (t : TV), (f i)[j]? = some t → ∃ x, w.cell? ⟨b.block, b.off + i * sz + j, none⟩ = some x ∧ RV S w no t x) := by
  cases h with
  | lst _ _ _ _ _ _ _ a cap vals hn hx hi hs hc hv =>
    exact ⟨some a, cap, rfl, hn, hx, fun _ => by simp, (fun h => by cases h), fun h0 => ⟨a, rfl, (hi h0).1, (hi h0).2.1, (hi h0).2.2, fun i hi' => ⟨hs i hi', fun j t ht => ⟨_, hc i j t hi' ht, hv i j t hi' ht⟩⟩⟩⟩
  | lst0 => exact ⟨none, 0, rfl, Nat.le_refl _, fun _ => rfl, (fun h => by cases h), fun _ => ⟨rfl, rfl⟩, fun h => absurd h (Nat.lt_irrefl _)⟩
theorem lst_mk {S : Shd} {w : World} (ℓ : Lm) (fr : Bool) {sz n : Nat} {f : Nat → List TV} {a : Option Addr} {cap : Nat} (hn : n ≤ cap) (h0 : a = none → n = 0 ∧ cap = 0)
    (h : 0 < n → ∃ b, a = some b ∧ S.imm b.block ∧ b.spot = none ∧ (fr = true → S.base ≤ b.block) ∧ ∀ i, i < n → (f i).length = sz ∧ ∀ (j : Nat) (t : TV), (f i)[j]? = some t → ∃ x, w.cell? ⟨b.block, b.off + i * sz + j, none⟩ = some x ∧ RV S w no t x) :
    RV S w ℓ (.lst fr false false sz n f) (.slice a n cap) := by
  cases a with
  | none => obtain ⟨rfl, rfl⟩ := h0 rfl; exact .lst0 ..
  | some b =>
    refine .lst ℓ fr false false sz n f b cap (fun i j => (w.cell? ⟨b.block, b.off + i * sz + j, none⟩).getD undef) hn (fun h => by cases h) (fun h1 => ?_) (fun i hi => ?_) (fun i j t hi ht => ?_) (fun i j t hi ht => ?_)
    · obtain ⟨b', e, h2, h3, h4, _⟩ := h h1; cases e; exact ⟨h2, h3, h4⟩
    · obtain ⟨b', e, _, _, _, h5⟩ := h (by omega); exact (h5 i hi).1
    · obtain ⟨b', e, _, _, _, h5⟩ := h (by omega); cases e
      obtain ⟨x, hx, _⟩ := (h5 i hi).2 j t ht; simp [hx]
    · obtain ⟨b', e, _, _, _, h5⟩ := h (by omega); cases e
      obtain ⟨x, hx, hr⟩ := (h5 i hi).2 j t ht; simpa [hx] using hr
theorem idx_cast {i : Int} {n : Nat} (h0 : 0 ≤ i) (h1 : i < n) : i.toNat < n := by omega
theorem indexAddr_ok {R : Type} (hE : EnvOk P E) {H : Heap} {ty : TypeId} {x ix : TV} {K : TV → Option R} {r : R} (h : indexAddrK E H ty x ix K = some r) :
    ∃ t, K t = some r ∧ ∀ (S : Shd) (ℓ : Lm) (L : Loc) (w : World) (vx vi : Value), HR S ℓ L H w → RV S w ℓ x vx → RV S w ℓ ix vi → ∃ v, (Instr.indexAt ty vx vi).run P w = .ok v w ∧ RV S w ℓ t v := by
  unfold indexAddrK at h
  split at h
  · rename_i sz0 b0 z0 e k i hti
    split at h
    · cases h
    rename_i ei hei
    have hk := (hE.ti ty _ hti).kind
    simp only [KOk] at hk
    have hsz : ∀ w, (sizeOf e).run P w = .ok ei.size w := fun w => run_sizeOf (hE.ti e ei hei)
    have run : ∀ (w : World) (a : Addr) (n cap : Nat), (0 ≤ i ∧ i < n) → (Instr.indexAt ty (.slice (some a) n cap) (.int k i)).run P w = .ok (.pointer (some (a.add (i.toNat * ei.size)))) w := by
      intro w a n cap hb
      unfold Instr.indexAt
      simp only [asIntOf, Sem.run_bind, Sem.run_pure, Result.andThen_ok, run_underlying hk]
      rw [Sem.run_ite, if_pos hb]
      simp [hsz]
    split at h
    · rename_i fr ex nn sz n f
      obtain ⟨hb, h⟩ := ck_some h
      obtain ⟨hs, h⟩ := ck_some h
      refine ⟨_, h, fun S ℓ L w vx vi hR hx hi => ?_⟩
      obtain rfl := int_inv hi
      obtain ⟨a, cap, rfl, h1, _, _, _, h3⟩ := lst_inv hx
      have hin := idx_cast hb.1 hb.2
      obtain ⟨b, rfl, h4, h5, _, h6⟩ := h3 (by omega)
      refine ⟨_, run w b n cap hb, ?_⟩
      rw [add_none b _ h5]
      obtain ⟨h7, h8⟩ := h6 i.toNat hin
      have := RV.pimm (S := S) (w := w) ℓ (f i.toNat) 0 b.block (b.off + i.toNat * ei.size) (fun j => (w.cell? ⟨b.block, b.off + i.toNat * ei.size + j, none⟩).getD undef) h4 (fun j t ht => by
        obtain ⟨x, hx, _⟩ := h8 j t ht; rw [hs] at hx; simp [hx]) (fun j t ht => by
        obtain ⟨x, hx, hr⟩ := h8 j t ht; rw [hs] at hx; simpa [hx] using hr)
      simpa using this
    · rename_i id g lo n
      split at h
      · rename_i o ho
        rw [nth_eq] at ho
        obtain ⟨hg, h⟩ := ck_some h
        obtain ⟨hb, h⟩ := ck_some h
        obtain ⟨hs, h⟩ := ck_some h
        refine ⟨_, h, fun S ℓ L w vx vi hR hx hi => ?_⟩
        obtain rfl := int_inv hi
        obtain ⟨l, a1, a2, a3⟩ := own_inv hx
        have hgl := hR.gen_eq ho
        rw [a1] at hgl; cases hgl
        obtain ⟨a, cap, rfl, b1, b2, b3, b4, b5⟩ := a3 hg.symm
        have hsz' := (hR.blk id o ho).2.2.2.1
        refine ⟨_, run w a n cap hb, ?_⟩
        rw [add_none a _ b2, b1, b5]
        refine .pown _ id g _ 0 _ _ a1 a2 ⟨_, _, rfl⟩ fun _ => ?_
        rw [hsz', hs]
        cases lo with
        | zero => simp
        | succ lo => simp [Nat.add_mul]
      · cases h
    · cases h
  · cases h
theorem len_ok {R : Type} (hE : EnvOk P E) {ty : TypeId} {H : Heap} {x : TV} {K : TV → Option R} {r : R} (h : lenK E ty H x K = some r) :
    ∃ t, K t = some r ∧ ∀ (S : Shd) (ℓ : Lm) (L : Loc) (w : World) (vx : Value), HR S ℓ L H w → RV S w ℓ x vx → ∀ (ts : Array TypeId) (u : TypeId) (xs : Array Value), ts[0]? = some ty → xs[0]? = some vx → ∃ v, (Builtin.len_ ts u xs).run P w = .ok v w ∧ RV S w ℓ t v := by
  unfold lenK at h
  split at h
  · rename_i hti
    have hk := (hE.ti ty _ hti).kind
    simp only [KOk] at hk
    split at h
    · rename_i s
      refine ⟨_, h, fun S ℓ L w vx hR hx ts u xs h1 h2 => ⟨_, ?_, .int ..⟩⟩
      obtain rfl := str_inv hx
      unfold Builtin.len_
      simp only [h1, h2, Sem.run_bind, run_underlying hk, Result.andThen_ok, Sem.run_pure, goInt]
    · cases h
  · rename_i e hti
    have hk := (hE.ti ty _ hti).kind
    simp only [KOk] at hk
    have run : ∀ (w : World) (ts : Array TypeId) (u : TypeId) (xs : Array Value) (a : Option Addr) (n cap : Nat), ts[0]? = some ty → xs[0]? = some (.slice a n cap) → (Builtin.len_ ts u xs).run P w = .ok (.int .i64 n) w := by
      intro w ts u xs a n cap h1 h2
      unfold Builtin.len_
      simp only [h1, h2, Sem.run_bind, run_underlying hk, Result.andThen_ok, Sem.run_pure, goInt]
    split at h
    · refine ⟨_, h, fun S ℓ L w vx hR hx ts u xs h1 h2 => ?_⟩
      obtain ⟨a, cap, rfl, _⟩ := lst_inv hx
      exact ⟨_, run w ts u xs _ _ _ h1 h2, .int ..⟩
    · split at h
      · rename_i o ho
        rw [nth_eq] at ho
        obtain ⟨hg, h⟩ := ck_some h
        refine ⟨_, h, fun S ℓ L w vx hR hx ts u xs h1 h2 => ?_⟩
        obtain ⟨l, a1, a2, a3⟩ := own_inv hx
        have hgl := hR.gen_eq ho
        rw [a1] at hgl; cases hgl
        obtain ⟨a, cap, rfl, _⟩ := a3 hg.symm
        exact ⟨_, run w ts u xs _ _ _ h1 h2, .int ..⟩
      · cases h
    · cases h
  · cases h
end
end Go.Proofs.YtbdkjkedjldheaaTv
