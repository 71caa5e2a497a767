/- An evaluator of the program's code over trees: how its values lie in memory. Conditions: none. -/
import Derived.Test.YtbdkjkedjldheaaKvA
import Derived.Below
import Derived.Tactics
import Derived.Orders
namespace Go.Proofs.YtbdkjkedjldheaaTv
set_option linter.unusedVariables false
set_option linter.unusedSimpArgs false
set_option linter.unnecessarySimpa false
open Go Go.RowKit
theorem nth_eq {α : Type} : ∀ (l : List α) (n : Nat), nth l n = l[n]?
  | [], _ => by simp [nth]
  | _ :: _, 0 => by simp [nth]
  | _ :: l, n + 1 => by simp [nth, nth_eq l n]
theorem upd_eq {α : Type} : ∀ (l : List α) (n : Nat) (b : α), upd l n b = l.set n b
  | [], _, _ => by simp [upd]
  | _ :: _, 0, _ => by simp [upd]
  | _ :: l, n + 1, b => by simp [upd, upd_eq l n]
/-- Where the evaluator's objects lie. -/
structure Shd where
  base : Nat
  imm : Nat → Prop
  kept : Nat → Prop
  gen : Nat → Option Nat
  blk : Nat → Nat
  cap : Nat → Nat
  sz : Nat → Nat
abbrev Lm := Nat → Option Nat
abbrev no : Lm := fun _ => none
inductive RV (S : Shd) (w : World) : Lm → TV → Value → Prop
  | undef (ℓ : Lm) (v : Value) : RV S w ℓ .undef v
  | int (ℓ : Lm) (k : IntKind) (n : Int) : RV S w ℓ (.int k n) (.int k n)
  | bool (ℓ : Lm) (b : Bool) : RV S w ℓ (.bool b) (.bool b)
  | str (ℓ : Lm) (s : ByteArray) : RV S w ℓ (.str s) (.string s)
  | agg (ℓ : Lm) (cs : List TV) (vs : Array Value) (hl : cs.length = vs.size) (h : ∀ (i : Nat) (t : TV) (v : Value), cs[i]? = some t → vs[i]? = some v → RV S w ℓ t v) : RV S w ℓ (.agg cs) (.agg vs)
  | tup (ℓ : Lm) (cs : List TV) (vs : Array Value) (hl : cs.length = vs.size) (h : ∀ (i : Nat) (t : TV) (v : Value), cs[i]? = some t → vs[i]? = some v → RV S w ℓ t v) : RV S w ℓ (.tup cs) (.tuple vs)
  | lst (ℓ : Lm) (fr ex nn : Bool) (sz n : Nat) (f : Nat → List TV) (a : Addr) (cap : Nat) (vals : Nat → Nat → Value) (hn : n ≤ cap) (hx : ex = true → cap = n)
      (hi : 0 < n → S.imm a.block ∧ a.spot = none ∧ (fr = true → S.base ≤ a.block)) (hs : ∀ i, i < n → (f i).length = sz)
      (hc : ∀ (i j : Nat) (t : TV), i < n → (f i)[j]? = some t → w.cell? ⟨a.block, a.off + i * sz + j, none⟩ = some (vals i j))
      (hv : ∀ (i j : Nat) (t : TV), i < n → (f i)[j]? = some t → RV S w no t (vals i j)) : RV S w ℓ (.lst fr ex nn sz n f) (.slice (some a) n cap)
  | lst0 (ℓ : Lm) (fr ex : Bool) (sz : Nat) (f : Nat → List TV) : RV S w ℓ (.lst fr ex false sz 0 f) (.slice none 0 0)
  | own (ℓ : Lm) (id g lo n : Nat) (v : Value) (l : Nat) (hl : S.gen id = some l) (hg : g ≤ l) (hp : ∃ a cap, v = .slice a n cap)
      (h : g = l → ∃ a cap, v = .slice (some a) n cap ∧ a.block = S.blk id ∧ a.spot = none ∧ lo + cap = S.cap id ∧ n ≤ cap ∧ a.off = lo * S.sz id) : RV S w ℓ (.own id g lo n) v
  | pnil (ℓ : Lm) : RV S w ℓ .pnil (.pointer none)
  | pimm (ℓ : Lm) (row : List TV) (off b o : Nat) (vals : Nat → Value) (hi : S.imm b) (hc : ∀ (j : Nat) (t : TV), row[j]? = some t → w.cell? ⟨b, o + j, none⟩ = some (vals j))
      (hv : ∀ (j : Nat) (t : TV), row[j]? = some t → RV S w no t (vals j)) : RV S w ℓ (.pimm row off) (.pointer (some ⟨b, o + off, none⟩))
  | ploc (ℓ : Lm) (d off b : Nat) (h : ℓ d = some b) : RV S w ℓ (.ploc d off) (.pointer (some ⟨b, off, none⟩))
  | pown (ℓ : Lm) (id g r off : Nat) (v : Value) (l : Nat) (hl : S.gen id = some l) (hg : g ≤ l) (hp : ∃ b o, v = .pointer (some ⟨b, o, none⟩)) (h : g = l → v = .pointer (some ⟨S.blk id, r * S.sz id + off, none⟩)) : RV S w ℓ (.pown id g r off) v
  | fn (ℓ : Lm) (f : FuncId) (cs : List TV) (vs : Array Value) (hl : cs.length = vs.size) (h : ∀ (i : Nat) (t : TV) (v : Value), cs[i]? = some t → vs[i]? = some v → RV S w ℓ t v) : RV S w ℓ (.fn f cs) (.func (.func f) #[] vs)
/-- S' knows more than S. -/
structure Ext (S S' : Shd) : Prop where
  base : S'.base = S.base
  kept : S'.kept = S.kept
  imm : ∀ b, S.imm b → S'.imm b
  gen : ∀ id l, S.gen id = some l → ∃ l', S'.gen id = some l' ∧ l ≤ l' ∧ S'.sz id = S.sz id ∧ (l' = l → S'.blk id = S.blk id ∧ S'.cap id = S.cap id)
theorem Ext.refl (S : Shd) : Ext S S := ⟨rfl, rfl, fun _ h => h, fun _ l h => ⟨l, h, Nat.le_refl _, rfl, fun _ => ⟨rfl, rfl⟩⟩⟩
theorem Ext.trans {A B C : Shd} (h : Ext A B) (k : Ext B C) : Ext A C :=
  ⟨k.base.trans h.base, k.kept.trans h.kept, fun b x => k.imm b (h.imm b x), fun id l x => by
    obtain ⟨l1, e1, le1, s1, b1⟩ := h.gen id l x
    obtain ⟨l2, e2, le2, s2, b2⟩ := k.gen id l1 e1
    refine ⟨l2, e2, Nat.le_trans le1 le2, s2.trans s1, fun he => ?_⟩
    have h1 : l1 = l := by omega
    have h2 : l2 = l1 := by omega
    exact ⟨(b2 h2).1.trans (b1 h1).1, (b2 h2).2.trans (b1 h1).2⟩⟩
/-- What a step leaves as it is. -/
structure Step (S : Shd) (w w' : World) : Prop where
  below : Below S.base w w'
  imm : ∀ b, S.imm b → w'.heap[b]? = w.heap[b]?
  kept : ∀ b, S.kept b → w'.heap[b]? = w.heap[b]?
theorem Step.refl (S : Shd) (w : World) : Step S w w := ⟨Below.refl _ _, fun _ _ => rfl, fun _ _ => rfl⟩
theorem Step.trans {S S' : Shd} {a b c : World} (h : Step S a b) (hE : Ext S S') (k : Step S' b c) : Step S a c :=
  ⟨h.below.trans (hE.base ▸ k.below), fun x hx => (k.imm x (hE.imm x hx)).trans (h.imm x hx), fun x hx => (k.kept x (by rw [hE.kept]; exact hx)).trans (h.kept x hx)⟩
theorem cell_of_heap {w w' : World} {b : Nat} (h : w'.heap[b]? = w.heap[b]?) (o : Nat) : w'.cell? ⟨b, o, none⟩ = w.cell? ⟨b, o, none⟩ := by
  simp [World.cell?, h]
/-- A value stays what it is. -/
theorem RV.mono {S S' : Shd} {w w' : World} (hE : Ext S S') (hw : ∀ b, S.imm b → w'.heap[b]? = w.heap[b]?) {ℓ : Lm} {t : TV} {v : Value} (h : RV S w ℓ t v) :
    ∀ (ℓ' : Lm), (∀ d b, ℓ d = some b → ℓ' d = some b) → RV S' w' ℓ' t v := by
  induction h with
  | undef ℓ v => exact fun ℓ' _ => .undef ℓ' v
  | int ℓ k n => exact fun ℓ' _ => .int ℓ' k n
  | bool ℓ b => exact fun ℓ' _ => .bool ℓ' b
  | str ℓ s => exact fun ℓ' _ => .str ℓ' s
  | agg ℓ cs vs hl h ih => exact fun ℓ' hs => .agg ℓ' cs vs hl fun i t v a b => ih i t v a b ℓ' hs
  | tup ℓ cs vs hl h ih => exact fun ℓ' hs => .tup ℓ' cs vs hl fun i t v a b => ih i t v a b ℓ' hs
  | lst ℓ fr ex nn sz n f a cap vals hn hx hi hs hc hv ih =>
    intro ℓ' _
    refine .lst ℓ' fr ex nn sz n f a cap vals hn hx (fun h0 => ?_) hs (fun i j t hi' ht => ?_) (fun i j t hi' ht => ih i j t hi' ht no fun _ _ e => e)
    · obtain ⟨x, y, z⟩ := hi h0
      exact ⟨hE.imm _ x, y, fun e => hE.base ▸ z e⟩
    · rw [cell_of_heap (hw _ (hi (by omega)).1)]; exact hc i j t hi' ht
  | lst0 ℓ fr ex sz f => exact fun ℓ' _ => .lst0 ℓ' fr ex sz f
  | own ℓ id g lo n v l hl hg hp h =>
    intro ℓ' _
    obtain ⟨l', e, le, es, eb⟩ := hE.gen id l hl
    refine .own ℓ' id g lo n v l' e (by omega) hp fun hgl => ?_
    have hll : l' = l := by omega
    obtain ⟨a, cap, x⟩ := h (by omega)
    exact ⟨a, cap, by rw [(eb hll).1, (eb hll).2, es]; exact x⟩
  | pnil ℓ => exact fun ℓ' _ => .pnil ℓ'
  | pimm ℓ row off b o vals hi hc hv ih =>
    intro ℓ' _
    exact .pimm ℓ' row off b o vals (hE.imm _ hi) (fun j t ht => by rw [cell_of_heap (hw _ hi)]; exact hc j t ht) (fun j t ht => ih j t ht no fun _ _ e => e)
  | ploc ℓ d off b h => exact fun ℓ' hs => .ploc ℓ' d off b (hs d b h)
  | pown ℓ id g r off v l hl hg hp h =>
    intro ℓ' _
    obtain ⟨l', e, le, es, eb⟩ := hE.gen id l hl
    refine .pown ℓ' id g r off v l' e (by omega) hp fun hgl => ?_
    have hll : l' = l := by omega
    rw [(eb hll).1, es]; exact h (by omega)
  | fn ℓ f cs vs hl h ih => exact fun ℓ' hs => .fn ℓ' f cs vs hl fun i t v a b => ih i t v a b ℓ' hs
/-- Without a frame's own variables. -/
theorem RV.up {S : Shd} {w : World} {t : TV} {v : Value} (h : RV S w no t v) (ℓ : Lm) : RV S w ℓ t v := h.mono (Ext.refl _) (fun _ _ => rfl) ℓ (fun _ _ e => by cases e)
theorem RV.noloc1 {S : Shd} {w : World} {ℓ : Lm} {t : TV} {v : Value} (h : RV S w ℓ t v) (hn : YtbdkjkedjldheaaTv.noloc1 t = true) (ℓ' : Lm) : RV S w ℓ' t v := by
  cases h with
  | undef _ v => exact .undef _ v
  | int _ k n => exact .int _ k n
  | bool _ b => exact .bool _ b
  | str _ s => exact .str _ s
  | agg => simp [YtbdkjkedjldheaaTv.noloc1] at hn
  | tup => simp [YtbdkjkedjldheaaTv.noloc1] at hn
  | lst _ fr ex nn sz n f a cap vals a1 a2 a3 a4 a5 a6 => exact .lst _ fr ex nn sz n f a cap vals a1 a2 a3 a4 a5 a6
  | lst0 => exact .lst0 ..
  | own _ id g lo n v l a1 a2 a3 a4 => exact .own _ id g lo n v l a1 a2 a3 a4
  | pnil => exact .pnil _
  | pimm _ row off b o vals a1 a2 a3 => exact .pimm _ row off b o vals a1 a2 a3
  | ploc => simp [YtbdkjkedjldheaaTv.noloc1] at hn
  | pown _ id g r off v l a1 a2 a3 a4 => exact .pown _ id g r off v l a1 a2 a3 a4
  | fn => simp [YtbdkjkedjldheaaTv.noloc1] at hn
theorem all_get {p : TV → Bool} {cs : List TV} (h : cs.all p = true) {i : Nat} {t : TV} (ht : cs[i]? = some t) : p t = true :=
  List.all_eq_true.1 h t (List.mem_of_getElem? ht)
theorem RV.nolocD {S : Shd} {w : World} {ℓ : Lm} : ∀ (d : Nat) {t : TV} {v : Value} (_ : RV S w ℓ t v) (_ : YtbdkjkedjldheaaTv.nolocD d t = true) (ℓ' : Lm), RV S w ℓ' t v := by
  intro d
  induction d with
  | zero => intro t v h hn ℓ'; cases t <;> exact h.noloc1 hn ℓ'
  | succ d ih =>
    intro t v h hn ℓ'
    cases h with
    | agg _ cs vs hl h => exact .agg _ cs vs hl fun i t v a b => ih (h i t v a b) (all_get (by simpa [YtbdkjkedjldheaaTv.nolocD] using hn) a) ℓ'
    | tup _ cs vs hl h => exact .tup _ cs vs hl fun i t v a b => ih (h i t v a b) (all_get (by simpa [YtbdkjkedjldheaaTv.nolocD] using hn) a) ℓ'
    | fn _ f cs vs hl h => exact .fn _ f cs vs hl fun i t v a b => ih (h i t v a b) (all_get (by simpa [YtbdkjkedjldheaaTv.nolocD] using hn) a) ℓ'
    | undef _ v => exact .undef _ v
    | int _ k n => exact .int _ k n
    | bool _ b => exact .bool _ b
    | str _ s => exact .str _ s
    | lst _ fr ex nn sz n f a cap vals a1 a2 a3 a4 a5 a6 => exact .lst _ fr ex nn sz n f a cap vals a1 a2 a3 a4 a5 a6
    | lst0 => exact .lst0 ..
    | own _ id g lo n v l a1 a2 a3 a4 => exact .own _ id g lo n v l a1 a2 a3 a4
    | pnil => exact .pnil _
    | pimm _ row off b o vals a1 a2 a3 => exact .pimm _ row off b o vals a1 a2 a3
    | ploc => simp [YtbdkjkedjldheaaTv.nolocD, YtbdkjkedjldheaaTv.noloc1] at hn
    | pown _ id g r off v l a1 a2 a3 a4 => exact .pown _ id g r off v l a1 a2 a3 a4
/-- A row of cells at the head of block b. -/
def RowR (S : Shd) (w : World) (b : Nat) (row : List TV) : Prop :=
  ∃ c e, w.heap[b]? = some (.cells c e (0, 0)) ∧ c.size = row.length ∧ ∀ (j : Nat) (t : TV), row[j]? = some t → ∃ v, c[j]? = some v ∧ RV S w no t v
def ObR (S : Shd) (w : World) (b cap : Nat) (o : Ob) : Prop :=
  ∃ c e, w.heap[b]? = some (.cells c e (0, 0)) ∧ c.size = cap * o.sz ∧ ∀ i, i < o.n → (o.f i).length = o.sz ∧ ∀ (j : Nat) (t : TV), (o.f i)[j]? = some t → ∃ v, c[i * o.sz + j]? = some v ∧ RV S w no t v
structure HR (S : Shd) (ℓ : Lm) (L : Loc) (H : Heap) (w : World) : Prop where
  base : S.base ≤ w.heap.size
  imm : ∀ b, S.imm b → b < w.heap.size
  kept : ∀ b, S.kept b → b < w.heap.size
  ki : ∀ b, S.kept b → ¬ S.imm b
  gen : ∀ id, S.gen id = (H[id]?).map (·.gen)
  blk : ∀ (id : Nat) (o : Ob), H[id]? = some o → S.base ≤ S.blk id ∧ ¬ S.imm (S.blk id) ∧ ¬ S.kept (S.blk id) ∧ S.sz id = o.sz ∧ o.n ≤ S.cap id ∧ ObR S w (S.blk id) (S.cap id) o
  inj : ∀ (i j : Nat) (oi oj : Ob), H[i]? = some oi → H[j]? = some oj → S.blk i = S.blk j → i = j
  loc : ∀ d b, ℓ d = some b → ∃ row, L[d]? = some (some row) ∧ S.base ≤ b ∧ ¬ S.imm b ∧ ¬ S.kept b ∧ RowR S w b row
  locv : ∀ (d : Nat) (row : List TV), L[d]? = some (some row) → ∃ b, ℓ d = some b
  linj : ∀ d d' b, ℓ d = some b → ℓ d' = some b → d = d'
  apart : ∀ (d b id : Nat) (o : Ob), ℓ d = some b → H[id]? = some o → b ≠ S.blk id
theorem lt_of_heap {w : World} {b : Nat} {o : Obj} (h : w.heap[b]? = some o) : b < w.heap.size := by
  rcases Nat.lt_or_ge b w.heap.size with h' | h'
  · exact h'
  · rw [Array.getElem?_eq_none h'] at h; cases h
theorem RowR.lt {S : Shd} {w : World} {b : Nat} {row : List TV} (h : RowR S w b row) : b < w.heap.size := by obtain ⟨c, e, h, _⟩ := h; exact lt_of_heap h
theorem ObR.lt {S : Shd} {w : World} {b cap : Nat} {o : Ob} (h : ObR S w b cap o) : b < w.heap.size := by obtain ⟨c, e, h, _⟩ := h; exact lt_of_heap h
theorem RowR.mono {S S' : Shd} {w w' : World} (hE : Ext S S') (hw : ∀ b, S.imm b → w'.heap[b]? = w.heap[b]?) {b : Nat} (hb : w'.heap[b]? = w.heap[b]?) {row : List TV} (h : RowR S w b row) : RowR S' w' b row := by
  obtain ⟨c, e, h1, h2, h3⟩ := h
  exact ⟨c, e, hb.trans h1, h2, fun j t ht => let ⟨v, hv, hr⟩ := h3 j t ht; ⟨v, hv, hr.mono hE hw no fun _ _ e => e⟩⟩
theorem ObR.mono {S S' : Shd} {w w' : World} (hE : Ext S S') (hw : ∀ b, S.imm b → w'.heap[b]? = w.heap[b]?) {b cap : Nat} (hb : w'.heap[b]? = w.heap[b]?) {o : Ob} (h : ObR S w b cap o) : ObR S' w' b cap o := by
  obtain ⟨c, e, h1, h2, h3⟩ := h
  exact ⟨c, e, hb.trans h1, h2, fun i hi => ⟨(h3 i hi).1, fun j t ht => let ⟨v, hv, hr⟩ := (h3 i hi).2 j t ht; ⟨v, hv, hr.mono hE hw no fun _ _ e => e⟩⟩⟩
/-- More is immutable, and the heap has grown: nothing else. -/
def Shd.grow (S : Shd) (lo hi : Nat) : Shd := { S with imm := fun b => S.imm b ∨ (lo ≤ b ∧ b < hi) }
theorem Shd.grow_ext (S : Shd) (lo hi : Nat) : Ext S (S.grow lo hi) := ⟨rfl, rfl, fun _ h => .inl h, fun _ l h => ⟨l, h, Nat.le_refl _, rfl, fun _ => ⟨rfl, rfl⟩⟩⟩
theorem HR.grow {S : Shd} {ℓ : Lm} {L : Loc} {H : Heap} {w w' : World} (h : HR S ℓ L H w) (hb : Below w.heap.size w w') : HR (S.grow w.heap.size w'.heap.size) ℓ L H w' := by
  have hE := S.grow_ext w.heap.size w'.heap.size
  have hw : ∀ b, S.imm b → w'.heap[b]? = w.heap[b]? := fun b x => hb.block b (h.imm b x)
  refine ⟨Nat.le_trans h.base hb.size, ?_, fun b x => Nat.lt_of_lt_of_le (h.kept b x) hb.size, fun b x => ?_, h.gen, ?_, h.inj, ?_, h.locv, h.linj, h.apart⟩
  · rintro b (x | x)
    · exact Nat.lt_of_lt_of_le (h.imm b x) hb.size
    · exact x.2
  · rintro (y | y)
    · exact h.ki b x y
    · exact absurd (h.kept b x) (Nat.not_lt.2 y.1)
  · intro id o ho
    obtain ⟨a1, a2, a3, a4, a5, a6⟩ := h.blk id o ho
    have hlt := a6.lt
    refine ⟨a1, ?_, a3, a4, a5, a6.mono hE hw (hb.block _ hlt)⟩
    rintro (x | x)
    · exact a2 x
    · have := x.1; exact absurd hlt (Nat.not_lt.2 this)
  · intro d b hd
    obtain ⟨row, a0, a1, a2, a3, a6⟩ := h.loc d b hd
    have hlt := a6.lt
    refine ⟨row, a0, a1, ?_, a3, a6.mono hE hw (hb.block _ hlt)⟩
    rintro (x | x)
    · exact a2 x
    · exact absurd hlt (Nat.not_lt.2 x.1)
theorem Step.of_below {S : Shd} {ℓ : Lm} {L : Loc} {H : Heap} {w w' : World} (h : HR S ℓ L H w) (hb : Below w.heap.size w w') : Step S w w' :=
  ⟨hb.mono h.base, fun b x => hb.block b (h.imm b x), fun b x => hb.block b (h.kept b x)⟩
theorem Below.drewB (w : World) : Below w.heap.size w w.drew := (Below.refl _ _).drew
/-- A frame: its temporaries and its memory. -/
structure Rel (S : Shd) (ℓ : Lm) (s : St) (a : Act) (w : World) : Prop where
  hr : HR S ℓ s.L s.H w
  len : s.T.length = a.tmps.size
  tm : ∀ (i : Nat) (t : TV) (v : Value), s.T[i]? = some t → a.tmps[i]? = some v → RV S w ℓ t v
  df : a.defers = []
def RVs (S : Shd) (w : World) (ℓ : Lm) (ts : List TV) (vs : List Value) : Prop := ts.length = vs.length ∧ ∀ (i : Nat) (t : TV) (v : Value), ts[i]? = some t → vs[i]? = some v → RV S w ℓ t v
theorem RVs.nil {S : Shd} {w : World} {ℓ : Lm} : RVs S w ℓ [] [] := ⟨rfl, fun i t v h => by simp at h⟩
theorem RVs.cons {S : Shd} {w : World} {ℓ : Lm} {t : TV} {v : Value} {ts : List TV} {vs : List Value} (h : RV S w ℓ t v) (hs : RVs S w ℓ ts vs) : RVs S w ℓ (t :: ts) (v :: vs) :=
  ⟨by simp [hs.1], fun i t' v' a b => by
    cases i with
    | zero => simp at a b; subst a; subst b; exact h
    | succ i => simp at a b; exact hs.2 i t' v' a b⟩
theorem RVs.append {S : Shd} {w : World} {ℓ : Lm} {ts ts' : List TV} {vs vs' : List Value} (h : RVs S w ℓ ts vs) (h' : RVs S w ℓ ts' vs') : RVs S w ℓ (ts ++ ts') (vs ++ vs') :=
  ⟨by simp [h.1, h'.1], fun i t v a b => by
    by_cases hi : i < ts.length
    · rw [List.getElem?_append_left hi] at a
      rw [List.getElem?_append_left (h.1 ▸ hi)] at b
      exact h.2 i t v a b
    · rw [List.getElem?_append_right (by omega)] at a
      rw [List.getElem?_append_right (by rw [← h.1]; omega), ← h.1] at b
      exact h'.2 _ t v a b⟩
def KOk (P : Program) (t : TypeId) : TK → Prop
  | .int k => P.underlying t = some (.int k)
  | .bool => P.underlying t = some .bool
  | .str => P.underlying t = some .string
  | .slice e => P.underlying t = some (.slice e)
  | .struct fs => ∃ fields, P.underlying t = some (.struct fields) ∧ fields.toList.map (fun f => (f.offset, f.type)) = fs ∧ (∀ f ∈ fields.toList, f.name ≠ "_") ∧ P.stoodInHeld t = false ∧ P.eqGuardType P.depth t = false
  | .other => ∃ d, P.underlying t = some d ∧ (∀ x, d ≠ .struct x) ∧ ∀ x y, d ≠ .array x y
def zOk : TV → Value → Bool
  | .int k n, .int k' n' => decide (k = k') && decide (n = n')
  | .bool b, .bool b' => b == b'
  | .str s, .string s' => decide (s = s')
  | .pnil, .pointer none => true
  | .lst _ _ false _ 0 _, .slice none 0 0 => true
  | .undef, _ => true
  | _, _ => false
theorem zOk_rv {S : Shd} {w : World} {ℓ : Lm} {t : TV} {v : Value} (h : zOk t v = true) : RV S w ℓ t v := by
  unfold zOk at h
  split at h
  · simp only [Bool.and_eq_true, decide_eq_true_eq] at h; obtain ⟨rfl, rfl⟩ := h; exact .int ..
  · simp only [beq_iff_eq] at h; subst h; exact .bool ..
  · simp only [decide_eq_true_eq] at h; subst h; exact .str ..
  · exact .pnil _
  · exact .lst0 ..
  · exact .undef ..
  · cases h
def zsOk : List TV → List Value → Bool
  | [], [] => true
  | t :: ts, v :: vs => zOk t v && zsOk ts vs
  | _, _ => false
theorem zsOk_rvs {S : Shd} {w : World} {ℓ : Lm} : ∀ {ts : List TV} {vs : List Value}, zsOk ts vs = true → RVs S w ℓ ts vs
  | [], [], _ => .nil
  | t :: ts, v :: vs, h => by
    simp only [zsOk, Bool.and_eq_true] at h
    exact .cons (zOk_rv h.1) (zsOk_rvs h.2)
  | [], _ :: _, h => by simp [zsOk] at h
  | _ :: _, [], h => by simp [zsOk] at h
structure TIok (P : Program) (t : TypeId) (i : TI) : Prop where
  info : ∃ inf z, P.info? t = some inf ∧ inf.size = i.size ∧ inf.bytes = i.bytes ∧ inf.zero = some z ∧ zsOk i.zero z.cells.toList = true ∧ i.zero.length = i.size
  kind : KOk P t i.kind
  one : i.isAgg = false → i.size = 1
structure EnvOk (P : Program) (E : Env) : Prop where
  fn : ∀ f x, E.fn f = some x → P.funcs[f]? = some x ∧ (x.name == "runtime.NumGoroutine") = false
  ti : ∀ t i, E.ti t = some i → TIok P t i
  mixed : P.follows .mixedOrders = true
end Go.Proofs.YtbdkjkedjldheaaTv
