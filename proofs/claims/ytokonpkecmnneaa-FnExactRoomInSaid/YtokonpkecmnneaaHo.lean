/- From the row's reading of an argument to the print's kinds, whatever its type: numbers, bools, strings, slices, structs. -/
import Derived.Test.YtokonpkecmnneaaWMore
import Derived.Test.YtokonpkecmnneaaWSized
import Derived.Deep.Slices
import Derived.SizedLaws
namespace Go.Proofs.YtokonpkecmnneaaHo
open Go.RowKit Go.ChangeShapes Go.WideShapes Go.Proofs.YtokonpkecmnneaaW.PrintWords
set_option linter.unusedVariables false
set_option linter.unusedSimpArgs false

/-- A number of its kind. -/
def inK (k : IntKind) (n : Int) : Prop := k.min ≤ n ∧ n ≤ k.max
theorem inK_i64 {n : Int} (h : inK .i64 n) : -9223372036854775808 ≤ n ∧ n ≤ 9223372036854775807 := by
  obtain ⟨h1, h2⟩ := h
  have e1 : IntKind.i64.min = -9223372036854775808 := by decide
  have e2 : IntKind.i64.max = 9223372036854775807 := by decide
  omega
section
variable {H : Type} (enc : TypeId × Value → H) (P : Program) (w : World) (spare : Nat → Bool) (held : Bool)

/-- What reads as data of type t is of kind d; q: what is known of it. -/
def Opn {α : Type} (t : TypeId) (d : Kd α) (q : α → Prop) : Prop :=
  ∀ (fuel : Nat) (cs : List Value) (x : DataW H × List MemPlace), DataW.trod enc P w 0 spare held fuel t cs = some x → (∀ n ∈ x.1.weights P t, n ≤ reachBytes) → ∃ v, d.K w v cs ∧ q v
/-- The same of a struct's fields from one on, in line from place o. -/
def OpnF {α : Type} (fs : List Field) (o : Nat) (d : Kd α) (q : α → Prop) : Prop :=
  ∀ (n : Nat) (cs : List Value) (xs : List (DataW H × List MemPlace)), (∀ (i : Nat) (f : Field), fs[i]? = some f → DataW.trod enc P w 0 spare held n f.type ((cs.drop f.offset).take (P.cellsOf f.type)) = xs[i]?) → cs.length = o + d.sz →
    xs.length = fs.length → (∀ n ∈ DataW.weightsEach P (fs.map (·.type)) (xs.map (·.1)), n ≤ reachBytes) → ∃ v, d.K w v (cs.drop o) ∧ q v
end

section
variable {H : Type} {enc : TypeId × Value → H} {P : Program} {w : World} {spare : Nat → Bool} {held : Bool}

theorem Opn.int {t : TypeId} (k : IntKind) (ht : P.underlying t = some (.int k)) : Opn enc P w spare held t (Kd.int k) (inK k) := by
  intro fuel cs x h _
  obtain ⟨n, rfl, _, hw⟩ := DataW.trod_int ht h
  refine ⟨n, rfl, ?_⟩
  simpa [Lit.wf, inK] using hw
theorem Opn.bool {t : TypeId} (ht : P.underlying t = some .bool) : Opn enc P w spare held t Kd.bool (fun _ => True) := by
  intro fuel cs x h _
  obtain ⟨b, rfl, _⟩ := DataW.trod_bool ht h
  exact ⟨b, rfl, trivial⟩
theorem Opn.string {t : TypeId} (ht : P.underlying t = some .string) : Opn enc P w spare held t Kd.string (fun s => s.size ≤ 140737488351232) := by
  intro fuel cs x h hw
  obtain ⟨s, rfl, rfl, _⟩ := DataW.trod_string ht h
  refine ⟨s, rfl, ?_⟩
  have := hw _ (by simp only [DataW.weights, List.mem_singleton]; rfl)
  simpa [reachBytes] using this
theorem weightsAll_mem {e : TypeId} : ∀ {l : List (DataW H)} {d : DataW H}, d ∈ l → ∀ n ∈ d.weights P e, n ∈ DataW.weightsAll P e l
  | x :: l, d, hd, n, hn => by
    simp only [DataW.weightsAll, List.mem_append]
    rcases List.mem_cons.1 hd with rfl | hd
    · exact .inl hn
    · exact .inr (weightsAll_mem hd n hn)
theorem Opn.slice {α : Type} [Inhabited α] {t e : TypeId} {d : Kd α} {q : α → Prop} (B : Nat) (ht : P.underlying t = some (.slice e)) (hc : P.cellsOf e = d.sz) (hB : P.bytesOf e = B) (he : Opn enc P w spare held e d q) :
    Opn enc P w spare held t (Kd.slice e d) (fun l => l.length * B ≤ 140737488351232 ∧ ∀ x ∈ l, q x) := by
  intro fuel cs x h hw
  rcases Go.Deep.open_slice ht h with ⟨rfl, rfl⟩ | ⟨a, len, cap, m, n, D, Pl, rfl, _, hl, hm, rfl, rfl, hel⟩
  · exact ⟨[], ⟨none, 0, rfl, Nat.le_refl _, rfl, Nat.zero_le _, fun hn => absurd hn (by simp)⟩, by simp, fun x hx => by simp at hx⟩
  · have hlm : len ≤ (if spare a.block then cap else len) := by split <;> omega
    have each : ∀ i, i < len → ∃ v, ∃ cs', w.cells? 0 (a.add (i * P.cellsOf e)) (P.cellsOf e) = some cs' ∧ d.K w v cs' ∧ q v := by
      intro i hi
      obtain ⟨cs', hcs, htr⟩ := hel i (by omega)
      obtain ⟨v, hv, hq⟩ := he n cs' _ htr (fun z hz => hw z (by
        simp only [DataW.weights, ht, List.mem_cons, List.mem_append]
        exact .inr (.inl (weightsAll_mem (List.mem_map.2 ⟨i, List.mem_range.2 hi, rfl⟩) z hz))))
      exact ⟨v, cs', hcs, hv, hq⟩
    obtain ⟨f, hf⟩ := Go.Deep.choose_lt each
    refine ⟨(List.range len).map f, ⟨some a, cap, by simp, by simpa using hl, by simp, ?_, fun _ => ⟨a, rfl, ?_⟩⟩, ?_, ?_⟩
    · simp only [List.length_map, List.length_range]
      unfold maxLen at hm
      omega
    · intro j p hj
      have hjl : j < len := by
        have := (List.getElem?_eq_some_iff.1 hj).1
        simpa using this
      obtain ⟨cs', hcs, hk, _⟩ := hf j hjl
      have hp : p = f j := by
        rw [List.getElem?_map, List.getElem?_range hjl] at hj
        exact (Option.some.inj hj).symm
      subst hp
      refine ⟨cs', d.K_len hk, hk, fun i u hu => ?_⟩
      have hi : i < d.sz := by rw [← d.K_len hk]; exact (List.getElem?_eq_some_iff.1 hu).1
      have hg := (World.cells?_some hcs).2.2 i (by rw [hc]; exact hi)
      rw [Go.Deep.add_add, hc, hu] at hg
      exact hg
    · have z := hw ((len + ((if spare a.block then cap else len) - len)) * P.bytesOf e) (by
        simp only [DataW.weights, ht, List.mem_cons, List.length_map, List.length_range]
        exact .inl trivial)
      have z2 : len * B ≤ (len + ((if spare a.block then cap else len) - len)) * P.bytesOf e := by
        rw [hB]
        exact Nat.mul_le_mul_right _ (Nat.le_add_right _ _)
      simp only [List.length_map, List.length_range]
      exact Nat.le_trans z2 (by simpa [reachBytes] using z)
    · intro x hx
      obtain ⟨i, hi, rfl⟩ := List.mem_map.1 hx
      obtain ⟨_, _, _, hq⟩ := hf i (List.mem_range.1 hi)
      exact hq

theorem OpnF.one {α : Type} {f : Field} {o : Nat} {d : Kd α} {q : α → Prop} (ho : f.offset = o) (hc : P.cellsOf f.type = d.sz) (h : Opn enc P w spare held f.type d q) : OpnF enc P w spare held [f] o d q := by
  intro n cs xs hx hl hn hw
  have h0 := hx 0 f rfl
  obtain ⟨x, rfl⟩ : ∃ x, xs = [x] := List.length_eq_one_iff.1 hn
  have e : (cs.drop f.offset).take (P.cellsOf f.type) = cs.drop o := by
    rw [ho, hc, List.take_of_length_le]
    simp [hl]
  rw [e] at h0
  exact h n _ x h0 (fun z hz => hw z (by simpa [DataW.weightsEach] using hz))
theorem OpnF.cons {α β : Type} {f : Field} {fs : List Field} {o o2 : Nat} {d : Kd α} {d2 : Kd β} {q : α → Prop} {q2 : β → Prop} (ho : f.offset = o) (hc : P.cellsOf f.type = d.sz) (ho2 : o2 = o + d.sz) (h : Opn enc P w spare held f.type d q) (h2 : OpnF enc P w spare held fs o2 d2 q2) :
    OpnF enc P w spare held (f :: fs) o (Kd.pair d d2) (fun x => q x.1 ∧ q2 x.2) := by
  intro n cs xs hx hl hn hw
  subst ho2
  obtain ⟨x, xs, rfl⟩ : ∃ x ys, xs = x :: ys := by
    cases xs with
    | nil => simp at hn
    | cons x ys => exact ⟨x, ys, rfl⟩
  have hsz : (Kd.pair d d2).sz = d.sz + d2.sz := rfl
  rw [hsz] at hl
  have h0 := hx 0 f rfl
  rw [ho, hc] at h0
  obtain ⟨v, hk, hq⟩ := h n _ x h0 (fun z hz => hw z (by simp only [List.map_cons, DataW.weightsEach, List.mem_append]; exact .inl hz))
  obtain ⟨v2, hk2, hq2⟩ := h2 n cs xs (fun i g hg => by simpa using hx (i + 1) g (by simpa using hg)) (by omega) (by simpa using hn) (fun z hz => hw z (by simp only [List.map_cons, DataW.weightsEach, List.mem_append]; exact .inr hz))
  refine ⟨(v, v2), ⟨_, _, ?_, hk, hk2⟩, hq, hq2⟩
  rw [← List.drop_drop, List.take_append_drop]
theorem Opn.struct {α β : Type} {t : TypeId} {fs : Array Field} {d : Kd α} {q : α → Prop} (f : β → α) (g : α → β) (hfg : ∀ x, f (g x) = x) (ht : P.underlying t = some (.struct fs)) (hc : P.cellsOf t = d.sz) (h : OpnF enc P w spare held fs.toList 0 d q) :
    Opn enc P w spare held t (Kd.iso d f) (fun x => q (f x)) := by
  intro fuel cs x hx hw
  obtain ⟨xs, n, rfl, rfl, hl, hn, hf⟩ := DataW.trod_struct ht hx
  obtain ⟨v, hk, hq⟩ := h n cs xs (fun i g hg => hf i g (by simpa using hg)) (by omega) (by simpa using hn) (fun z hz => hw z (by simpa [DataW.weights, ht] using hz))
  refine ⟨g v, ?_, by show q (f (g v)); rw [hfg]; exact hq⟩
  show d.K w (f (g v)) cs
  rw [hfg]
  simpa using hk
/-- An argument. -/
theorem Opn.arg {α : Type} {ts : List TypeId} {ds : List (DataW H)} {j : Nat} {t : TypeId} {dd : DataW H} {ps : List MemPlace} {v : Value} {d : Kd α} {q : α → Prop} (h : Opn enc P w spare held t d q) (hsz : (DataW.weightsEach P ts ds).all (· ≤ reachBytes) = true) (ht : ts[j]? = some t) (hd : ds[j]? = some dd)
    (hr : DataW.Trod enc P w 0 spare held t v dd ps) : ∃ x, d.K w x v.cells.toList ∧ q x := by
  obtain ⟨fuel, hf⟩ := hr
  exact h fuel _ _ hf (fun n hn => by simpa using List.all_eq_true.1 hsz _ (DataW.weights_mem_each ht hd n hn))
end
end Go.Proofs.YtokonpkecmnneaaHo
