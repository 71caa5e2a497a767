/- An evaluator of the program's code over trees: what a law's arguments read as. Conditions: none. -/
import Derived.Test.YtbdkjkedjldheaaKvR
import Derived.Deep.Slices
import Derived.SizedLaws
namespace Go.Proofs.YtbdkjkedjldheaaTv
set_option linter.unusedVariables false
set_option linter.unusedSimpArgs false
set_option linter.unnecessarySimpa false
open Go Go.RowKit Go.ChangeShapes Go.WideShapes
section
variable {H : Type} (enc : TypeId × Value → H) (P : Program) (w : World) (spare : Nat → Bool) (held : Bool)
/-- What reads as data of type t is a tree, and what is known of it. -/
def OpT {α : Type} (t : TypeId) (e : α → List TV) (q : α → Prop) : Prop :=
  ∀ (fuel : Nat) (cs : List Value) (x : DataW H × List MemPlace), DataW.trod enc P w 0 spare held fuel t cs = some x → (∀ n ∈ x.1.weights P t, n ≤ reachBytes) → ∃ v, RVs (Shd.all w) w no (e v) cs ∧ q v
/-- The same of a struct's fields from one on, in line from place o. -/
def OpTF {α : Type} (fs : List Field) (o sz : Nat) (e : α → List TV) (q : α → Prop) : Prop :=
  ∀ (n : Nat) (cs : List Value) (xs : List (DataW H × List MemPlace)), (∀ (i : Nat) (f : Field), fs[i]? = some f → DataW.trod enc P w 0 spare held n f.type ((cs.drop f.offset).take (P.cellsOf f.type)) = xs[i]?) → cs.length = o + sz →
    xs.length = fs.length → (∀ n ∈ DataW.weightsEach P (fs.map (·.type)) (xs.map (·.1)), n ≤ reachBytes) → ∃ v, RVs (Shd.all w) w no (e v) (cs.drop o) ∧ q v
end
section
variable {H : Type} {enc : TypeId × Value → H} {P : Program} {w : World} {spare : Nat → Bool} {held : Bool}
theorem OpT.int {t : TypeId} (k : IntKind) (ht : P.underlying t = some (.int k)) : OpT enc P w spare held t (fun n : Int => [.int k n]) (fun n => k.min ≤ n ∧ n ≤ k.max) := by
  intro fuel cs x h _
  obtain ⟨n, rfl, _, hw⟩ := DataW.trod_int ht h
  exact ⟨n, .cons (.int ..) .nil, by simpa [Lit.wf] using hw⟩
theorem OpT.bool {t : TypeId} (ht : P.underlying t = some .bool) : OpT enc P w spare held t (fun b : Bool => [.bool b]) (fun _ => True) := by
  intro fuel cs x h _
  obtain ⟨b, rfl, _⟩ := DataW.trod_bool ht h
  exact ⟨b, .cons (.bool ..) .nil, trivial⟩
theorem OpT.string {t : TypeId} (ht : P.underlying t = some .string) : OpT enc P w spare held t (fun s : ByteArray => [.str s]) (fun s => s.size ≤ 140737488351232) := by
  intro fuel cs x h hw
  obtain ⟨s, rfl, rfl, _⟩ := DataW.trod_string ht h
  refine ⟨s, .cons (.str ..) .nil, ?_⟩
  have := hw _ (by simp only [DataW.weights, List.mem_singleton]; rfl)
  simpa [reachBytes] using this
theorem weightsAll_mem {e : TypeId} : ∀ {l : List (DataW H)} {d : DataW H}, d ∈ l → ∀ n ∈ d.weights P e, n ∈ DataW.weightsAll P e l
  | x :: l, d, hd, n, hn => by
    simp only [DataW.weightsAll, List.mem_append]
    rcases List.mem_cons.1 hd with rfl | hd
    · exact .inl hn
    · exact .inr (weightsAll_mem hd n hn)
theorem cell_imm {a : Addr} {v : Value} (h : w.cell? a = some v) : a.spot = none ∧ a.block < w.heap.size := by
  unfold World.cell? at h
  split at h
  · rename_i hb
    split at h
    · cases h
    · rename_i hs
      exact ⟨by simpa using hs, lt_of_heap hb⟩
  · cases h
theorem add_at {a : Addr} (h : a.spot = none) (n : Nat) : a.add n = ⟨a.block, a.off + n, none⟩ := by
  unfold Addr.add
  split
  · rename_i h0; subst h0; rw [← h]; rfl
  · rfl
theorem OpT.slice {α : Type} [Enc α] {t e : TypeId} {q : α → Prop} (ht : P.underlying t = some (.slice e)) (hc : P.cellsOf e = Enc.sz α) (hs : 0 < Enc.sz α) (hB : 0 < P.bytesOf e) (he : OpT enc P w spare held e (Enc.enc (α := α) false) q) :
    OpT enc P w spare held t (fun l : List α => [lstT false l]) (fun l => l.length ≤ 140737488351232 ∧ ∀ x ∈ l, q x) := by
  intro fuel cs x h hw
  rcases Go.Deep.open_slice ht h with ⟨rfl, rfl⟩ | ⟨a, len, cap, m, n, D, Pl, rfl, _, hl, hm, rfl, rfl, hel⟩
  · exact ⟨[], .cons (.lst0 ..) .nil, by simp, fun x hx => by simp at hx⟩
  · have hlm : len ≤ (if spare a.block then cap else len) := by split <;> omega
    have each : ∀ i, i < len → ∃ v : α, ∃ cs', w.cells? 0 (a.add (i * P.cellsOf e)) (P.cellsOf e) = some cs' ∧ RVs (Shd.all w) w no (Enc.enc false v) cs' ∧ q v := by
      intro i hi
      obtain ⟨cs', hcs, htr⟩ := hel i (by omega)
      obtain ⟨v, hv, hq⟩ := he n cs' _ htr (fun z hz => hw z (by
        simp only [DataW.weights, ht, List.mem_cons, List.mem_append]
        exact .inr (.inl (weightsAll_mem (List.mem_map.2 ⟨i, List.mem_range.2 hi, rfl⟩) z hz))))
      exact ⟨v, cs', hcs, hv, hq⟩
    have hlen : len ≤ 140737488351232 := by
      have z := hw ((len + ((if spare a.block then cap else len) - len)) * P.bytesOf e) (by
        simp only [DataW.weights, ht, List.mem_cons, List.length_map, List.length_range]
        exact .inl trivial)
      have z2 : len * 1 ≤ (len + ((if spare a.block then cap else len) - len)) * P.bytesOf e := Nat.mul_le_mul (Nat.le_add_right _ _) hB
      have z3 : reachBytes = 140737488351232 := by decide
      omega
    have : ∃ f : Nat → α, ∀ i, i < len → ∃ cs', w.cells? 0 (a.add (i * P.cellsOf e)) (P.cellsOf e) = some cs' ∧ RVs (Shd.all w) w no (Enc.enc false (f i)) cs' ∧ q (f i) := by
      classical
      exact ⟨fun i => if hi : i < len then Classical.choose (each i hi) else Enc.dflt, fun i hi => by
        simp only [hi, dif_pos]
        exact Classical.choose_spec (each i hi)⟩
    obtain ⟨f, hf⟩ := this
    have hcell : ∀ i j, i < len → j < Enc.sz α → ∃ v, w.cell? ⟨a.block, a.off + i * Enc.sz α + j, none⟩ = some v ∧ a.spot = none ∧ a.block < w.heap.size ∧ ∀ t, (Enc.enc false (f i))[j]? = some t → RV (Shd.all w) w no t v := by
      have h0 : 0 < len → a.spot = none ∧ a.block < w.heap.size := by
        intro h0
        obtain ⟨cs', hcs, hr, _⟩ := hf 0 h0
        have hg := (World.cells?_some hcs).2.2 0 (by rw [hc]; exact hs)
        have hl' : 0 < cs'.length := by rw [← hr.1, Enc.len]; exact hs
        rw [List.getElem?_eq_getElem hl'] at hg
        simp only [Nat.zero_mul, Addr.add, if_true] at hg
        exact cell_imm hg
      intro i j hi hj
      obtain ⟨hsp, hbl⟩ := h0 (by omega)
      obtain ⟨cs', hcs, hr, _⟩ := hf i hi
      have hg := (World.cells?_some hcs).2.2 j (by rw [hc]; exact hj)
      have hl' : j < cs'.length := by rw [← hr.1, Enc.len]; exact hj
      rw [List.getElem?_eq_getElem hl', add_at hsp, add_at rfl, hc] at hg
      exact ⟨_, hg, hsp, hbl, fun t ht => hr.2 j t _ ht (List.getElem?_eq_getElem hl')⟩
    refine ⟨(List.range len).map f, ?_, by simpa using hlen, fun x hx => ?_⟩
    · have hget : ∀ i, i < len → ((List.range len).map f).getD i Enc.dflt = f i := by
        intro i hi
        simp [List.getD, hi]
      have hlst : lstT false ((List.range len).map f) = .lst false false false (Enc.sz α) len (fun i => Enc.enc false (((List.range len).map f).getD i Enc.dflt)) := by
        simp [lstT]
      show RVs (Shd.all w) w no [lstT false ((List.range len).map f)] _
      rw [hlst]
      refine .cons (.lst no false false false (Enc.sz α) len _ a cap (fun i j => (w.cell? ⟨a.block, a.off + i * Enc.sz α + j, none⟩).getD undef) hl (fun h => by cases h) (fun h0 => ?_) (fun i hi => Enc.len _ _) (fun i j t hi htj => ?_) (fun i j t hi htj => ?_)) .nil
      · obtain ⟨_, _, hsp, hbl, _⟩ := hcell 0 0 h0 hs
        exact ⟨hbl, hsp, fun h => by cases h⟩
      · have hj : j < Enc.sz α := by rw [← Enc.len false (((List.range len).map f).getD i Enc.dflt)]; exact (List.getElem?_eq_some_iff.1 htj).1
        obtain ⟨v, hv, _⟩ := hcell i j hi hj
        simp [hv]
      · have hj : j < Enc.sz α := by rw [← Enc.len false (((List.range len).map f).getD i Enc.dflt)]; exact (List.getElem?_eq_some_iff.1 htj).1
        obtain ⟨v, hv, _, _, hr⟩ := hcell i j hi hj
        rw [hget i hi] at htj
        simp only [hv, Option.getD_some]
        exact hr t htj
    · obtain ⟨i, hi, rfl⟩ := List.mem_map.1 hx
      obtain ⟨_, _, _, hq⟩ := hf i (List.mem_range.1 hi)
      exact hq
theorem OpTF.one {α : Type} {f : Field} {o sz : Nat} {e : α → List TV} {q : α → Prop} (ho : f.offset = o) (hc : P.cellsOf f.type = sz) (h : OpT enc P w spare held f.type e q) : OpTF enc P w spare held [f] o sz e q := by
  intro n cs xs hx hl hn hw
  have h0 := hx 0 f rfl
  obtain ⟨x, rfl⟩ : ∃ x, xs = [x] := List.length_eq_one_iff.1 hn
  have e : (cs.drop f.offset).take (P.cellsOf f.type) = cs.drop o := by
    rw [ho, hc, List.take_of_length_le]
    simp [hl]
  rw [e] at h0
  exact h n _ x h0 (fun z hz => hw z (by simpa [DataW.weightsEach] using hz))
theorem OpTF.cons {α β : Type} {f : Field} {fs : List Field} {o s1 s2 : Nat} {e : α → List TV} {e2 : β → List TV} {q : α → Prop} {q2 : β → Prop} (ho : f.offset = o) (hc : P.cellsOf f.type = s1) (h : OpT enc P w spare held f.type e q) (h2 : OpTF enc P w spare held fs (o + s1) s2 e2 q2) :
    OpTF enc P w spare held (f :: fs) o (s1 + s2) (fun x : α × β => e x.1 ++ e2 x.2) (fun x => q x.1 ∧ q2 x.2) := by
  intro n cs xs hx hl hn hw
  obtain ⟨x, xs, rfl⟩ : ∃ x ys, xs = x :: ys := by
    cases xs with
    | nil => simp at hn
    | cons x ys => exact ⟨x, ys, rfl⟩
  have h0 := hx 0 f rfl
  rw [ho, hc] at h0
  obtain ⟨v, hk, hq⟩ := h n _ x h0 (fun z hz => hw z (by simp only [List.map_cons, DataW.weightsEach, List.mem_append]; exact .inl hz))
  obtain ⟨v2, hk2, hq2⟩ := h2 n cs xs (fun i g hg => by simpa using hx (i + 1) g (by simpa using hg)) (by omega) (by simpa using hn) (fun z hz => hw z (by simp only [List.map_cons, DataW.weightsEach, List.mem_append]; exact .inr hz))
  refine ⟨(v, v2), ?_, hq, hq2⟩
  have := RVs.append hk hk2
  rwa [← List.drop_drop, List.take_append_drop] at this
theorem OpT.struct {α β : Type} [Enc α] {t : TypeId} {fs : Array Field} {e : β → List TV} {q : β → Prop} {q' : α → Prop} (f : β → α) {sz : Nat} (he : ∀ b, Enc.enc false (f b) = e b) (hq : ∀ b, q b → q' (f b)) (ht : P.underlying t = some (.struct fs)) (hc : P.cellsOf t = sz) (h : OpTF enc P w spare held fs.toList 0 sz e q) :
    OpT enc P w spare held t (Enc.enc (α := α) false) q' := by
  intro fuel cs x hx hw
  obtain ⟨xs, n, rfl, rfl, hl, hn, hf⟩ := DataW.trod_struct ht hx
  obtain ⟨v, hk, hv⟩ := h n cs xs (fun i g hg => hf i g (by simpa using hg)) (by omega) (by simpa using hn) (fun z hz => hw z (by simpa [DataW.weights, ht] using hz))
  exact ⟨f v, by rw [he]; simpa using hk, hq v hv⟩
theorem OpT.mono {α : Type} {t : TypeId} {e : α → List TV} {q q' : α → Prop} (h : OpT enc P w spare held t e q) (hq : ∀ v, q v → q' v) : OpT enc P w spare held t e q' := fun fuel cs x hx hw => by
  obtain ⟨v, h1, h2⟩ := h fuel cs x hx hw
  exact ⟨v, h1, hq v h2⟩
/-- An argument. -/
theorem OpT.arg {α : Type} {ts : List TypeId} {ds : List (DataW H)} {j : Nat} {t : TypeId} {dd : DataW H} {ps : List MemPlace} {v : Value} {e : α → List TV} {q : α → Prop} (h : OpT enc P w spare held t e q) (hsz : (DataW.weightsEach P ts ds).all (· ≤ reachBytes) = true) (ht : ts[j]? = some t) (hd : ds[j]? = some dd)
    (hr : DataW.Trod enc P w 0 spare held t v dd ps) : ∃ x, RVs (Shd.all w) w no (e x) v.cells.toList ∧ q x := by
  obtain ⟨fuel, hf⟩ := hr
  exact h fuel _ _ hf (fun n hn => by simpa using List.all_eq_true.1 hsz _ (DataW.weights_mem_each ht hd n hn))
end
/-- What a law's call does. -/
theorem law_calls {P : Program} {E : Env} (hE : EnvOk P E) (hp : PrimOk P E) {g : FuncId} {args : List TV} {b : Bool} (h : Den E g args (.bool b)) {vs : Array Value} {w : World} (hv : RVs (Shd.all w) w no args vs.toList) :
    Calls P g vs w fun e w' => e = .returned (.bool b) ∧ Below w.heap.size w w' := by
  obtain ⟨N, hN⟩ := h
  refine ((callT_ok hE hp N g args _ (hN N (Nat.le_refl _)) vs w).2 hv).mono fun e w' hh => ?_
  obtain ⟨v, rfl, hb, hr⟩ := hh
  have := bool_inv (hr (Shd.all w) (Nat.le_refl _))
  subst this
  exact ⟨rfl, hb⟩
end Go.Proofs.YtbdkjkedjldheaaTv
