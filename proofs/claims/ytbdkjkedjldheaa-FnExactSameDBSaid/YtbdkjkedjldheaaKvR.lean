/- An evaluator of the program's code over trees: plain data as trees. Conditions: none. -/
import Derived.Test.YtbdkjkedjldheaaKvQ
import Derived.IntWalk
import Derived.Laws.Strings
namespace Go.Proofs.YtbdkjkedjldheaaTv
set_option linter.unusedVariables false
set_option linter.unusedSimpArgs false
set_option linter.unnecessarySimpa false
open Go Go.RowKit
/-- Data that lie in cells. -/
class Enc (α : Type) where
  dflt : α
  sz : Nat
  dep : Nat
  enc : Bool → α → List TV
  small : Nat → α → Prop
  len : ∀ fr x, (enc fr x).length = sz
  frz : ∀ L H d fr x, dep ≤ d → (enc fr x).map (YtbdkjkedjldheaaTv.frz L H d) = enc false x
  ret : ∀ H d x, dep ≤ d → (enc true x).map (YtbdkjkedjldheaaTv.ret H d) = enc true x
/-- A row of them. -/
def lstT {α : Type} [Enc α] (fr : Bool) (l : List α) : TV := .lst fr false false (Enc.sz α) l.length (fun i => Enc.enc fr (l.getD i Enc.dflt))
def smallL {α : Type} [Enc α] (M : Nat) (l : List α) : Prop := l.length ≤ M ∧ ∀ x, x ∈ l → Enc.small M x
theorem lst_frz {α : Type} [Enc α] (L : Loc) (H : Heap) (d : Nat) (fr : Bool) (l : List α) (h : Enc.dep α + 1 ≤ d) : frz L H d (lstT fr l) = lstT false l := by
  obtain ⟨d, rfl⟩ : ∃ e, d = e + 1 := ⟨d - 1, by omega⟩
  simp only [lstT, frz]
  congr 1
  funext i
  exact Enc.frz L H d fr _ (by omega)
theorem lst_ret {α : Type} [Enc α] (H : Heap) (d : Nat) (l : List α) (h : Enc.dep α + 1 ≤ d) : ret H d (lstT true l) = lstT true l := by
  obtain ⟨d, rfl⟩ : ∃ e, d = e + 1 := ⟨d - 1, by omega⟩
  simp only [lstT, ret]
  congr 1
  funext i
  exact Enc.ret H d _ (by omega)
theorem int_frz {L : Loc} {H : Heap} {k : IntKind} {n : Int} {d : Nat} (h : 1 ≤ d) : frz L H d (.int k n) = .int k n := by
  obtain ⟨d, rfl⟩ : ∃ e, d = e + 1 := ⟨d - 1, by omega⟩
  rfl
theorem bool_frz {L : Loc} {H : Heap} {b : Bool} {d : Nat} (h : 1 ≤ d) : frz L H d (.bool b) = .bool b := by
  obtain ⟨d, rfl⟩ : ∃ e, d = e + 1 := ⟨d - 1, by omega⟩
  rfl
theorem str_frz {L : Loc} {H : Heap} {b : ByteArray} {d : Nat} (h : 1 ≤ d) : frz L H d (.str b) = .str b := by
  obtain ⟨d, rfl⟩ : ∃ e, d = e + 1 := ⟨d - 1, by omega⟩
  rfl
theorem int_ret {H : Heap} {k : IntKind} {n : Int} {d : Nat} (h : 1 ≤ d) : ret H d (.int k n) = .int k n := by
  obtain ⟨d, rfl⟩ : ∃ e, d = e + 1 := ⟨d - 1, by omega⟩
  rfl
theorem bool_ret {H : Heap} {b : Bool} {d : Nat} (h : 1 ≤ d) : ret H d (.bool b) = .bool b := by
  obtain ⟨d, rfl⟩ : ∃ e, d = e + 1 := ⟨d - 1, by omega⟩
  rfl
theorem str_ret {H : Heap} {b : ByteArray} {d : Nat} (h : 1 ≤ d) : ret H d (.str b) = .str b := by
  obtain ⟨d, rfl⟩ : ∃ e, d = e + 1 := ⟨d - 1, by omega⟩
  rfl
/-- Rows that are filled from the first on. -/
def upto (i : Nat) (e z : Nat → List TV) : Nat → List TV := fun j => if j < i then e j else z j
theorem upto_zero (e z : Nat → List TV) : upto 0 e z = z := by funext j; simp [upto]
theorem upto_succ (i : Nat) (e z : Nat → List TV) {row : List TV} (h : row = e i) : setF (upto i e z) i row = upto (i + 1) e z := by
  funext j
  simp only [setF, upto]
  by_cases h1 : j = i
  · subst h1; simp [h]
  · by_cases h2 : j < i
    · simp [h1, h2, Nat.lt_succ_of_lt h2]
    · simp [h1, h2, show ¬ j < i + 1 by omega]
theorem upto_app (n : Nat) (e f : Nat → List TV) (g : Nat → List TV) (h : g 0 = e n) : appF n (upto n e f) 1 g = upto (n + 1) e f := by
  funext j
  simp only [appF, upto]
  by_cases h1 : j = n
  · subst h1; simp [h]
  · by_cases h2 : j < n
    · simp [h2, Nat.lt_succ_of_lt h2, show ¬ n ≤ j by omega]
    · simp [h2, show ¬ j < n + 1 by omega]
/-- A row in memory, as a result. -/
theorem ret_own {α : Type} [Enc α] {H : Heap} {id g n d : Nat} {o : Ob} {l : List α} (h : nth H id = some o) (hg : o.gen = g) (hl : n = l.length) (hn : n ≤ o.n) (hs : o.sz = Enc.sz α)
    (hf : ∀ j, j < n → (o.f j).map (ret H d) = Enc.enc true (l.getD j Enc.dflt)) (hz : ∀ j, n ≤ j → (o.f j).map (ret H d) = Enc.enc true (Enc.dflt : α)) : ret H (d + 1) (.own id g 0 n) = lstT true l := by
  simp only [ret, h]
  rw [show decide (o.gen = g ∧ 0 + n ≤ o.n) = true by simp [hg, hn]]
  simp only [lstT, hs, shf]
  subst hl
  congr 1
  funext j
  by_cases hj : j < l.length
  · exact hf j hj
  · rw [hz j (by omega), show l.getD j Enc.dflt = Enc.dflt by simp [List.getD, hj]]
theorem upto_ret {α : Type} [Enc α] {H : Heap} {d : Nat} (hd : Enc.dep α ≤ d) {l : List α} {e z : Nat → List TV} (he : ∀ j, e j = Enc.enc true (l.getD j Enc.dflt)) : ∀ j, j < l.length → (upto l.length e z j).map (ret H d) = Enc.enc true (l.getD j Enc.dflt) := by
  intro j hj
  simp only [upto, hj, if_true, he]
  exact Enc.ret H d _ hd
theorem upto_z {H : Heap} {d n : Nat} {e z : Nat → List TV} {r : List TV} (hz : ∀ j, (z j).map (ret H d) = r) : ∀ j, n ≤ j → (upto n e z j).map (ret H d) = r := by
  intro j hj
  simp only [upto, show ¬ j < n by omega, if_false]
  exact hz j
instance : Enc Int where
  dflt := 0
  sz := 1
  dep := 1
  enc := fun _ n => [.int .i64 n]
  small := fun _ _ => True
  len := fun _ _ => rfl
  frz := fun L H d fr x h => by simp only [List.map_cons, List.map_nil, int_frz h]
  ret := fun H d x h => by simp only [List.map_cons, List.map_nil, int_ret h]
instance : Enc Bool where
  dflt := false
  sz := 1
  dep := 1
  enc := fun _ n => [.bool n]
  small := fun _ _ => True
  len := fun _ _ => rfl
  frz := fun L H d fr x h => by simp only [List.map_cons, List.map_nil, bool_frz h]
  ret := fun H d x h => by simp only [List.map_cons, List.map_nil, bool_ret h]
instance : Enc ByteArray where
  dflt := ByteArray.empty
  sz := 1
  dep := 1
  enc := fun _ n => [.str n]
  small := fun M s => s.size ≤ M
  len := fun _ _ => rfl
  frz := fun L H d fr x h => by simp only [List.map_cons, List.map_nil, str_frz h]
  ret := fun H d x h => by simp only [List.map_cons, List.map_nil, str_ret h]
/-- Data as one value. -/
class Arg (α : Type) where
  t : Bool → α → TV
  frz : ∀ L H fr x, YtbdkjkedjldheaaTv.frz L H 8 (t fr x) = t false x
  ret : ∀ H x, YtbdkjkedjldheaaTv.ret H 8 (t true x) = t true x
instance : Arg Int where
  t := fun _ n => .int .i64 n
  frz := fun _ _ _ _ => rfl
  ret := fun _ _ => rfl
instance : Arg Bool where
  t := fun _ n => .bool n
  frz := fun _ _ _ _ => rfl
  ret := fun _ _ => rfl
instance : Arg ByteArray where
  t := fun _ n => .str n
  frz := fun _ _ _ _ => rfl
  ret := fun _ _ => rfl
/-- As one value, of data in cells. -/
abbrev ofAgg {α : Type} [Enc α] (h : Enc.dep α ≤ 7) : Arg α where
  t := fun fr x => .agg (Enc.enc fr x)
  frz := fun L H fr x => congrArg TV.agg (Enc.frz L H 7 fr x h)
  ret := fun H x => congrArg TV.agg (Enc.ret H 7 x h)
abbrev ofLst {α : Type} [Enc α] (h : Enc.dep α ≤ 7) : Arg (List α) where
  t := fun fr x => lstT fr x
  frz := fun L H fr x => lst_frz L H 8 fr x (by omega)
  ret := fun H x => lst_ret H 8 x (by omega)
instance : Arg (List Int) := ofLst (by decide)
instance : Arg (List Bool) := ofLst (by decide)
instance : Arg (List ByteArray) := ofLst (by decide)
section
variable {α β γ δ : Type} [Arg α] [Arg β] [Arg γ] [Arg δ] {L : Loc} {H : Heap}
theorem args1 (f1 : Bool) (a : α) : [frz L H 8 (Arg.t f1 a)] = [Arg.t false a] := by rw [Arg.frz]
theorem args2 (f1 f2 : Bool) (a : α) (b : β) : [frz L H 8 (Arg.t f1 a), frz L H 8 (Arg.t f2 b)] = [Arg.t false a, Arg.t false b] := by rw [Arg.frz, Arg.frz]
theorem args2f {f : FuncId} (f1 f2 : Bool) (a : α) (b : β) : [frz L H 8 (Arg.t f1 a), frz L H 8 (Arg.t f2 b), frz L H 8 (.fn f [])] = [Arg.t false a, Arg.t false b, .fn f []] := by rw [Arg.frz, Arg.frz]; rfl
theorem args3 (f1 f2 f3 : Bool) (a : α) (b : β) (c : γ) : [frz L H 8 (Arg.t f1 a), frz L H 8 (Arg.t f2 b), frz L H 8 (Arg.t f3 c)] = [Arg.t false a, Arg.t false b, Arg.t false c] := by rw [Arg.frz, Arg.frz, Arg.frz]
theorem args4 (f1 f2 f3 f4 : Bool) (a : α) (b : β) (c : γ) (d : δ) : [frz L H 8 (Arg.t f1 a), frz L H 8 (Arg.t f2 b), frz L H 8 (Arg.t f3 c), frz L H 8 (Arg.t f4 d)] = [Arg.t false a, Arg.t false b, Arg.t false c, Arg.t false d] := by rw [Arg.frz, Arg.frz, Arg.frz, Arg.frz]
end
theorem smallL_get {α : Type} [Enc α] {M : Nat} {l : List α} (h : smallL M l) {i : Nat} (hi : i < l.length) : Enc.small M (l.getD i Enc.dflt) := by
  have : l.getD i Enc.dflt = l[i] := by simp [List.getD, hi]
  rw [this]; exact h.2 _ (List.getElem_mem hi)
/-- Two rows, element by element. -/
theorem list_eq_getD {α : Type} {d : α} {l l' : List α} (hl : l.length = l'.length) (h : ∀ j, j < l.length → l.getD j d = l'.getD j d) : l = l' := by
  apply List.ext_getElem hl
  intro i h1 h2
  have := h i h1
  simpa [List.getD, h1, h2] using this
theorem ba_eq {a b : ByteArray} : a.toList = b.toList ↔ a = b := ⟨fun h => by
  rw [ByteArray.toList_eq, ByteArray.toList_eq] at h
  exact ByteArray.ext (Array.toList_inj.1 h), fun h => by rw [h]⟩
theorem ba_beq {a b : ByteArray} : (a.toList == b.toList) = true ↔ a = b := by rw [beq_iff_eq]; exact ba_eq
theorem wrap_id {n : Int} (h : -9223372036854775808 ≤ n) (h' : n ≤ 9223372036854775807) : IntKind.i64.wrap n = n := IntWalk.i64_in n ⟨h, h'⟩
theorem wrap_inc {i : Nat} (h : i < 9223372036854775807) : IntKind.i64.wrap (i + 1) = ((i + 1 : Nat) : Int) := by
  rw [wrap_id (by omega) (by omega)]; omega
section
variable {p : Prop}
theorem int_ne {a b : Int} (h : (a != b) = true) : a ≠ b := by simpa using h
theorem int_eq {a b : Int} (h : (a != b) = false) : a = b := by simpa using h
theorem str_ne {a b : ByteArray} (h : (!(a.toList == b.toList)) = true) : a ≠ b := fun e => by subst e; simp at h
theorem str_eq {a b : ByteArray} (h : (!(a.toList == b.toList)) = false) : a = b := ba_beq.1 (by simpa using h)
theorem bool_ne {a b : Bool} (h : (!(a == b)) = true) : a ≠ b := by simpa using h
theorem bool_eq {a b : Bool} (h : (!(a == b)) = false) : a = b := by simpa using h
theorem not_ne {b : Bool} (h : (!b) = true) (hp : b = true ↔ p) : ¬ p := fun x => by rw [hp.2 x] at h; cases h
theorem not_eq {b : Bool} (h : (!b) = false) (hp : b = true ↔ p) : p := hp.1 (by simpa using h)
theorem bne_ne {a b : Int} (h : (a != b) = true) : ¬ a = b := by simpa using h
theorem bne_eq {a b : Int} (h : (a != b) = false) : a = b := by simpa using h
theorem eql_ff {b : Bool} (h : (b == true) = false) (hp : b = true ↔ p) : ¬ p := fun x => by rw [hp.2 x] at h; cases h
theorem eql_tt {b : Bool} (h : (b == true) = true) (hp : b = true ↔ p) : p := hp.1 (by simpa using h)
theorem neq_ff {b : Bool} (h : ((!b) == false) = false) (hp : b = true ↔ p) : ¬ p := fun x => by rw [hp.2 x] at h; cases h
theorem neq_tt {b : Bool} (h : ((!b) == false) = true) (hp : b = true ↔ p) : p := hp.1 (by simpa using h)
theorem int_iff {a b : Int} : (a == b) = true ↔ a = b := by simp
theorem bool_iff {a b : Bool} : (a == b) = true ↔ a = b := by simp
theorem str_iff {a b : ByteArray} : (a.toList == b.toList) = true ↔ a = b := ba_beq
theorem len_iff {α : Type} {l l' : List α} : ((l.length : Int) == (l'.length : Int)) = true ↔ l.length = l'.length := by simp; omega
theorem len_ne {α : Type} {l l' : List α} (h : ((l.length : Int) != (l'.length : Int)) = true) : l ≠ l' := fun e => by subst e; simp at h
theorem len_eq {α : Type} {l l' : List α} (h : ((l.length : Int) != (l'.length : Int)) = false) : l.length = l'.length := by have := int_eq h; omega
theorem ff_iff (h : ¬ p) : (false = true) ↔ p := ⟨(fun x => by cases x), fun x => absurd x h⟩
theorem tt_iff (h : p) : (true = true) ↔ p := ⟨fun _ => h, fun _ => rfl⟩
theorem lt_tt {a b : Int} (h : decide (a < b) = true) : a < b := by simpa using h
theorem lt_ff {a b : Int} (h : decide (a < b) = false) : ¬ a < b := by simpa using h
theorem smallL_mk {α : Type} [Enc α] {M : Nat} {l : List α} (h : l.length ≤ M) (hs : ∀ j, j < l.length → Enc.small M (l.getD j Enc.dflt)) : smallL M l := ⟨h, fun x hx => by
  obtain ⟨i, hi, rfl⟩ := List.mem_iff_getElem.1 hx
  have := hs i hi
  rwa [show l.getD i Enc.dflt = l[i] by simp [List.getD, hi]] at this⟩
theorem upto_next {α : Type} {d : α} {l l' : List α} {i : Nat} (h : ∀ j, j < i → l.getD j d = l'.getD j d) (hi : l.getD i d = l'.getD i d) : ∀ j, j < i + 1 → l.getD j d = l'.getD j d := fun j hj => by
  by_cases e : j = i
  · subst e; exact hi
  · exact h j (by omega)
theorem upto_next' {i : Nat} {q : Nat → Prop} (h : ∀ j, j < i → q j) (hi : q i) : ∀ j, j < i + 1 → q j := fun j hj => by
  by_cases e : j = i
  · subst e; exact hi
  · exact h j (by omega)
end
theorem den_ex {E : Env} {g : FuncId} {args : List TV} {ι : Type} {v : ι → TV} {q : ι → Prop} (h : ∃ t, (∃ b, t = v b ∧ q b) ∧ Den E g args t) : ∃ b, Den E g args (v b) ∧ q b := by
  obtain ⟨_, ⟨b, rfl, hq⟩, hd⟩ := h
  exact ⟨b, hd, hq⟩
end Go.Proofs.YtbdkjkedjldheaaTv
