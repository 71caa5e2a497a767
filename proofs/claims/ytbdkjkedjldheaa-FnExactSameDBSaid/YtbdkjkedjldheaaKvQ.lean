/- An evaluator of the program's code over trees: the table of types, and rules by which answers are found. Conditions: none. -/
import Derived.Test.YtbdkjkedjldheaaKvP
import Derived.KernelRfl
namespace Go.Proofs.YtbdkjkedjldheaaTv
set_option linter.unusedVariables false
set_option linter.unusedSimpArgs false
set_option linter.unnecessarySimpa false
open Go Go.RowKit
def kOkB (P : Program) (t : TypeId) (k : TK) : Bool :=
  match k, P.underlying t with
  | .int k, some (.int k') => decide (k = k')
  | .bool, some .bool => true
  | .str, some .string => true
  | .slice e, some (.slice e') => Nat.beq e e'
  | .struct fs, some (.struct fields) => decide (fields.toList.map (fun f => (f.offset, f.type)) = fs) && fields.toList.all (fun f => f.name != "_") && !P.stoodInHeld t && !P.eqGuardType P.depth t
  | .other, some d => (match d with | .struct _ => false | .array _ _ => false | _ => true)
  | _, _ => false
def tiOkB (P : Program) (t : TypeId) (i : TI) : Bool :=
  (match P.info? t with
   | some inf => Nat.beq inf.size i.size && Nat.beq inf.bytes i.bytes && (match inf.zero with | some z => zsOk i.zero z.cells.toList && Nat.beq i.zero.length i.size | none => false)
   | none => false) && kOkB P t i.kind && (i.isAgg || Nat.beq i.size 1)
theorem kOkB_ok {P : Program} {t : TypeId} {k : TK} (h : kOkB P t k = true) : KOk P t k := by
  unfold kOkB at h
  split at h
  · rename_i hu; simp only [decide_eq_true_eq] at h; subst h; exact hu
  · rename_i hu; exact hu
  · rename_i hu; exact hu
  · rename_i hu; have := Nat.eq_of_beq_eq_true h; subst this; exact hu
  · rename_i fs fields hu
    simp only [Bool.and_eq_true, decide_eq_true_eq, Bool.not_eq_true'] at h
    obtain ⟨⟨⟨h1, h2⟩, h3⟩, h4⟩ := h
    exact ⟨fields, hu, h1, fun f hf => by simpa using List.all_eq_true.1 h2 f hf, h3, h4⟩
  · rename_i d hu
    refine ⟨d, hu, fun x e => ?_, fun x y e => ?_⟩ <;> subst e <;> cases h
  · cases h
theorem tiOkB_ok {P : Program} {t : TypeId} {i : TI} (h : tiOkB P t i = true) : TIok P t i := by
  unfold tiOkB at h
  simp only [Bool.and_eq_true] at h
  obtain ⟨⟨h1, h2⟩, h3⟩ := h
  refine ⟨?_, kOkB_ok h2, fun ha => ?_⟩
  · split at h1
    · rename_i inf hinf
      simp only [Bool.and_eq_true] at h1
      obtain ⟨⟨a, b⟩, c⟩ := h1
      split at c
      · rename_i z hz
        simp only [Bool.and_eq_true] at c
        exact ⟨inf, z, hinf, Nat.eq_of_beq_eq_true a, Nat.eq_of_beq_eq_true b, hz, c.1, Nat.eq_of_beq_eq_true c.2⟩
      · cases c
    · cases h1
  · rw [ha] at h3
    exact Nat.eq_of_beq_eq_true (by simpa using h3)
def tlook : List (TypeId × TI) → TypeId → Option TI
  | [], _ => none
  | (u, i) :: l, t => match Nat.beq u t with | true => some i | false => tlook l t
theorem tlook_ok {P : Program} : ∀ {l : List (TypeId × TI)}, (l.all fun p => tiOkB P p.1 p.2) = true → ∀ {t : TypeId} {i : TI}, tlook l t = some i → TIok P t i
  | [], _, t, i, h => by simp [tlook] at h
  | (u, j) :: l, ha, t, i, h => by
    simp only [List.all_cons, Bool.and_eq_true] at ha
    simp only [tlook] at h
    split at h
    · rename_i hb
      cases h
      have := Nat.eq_of_beq_eq_true hb
      subst this
      exact tiOkB_ok ha.1
    · exact tlook_ok ha.2 h
def fnOf (P : Program) (f : FuncId) : Option Func := match P.funcs[f]? with | some x => if x.name == "runtime.NumGoroutine" then none else some x | none => none
theorem envOk {P : Program} {E : Env} {l : List (TypeId × TI)} (hf : E.fn = fnOf P) (ht : E.ti = tlook l) (hl : (l.all fun p => tiOkB P p.1 p.2) = true) (hm : P.follows .mixedOrders = true) : EnvOk P E := by
  refine ⟨fun f x h => ?_, fun t i h => tlook_ok hl (by rw [← ht]; exact h), hm⟩
  rw [hf] at h
  unfold fnOf at h
  split at h
  · rename_i y hy
    split at h
    · cases h
    · rename_i hn
      cases h
      exact ⟨hy, by simpa using hn⟩
  · cases h
theorem fnOf_eq {P : Program} {f : FuncId} {x : Func} (h : P.funcs[f]? = some x) (hn : (x.name == "runtime.NumGoroutine") = false) : fnOf P f = some x := by
  unfold fnOf; rw [h]; simp only [hn]; rfl
/-- With depth and rounds enough. -/
def Evs {α : Type} (F : Nat → (Nat → Nat) → Option α) (φ : α → Prop) : Prop := ∃ r, φ r ∧ ∃ N, ∀ k m, N ≤ k → (∀ i, N ≤ m i) → F k m = some r
def Den (E : Env) (g : FuncId) (args : List TV) (t : TV) : Prop := ∃ N, ∀ k, N ≤ k → callT E k g args = some t
def tl (m : Nat → Nat) : Nat → Nat := fun i => m (i + 1)
section
variable {α : Type} {E : Env} {φ : α → Prop}
theorem Evs.is {a : α} (h : φ a) : Evs (fun _ _ => some a) φ := ⟨a, h, 0, fun _ _ _ _ => rfl⟩
theorem Evs.congr {F G : Nat → (Nat → Nat) → Option α} (h : ∀ k m, F k m = G k m) (hg : Evs G φ) : Evs F φ := by
  have : F = G := by funext k m; exact h k m
  rw [this]; exact hg
theorem Evs.bnd {g : FuncId} {args args' : List TV} {t : TV} (hd : Den E g args' t) (ha : args = args') {K : Nat → (Nat → Nat) → TV → Option α} (h : Evs (fun k m => K k m t) φ) : Evs (fun k m => YtbdkjkedjldheaaTv.bnd (callT E k g args) (K k m)) φ := by
  subst ha
  obtain ⟨N, hN⟩ := hd
  obtain ⟨r, hr, M, hM⟩ := h
  exact ⟨r, hr, max N M, fun k m hk hm => by
    show YtbdkjkedjldheaaTv.bnd (callT E k g args) (K k m) = some r
    rw [hN k (by omega)]
    exact hM k m (by omega) fun i => by have := hm i; omega⟩
theorem Evs.pos {c : Prop} [Decidable c] (hc : c) {F G : Nat → (Nat → Nat) → Option α} (h : Evs F φ) : Evs (fun k m => if c then F k m else G k m) φ := by
  simpa [hc] using h
theorem Evs.neg {c : Prop} [Decidable c] (hc : ¬ c) {F G : Nat → (Nat → Nat) → Option α} (h : Evs G φ) : Evs (fun k m => if c then F k m else G k m) φ := by
  simpa [hc] using h
theorem Evs.ite {c : Prop} [Decidable c] {F G : Nat → (Nat → Nat) → Option α} (h1 : c → Evs F φ) (h2 : ¬ c → Evs G φ) : Evs (fun k m => if c then F k m else G k m) φ := by
  by_cases h : c
  · exact .pos h (h1 h)
  · exact .neg h (h2 h)
theorem Evs.cond {c : Bool} {F G : Nat → (Nat → Nat) → Option α} (h1 : c = true → Evs F φ) (h2 : c = false → Evs G φ) : Evs (fun k m => bif c then F k m else G k m) φ := by
  cases c
  · exact h2 rfl
  · exact h1 rfl
theorem Evs.tt {c : Bool} (hc : c = true) {F G : Nat → (Nat → Nat) → Option α} (h : Evs F φ) : Evs (fun k m => bif c then F k m else G k m) φ := by subst hc; exact h
theorem Evs.ff {c : Bool} (hc : c = false) {F G : Nat → (Nat → Nat) → Option α} (h : Evs G φ) : Evs (fun k m => bif c then F k m else G k m) φ := by subst hc; exact h
end
/-- One round, and the others. -/
def Rnd {α : Type} (dd : Nat) (body : St → (Ex → St → Option α) → Option α) (n : Nat) (s : St) (K : Ex → St → Option α) : Option α :=
  body s fun e s' => match e with
    | .normal => evLoop dd body n s' K
    | .exit id => maskK dd s' fun s2 => K (.exit id) s2
    | .ret => maskK dd s' fun s2 => K .ret s2
section
variable {α : Type} {E : Env} {dd : Nat} {body : Nat → St → (Ex → St → Option α) → Option α} {K : Nat → (Nat → Nat) → Ex → St → Option α} {φ : α → Prop}
/-- A loop begins. -/
theorem Evs.enter {s s0 : St} (hm : ∀ K : St → Option α, maskK dd s K = K s0) (h : Evs (fun k m => Rnd dd (body k) (m 0) s0 (K k (tl m))) φ) : Evs (fun k m => evLoop dd (body k) k s (K k m)) φ := by
  obtain ⟨r, hr, N, hN⟩ := h
  refine ⟨r, hr, N + 1, fun k m hk hm' => ?_⟩
  obtain ⟨k', rfl⟩ : ∃ j, k = j + 1 := ⟨k - 1, by omega⟩
  have := hN (k' + 1) (fun i => match i with | 0 => k' | i + 1 => m i) (by omega) (fun i => by
    cases i with
    | zero => show N ≤ k'; omega
    | succ i => have := hm' i; show N ≤ m i; omega)
  show maskK dd s (fun s0 => Rnd dd (body (k' + 1)) k' s0 (K (k' + 1) m)) = some r
  rw [hm]; exact this
/-- A loop goes on. -/
theorem Evs.next {s s0 : St} (hm : ∀ K : St → Option α, maskK dd s K = K s0) (h : Evs (fun k m => Rnd dd (body k) (m 0) s0 (K k (tl m))) φ) : Evs (fun k m => evLoop dd (body k) (m 0) s (K k (tl m))) φ := by
  obtain ⟨r, hr, N, hN⟩ := h
  refine ⟨r, hr, N + 1, fun k m hk hm' => ?_⟩
  have h0 := hm' 0
  have := hN k (fun i => match i with | 0 => m 0 - 1 | i + 1 => m (i + 1)) (by omega) (fun i => by
    cases i with
    | zero => show N ≤ m 0 - 1; omega
    | succ i => have := hm' (i + 1); show N ≤ m (i + 1); omega)
  obtain ⟨n, hn⟩ : ∃ n, m 0 = n + 1 := ⟨m 0 - 1, by omega⟩
  show evLoop dd (body k) (m 0) s (K k (tl m)) = some r
  rw [hn]
  show maskK dd s (fun s0 => Rnd dd (body k) n s0 (K k (tl m))) = some r
  rw [hm]
  have e : m 0 - 1 = n := by omega
  simp only [e] at this
  exact this
/-- A loop, from its states. -/
theorem Evs.loop {ι : Type} (st : ι → St) (p : ι → Prop) (μ : ι → Nat) (i : ι) {s : St} (hi : p i) (hm : ∀ K : St → Option α, maskK dd s K = K (st i))
    (step : ∀ i, p i → (∀ j s', p j → μ j < μ i → (∀ K : St → Option α, maskK dd s' K = K (st j)) → Evs (fun k m => evLoop dd (body k) (m 0) s' (K k (tl m))) φ) → Evs (fun k m => Rnd dd (body k) (m 0) (st i) (K k (tl m))) φ) :
    Evs (fun k m => evLoop dd (body k) k s (K k m)) φ := by
  refine .enter hm ?_
  have : ∀ (n : Nat) (i : ι), μ i = n → p i → Evs (fun k m => Rnd dd (body k) (m 0) (st i) (K k (tl m))) φ := by
    intro n
    induction n using Nat.strongRecOn with
    | _ n ih => exact fun i hn hp => step i hp fun j s' hj hlt hs => .next hs (ih (μ j) (by omega) j rfl hj)
  exact this _ i rfl hi
end
/-- The head of a function. -/
theorem den_of {E : Env} {g : FuncId} {args : List TV} {fn : Func} {c : Code} {nt : Nat} {rs : List ResultVar} (hp : E.prim g = none) (hf : E.fn g = some fn) (hc : fn.body = some c) (hn : fn.ntmps = nt) (hr : fn.results.toList = rs) {ψ : TV → Prop}
    (h : Evs (fun k _ => evCode E (callT E k) (callH E k) g k c ⟨args ++ replT (nt - args.length), replL nt, []⟩ fun e s => match e with
      | .exit _ => none
      | _ => resK E s rs fun vs => match nolocD 4 (oneT vs) with | true => some (oneT vs, s.H) | false => none) fun p => ψ (ret p.2 8 p.1)) : ∃ t, ψ t ∧ Den E g args t := by
  obtain ⟨⟨v, H⟩, ht, N, hN⟩ := h
  refine ⟨_, ht, N + 1, fun k hk => ?_⟩
  obtain ⟨k, rfl⟩ : ∃ j, k = j + 1 := ⟨k - 1, by omega⟩
  have := hN k (fun _ => N) (by omega) (fun _ => Nat.le_refl _)
  show (both E (k + 1)).1 g args = some _
  simp only [both, hp]
  have he : evFun E (both E k).1 (both E k).2 k g args [] = some (v, H) := by
    unfold evFun
    rw [hf]
    simp only [hc, hn, hr]
    exact this
  rw [he]
  rfl
theorem den_is {E : Env} {g : FuncId} {args : List TV} {t : TV} (h : ∃ t', t' = t ∧ Den E g args t') : Den E g args t := by
  obtain ⟨_, rfl, h⟩ := h
  exact h
end Go.Proofs.YtbdkjkedjldheaaTv
