/- Words of this session's own beside the print's: strings' order, loops over a predicate. -/
import Derived.Test.YtokonpkecmnneaaWMore
import Derived.Laws.Strings
namespace Go.Proofs.YtokonpkecmnneaaHw
open Go.RowKit
set_option linter.unusedVariables false
set_option linter.unusedSimpArgs false

theorem bytesLess_total : ∀ (x y : List UInt8), (Op.bytesLess x y || x == y) = !(Op.bytesLess y x)
  | [], [] => by simp [Op.bytesLess]
  | [], b :: y => by simp [Op.bytesLess]
  | a :: x, [] => by simp [Op.bytesLess]
  | a :: x, b :: y => by
    have ih := bytesLess_total x y
    have h : ∀ p q : UInt8, p < q ∨ p = q ∨ q < p := fun p q => by
      rcases Nat.lt_trichotomy p.toNat q.toNat with h | h | h
      · exact .inl h
      · exact .inr (.inl (UInt8.toNat_inj.1 h))
      · exact .inr (.inr h)
    have irr : ∀ p q : UInt8, p < q → ¬ q < p := fun p q h1 h2 => Nat.lt_asymm h1 h2
    have ne1 : ∀ p q : UInt8, p < q → p ≠ q := fun p q h1 h2 => by subst h2; exact Nat.lt_irrefl _ h1
    rcases h a b with h | h | h
    · simp [Op.bytesLess, h, irr _ _ h, ne1 _ _ h, Ne.symm (ne1 _ _ h)]
    · subst h
      have hi : ¬ a < a := fun h => Nat.lt_irrefl _ h
      simp only [Op.bytesLess, hi, decide_false, Bool.false_or, beq_self_eq_true, Bool.true_and, List.cons_beq_cons]
      exact ih
    · simp [Op.bytesLess, h, irr _ _ h, ne1 _ _ h, Ne.symm (ne1 _ _ h)]
theorem binOp_leq_hw (t : TypeId) (a b : ByteArray) : binOp .leq t (.string a) (.string b) = pure (.bool !(Op.bytesLess b.toList a.toList)) := by
  rw [← bytesLess_total]; simp [binOp, Op.stringOp]
theorem binOp_geq_hw (t : TypeId) (a b : ByteArray) : binOp .geq t (.string a) (.string b) = pure (.bool !(Op.bytesLess a.toList b.toList)) := by simp [binOp, Op.stringOp]
theorem binOp_gtr_hw (t : TypeId) (a b : ByteArray) : binOp .gtr t (.string a) (.string b) = pure (.bool (Op.bytesLess b.toList a.toList)) := by
  have h : (Op.bytesLess b.toList a.toList) = !(Op.bytesLess a.toList b.toList || a.toList == b.toList) := by rw [bytesLess_total]; simp
  rw [h]; simp [binOp, Op.stringOp]

/-- The first place at which a predicate (which may not answer) says yes; -1 if there is none. -/
def idxO {α : Type} (p : α → Option Bool) : List α → Int → Option Int
  | [], _ => some (-1)
  | x :: xs, i => (p x).bind fun b => if b = true then some i else idxO p xs (i + 1)
def anyO {α : Type} (p : α → Option Bool) : List α → Option Bool
  | [] => some false
  | x :: xs => (p x).bind fun b => if b = true then some true else anyO p xs
theorem idxO_ge {α : Type} (p : α → Option Bool) : ∀ (l : List α) (i j : Int), idxO p l i = some j → j = -1 ∨ i ≤ j
  | [], i, j, h => by simp [idxO] at h; exact .inl h.symm
  | x :: xs, i, j, h => by
    simp only [idxO] at h
    obtain ⟨b, hb, h⟩ := Option.bind_eq_some_iff.mp h
    cases b with
    | true => simp at h; omega
    | false =>
      rw [if_neg (by simp)] at h
      rcases idxO_ge p xs (i + 1) j h with e | e
      · exact .inl e
      · exact .inr (by omega)
theorem anyO_idx {α : Type} (p : α → Option Bool) : ∀ (l : List α) (i : Int) (r : Bool), 0 ≤ i → anyO p l = some r → ∃ j, idxO p l i = some j ∧ decide (0 ≤ j) = r
  | [], i, r, _, h => by simp [anyO] at h; exact ⟨-1, rfl, by subst h; rfl⟩
  | x :: xs, i, r, hi, h => by
    simp only [anyO] at h
    obtain ⟨b, hb, h⟩ := Option.bind_eq_some_iff.mp h
    cases b with
    | true => simp at h; exact ⟨i, by simp [idxO, hb], by subst h; simpa using hi⟩
    | false =>
      rw [if_neg (by simp)] at h
      obtain ⟨j, hj, e⟩ := anyO_idx p xs (i + 1) r (by omega) h
      exact ⟨j, by simp [idxO, hb, hj], e⟩
open Go.Proofs.YtokonpkecmnneaaW.PrintWords in
theorem anyO_mono {α : Type} {p q : α → Option Bool} (h : ∀ x, LeO (p x) (q x)) : ∀ l, LeO (anyO p l) (anyO q l)
  | [] => fun _ e => e
  | x :: xs => fun r e => by
    simp only [anyO] at e ⊢
    obtain ⟨b, hb, e⟩ := Option.bind_eq_some_iff.mp e
    rw [h x b hb]
    simp only [Option.bind_some]
    cases b with
    | true => simpa using e
    | false =>
      rw [if_neg (by simp)] at e ⊢
      exact anyO_mono h xs r e
theorem anyO_some {α : Type} {p : α → Option Bool} {q : α → Bool} : ∀ (l : List α), (∀ x ∈ l, p x = some (q x)) → anyO p l = some (l.any q)
  | [], _ => rfl
  | x :: xs, h => by
    simp only [anyO, h x (List.mem_cons_self), Option.bind_some, List.any_cons]
    cases e : q x with
    | true => simp
    | false => simp [anyO_some xs (fun y hy => h y (List.mem_cons_of_mem _ hy))]
theorem idxO_drop {α : Type} (p : α → Option Bool) (l : List α) (n : Nat) (h : n < l.length) (i : Int) : idxO p (l.drop n) i = (p l[n]).bind fun b => if b = true then some i else idxO p (l.drop (n + 1)) (i + 1) := by
  rw [List.drop_eq_getElem_cons h]; rfl
end Go.Proofs.YtokonpkecmnneaaHw
