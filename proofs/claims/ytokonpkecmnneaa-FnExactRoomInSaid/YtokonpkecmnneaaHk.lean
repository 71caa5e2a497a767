/- Short forms of the print's steps through a region. Conditions: none. -/
import Derived.Test.YtokonpkecmnneaaWLast
import Derived.Test.YtokonpkecmnneaaWTab
namespace Go.Proofs.YtokonpkecmnneaaHk
open Go Go.RowKit Go.Proofs.YtokonpkecmnneaaW.PrintWords Go.Proofs.YtokonpkecmnneaaW.PrintLast
def bL_ : Nat → Nat → List Bool
  | 0, _ => []
  | n + 1, m => Nat.beq (m % 2) 1 :: bL_ n (m / 2)
/-- A row of n marks, out of a number's bits. -/
def bl_ (n m : Nat) : Array Bool := ⟨bL_ n m⟩
section
variable {P : Program} {ops : Array Oper} {Q : Exit → Act → World → Prop} {md : Region.Mode} {S : World → Prop} {ds : List Nat} {T : Bool × List (List Nat × List Nat)} {B : List Nat}
theorem pu_ {oi : Oper} {v : Value} {fuel : Nat} {l : Array Bool} {a : Act} {w : World} (i : Nat) (n : Tmp) (l' : Array Bool) (hi : ops[i]? = some oi) (hN : oi.dst = some n) (hT : rtab md ops = T) (hc : anyT T l.toList l'.toList i = true)
    (hQ : ∀ c a w, Q (.panic c) (a.put oi.dst v) w → Q (.panic c) a w) (hy : Yields P ops oi v a) {a' : Act} (ha : a.put (some n) v = a')
    (h : wpAnyLast P md ops Q S ds fuel l' a' w) : wpAnyLast P md ops Q S ds (fuel + 1) l a w := pure_ l' hi hN (any_of hT hc) hQ hy ha h
theorem tk_ {oi : Oper} {v : Value} {fuel : Nat} {l : Array Bool} {a : Act} {w : World} (i : Nat) (n : Tmp) (l' : Array Bool) (hi : ops[i]? = some oi) (hN : oi.dst = some n) (hT : rtab md ops = T) (hB : waitsOk T.2 B = true) (hc : takeW T B ds l.toList l'.toList i = true)
    (hQ : ∀ c a w, Q (.panic c) (a.put oi.dst v) w → Q (.panic c) a w) (hy : YieldsIf P ops S oi v a) (hS : S w) {a' : Act} (ha : a.put (some n) v = a')
    (h : wpAnyLast P md ops Q S ds fuel l' a' w) : wpAnyLast P md ops Q S ds (fuel + 1) l a w := take_ l' hi hN (take_ofW hT hB hc) hQ hy hS ha h
theorem q1_ {α : Type} (l : List α) (i : Nat) (a : α) : (l.toArray).setIfInBounds i a = (l.set i a).toArray := List.setIfInBounds_toArray ..
theorem q2_ {α : Type} (x : α) (xs : List α) (a : α) : (x :: xs).set 0 a = a :: xs := rfl
theorem q3_ {α : Type} (x : α) (xs : List α) (n : Nat) (a : α) : (x :: xs).set (n + 1) a = x :: xs.set n a := rfl
end
/-- What lay below w's end in W0 does so in W. -/
def Bs (w W0 W : World) : Prop := Below w.heap.size w W0 → Below w.heap.size w W
section
variable {w W0 W : World}
instance bs0 : Nonempty (Bs w W0 W0) := ⟨id⟩
instance bs1 [h : Nonempty (Bs w W0 W)] (o : Obj) : Nonempty (Bs w W0 (W.alloc o)) := h.elim fun f => ⟨fun k => below_alloc (f k) o⟩
instance bs2 [h : Nonempty (Bs w W0 W)] (n : Nat) : Nonempty (Bs w W0 (W.drewN n)) := h.elim fun f => ⟨fun k => pw_below_drewN (f k) n⟩
instance bs3 [h : Nonempty (Bs w W0 W)] : Nonempty (Bs w W0 W.drew) := h.elim fun f => ⟨fun k => below_drew1 (f k)⟩
instance bs4 [h : Nonempty (Bs w W0 W)] {g j : Nat} {v : Value} [k : Nonempty (w.heap.size ≤ g)] : Nonempty (Bs w W0 (W.setCell ⟨g, j, none⟩ v)) := h.elim fun f => k.elim fun hg => ⟨fun k => below_set (f k) hg⟩
theorem bw_ [s : Nonempty (Bs w W0 W)] (h : Below w.heap.size w W0) : Below w.heap.size w W := s.elim fun f => f h
theorem st_ [s : Nonempty (Bs W0 W0 W)] : Below W0.heap.size W0 W := s.elim fun f => f (Below.refl _ _)
theorem bk_ [s : Nonempty (Bs W0 W0 W)] {g : Nat} {o : Obj} (h : W0.heap[g]? = some o) : W.heap[g]? = some o := blk_below h st_
end
end Go.Proofs.YtokonpkecmnneaaHk
