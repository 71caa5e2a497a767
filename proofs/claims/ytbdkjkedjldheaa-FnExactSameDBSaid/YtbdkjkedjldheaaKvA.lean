/- An evaluator of the program's code over trees: the definitions. Conditions: none. -/
import Derived.Calls
namespace Go.Proofs.YtbdkjkedjldheaaTv
open Go
/-- A value as the evaluator sees it. -/
inductive TV where
  | undef
  | int (k : IntKind) (n : Int)
  | bool (b : Bool)
  | str (s : ByteArray)
  | agg (cs : List TV)
  | tup (vs : List TV)
  | lst (fr ex nn : Bool) (sz n : Nat) (f : Nat → List TV)
  | own (id g lo n : Nat)
  | pnil
  | pimm (row : List TV) (off : Nat)
  | ploc (d off : Nat)
  | pown (id g r off : Nat)
  | fn (f : FuncId) (caps : List TV)
instance : Inhabited TV := ⟨.undef⟩
/-- A row of elements in memory that may be written. -/
structure Ob where
  sz : Nat
  gen : Nat
  n : Nat
  f : Nat → List TV
abbrev Loc := List (Option (List TV))
abbrev Heap := List Ob
inductive TK where
  | int (k : IntKind)
  | bool
  | str
  | slice (e : TypeId)
  | struct (fs : List (Nat × TypeId))
  | other
structure TI where
  size : Nat
  bytes : Nat
  zero : List TV
  kind : TK
def TI.isAgg (i : TI) : Bool := match i.kind with | .struct _ => true | _ => false
structure Env where
  fn : FuncId → Option Func
  ti : TypeId → Option TI
  mode : FuncId → FuncId → Bool
  prim : FuncId → Option (List TV → Option TV)
  esc : FuncId → Nat → Bool
  dead : FuncId → Nat → Nat
def nth {α : Type} : List α → Nat → Option α
  | [], _ => none
  | a :: _, 0 => some a
  | _ :: l, n + 1 => nth l n
def upd {α : Type} : List α → Nat → α → List α
  | [], _, _ => []
  | _ :: l, 0, b => b :: l
  | a :: l, n + 1, b => a :: upd l n b
def nthD (l : List TV) (n : Nat) : TV := (nth l n).getD .undef
/-- m cells from off on. -/
def sub {α : Type} : List α → Nat → Nat → Option (List α)
  | _, 0, 0 => some []
  | a :: l, 0, m + 1 => (sub l 0 m).map (a :: ·)
  | _ :: l, off + 1, m => sub l off m
  | [], _ + 1, _ => none
  | [], 0, _ + 1 => none
/-- The row with cells from off on replaced. -/
def put {α : Type} : List α → Nat → List α → Option (List α)
  | l, 0, [] => some l
  | _ :: l, 0, b :: bs => (put l 0 bs).map (b :: ·)
  | a :: l, off + 1, bs => (put l off bs).map (a :: ·)
  | [], _ + 1, _ => none
  | [], 0, _ :: _ => none
/-- The same, whatever the length. -/
def ovr {α : Type} (l : List α) (off : Nat) (bs : List α) : List α := (put l off bs).getD l
def cellsT : TV → List TV
  | .agg cs => cs
  | t => [t]
def cTV1 : Value → TV
  | .bool b => .bool b
  | .int k n => .int k n
  | .string s => .str s
  | .pointer none => .pnil
  | _ => .undef
def cCell (z : TV) : Value → TV
  | .slice none 0 0 => (match z with | .lst _ true false _ 0 _ => z | _ => .undef)
  | v => cTV1 v
def cCells : List TV → List Value → List TV
  | z :: zs, v :: vs => cCell z v :: cCells zs vs
  | _, [] => []
  | [], v :: vs => cTV1 v :: cCells [] vs
def nilT (E : Env) (ty : TypeId) : TV := match E.ti ty with | some i => (match i.zero with | [z] => cCell z (.slice none 0 0) | _ => .undef) | none => .undef
def cTV (E : Env) (ty : TypeId) : Value → TV
  | .agg cs => .agg (cCells (((E.ti ty).map (·.zero)).getD []) cs.toList)
  | .tuple vs => (match vs.toList with | [] => .tup [] | _ => .undef)
  | .slice none 0 0 => nilT E ty
  | v => cTV1 v
def rho (E : Env) (T : List TV) (ty : TypeId) : Operand → TV
  | .tmp t => nthD T t
  | .const v => cTV E ty v
  | .func f => .fn f []
  | .global _ => .undef
section
variable {R : Type}
/-- A value handed on by its head, so that no thunk is handed on. -/
def force1 (t : TV) (K : TV → Option R) : Option R :=
  match t with
  | .undef => K .undef
  | .int k n => K (.int k n)
  | .bool b => K (.bool b)
  | .str s => K (.str s)
  | .agg cs => K (.agg cs)
  | .tup vs => K (.tup vs)
  | .lst fr ex nn sz n f => K (.lst fr ex nn sz n f)
  | .own id g lo n => K (.own id g lo n)
  | .pnil => K .pnil
  | .pimm row off => K (.pimm row off)
  | .ploc d off => K (.ploc d off)
  | .pown id g r off => K (.pown id g r off)
  | .fn f caps => K (.fn f caps)
def forceL : List TV → (List TV → Option R) → Option R
  | [], K => K []
  | a :: l, K => force1 a fun a' => forceL l fun l' => K (a' :: l')
def forceK (t : TV) (K : TV → Option R) : Option R :=
  match t with
  | .undef => K .undef
  | .int k n => K (.int k n)
  | .bool b => K (.bool b)
  | .str s => K (.str s)
  | .agg cs => forceL cs fun cs' => K (.agg cs')
  | .tup vs => forceL vs fun vs' => K (.tup vs')
  | .lst fr ex nn sz n f => K (.lst fr ex nn sz n f)
  | .own id g lo n => K (.own id g lo n)
  | .pnil => K .pnil
  | .pimm row off => K (.pimm row off)
  | .ploc d off => K (.ploc d off)
  | .pown id g r off => K (.pown id g r off)
  | .fn f caps => forceL caps fun caps' => K (.fn f caps')
def updK {α : Type} : List α → Nat → α → (List α → Option R) → Option R
  | [], _, _, K => K []
  | _ :: l, 0, b, K => K (b :: l)
  | a :: l, n + 1, b, K => updK l n b fun l' => K (a :: l')
theorem force1_eq (t : TV) (K : TV → Option R) : force1 t K = K t := by cases t <;> rfl
theorem forceL_eq : ∀ (l : List TV) (K : List TV → Option R), forceL l K = K l
  | [], K => rfl
  | a :: l, K => by simp only [forceL, force1_eq, forceL_eq l]
theorem forceK_eq (t : TV) (K : TV → Option R) : forceK t K = K t := by cases t <;> simp only [forceK, forceL_eq]
theorem updK_eq {α : Type} : ∀ (l : List α) (n : Nat) (b : α) (K : List α → Option R), updK l n b K = K (upd l n b)
  | [], _, _, _ => rfl
  | _ :: _, 0, _, _ => rfl
  | a :: l, n + 1, b, K => by simp only [updK, updK_eq l n b, upd]
def ck (c : Prop) [Decidable c] (x : Option R) : Option R := if c then x else none
/-- A call's answer, handed on. -/
def bnd {α : Type} (c : Option α) (K : α → Option R) : Option R := match c with | some t => K t | none => none
def rdRow (E : Env) (ty : TypeId) (row : List TV) (off : Nat) (K : TV → Option R) : Option R :=
  match E.ti ty with
  | none => none
  | some i =>
    match i.isAgg with
    | true => (match sub row off i.size with | some cs => K (.agg cs) | none => none)
    | false => (match nth row off with | some t => K t | none => none)
def loadK (E : Env) (L : Loc) (H : Heap) (ty : TypeId) (p : TV) (K : TV → Option R) : Option R :=
  match p with
  | .pimm row off => rdRow E ty row off K
  | .ploc d off => (match nth L d with | some (some row) => rdRow E ty row off K | _ => none)
  | .pown id g r off => (match nth H id with | some o => ck (o.gen = g ∧ r < o.n) (rdRow E ty (o.f r) off K) | none => none)
  | _ => none
def addOff (n : Nat) : TV → TV
  | .pimm row off => .pimm row (off + n)
  | .ploc d off => .ploc d (off + n)
  | .pown id g r off => .pown id g r (off + n)
  | _ => .undef
def isPtr : TV → Bool
  | .pimm .. | .ploc .. | .pown .. => true
  | _ => false
/-- Equal cells, by their type. -/
def eqTy (E : Env) : Nat → TypeId → List TV → List TV → Option Bool
  | 0, _, _, _ => none
  | d + 1, ty, xs, ys =>
    match E.ti ty with
    | none => none
    | some i =>
      match i.kind with
      | .int _ => (match xs, ys with | [.int k a], [.int k' b] => if k = k' then some (a == b) else none | _, _ => none)
      | .bool => (match xs, ys with | [.bool a], [.bool b] => some (a == b) | _, _ => none)
      | .str => (match xs, ys with | [.str a], [.str b] => some (a.toList == b.toList) | _, _ => none)
      | .struct fs => fs.foldr (fun f acc => match E.ti f.2 with
          | none => none
          | some j => match sub xs f.1 j.size, sub ys f.1 j.size with
            | some x, some y => (match eqTy E d f.2 x y with | some b => acc.map (b && ·) | none => none)
            | _, _ => none) (some true)
      | _ => none
def binK (E : Env) (op : BinOp) (ty : TypeId) (x y : TV) (K : TV → Option R) : Option R :=
  match x, y with
  | .int k a, .int k' b =>
    (match op with
    | .shl => ck (0 ≤ b) (K (.int k (k.wrap (a * 2 ^ (min b.toNat k.bits)))))
    | .shr => ck (0 ≤ b) (K (.int k (a.fdiv (2 ^ (min b.toNat k.bits)))))
    | _ =>
      if k = k' then
        match op with
        | .add => K (.int k (k.wrap (a + b)))
        | .sub => K (.int k (k.wrap (a - b)))
        | .mul => K (.int k (k.wrap (a * b)))
        | .quo => ck (b ≠ 0) (K (.int k (k.wrap (a.tdiv b))))
        | .rem => ck (b ≠ 0) (K (.int k (a.tmod b)))
        | .eql => K (.bool (a == b))
        | .neq => K (.bool (a != b))
        | .lss => K (.bool (a < b))
        | .leq => K (.bool (a ≤ b))
        | .gtr => K (.bool (a > b))
        | .geq => K (.bool (a ≥ b))
        | _ => none
      else none)
  | .str a, .str b =>
    (match op with
    | .add => ck (((a.size + b.size : Nat) : Int) ≤ IntKind.i64.max) (K (.str (a ++ b)))
    | .eql => K (.bool (a.toList == b.toList))
    | .neq => K (.bool !(a.toList == b.toList))
    | .lss => K (.bool (Op.bytesLess a.toList b.toList))
    | .leq => K (.bool (Op.bytesLess a.toList b.toList || a.toList == b.toList))
    | .gtr => K (.bool !(Op.bytesLess a.toList b.toList || a.toList == b.toList))
    | .geq => K (.bool !Op.bytesLess a.toList b.toList)
    | _ => none)
  | .bool a, .bool b =>
    (match E.ti ty with
    | some { kind := .bool, .. } => (match op with | .eql => K (.bool (a == b)) | .neq => K (.bool !(a == b)) | _ => none)
    | _ => none)
  | .agg xs, .agg ys =>
    (match E.ti ty with
    | some { kind := .struct _, .. } => (match op with
      | .eql => (match eqTy E 8 ty xs ys with | some b => K (.bool b) | none => none)
      | .neq => (match eqTy E 8 ty xs ys with | some b => K (.bool !b) | none => none)
      | _ => none)
    | _ => none)
  | _, _ => none
def unK (op : UnOp) (x : TV) (K : TV → Option R) : Option R :=
  match op, x with
  | .not, .bool b => K (.bool !b)
  | .neg, .int k n => K (.int k (k.wrap (0 - n)))
  | _, _ => none
/-- A part of a list of elements. -/
def shf (lo : Nat) (f : Nat → List TV) : Nat → List TV := match lo with | 0 => f | _ => fun i => f (lo + i)
def boundK (n : Nat) (x : Option TV) (dflt : Nat) (K : Nat → Option R) : Option R :=
  match x with
  | none => K dflt
  | some (.int _ i) => ck (0 ≤ i ∧ i ≤ n) (K i.toNat)
  | _ => none
def sliceK (E : Env) (ty : TypeId) (x : TV) (H : Heap) (lo hi : Option TV) (K : TV → Option R) : Option R :=
  match E.ti ty with
  | some { kind := .str, .. } => (match x with
    | .str s => boundK s.size hi s.size fun h => boundK h lo 0 fun l => K (.str (s.extract l h))
    | _ => none)
  | some { kind := .slice e, .. } => (match E.ti e with
    | none => none
    | some ei => match x with
      | .lst fr _ _ sz n f => ck (sz = ei.size) (boundK n hi n fun h => boundK h lo 0 fun l => K (.lst fr false false sz (h - l) (shf l f)))
      | .own id g a n => (match nth H id with
        | some o => ck (o.gen = g ∧ o.sz = ei.size) (boundK n hi n fun h => boundK h lo 0 fun l =>
            match l with
            | 0 => K (.own id g a h)
            | _ => if l < h then K (.own id g (a + l) (h - l)) else K (.lst false false false o.sz 0 o.f))
        | none => none)
      | _ => none)
  | _ => none
def indexAddrK (E : Env) (H : Heap) (ty : TypeId) (x ix : TV) (K : TV → Option R) : Option R :=
  match E.ti ty, ix with
  | some { kind := .slice e, .. }, .int _ i =>
    (match E.ti e with
    | none => none
    | some ei =>
      match x with
      | .lst _ _ _ sz n f => ck (0 ≤ i ∧ i < n) (ck (sz = ei.size) (K (.pimm (f i.toNat) 0)))
      | .own id g lo n => (match nth H id with | some o => ck (o.gen = g) (ck (0 ≤ i ∧ i < n) (ck (o.sz = ei.size) (K (.pown id g (match lo with | 0 => i.toNat | _ => lo + i.toNat) 0)))) | none => none)
      | _ => none)
  | _, _ => none
def lenK (E : Env) (ty : TypeId) (H : Heap) (x : TV) (K : TV → Option R) : Option R :=
  match E.ti ty with
  | some { kind := .str, .. } => (match x with | .str s => K (.int .i64 s.size) | _ => none)
  | some { kind := .slice _, .. } => (match x with
    | .lst _ _ _ _ n _ => K (.int .i64 n)
    | .own id g _ n => (match nth H id with | some o => ck (o.gen = g) (K (.int .i64 n)) | none => none)
    | _ => none)
  | _ => none
/-- As an argument: what may be written is only read. -/
def frz (L : Loc) (H : Heap) : Nat → TV → TV
  | 0, _ => .undef
  | d + 1, t =>
    match t with
    | .lst _ _ _ sz n f => .lst false false false sz n (fun i => (f i).map (frz L H d))
    | .own id g lo n => (match nth H id with
      | some o => (match decide (o.gen = g ∧ lo + n ≤ o.n) with | true => .lst false false false o.sz n (fun i => ((shf lo o.f) i).map (frz L H d)) | false => .undef)
      | none => .undef)
    | .agg cs => .agg (cs.map (frz L H d))
    | .tup vs => .tup (vs.map (frz L H d))
    | .pimm row off => .pimm (row.map (frz L H d)) off
    | .ploc s off => (match nth L s with | some (some row) => .pimm (row.map (frz L H d)) off | _ => .undef)
    | .pown id g r off => (match nth H id with
      | some o => (match decide (o.gen = g ∧ r < o.n) with | true => .pimm ((o.f r).map (frz L H d)) off | false => .undef)
      | none => .undef)
    | .fn f caps => .fn f (caps.map (frz L H d))
    | t => t
/-- As a result: only what the call made itself. -/
def ret (H : Heap) : Nat → TV → TV
  | 0, _ => .undef
  | d + 1, t =>
    match t with
    | .lst true _ _ sz n f => .lst true false false sz n (fun i => (f i).map (ret H d))
    | .lst false .. => .undef
    | .own id g lo n => (match nth H id with
      | some o => (match decide (o.gen = g ∧ lo + n ≤ o.n) with | true => .lst true false false o.sz n (fun i => ((shf lo o.f) i).map (ret H d)) | false => .undef)
      | none => .undef)
    | .agg cs => .agg (cs.map (ret H d))
    | .tup vs => .tup (vs.map (ret H d))
    | .pimm .. | .ploc .. | .pown .. | .fn .. => .undef
    | t => t
def pickK (c : Bool) (x y : TV) (K : TV → Option R) : Option R :=
  match x, y with
  | .bool a, .bool b => K (.bool (bif c then a else b))
  | _, _ => bif c then K x else K y
def argsT (E : Env) (T : List TV) : List Operand → List TypeId → List TV
  | [], _ => []
  | x :: xs, t :: ts => rho E T t x :: argsT E T xs ts
  | x :: xs, [] => rho E T 0 x :: argsT E T xs []
def minmax (mx : Bool) (k : IntKind) (x : Int) : List TV → (TV → Option R) → Option R
  | [], K => K (.int k x)
  | .int _ y :: r, K => (match mx with | true => minmax mx k (if y > x then y else x) r K | false => minmax mx k (if y < x then y else x) r K)
  | _, _ => none
/-- Operations that change no memory. -/
def evQ (E : Env) (ct : FuncId → List TV → Option TV) (o : Oper) (T : List TV) (L : Loc) (H : Heap) (K : TV → Option R) : Option R :=
  match o.op with
  | .move x | .assign x => K (rho E T o.type x)
  | .pick c a b => (match rho E T o.type c with | .bool c' => pickK c' (rho E T o.type a) (rho E T o.type b) K | _ => none)
  | .load ty a => loadK E L H ty (rho E T 0 a) K
  | .nilCheck x => (match isPtr (rho E T 0 x) with | true => K (rho E T 0 x) | false => none)
  | .binOp op ty x y _ => binK E op ty (rho E T ty x) (rho E T ty y) K
  | .unOp op _ x => unK op (rho E T 0 x) K
  | .convert src dst x => (match E.ti dst, E.ti src, rho E T src x with
    | some { kind := .int k, .. }, some { kind := .int _, .. }, .int _ n => K (.int k (k.wrap n))
    | some { kind := .str, .. }, some { kind := .str, .. }, .str s => K (.str s)
    | _, _, _ => none)
  | .makeFunc (.func f) first caps => (match first.toList with | [] => K (.fn f (caps.toList.map (rho E T 0))) | _ => none)
  | .slice ty x lo hi mx => (match mx with | none => sliceK E ty (rho E T ty x) H (lo.map (rho E T 0)) (hi.map (rho E T 0)) K | _ => none)
  | .fieldAddr s x f => (match E.ti s with
    | some { kind := .struct fs, .. } => (match nth fs f with
      | some (off, ft) => (match E.ti ft with
        | some fi => (match Nat.ble 1 fi.size, isPtr (rho E T 0 x) with | true, true => K (addOff off (rho E T 0 x)) | _, _ => none)
        | none => none)
      | none => none)
    | _ => none)
  | .field s x f => (match E.ti s, rho E T s x with
    | some { kind := .struct fs, .. }, .agg cs => (match nth fs f with | some (off, ft) => rdRow E ft cs off K | none => none)
    | _, _ => none)
  | .indexAddr ty x ix => indexAddrK E H ty (rho E T ty x) (rho E T 0 ix) K
  | .index ty x ix => (match E.ti ty, rho E T ty x, rho E T 0 ix with
    | some { kind := .str, .. }, .str s, .int _ i => ck (0 ≤ i ∧ i < s.size) (K (.int .u8 (s[i.toNat]?.getD 0).toNat))
    | _, _, _ => none)
  | .extract t ix => (match rho E T 0 t with | .tup vs => (match nth vs ix with | some v => K v | none => none) | _ => none)
  | .call c => (match c.callee with
    | .builtin .len => (match c.argTypes.toList, argsT E T c.args.toList c.argTypes.toList with | ty :: _, [x] => lenK E ty H x K | _, _ => none)
    | .builtin .max => (match argsT E T c.args.toList c.argTypes.toList with | .int k x :: r => minmax true k x r K | _ => none)
    | .builtin .min => (match argsT E T c.args.toList c.argTypes.toList with | .int k x :: r => minmax false k x r K | _ => none)
    | .value f => (match rho E T 0 f with
      | .fn g caps => bnd (ct g ((argsT E T c.args.toList c.argTypes.toList ++ caps).map (frz L H 8))) K
      | _ => none)
    | _ => none)
  | _ => none
/-- Nothing in it leads to a variable of the frame's own, or to code. -/
def noloc1 : TV → Bool
  | .ploc .. | .fn .. | .agg _ | .tup _ => false
  | _ => true
/-- The value of one cell, of which something is known. -/
def solid : TV → Bool
  | .int .. | .bool _ | .str _ | .lst .. | .own .. | .pnil | .pimm .. | .pown .. => true
  | _ => false
/-- The same, deeper. -/
def nolocD : Nat → TV → Bool
  | d + 1, .agg cs | d + 1, .tup cs | d + 1, .fn _ cs => cs.all (nolocD d)
  | _, t => noloc1 t
def setF (f : Nat → List TV) (i : Nat) (row : List TV) : Nat → List TV := fun k => if k = i then row else f k
def appF (n : Nat) (f : Nat → List TV) (m : Nat) (g : Nat → List TV) : Nat → List TV := fun k => if n ≤ k ∧ k < n + m then g (k - n) else f k
def storeK (E : Env) (L : Loc) (H : Heap) (ty : TypeId) (p v : TV) (K : Loc → Heap → Option R) : Option R :=
  match E.ti ty with
  | none => none
  | some i =>
    match Nat.beq (cellsT v).length i.size, (cellsT v).all solid with
    | true, true => (match p with
      | .ploc d off => (match nth L d with
        | some (some row) => (match put row off (cellsT v) with | some row' => forceL row' fun r2 => updK L d (some r2) fun L' => K L' H | none => none)
        | _ => none)
      | .pown id g r off => (match nth H id with
        | some o => ck (o.gen = g ∧ r < o.n) (match Nat.beq (cellsT v).length o.sz, off with
          | true, 0 => K L (upd H id { o with f := setF o.f r (cellsT v) })
          | _, off => (match Nat.ble (off + (cellsT v).length) o.sz with
            | true => K L (upd H id { o with f := setF o.f r (ovr (o.f r) off (cellsT v)) })
            | false => none))
        | none => none)
      | _ => none)
    | _, _ => none
/-- The rows that are appended. -/
def srcK (H : Heap) (x : TV) (K : Nat → Nat → (Nat → List TV) → Option R) : Option R :=
  match x with
  | .lst _ _ _ sz m g => K sz m g
  | .own id g lo m => (match nth H id with | some o => ck (o.gen = g ∧ lo + m ≤ o.n) (K o.sz m (shf lo o.f)) | none => none)
  | _ => none
def appendK (E : Env) (H : Heap) (e : TypeId) (s x : TV) (K : TV → Heap → Option R) : Option R :=
  match E.ti e with
  | none => none
  | some ei =>
    srcK H x fun sz m g =>
      match s with
      | .lst _ true _ sz0 n f =>
        if m = 0 then K s H else
        ck ((n + m + 256) * ei.bytes ≤ 2 ^ 46 ∧ n + m ≤ 2 ^ 46 ∧ sz = ei.size ∧ (n = 0 ∨ sz0 = ei.size)) (K (.own H.length 0 0 (n + m)) (H ++ [{ sz := ei.size, gen := 0, n := n + m, f := appF n f m g }]))
      | .own id g0 lo n => (match nth H id with
        | some o => ck (o.gen = g0 ∧ lo = 0 ∧ n = o.n ∧ o.sz = ei.size) (
          if m = 0 then K s H else
          ck ((n + m + 256) * ei.bytes ≤ 2 ^ 46 ∧ n + m ≤ 2 ^ 46 ∧ sz = ei.size ∧ ∀ i, i < m → (g i).all solid = true) (K (.own id (g0 + 1) 0 (n + m)) (upd H id { o with gen := g0 + 1, n := n + m, f := appF n o.f m g })))
        | none => none)
      | _ => none
/-- Operations that change memory. -/
def loud (E : Env) (f : FuncId) (o : Oper) (T : List TV) : Bool :=
  match o.op with
  | .alloc _ | .box .. | .store .. | .makeSlice .. | .buildSlice .. => true
  | .call c => (match c.callee with
    | .builtin .append | .builtin .copy | .builtin .clear => true
    | .value x => (match rho E T 0 x with | .fn g _ => E.mode f g | _ => false)
    | _ => false)
  | _ => false
def newVarK (E : Env) (f : FuncId) (dst : Option Tmp) (row : List TV) (L : Loc) (H : Heap) (K : TV → Loc → Heap → Option R) : Option R :=
  match row.all noloc1 with
  | false => none
  | true =>
    match dst with
    | none => none
    | some d =>
      match E.esc f d with
      | true => K (.pown H.length 0 0 0) L (H ++ [{ sz := row.length, gen := 0, n := 1, f := fun _ => row }])
      | false => (match nth L d with | some none => forceL row fun r2 => updK L d (some r2) fun L' => K (.ploc d 0) L' H | _ => none)
def whole (t : TV) : Bool := match t with | .agg _ => true | t => solid t
def rowsOf (E : Env) (T : List TV) (e : TypeId) (size : Nat) : List (Nat × Operand) → Nat → Option (List (List TV))
  | [], _ => some []
  | (i, x) :: r, j =>
    match Nat.beq i j, Nat.beq (cellsT (rho E T e x)).length size, (cellsT (rho E T e x)).all noloc1, whole (rho E T e x) with
    | true, true, true, true => (rowsOf E T e size r (j + 1)).map (cellsT (rho E T e x) :: ·)
    | _, _, _, _ => none
def evL (E : Env) (ch : FuncId → List TV → Heap → Option (TV × Heap)) (f : FuncId) (o : Oper) (T : List TV) (L : Loc) (H : Heap) (K : TV → Loc → Heap → Option R) : Option R :=
  match o.op with
  | .alloc ty => (match E.ti ty with | some i => newVarK E f o.dst i.zero L H K | none => none)
  | .box ty x => (match whole (rho E T ty x) with | true => newVarK E f o.dst (cellsT (rho E T ty x)) L H K | false => none)
  | .store ty a x => storeK E L H ty (rho E T 0 a) (rho E T ty x) (K (.tup []))
  | .makeSlice ty l c => (match E.ti ty, rho E T 0 l, rho E T 0 c with
    | some { kind := .slice e, .. }, .int _ l', .int _ c' => (match E.ti e with
      | some ei => ck (0 ≤ l' ∧ l' ≤ c' ∧ c' ≤ 2 ^ 46 ∧ c' * ei.bytes ≤ 2 ^ 46) (match ei.zero.all noloc1 with
        | true => K (.own H.length 0 0 l'.toNat) L (H ++ [{ sz := ei.zero.length, gen := 0, n := l'.toNat, f := fun _ => ei.zero }])
        | false => none)
      | none => none)
    | _, _, _ => none)
  | .buildSlice ty len parts => (match E.ti ty with
    | some { kind := .slice e, .. } => (match E.ti e with
      | some ei => (match Nat.beq parts.toList.length len && Nat.ble 1 ei.size, Nat.ble (len * ei.size) (2 ^ 24), rowsOf E T e ei.size parts.toList 0 with
        | true, true, some rows => (match o.dst.any (E.esc f) with
          | true => K (.own H.length 0 0 len) L (H ++ [{ sz := ei.size, gen := 0, n := len, f := fun i => (nth rows i).getD ei.zero }])
          | false => K (.lst true true true ei.size len (fun i => (nth rows i).getD ei.zero)) L H)
        | _, _, _ => none)
      | none => none)
    | _ => none)
  | .call c => (match c.callee with
    | .builtin .append => (match c.argTypes.toList, argsT E T c.args.toList c.argTypes.toList with
      | [ty, ty2], [s, x] => (match Nat.beq ty ty2, E.ti ty with | true, some { kind := .slice e, .. } => appendK E H e s x (fun t H' => K t L H') | _, _ => none)
      | _, _ => none)
    | .value x => (match rho E T 0 x with
      | .fn g caps => (match (argsT E T c.args.toList c.argTypes.toList ++ caps).all (nolocD 4) with
        | true => bnd (ch g (argsT E T c.args.toList c.argTypes.toList ++ caps) H) fun r => K r.1 L r.2
        | false => none)
      | _ => none)
    | _ => none)
  | _ => none
structure St where
  T : List TV
  L : Loc
  H : Heap
def putK (T : List TV) (dst : Option Tmp) (t : TV) (K : List TV → Option R) : Option R := match dst with | some d => forceK t fun t' => updK T d t' K | none => K T
def putT (T : List TV) (dst : Option Tmp) (t : TV) : List TV := match dst with | some d => upd T d t | none => T
/-- One operation that is wanted. -/
theorem putK_eq (T : List TV) (dst : Option Tmp) (t : TV) (K : List TV → Option R) : putK T dst t K = K (putT T dst t) := by cases dst <;> simp only [putK, putT, forceK_eq, updK_eq]
def evOp (E : Env) (ct : FuncId → List TV → Option TV) (ch : FuncId → List TV → Heap → Option (TV × Heap)) (f : FuncId) (dr : Bool) (o : Oper) (s : St) (K : St → Option R) : Option R :=
  match s with
  | ⟨T, L, H⟩ => match !dr && loud E f o T with
    | true => evL E ch f o T L H fun t L H => putK T o.dst t fun T => K ⟨T, L, H⟩
    | false => evQ E ct o T L H fun t => putK T o.dst t fun T => K ⟨T, L, H⟩
theorem evOp_eq (E : Env) (ct : FuncId → List TV → Option TV) (ch : FuncId → List TV → Heap → Option (TV × Heap)) (f : FuncId) (dr : Bool) (o : Oper) (s : St) (K : St → Option R) : evOp E ct ch f dr o s K = match !dr && loud E f o s.T with
    | true => evL E ch f o s.T s.L s.H fun t L H => K ⟨putT s.T o.dst t, L, H⟩
    | false => evQ E ct o s.T s.L s.H fun t => K ⟨putT s.T o.dst t, s.L, s.H⟩ := by
  obtain ⟨T, L, H⟩ := s
  simp only [evOp, putK_eq]
def guardT (ops : List Oper) (j : Nat) : Option Tmp := (nth ops j).bind (·.dst)
def evOps (E : Env) (ct : FuncId → List TV → Option TV) (ch : FuncId → List TV → Heap → Option (TV × Heap)) (f : FuncId) (dr : Bool) (ops : List Oper) : List Oper → St → (St → Option R) → Option R
  | [], s, K => K s
  | o :: r, s, K =>
    match o.guard with
    | none => evOp E ct ch f dr o s fun s' => evOps E ct ch f dr ops r s' K
    | some (j, want) =>
      match guardT ops j, s with
      | none, _ => none
      | some g, ⟨T, L, H⟩ =>
        match nthD T g with
        | .bool b => bif b == want
          then updK T g (.bool want) fun T => evOp E ct ch f dr o ⟨T, L, H⟩ fun s' => evOps E ct ch f dr ops r s' K
          else updK T g (.bool !want) fun T => putK T o.dst (.tup []) fun T => evOps E ct ch f dr ops r ⟨T, L, H⟩ K
        | .tup [] => putK T o.dst (.tup []) fun T => evOps E ct ch f dr ops r ⟨T, L, H⟩ K
        | _ => none
theorem evOps_cons (E : Env) (ct : FuncId → List TV → Option TV) (ch : FuncId → List TV → Heap → Option (TV × Heap)) (f : FuncId) (dr : Bool) (ops : List Oper) (o : Oper) (r : List Oper) (s : St) (K : St → Option R) : evOps E ct ch f dr ops (o :: r) s K =
    match o.guard with
    | none => evOp E ct ch f dr o s fun s' => evOps E ct ch f dr ops r s' K
    | some (j, want) =>
      match guardT ops j with
      | none => none
      | some g =>
        match nthD s.T g with
        | .bool b => bif b == want
          then evOp E ct ch f dr o ⟨upd s.T g (.bool want), s.L, s.H⟩ fun s' => evOps E ct ch f dr ops r s' K
          else evOps E ct ch f dr ops r ⟨putT (upd s.T g (.bool !want)) o.dst (.tup []), s.L, s.H⟩ K
        | .tup [] => evOps E ct ch f dr ops r ⟨putT s.T o.dst (.tup []), s.L, s.H⟩ K
        | _ => none := by
  obtain ⟨T, L, H⟩ := s
  simp only [evOps, updK_eq, putK_eq]
  cases o.guard with
  | none => rfl
  | some x =>
    obtain ⟨j, want⟩ := x
    simp only []
    cases guardT ops j <;> rfl
inductive Ex where
  | normal
  | exit (id : Nat)
  | ret
def maskT (m : Nat) : Nat → List TV → List TV
  | _, [] => []
  | i, t :: ts => (match m.testBit i with | true => .undef | false => t) :: maskT m (i + 1) ts
def maskL (m : Nat) : Nat → Loc → Loc
  | _, [] => []
  | i, t :: ts => (match m.testBit i with | true => none | false => t) :: maskL m (i + 1) ts
def maskTK (m : Nat) : Nat → List TV → (List TV → Option R) → Option R
  | _, [], K => K []
  | i, t :: ts, K => (match m.testBit i with | true => maskTK m (i + 1) ts fun l => K (.undef :: l) | false => maskTK m (i + 1) ts fun l => K (t :: l))
def maskLK (m : Nat) : Nat → Loc → (Loc → Option R) → Option R
  | _, [], K => K []
  | i, t :: ts, K => (match m.testBit i with | true => maskLK m (i + 1) ts fun l => K (none :: l) | false => maskLK m (i + 1) ts fun l => K (t :: l))
theorem maskTK_eq (m : Nat) : ∀ (l : List TV) (i : Nat) (K : List TV → Option R), maskTK m i l K = K (maskT m i l)
  | [], _, _ => rfl
  | t :: ts, i, K => by
    simp only [maskTK, maskT]
    cases m.testBit i <;> simp only [maskTK_eq m ts]
theorem maskLK_eq (m : Nat) : ∀ (l : Loc) (i : Nat) (K : Loc → Option R), maskLK m i l K = K (maskL m i l)
  | [], _, _ => rfl
  | t :: ts, i, K => by
    simp only [maskLK, maskL]
    cases m.testBit i <;> simp only [maskLK_eq m ts]
def noDead1 (m : Nat) : TV → Bool
  | .ploc d _ => !m.testBit d
  | .fn .. | .agg _ | .tup _ => false
  | _ => true
def noDead (m : Nat) : TV → Bool
  | .ploc d _ => !m.testBit d
  | .fn _ cs | .agg cs | .tup cs => cs.all (noDead1 m)
  | _ => true
/-- At a loop's head: what is dead is forgotten. -/
def maskK (m : Nat) (s : St) (K : St → Option R) : Option R :=
  match s with
  | ⟨T, L, H⟩ => match (maskT m 0 T).all (noDead m) with
    | true => maskTK m 0 T fun T => maskLK m 0 L fun L => K ⟨T, L, H⟩
    | false => none
theorem maskK_eq (m : Nat) (s : St) (K : St → Option R) : maskK m s K = match (maskT m 0 s.T).all (noDead m) with
    | true => K ⟨maskT m 0 s.T, maskL m 0 s.L, s.H⟩
    | false => none := by
  obtain ⟨T, L, H⟩ := s
  simp only [maskK, maskTK_eq, maskLK_eq]
def evLoop (m : Nat) (body : St → (Ex → St → Option R) → Option R) : Nat → St → (Ex → St → Option R) → Option R
  | 0, _, _ => none
  | n + 1, s, K => maskK m s fun s0 => body s0 fun e s' => match e with
    | .normal => evLoop m body n s' K
    | .exit id => maskK m s' fun s2 => K (.exit id) s2
    | .ret => maskK m s' fun s2 => K .ret s2
def opOperands (o : Oper) : List Tmp := o.op.operands.toList.filterMap fun | .tmp t => some t | _ => none
def dirDeps (o : Oper) : List Nat := (o.after.toList.filter (Region.binds .any)).map (·.on)
/-- Each temporary that an operation reads, and that another one of the region writes, is written by one that it waits for, which stands ahead of it; no two write the same. -/
def depsOk (ops : List Oper) : List Oper → Nat → Bool
  | [], _ => true
  | o :: r, i =>
    (opOperands o).all (fun t => (List.range ops.length).all fun j => match guardT ops j with
      | some d => !(Nat.beq d t) || ((dirDeps o).contains j && Nat.blt j i)
      | none => true) &&
    (match o.guard with | none => true | some (j, _) => (dirDeps o).contains j && Nat.blt j i) &&
    ((dirDeps o).all fun j => Nat.blt j i) &&
    (match o.dst with | none => true | some d => (List.range ops.length).all fun j => Nat.beq j i || (match guardT ops j with | some d' => !(Nat.beq d' d) | none => true)) &&
    depsOk ops r (i + 1)
/-- Variables of the frame's own that a region makes and fills, whose order is drawn. -/
def isLoudD (o : Oper) : Bool := match o.op with | .alloc _ | .store .. => true | _ => false
/-- The same operation, of which nothing is known. -/
def qop (o : Oper) : Oper := match isLoudD o with | true => { o with op := .move (.global 0) } | false => o
def allocAt (ops : List Oper) (j : Nat) : Option (Tmp × TypeId) := match nth ops j with
  | some o => (match o.op, o.dst with | .alloc ty, some d => some (d, ty) | _, _ => none)
  | none => none
def storeAtD (o : Oper) : Option Tmp := match o.op with | .store _ (.tmp d) _ => some d | _ => none
def dlOk (ops : List Oper) : List Oper → Nat → Bool
  | [], _ => true
  | o :: r, i => (match o.op with
    | .alloc _ => o.guard.isNone && o.dst.isSome
    | .store ty (.tmp d) _ => o.guard.isNone && o.dst.isNone && ((dirDeps o).any fun j => match allocAt ops j with | some (d', ty') => Nat.beq d' d && Nat.beq ty' ty | none => false) &&
      ((List.range ops.length).all fun j => Nat.beq j i || match nth ops j with | some o' => (match storeAtD o' with | some d' => !Nat.beq d' d | none => true) | none => true)
    | .store .. => false
    | _ => true) && dlOk ops r (i + 1)
def storeTo : List Oper → Tmp → Option Operand
  | [], _ => none
  | o :: r, d => match o.op with
    | .store _ (.tmp p) x => (match Nat.beq p d with | true => some x | false => storeTo r d)
    | _ => storeTo r d
def rowD (E : Env) (ops : List Oper) (T1 : List TV) (d : Tmp) (ty : TypeId) : Option (List TV) :=
  match E.ti ty with
  | none => none
  | some i => match storeTo ops d with
    | none => (match i.zero.all noloc1 with | true => some i.zero | false => none)
    | some x => (match Nat.beq (cellsT (rho E T1 ty x)).length i.size && (cellsT (rho E T1 ty x)).all solid with | true => some (cellsT (rho E T1 ty x)) | false => none)
def dFin (E : Env) (ops : List Oper) (T1 : List TV) : List Oper → List TV → Loc → (List TV → Loc → Option R) → Option R
  | [], T, L, K => K T L
  | o :: r, T, L, K => match o.op, o.dst with
    | .alloc ty, some d => (match nth L d, nth T d, rowD E ops T1 d ty with
      | some none, some _, some row => forceL row fun row' => updK L d (some row') fun L' => updK T d (.ploc d 0) fun T' => dFin E ops T1 r T' L' K
      | _, _, _ => none)
    | _, _ => dFin E ops T1 r T L K
/-- A loop's name: its first region's. -/
def loopId : Code → Nat
  | .region i _ _ => i
  | .seq a _ => loopId a
  | .block _ c => loopId c
  | .cond _ a _ => loopId a
  | .loop c => loopId c
  | _ => 0
def evCode (E : Env) (ct : FuncId → List TV → Option TV) (ch : FuncId → List TV → Heap → Option (TV × Heap)) (f : FuncId) (k : Nat) : Code → St → (Ex → St → Option R) → Option R
  | .skip, s, K => K .normal s
  | .region _ ops draw, s, K => (match draw with
    | false => evOps E ct ch f false ops.toList ops.toList s (K .normal)
    | true => (match depsOk ops.toList ops.toList 0, ops.toList.any isLoudD with
      | true, false => evOps E ct ch f true ops.toList ops.toList s (K .normal)
      | true, true => (match dlOk ops.toList ops.toList 0 with
        | true => evOps E ct ch f true (ops.toList.map qop) (ops.toList.map qop) s fun s' => match s' with | ⟨T, L, H⟩ => dFin E ops.toList T ops.toList T L fun T' L' => K .normal ⟨T', L', H⟩
        | false => none)
      | false, _ => none))
  | .seq a b, s, K => evCode E ct ch f k a s fun e s' => match e with
    | .normal => evCode E ct ch f k b s' K
    | .exit id => K (.exit id) s'
    | .ret => K .ret s'
  | .cond c a b, s, K => (match c with
    | .tmp t => (match s with
      | ⟨T, L, H⟩ => match nthD T t with
        | .bool x => bif x then updK T t (.bool true) fun T => evCode E ct ch f k a ⟨T, L, H⟩ K else updK T t (.bool false) fun T => evCode E ct ch f k b ⟨T, L, H⟩ K
        | _ => none)
    | .const (.bool x) => bif x then evCode E ct ch f k a s K else evCode E ct ch f k b s K
    | _ => none)
  | .block id c, s, K => evCode E ct ch f k c s fun e s' => match e with
    | .normal => K .normal s'
    | .exit i => (match Nat.beq i id with | true => K .normal s' | false => K (.exit i) s')
    | .ret => K .ret s'
  | .loop c, s, K => evLoop (E.dead f (loopId c)) (fun s K => evCode E ct ch f k c s K) k s K
  | .exit id, s, K => K (.exit id) s
  | .ret, s, K => K .ret s
  | _, _, _ => none
theorem evCode_cond (E : Env) (ct : FuncId → List TV → Option TV) (ch : FuncId → List TV → Heap → Option (TV × Heap)) (f : FuncId) (k : Nat) (t : Tmp) (a b : Code) (s : St) (K : Ex → St → Option R) : evCode E ct ch f k (.cond (.tmp t) a b) s K =
    match nthD s.T t with
    | .bool x => bif x then evCode E ct ch f k a ⟨upd s.T t (.bool true), s.L, s.H⟩ K else evCode E ct ch f k b ⟨upd s.T t (.bool false), s.L, s.H⟩ K
    | _ => none := by
  obtain ⟨T, L, H⟩ := s
  simp only [evCode, updK_eq]
def resK (E : Env) (s : St) : List ResultVar → (List TV → Option R) → Option R
  | [], K => K []
  | .tmp t :: r, K => resK E s r fun vs => K (nthD s.T t :: vs)
  | .cell a ty :: r, K => loadK E s.L s.H ty (nthD s.T a) fun v => resK E s r fun vs => K (v :: vs)
def oneT : List TV → TV
  | [t] => t
  | ts => .tup ts
end
def replT (n : Nat) : List TV := match n with | 0 => [] | n + 1 => .undef :: replT n
def replL (n : Nat) : Loc := match n with | 0 => [] | n + 1 => none :: replL n
/-- A function's body, in memory H. -/
def evFun (E : Env) (ct : FuncId → List TV → Option TV) (ch : FuncId → List TV → Heap → Option (TV × Heap)) (k : Nat) (f : FuncId) (args : List TV) (H : Heap) : Option (TV × Heap) :=
  match E.fn f with
  | none => none
  | some fn =>
    match fn.body with
    | none => none
    | some c => evCode E ct ch f k c ⟨args ++ replT (fn.ntmps - args.length), replL fn.ntmps, H⟩ fun e s => match e with
      | .exit _ => none
      | _ => resK E s fn.results.toList fun vs => match nolocD 4 (oneT vs) with | true => some (oneT vs, s.H) | false => none
def both (E : Env) : Nat → (FuncId → List TV → Option TV) × (FuncId → List TV → Heap → Option (TV × Heap))
  | 0 => (fun _ _ => none, fun _ _ _ => none)
  | k + 1 => (fun g args => match E.prim g with
      | some p => p args
      | none => bnd (evFun E (both E k).1 (both E k).2 k g args []) fun r => some (ret r.2 8 r.1),
    fun g args H => evFun E (both E k).1 (both E k).2 k g args H)
/-- A call that only reads what it is given. -/
def callT (E : Env) (k : Nat) : FuncId → List TV → Option TV := (both E k).1
def callH (E : Env) (k : Nat) : FuncId → List TV → Heap → Option (TV × Heap) := (both E k).2
end Go.Proofs.YtbdkjkedjldheaaTv
