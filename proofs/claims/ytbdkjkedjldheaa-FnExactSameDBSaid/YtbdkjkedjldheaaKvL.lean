/- An evaluator of the program's code over trees: what an operation that only reads depends on. Conditions: none. -/
import Derived.Test.YtbdkjkedjldheaaKvK
namespace Go.Proofs.YtbdkjkedjldheaaTv
set_option linter.unusedVariables false
set_option linter.unusedSimpArgs false
set_option linter.unnecessarySimpa false
open Go Go.RowKit
section
variable {R : Type} {E : Env}
theorem ck_bind {α : Type} (c : Prop) [Decidable c] (x : Option α) (K : α → Option R) : (ck c x).bind K = ck c (x.bind K) := by unfold ck; split <;> rfl
theorem rdRow_cps (ty : TypeId) (row : List TV) (off : Nat) (K : TV → Option R) : rdRow E ty row off K = (rdRow E ty row off some).bind K := by
  unfold rdRow; (repeat' split) <;> rfl
theorem loadK_cps (L : Loc) (H : Heap) (ty : TypeId) (p : TV) (K : TV → Option R) : loadK E L H ty p K = (loadK E L H ty p some).bind K := by
  unfold loadK
  split
  · exact rdRow_cps ..
  · split
    · exact rdRow_cps ..
    · rfl
  · split
    · rw [ck_bind, ← rdRow_cps]
    · rfl
  · rfl
theorem binK_cps (op : BinOp) (ty : TypeId) (x y : TV) (K : TV → Option R) : binK E op ty x y K = (binK E op ty x y some).bind K := by
  unfold binK
  split
  · cases op <;> simp only [] <;> first | (rw [ck_bind]; rfl) | (split <;> first | rfl | (rw [ck_bind]; rfl))
  · cases op <;> simp only [] <;> first | rfl | (rw [ck_bind]; rfl)
  · split
    · cases op <;> rfl
    · rfl
  · split
    · cases op <;> simp only [] <;> first | rfl | (split <;> rfl)
    · rfl
  · rfl
theorem unK_cps (op : UnOp) (x : TV) (K : TV → Option R) : unK op x K = (unK op x some).bind K := by unfold unK; split <;> rfl
theorem boundK_cps {α : Type} (n : Nat) (x : Option TV) (d : Nat) (K' : Nat → Option α) (K : α → Option R) : (boundK n x d K').bind K = boundK n x d (fun h => (K' h).bind K) := by
  unfold boundK; split
  · rfl
  · rw [ck_bind]
  · rfl
theorem sliceK_cps (ty : TypeId) (x : TV) (H : Heap) (lo hi : Option TV) (K : TV → Option R) : sliceK E ty x H lo hi K = (sliceK E ty x H lo hi some).bind K := by
  unfold sliceK
  split
  · split
    · simp only [boundK_cps, Option.bind_some]
    · rfl
  · split
    · rfl
    · split
      · rw [ck_bind]; simp only [boundK_cps, Option.bind_some]
      · split
        · rw [ck_bind]
          simp only [boundK_cps]
          congr 2
          funext h
          congr 1
          funext l
          cases l with
          | zero => rfl
          | succ l => simp only []; split <;> rfl
        · rfl
      · rfl
  · rfl
theorem indexAddrK_cps (H : Heap) (ty : TypeId) (x ix : TV) (K : TV → Option R) : indexAddrK E H ty x ix K = (indexAddrK E H ty x ix some).bind K := by
  unfold indexAddrK
  split
  · split
    · rfl
    · split
      · rw [ck_bind, ck_bind]; rfl
      · split
        · rw [ck_bind, ck_bind, ck_bind]; rfl
        · rfl
      · rfl
  · rfl
theorem lenK_cps (ty : TypeId) (H : Heap) (x : TV) (K : TV → Option R) : lenK E ty H x K = (lenK E ty H x some).bind K := by
  unfold lenK
  split
  · split <;> rfl
  · split
    · rfl
    · split
      · rw [ck_bind]; rfl
      · rfl
    · rfl
  · rfl
theorem minmax_cps (mx : Bool) : ∀ (xs : List TV) (k : IntKind) (x : Int) (K : TV → Option R), minmax mx k x xs K = (minmax mx k x xs some).bind K
  | [], _, _, _ => rfl
  | .int _ y :: r, k, x, K => by cases mx <;> exact minmax_cps _ r k _ K
  | .undef :: xs, k, x, K | .bool _ :: xs, k, x, K | .str _ :: xs, k, x, K | .agg _ :: xs, k, x, K | .tup _ :: xs, k, x, K | .lst .. :: xs, k, x, K | .own .. :: xs, k, x, K | .pnil :: xs, k, x, K | .pimm .. :: xs, k, x, K | .ploc .. :: xs, k, x, K | .pown .. :: xs, k, x, K | .fn .. :: xs, k, x, K => by simp [minmax]
theorem pickK_cps (c : Bool) (x y : TV) (K : TV → Option R) : pickK c x y K = (pickK c x y some).bind K := by
  unfold pickK; split
  · rfl
  · cases c <;> rfl
theorem bnd_cps {α : Type} (c : Option α) (K : α → Option R) : bnd c K = (bnd c some).bind K := by cases c <;> rfl
theorem evQ_cps (ct : FuncId → List TV → Option TV) (o : Oper) (T : List TV) (L : Loc) (H : Heap) (K : TV → Option R) : evQ E ct o T L H K = (evQ E ct o T L H some).bind K := by
  unfold evQ
  cases o.op <;> (try simp only []) <;> first
    | rfl
    | exact loadK_cps ..
    | exact binK_cps ..
    | exact unK_cps ..
    | exact indexAddrK_cps ..
    | skip
  case pick c a b => (split <;> first | rfl | exact pickK_cps ..)
  case nilCheck x => split <;> rfl
  case convert => split <;> rfl
  case makeFunc fn first caps => cases fn <;> simp only [] <;> first | rfl | (split <;> rfl)
  case slice ty x lo hi mx => cases mx <;> simp only [] <;> first | rfl | exact sliceK_cps ..
  case fieldAddr => (repeat' split) <;> rfl
  case field =>
    split
    · split
      · exact rdRow_cps ..
      · rfl
    · rfl
  case index => (split <;> first | rfl | (rw [ck_bind]; rfl))
  case extract => (repeat' split) <;> rfl
  case call c =>
    cases c.callee with
    | invoke x m => rfl
    | value f => simp only []; (split <;> first | rfl | exact bnd_cps ..)
    | builtin b =>
      cases b <;> simp only [] <;> first | rfl | skip
      · (split <;> first | rfl | exact lenK_cps ..)
      · (split <;> first | rfl | exact minmax_cps ..)
      · (split <;> first | rfl | exact minmax_cps ..)
theorem rho_congr {T T' : List TV} {x : Operand} (h : ∀ t, x = .tmp t → nthD T t = nthD T' t) (ty : TypeId) : rho E T ty x = rho E T' ty x := by
  cases x <;> first | rfl | exact h _ rfl
theorem argsT_congr {T T' : List TV} : ∀ (xs : List Operand) (ts : List TypeId), (∀ x ∈ xs, ∀ t, x = .tmp t → nthD T t = nthD T' t) → argsT E T xs ts = argsT E T' xs ts
  | [], _, _ => by unfold argsT; rfl
  | x :: xs, t :: ts, h => by
    unfold argsT
    rw [rho_congr (h x List.mem_cons_self), argsT_congr xs ts fun y hy => h y (List.mem_cons_of_mem _ hy)]
  | x :: xs, [], h => by
    unfold argsT
    rw [rho_congr (h x List.mem_cons_self), argsT_congr xs [] fun y hy => h y (List.mem_cons_of_mem _ hy)]
theorem evQ_congr (ct : FuncId → List TV → Option TV) (o : Oper) {T T' : List TV} (L : Loc) (H : Heap) (K : TV → Option R) (h : ∀ t ∈ opOperands o, nthD T t = nthD T' t) : evQ E ct o T L H K = evQ E ct o T' L H K := by
  have hop : ∀ x ∈ o.op.operands, ∀ ty, rho E T ty x = rho E T' ty x := fun x hx ty => rho_congr (fun t ht => h t (by
    subst ht
    exact List.mem_filterMap.2 ⟨.tmp t, by simpa using hx, rfl⟩)) ty
  have hop2 : ∀ x ∈ o.op.operands, ∀ t, x = .tmp t → nthD T t = nthD T' t := fun x hx t ht => h t (by
    subst ht
    exact List.mem_filterMap.2 ⟨.tmp t, by simpa using hx, rfl⟩)
  unfold evQ
  cases hq : o.op <;> (try simp only []) <;> simp only [hq, Op.operands] at hop hop2
  case move x => rw [hop x (by simp)]
  case assign x => rw [hop x (by simp)]
  case pick c a b => rw [hop c (by simp), hop a (by simp), hop b (by simp)]
  case load ty a => rw [hop a (by simp)]
  case nilCheck x => rw [hop x (by simp)]
  case binOp op ty x y yt => rw [hop x (by simp), hop y (by simp)]
  case unOp op ty x => rw [hop x (by simp)]
  case convert s d x => rw [hop x (by simp)]
  case makeFunc fn first caps =>
    have : caps.toList.map (rho E T 0) = caps.toList.map (rho E T' 0) := List.map_congr_left fun x hx => hop x (by simp; exact .inr (by simpa using hx)) 0
    cases fn <;> (try simp only []) <;> first | rfl | rw [this]
  case slice ty x lo hi mx =>
    have e1 : lo.map (rho E T 0) = lo.map (rho E T' 0) := by cases lo with | none => rfl | some y => simp [hop y (by simp) 0]
    have e2 : hi.map (rho E T 0) = hi.map (rho E T' 0) := by cases hi with | none => rfl | some y => simp [hop y (by simp) 0]
    rw [hop x (by simp), e1, e2]
  case fieldAddr s x f => rw [hop x (by simp)]
  case field s x f => rw [hop x (by simp)]
  case indexAddr ty x ix => rw [hop x (by simp), hop ix (by simp)]
  case index ty x ix => rw [hop x (by simp), hop ix (by simp)]
  case extract x ix => rw [hop x (by simp)]
  case call c =>
    have ea : argsT E T c.args.toList c.argTypes.toList = argsT E T' c.args.toList c.argTypes.toList := argsT_congr _ _ fun x hx => hop2 x (by simp only [Call.operands, Array.mem_append]; exact .inr (by simpa using hx))
    rw [ea]
    cases hc : c.callee with
    | invoke x m => rfl
    | value f => simp only []; rw [hop f (by simp [Call.operands, hc])]
    | builtin b => cases b <;> rfl
end
end Go.Proofs.YtbdkjkedjldheaaTv
