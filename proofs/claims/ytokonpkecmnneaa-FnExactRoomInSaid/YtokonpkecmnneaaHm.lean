/- A map from whole numbers to true that the call itself has made: its block is a function of the list of its keys, the last one first. Conditions: none. -/
import Derived.Maps.OwnSet
import Derived.Maps.OwnOps
import Derived.Maps.Views
import Derived.Below
import Derived.WalkKit
namespace Go.Proofs.YtokonpkecmnneaaHm
open Go Go.Maps Go.RowKit Go.MapKept Go.ChangeMaps
open Go.WideElems (Fit rd rg pl rd_val rd_mk)
set_option linter.unusedVariables false
set_option linter.unusedSimpArgs false

def ents : List Int → Array MapEntry
  | [] => #[]
  | k :: u => (ents u).push ⟨.int .i64 k, .bool true, u.length⟩
/-- The block of a map whose keys are u's. -/
def setO (u : List Int) : Obj := .map (ents u) u.length
def SetOk (u : List Int) : Prop := (∀ x ∈ u, (Lit.int .i64 x).wf = true) ∧ u.Nodup ∧ u.length < maxLen
instance (u : List Int) : Decidable (SetOk u) := by unfold SetOk; infer_instance
/-- A key may be looked up. -/
def LookOk (x : Int) (u : List Int) : Prop := (Lit.int .i64 x).wf = true ∧ SetOk u
instance (x : Int) (u : List Int) : Decidable (LookOk x u) := by unfold LookOk; infer_instance
/-- A key may be added. -/
def AddOk (x : Int) (u : List Int) : Prop := LookOk x u ∧ ¬ x ∈ u
instance (x : Int) (u : List Int) : Decidable (AddOk x u) := by unfold AddOk; infer_instance

def lookOk (x : Int) (u : List Int) : Bool := decide (LookOk x u)
/-- What a look-up answers. -/
def inSet (x : Int) (u : List Int) : Bool := decide (x ∈ u)
def addOk (x : Int) (u : List Int) : Bool := decide (AddOk x u)

theorem ents_size : ∀ u, (ents u).size = u.length
  | [] => rfl
  | k :: u => by simp [ents, ents_size u]
theorem ents_mem : ∀ (u : List Int) (x : MapEntry), x ∈ (ents u).toList → ∃ k ∈ u, x.key = .int .i64 k ∧ x.val = .bool true
  | [], x, h => by simp [ents] at h
  | k :: u, x, h => by
    simp only [ents, Array.toList_push, List.mem_append, List.mem_singleton] at h
    rcases h with h | rfl
    · obtain ⟨k', h1, h2⟩ := ents_mem u x h
      exact ⟨k', List.mem_cons_of_mem _ h1, h2⟩
    · exact ⟨k, List.mem_cons_self .., rfl, rfl⟩
theorem mem_ents : ∀ (u : List Int) (k : Int), k ∈ u → ∃ x ∈ (ents u).toList, x.key = .int .i64 k
  | y :: u, k, h => by
    rcases List.mem_cons.1 h with rfl | h
    · exact ⟨_, by simp only [ents, Array.toList_push, List.mem_append, List.mem_singleton]; exact .inr rfl, rfl⟩
    · obtain ⟨x, h1, h2⟩ := mem_ents u k h
      exact ⟨x, by simp only [ents, Array.toList_push, List.mem_append]; exact .inl h1, h2⟩

section
variable {P : Program} {k e t : TypeId}
theorem ents_fit (K : Keyed P k) (hk : P.underlying k = some (.int .i64)) (he : P.underlying e = some .bool) : ∀ (u : List Int), (∀ x ∈ u, (Lit.int .i64 x).wf = true) → u.Nodup → u.length < maxLen → Fit (H := Unit) P k (plainElem P e) (ents u) u.length
  | [], _, _, _ => ⟨by simp [ents], ⟨by simp [ents], by simp [ents], by simp [ents]⟩, by simp [ents]⟩
  | x :: u, h1, h2, h3 => by
    obtain ⟨hn, h2⟩ := List.nodup_cons.1 h2
    have F := ents_fit K hk he u (fun y hy => h1 y (List.mem_cons_of_mem _ hy)) h2 (by simp at h3; omega)
    refine ⟨by rw [ents_size]; omega, stamped_push F.stamped fun y hy e1 => ?_, fun y hy => ?_⟩
    · obtain ⟨k', hk', e2, _⟩ := ents_mem u y hy
      rw [e2] at e1
      cases e1
      exact hn hk'
    · simp only [ents, Array.toList_push, List.mem_append, List.mem_singleton] at hy
      rcases hy with hy | rfl
      · exact F.reads y hy
      · exact ⟨_, rd_mk (keyOf_int_mk hk (h1 x (List.mem_cons_self ..))) (plainElem_bool he true)⟩

theorem look_set (w : World) (b : Nat) (u : List Int) (x : Int) (K : Keyed P k) (hk : P.underlying k = some (.int .i64)) (ht : P.underlying t = some (.map k e)) (he : P.underlying e = some .bool) (hz : (zeroValue e).run P w = .ok (.bool false) w)
    (hb : w.heap[b]? = some (setO u)) (hx : LookOk x u) : (Instr.lookup t (.map (some b)) (.int .i64 x) false).run P w = .ok (.bool (decide (x ∈ u))) w := by
  obtain ⟨hw, h1, h2, h3⟩ := hx
  rcases fit_look (H := Unit) false K ht hz hb (ents_fit K hk he u h1 h2 h3) (keyOf_int_mk hk hw) with ⟨hr, hn, _⟩ | ⟨e0, y, hm, hke, hr, _⟩
  · have : ¬ x ∈ u := fun h => by obtain ⟨z, hz1, hz2⟩ := mem_ents u x h; exact hn z hz1 hz2
    rw [hr]; simp [this]
  · obtain ⟨k', hk', e1, e2⟩ := ents_mem u e0 hm
    rw [e1] at hke
    cases hke
    rw [hr, e2]; simp [hk']

theorem add_set (w : World) (b : Nat) (u : List Int) (x : Int) (K : Keyed P k) (hk : P.underlying k = some (.int .i64)) (ht : P.underlying t = some (.map k e)) (he : P.underlying e = some .bool)
    (hb : w.heap[b]? = some (setO u)) (hx : AddOk x u) : (Instr.mapUpdate t (.map (some b)) (.int .i64 x) (.bool true)).run P w = .ok () (setBlock w b (setO (x :: u))) := by
  obtain ⟨⟨hw, h1, h2, h3⟩, hn⟩ := hx
  have F := ents_fit K hk he u h1 h2 h3
  rcases K.find w (keyOf_int_mk hk hw) (ents u).toList F.keys with ⟨g1, g2⟩ | ⟨j, e0, g1, g2, g3⟩
  · simp [Instr.mapUpdate, run_underlying ht, MapKept.run_getObj_map hb, K.check w false (keyOf_int_mk hk hw), g1, MapKept.run_setObj_map _ hb, Result.andThen, setBlock, setO, ents]
  · exfalso
    have hm : e0 ∈ (ents u).toList := by simpa using List.mem_of_getElem? g2
    obtain ⟨k', hk', e1, _⟩ := ents_mem u e0 hm
    rw [e1] at g3
    cases g3
    exact hn hk'
end

theorem wpList_look_set {P : Program} (w : World) {ops : Array Oper} {rest : List Oper} {o : Oper} {a : Act} {Q : Exit → Act → World → Prop}
    (hg : o.guard = none) (m x : Operand) (t : TypeId) (hop : o.op = Op.lookup t m x false)
    (k e : TypeId) (K : Keyed P k) (hk : P.underlying k = some (.int .i64)) (ht : P.underlying t = some (.map k e)) (he : P.underlying e = some .bool) (hz : (zeroValue e).run P w = .ok (.bool false) w) (b : Nat) (u : List Int)
    (hm : a.eval m = .map (some b)) (hb : w.heap[b]? = some (setO u)) (key : Int) (hx : a.eval x = .int .i64 key) (hw : lookOk key u = true) (r : Bool) (hr : inSet key u = r)
    (hK : wpList P ops Q rest (a.put o.dst (.bool r)) w) :
    wpList P ops Q (o :: rest) a w := by
  subst hr
  replace hw := of_decide_eq_true hw
  refine wpList_plain hg fun K' hK' => ?_
  have hrun := look_set w b u key K hk ht he hz hb hw
  unfold Oper.wp
  simp only [execOp, hop, hm, hx]
  simp [hrun, Result.andThen]
  exact hK' _ _ hK

theorem wpList_add_set {P : Program} (w : World) {ops : Array Oper} {rest : List Oper} {o : Oper} {a : Act} {Q : Exit → Act → World → Prop}
    (hg : o.guard = none) (m x v : Operand) (t : TypeId) (hop : o.op = Op.mapUpdate t m x v)
    (k e : TypeId) (K : Keyed P k) (hk : P.underlying k = some (.int .i64)) (ht : P.underlying t = some (.map k e)) (he : P.underlying e = some .bool) (b : Nat) (u : List Int)
    (hm : a.eval m = .map (some b)) (hb : w.heap[b]? = some (setO u)) (key : Int) (hx : a.eval x = .int .i64 key) (hv : a.eval v = .bool true) (hw : addOk key u = true)
    (hK : ∀ w', w'.heap[b]? = some (setO (key :: u)) → w.grownBy w' (some b) → wpList P ops Q rest (a.put o.dst undef) w') :
    wpList P ops Q (o :: rest) a w := by
  replace hw := of_decide_eq_true hw
  refine wpList_plain hg fun K' hK' => ?_
  have hrun := add_set w b u key K hk ht he hb hw
  unfold Oper.wp
  simp only [execOp, hop, hm, hx, hv]
  simp [hrun, Result.andThen]
  exact hK' _ _ (hK _ (heap_setBlock_same hb _) ⟨rfl, rfl, rfl, by simp [setBlock], fun i _ hi => heap_setBlock_other hb _ (fun e => hi (by rw [e]))⟩)

theorem map_event {P : Program} {W : World} {ops : Array Oper} {rest : List Oper} {o : Oper} {a : Act} {Q : Exit → Act → World → Prop} (hgd : o.guard = none) {N : Tmp} (_hd : o.dst = some N) (t : TypeId) (hop : o.op = .makeMap t none)
    (h : ∀ g, g = W.heap.size → ∀ w1, w1.heap[g]? = some (setO []) → Below W.heap.size W w1 → wpList P ops Q rest (a.put o.dst (.map (some g))) w1) : wpList P ops Q (o :: rest) a W := by
  refine wpList_plain hgd fun K' hK' => ?_
  have hrun := @run_makeMap P t W
  unfold Oper.wp
  simp [execOp, hop, hrun, Result.andThen]
  exact hK' _ _ (h _ rfl _ (heap_alloc_new W _) ((Below.refl _ _).alloc (Nat.le_refl _) _))

theorem blk_farO {w : World} {g : Nat} {o : Obj} (h : w.heap[g]? = some o) {p : Addr} (hp : g ≠ p.block) (u : Value) : (w.setCell p u).heap[g]? = some o := by
  rw [← h]
  unfold World.setCell
  simp [Array.getElem?_modify, Ne.symm hp]

/-! all cells of a block at once -/
theorem cells2 {w : World} {g : Nat} {t : TypeId} {v0 v1 : Value} (h : w.heap[g]? = some (.cells #[v0, v1] t (0, 0))) : w.cell? ⟨g, 0, none⟩ = some v0 ∧ w.cell? ⟨g, 1, none⟩ = some v1 :=
  ⟨(cell_of_row w g 0 _ t (0, 0) h).trans rfl, (cell_of_row w g 1 _ t (0, 0) h).trans rfl⟩
theorem frozen2 {w : World} {g : Nat} {t : TypeId} {v0 v1 : Value} (h : w.heap[g]? = some (.cells #[v0, v1] t (0, 0))) : w.frozen? ⟨g, 0, none⟩ = false ∧ w.frozen? ⟨g, 1, none⟩ = false :=
  ⟨by simp [World.frozen?, h], by simp [World.frozen?, h]⟩
theorem cells3 {w : World} {g : Nat} {t : TypeId} {v0 v1 v2 : Value} (h : w.heap[g]? = some (.cells #[v0, v1, v2] t (0, 0))) : w.cell? ⟨g, 0, none⟩ = some v0 ∧ w.cell? ⟨g, 1, none⟩ = some v1 ∧ w.cell? ⟨g, 2, none⟩ = some v2 :=
  ⟨(cell_of_row w g 0 _ t (0, 0) h).trans rfl, (cell_of_row w g 1 _ t (0, 0) h).trans rfl, (cell_of_row w g 2 _ t (0, 0) h).trans rfl⟩
theorem frozen3 {w : World} {g : Nat} {t : TypeId} {v0 v1 v2 : Value} (h : w.heap[g]? = some (.cells #[v0, v1, v2] t (0, 0))) : w.frozen? ⟨g, 0, none⟩ = false ∧ w.frozen? ⟨g, 1, none⟩ = false ∧ w.frozen? ⟨g, 2, none⟩ = false :=
  ⟨by simp [World.frozen?, h], by simp [World.frozen?, h], by simp [World.frozen?, h]⟩
theorem cells4 {w : World} {g : Nat} {t : TypeId} {v0 v1 v2 v3 : Value} (h : w.heap[g]? = some (.cells #[v0, v1, v2, v3] t (0, 0))) : w.cell? ⟨g, 0, none⟩ = some v0 ∧ w.cell? ⟨g, 1, none⟩ = some v1 ∧ w.cell? ⟨g, 2, none⟩ = some v2 ∧ w.cell? ⟨g, 3, none⟩ = some v3 :=
  ⟨(cell_of_row w g 0 _ t (0, 0) h).trans rfl, (cell_of_row w g 1 _ t (0, 0) h).trans rfl, (cell_of_row w g 2 _ t (0, 0) h).trans rfl, (cell_of_row w g 3 _ t (0, 0) h).trans rfl⟩
theorem frozen4 {w : World} {g : Nat} {t : TypeId} {v0 v1 v2 v3 : Value} (h : w.heap[g]? = some (.cells #[v0, v1, v2, v3] t (0, 0))) : w.frozen? ⟨g, 0, none⟩ = false ∧ w.frozen? ⟨g, 1, none⟩ = false ∧ w.frozen? ⟨g, 2, none⟩ = false ∧ w.frozen? ⟨g, 3, none⟩ = false :=
  ⟨by simp [World.frozen?, h], by simp [World.frozen?, h], by simp [World.frozen?, h], by simp [World.frozen?, h]⟩
theorem cells5 {w : World} {g : Nat} {t : TypeId} {v0 v1 v2 v3 v4 : Value} (h : w.heap[g]? = some (.cells #[v0, v1, v2, v3, v4] t (0, 0))) : w.cell? ⟨g, 0, none⟩ = some v0 ∧ w.cell? ⟨g, 1, none⟩ = some v1 ∧ w.cell? ⟨g, 2, none⟩ = some v2 ∧ w.cell? ⟨g, 3, none⟩ = some v3 ∧ w.cell? ⟨g, 4, none⟩ = some v4 :=
  ⟨(cell_of_row w g 0 _ t (0, 0) h).trans rfl, (cell_of_row w g 1 _ t (0, 0) h).trans rfl, (cell_of_row w g 2 _ t (0, 0) h).trans rfl, (cell_of_row w g 3 _ t (0, 0) h).trans rfl, (cell_of_row w g 4 _ t (0, 0) h).trans rfl⟩
theorem frozen5 {w : World} {g : Nat} {t : TypeId} {v0 v1 v2 v3 v4 : Value} (h : w.heap[g]? = some (.cells #[v0, v1, v2, v3, v4] t (0, 0))) : w.frozen? ⟨g, 0, none⟩ = false ∧ w.frozen? ⟨g, 1, none⟩ = false ∧ w.frozen? ⟨g, 2, none⟩ = false ∧ w.frozen? ⟨g, 3, none⟩ = false ∧ w.frozen? ⟨g, 4, none⟩ = false :=
  ⟨by simp [World.frozen?, h], by simp [World.frozen?, h], by simp [World.frozen?, h], by simp [World.frozen?, h], by simp [World.frozen?, h]⟩
theorem cells6 {w : World} {g : Nat} {t : TypeId} {v0 v1 v2 v3 v4 v5 : Value} (h : w.heap[g]? = some (.cells #[v0, v1, v2, v3, v4, v5] t (0, 0))) : w.cell? ⟨g, 0, none⟩ = some v0 ∧ w.cell? ⟨g, 1, none⟩ = some v1 ∧ w.cell? ⟨g, 2, none⟩ = some v2 ∧ w.cell? ⟨g, 3, none⟩ = some v3 ∧ w.cell? ⟨g, 4, none⟩ = some v4 ∧ w.cell? ⟨g, 5, none⟩ = some v5 :=
  ⟨(cell_of_row w g 0 _ t (0, 0) h).trans rfl, (cell_of_row w g 1 _ t (0, 0) h).trans rfl, (cell_of_row w g 2 _ t (0, 0) h).trans rfl, (cell_of_row w g 3 _ t (0, 0) h).trans rfl, (cell_of_row w g 4 _ t (0, 0) h).trans rfl, (cell_of_row w g 5 _ t (0, 0) h).trans rfl⟩
theorem frozen6 {w : World} {g : Nat} {t : TypeId} {v0 v1 v2 v3 v4 v5 : Value} (h : w.heap[g]? = some (.cells #[v0, v1, v2, v3, v4, v5] t (0, 0))) : w.frozen? ⟨g, 0, none⟩ = false ∧ w.frozen? ⟨g, 1, none⟩ = false ∧ w.frozen? ⟨g, 2, none⟩ = false ∧ w.frozen? ⟨g, 3, none⟩ = false ∧ w.frozen? ⟨g, 4, none⟩ = false ∧ w.frozen? ⟨g, 5, none⟩ = false :=
  ⟨by simp [World.frozen?, h], by simp [World.frozen?, h], by simp [World.frozen?, h], by simp [World.frozen?, h], by simp [World.frozen?, h], by simp [World.frozen?, h]⟩
theorem cells7 {w : World} {g : Nat} {t : TypeId} {v0 v1 v2 v3 v4 v5 v6 : Value} (h : w.heap[g]? = some (.cells #[v0, v1, v2, v3, v4, v5, v6] t (0, 0))) : w.cell? ⟨g, 0, none⟩ = some v0 ∧ w.cell? ⟨g, 1, none⟩ = some v1 ∧ w.cell? ⟨g, 2, none⟩ = some v2 ∧ w.cell? ⟨g, 3, none⟩ = some v3 ∧ w.cell? ⟨g, 4, none⟩ = some v4 ∧ w.cell? ⟨g, 5, none⟩ = some v5 ∧ w.cell? ⟨g, 6, none⟩ = some v6 :=
  ⟨(cell_of_row w g 0 _ t (0, 0) h).trans rfl, (cell_of_row w g 1 _ t (0, 0) h).trans rfl, (cell_of_row w g 2 _ t (0, 0) h).trans rfl, (cell_of_row w g 3 _ t (0, 0) h).trans rfl, (cell_of_row w g 4 _ t (0, 0) h).trans rfl, (cell_of_row w g 5 _ t (0, 0) h).trans rfl, (cell_of_row w g 6 _ t (0, 0) h).trans rfl⟩
theorem frozen7 {w : World} {g : Nat} {t : TypeId} {v0 v1 v2 v3 v4 v5 v6 : Value} (h : w.heap[g]? = some (.cells #[v0, v1, v2, v3, v4, v5, v6] t (0, 0))) : w.frozen? ⟨g, 0, none⟩ = false ∧ w.frozen? ⟨g, 1, none⟩ = false ∧ w.frozen? ⟨g, 2, none⟩ = false ∧ w.frozen? ⟨g, 3, none⟩ = false ∧ w.frozen? ⟨g, 4, none⟩ = false ∧ w.frozen? ⟨g, 5, none⟩ = false ∧ w.frozen? ⟨g, 6, none⟩ = false :=
  ⟨by simp [World.frozen?, h], by simp [World.frozen?, h], by simp [World.frozen?, h], by simp [World.frozen?, h], by simp [World.frozen?, h], by simp [World.frozen?, h], by simp [World.frozen?, h]⟩
theorem cells8 {w : World} {g : Nat} {t : TypeId} {v0 v1 v2 v3 v4 v5 v6 v7 : Value} (h : w.heap[g]? = some (.cells #[v0, v1, v2, v3, v4, v5, v6, v7] t (0, 0))) : w.cell? ⟨g, 0, none⟩ = some v0 ∧ w.cell? ⟨g, 1, none⟩ = some v1 ∧ w.cell? ⟨g, 2, none⟩ = some v2 ∧ w.cell? ⟨g, 3, none⟩ = some v3 ∧ w.cell? ⟨g, 4, none⟩ = some v4 ∧ w.cell? ⟨g, 5, none⟩ = some v5 ∧ w.cell? ⟨g, 6, none⟩ = some v6 ∧ w.cell? ⟨g, 7, none⟩ = some v7 :=
  ⟨(cell_of_row w g 0 _ t (0, 0) h).trans rfl, (cell_of_row w g 1 _ t (0, 0) h).trans rfl, (cell_of_row w g 2 _ t (0, 0) h).trans rfl, (cell_of_row w g 3 _ t (0, 0) h).trans rfl, (cell_of_row w g 4 _ t (0, 0) h).trans rfl, (cell_of_row w g 5 _ t (0, 0) h).trans rfl, (cell_of_row w g 6 _ t (0, 0) h).trans rfl, (cell_of_row w g 7 _ t (0, 0) h).trans rfl⟩
theorem frozen8 {w : World} {g : Nat} {t : TypeId} {v0 v1 v2 v3 v4 v5 v6 v7 : Value} (h : w.heap[g]? = some (.cells #[v0, v1, v2, v3, v4, v5, v6, v7] t (0, 0))) : w.frozen? ⟨g, 0, none⟩ = false ∧ w.frozen? ⟨g, 1, none⟩ = false ∧ w.frozen? ⟨g, 2, none⟩ = false ∧ w.frozen? ⟨g, 3, none⟩ = false ∧ w.frozen? ⟨g, 4, none⟩ = false ∧ w.frozen? ⟨g, 5, none⟩ = false ∧ w.frozen? ⟨g, 6, none⟩ = false ∧ w.frozen? ⟨g, 7, none⟩ = false :=
  ⟨by simp [World.frozen?, h], by simp [World.frozen?, h], by simp [World.frozen?, h], by simp [World.frozen?, h], by simp [World.frozen?, h], by simp [World.frozen?, h], by simp [World.frozen?, h], by simp [World.frozen?, h]⟩
theorem cells9 {w : World} {g : Nat} {t : TypeId} {v0 v1 v2 v3 v4 v5 v6 v7 v8 : Value} (h : w.heap[g]? = some (.cells #[v0, v1, v2, v3, v4, v5, v6, v7, v8] t (0, 0))) : w.cell? ⟨g, 0, none⟩ = some v0 ∧ w.cell? ⟨g, 1, none⟩ = some v1 ∧ w.cell? ⟨g, 2, none⟩ = some v2 ∧ w.cell? ⟨g, 3, none⟩ = some v3 ∧ w.cell? ⟨g, 4, none⟩ = some v4 ∧ w.cell? ⟨g, 5, none⟩ = some v5 ∧ w.cell? ⟨g, 6, none⟩ = some v6 ∧ w.cell? ⟨g, 7, none⟩ = some v7 ∧ w.cell? ⟨g, 8, none⟩ = some v8 :=
  ⟨(cell_of_row w g 0 _ t (0, 0) h).trans rfl, (cell_of_row w g 1 _ t (0, 0) h).trans rfl, (cell_of_row w g 2 _ t (0, 0) h).trans rfl, (cell_of_row w g 3 _ t (0, 0) h).trans rfl, (cell_of_row w g 4 _ t (0, 0) h).trans rfl, (cell_of_row w g 5 _ t (0, 0) h).trans rfl, (cell_of_row w g 6 _ t (0, 0) h).trans rfl, (cell_of_row w g 7 _ t (0, 0) h).trans rfl, (cell_of_row w g 8 _ t (0, 0) h).trans rfl⟩
theorem frozen9 {w : World} {g : Nat} {t : TypeId} {v0 v1 v2 v3 v4 v5 v6 v7 v8 : Value} (h : w.heap[g]? = some (.cells #[v0, v1, v2, v3, v4, v5, v6, v7, v8] t (0, 0))) : w.frozen? ⟨g, 0, none⟩ = false ∧ w.frozen? ⟨g, 1, none⟩ = false ∧ w.frozen? ⟨g, 2, none⟩ = false ∧ w.frozen? ⟨g, 3, none⟩ = false ∧ w.frozen? ⟨g, 4, none⟩ = false ∧ w.frozen? ⟨g, 5, none⟩ = false ∧ w.frozen? ⟨g, 6, none⟩ = false ∧ w.frozen? ⟨g, 7, none⟩ = false ∧ w.frozen? ⟨g, 8, none⟩ = false :=
  ⟨by simp [World.frozen?, h], by simp [World.frozen?, h], by simp [World.frozen?, h], by simp [World.frozen?, h], by simp [World.frozen?, h], by simp [World.frozen?, h], by simp [World.frozen?, h], by simp [World.frozen?, h], by simp [World.frozen?, h]⟩
theorem cells10 {w : World} {g : Nat} {t : TypeId} {v0 v1 v2 v3 v4 v5 v6 v7 v8 v9 : Value} (h : w.heap[g]? = some (.cells #[v0, v1, v2, v3, v4, v5, v6, v7, v8, v9] t (0, 0))) : w.cell? ⟨g, 0, none⟩ = some v0 ∧ w.cell? ⟨g, 1, none⟩ = some v1 ∧ w.cell? ⟨g, 2, none⟩ = some v2 ∧ w.cell? ⟨g, 3, none⟩ = some v3 ∧ w.cell? ⟨g, 4, none⟩ = some v4 ∧ w.cell? ⟨g, 5, none⟩ = some v5 ∧ w.cell? ⟨g, 6, none⟩ = some v6 ∧ w.cell? ⟨g, 7, none⟩ = some v7 ∧ w.cell? ⟨g, 8, none⟩ = some v8 ∧ w.cell? ⟨g, 9, none⟩ = some v9 :=
  ⟨(cell_of_row w g 0 _ t (0, 0) h).trans rfl, (cell_of_row w g 1 _ t (0, 0) h).trans rfl, (cell_of_row w g 2 _ t (0, 0) h).trans rfl, (cell_of_row w g 3 _ t (0, 0) h).trans rfl, (cell_of_row w g 4 _ t (0, 0) h).trans rfl, (cell_of_row w g 5 _ t (0, 0) h).trans rfl, (cell_of_row w g 6 _ t (0, 0) h).trans rfl, (cell_of_row w g 7 _ t (0, 0) h).trans rfl, (cell_of_row w g 8 _ t (0, 0) h).trans rfl, (cell_of_row w g 9 _ t (0, 0) h).trans rfl⟩
theorem frozen10 {w : World} {g : Nat} {t : TypeId} {v0 v1 v2 v3 v4 v5 v6 v7 v8 v9 : Value} (h : w.heap[g]? = some (.cells #[v0, v1, v2, v3, v4, v5, v6, v7, v8, v9] t (0, 0))) : w.frozen? ⟨g, 0, none⟩ = false ∧ w.frozen? ⟨g, 1, none⟩ = false ∧ w.frozen? ⟨g, 2, none⟩ = false ∧ w.frozen? ⟨g, 3, none⟩ = false ∧ w.frozen? ⟨g, 4, none⟩ = false ∧ w.frozen? ⟨g, 5, none⟩ = false ∧ w.frozen? ⟨g, 6, none⟩ = false ∧ w.frozen? ⟨g, 7, none⟩ = false ∧ w.frozen? ⟨g, 8, none⟩ = false ∧ w.frozen? ⟨g, 9, none⟩ = false :=
  ⟨by simp [World.frozen?, h], by simp [World.frozen?, h], by simp [World.frozen?, h], by simp [World.frozen?, h], by simp [World.frozen?, h], by simp [World.frozen?, h], by simp [World.frozen?, h], by simp [World.frozen?, h], by simp [World.frozen?, h], by simp [World.frozen?, h]⟩
theorem cells11 {w : World} {g : Nat} {t : TypeId} {v0 v1 v2 v3 v4 v5 v6 v7 v8 v9 v10 : Value} (h : w.heap[g]? = some (.cells #[v0, v1, v2, v3, v4, v5, v6, v7, v8, v9, v10] t (0, 0))) : w.cell? ⟨g, 0, none⟩ = some v0 ∧ w.cell? ⟨g, 1, none⟩ = some v1 ∧ w.cell? ⟨g, 2, none⟩ = some v2 ∧ w.cell? ⟨g, 3, none⟩ = some v3 ∧ w.cell? ⟨g, 4, none⟩ = some v4 ∧ w.cell? ⟨g, 5, none⟩ = some v5 ∧ w.cell? ⟨g, 6, none⟩ = some v6 ∧ w.cell? ⟨g, 7, none⟩ = some v7 ∧ w.cell? ⟨g, 8, none⟩ = some v8 ∧ w.cell? ⟨g, 9, none⟩ = some v9 ∧ w.cell? ⟨g, 10, none⟩ = some v10 :=
  ⟨(cell_of_row w g 0 _ t (0, 0) h).trans rfl, (cell_of_row w g 1 _ t (0, 0) h).trans rfl, (cell_of_row w g 2 _ t (0, 0) h).trans rfl, (cell_of_row w g 3 _ t (0, 0) h).trans rfl, (cell_of_row w g 4 _ t (0, 0) h).trans rfl, (cell_of_row w g 5 _ t (0, 0) h).trans rfl, (cell_of_row w g 6 _ t (0, 0) h).trans rfl, (cell_of_row w g 7 _ t (0, 0) h).trans rfl, (cell_of_row w g 8 _ t (0, 0) h).trans rfl, (cell_of_row w g 9 _ t (0, 0) h).trans rfl, (cell_of_row w g 10 _ t (0, 0) h).trans rfl⟩
theorem frozen11 {w : World} {g : Nat} {t : TypeId} {v0 v1 v2 v3 v4 v5 v6 v7 v8 v9 v10 : Value} (h : w.heap[g]? = some (.cells #[v0, v1, v2, v3, v4, v5, v6, v7, v8, v9, v10] t (0, 0))) : w.frozen? ⟨g, 0, none⟩ = false ∧ w.frozen? ⟨g, 1, none⟩ = false ∧ w.frozen? ⟨g, 2, none⟩ = false ∧ w.frozen? ⟨g, 3, none⟩ = false ∧ w.frozen? ⟨g, 4, none⟩ = false ∧ w.frozen? ⟨g, 5, none⟩ = false ∧ w.frozen? ⟨g, 6, none⟩ = false ∧ w.frozen? ⟨g, 7, none⟩ = false ∧ w.frozen? ⟨g, 8, none⟩ = false ∧ w.frozen? ⟨g, 9, none⟩ = false ∧ w.frozen? ⟨g, 10, none⟩ = false :=
  ⟨by simp [World.frozen?, h], by simp [World.frozen?, h], by simp [World.frozen?, h], by simp [World.frozen?, h], by simp [World.frozen?, h], by simp [World.frozen?, h], by simp [World.frozen?, h], by simp [World.frozen?, h], by simp [World.frozen?, h], by simp [World.frozen?, h], by simp [World.frozen?, h]⟩
theorem cells12 {w : World} {g : Nat} {t : TypeId} {v0 v1 v2 v3 v4 v5 v6 v7 v8 v9 v10 v11 : Value} (h : w.heap[g]? = some (.cells #[v0, v1, v2, v3, v4, v5, v6, v7, v8, v9, v10, v11] t (0, 0))) : w.cell? ⟨g, 0, none⟩ = some v0 ∧ w.cell? ⟨g, 1, none⟩ = some v1 ∧ w.cell? ⟨g, 2, none⟩ = some v2 ∧ w.cell? ⟨g, 3, none⟩ = some v3 ∧ w.cell? ⟨g, 4, none⟩ = some v4 ∧ w.cell? ⟨g, 5, none⟩ = some v5 ∧ w.cell? ⟨g, 6, none⟩ = some v6 ∧ w.cell? ⟨g, 7, none⟩ = some v7 ∧ w.cell? ⟨g, 8, none⟩ = some v8 ∧ w.cell? ⟨g, 9, none⟩ = some v9 ∧ w.cell? ⟨g, 10, none⟩ = some v10 ∧ w.cell? ⟨g, 11, none⟩ = some v11 :=
  ⟨(cell_of_row w g 0 _ t (0, 0) h).trans rfl, (cell_of_row w g 1 _ t (0, 0) h).trans rfl, (cell_of_row w g 2 _ t (0, 0) h).trans rfl, (cell_of_row w g 3 _ t (0, 0) h).trans rfl, (cell_of_row w g 4 _ t (0, 0) h).trans rfl, (cell_of_row w g 5 _ t (0, 0) h).trans rfl, (cell_of_row w g 6 _ t (0, 0) h).trans rfl, (cell_of_row w g 7 _ t (0, 0) h).trans rfl, (cell_of_row w g 8 _ t (0, 0) h).trans rfl, (cell_of_row w g 9 _ t (0, 0) h).trans rfl, (cell_of_row w g 10 _ t (0, 0) h).trans rfl, (cell_of_row w g 11 _ t (0, 0) h).trans rfl⟩
theorem frozen12 {w : World} {g : Nat} {t : TypeId} {v0 v1 v2 v3 v4 v5 v6 v7 v8 v9 v10 v11 : Value} (h : w.heap[g]? = some (.cells #[v0, v1, v2, v3, v4, v5, v6, v7, v8, v9, v10, v11] t (0, 0))) : w.frozen? ⟨g, 0, none⟩ = false ∧ w.frozen? ⟨g, 1, none⟩ = false ∧ w.frozen? ⟨g, 2, none⟩ = false ∧ w.frozen? ⟨g, 3, none⟩ = false ∧ w.frozen? ⟨g, 4, none⟩ = false ∧ w.frozen? ⟨g, 5, none⟩ = false ∧ w.frozen? ⟨g, 6, none⟩ = false ∧ w.frozen? ⟨g, 7, none⟩ = false ∧ w.frozen? ⟨g, 8, none⟩ = false ∧ w.frozen? ⟨g, 9, none⟩ = false ∧ w.frozen? ⟨g, 10, none⟩ = false ∧ w.frozen? ⟨g, 11, none⟩ = false :=
  ⟨by simp [World.frozen?, h], by simp [World.frozen?, h], by simp [World.frozen?, h], by simp [World.frozen?, h], by simp [World.frozen?, h], by simp [World.frozen?, h], by simp [World.frozen?, h], by simp [World.frozen?, h], by simp [World.frozen?, h], by simp [World.frozen?, h], by simp [World.frozen?, h], by simp [World.frozen?, h]⟩

end Go.Proofs.YtokonpkecmnneaaHm
