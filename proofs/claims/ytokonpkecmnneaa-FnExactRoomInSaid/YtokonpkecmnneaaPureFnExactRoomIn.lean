/- The plain half of the law: what both sides compute is the same. Conditions: none. -/
import Derived.Test.YtokonpkecmnneaaQFnExactRoomInx17
namespace Go.Proofs.Ytokonpkecmnneaa.Pure
open Go.RowKit Go.Proofs.Ytokonpkecmnneaa.QFnExactRoomInx Go.Proofs.YtokonpkecmnneaaHw Go.Proofs.YtokonpkecmnneaaHo Go.Proofs.YtokonpkecmnneaaHm Go.Proofs.YtokonpkecmnneaaW.PrintWords Go.Proofs.YtokonpkecmnneaaW.PrintLast Go.Proofs.YtokonpkecmnneaaW.PrintMore
set_option linter.unusedVariables false
set_option linter.unusedSimpArgs false

theorem Ev.pos {α : Type} {c : Prop} [Decidable c] {f g : Nat → Option α} {r : α} (hc : c) (h : Ev f r) : Ev (fun k => if c then f k else g k) r := Ev.congr (fun k => by rw [if_pos hc]) h
theorem Ev.neg {α : Type} {c : Prop} [Decidable c] {f g : Nat → Option α} {r : α} (hc : ¬ c) (h : Ev g r) : Ev (fun k => if c then f k else g k) r := Ev.congr (fun k => by rw [if_neg hc]) h
theorem Ev.is {α : Type} {a r : α} (h : a = r) : Ev (fun _ => some a) r := by subst h; exact Ev.now _
theorem Ev.via {α β : Type} {f : Nat → α → Option β} {g : Option α} {a : α} {r : β} (hg : g = some a) (h : Ev (fun k => f k a) r) : Ev (fun k => g.bind (f k)) r := by subst hg; exact h
theorem wrap_id {n : Int} (h0 : -9223372036854775808 ≤ n) (h1 : n ≤ 9223372036854775807) : wrap64 n = n := by unfold wrap64; omega
theorem rdOf_mem {l : List ByteArray} {i : Int} (h0 : 0 ≤ i) (h1 : i < (l.length : Int)) : rdOf ByteArray.empty l i ∈ l := by
  have h : i.toNat < l.length := by omega
  simp [rdOf, h]

/-! sizes -/
theorem szStringS_loop (l : List ByteArray) (hl : l.length ≤ 140737488351232) (hs : ∀ s ∈ l, s.size ≤ 140737488351232) : ∀ (d : Nat) (a i : Int), 0 ≤ i → i + d = l.length → 0 ≤ a → a ≤ 1048576 → ∃ r, Ev (fun k => laws_szStringS.l0 k l a i) r ∧ -1 ≤ r ∧ r ≤ a := by
  intro d
  induction d with
  | zero =>
    intro a i h0 hd ha hb
    exact ⟨a, Ev.step (fun k => by rw [laws_szStringS.l0, if_neg (by omega)]) (Ev.now _), by omega, by omega⟩
  | succ d ih =>
    intro a i h0 hd ha hb
    have hm := hs _ (rdOf_mem h0 (show i < (l.length : Int) by omega))
    have hw : wrap64 (a - ((rdOf ByteArray.empty l i).size : Int)) = a - ((rdOf ByteArray.empty l i).size : Int) := wrap_id (by omega) (by omega)
    have hw2 : wrap64 (i + 1) = i + 1 := wrap_id (by omega) (by omega)
    by_cases hn : a - ((rdOf ByteArray.empty l i).size : Int) < 0
    · exact ⟨-1, Ev.step (fun k => by rw [laws_szStringS.l0, if_pos (by omega), if_pos h0, hw, if_pos hn]) (Ev.now _), by omega, by omega⟩
    · obtain ⟨r, he, h1, h2⟩ := ih (a - ((rdOf ByteArray.empty l i).size : Int)) (i + 1) (by omega) (by omega) (by omega) (by omega)
      exact ⟨r, Ev.step (fun k => by rw [laws_szStringS.l0, if_pos (by omega), if_pos h0, hw, if_neg hn, hw2]) he, h1, by omega⟩
theorem szStringS_ev (l : List ByteArray) (hl : l.length ≤ 140737488351232) (hs : ∀ s ∈ l, s.size ≤ 140737488351232) (a : Int) (ha : 0 ≤ a) (hb : a ≤ 1048576) : ∃ r, Ev (fun k => laws_szStringS.f k l a) r ∧ -1 ≤ r ∧ r ≤ a := by
  have hw : wrap64 (a - (l.length : Int)) = a - (l.length : Int) := wrap_id (by omega) (by omega)
  by_cases hn : a - (l.length : Int) < 0
  · exact ⟨-1, Ev.congr (fun k => by unfold laws_szStringS.f; rw [hw, if_pos hn]) (Ev.now _), by omega, by omega⟩
  · obtain ⟨r, he, h1, h2⟩ := szStringS_loop l hl hs l.length (a - l.length) 0 (by omega) (by omega) (by omega) (by omega)
    exact ⟨r, Ev.congr (fun k => by unfold laws_szStringS.f; rw [hw, if_neg hn]) he, h1, by omega⟩
theorem szBlock_ev (x : S234) (h : IsQ234 x) (a : Int) (ha : 0 ≤ a) (hb : a ≤ 1048576) : ∃ r, Ev (fun k => laws_szBlock.f k x.f0 x.f1 x.f2 x.f3 a) r ∧ -1 ≤ r ∧ r ≤ a := by
  obtain ⟨r, he, h1, h2⟩ := szStringS_ev x.f3 (by have := h.2.2.2.1; omega) h.2.2.2.2 a ha hb
  by_cases hn : r < 0
  · exact ⟨-1, Ev.congr (fun k => rfl) (Ev.bind he (Ev.congr (fun k => by rw [if_pos hn]) (Ev.now _))), by omega, by omega⟩
  · exact ⟨r, Ev.congr (fun k => rfl) (Ev.bind he (Ev.congr (fun k => by rw [if_neg hn]) (Ev.now _))), by omega, by omega⟩
theorem rdT_mem234 {l : List S234} {i : Int} (h0 : 0 ≤ i) (h1 : i < (l.length : Int)) : rd_T234 l i ∈ l := by
  have h : i.toNat < l.length := by omega
  simp [rd_T234, h]
theorem szBlockS_loop (l : List S234) (hl : l.length ≤ 140737488351232) (hs : ∀ s ∈ l, IsQ234 s) : ∀ (d : Nat) (a i : Int), 0 ≤ i → i + d = l.length → 0 ≤ a → a ≤ 1048576 → ∃ r, Ev (fun k => laws_szBlockS.l0 k l a i) r ∧ -1 ≤ r ∧ r ≤ a := by
  intro d
  induction d with
  | zero =>
    intro a i h0 hd ha hb
    exact ⟨a, Ev.step (fun k => by rw [laws_szBlockS.l0, if_neg (by omega)]) (Ev.now _), by omega, by omega⟩
  | succ d ih =>
    intro a i h0 hd ha hb
    have hw2 : wrap64 (i + 1) = i + 1 := wrap_id (by omega) (by omega)
    obtain ⟨r, he, h1, h2⟩ := szBlock_ev _ (hs _ (rdT_mem234 h0 (show i < (l.length : Int) by omega))) a ha hb
    by_cases hn : r < 0
    · exact ⟨-1, Ev.step (fun k => by rw [laws_szBlockS.l0, if_pos (by omega), if_pos h0]) (Ev.bind he (Ev.congr (fun k => by rw [if_pos hn]) (Ev.now _))), by omega, by omega⟩
    · obtain ⟨r2, he2, h3, h4⟩ := ih r (i + 1) (by omega) (by omega) (by omega) (by omega)
      exact ⟨r2, Ev.step (fun k => by rw [laws_szBlockS.l0, if_pos (by omega), if_pos h0]) (Ev.bind he (Ev.congr (fun k => by rw [if_neg hn, hw2]) he2)), h3, by omega⟩
theorem szFlash_ev (x : S38) (h : IsQ38 x) : ∃ r, Ev (fun k => laws_szFlash.f k x.f0.f0 x.f0.f1 x.f0.f2 x.f1 x.f2 x.f3 x.f4 x.f5 1048576) r ∧ -1 ≤ r := by
  have hl : x.f1.length ≤ 140737488351232 := by have := h.2.1.1; omega
  have hw : wrap64 (1048576 - (x.f1.length : Int)) = 1048576 - (x.f1.length : Int) := wrap_id (by omega) (by omega)
  have key : ∃ r, Ev (fun k => laws_szBlockS.f k x.f1 1048576) r ∧ -1 ≤ r := by
    by_cases hn : 1048576 - (x.f1.length : Int) < 0
    · exact ⟨-1, Ev.congr (fun k => by unfold laws_szBlockS.f; rw [hw, if_pos hn]) (Ev.now _), by omega⟩
    · obtain ⟨r, he, h1, _⟩ := szBlockS_loop x.f1 hl h.2.1.2 x.f1.length (1048576 - x.f1.length) 0 (by omega) (by omega) (by omega) (by omega)
      exact ⟨r, Ev.congr (fun k => by unfold laws_szBlockS.f; rw [hw, if_neg hn]) he, h1⟩
  obtain ⟨r, he, h1⟩ := key
  by_cases hn : r < 0
  · exact ⟨-1, Ev.congr (fun k => rfl) (Ev.bind he (Ev.congr (fun k => by rw [if_pos hn]) (Ev.now _))), by omega⟩
  · exact ⟨r, Ev.congr (fun k => rfl) (Ev.bind he (Ev.congr (fun k => by rw [if_neg hn]) (Ev.now _))), by omega⟩

/-! copies -/
theorem take_set_succ {α : Type} {m l : List α} {i : Nat} (hm : m.length = l.length) (hi : i < l.length) (h : m.take i = l.take i) : (m.set i l[i]).take (i + 1) = l.take (i + 1) := by
  rw [List.take_succ_eq_append_getElem (by simpa [hm] using hi), List.take_succ_eq_append_getElem hi]
  simp [List.take_set_of_le, h]
theorem toStringS_loop (l : List ByteArray) (hl : l.length ≤ 140737488351232) : ∀ (d : Nat) (m : List ByteArray) (i : Int), 0 ≤ i → i + d = l.length → m.length = l.length → m.take i.toNat = l.take i.toNat → Ev (fun k => laws_toStringS.l0 k l m i) l := by
  intro d
  induction d with
  | zero =>
    intro m i h0 hd hm ht
    have e : m = l := by
      have hi : i.toNat = l.length := by omega
      rw [hi] at ht
      rwa [List.take_of_length_le (by omega), List.take_of_length_le (by omega)] at ht
    subst e
    exact Ev.step (fun k => by rw [laws_toStringS.l0, if_neg (by omega)]) (Ev.now _)
  | succ d ih =>
    intro m i h0 hd hm ht
    have hw2 : wrap64 (i + 1) = i + 1 := wrap_id (by omega) (by omega)
    have hi : i.toNat < l.length := by omega
    have hr : rdOf ByteArray.empty l i = l[i.toNat] := by simp [rdOf, hi]
    have ht2 := take_set_succ hm hi ht
    rw [show i.toNat + 1 = (i + 1).toNat by omega] at ht2
    exact Ev.step (fun k => by rw [laws_toStringS.l0, if_pos (by omega), if_pos h0, if_pos (by omega), hw2, hr]) (ih _ (i + 1) (by omega) (by omega) (by simpa using hm) ht2)
theorem toStringS_ev (l : List ByteArray) (hl : l.length * 16 ≤ 140737488351232) : Ev (fun k => laws_toStringS.f k l) l :=
  Ev.congr (fun k => by unfold laws_toStringS.f; rw [if_pos (by omega), if_pos (by omega)]) (toStringS_loop l (by omega) l.length _ 0 (by omega) (by omega) (by simp) (by simp))
def cv218 (x : S234) : S218 := ⟨x.f0, x.f1, x.f2, x.f3⟩
theorem toBlock_ev (x : S234) (h : IsQ234 x) : Ev (fun k => laws_toBlock.f k x.f0 x.f1 x.f2 x.f3) (x.f0, x.f1, x.f2, x.f3) := Ev.congr (fun k => rfl) (Ev.bind (toStringS_ev x.f3 h.2.2.2.1) (Ev.now _))
theorem toBlockS_loop (l : List S234) (hl : l.length ≤ 140737488351232) (hs : ∀ s ∈ l, IsQ234 s) : ∀ (d : Nat) (m : List S218) (i : Int), 0 ≤ i → i + d = l.length → m.length = l.length → m.take i.toNat = (l.map cv218).take i.toNat → Ev (fun k => laws_toBlockS.l0 k l m i) (l.map cv218) := by
  intro d
  induction d with
  | zero =>
    intro m i h0 hd hm ht
    have e : m = l.map cv218 := by
      have hi : i.toNat = l.length := by omega
      rw [hi] at ht
      rwa [List.take_of_length_le (by omega), List.take_of_length_le (by simp)] at ht
    subst e
    exact Ev.step (fun k => by rw [laws_toBlockS.l0, if_neg (by omega)]) (Ev.now _)
  | succ d ih =>
    intro m i h0 hd hm ht
    have hw2 : wrap64 (i + 1) = i + 1 := wrap_id (by omega) (by omega)
    have hi : i.toNat < l.length := by omega
    have hr : (⟨(rd_T234 l i).f0, (rd_T234 l i).f1, (rd_T234 l i).f2, (rd_T234 l i).f3⟩ : S218) = (l.map cv218)[i.toNat]'(by simpa using hi) := by simp [rd_T234, hi, cv218]
    have ht2 := take_set_succ (by simpa using hm) (by simpa using hi) ht
    rw [show i.toNat + 1 = (i + 1).toNat by omega] at ht2
    exact Ev.step (fun k => by rw [laws_toBlockS.l0, if_pos (by omega), if_pos h0]) (Ev.bind (toBlock_ev _ (hs _ (rdT_mem234 h0 (show i < (l.length : Int) by omega)))) (Ev.congr (fun k => by rw [if_pos (by omega), hw2, hr]) (ih _ (i + 1) (by omega) (by omega) (by simpa using hm) ht2)))
theorem toBlockS_ev (l : List S234) (hl : l.length * 48 ≤ 140737488351232) (hs : ∀ s ∈ l, IsQ234 s) : Ev (fun k => laws_toBlockS.f k l) (l.map cv218) :=
  Ev.congr (fun k => by unfold laws_toBlockS.f; rw [if_pos (by omega), if_pos (by omega)]) (toBlockS_loop l (by omega) hs l.length _ 0 (by omega) (by omega) (by simp) (by simp))
theorem toFlash_ev (x : S38) (h : IsQ38 x) : Ev (fun k => laws_toFlash.f k x.f0.f0 x.f0.f1 x.f0.f2 x.f1 x.f2 x.f3 x.f4 x.f5) (x.f0.f0, x.f0.f1, x.f0.f2, x.f1.map cv218, x.f2, x.f3, x.f4, x.f5) :=
  Ev.congr (fun k => rfl) (Ev.bind (Ev.now (x.f0.f0, x.f0.f1, x.f0.f2)) (Ev.bind (toBlockS_ev x.f1 h.2.1.1 h.2.1.2) (Ev.now _)))

/-! each equals itself -/
theorem eqStringS_loop (l : List ByteArray) (hl : l.length ≤ 140737488351232) : ∀ (d : Nat) (i : Int), 0 ≤ i → i + d = l.length → Ev (fun k => laws_eqStringS.l0 k l l i) true := by
  intro d
  induction d with
  | zero => intro i h0 hd; exact Ev.step (fun k => by rw [laws_eqStringS.l0, if_neg (by omega)]) (Ev.now _)
  | succ d ih =>
    intro i h0 hd
    have hw2 : wrap64 (i + 1) = i + 1 := wrap_id (by omega) (by omega)
    exact Ev.step (fun k => by rw [laws_eqStringS.l0, if_pos (by omega), if_pos h0, if_pos (by omega), if_pos rfl, hw2]) (ih (i + 1) (by omega) (by omega))
theorem eqStringS_ev (l : List ByteArray) (hl : l.length ≤ 140737488351232) : Ev (fun k => laws_eqStringS.f k l l) true :=
  Ev.congr (fun k => by unfold laws_eqStringS.f; rw [if_pos rfl]) (eqStringS_loop l hl l.length 0 (by omega) (by omega))
theorem eqBlock_ev (x : S218) (h : x.f3.length ≤ 140737488351232) : Ev (fun k => laws_eqBlock.f k x.f0 x.f1 x.f2 x.f3 x.f0 x.f1 x.f2 x.f3) true :=
  Ev.congr (fun k => by unfold laws_eqBlock.f; rw [if_pos rfl, if_pos rfl, if_neg (by simp)]) (Ev.bind (eqStringS_ev x.f3 h) (Ev.congr (fun k => by rw [if_pos rfl]) (Ev.now _)))
theorem rdT_mem218 {l : List S218} {i : Int} (h0 : 0 ≤ i) (h1 : i < (l.length : Int)) : rd_T218 l i ∈ l := by
  have h : i.toNat < l.length := by omega
  simp [rd_T218, h]
theorem eqBlockS_loop (l : List S218) (hl : l.length ≤ 140737488351232) (hs : ∀ x ∈ l, x.f3.length ≤ 140737488351232) : ∀ (d : Nat) (i : Int), 0 ≤ i → i + d = l.length → Ev (fun k => laws_eqBlockS.l0 k l l i) true := by
  intro d
  induction d with
  | zero => intro i h0 hd; exact Ev.step (fun k => by rw [laws_eqBlockS.l0, if_neg (by omega)]) (Ev.now _)
  | succ d ih =>
    intro i h0 hd
    have hw2 : wrap64 (i + 1) = i + 1 := wrap_id (by omega) (by omega)
    exact Ev.step (fun k => by rw [laws_eqBlockS.l0, if_pos (by omega), if_pos h0, if_pos (by omega)]) (Ev.bind (eqBlock_ev _ (hs _ (rdT_mem218 h0 (show i < (l.length : Int) by omega)))) (Ev.congr (fun k => by rw [if_pos rfl, hw2]) (ih (i + 1) (by omega) (by omega))))
theorem eqFlash_ev (a b c : Int) (l : List S218) (d e : Int) (f : Bool) (g : Int) (hl : l.length ≤ 140737488351232) (hs : ∀ x ∈ l, x.f3.length ≤ 140737488351232) : Ev (fun k => laws_eqFlash.f k a b c l d e f g a b c l d e f g) true :=
by
  have hg : laws_eqGeometry.f a b c a b c = some true := by unfold laws_eqGeometry.f; rw [if_pos rfl, if_pos rfl, if_pos rfl]
  have hb : Ev (fun k => laws_eqBlockS.f k l l) true := Ev.pos rfl (eqBlockS_loop l hl hs l.length 0 (by omega) (by omega))
  exact Ev.via hg (Ev.pos rfl (Ev.bind hb (Ev.pos rfl (Ev.pos rfl (Ev.pos rfl (Ev.neg (by simp) (Ev.pos rfl (Ev.now _))))))))

/-! valid arrays -/
def okPages (n : Int) : List ByteArray → Int → Bool
  | [], _ => true
  | p :: ps, i => (decide (p.size = 0) || (decide (p.size = 91) && decide (i < n))) && okPages n ps (i + 1)
theorem drop_rdB (l : List ByteArray) {i : Int} (h0 : 0 ≤ i) (h1 : i < (l.length : Int)) : l.drop i.toNat = rdOf ByteArray.empty l i :: l.drop (i + 1).toNat := by
  have h : i.toNat < l.length := by omega
  rw [List.drop_eq_getElem_cons h, show (i + 1).toNat = i.toNat + 1 by omega]
  simp [rdOf, h]
theorem toList_nil (s : ByteArray) : s.toList = ([] : List UInt8) ↔ s.size = 0 := by
  rw [ByteArray.toList_eq]
  constructor
  · intro h
    have : s.data.toList.length = 0 := by rw [h]; rfl
    simpa using this
  · intro h
    have : s.data.toList.length = 0 := by simpa using h
    exact List.length_eq_zero_iff.1 this
theorem sBlock_loop (l : List ByteArray) (hl : l.length ≤ 140737488351232) (e n : Int) (b : Bool) : ∀ (d : Nat) (i : Int), 0 ≤ i → i + d = l.length → Ev (fun k => spec_l06Block.l0 k (l.length : Int) i e n b l) (okPages n (l.drop i.toNat) i) := by
  intro d
  induction d with
  | zero =>
    intro i h0 hd
    rw [List.drop_of_length_le (by omega)]
    exact Ev.step (fun k => by rw [spec_l06Block.l0, if_neg (by omega)]; rfl) (Ev.now _)
  | succ d ih =>
    intro i h0 hd
    have hw2 : wrap64 (i + 1) = i + 1 := wrap_id (by omega) (by omega)
    have hI := ih (i + 1) (by omega) (by omega)
    rw [drop_rdB l h0 (by omega)]
    by_cases c1 : (rdOf ByteArray.empty l i).size = 0
    · have e1 : okPages n (rdOf ByteArray.empty l i :: l.drop (i + 1).toNat) i = okPages n (l.drop (i + 1).toNat) (i + 1) := by simp [okPages, c1]
      rw [e1]
      exact Ev.step (fun k => by rw [spec_l06Block.l0, if_pos (by omega), if_pos h0, if_pos (by omega), if_pos (by omega), hw2]) hI
    · by_cases c2 : (rdOf ByteArray.empty l i).size = 91
      · by_cases c3 : i ≥ n
        · have e1 : okPages n (rdOf ByteArray.empty l i :: l.drop (i + 1).toNat) i = false := by simp [okPages, c2]; omega
          rw [e1]
          exact Ev.step (fun k => by rw [spec_l06Block.l0, if_pos (by omega), if_pos h0, if_pos (by omega), if_neg (by omega), if_pos (by omega), if_pos c3]) (Ev.now _)
        · have e1 : okPages n (rdOf ByteArray.empty l i :: l.drop (i + 1).toNat) i = okPages n (l.drop (i + 1).toNat) (i + 1) := by simp [okPages, c2]; omega
          rw [e1]
          exact Ev.step (fun k => by rw [spec_l06Block.l0, if_pos (by omega), if_pos h0, if_pos (by omega), if_neg (by omega), if_pos (by omega), if_neg c3, hw2]) hI
      · have e1 : okPages n (rdOf ByteArray.empty l i :: l.drop (i + 1).toNat) i = false := by simp [okPages, c1, c2]
        rw [e1]
        exact Ev.step (fun k => by rw [spec_l06Block.l0, if_pos (by omega), if_pos h0, if_pos (by omega), if_neg (by omega), if_neg (by omega)]) (Ev.now _)
theorem iBlock_loop (l : List ByteArray) (hl : l.length ≤ 140737488351232) (e n : Int) (b : Bool) : ∀ (d : Nat) (i : Int), 0 ≤ i → i + d = l.length → Ev (fun k => impl_Geometry_blockOk.l0 k l (l.length : Int) i e n b l) (okPages n (l.drop i.toNat) i) := by
  intro d
  induction d with
  | zero =>
    intro i h0 hd
    rw [List.drop_of_length_le (by omega)]
    exact Ev.step (fun k => by rw [impl_Geometry_blockOk.l0, if_neg (by omega)]; rfl) (Ev.now _)
  | succ d ih =>
    intro i h0 hd
    have hw2 : wrap64 (i + 1) = i + 1 := wrap_id (by omega) (by omega)
    have hI := ih (i + 1) (by omega) (by omega)
    rw [drop_rdB l h0 (by omega)]
    by_cases c1 : (rdOf ByteArray.empty l i).size = 0
    · have e1 : okPages n (rdOf ByteArray.empty l i :: l.drop (i + 1).toNat) i = okPages n (l.drop (i + 1).toNat) (i + 1) := by simp [okPages, c1]
      rw [e1]
      exact Ev.step (fun k => by rw [impl_Geometry_blockOk.l0, if_pos (by omega), if_pos h0, if_pos (by omega), if_pos ((toList_nil _).2 c1), hw2]) hI
    · have c1' : ¬ (rdOf ByteArray.empty l i).toList = ([] : List UInt8) := fun h => c1 ((toList_nil _).1 h)
      by_cases c2 : (rdOf ByteArray.empty l i).size = 91
      · by_cases c3 : i ≥ n
        · have e1 : okPages n (rdOf ByteArray.empty l i :: l.drop (i + 1).toNat) i = false := by simp [okPages, c2]; omega
          rw [e1]
          exact Ev.step (fun k => by rw [impl_Geometry_blockOk.l0, if_pos (by omega), if_pos h0, if_pos (by omega), if_neg c1', if_pos (by omega), if_pos c3]) (Ev.now _)
        · have e1 : okPages n (rdOf ByteArray.empty l i :: l.drop (i + 1).toNat) i = okPages n (l.drop (i + 1).toNat) (i + 1) := by simp [okPages, c2]; omega
          rw [e1]
          exact Ev.step (fun k => by rw [impl_Geometry_blockOk.l0, if_pos (by omega), if_pos h0, if_pos (by omega), if_neg c1', if_pos (by omega), if_neg c3, hw2]) hI
      · have e1 : okPages n (rdOf ByteArray.empty l i :: l.drop (i + 1).toNat) i = false := by simp [okPages, c1, c2]
        rw [e1]
        exact Ev.step (fun k => by rw [impl_Geometry_blockOk.l0, if_pos (by omega), if_pos h0, if_pos (by omega), if_neg c1', if_neg (by omega)]) (Ev.now _)
def inB (n lo hi : Int) : Bool := decide (lo ≤ n) && decide (n ≤ hi)
theorem s_in (n lo hi : Int) : spec_l00In.f n lo hi = some (inB n lo hi) := by
  unfold spec_l00In.f inB
  by_cases h : n ≥ lo
  · rw [if_pos h, decide_eq_true (show lo ≤ n by omega)]; simp
  · rw [if_neg h, decide_eq_false (show ¬ lo ≤ n by omega)]; simp
theorem i_in (n lo hi : Int) : impl_within.f n lo hi = some (inB n lo hi) := by
  unfold impl_within.f inB
  by_cases h : n ≥ lo
  · rw [if_pos h, decide_eq_true (show lo ≤ n by omega)]; simp
  · rw [if_neg h, decide_eq_false (show ¬ lo ≤ n by omega)]; simp
theorem inB_iff {n lo hi : Int} : inB n lo hi = true ↔ lo ≤ n ∧ n ≤ hi := by simp [inB]
def geoB (d b p : Int) : Bool := inB d 2 3 && inB b 4 12 && (p == 8 || p == 16)
theorem s_geo (d b p : Int) : spec_ValidGeometry.f d b p = some (geoB d b p) := by
  unfold spec_ValidGeometry.f geoB
  rw [s_in, s_in]
  simp only [Option.bind_some]
  cases inB d 2 3 <;> cases inB b 4 12 <;> simp
  by_cases h : p = 8 <;> simp [h]
theorem i_geo (d b p : Int) : impl_ValidGeometry.f d b p = some (geoB d b p) := by
  unfold impl_ValidGeometry.f geoB
  rw [i_in, i_in]
  simp only [Option.bind_some]
  cases inB d 2 3 <;> cases inB b 4 12 <;> simp
  by_cases h : p = 8 <;> simp [h]
def blkB (pages : Int) (x : S218) : Bool := inB x.f0 0 1000 && inB x.f1 0 pages && decide ((x.f3.length : Int) = pages) && okPages x.f1 x.f3 0
theorem s_block (pages : Int) (x : S218) (hl : x.f3.length ≤ 140737488351232) : Ev (fun k => spec_l06Block.f k x.f0 x.f1 x.f2 x.f3 pages) (blkB pages x) := by
  have step : ∀ b : Bool, (b = false → (x.f3.length : Int) = pages) → Ev (fun k => spec_l06Block.j0 k pages b x.f0 x.f1 x.f2 x.f3) (!b && okPages x.f1 x.f3 0) := by
    intro b hb
    cases b with
    | true => exact Ev.step (fun k => by rw [spec_l06Block.j0]) (Ev.pos rfl (Ev.is (by simp)))
    | false =>
      have h := sBlock_loop x.f3 hl x.f0 x.f1 x.f2 x.f3.length 0 (by omega) (by omega)
      rw [hb rfl] at h
      exact Ev.step (fun k => by rw [spec_l06Block.j0, if_neg (by simp)]) (by simpa using h)
  unfold blkB spec_l06Block.f
  simp only [s_in, Option.bind_some]
  cases e1 : inB x.f0 0 1000 with
  | false => exact Ev.congr (fun k => by rw [if_neg (by simp)]) (by simpa using step true (by simp))
  | true =>
    cases e2 : inB x.f1 0 pages with
    | false => exact Ev.congr (fun k => by rw [if_pos rfl, if_neg (by simp)]) (by simpa using step true (by simp))
    | true =>
      have h := step ((x.f3.length : Int) != pages) (by simp)
      refine Ev.congr (fun k => by rw [if_pos rfl, if_pos rfl]) ?_
      by_cases c : (x.f3.length : Int) = pages
      · simpa [c] using h
      · have e3 : ((x.f3.length : Int) != pages) = true := by simpa using c
        rw [e3] at h ⊢
        simpa [c] using h
theorem i_block (d b pages : Int) (x : S218) (hl : x.f3.length ≤ 140737488351232) : Ev (fun k => impl_Geometry_blockOk.f k d b pages x.f0 x.f1 x.f2 x.f3) (blkB pages x) := by
  have step : ∀ b : Bool, Ev (fun k => impl_Geometry_blockOk.j0 k b x.f0 x.f1 x.f2 x.f3) (!b && okPages x.f1 x.f3 0) := by
    intro b
    cases b with
    | true => exact Ev.step (fun k => by rw [impl_Geometry_blockOk.j0]) (Ev.pos rfl (Ev.is (by simp)))
    | false =>
      have h := iBlock_loop x.f3 hl x.f0 x.f1 x.f2 x.f3.length 0 (by omega) (by omega)
      exact Ev.step (fun k => by rw [impl_Geometry_blockOk.j0, if_neg (by simp)]) (by simpa using h)
  unfold blkB impl_Geometry_blockOk.f
  simp only [i_in, Option.bind_some]
  cases e1 : inB x.f0 0 1000 with
  | false => exact Ev.congr (fun k => by rw [if_neg (by simp)]) (by simpa using step true)
  | true =>
    cases e2 : inB x.f1 0 pages with
    | false => exact Ev.congr (fun k => by rw [if_pos rfl, if_neg (by simp)]) (by simpa using step true)
    | true =>
      have h := step ((x.f3.length : Int) != pages)
      refine Ev.congr (fun k => by rw [if_pos rfl, if_pos rfl]) ?_
      by_cases c : (x.f3.length : Int) = pages
      · simpa [c] using h
      · have e3 : ((x.f3.length : Int) != pages) = true := by simpa using c
        rw [e3] at h ⊢
        simpa [c] using h
theorem drop_rdT218 (l : List S218) {i : Int} (h0 : 0 ≤ i) (h1 : i < (l.length : Int)) : l.drop i.toNat = rd_T218 l i :: l.drop (i + 1).toNat := by
  have h : i.toNat < l.length := by omega
  rw [List.drop_eq_getElem_cons h, show (i + 1).toNat = i.toNat + 1 by omega]
  simp [rd_T218, h]
theorem sFlash_loop (l : List S218) (hl : l.length ≤ 140737488351232) (hs : ∀ x ∈ l, x.f3.length ≤ 140737488351232) (a b c e f : Int) (g : Bool) (h : Int) : ∀ (d : Nat) (i : Int), 0 ≤ i → i + d = l.length → Ev (fun k => spec_ValidFlash.l0 k i a b c l e f g h) ((l.drop i.toNat).all (blkB c)) := by
  intro d
  induction d with
  | zero =>
    intro i h0 hd
    rw [List.drop_of_length_le (by omega)]
    exact Ev.step (fun k => by rw [spec_ValidFlash.l0, if_neg (by omega)]; rfl) (Ev.now _)
  | succ d ih =>
    intro i h0 hd
    have hw2 : wrap64 (i + 1) = i + 1 := wrap_id (by omega) (by omega)
    have hI := ih (i + 1) (by omega) (by omega)
    have hb := s_block c _ (hs _ (rdT_mem218 h0 (show i < (l.length : Int) by omega)))
    rw [drop_rdT218 l h0 (by omega), List.all_cons]
    refine Ev.step (fun k => by rw [spec_ValidFlash.l0, if_pos (by omega), if_pos h0]) (Ev.bind hb ?_)
    cases blkB c (rd_T218 l i) with
    | true => exact Ev.congr (fun k => by rw [if_pos rfl, hw2]) (by simpa using hI)
    | false => exact Ev.neg (by simp) (Ev.is (by simp))
def flashB (a b c : Int) (l : List S218) (e f h : Int) : Bool := geoB a b c && decide ((l.length : Int) = a * b) && inB e (-1) 1000000 && inB f 0 91 && decide (0 ≤ h) && l.all (blkB c)
theorem geo_wrap {a b c : Int} (h : geoB a b c = true) : wrap64 (a * b) = a * b := by
  simp only [geoB, Bool.and_eq_true, inB_iff] at h
  obtain ⟨⟨h1, h2⟩, _⟩ := h
  have : a = 2 ∨ a = 3 := by omega
  rcases this with rfl | rfl <;> exact wrap_id (by omega) (by omega)
theorem s_flash (a b c : Int) (l : List S218) (e f : Int) (g : Bool) (h : Int) (hl : l.length ≤ 140737488351232) (hs : ∀ x ∈ l, x.f3.length ≤ 140737488351232) : Ev (fun k => spec_ValidFlash.f k a b c l e f g h) (flashB a b c l e f h) := by
  have step : ∀ z : Bool, Ev (fun k => spec_ValidFlash.j0 k z a b c l e f g h) (!z && l.all (blkB c)) := by
    intro z
    cases z with
    | true => exact Ev.step (fun k => by rw [spec_ValidFlash.j0]) (Ev.pos rfl (Ev.is (by simp)))
    | false => exact Ev.step (fun k => by rw [spec_ValidFlash.j0, if_neg (by simp)]) (by simpa using sFlash_loop l hl hs a b c e f g h l.length 0 (by omega) (by omega))
  have st : Ev (fun k => spec_ValidFlash.j0 k true a b c l e f g h) false := by simpa using step true
  unfold flashB spec_ValidFlash.f
  simp only [s_in, s_geo, Option.bind_some]
  cases e1 : geoB a b c with
  | false => exact Ev.congr (fun k => by rw [if_neg (by simp)]) (by simpa using st)
  | true =>
    rw [geo_wrap e1]
    by_cases c2 : (l.length : Int) = a * b
    · cases e3 : inB e (-1) 1000000 with
      | false => exact Ev.congr (fun k => by rw [if_pos rfl, if_pos c2, if_neg (by simp)]) (by simpa using st)
      | true =>
        cases e4 : inB f 0 91 with
        | false => exact Ev.congr (fun k => by rw [if_pos rfl, if_pos c2, if_pos rfl, if_neg (by simp)]) (by simpa using st)
        | true =>
          refine Ev.congr (fun k => by rw [if_pos rfl, if_pos c2, if_pos rfl, if_pos rfl]) ?_
          have h2 := step (decide (h < 0))
          by_cases c5 : h < 0
          · have c6 : ¬ 0 ≤ h := by omega
            simpa [c2, c5, c6] using h2
          · have c6 : 0 ≤ h := by omega
            simpa [c2, c5, c6] using h2
    · exact Ev.congr (fun k => by rw [if_pos rfl, if_neg c2]) (by simpa [c2] using st)
theorem anyO_ev {α : Type} (p : Nat → α → Option Bool) (q : α → Bool) : ∀ (l : List α), (∀ x ∈ l, Ev (fun k => p k x) (q x)) → Ev (fun k => anyO (p k) l) (l.any q)
  | [], _ => Ev.now _
  | x :: xs, h => by
    have ih := anyO_ev p q xs (fun y hy => h y (List.mem_cons_of_mem _ hy))
    refine Ev.congr (fun k => rfl) (Ev.bind (h x List.mem_cons_self) ?_)
    rw [List.any_cons]
    cases q x with
    | true => exact Ev.pos rfl (Ev.is (by simp))
    | false => exact Ev.neg (by simp) (by simpa using ih)
theorem i_flash (a b c : Int) (l : List S218) (e f : Int) (g : Bool) (h : Int) (hs : ∀ x ∈ l, x.f3.length ≤ 140737488351232) : Ev (fun k => impl_ValidFlash.f k a b c l e f g h) (flashB a b c l e f h) := by
  have hof : Ev (fun k => hof_210_211.f k l a b c l e f g h) (l.any (fun x => !blkB c x)) :=
    anyO_ev (fun k x => hof_210_211.p k a b c x) _ l (fun x hx => Ev.congr (fun k => rfl) (Ev.bind (i_block a b c x (hs x hx)) (Ev.now _)))
  unfold flashB impl_ValidFlash.f impl_Geometry_all.f
  simp only [i_in, i_geo, Option.bind_some]
  cases e1 : geoB a b c with
  | false => exact Ev.neg (by simp) (Ev.is (by simp))
  | true =>
    rw [geo_wrap e1]
    refine Ev.pos rfl ?_
    by_cases c2 : (l.length : Int) = a * b
    · refine Ev.pos c2 ?_
      cases e3 : inB e (-1) 1000000 with
      | false => exact Ev.neg (by simp) (Ev.is (by simp))
      | true =>
        refine Ev.pos rfl ?_
        cases e4 : inB f 0 91 with
        | false => exact Ev.neg (by simp) (Ev.is (by simp))
        | true =>
          refine Ev.pos rfl ?_
          by_cases c5 : h < 0
          · have c6 : ¬ 0 ≤ h := by omega
            exact Ev.pos c5 (Ev.is (by simp [c6]))
          · have c6 : 0 ≤ h := by omega
            refine Ev.neg c5 (Ev.bind hof ?_)
            have e7 : (!(l.any fun x => !blkB c x)) = l.all (blkB c) := by rw [List.not_any_eq_all_not]; simp
            rw [e7]
            exact Ev.is (by simp [c2, c6])
    · exact Ev.neg c2 (Ev.is (by simp [c2]))


/-! devices: sizes, copies, each equals itself -/
theorem szInt_ev (l : List Int) (hl : l.length ≤ 140737488351232) (a : Int) (ha : 0 ≤ a) (hb : a ≤ 1048576) : ∃ r, laws_szInt64S.f l a = some r ∧ -1 ≤ r ∧ r ≤ a := by
  have hw : wrap64 (a - (l.length : Int)) = a - (l.length : Int) := wrap_id (by omega) (by omega)
  unfold laws_szInt64S.f
  rw [hw]
  by_cases hn : a - (l.length : Int) < 0
  · exact ⟨-1, by rw [if_pos hn], by omega, by omega⟩
  · exact ⟨a - (l.length : Int), by rw [if_neg hn], by omega, by omega⟩
theorem szZone_ev (x : S275) (h : IsQ275 x) (a : Int) (ha : 0 ≤ a) (hb : a ≤ 1048576) : ∃ r, Ev (fun k => laws_szZone.f k x.f0 x.f1 x.f2 x.f3 x.f4 x.f5 a) r ∧ -1 ≤ r ∧ r ≤ a := by
  obtain ⟨r1, e1, h1, h2⟩ := szInt_ev x.f1 (by have := h.2.1.1; omega) a ha hb
  by_cases n1 : r1 < 0
  · exact ⟨-1, Ev.congr (fun k => rfl) (Ev.via e1 (Ev.pos n1 (Ev.now _))), by omega, by omega⟩
  · obtain ⟨r2, e2, h3, h4⟩ := szInt_ev x.f4 (by have := h.2.2.2.2.1.1; omega) r1 (by omega) (by omega)
    by_cases n2 : r2 < 0
    · exact ⟨-1, Ev.congr (fun k => rfl) (Ev.via e1 (Ev.neg n1 (Ev.via e2 (Ev.pos n2 (Ev.now _))))), by omega, by omega⟩
    · obtain ⟨r3, e3, h5, h6⟩ := szStringS_ev x.f5 (by have := h.2.2.2.2.2.1; omega) h.2.2.2.2.2.2 r2 (by omega) (by omega)
      by_cases n3 : r3 < 0
      · exact ⟨-1, Ev.congr (fun k => rfl) (Ev.via e1 (Ev.neg n1 (Ev.via e2 (Ev.neg n2 (Ev.bind e3 (Ev.pos n3 (Ev.now _))))))), by omega, by omega⟩
      · exact ⟨r3, Ev.congr (fun k => rfl) (Ev.via e1 (Ev.neg n1 (Ev.via e2 (Ev.neg n2 (Ev.bind e3 (Ev.neg n3 (Ev.now _))))))), by omega, by omega⟩
theorem rdT_mem275 {l : List S275} {i : Int} (h0 : 0 ≤ i) (h1 : i < (l.length : Int)) : rd_T275 l i ∈ l := by
  have h : i.toNat < l.length := by omega
  simp [rd_T275, h]
theorem szZoneS_loop (l : List S275) (hl : l.length ≤ 140737488351232) (hs : ∀ s ∈ l, IsQ275 s) : ∀ (d : Nat) (a i : Int), 0 ≤ i → i + d = l.length → 0 ≤ a → a ≤ 1048576 → ∃ r, Ev (fun k => laws_szZoneS.l0 k l a i) r ∧ -1 ≤ r ∧ r ≤ a := by
  intro d
  induction d with
  | zero =>
    intro a i h0 hd ha hb
    exact ⟨a, Ev.step (fun k => by rw [laws_szZoneS.l0, if_neg (by omega)]) (Ev.now _), by omega, by omega⟩
  | succ d ih =>
    intro a i h0 hd ha hb
    have hw2 : wrap64 (i + 1) = i + 1 := wrap_id (by omega) (by omega)
    obtain ⟨r, he, h1, h2⟩ := szZone_ev _ (hs _ (rdT_mem275 h0 (show i < (l.length : Int) by omega))) a ha hb
    by_cases hn : r < 0
    · exact ⟨-1, Ev.step (fun k => by rw [laws_szZoneS.l0, if_pos (by omega), if_pos h0]) (Ev.bind he (Ev.congr (fun k => by rw [if_pos hn]) (Ev.now _))), by omega, by omega⟩
    · obtain ⟨r2, he2, h3, h4⟩ := ih r (i + 1) (by omega) (by omega) (by omega) (by omega)
      exact ⟨r2, Ev.step (fun k => by rw [laws_szZoneS.l0, if_pos (by omega), if_pos h0]) (Ev.bind he (Ev.congr (fun k => by rw [if_neg hn, hw2]) he2)), h3, by omega⟩
theorem szFlash_ev2 (x : S38) (h : IsQ38 x) : ∃ r, Ev (fun k => laws_szFlash.f k x.f0.f0 x.f0.f1 x.f0.f2 x.f1 x.f2 x.f3 x.f4 x.f5 1048576) r ∧ -1 ≤ r ∧ r ≤ 1048576 := by
  have hl : x.f1.length ≤ 140737488351232 := by have := h.2.1.1; omega
  have hw : wrap64 (1048576 - (x.f1.length : Int)) = 1048576 - (x.f1.length : Int) := wrap_id (by omega) (by omega)
  have key : ∃ r, Ev (fun k => laws_szBlockS.f k x.f1 1048576) r ∧ -1 ≤ r ∧ r ≤ 1048576 := by
    by_cases hn : 1048576 - (x.f1.length : Int) < 0
    · exact ⟨-1, Ev.congr (fun k => by unfold laws_szBlockS.f; rw [hw, if_pos hn]) (Ev.now _), by omega, by omega⟩
    · obtain ⟨r, he, h1, h2⟩ := szBlockS_loop x.f1 hl h.2.1.2 x.f1.length (1048576 - x.f1.length) 0 (by omega) (by omega) (by omega) (by omega)
      exact ⟨r, Ev.congr (fun k => by unfold laws_szBlockS.f; rw [hw, if_neg hn]) he, h1, by omega⟩
  obtain ⟨r, he, h1, h2⟩ := key
  by_cases hn : r < 0
  · exact ⟨-1, Ev.congr (fun k => rfl) (Ev.bind he (Ev.congr (fun k => by rw [if_pos hn]) (Ev.now _))), by omega, by omega⟩
  · exact ⟨r, Ev.congr (fun k => rfl) (Ev.bind he (Ev.congr (fun k => by rw [if_neg hn]) (Ev.now _))), by omega, by omega⟩
theorem szDevice_ev (x : S121) (h : IsQ121 x) : ∃ r, Ev (fun k => laws_szDevice.f k x.f0.f0.f0 x.f0.f0.f1 x.f0.f0.f2 x.f0.f1 x.f0.f2 x.f0.f3 x.f0.f4 x.f0.f5 x.f1 1048576) r ∧ -1 ≤ r ∧ r ≤ 1048576 := by
  obtain ⟨r, he, h1, h2⟩ := szFlash_ev2 x.f0 h.1
  by_cases hn : r < 0
  · exact ⟨-1, Ev.congr (fun k => rfl) (Ev.bind he (Ev.pos hn (Ev.now _))), by omega, by omega⟩
  · have hl : x.f1.length ≤ 140737488351232 := by have := h.2.1; omega
    have hw : wrap64 (r - (x.f1.length : Int)) = r - (x.f1.length : Int) := wrap_id (by omega) (by omega)
    have key : ∃ q, Ev (fun k => laws_szZoneS.f k x.f1 r) q ∧ -1 ≤ q ∧ q ≤ r := by
      by_cases hn : r - (x.f1.length : Int) < 0
      · exact ⟨-1, Ev.congr (fun k => by unfold laws_szZoneS.f; rw [hw, if_pos hn]) (Ev.now _), by omega, by omega⟩
      · obtain ⟨q, he, h1, h2⟩ := szZoneS_loop x.f1 hl h.2.2 x.f1.length (r - x.f1.length) 0 (by omega) (by omega) (by omega) (by omega)
        exact ⟨q, Ev.congr (fun k => by unfold laws_szZoneS.f; rw [hw, if_neg hn]) he, h1, by omega⟩
    obtain ⟨q, hq, h3, h4⟩ := key
    by_cases hm : q < 0
    · exact ⟨-1, Ev.congr (fun k => rfl) (Ev.bind he (Ev.neg hn (Ev.bind hq (Ev.pos hm (Ev.now _))))), by omega, by omega⟩
    · exact ⟨q, Ev.congr (fun k => rfl) (Ev.bind he (Ev.neg hn (Ev.bind hq (Ev.neg hm (Ev.now _))))), by omega, by omega⟩
theorem toInt64S_loop (l : List Int) (hl : l.length ≤ 140737488351232) : ∀ (d : Nat) (m : List Int) (i : Int), 0 ≤ i → i + d = l.length → m.length = l.length → m.take i.toNat = l.take i.toNat → Ev (fun k => laws_toInt64S.l0 k l m i) l := by
  intro d
  induction d with
  | zero =>
    intro m i h0 hd hm ht
    have e : m = l := by
      have hi : i.toNat = l.length := by omega
      rw [hi] at ht
      rwa [List.take_of_length_le (by omega), List.take_of_length_le (by omega)] at ht
    subst e
    exact Ev.step (fun k => by rw [laws_toInt64S.l0, if_neg (by omega)]) (Ev.now _)
  | succ d ih =>
    intro m i h0 hd hm ht
    have hw2 : wrap64 (i + 1) = i + 1 := wrap_id (by omega) (by omega)
    have hi : i.toNat < l.length := by omega
    have hr : rd l i = l[i.toNat] := by simp [rd, hi]
    have ht2 := take_set_succ hm hi ht
    rw [show i.toNat + 1 = (i + 1).toNat by omega] at ht2
    exact Ev.step (fun k => by rw [laws_toInt64S.l0, if_pos (by omega), if_pos h0, if_pos (by omega), hw2, hr]) (ih _ (i + 1) (by omega) (by omega) (by simpa using hm) ht2)
theorem toInt64S_ev (l : List Int) (hl : l.length * 8 ≤ 140737488351232) : Ev (fun k => laws_toInt64S.f k l) l :=
  Ev.congr (fun k => by unfold laws_toInt64S.f; rw [if_pos (by omega), if_pos (by omega)]) (toInt64S_loop l (by omega) l.length _ 0 (by omega) (by omega) (by simp) (by simp))
def cv276 (x : S275) : S276 := ⟨x.f0, x.f1, x.f2, x.f3, x.f4, x.f5⟩
theorem toZone_ev (x : S275) (h : IsQ275 x) : Ev (fun k => laws_toZone.f k x.f0 x.f1 x.f2 x.f3 x.f4 x.f5) (x.f0, x.f1, x.f2, x.f3, x.f4, x.f5) :=
  Ev.congr (fun k => rfl) (Ev.bind (toInt64S_ev x.f1 h.2.1.1) (Ev.bind (toInt64S_ev x.f4 h.2.2.2.2.1.1) (Ev.bind (toStringS_ev x.f5 h.2.2.2.2.2.1) (Ev.now _))))
theorem toZoneS_loop (l : List S275) (hl : l.length ≤ 140737488351232) (hs : ∀ s ∈ l, IsQ275 s) : ∀ (d : Nat) (m : List S276) (i : Int), 0 ≤ i → i + d = l.length → m.length = l.length → m.take i.toNat = (l.map cv276).take i.toNat → Ev (fun k => laws_toZoneS.l0 k l m i) (l.map cv276) := by
  intro d
  induction d with
  | zero =>
    intro m i h0 hd hm ht
    have e : m = l.map cv276 := by
      have hi : i.toNat = l.length := by omega
      rw [hi] at ht
      rwa [List.take_of_length_le (by omega), List.take_of_length_le (by simp)] at ht
    subst e
    exact Ev.step (fun k => by rw [laws_toZoneS.l0, if_neg (by omega)]) (Ev.now _)
  | succ d ih =>
    intro m i h0 hd hm ht
    have hw2 : wrap64 (i + 1) = i + 1 := wrap_id (by omega) (by omega)
    have hi : i.toNat < l.length := by omega
    have hr : (⟨(rd_T275 l i).f0, (rd_T275 l i).f1, (rd_T275 l i).f2, (rd_T275 l i).f3, (rd_T275 l i).f4, (rd_T275 l i).f5⟩ : S276) = (l.map cv276)[i.toNat]'(by simpa using hi) := by simp [rd_T275, hi, cv276]
    have ht2 := take_set_succ (by simpa using hm) (by simpa using hi) ht
    rw [show i.toNat + 1 = (i + 1).toNat by omega] at ht2
    exact Ev.step (fun k => by rw [laws_toZoneS.l0, if_pos (by omega), if_pos h0]) (Ev.bind (toZone_ev _ (hs _ (rdT_mem275 h0 (show i < (l.length : Int) by omega)))) (Ev.congr (fun k => by rw [if_pos (by omega), hw2, hr]) (ih _ (i + 1) (by omega) (by omega) (by simpa using hm) ht2)))
theorem toZoneS_ev (l : List S275) (hl : l.length * 96 ≤ 140737488351232) (hs : ∀ s ∈ l, IsQ275 s) : Ev (fun k => laws_toZoneS.f k l) (l.map cv276) :=
  Ev.congr (fun k => by unfold laws_toZoneS.f; rw [if_pos (by omega), if_pos (by omega)]) (toZoneS_loop l (by omega) hs l.length _ 0 (by omega) (by omega) (by simp) (by simp))
theorem toDevice_ev (x : S121) (h : IsQ121 x) : Ev (fun k => laws_toDevice.f k x.f0.f0.f0 x.f0.f0.f1 x.f0.f0.f2 x.f0.f1 x.f0.f2 x.f0.f3 x.f0.f4 x.f0.f5 x.f1) (x.f0.f0.f0, x.f0.f0.f1, x.f0.f0.f2, x.f0.f1.map cv218, x.f0.f2, x.f0.f3, x.f0.f4, x.f0.f5, x.f1.map cv276) :=
  Ev.congr (fun k => rfl) (Ev.bind (toFlash_ev x.f0 h.1) (Ev.bind (toZoneS_ev x.f1 h.2.1 h.2.2) (Ev.now _)))
theorem eqInt64S_loop (l : List Int) (hl : l.length ≤ 140737488351232) : ∀ (d : Nat) (i : Int), 0 ≤ i → i + d = l.length → Ev (fun k => laws_eqInt64S.l0 k l l i) true := by
  intro d
  induction d with
  | zero => intro i h0 hd; exact Ev.step (fun k => by rw [laws_eqInt64S.l0, if_neg (by omega)]) (Ev.now _)
  | succ d ih =>
    intro i h0 hd
    have hw2 : wrap64 (i + 1) = i + 1 := wrap_id (by omega) (by omega)
    exact Ev.step (fun k => by rw [laws_eqInt64S.l0, if_pos (by omega), if_pos h0, if_pos (by omega), if_pos rfl, hw2]) (ih (i + 1) (by omega) (by omega))
theorem eqInt64S_ev (l : List Int) (hl : l.length ≤ 140737488351232) : Ev (fun k => laws_eqInt64S.f k l l) true :=
  Ev.congr (fun k => by unfold laws_eqInt64S.f; rw [if_pos rfl]) (eqInt64S_loop l hl l.length 0 (by omega) (by omega))
def sizedZ (x : S276) : Prop := x.f1.length ≤ 140737488351232 ∧ x.f4.length ≤ 140737488351232 ∧ x.f5.length ≤ 140737488351232
theorem eqZone_ev (x : S276) (h : sizedZ x) : Ev (fun k => laws_eqZone.f k x.f0 x.f1 x.f2 x.f3 x.f4 x.f5 x.f0 x.f1 x.f2 x.f3 x.f4 x.f5) true :=
  Ev.congr (fun k => rfl) (Ev.pos rfl (Ev.bind (eqInt64S_ev x.f1 h.1) (Ev.pos rfl (Ev.pos rfl (Ev.pos rfl (Ev.bind (eqInt64S_ev x.f4 h.2.1) (Ev.pos rfl (Ev.bind (eqStringS_ev x.f5 h.2.2) (Ev.pos rfl (Ev.now _))))))))))
theorem rdT_mem276 {l : List S276} {i : Int} (h0 : 0 ≤ i) (h1 : i < (l.length : Int)) : rd_T276 l i ∈ l := by
  have h : i.toNat < l.length := by omega
  simp [rd_T276, h]
theorem eqZoneS_loop (l : List S276) (hl : l.length ≤ 140737488351232) (hs : ∀ x ∈ l, sizedZ x) : ∀ (d : Nat) (i : Int), 0 ≤ i → i + d = l.length → Ev (fun k => laws_eqZoneS.l0 k l l i) true := by
  intro d
  induction d with
  | zero => intro i h0 hd; exact Ev.step (fun k => by rw [laws_eqZoneS.l0, if_neg (by omega)]) (Ev.now _)
  | succ d ih =>
    intro i h0 hd
    have hw2 : wrap64 (i + 1) = i + 1 := wrap_id (by omega) (by omega)
    exact Ev.step (fun k => by rw [laws_eqZoneS.l0, if_pos (by omega), if_pos h0, if_pos (by omega)]) (Ev.bind (eqZone_ev _ (hs _ (rdT_mem276 h0 (show i < (l.length : Int) by omega)))) (Ev.congr (fun k => by rw [if_pos rfl, hw2]) (ih (i + 1) (by omega) (by omega))))
theorem eqDevice_ev (a b c : Int) (l : List S218) (d e : Int) (f : Bool) (g : Int) (zs : List S276) (hl : l.length ≤ 140737488351232) (hs : ∀ x ∈ l, x.f3.length ≤ 140737488351232) (hz : zs.length ≤ 140737488351232) (hzs : ∀ x ∈ zs, sizedZ x) : Ev (fun k => laws_eqDevice.f k a b c l d e f g zs a b c l d e f g zs) true := by
  have hq : Ev (fun k => laws_eqZoneS.f k zs zs) true := Ev.pos rfl (eqZoneS_loop zs hz hzs zs.length 0 (by omega) (by omega))
  exact Ev.congr (fun k => rfl) (Ev.bind (eqFlash_ev a b c l d e f g hl hs) (Ev.pos rfl (Ev.bind hq (Ev.pos rfl (Ev.now _)))))

/-! valid devices -/
theorem drop_rdI (l : List Int) {i : Int} (h0 : 0 ≤ i) (h1 : i < (l.length : Int)) : l.drop i.toNat = rd l i :: l.drop (i + 1).toNat := by
  have h : i.toNat < l.length := by omega
  rw [List.drop_eq_getElem_cons h, show (i + 1).toNat = i.toNat + 1 by omega]
  simp [rd, h]
theorem drop_rdZ (l : List S276) {i : Int} (h0 : 0 ≤ i) (h1 : i < (l.length : Int)) : l.drop i.toNat = rd_T276 l i :: l.drop (i + 1).toNat := by
  have h : i.toNat < l.length := by omega
  rw [List.drop_eq_getElem_cons h, show (i + 1).toNat = i.toNat + 1 by omega]
  simp [rd_T276, h]
theorem rdI_mem {l : List Int} {i : Int} (h0 : 0 ≤ i) (h1 : i < (l.length : Int)) : rd l i ∈ l := by
  have h : i.toNat < l.length := by omega
  simp [rd, h]
theorem geo_rng {a b c : Int} (h : geoB a b c = true) : (a = 2 ∨ a = 3) ∧ 4 ≤ b ∧ b ≤ 12 ∧ (c = 8 ∨ c = 16) := by
  simp only [geoB, Bool.and_eq_true, inB_iff, Bool.or_eq_true, beq_iff_eq] at h
  omega
def placeB (b : Int) : List Int → Int → Bool
  | [], _ => true
  | x :: xs, lo => inB x lo (lo + b - 1) && placeB b xs (lo + b)
theorem wr_place {b i : Int} (hb : 4 ≤ b) (hc : b ≤ 12) (h0 : 0 ≤ i) (h1 : i < 3) : wrap64 (i * b) = i * b ∧ wrap64 (wrap64 (wrap64 (i + 1) * b) - 1) = i * b + b - 1 ∧ wrap64 (wrap64 (wrap64 (i * b) + b) - 1) = i * b + b - 1 ∧ wrap64 (i + 1) = i + 1 ∧ (i + 1) * b = i * b + b := by
  have h : i = 0 ∨ i = 1 ∨ i = 2 := by omega
  rcases h with rfl | rfl | rfl <;> (unfold wrap64; refine ⟨?_, ?_, ?_, ?_, ?_⟩ <;> omega)
theorem sPlace_loop (a b c z0 z2 z3 : Int) (l : List Int) (l4 : List Int) (l5 : List ByteArray) (hg : geoB a b c = true) (hl : (l.length : Int) = a) : ∀ (d : Nat) (i : Int), 0 ≤ i → i + d = a → Ev (fun k => spec_l16Blocks.l0 k i a b c z0 l z2 z3 l4 l5) (placeB b (l.drop i.toNat) (i * b)) := by
  obtain ⟨ga, gb, gb2, gc⟩ := geo_rng hg
  intro d
  induction d with
  | zero =>
    intro i h0 hd
    rw [List.drop_of_length_le (by omega)]
    exact Ev.step (fun k => by rw [spec_l16Blocks.l0, if_neg (by omega)]; rfl) (Ev.now _)
  | succ d ih =>
    intro i h0 hd
    obtain ⟨w1, w2, w3, w4, w5⟩ := wr_place gb gb2 h0 (show i < 3 by omega)
    have hI := ih (i + 1) (by omega) (by omega)
    rw [drop_rdI l h0 (by omega)]
    rw [w5] at hI
    refine Ev.step (fun k => by rw [spec_l16Blocks.l0, if_pos (by omega), if_pos h0, if_pos (by omega), w1, w2, w4]) (Ev.via (s_in _ _ _) ?_)
    simp only [placeB]
    cases inB (rd l i) (i * b) (i * b + b - 1) with
    | true => exact Ev.pos rfl (by simpa using hI)
    | false => exact Ev.neg (by simp) (Ev.is (by simp))
theorem s_blocks (a b c : Int) (z : S276) (hg : geoB a b c = true) : Ev (fun k => spec_l16Blocks.f k a b c z.f0 z.f1 z.f2 z.f3 z.f4 z.f5) (decide ((z.f1.length : Int) = a) && placeB b z.f1 0) := by
  obtain ⟨ga, _⟩ := geo_rng hg
  unfold spec_l16Blocks.f
  by_cases h : (z.f1.length : Int) = a
  · have := sPlace_loop a b c z.f0 z.f2 z.f3 z.f1 z.f4 z.f5 hg h a.toNat 0 (by omega) (by omega)
    exact Ev.pos h (by simpa [h] using this)
  · exact Ev.neg h (Ev.is (by simp [h]))
theorem iPlace_loop (a b c e f g : Int) (q : Bool) (m : List S218) (zs : List S276) (l : List Int) (hg : geoB a b c = true) (hl : (l.length : Int) = a) : ∀ (d : Nat) (i : Int), 0 ≤ i → i + d = a → Ev (fun k => impl_Device_placesOk.l0 k l (l.length : Int) i a b c m e f q g zs) (placeB b (l.drop i.toNat) (i * b)) := by
  obtain ⟨ga, gb, gb2, gc⟩ := geo_rng hg
  intro d
  induction d with
  | zero =>
    intro i h0 hd
    rw [List.drop_of_length_le (by omega)]
    exact Ev.step (fun k => by rw [impl_Device_placesOk.l0, if_neg (by omega)]; rfl) (Ev.now _)
  | succ d ih =>
    intro i h0 hd
    obtain ⟨w1, w2, w3, w4, w5⟩ := wr_place gb gb2 h0 (show i < 3 by omega)
    have hI := ih (i + 1) (by omega) (by omega)
    rw [drop_rdI l h0 (by omega)]
    rw [w5] at hI
    refine Ev.step (fun k => by rw [impl_Device_placesOk.l0, if_pos (by omega), if_pos h0, if_pos (by omega), w3, w1, w4]) (Ev.via (i_in _ _ _) ?_)
    simp only [placeB]
    cases inB (rd l i) (i * b) (i * b + b - 1) with
    | true => exact Ev.pos rfl (by simpa using hI)
    | false => exact Ev.neg (by simp) (Ev.is (by simp))
theorem i_places (a b c e f g : Int) (q : Bool) (m : List S218) (zs : List S276) (z : S276) (hg : geoB a b c = true) : Ev (fun k => impl_Device_placesOk.f k a b c m e f q g zs z.f0 z.f1 z.f2 z.f3 z.f4 z.f5) (decide ((z.f1.length : Int) = a) && placeB b z.f1 0) := by
  obtain ⟨ga, _⟩ := geo_rng hg
  unfold impl_Device_placesOk.f
  by_cases h : (z.f1.length : Int) = a
  · have := iPlace_loop a b c e f g q m zs z.f1 hg h a.toNat 0 (by omega) (by omega)
    exact Ev.pos h (by simpa [h] using this)
  · exact Ev.neg h (Ev.is (by simp [h]))
theorem place_mem (b : Int) (hb : 0 ≤ b) : ∀ (l : List Int) (lo : Int), 0 ≤ lo → placeB b l lo = true → ∀ x ∈ l, lo ≤ x ∧ x < lo + l.length * b
  | [], _, _, _, x, hx => by cases hx
  | y :: ys, lo, h0, h, x, hx => by
    simp only [placeB, Bool.and_eq_true, inB_iff] at h
    have e : (((y :: ys).length : Nat) : Int) * b = ys.length * b + b := by rw [List.length_cons, Int.natCast_add, Int.add_mul]; simp
    have p : 0 ≤ (ys.length : Int) * b := Int.mul_nonneg (by omega) hb
    rcases List.mem_cons.1 hx with rfl | hx
    · omega
    · have := place_mem b hb ys (lo + b) (by omega) h.2 x hx
      omega
def sumB : List Int → Int → Int
  | [], s => s
  | x :: xs, s => sumB xs (wrap64 (s + x))
theorem sumB_bd : ∀ (l : List Int) (s : Int), (∀ x ∈ l, 1 ≤ x ∧ x ≤ 2) → 0 ≤ s → s + 2 * l.length ≤ 1000000 → s + l.length ≤ sumB l s ∧ sumB l s ≤ s + 2 * l.length
  | [], s, _, _, _ => by simp [sumB]
  | x :: xs, s, h, h0, h1 => by
    have hx := h x List.mem_cons_self
    simp only [List.length_cons] at h1 ⊢
    have hw : wrap64 (s + x) = s + x := wrap_id (by omega) (by omega)
    have := sumB_bd xs (s + x) (fun y hy => h y (List.mem_cons_of_mem _ hy)) (by omega) (by omega)
    simp only [sumB, hw]
    omega
def rowB (u : Int) (x : Int) : Bool := inB x 1 u
def bufB (s : ByteArray) : Bool := decide (s.size ≤ 64)
def tailB (z : S276) : Bool := decide (z.f3 = sumB z.f4 0) && decide (z.f2 = wrap64 (z.f3 + (z.f5.length : Int)))
def cntB (a c : Int) (z : S276) : Bool := decide ((z.f4.length : Int) ≤ c) && decide ((z.f5.length : Int) < wrap64 (a - 1)) && z.f4.all (rowB (wrap64 (a - 1))) && (z.f5.all bufB && tailB z)
theorem sSum_loop (l : List Int) (hl : l.length ≤ 140737488351232) : ∀ (d : Nat) (s i : Int), 0 ≤ i → i + d = l.length → Ev (fun k => spec_l16Sum.l0 k l s i) (sumB (l.drop i.toNat) s) := by
  intro d
  induction d with
  | zero =>
    intro s i h0 hd
    rw [List.drop_of_length_le (by omega)]
    exact Ev.step (fun k => by rw [spec_l16Sum.l0, if_neg (by omega)]; rfl) (Ev.now _)
  | succ d ih =>
    intro s i h0 hd
    have hw2 : wrap64 (i + 1) = i + 1 := wrap_id (by omega) (by omega)
    rw [drop_rdI l h0 (by omega)]
    exact Ev.step (fun k => by rw [spec_l16Sum.l0, if_pos (by omega), if_pos h0, hw2]) (ih _ (i + 1) (by omega) (by omega))
theorem iSum_loop (l : List Int) (hl : l.length ≤ 140737488351232) : ∀ (d : Nat) (s i : Int), 0 ≤ i → i + d = l.length → Ev (fun k => impl_total.l0 k s l (l.length : Int) i) (sumB (l.drop i.toNat) s) := by
  intro d
  induction d with
  | zero =>
    intro s i h0 hd
    rw [List.drop_of_length_le (by omega)]
    exact Ev.step (fun k => by rw [impl_total.l0, if_neg (by omega)]; rfl) (Ev.now _)
  | succ d ih =>
    intro s i h0 hd
    have hw2 : wrap64 (i + 1) = i + 1 := wrap_id (by omega) (by omega)
    rw [drop_rdI l h0 (by omega)]
    exact Ev.step (fun k => by rw [impl_total.l0, if_pos (by omega), if_pos h0, if_pos (by omega), hw2]) (ih _ (i + 1) (by omega) (by omega))
theorem s_sum (l : List Int) (hl : l.length ≤ 140737488351232) : Ev (fun k => spec_l16Sum.f k l) (sumB l 0) := by
  have h := sSum_loop l hl l.length 0 0 (by omega) (by omega)
  exact h
theorem i_sum (l : List Int) (hl : l.length ≤ 140737488351232) : Ev (fun k => impl_total.f k l) (sumB l 0) := by
  have h := iSum_loop l hl l.length 0 0 (by omega) (by omega)
  exact h
theorem sBuf_loop (z : S276) (h : sizedZ z) : ∀ (d : Nat) (i : Int), 0 ≤ i → i + d = z.f5.length → Ev (fun k => spec_l16Counts.l1 k i z.f0 z.f1 z.f2 z.f3 z.f4 z.f5) ((z.f5.drop i.toNat).all bufB && tailB z) := by
  intro d
  have hl := h.2.2
  induction d with
  | zero =>
    intro i h0 hd
    rw [List.drop_of_length_le (by omega)]
    refine Ev.step (fun k => by rw [spec_l16Counts.l1, if_neg (by omega)]) (Ev.bind (s_sum z.f4 h.2.1) ?_)
    simp only [List.all_nil, Bool.true_and, tailB]
    by_cases c : z.f3 = sumB z.f4 0
    · exact Ev.pos c (Ev.is (by rw [decide_eq_true c, Bool.true_and]; rfl))
    · exact Ev.neg c (Ev.is (by simp [c]))
  | succ d ih =>
    intro i h0 hd
    have hw2 : wrap64 (i + 1) = i + 1 := wrap_id (by omega) (by omega)
    have hI := ih (i + 1) (by omega) (by omega)
    rw [drop_rdB z.f5 h0 (by omega), List.all_cons]
    refine Ev.step (fun k => by rw [spec_l16Counts.l1, if_pos (by omega), if_pos h0]) ?_
    by_cases c : ((rdOf ByteArray.empty z.f5 i).size : Int) > 64
    · have e : bufB (rdOf ByteArray.empty z.f5 i) = false := by simp [bufB]; omega
      rw [e]
      exact Ev.pos c (Ev.is (by simp))
    · have e : bufB (rdOf ByteArray.empty z.f5 i) = true := by simp [bufB]; omega
      rw [e, hw2]
      exact Ev.neg c (by simpa using hI)
theorem sRow_loop (a b c : Int) (z : S276) (h : sizedZ z) : ∀ (d : Nat) (i : Int), 0 ≤ i → i + d = z.f4.length → Ev (fun k => spec_l16Counts.l0 k i a b c z.f0 z.f1 z.f2 z.f3 z.f4 z.f5) ((z.f4.drop i.toNat).all (rowB (wrap64 (a - 1))) && (z.f5.all bufB && tailB z)) := by
  intro d
  have hl := h.2.1
  induction d with
  | zero =>
    intro i h0 hd
    rw [List.drop_of_length_le (by omega)]
    exact Ev.step (fun k => by rw [spec_l16Counts.l0, if_neg (by omega)]) (by simpa using sBuf_loop z h z.f5.length 0 (by omega) (by omega))
  | succ d ih =>
    intro i h0 hd
    have hw2 : wrap64 (i + 1) = i + 1 := wrap_id (by omega) (by omega)
    have hI := ih (i + 1) (by omega) (by omega)
    rw [drop_rdI z.f4 h0 (by omega), List.all_cons]
    refine Ev.step (fun k => by rw [spec_l16Counts.l0, if_pos (by omega), if_pos h0, hw2]) (Ev.via (s_in _ _ _) ?_)
    show Ev _ ((inB (rd z.f4 i) 1 (wrap64 (a - 1)) && _) && _)
    cases inB (rd z.f4 i) 1 (wrap64 (a - 1)) with
    | true => exact Ev.pos rfl (by simpa using hI)
    | false => exact Ev.neg (by simp) (Ev.is (by simp))
theorem s_counts (a b c : Int) (z : S276) (h : sizedZ z) : Ev (fun k => spec_l16Counts.f k a b c z.f0 z.f1 z.f2 z.f3 z.f4 z.f5) (cntB a c z) := by
  have st : ∀ y : Bool, Ev (fun k => spec_l16Counts.j0 k y a b c z.f0 z.f1 z.f2 z.f3 z.f4 z.f5) (!y && (z.f4.all (rowB (wrap64 (a - 1))) && (z.f5.all bufB && tailB z))) := by
    intro y
    cases y with
    | true => exact Ev.step (fun k => by rw [spec_l16Counts.j0]) (Ev.pos rfl (Ev.is (by simp)))
    | false => exact Ev.step (fun k => by rw [spec_l16Counts.j0, if_neg (by simp)]) (by simpa using sRow_loop a b c z h z.f4.length 0 (by omega) (by omega))
  unfold spec_l16Counts.f cntB
  by_cases c1 : (z.f4.length : Int) > c
  · have c2 : ¬ (z.f4.length : Int) ≤ c := by omega
    exact Ev.pos c1 (by simpa [c2] using st true)
  · have c2 : (z.f4.length : Int) ≤ c := by omega
    refine Ev.neg c1 ?_
    have h2 := st (decide ((z.f5.length : Int) ≥ wrap64 (a - 1)))
    by_cases c3 : (z.f5.length : Int) ≥ wrap64 (a - 1)
    · have c4 : ¬ (z.f5.length : Int) < wrap64 (a - 1) := by omega
      simpa [c2, c3, c4] using h2
    · have c4 : (z.f5.length : Int) < wrap64 (a - 1) := by omega
      have c5 : decide ((z.f5.length : Int) ≥ wrap64 (a - 1)) = false := decide_eq_false c3
      rw [c5] at h2 ⊢
      simpa [c2, c4] using h2
theorem anyO_pure {α : Type} (p : α → Option Bool) (q : α → Bool) : ∀ (l : List α), (∀ x ∈ l, p x = some (q x)) → anyO p l = some (l.any q)
  | [], _ => rfl
  | x :: xs, h => by
    rw [anyO, h x List.mem_cons_self, Option.bind_some, anyO_pure p q xs (fun y hy => h y (List.mem_cons_of_mem _ hy)), List.any_cons]
    cases q x <;> simp
theorem i_counts (a b c e f g : Int) (q : Bool) (m : List S218) (zs : List S276) (z : S276) (h : sizedZ z) : Ev (fun k => impl_Device_contentsOk.f k a b c m e f q g zs z.f0 z.f1 z.f2 z.f3 z.f4 z.f5) (cntB a c z) := by
  have hbuf : hof_308_309.f z.f5 = some (!z.f5.all bufB) := by
    show anyO hof_308_309.p z.f5 = _
    rw [anyO_pure hof_308_309.p (fun s => !bufB s) z.f5 ?_, List.not_all_eq_any_not]
    intro s _
    show some (decide (64 < (s.size : Int))) = some (!decide (s.size ≤ 64))
    by_cases c : s.size ≤ 64
    · rw [decide_eq_true c, decide_eq_false (show ¬ 64 < (s.size : Int) by omega)]; rfl
    · rw [decide_eq_false c, decide_eq_true (show 64 < (s.size : Int) by omega)]; rfl
  have hrow : impl_allWithin.f z.f4 1 (wrap64 (a - 1)) = some (z.f4.all (rowB (wrap64 (a - 1)))) := by
    unfold impl_allWithin.f
    have : hof_274_275.f z.f4 1 (wrap64 (a - 1)) = some (!z.f4.all (rowB (wrap64 (a - 1)))) := by
      show anyO (hof_274_275.p 1 (wrap64 (a - 1))) z.f4 = _
      rw [anyO_pure _ (fun s => !rowB (wrap64 (a - 1)) s) _ (fun s _ => by simp [hof_274_275.p, rowB, i_in]), List.not_all_eq_any_not]
    rw [this]
    simp
  have st : ∀ y : Bool, Ev (fun k => impl_Device_contentsOk.j0 k y z.f0 z.f1 z.f2 z.f3 z.f4 z.f5) (!y && (z.f5.all bufB && tailB z)) := by
    intro y
    cases y with
    | true => exact Ev.step (fun k => by rw [impl_Device_contentsOk.j0]) (Ev.pos rfl (Ev.is (by simp)))
    | false =>
      refine Ev.step (fun k => by rw [impl_Device_contentsOk.j0, if_neg (by simp)]) (Ev.bind (i_sum z.f4 h.2.1) ?_)
      simp only [tailB, Bool.not_false, Bool.true_and]
      by_cases c1 : z.f3 = sumB z.f4 0
      · refine Ev.pos c1 ?_
        by_cases c2 : z.f2 = wrap64 (z.f3 + (z.f5.length : Int))
        · refine Ev.pos c2 (Ev.via hbuf (Ev.is ?_))
          rw [← c1, ← c2]; simp
        · exact Ev.neg c2 (Ev.is (by simp [c2]))
      · exact Ev.neg c1 (Ev.is (by simp [c1]))
  unfold impl_Device_contentsOk.f cntB
  by_cases c1 : (z.f4.length : Int) > c
  · have c2 : ¬ (z.f4.length : Int) ≤ c := by omega
    exact Ev.pos c1 (by simpa [c2] using st true)
  · have c2 : (z.f4.length : Int) ≤ c := by omega
    refine Ev.neg c1 (Ev.via (show impl_Device_units.f a b c m e f q g zs = some (wrap64 (a - 1)) from rfl) (Ev.via hrow ?_))
    cases c6 : z.f4.all (rowB (wrap64 (a - 1))) with
    | false => exact Ev.neg (by simp) (by simpa using st true)
    | true =>
      refine Ev.pos rfl (Ev.via (show impl_Device_units.f a b c m e f q g zs = some (wrap64 (a - 1)) from rfl) ?_)
      have h2 := st (decide ((z.f5.length : Int) ≥ wrap64 (a - 1)))
      by_cases c3 : (z.f5.length : Int) ≥ wrap64 (a - 1)
      · have c4 : ¬ (z.f5.length : Int) < wrap64 (a - 1) := by omega
        simpa [c2, c3, c4] using h2
      · have c4 : (z.f5.length : Int) < wrap64 (a - 1) := by omega
        have c5 : decide ((z.f5.length : Int) ≥ wrap64 (a - 1)) = false := decide_eq_false c3
        rw [c5] at h2 ⊢
        simpa [c2, c4] using h2

/-! states -/
def readyB (l : List S218) (n : Int) (x : Int) : Bool := (rd_T218 l x).f1 == n
def empB (z : S276) : Bool := decide (z.f4.length = 0) && decide (z.f5.length = 0)
def stB (c : Int) (l : List S218) (z : S276) : Bool :=
  if z.f0 = 3 then decide (z.f5.length = 0) else if z.f0 = 4 then empB z else if z.f0 = 1 then empB z && z.f1.all (readyB l z.f4.length) else if z.f0 = 2 then !empB z && decide ((z.f4.length : Int) < c) && z.f1.all (readyB l z.f4.length) else false
theorem sReady_loop (a b c e f g : Int) (q : Bool) (l : List S218) (z : S276) (h : sizedZ z) (hb : ∀ x ∈ z.f1, 0 ≤ x ∧ x < (l.length : Int)) (n : Int) : ∀ (d : Nat) (i : Int), 0 ≤ i → i + d = z.f1.length → Ev (fun k => spec_l16State.l0 k n i a b c l e f q g z.f0 z.f1 z.f2 z.f3 z.f4 z.f5) ((z.f1.drop i.toNat).all (readyB l n)) := by
  intro d
  have hl := h.1
  induction d with
  | zero =>
    intro i h0 hd
    rw [List.drop_of_length_le (by omega)]
    exact Ev.step (fun k => by rw [spec_l16State.l0, if_neg (by omega)]; rfl) (Ev.now _)
  | succ d ih =>
    intro i h0 hd
    have hw2 : wrap64 (i + 1) = i + 1 := wrap_id (by omega) (by omega)
    have hI := ih (i + 1) (by omega) (by omega)
    obtain ⟨hx, hy⟩ := hb _ (rdI_mem h0 (show i < (z.f1.length : Int) by omega))
    rw [drop_rdI z.f1 h0 (by omega), List.all_cons]
    refine Ev.step (fun k => by rw [spec_l16State.l0, if_pos (by omega), if_pos h0, if_pos hx, if_pos hy, hw2]) ?_
    by_cases e1 : (rd_T218 l (rd z.f1 i)).f1 = n
    · refine Ev.pos e1 ?_
      rw [show readyB l n (rd z.f1 i) = true from by simp [readyB, e1], Bool.true_and]
      exact hI
    · refine Ev.neg e1 (Ev.is ?_)
      rw [show readyB l n (rd z.f1 i) = false from by simp [readyB, e1], Bool.false_and]
theorem s_state (a b c e f g : Int) (q : Bool) (l : List S218) (z : S276) (h : sizedZ z) (hb : ∀ x ∈ z.f1, 0 ≤ x ∧ x < (l.length : Int)) : Ev (fun k => spec_l16State.f k a b c l e f q g z.f0 z.f1 z.f2 z.f3 z.f4 z.f5) (stB c l z) := by
  have st : Ev (fun k => spec_l16State.j0 k (z.f4.length : Int) a b c l e f q g z.f0 z.f1 z.f2 z.f3 z.f4 z.f5) (z.f1.all (readyB l z.f4.length)) :=
    Ev.step (fun k => by rw [spec_l16State.j0]) (by have t := sReady_loop a b c e f g q l z h hb z.f4.length z.f1.length 0 (by omega) (by omega); exact t)
  unfold spec_l16State.f stB
  by_cases c3 : z.f0 = 3
  · refine Ev.pos c3 (Ev.is ?_)
    rw [if_pos c3]
    by_cases y : z.f5.length = 0 <;> simp [y]
  · rw [if_neg c3]
    refine Ev.neg c3 ?_
    by_cases c4 : z.f0 = 4
    · rw [if_pos c4]
      refine Ev.pos c4 ?_
      by_cases x : (z.f4.length : Int) = 0
      · have x2 : z.f4.length = 0 := by omega
        refine Ev.pos x (Ev.is ?_)
        by_cases y : z.f5.length = 0 <;> simp [empB, x2, y]
      · have x2 : ¬ z.f4.length = 0 := by omega
        exact Ev.neg x (Ev.is (by simp only [empB, decide_eq_false x2, Bool.false_and]))
    · rw [if_neg c4]
      refine Ev.neg c4 ?_
      by_cases c1 : z.f0 = 1
      · rw [if_pos c1]
        refine Ev.pos c1 ?_
        by_cases x : (z.f4.length : Int) > 0
        · have x2 : ¬ z.f4.length = 0 := by omega
          exact Ev.pos x (Ev.is (by simp only [empB, decide_eq_false x2, Bool.false_and]))
        · refine Ev.neg x ?_
          have x2 : z.f4.length = 0 := by omega
          by_cases y : (z.f5.length : Int) > 0
          · have y2 : ¬ z.f5.length = 0 := by omega
            exact Ev.pos y (Ev.is (by simp only [empB, decide_eq_false y2, Bool.and_false, Bool.false_and]))
          · have y2 : z.f5.length = 0 := by omega
            refine Ev.neg y ?_
            have e1 : empB z = true := by simp only [empB, decide_eq_true x2, decide_eq_true y2, Bool.and_self]
            rw [e1, Bool.true_and]
            exact st
      · rw [if_neg c1]
        refine Ev.neg c1 ?_
        by_cases c2 : z.f0 = 2
        · rw [if_pos c2]
          refine Ev.pos c2 ?_
          have last : empB z = false → Ev (fun k => if (z.f4.length : Int) ≥ c then some false else spec_l16State.j0 k (z.f4.length : Int) a b c l e f q g z.f0 z.f1 z.f2 z.f3 z.f4 z.f5) (!empB z && decide ((z.f4.length : Int) < c) && z.f1.all (readyB l z.f4.length)) := by
            intro e1
            rw [e1]
            by_cases w : (z.f4.length : Int) ≥ c
            · exact Ev.pos w (Ev.is (by rw [decide_eq_false (show ¬ (z.f4.length : Int) < c by omega)]; simp))
            · refine Ev.neg w ?_
              rw [decide_eq_true (show (z.f4.length : Int) < c by omega)]
              simpa using st
          by_cases x : (z.f4.length : Int) = 0
          · have x2 : z.f4.length = 0 := by omega
            refine Ev.pos x ?_
            by_cases y : (z.f5.length : Int) = 0
            · have y2 : z.f5.length = 0 := by omega
              have e1 : empB z = true := by simp only [empB, decide_eq_true x2, decide_eq_true y2, Bool.and_self]
              exact Ev.pos y (Ev.is (by rw [e1]; simp))
            · have y2 : ¬ z.f5.length = 0 := by omega
              exact Ev.neg y (last (by simp only [empB, decide_eq_false y2, Bool.and_false]))
          · have x2 : ¬ z.f4.length = 0 := by omega
            exact Ev.neg x (last (by simp only [empB, decide_eq_false x2, Bool.false_and]))
        · rw [if_neg c2]
          exact Ev.neg c2 (Ev.is rfl)
theorem cnt_written {a b c : Int} {z : S276} (hg : geoB a b c = true) (h : cntB a c z = true) : (z.f2 = 0 ↔ empB z = true) ∧ (z.f2 > 0 ↔ empB z = false) := by
  obtain ⟨ga, gb, gb2, gc⟩ := geo_rng hg
  have hw : wrap64 (a - 1) = a - 1 := wrap_id (by omega) (by omega)
  simp only [cntB, hw, Bool.and_eq_true, decide_eq_true_eq, List.all_eq_true, tailB, rowB, inB_iff] at h
  obtain ⟨⟨⟨h1, h2⟩, h3⟩, h4, h5, h6⟩ := h
  have hs := sumB_bd z.f4 0 (fun x hx => by have := h3 x hx; omega) (by omega) (by omega)
  rw [← h5] at hs
  have hw2 : wrap64 (z.f3 + (z.f5.length : Int)) = z.f3 + (z.f5.length : Int) := wrap_id (by omega) (by omega)
  rw [hw2] at h6
  have e1 : empB z = true ↔ z.f4.length = 0 ∧ z.f5.length = 0 := by simp only [empB, Bool.and_eq_true, decide_eq_true_eq]
  have e2 : empB z = false ↔ ¬ (z.f4.length = 0 ∧ z.f5.length = 0) := by rw [← e1]; simp
  rw [e1, e2]
  omega
theorem i_ready (a b c e f g : Int) (q : Bool) (l : List S218) (zs : List S276) (z : S276) (hb : ∀ x ∈ z.f1, 0 ≤ x ∧ x < (l.length : Int)) : impl_Device_ready.f a b c l e f q g zs z.f0 z.f1 z.f2 z.f3 z.f4 z.f5 = some (z.f1.all (readyB l z.f4.length)) := by
  have h : hof_274_320.f z.f1 a b c l e f q g zs z.f0 z.f1 z.f2 z.f3 z.f4 z.f5 = some (!z.f1.all (readyB l z.f4.length)) := by
    show anyO (hof_274_320.p l z.f4) z.f1 = _
    rw [anyO_pure (hof_274_320.p l z.f4) (fun x => !readyB l z.f4.length x) z.f1 ?_, List.not_all_eq_any_not]
    intro x hx
    obtain ⟨h0, h1⟩ := hb x hx
    simp only [hof_274_320.p, if_pos h0, if_pos h1, readyB]
    rfl
  unfold impl_Device_ready.f
  rw [h]
  simp
theorem i_state (a b c e f g : Int) (q : Bool) (l : List S218) (zs : List S276) (z : S276) (hb : ∀ x ∈ z.f1, 0 ≤ x ∧ x < (l.length : Int)) (hz : (z.f2 = 0 ↔ empB z = true) ∧ (z.f2 > 0 ↔ empB z = false)) : impl_Device_stateOk.f a b c l e f q g zs z.f0 z.f1 z.f2 z.f3 z.f4 z.f5 = some (stB c l z) := by
  unfold impl_Device_stateOk.f stB
  rw [i_ready a b c e f g q l zs z hb]
  by_cases c1 : z.f0 = 1
  · rw [if_pos c1, if_neg (show ¬ z.f0 = 3 by omega), if_neg (show ¬ z.f0 = 4 by omega), if_pos c1]
    cases e1 : empB z with
    | true => rw [if_pos (hz.1.2 e1)]; simp
    | false => rw [if_neg (fun h => by have := hz.1.1 h; simp [e1] at this)]; simp
  · rw [if_neg c1]
    by_cases c2 : z.f0 = 2
    · rw [if_pos c2, if_neg (show ¬ z.f0 = 3 by omega), if_neg (show ¬ z.f0 = 4 by omega), if_neg c1, if_pos c2]
      cases e1 : empB z with
      | true => rw [if_neg (fun h => by have := hz.2.1 h; simp [e1] at this)]; simp
      | false =>
        rw [if_pos (hz.2.2 e1)]
        by_cases w : (z.f4.length : Int) < c
        · rw [if_pos w]; simp [w]
        · rw [if_neg w]; simp [w]
    · rw [if_neg c2]
      by_cases c3 : z.f0 = 3
      · rw [if_pos c3, if_pos c3]
        by_cases y : z.f5.length = 0 <;> simp [y]
      · rw [if_neg c3, if_neg c3]
        by_cases c4 : z.f0 = 4
        · rw [if_pos c4, if_pos c4]
          cases e1 : empB z with
          | true => rw [hz.1.2 e1]; rfl
          | false =>
            have : ¬ z.f2 = 0 := fun h => by have := hz.1.1 h; simp [e1] at this
            simp [this]
        · rw [if_neg c4, if_neg c4, if_neg c1, if_neg c2]

/-! which blocks are used -/
def addB : List Int → List Int → Option (List Int)
  | [], u => some u
  | x :: xs, u => if x ∈ u then none else addB xs (u ++ [x])
def zoneB (a b c : Int) (l : List S218) (z : S276) : Bool := (decide ((z.f1.length : Int) = a) && placeB b z.f1 0) && cntB a c z && stB c l z
def zonesB (a b c : Int) (l : List S218) : List S276 → List Int → Bool
  | [], _ => true
  | z :: zs, u => zoneB a b c l z && match addB z.f1 u with
    | none => false
    | some u' => zonesB a b c l zs u'
structure Us (u : List Int) : Prop where
  rng : ∀ x ∈ u, 0 ≤ x ∧ x < 1000
  nd : u.Nodup
theorem Us.add {u : List Int} {x : Int} (h : Us u) (h0 : 0 ≤ x) (h1 : x < 1000) (hn : ¬ x ∈ u) : Us (u ++ [x]) := by
  refine ⟨?_, ?_⟩
  · intro y hy
    rcases List.mem_append.1 hy with hy | hy
    · exact h.rng y hy
    · rw [List.mem_singleton] at hy; omega
  · rw [List.nodup_append]
    refine ⟨h.nd, by simp, ?_⟩
    intro y hy z hz
    rw [List.mem_singleton] at hz
    subst hz
    rintro rfl
    exact hn hy
theorem add_us : ∀ (bs u u' : List Int), Us u → (∀ x ∈ bs, 0 ≤ x ∧ x < 1000) → addB bs u = some u' → Us u' ∧ u'.length = u.length + bs.length
  | [], u, u', h, _, e => by simp only [addB, Option.some.injEq] at e; subst e; exact ⟨h, by simp⟩
  | x :: xs, u, u', h, hb, e => by
    by_cases c : x ∈ u
    · simp [addB, c] at e
    · simp only [addB, if_neg c] at e
      have hx := hb x List.mem_cons_self
      have := add_us xs (u ++ [x]) u' (h.add hx.1 hx.2 c) (fun y hy => hb y (List.mem_cons_of_mem _ hy)) e
      refine ⟨this.1, ?_⟩
      rw [this.2]
      simp only [List.length_append, List.length_cons, List.length_nil]
      omega
theorem wf_small {x : Int} (h0 : 0 ≤ x) (h1 : x < 1000) : (Lit.int .i64 x).wf = true := by
  have e1 : IntKind.i64.min = -9223372036854775808 := by decide
  have e2 : IntKind.i64.max = 9223372036854775807 := by decide
  simp only [Lit.wf, e1, e2, Bool.and_eq_true, decide_eq_true_eq]
  omega
theorem look_ok {u : List Int} {x : Int} (h : Us u) (hl : u.length ≤ 1000000) (h0 : 0 ≤ x) (h1 : x < 1000) : lookOk x u.reverse = true := by
  have hm : u.length < maxLen := by have : maxLen = 9223372036854775807 := by decide
                                    omega
  refine decide_eq_true ⟨wf_small h0 h1, fun y hy => ?_, by unfold List.Nodup; rw [List.pairwise_reverse]; exact h.nd.imp (fun e => Ne.symm e), by simpa using hm⟩
  have := h.rng y (List.mem_reverse.1 hy)
  exact wf_small this.1 this.2
theorem in_rev (x : Int) (u : List Int) : inSet x u.reverse = decide (x ∈ u) := by simp [inSet]
theorem add_ok {u : List Int} {x : Int} (h : Us u) (hl : u.length ≤ 1000000) (h0 : 0 ≤ x) (h1 : x < 1000) (hn : ¬ x ∈ u) : addOk x u.reverse = true :=
  decide_eq_true ⟨of_decide_eq_true (look_ok h hl h0 h1), by simpa using hn⟩
theorem sHas_loop (u : List Int) (hu : u.length ≤ 1000000) (x : Int) : ∀ (d : Nat) (i : Int), 0 ≤ i → i + d = u.length → Ev (fun k => spec_l00Has.l0 k u x i) (decide (x ∈ u.drop i.toNat)) := by
  intro d
  induction d with
  | zero =>
    intro i h0 hd
    rw [List.drop_of_length_le (by omega)]
    exact Ev.step (fun k => by rw [spec_l00Has.l0, if_neg (by omega)]) (Ev.is (by simp))
  | succ d ih =>
    intro i h0 hd
    have hw2 : wrap64 (i + 1) = i + 1 := wrap_id (by omega) (by omega)
    have hI := ih (i + 1) (by omega) (by omega)
    rw [drop_rdI u h0 (by omega)]
    refine Ev.step (fun k => by rw [spec_l00Has.l0, if_pos (by omega), if_pos h0, hw2]) ?_
    by_cases e : rd u i = x
    · exact Ev.pos e (Ev.is (by simp [e]))
    · refine Ev.neg e ?_
      have e2 : ¬ x = rd u i := fun h => e h.symm
      simpa [e2] using hI
theorem s_has (u : List Int) (hu : u.length ≤ 1000000) (x : Int) : Ev (fun k => spec_l00Has.f k u x) (decide (x ∈ u)) := by
  have h := sHas_loop u hu x u.length 0 (by omega) (by omega)
  exact h
theorem sAdd_loop (a b c e f g : Int) (q : Bool) (m : List S218) (zs : List S276) (z : S276) (hz : z.f1.length ≤ 1000) (i : Int) (r : Bool) (hb : ∀ x ∈ z.f1, 0 ≤ x ∧ x < 1000) : ∀ (d : Nat) (j : Int) (u : List Int), 0 ≤ j → j + d = z.f1.length → Us u → u.length + d ≤ 900000 →
    (∀ u', addB (z.f1.drop j.toNat) u = some u' → Ev (fun k => spec_ValidDevice.l0 k u' (wrap64 (i + 1)) a b c m e f q g zs) r) → (addB (z.f1.drop j.toNat) u = none → r = false) →
    Ev (fun k => spec_ValidDevice.l1 k u i j a b c m e f q g zs z.f0 z.f1 z.f2 z.f3 z.f4 z.f5) r := by
  intro d
  induction d with
  | zero =>
    intro j u h0 hd hu hl h1 h2
    rw [List.drop_of_length_le (by omega)] at h1
    exact Ev.step (fun k => by rw [spec_ValidDevice.l1, if_neg (by omega)]) (h1 u rfl)
  | succ d ih =>
    intro j u h0 hd hu hl h1 h2
    have hw2 : wrap64 (j + 1) = j + 1 := wrap_id (by omega) (by omega)
    obtain ⟨hx, hy⟩ := hb _ (rdI_mem h0 (show j < (z.f1.length : Int) by omega))
    rw [drop_rdI z.f1 h0 (by omega)] at h1 h2
    refine Ev.step (fun k => by rw [spec_ValidDevice.l1, if_pos (by omega), if_pos h0, hw2]) (Ev.bind (s_has u (by omega) (rd z.f1 j)) ?_)
    by_cases c1 : rd z.f1 j ∈ u
    · refine Ev.pos (decide_eq_true c1) (Ev.is ?_)
      rw [h2 (by simp [addB, c1])]
    · refine Ev.neg (by simpa using c1) (Ev.pos (by omega) ?_)
      refine ih (j + 1) (u ++ [rd z.f1 j]) (by omega) (by omega) (hu.add hx hy c1) (by simp only [List.length_append, List.length_cons, List.length_nil]; omega) ?_ ?_
      · intro u' hu'; exact h1 u' (by simp only [addB, if_neg c1]; exact hu')
      · intro hn; exact h2 (by simp only [addB, if_neg c1]; exact hn)
theorem iAdd_loop (a b c e f g : Int) (q : Bool) (m : List S218) (ys zs : List S276) (y : Int) (bs : List Int) (hz : bs.length ≤ 1000) (i : Int) (r : Bool) (hb : ∀ x ∈ bs, 0 ≤ x ∧ x < 1000) : ∀ (d : Nat) (j : Int) (u : List Int), 0 ≤ j → j + d = bs.length → Us u → u.length + d ≤ 900000 →
    (∀ u', addB (bs.drop j.toNat) u = some u' → Ev (fun k => impl_ValidDevice.l0 k ys y (wrap64 (i + 1)) a b c m e f q g zs u'.reverse) r) → (addB (bs.drop j.toNat) u = none → r = false) →
    Ev (fun k => impl_ValidDevice.l1 k ys y i bs (bs.length : Int) j a b c m e f q g zs u.reverse) r := by
  intro d
  induction d with
  | zero =>
    intro j u h0 hd hu hl h1 h2
    rw [List.drop_of_length_le (by omega)] at h1
    exact Ev.step (fun k => by rw [impl_ValidDevice.l1, if_neg (by omega)]) (h1 u rfl)
  | succ d ih =>
    intro j u h0 hd hu hl h1 h2
    have hw2 : wrap64 (j + 1) = j + 1 := wrap_id (by omega) (by omega)
    obtain ⟨hx, hy⟩ := hb _ (rdI_mem h0 (show j < (bs.length : Int) by omega))
    rw [drop_rdI bs h0 (by omega)] at h1 h2
    refine Ev.step (fun k => by rw [impl_ValidDevice.l1, if_pos (by omega), if_pos h0, if_pos (by omega), if_pos (look_ok hu (by omega) hx hy), hw2]) ?_
    by_cases c1 : rd bs j ∈ u
    · refine Ev.pos (by rw [in_rev]; exact decide_eq_true c1) (Ev.is ?_)
      rw [h2 (by simp [addB, c1])]
    · refine Ev.neg (by rw [in_rev]; simpa using c1) (Ev.pos (add_ok hu (by omega) hx hy c1) ?_)
      have t := ih (j + 1) (u ++ [rd bs j]) (by omega) (by omega) (hu.add hx hy c1) (by simp only [List.length_append, List.length_cons, List.length_nil]; omega) ?_ ?_
      · simpa using t
      · intro u' hu'; exact h1 u' (by simp only [addB, if_neg c1]; exact hu')
      · intro hn; exact h2 (by simp only [addB, if_neg c1]; exact hn)
theorem place_rng {a b c : Int} {z : S276} (hg : geoB a b c = true) (h : (decide ((z.f1.length : Int) = a) && placeB b z.f1 0) = true) : ∀ x ∈ z.f1, 0 ≤ x ∧ x < a * b := by
  obtain ⟨ga, gb, gb2, gc⟩ := geo_rng hg
  simp only [Bool.and_eq_true, decide_eq_true_eq] at h
  intro x hx
  have := place_mem b (by omega) z.f1 0 (by omega) h.2 x hx
  rw [h.1] at this
  omega
theorem sZones_loop (a b c e f g : Int) (q : Bool) (m : List S218) (zs : List S276) (hg : geoB a b c = true) (hm : (m.length : Int) = a * b) (hz : zs.length ≤ 12) (hs : ∀ z ∈ zs, sizedZ z) : ∀ (d : Nat) (i : Int) (u : List Int), 0 ≤ i → i + d = zs.length → Us u → (u.length : Int) ≤ 3 * i → Ev (fun k => spec_ValidDevice.l0 k u i a b c m e f q g zs) (zonesB a b c m (zs.drop i.toNat) u) := by
  obtain ⟨ga, gb, gb2, gc⟩ := geo_rng hg
  have hab : a * b ≤ 36 := by rcases ga with rfl | rfl <;> omega
  intro d
  induction d with
  | zero =>
    intro i u h0 hd hu hl
    rw [List.drop_of_length_le (by omega)]
    exact Ev.step (fun k => by rw [spec_ValidDevice.l0, if_neg (by omega)]; rfl) (Ev.now _)
  | succ d ih =>
    intro i u h0 hd hu hl
    have hw2 : wrap64 (i + 1) = i + 1 := wrap_id (by omega) (by omega)
    have hsz := hs _ (rdT_mem276 h0 (show i < (zs.length : Int) by omega))
    have hj : ∀ r, Ev (fun k => spec_ValidDevice.j2 k u i true a b c m e f q g zs (rd_T276 zs i).f0 (rd_T276 zs i).f1 (rd_T276 zs i).f2 (rd_T276 zs i).f3 (rd_T276 zs i).f4 (rd_T276 zs i).f5) (false && r) := fun r => Ev.step (fun k => by rw [spec_ValidDevice.j2]) (Ev.pos rfl (Ev.is (by simp)))
    rw [drop_rdZ zs h0 (by omega)]
    refine Ev.step (fun k => by rw [spec_ValidDevice.l0, if_pos (by omega), if_pos h0]) (Ev.bind (s_blocks a b c (rd_T276 zs i) hg) ?_)
    simp only [zonesB, zoneB]
    cases e1 : (decide (((rd_T276 zs i).f1.length : Int) = a) && placeB b (rd_T276 zs i).f1 0) with
    | false => exact Ev.neg (by simp) (hj _)
    | true =>
      have hr := place_rng hg e1
      refine Ev.pos rfl (Ev.bind (s_counts a b c (rd_T276 zs i) hsz) ?_)
      cases e2 : cntB a c (rd_T276 zs i) with
      | false => exact Ev.neg (by simp) (hj _)
      | true =>
        refine Ev.pos rfl (Ev.bind (s_state a b c e f g q m (rd_T276 zs i) hsz (fun x hx => by rw [hm]; exact hr x hx)) ?_)
        cases e3 : stB c m (rd_T276 zs i) with
        | false => exact hj _
        | true =>
          have hln : ((rd_T276 zs i).f1.length : Int) = a := by
            simp only [Bool.and_eq_true, decide_eq_true_eq] at e1
            exact e1.1
          refine Ev.step (fun k => by rw [spec_ValidDevice.j2]) (Ev.neg (by simp) ?_)
          refine sAdd_loop a b c e f g q m zs (rd_T276 zs i) (by omega) i _ (fun x hx => by have := hr x hx; omega) (rd_T276 zs i).f1.length 0 u (by omega) (by omega) hu (by omega) ?_ ?_
          · intro u' hu'
            have t := add_us _ u u' hu (fun x hx => by have := hr x (List.mem_of_mem_drop hx); omega) hu'
            simp only [Int.toNat_zero, List.drop_zero] at hu' t
            rw [hu', hw2]
            exact ih (i + 1) u' (by omega) (by omega) t.1 (by omega)
          · intro hn
            simp only [Int.toNat_zero, List.drop_zero] at hn
            rw [hn]
            rfl
theorem iZones_loop (a b c e f g : Int) (q : Bool) (m : List S218) (zs : List S276) (hg : geoB a b c = true) (hm : (m.length : Int) = a * b) (hz : zs.length ≤ 12) (hs : ∀ z ∈ zs, sizedZ z) : ∀ (d : Nat) (i : Int) (u : List Int), 0 ≤ i → i + d = zs.length → Us u → (u.length : Int) ≤ 3 * i → Ev (fun k => impl_ValidDevice.l0 k zs (zs.length : Int) i a b c m e f q g zs u.reverse) (zonesB a b c m (zs.drop i.toNat) u) := by
  obtain ⟨ga, gb, gb2, gc⟩ := geo_rng hg
  have hab : a * b ≤ 36 := by rcases ga with rfl | rfl <;> omega
  intro d
  induction d with
  | zero =>
    intro i u h0 hd hu hl
    rw [List.drop_of_length_le (by omega)]
    exact Ev.step (fun k => by rw [impl_ValidDevice.l0, if_neg (by omega)]; rfl) (Ev.now _)
  | succ d ih =>
    intro i u h0 hd hu hl
    have hw2 : wrap64 (i + 1) = i + 1 := wrap_id (by omega) (by omega)
    have hsz := hs _ (rdT_mem276 h0 (show i < (zs.length : Int) by omega))
    have hj : ∀ r, Ev (fun k => impl_ValidDevice.j2 k zs (zs.length : Int) i true a b c m e f q g zs u.reverse (rd_T276 zs i).f0 (rd_T276 zs i).f1 (rd_T276 zs i).f2 (rd_T276 zs i).f3 (rd_T276 zs i).f4 (rd_T276 zs i).f5) (false && r) := fun r => Ev.step (fun k => by rw [impl_ValidDevice.j2]) (Ev.pos rfl (Ev.is (by simp)))
    rw [drop_rdZ zs h0 (by omega)]
    refine Ev.step (fun k => by rw [impl_ValidDevice.l0, if_pos (by omega), if_pos h0, if_pos (by omega)]) (Ev.bind (i_places a b c e f g q m zs (rd_T276 zs i) hg) ?_)
    simp only [zonesB, zoneB]
    cases e1 : (decide (((rd_T276 zs i).f1.length : Int) = a) && placeB b (rd_T276 zs i).f1 0) with
    | false => exact Ev.neg (by simp) (hj _)
    | true =>
      have hr := place_rng hg e1
      refine Ev.pos rfl (Ev.bind (i_counts a b c e f g q m zs (rd_T276 zs i) hsz) ?_)
      cases e2 : cntB a c (rd_T276 zs i) with
      | false => exact Ev.neg (by simp) (hj _)
      | true =>
        refine Ev.pos rfl (Ev.via (i_state a b c e f g q m zs (rd_T276 zs i) (fun x hx => by rw [hm]; exact hr x hx) (cnt_written hg e2)) ?_)
        cases e3 : stB c m (rd_T276 zs i) with
        | false => exact hj _
        | true =>
          have hln : ((rd_T276 zs i).f1.length : Int) = a := by
            simp only [Bool.and_eq_true, decide_eq_true_eq] at e1
            exact e1.1
          refine Ev.step (fun k => by rw [impl_ValidDevice.j2]) (Ev.neg (by simp) ?_)
          refine iAdd_loop a b c e f g q m zs zs (zs.length : Int) (rd_T276 zs i).f1 (by omega) i _ (fun x hx => by have := hr x hx; omega) (rd_T276 zs i).f1.length 0 u (by omega) (by omega) hu (by omega) ?_ ?_
          · intro u' hu'
            have t := add_us _ u u' hu (fun x hx => by have := hr x (List.mem_of_mem_drop hx); omega) hu'
            simp only [Int.toNat_zero, List.drop_zero] at hu' t
            rw [hu', hw2]
            exact ih (i + 1) u' (by omega) (by omega) t.1 (by omega)
          · intro hn
            simp only [Int.toNat_zero, List.drop_zero] at hn
            rw [hn]
            rfl
def devB (a b c : Int) (l : List S218) (e f h : Int) (zs : List S276) : Bool := flashB a b c l e f h && inB (zs.length : Int) 1 b && zonesB a b c l zs []
theorem flash_geoB {a b c : Int} {l : List S218} {e f h : Int} (hv : flashB a b c l e f h = true) : geoB a b c = true ∧ (l.length : Int) = a * b := by
  simp only [flashB, Bool.and_eq_true, decide_eq_true_eq] at hv
  exact ⟨hv.1.1.1.1.1, hv.1.1.1.1.2⟩
theorem us_nil : Us [] := ⟨(fun x hx => by cases hx), List.nodup_nil⟩
theorem s_device (a b c : Int) (l : List S218) (e f : Int) (g : Bool) (h : Int) (zs : List S276) (hl : l.length ≤ 140737488351232) (hs : ∀ x ∈ l, x.f3.length ≤ 140737488351232) (hzs : ∀ z ∈ zs, sizedZ z) : Ev (fun k => spec_ValidDevice.f k a b c l e f g h zs) (devB a b c l e f h zs) := by
  have bad : ∀ r : Bool, Ev (fun k => spec_ValidDevice.j0 k true a b c l e f g h zs) (false && r) := fun r => Ev.step (fun k => by rw [spec_ValidDevice.j0]) (Ev.pos rfl (Ev.is (by simp)))
  unfold spec_ValidDevice.f devB
  refine Ev.bind (s_flash a b c l e f g h hl hs) ?_
  cases hv : flashB a b c l e f h with
  | false => exact Ev.neg (by simp) (bad _)
  | true =>
    obtain ⟨hg, hm⟩ := flash_geoB hv
    obtain ⟨ga, gb, gb2, gc⟩ := geo_rng hg
    refine Ev.pos rfl ?_
    by_cases c1 : (zs.length : Int) < 1
    · refine Ev.pos c1 ?_
      rw [show inB (zs.length : Int) 1 b = false from by simp only [inB, decide_eq_false (show ¬ 1 ≤ (zs.length : Int) by omega), Bool.false_and]]
      exact bad _
    · refine Ev.neg c1 (Ev.via (show spec_l00Min.f 12 b = some b from ?_) ?_)
      · unfold spec_l00Min.f
        by_cases x : (12 : Int) < b
        · omega
        · rw [if_neg x]
      · by_cases c2 : (zs.length : Int) > b
        · rw [show inB (zs.length : Int) 1 b = false from by simp only [inB, decide_eq_false (show ¬ (zs.length : Int) ≤ b by omega), Bool.and_false], decide_eq_true c2]
          exact bad _
        · rw [show inB (zs.length : Int) 1 b = true from by simp only [inB, decide_eq_true (show 1 ≤ (zs.length : Int) by omega), decide_eq_true (show (zs.length : Int) ≤ b by omega), Bool.and_self], decide_eq_false c2]
          refine Ev.step (fun k => by rw [spec_ValidDevice.j0]) (Ev.neg (by simp) ?_)
          have t := sZones_loop a b c e f h g l zs hg hm (by omega) hzs zs.length 0 [] (by omega) (by omega) us_nil (by simp)
          simpa using t
theorem i_device (a b c : Int) (l : List S218) (e f : Int) (g : Bool) (h : Int) (zs : List S276) (hs : ∀ x ∈ l, x.f3.length ≤ 140737488351232) (hzs : ∀ z ∈ zs, sizedZ z) : Ev (fun k => impl_ValidDevice.f k a b c l e f g h zs) (devB a b c l e f h zs) := by
  have bad : ∀ r : Bool, Ev (fun k => impl_ValidDevice.j0 k true a b c l e f g h zs) (false && r) := fun r => Ev.step (fun k => by rw [impl_ValidDevice.j0]) (Ev.pos rfl (Ev.is (by simp)))
  unfold impl_ValidDevice.f devB
  refine Ev.bind (i_flash a b c l e f g h hs) ?_
  cases hv : flashB a b c l e f h with
  | false => exact Ev.neg (by simp) (bad _)
  | true =>
    obtain ⟨hg, hm⟩ := flash_geoB hv
    obtain ⟨ga, gb, gb2, gc⟩ := geo_rng hg
    have hmn : mn 12 b = b := by
      unfold mn
      by_cases x : b < 12
      · rw [if_pos x]
      · rw [if_neg x]; omega
    refine Ev.pos rfl (Ev.via (i_in _ _ _) ?_)
    rw [hmn]
    cases c2 : inB (zs.length : Int) 1 b with
    | false => exact bad _
    | true =>
      have c3 := inB_iff.1 c2
      refine Ev.step (fun k => by rw [impl_ValidDevice.j0]) (Ev.neg (by simp) ?_)
      have t := iZones_loop a b c e f h g l zs hg hm (by omega) hzs zs.length 0 [] (by omega) (by omega) us_nil (by simp)
      simpa using t
theorem zones_place {a b c : Int} {l : List S218} : ∀ (zs : List S276) (u : List Int), zonesB a b c l zs u = true → ∀ z ∈ zs, (decide ((z.f1.length : Int) = a) && placeB b z.f1 0) = true
  | [], _, _, z, hz => by cases hz
  | y :: ys, u, h, z, hz => by
    simp only [zonesB, zoneB, Bool.and_eq_true] at h
    rcases List.mem_cons.1 hz with rfl | hz
    · simp only [Bool.and_eq_true]; exact h.1.1.1
    · cases e : addB y.f1 u with
      | none => rw [e] at h; simp at h
      | some u' => rw [e] at h; exact zones_place ys u' h.2 z hz

/-! the room in a zone -/
def roomV (a c : Int) (x : S276) : Int :=
  if x.f0 = 1 then wrap64 (wrap64 (wrap64 (c - (x.f4.length : Int)) * wrap64 (a - 1)) - (x.f5.length : Int)) else if x.f0 = 2 then wrap64 (wrap64 (wrap64 (c - (x.f4.length : Int)) * wrap64 (a - 1)) - (x.f5.length : Int)) else 0
def roomB (a b c : Int) (l : List S218) (e f h : Int) (zs : List S276) (z : Int) : Int := if devB a b c l e f h zs = true then if inB z 0 ((zs.length : Int) - 1) = true then roomV a c (rd_T276 zs z) else 0 else 0
theorem s_room0 (a b c : Int) (l : List S218) (e f : Int) (g : Bool) (h : Int) (zs : List S276) (z : Int) (h0 : 0 ≤ z) (h1 : z < (zs.length : Int)) : spec_l27Room.f a b c l e f g h zs z = some (roomV a c (rd_T276 zs z)) := by
  unfold spec_l27Room.f roomV
  rw [if_pos h0, if_pos h1]
  by_cases x1 : (rd_T276 zs z).f0 = 1
  · rw [if_pos x1, if_pos x1]
  · rw [if_neg x1, if_neg x1]
    by_cases x2 : (rd_T276 zs z).f0 = 2
    · rw [if_pos x2, if_pos x2]
    · rw [if_neg x2, if_neg x2]
theorem i_room0 (a b c : Int) (l : List S218) (e f : Int) (g : Bool) (h : Int) (zs : List S276) (z : Int) (h0 : 0 ≤ z) (h1 : z < (zs.length : Int)) : impl_Device_roomIn.f a b c l e f g h zs z = some (roomV a c (rd_T276 zs z)) := by
  unfold impl_Device_roomIn.f roomV
  rw [if_pos h0, if_pos h1]
  by_cases x1 : (rd_T276 zs z).f0 = 1
  · rw [if_pos x1, if_pos x1]; rfl
  · rw [if_neg x1, if_neg x1]
    by_cases x2 : (rd_T276 zs z).f0 = 2
    · rw [if_pos x2, if_pos x2]; rfl
    · rw [if_neg x2, if_neg x2]
theorem s_room (a b c : Int) (l : List S218) (e f : Int) (g : Bool) (h : Int) (zs : List S276) (z : Int) (hl : l.length ≤ 140737488351232) (hs : ∀ x ∈ l, x.f3.length ≤ 140737488351232) (hz : zs.length ≤ 140737488351232) (hzs : ∀ z ∈ zs, sizedZ z) : Ev (fun k => spec_RoomIn.f k a b c l e f g h zs z) (roomB a b c l e f h zs z) := by
  unfold spec_RoomIn.f roomB
  refine Ev.bind (s_device a b c l e f g h zs hl hs hzs) ?_
  cases hv : devB a b c l e f h zs with
  | false => exact Ev.neg (by simp) (Ev.is rfl)
  | true =>
    have hw : wrap64 ((zs.length : Int) - 1) = (zs.length : Int) - 1 := wrap_id (by omega) (by omega)
    refine Ev.pos rfl (Ev.via (show spec_l27Zone.f a b c l e f g h zs z = some (inB z 0 ((zs.length : Int) - 1)) from by unfold spec_l27Zone.f; rw [hw, s_in]; rfl) ?_)
    cases hi : inB z 0 ((zs.length : Int) - 1) with
    | false => exact Ev.neg (by simp) (Ev.is rfl)
    | true =>
      have h2 := inB_iff.1 hi
      exact Ev.pos rfl (Ev.via (s_room0 a b c l e f g h zs z h2.1 (by omega)) (Ev.is rfl))
theorem i_room (a b c : Int) (l : List S218) (e f : Int) (g : Bool) (h : Int) (zs : List S276) (z : Int) (hs : ∀ x ∈ l, x.f3.length ≤ 140737488351232) (hz : zs.length ≤ 140737488351232) (hzs : ∀ z ∈ zs, sizedZ z) : Ev (fun k => impl_RoomIn.f k a b c l e f g h zs z) (roomB a b c l e f h zs z) := by
  unfold impl_RoomIn.f roomB
  refine Ev.bind (i_device a b c l e f g h zs hs hzs) ?_
  cases hv : devB a b c l e f h zs with
  | false => exact Ev.neg (by simp) (Ev.is rfl)
  | true =>
    have hw : wrap64 ((zs.length : Int) - 1) = (zs.length : Int) - 1 := wrap_id (by omega) (by omega)
    refine Ev.pos rfl (Ev.via (show impl_isIndex.f z (zs.length : Int) = some (inB z 0 ((zs.length : Int) - 1)) from by unfold impl_isIndex.f; rw [hw, i_in]; rfl) ?_)
    cases hi : inB z 0 ((zs.length : Int) - 1) with
    | false => exact Ev.neg (by simp) (Ev.is rfl)
    | true =>
      have h2 := inB_iff.1 hi
      exact Ev.pos rfl (Ev.via (i_room0 a b c l e f g h zs z h2.1 (by omega)) (Ev.is rfl))
theorem FnExactRoomIn : laws_FnExactRoomIn.Pure := by
  intro x z h hb
  refine Ev.rounds ?_
  have hl : (x.f0.f1.map cv218).length ≤ 140737488351232 := by have := h.1.2.1.1; simp; omega
  have hs : ∀ y ∈ x.f0.f1.map cv218, y.f3.length ≤ 140737488351232 := by
    intro y hy
    obtain ⟨z, hz, rfl⟩ := List.mem_map.1 hy
    have := (h.1.2.1.2 z hz).2.2.2.1
    show z.f3.length ≤ _
    omega
  have hz : (x.f1.map cv276).length ≤ 140737488351232 := by have := h.2.1; simp; omega
  have hzs : ∀ y ∈ x.f1.map cv276, sizedZ y := by
    intro y hy
    obtain ⟨z, hz, rfl⟩ := List.mem_map.1 hy
    have q := h.2.2 z hz
    have q1 := q.2.1.1
    have q2 := q.2.2.2.2.1.1
    have q3 := q.2.2.2.2.2.1
    refine ⟨?_, ?_, ?_⟩
    · show z.f1.length ≤ _; omega
    · show z.f4.length ≤ _; omega
    · show z.f5.length ≤ _; omega
  obtain ⟨r, hr, h1, _⟩ := szDevice_ev x h
  unfold laws_FnExactRoomIn.f
  refine Ev.bind hr ?_
  by_cases hn : r < 0
  · exact Ev.pos hn (Ev.now _)
  · refine Ev.neg hn (Ev.bind (toDevice_ev x h) (Ev.bind (s_room _ _ _ _ _ _ _ _ _ z hl hs hz hzs) (Ev.bind (toDevice_ev x h) (Ev.bind (i_room _ _ _ _ _ _ _ _ _ z hs hz hzs) (Ev.pos rfl (Ev.bind (toDevice_ev x h) ?_))))))
    exact Ev.bind (eqDevice_ev _ _ _ _ _ _ _ _ _ hl hs hz hzs) (Ev.pos rfl (Ev.now _))

end Go.Proofs.Ytokonpkecmnneaa.Pure
