/- The plain half of ReadRaw: the program's and the reference's readings are one, and each array equals its own copy. Conditions: none. -/
import Derived.Test.YtokonpkecmnneaaQFnExactReadRawx8
namespace Go.Proofs.Ytokonpkecmnneaa.Pure
open Go.RowKit Go.Proofs.Ytokonpkecmnneaa.QFnExactReadRawx Go.Proofs.YtokonpkecmnneaaHw Go.Proofs.YtokonpkecmnneaaHo Go.Proofs.YtokonpkecmnneaaW.PrintWords Go.Proofs.YtokonpkecmnneaaW.PrintLast Go.Proofs.YtokonpkecmnneaaW.PrintMore
set_option linter.unusedVariables false
set_option linter.unusedSimpArgs false

theorem Ev.pos {α : Type} {c : Prop} [Decidable c] {f g : Nat → Option α} {r : α} (hc : c) (h : Ev f r) : Ev (fun k => if c then f k else g k) r := Ev.congr (fun k => by rw [if_pos hc]) h
theorem Ev.neg {α : Type} {c : Prop} [Decidable c] {f g : Nat → Option α} {r : α} (hc : ¬ c) (h : Ev g r) : Ev (fun k => if c then f k else g k) r := Ev.congr (fun k => by rw [if_neg hc]) h
theorem Ev.is {α : Type} {a r : α} (h : a = r) : Ev (fun _ => some a) r := by subst h; exact Ev.now _
theorem Ev.via {α β : Type} {f : Nat → α → Option β} {g : Option α} {a : α} {r : β} (hg : g = some a) (h : Ev (fun k => f k a) r) : Ev (fun k => g.bind (f k)) r := by subst hg; exact h
theorem wrap_id {n : Int} (h0 : -9223372036854775808 ≤ n) (h1 : n ≤ 9223372036854775807) : wrap64 n = n := by unfold wrap64; omega
theorem rdOf_mem {l : List ByteArray} {i : Int} (h0 : 0 ≤ i) (h1 : i < (l.length : Int)) : rdOf ByteArray.empty l i ∈ l := by
  have h : i.toNat < l.length := by omega
  simp [rdOf, h]

/-! sizes -/
theorem szStringS_loop (l : List ByteArray) (hl : l.length ≤ 140737488351232) (hs : ∀ s ∈ l, s.size ≤ 140737488351232) : ∀ (d : Nat) (a i : Int), 0 ≤ i → i + d = l.length → 0 ≤ a → a ≤ 1048576 → ∃ r, Ev (fun k => laws_szStringS.l0 k l a i) r ∧ -1 ≤ r ∧ r ≤ a := by
  intro d
  induction d with
  | zero =>
    intro a i h0 hd ha hb
    exact ⟨a, Ev.step (fun k => by rw [laws_szStringS.l0, if_neg (by omega)]) (Ev.now _), by omega, by omega⟩
  | succ d ih =>
    intro a i h0 hd ha hb
    have hm := hs _ (rdOf_mem h0 (show i < (l.length : Int) by omega))
    have hw : wrap64 (a - ((rdOf ByteArray.empty l i).size : Int)) = a - ((rdOf ByteArray.empty l i).size : Int) := wrap_id (by omega) (by omega)
    have hw2 : wrap64 (i + 1) = i + 1 := wrap_id (by omega) (by omega)
    by_cases hn : a - ((rdOf ByteArray.empty l i).size : Int) < 0
    · exact ⟨-1, Ev.step (fun k => by rw [laws_szStringS.l0, if_pos (by omega), if_pos h0, hw, if_pos hn]) (Ev.now _), by omega, by omega⟩
    · obtain ⟨r, he, h1, h2⟩ := ih (a - ((rdOf ByteArray.empty l i).size : Int)) (i + 1) (by omega) (by omega) (by omega) (by omega)
      exact ⟨r, Ev.step (fun k => by rw [laws_szStringS.l0, if_pos (by omega), if_pos h0, hw, if_neg hn, hw2]) he, h1, by omega⟩
theorem szStringS_ev (l : List ByteArray) (hl : l.length ≤ 140737488351232) (hs : ∀ s ∈ l, s.size ≤ 140737488351232) (a : Int) (ha : 0 ≤ a) (hb : a ≤ 1048576) : ∃ r, Ev (fun k => laws_szStringS.f k l a) r ∧ -1 ≤ r ∧ r ≤ a := by
  have hw : wrap64 (a - (l.length : Int)) = a - (l.length : Int) := wrap_id (by omega) (by omega)
  by_cases hn : a - (l.length : Int) < 0
  · exact ⟨-1, Ev.congr (fun k => by unfold laws_szStringS.f; rw [hw, if_pos hn]) (Ev.now _), by omega, by omega⟩
  · obtain ⟨r, he, h1, h2⟩ := szStringS_loop l hl hs l.length (a - l.length) 0 (by omega) (by omega) (by omega) (by omega)
    exact ⟨r, Ev.congr (fun k => by unfold laws_szStringS.f; rw [hw, if_neg hn]) he, h1, by omega⟩
theorem szBlock_ev (x : S234) (h : IsQ234 x) (a : Int) (ha : 0 ≤ a) (hb : a ≤ 1048576) : ∃ r, Ev (fun k => laws_szBlock.f k x.f0 x.f1 x.f2 x.f3 a) r ∧ -1 ≤ r ∧ r ≤ a := by
  obtain ⟨r, he, h1, h2⟩ := szStringS_ev x.f3 (by have := h.2.2.2.1; omega) h.2.2.2.2 a ha hb
  by_cases hn : r < 0
  · exact ⟨-1, Ev.congr (fun k => rfl) (Ev.bind he (Ev.congr (fun k => by rw [if_pos hn]) (Ev.now _))), by omega, by omega⟩
  · exact ⟨r, Ev.congr (fun k => rfl) (Ev.bind he (Ev.congr (fun k => by rw [if_neg hn]) (Ev.now _))), by omega, by omega⟩
theorem rdT_mem234 {l : List S234} {i : Int} (h0 : 0 ≤ i) (h1 : i < (l.length : Int)) : rd_T234 l i ∈ l := by
  have h : i.toNat < l.length := by omega
  simp [rd_T234, h]
theorem szBlockS_loop (l : List S234) (hl : l.length ≤ 140737488351232) (hs : ∀ s ∈ l, IsQ234 s) : ∀ (d : Nat) (a i : Int), 0 ≤ i → i + d = l.length → 0 ≤ a → a ≤ 1048576 → ∃ r, Ev (fun k => laws_szBlockS.l0 k l a i) r ∧ -1 ≤ r ∧ r ≤ a := by
  intro d
  induction d with
  | zero =>
    intro a i h0 hd ha hb
    exact ⟨a, Ev.step (fun k => by rw [laws_szBlockS.l0, if_neg (by omega)]) (Ev.now _), by omega, by omega⟩
  | succ d ih =>
    intro a i h0 hd ha hb
    have hw2 : wrap64 (i + 1) = i + 1 := wrap_id (by omega) (by omega)
    obtain ⟨r, he, h1, h2⟩ := szBlock_ev _ (hs _ (rdT_mem234 h0 (show i < (l.length : Int) by omega))) a ha hb
    by_cases hn : r < 0
    · exact ⟨-1, Ev.step (fun k => by rw [laws_szBlockS.l0, if_pos (by omega), if_pos h0]) (Ev.bind he (Ev.congr (fun k => by rw [if_pos hn]) (Ev.now _))), by omega, by omega⟩
    · obtain ⟨r2, he2, h3, h4⟩ := ih r (i + 1) (by omega) (by omega) (by omega) (by omega)
      exact ⟨r2, Ev.step (fun k => by rw [laws_szBlockS.l0, if_pos (by omega), if_pos h0]) (Ev.bind he (Ev.congr (fun k => by rw [if_neg hn, hw2]) he2)), h3, by omega⟩
theorem szFlash_ev (x : S38) (h : IsQ38 x) : ∃ r, Ev (fun k => laws_szFlash.f k x.f0.f0 x.f0.f1 x.f0.f2 x.f1 x.f2 x.f3 x.f4 x.f5 1048576) r ∧ -1 ≤ r := by
  have hl : x.f1.length ≤ 140737488351232 := by have := h.2.1.1; omega
  have hw : wrap64 (1048576 - (x.f1.length : Int)) = 1048576 - (x.f1.length : Int) := wrap_id (by omega) (by omega)
  have key : ∃ r, Ev (fun k => laws_szBlockS.f k x.f1 1048576) r ∧ -1 ≤ r := by
    by_cases hn : 1048576 - (x.f1.length : Int) < 0
    · exact ⟨-1, Ev.congr (fun k => by unfold laws_szBlockS.f; rw [hw, if_pos hn]) (Ev.now _), by omega⟩
    · obtain ⟨r, he, h1, _⟩ := szBlockS_loop x.f1 hl h.2.1.2 x.f1.length (1048576 - x.f1.length) 0 (by omega) (by omega) (by omega) (by omega)
      exact ⟨r, Ev.congr (fun k => by unfold laws_szBlockS.f; rw [hw, if_neg hn]) he, h1⟩
  obtain ⟨r, he, h1⟩ := key
  by_cases hn : r < 0
  · exact ⟨-1, Ev.congr (fun k => rfl) (Ev.bind he (Ev.congr (fun k => by rw [if_pos hn]) (Ev.now _))), by omega⟩
  · exact ⟨r, Ev.congr (fun k => rfl) (Ev.bind he (Ev.congr (fun k => by rw [if_neg hn]) (Ev.now _))), by omega⟩

/-! copies -/
theorem take_set_succ {α : Type} {m l : List α} {i : Nat} (hm : m.length = l.length) (hi : i < l.length) (h : m.take i = l.take i) : (m.set i l[i]).take (i + 1) = l.take (i + 1) := by
  rw [List.take_succ_eq_append_getElem (by simpa [hm] using hi), List.take_succ_eq_append_getElem hi]
  simp [List.take_set_of_le, h]
theorem toStringS_loop (l : List ByteArray) (hl : l.length ≤ 140737488351232) : ∀ (d : Nat) (m : List ByteArray) (i : Int), 0 ≤ i → i + d = l.length → m.length = l.length → m.take i.toNat = l.take i.toNat → Ev (fun k => laws_toStringS.l0 k l m i) l := by
  intro d
  induction d with
  | zero =>
    intro m i h0 hd hm ht
    have e : m = l := by
      have hi : i.toNat = l.length := by omega
      rw [hi] at ht
      rwa [List.take_of_length_le (by omega), List.take_of_length_le (by omega)] at ht
    subst e
    exact Ev.step (fun k => by rw [laws_toStringS.l0, if_neg (by omega)]) (Ev.now _)
  | succ d ih =>
    intro m i h0 hd hm ht
    have hw2 : wrap64 (i + 1) = i + 1 := wrap_id (by omega) (by omega)
    have hi : i.toNat < l.length := by omega
    have hr : rdOf ByteArray.empty l i = l[i.toNat] := by simp [rdOf, hi]
    have ht2 := take_set_succ hm hi ht
    rw [show i.toNat + 1 = (i + 1).toNat by omega] at ht2
    exact Ev.step (fun k => by rw [laws_toStringS.l0, if_pos (by omega), if_pos h0, if_pos (by omega), hw2, hr]) (ih _ (i + 1) (by omega) (by omega) (by simpa using hm) ht2)
theorem toStringS_ev (l : List ByteArray) (hl : l.length * 16 ≤ 140737488351232) : Ev (fun k => laws_toStringS.f k l) l :=
  Ev.congr (fun k => by unfold laws_toStringS.f; rw [if_pos (by omega), if_pos (by omega)]) (toStringS_loop l (by omega) l.length _ 0 (by omega) (by omega) (by simp) (by simp))
def cv218 (x : S234) : S218 := ⟨x.f0, x.f1, x.f2, x.f3⟩
theorem toBlock_ev (x : S234) (h : IsQ234 x) : Ev (fun k => laws_toBlock.f k x.f0 x.f1 x.f2 x.f3) (x.f0, x.f1, x.f2, x.f3) := Ev.congr (fun k => rfl) (Ev.bind (toStringS_ev x.f3 h.2.2.2.1) (Ev.now _))
theorem toBlockS_loop (l : List S234) (hl : l.length ≤ 140737488351232) (hs : ∀ s ∈ l, IsQ234 s) : ∀ (d : Nat) (m : List S218) (i : Int), 0 ≤ i → i + d = l.length → m.length = l.length → m.take i.toNat = (l.map cv218).take i.toNat → Ev (fun k => laws_toBlockS.l0 k l m i) (l.map cv218) := by
  intro d
  induction d with
  | zero =>
    intro m i h0 hd hm ht
    have e : m = l.map cv218 := by
      have hi : i.toNat = l.length := by omega
      rw [hi] at ht
      rwa [List.take_of_length_le (by omega), List.take_of_length_le (by simp)] at ht
    subst e
    exact Ev.step (fun k => by rw [laws_toBlockS.l0, if_neg (by omega)]) (Ev.now _)
  | succ d ih =>
    intro m i h0 hd hm ht
    have hw2 : wrap64 (i + 1) = i + 1 := wrap_id (by omega) (by omega)
    have hi : i.toNat < l.length := by omega
    have hr : (⟨(rd_T234 l i).f0, (rd_T234 l i).f1, (rd_T234 l i).f2, (rd_T234 l i).f3⟩ : S218) = (l.map cv218)[i.toNat]'(by simpa using hi) := by simp [rd_T234, hi, cv218]
    have ht2 := take_set_succ (by simpa using hm) (by simpa using hi) ht
    rw [show i.toNat + 1 = (i + 1).toNat by omega] at ht2
    exact Ev.step (fun k => by rw [laws_toBlockS.l0, if_pos (by omega), if_pos h0]) (Ev.bind (toBlock_ev _ (hs _ (rdT_mem234 h0 (show i < (l.length : Int) by omega)))) (Ev.congr (fun k => by rw [if_pos (by omega), hw2, hr]) (ih _ (i + 1) (by omega) (by omega) (by simpa using hm) ht2)))
theorem toBlockS_ev (l : List S234) (hl : l.length * 48 ≤ 140737488351232) (hs : ∀ s ∈ l, IsQ234 s) : Ev (fun k => laws_toBlockS.f k l) (l.map cv218) :=
  Ev.congr (fun k => by unfold laws_toBlockS.f; rw [if_pos (by omega), if_pos (by omega)]) (toBlockS_loop l (by omega) hs l.length _ 0 (by omega) (by omega) (by simp) (by simp))
theorem toFlash_ev (x : S38) (h : IsQ38 x) : Ev (fun k => laws_toFlash.f k x.f0.f0 x.f0.f1 x.f0.f2 x.f1 x.f2 x.f3 x.f4 x.f5) (x.f0.f0, x.f0.f1, x.f0.f2, x.f1.map cv218, x.f2, x.f3, x.f4, x.f5) :=
  Ev.congr (fun k => rfl) (Ev.bind (Ev.now (x.f0.f0, x.f0.f1, x.f0.f2)) (Ev.bind (toBlockS_ev x.f1 h.2.1.1 h.2.1.2) (Ev.now _)))

/-! each equals itself -/
theorem eqStringS_loop (l : List ByteArray) (hl : l.length ≤ 140737488351232) : ∀ (d : Nat) (i : Int), 0 ≤ i → i + d = l.length → Ev (fun k => laws_eqStringS.l0 k l l i) true := by
  intro d
  induction d with
  | zero => intro i h0 hd; exact Ev.step (fun k => by rw [laws_eqStringS.l0, if_neg (by omega)]) (Ev.now _)
  | succ d ih =>
    intro i h0 hd
    have hw2 : wrap64 (i + 1) = i + 1 := wrap_id (by omega) (by omega)
    exact Ev.step (fun k => by rw [laws_eqStringS.l0, if_pos (by omega), if_pos h0, if_pos (by omega), if_pos rfl, hw2]) (ih (i + 1) (by omega) (by omega))
theorem eqStringS_ev (l : List ByteArray) (hl : l.length ≤ 140737488351232) : Ev (fun k => laws_eqStringS.f k l l) true :=
  Ev.congr (fun k => by unfold laws_eqStringS.f; rw [if_pos rfl]) (eqStringS_loop l hl l.length 0 (by omega) (by omega))
theorem eqBlock_ev (x : S218) (h : x.f3.length ≤ 140737488351232) : Ev (fun k => laws_eqBlock.f k x.f0 x.f1 x.f2 x.f3 x.f0 x.f1 x.f2 x.f3) true :=
  Ev.congr (fun k => by unfold laws_eqBlock.f; rw [if_pos rfl, if_pos rfl, if_neg (by simp)]) (Ev.bind (eqStringS_ev x.f3 h) (Ev.congr (fun k => by rw [if_pos rfl]) (Ev.now _)))
theorem rdT_mem218 {l : List S218} {i : Int} (h0 : 0 ≤ i) (h1 : i < (l.length : Int)) : rd_T218 l i ∈ l := by
  have h : i.toNat < l.length := by omega
  simp [rd_T218, h]
theorem eqBlockS_loop (l : List S218) (hl : l.length ≤ 140737488351232) (hs : ∀ x ∈ l, x.f3.length ≤ 140737488351232) : ∀ (d : Nat) (i : Int), 0 ≤ i → i + d = l.length → Ev (fun k => laws_eqBlockS.l0 k l l i) true := by
  intro d
  induction d with
  | zero => intro i h0 hd; exact Ev.step (fun k => by rw [laws_eqBlockS.l0, if_neg (by omega)]) (Ev.now _)
  | succ d ih =>
    intro i h0 hd
    have hw2 : wrap64 (i + 1) = i + 1 := wrap_id (by omega) (by omega)
    exact Ev.step (fun k => by rw [laws_eqBlockS.l0, if_pos (by omega), if_pos h0, if_pos (by omega)]) (Ev.bind (eqBlock_ev _ (hs _ (rdT_mem218 h0 (show i < (l.length : Int) by omega)))) (Ev.congr (fun k => by rw [if_pos rfl, hw2]) (ih (i + 1) (by omega) (by omega))))
theorem eqFlash_ev (a b c : Int) (l : List S218) (d e : Int) (f : Bool) (g : Int) (hl : l.length ≤ 140737488351232) (hs : ∀ x ∈ l, x.f3.length ≤ 140737488351232) : Ev (fun k => laws_eqFlash.f k a b c l d e f g a b c l d e f g) true :=
by
  have hg : laws_eqGeometry.f a b c a b c = some true := by unfold laws_eqGeometry.f; rw [if_pos rfl, if_pos rfl, if_pos rfl]
  have hb : Ev (fun k => laws_eqBlockS.f k l l) true := Ev.pos rfl (eqBlockS_loop l hl hs l.length 0 (by omega) (by omega))
  exact Ev.via hg (Ev.pos rfl (Ev.bind hb (Ev.pos rfl (Ev.pos rfl (Ev.pos rfl (Ev.neg (by simp) (Ev.pos rfl (Ev.now _))))))))

/-! valid arrays -/
def okPages (n : Int) : List ByteArray → Int → Bool
  | [], _ => true
  | p :: ps, i => (decide (p.size = 0) || (decide (p.size = 91) && decide (i < n))) && okPages n ps (i + 1)
theorem drop_rdB (l : List ByteArray) {i : Int} (h0 : 0 ≤ i) (h1 : i < (l.length : Int)) : l.drop i.toNat = rdOf ByteArray.empty l i :: l.drop (i + 1).toNat := by
  have h : i.toNat < l.length := by omega
  rw [List.drop_eq_getElem_cons h, show (i + 1).toNat = i.toNat + 1 by omega]
  simp [rdOf, h]
theorem toList_nil (s : ByteArray) : s.toList = ([] : List UInt8) ↔ s.size = 0 := by
  rw [ByteArray.toList_eq]
  constructor
  · intro h
    have : s.data.toList.length = 0 := by rw [h]; rfl
    simpa using this
  · intro h
    have : s.data.toList.length = 0 := by simpa using h
    exact List.length_eq_zero_iff.1 this
theorem sBlock_loop (l : List ByteArray) (hl : l.length ≤ 140737488351232) (e n : Int) (b : Bool) : ∀ (d : Nat) (i : Int), 0 ≤ i → i + d = l.length → Ev (fun k => spec_l06Block.l0 k (l.length : Int) i e n b l) (okPages n (l.drop i.toNat) i) := by
  intro d
  induction d with
  | zero =>
    intro i h0 hd
    rw [List.drop_of_length_le (by omega)]
    exact Ev.step (fun k => by rw [spec_l06Block.l0, if_neg (by omega)]; rfl) (Ev.now _)
  | succ d ih =>
    intro i h0 hd
    have hw2 : wrap64 (i + 1) = i + 1 := wrap_id (by omega) (by omega)
    have hI := ih (i + 1) (by omega) (by omega)
    rw [drop_rdB l h0 (by omega)]
    by_cases c1 : (rdOf ByteArray.empty l i).size = 0
    · have e1 : okPages n (rdOf ByteArray.empty l i :: l.drop (i + 1).toNat) i = okPages n (l.drop (i + 1).toNat) (i + 1) := by simp [okPages, c1]
      rw [e1]
      exact Ev.step (fun k => by rw [spec_l06Block.l0, if_pos (by omega), if_pos h0, if_pos (by omega), if_pos (by omega), hw2]) hI
    · by_cases c2 : (rdOf ByteArray.empty l i).size = 91
      · by_cases c3 : i ≥ n
        · have e1 : okPages n (rdOf ByteArray.empty l i :: l.drop (i + 1).toNat) i = false := by simp [okPages, c2]; omega
          rw [e1]
          exact Ev.step (fun k => by rw [spec_l06Block.l0, if_pos (by omega), if_pos h0, if_pos (by omega), if_neg (by omega), if_pos (by omega), if_pos c3]) (Ev.now _)
        · have e1 : okPages n (rdOf ByteArray.empty l i :: l.drop (i + 1).toNat) i = okPages n (l.drop (i + 1).toNat) (i + 1) := by simp [okPages, c2]; omega
          rw [e1]
          exact Ev.step (fun k => by rw [spec_l06Block.l0, if_pos (by omega), if_pos h0, if_pos (by omega), if_neg (by omega), if_pos (by omega), if_neg c3, hw2]) hI
      · have e1 : okPages n (rdOf ByteArray.empty l i :: l.drop (i + 1).toNat) i = false := by simp [okPages, c1, c2]
        rw [e1]
        exact Ev.step (fun k => by rw [spec_l06Block.l0, if_pos (by omega), if_pos h0, if_pos (by omega), if_neg (by omega), if_neg (by omega)]) (Ev.now _)
theorem iBlock_loop (l : List ByteArray) (hl : l.length ≤ 140737488351232) (e n : Int) (b : Bool) : ∀ (d : Nat) (i : Int), 0 ≤ i → i + d = l.length → Ev (fun k => impl_Geometry_blockOk.l0 k l (l.length : Int) i e n b l) (okPages n (l.drop i.toNat) i) := by
  intro d
  induction d with
  | zero =>
    intro i h0 hd
    rw [List.drop_of_length_le (by omega)]
    exact Ev.step (fun k => by rw [impl_Geometry_blockOk.l0, if_neg (by omega)]; rfl) (Ev.now _)
  | succ d ih =>
    intro i h0 hd
    have hw2 : wrap64 (i + 1) = i + 1 := wrap_id (by omega) (by omega)
    have hI := ih (i + 1) (by omega) (by omega)
    rw [drop_rdB l h0 (by omega)]
    by_cases c1 : (rdOf ByteArray.empty l i).size = 0
    · have e1 : okPages n (rdOf ByteArray.empty l i :: l.drop (i + 1).toNat) i = okPages n (l.drop (i + 1).toNat) (i + 1) := by simp [okPages, c1]
      rw [e1]
      exact Ev.step (fun k => by rw [impl_Geometry_blockOk.l0, if_pos (by omega), if_pos h0, if_pos (by omega), if_pos ((toList_nil _).2 c1), hw2]) hI
    · have c1' : ¬ (rdOf ByteArray.empty l i).toList = ([] : List UInt8) := fun h => c1 ((toList_nil _).1 h)
      by_cases c2 : (rdOf ByteArray.empty l i).size = 91
      · by_cases c3 : i ≥ n
        · have e1 : okPages n (rdOf ByteArray.empty l i :: l.drop (i + 1).toNat) i = false := by simp [okPages, c2]; omega
          rw [e1]
          exact Ev.step (fun k => by rw [impl_Geometry_blockOk.l0, if_pos (by omega), if_pos h0, if_pos (by omega), if_neg c1', if_pos (by omega), if_pos c3]) (Ev.now _)
        · have e1 : okPages n (rdOf ByteArray.empty l i :: l.drop (i + 1).toNat) i = okPages n (l.drop (i + 1).toNat) (i + 1) := by simp [okPages, c2]; omega
          rw [e1]
          exact Ev.step (fun k => by rw [impl_Geometry_blockOk.l0, if_pos (by omega), if_pos h0, if_pos (by omega), if_neg c1', if_pos (by omega), if_neg c3, hw2]) hI
      · have e1 : okPages n (rdOf ByteArray.empty l i :: l.drop (i + 1).toNat) i = false := by simp [okPages, c1, c2]
        rw [e1]
        exact Ev.step (fun k => by rw [impl_Geometry_blockOk.l0, if_pos (by omega), if_pos h0, if_pos (by omega), if_neg c1', if_neg (by omega)]) (Ev.now _)
def inB (n lo hi : Int) : Bool := decide (lo ≤ n) && decide (n ≤ hi)
theorem s_in (n lo hi : Int) : spec_l00In.f n lo hi = some (inB n lo hi) := by
  unfold spec_l00In.f inB
  by_cases h : n ≥ lo
  · rw [if_pos h, decide_eq_true (show lo ≤ n by omega)]; simp
  · rw [if_neg h, decide_eq_false (show ¬ lo ≤ n by omega)]; simp
theorem i_in (n lo hi : Int) : impl_within.f n lo hi = some (inB n lo hi) := by
  unfold impl_within.f inB
  by_cases h : n ≥ lo
  · rw [if_pos h, decide_eq_true (show lo ≤ n by omega)]; simp
  · rw [if_neg h, decide_eq_false (show ¬ lo ≤ n by omega)]; simp
theorem inB_iff {n lo hi : Int} : inB n lo hi = true ↔ lo ≤ n ∧ n ≤ hi := by simp [inB]
def geoB (d b p : Int) : Bool := inB d 2 3 && inB b 4 12 && (p == 8 || p == 16)
theorem s_geo (d b p : Int) : spec_ValidGeometry.f d b p = some (geoB d b p) := by
  unfold spec_ValidGeometry.f geoB
  rw [s_in, s_in]
  simp only [Option.bind_some]
  cases inB d 2 3 <;> cases inB b 4 12 <;> simp
  by_cases h : p = 8 <;> simp [h]
theorem i_geo (d b p : Int) : impl_ValidGeometry.f d b p = some (geoB d b p) := by
  unfold impl_ValidGeometry.f geoB
  rw [i_in, i_in]
  simp only [Option.bind_some]
  cases inB d 2 3 <;> cases inB b 4 12 <;> simp
  by_cases h : p = 8 <;> simp [h]
def blkB (pages : Int) (x : S218) : Bool := inB x.f0 0 1000 && inB x.f1 0 pages && decide ((x.f3.length : Int) = pages) && okPages x.f1 x.f3 0
theorem s_block (pages : Int) (x : S218) (hl : x.f3.length ≤ 140737488351232) : Ev (fun k => spec_l06Block.f k x.f0 x.f1 x.f2 x.f3 pages) (blkB pages x) := by
  have step : ∀ b : Bool, (b = false → (x.f3.length : Int) = pages) → Ev (fun k => spec_l06Block.j0 k pages b x.f0 x.f1 x.f2 x.f3) (!b && okPages x.f1 x.f3 0) := by
    intro b hb
    cases b with
    | true => exact Ev.step (fun k => by rw [spec_l06Block.j0]) (Ev.pos rfl (Ev.is (by simp)))
    | false =>
      have h := sBlock_loop x.f3 hl x.f0 x.f1 x.f2 x.f3.length 0 (by omega) (by omega)
      rw [hb rfl] at h
      exact Ev.step (fun k => by rw [spec_l06Block.j0, if_neg (by simp)]) (by simpa using h)
  unfold blkB spec_l06Block.f
  simp only [s_in, Option.bind_some]
  cases e1 : inB x.f0 0 1000 with
  | false => exact Ev.congr (fun k => by rw [if_neg (by simp)]) (by simpa using step true (by simp))
  | true =>
    cases e2 : inB x.f1 0 pages with
    | false => exact Ev.congr (fun k => by rw [if_pos rfl, if_neg (by simp)]) (by simpa using step true (by simp))
    | true =>
      have h := step ((x.f3.length : Int) != pages) (by simp)
      refine Ev.congr (fun k => by rw [if_pos rfl, if_pos rfl]) ?_
      by_cases c : (x.f3.length : Int) = pages
      · simpa [c] using h
      · have e3 : ((x.f3.length : Int) != pages) = true := by simpa using c
        rw [e3] at h ⊢
        simpa [c] using h
theorem i_block (d b pages : Int) (x : S218) (hl : x.f3.length ≤ 140737488351232) : Ev (fun k => impl_Geometry_blockOk.f k d b pages x.f0 x.f1 x.f2 x.f3) (blkB pages x) := by
  have step : ∀ b : Bool, Ev (fun k => impl_Geometry_blockOk.j0 k b x.f0 x.f1 x.f2 x.f3) (!b && okPages x.f1 x.f3 0) := by
    intro b
    cases b with
    | true => exact Ev.step (fun k => by rw [impl_Geometry_blockOk.j0]) (Ev.pos rfl (Ev.is (by simp)))
    | false =>
      have h := iBlock_loop x.f3 hl x.f0 x.f1 x.f2 x.f3.length 0 (by omega) (by omega)
      exact Ev.step (fun k => by rw [impl_Geometry_blockOk.j0, if_neg (by simp)]) (by simpa using h)
  unfold blkB impl_Geometry_blockOk.f
  simp only [i_in, Option.bind_some]
  cases e1 : inB x.f0 0 1000 with
  | false => exact Ev.congr (fun k => by rw [if_neg (by simp)]) (by simpa using step true)
  | true =>
    cases e2 : inB x.f1 0 pages with
    | false => exact Ev.congr (fun k => by rw [if_pos rfl, if_neg (by simp)]) (by simpa using step true)
    | true =>
      have h := step ((x.f3.length : Int) != pages)
      refine Ev.congr (fun k => by rw [if_pos rfl, if_pos rfl]) ?_
      by_cases c : (x.f3.length : Int) = pages
      · simpa [c] using h
      · have e3 : ((x.f3.length : Int) != pages) = true := by simpa using c
        rw [e3] at h ⊢
        simpa [c] using h
theorem drop_rdT218 (l : List S218) {i : Int} (h0 : 0 ≤ i) (h1 : i < (l.length : Int)) : l.drop i.toNat = rd_T218 l i :: l.drop (i + 1).toNat := by
  have h : i.toNat < l.length := by omega
  rw [List.drop_eq_getElem_cons h, show (i + 1).toNat = i.toNat + 1 by omega]
  simp [rd_T218, h]
theorem sFlash_loop (l : List S218) (hl : l.length ≤ 140737488351232) (hs : ∀ x ∈ l, x.f3.length ≤ 140737488351232) (a b c e f : Int) (g : Bool) (h : Int) : ∀ (d : Nat) (i : Int), 0 ≤ i → i + d = l.length → Ev (fun k => spec_ValidFlash.l0 k i a b c l e f g h) ((l.drop i.toNat).all (blkB c)) := by
  intro d
  induction d with
  | zero =>
    intro i h0 hd
    rw [List.drop_of_length_le (by omega)]
    exact Ev.step (fun k => by rw [spec_ValidFlash.l0, if_neg (by omega)]; rfl) (Ev.now _)
  | succ d ih =>
    intro i h0 hd
    have hw2 : wrap64 (i + 1) = i + 1 := wrap_id (by omega) (by omega)
    have hI := ih (i + 1) (by omega) (by omega)
    have hb := s_block c _ (hs _ (rdT_mem218 h0 (show i < (l.length : Int) by omega)))
    rw [drop_rdT218 l h0 (by omega), List.all_cons]
    refine Ev.step (fun k => by rw [spec_ValidFlash.l0, if_pos (by omega), if_pos h0]) (Ev.bind hb ?_)
    cases blkB c (rd_T218 l i) with
    | true => exact Ev.congr (fun k => by rw [if_pos rfl, hw2]) (by simpa using hI)
    | false => exact Ev.neg (by simp) (Ev.is (by simp))
def flashB (a b c : Int) (l : List S218) (e f h : Int) : Bool := geoB a b c && decide ((l.length : Int) = a * b) && inB e (-1) 1000000 && inB f 0 91 && decide (0 ≤ h) && l.all (blkB c)
theorem geo_wrap {a b c : Int} (h : geoB a b c = true) : wrap64 (a * b) = a * b := by
  simp only [geoB, Bool.and_eq_true, inB_iff] at h
  obtain ⟨⟨h1, h2⟩, _⟩ := h
  have : a = 2 ∨ a = 3 := by omega
  rcases this with rfl | rfl <;> exact wrap_id (by omega) (by omega)
theorem s_flash (a b c : Int) (l : List S218) (e f : Int) (g : Bool) (h : Int) (hl : l.length ≤ 140737488351232) (hs : ∀ x ∈ l, x.f3.length ≤ 140737488351232) : Ev (fun k => spec_ValidFlash.f k a b c l e f g h) (flashB a b c l e f h) := by
  have step : ∀ z : Bool, Ev (fun k => spec_ValidFlash.j0 k z a b c l e f g h) (!z && l.all (blkB c)) := by
    intro z
    cases z with
    | true => exact Ev.step (fun k => by rw [spec_ValidFlash.j0]) (Ev.pos rfl (Ev.is (by simp)))
    | false => exact Ev.step (fun k => by rw [spec_ValidFlash.j0, if_neg (by simp)]) (by simpa using sFlash_loop l hl hs a b c e f g h l.length 0 (by omega) (by omega))
  have st : Ev (fun k => spec_ValidFlash.j0 k true a b c l e f g h) false := by simpa using step true
  unfold flashB spec_ValidFlash.f
  simp only [s_in, s_geo, Option.bind_some]
  cases e1 : geoB a b c with
  | false => exact Ev.congr (fun k => by rw [if_neg (by simp)]) (by simpa using st)
  | true =>
    rw [geo_wrap e1]
    by_cases c2 : (l.length : Int) = a * b
    · cases e3 : inB e (-1) 1000000 with
      | false => exact Ev.congr (fun k => by rw [if_pos rfl, if_pos c2, if_neg (by simp)]) (by simpa using st)
      | true =>
        cases e4 : inB f 0 91 with
        | false => exact Ev.congr (fun k => by rw [if_pos rfl, if_pos c2, if_pos rfl, if_neg (by simp)]) (by simpa using st)
        | true =>
          refine Ev.congr (fun k => by rw [if_pos rfl, if_pos c2, if_pos rfl, if_pos rfl]) ?_
          have h2 := step (decide (h < 0))
          by_cases c5 : h < 0
          · have c6 : ¬ 0 ≤ h := by omega
            simpa [c2, c5, c6] using h2
          · have c6 : 0 ≤ h := by omega
            simpa [c2, c5, c6] using h2
    · exact Ev.congr (fun k => by rw [if_pos rfl, if_neg c2]) (by simpa [c2] using st)
theorem anyO_ev {α : Type} (p : Nat → α → Option Bool) (q : α → Bool) : ∀ (l : List α), (∀ x ∈ l, Ev (fun k => p k x) (q x)) → Ev (fun k => anyO (p k) l) (l.any q)
  | [], _ => Ev.now _
  | x :: xs, h => by
    have ih := anyO_ev p q xs (fun y hy => h y (List.mem_cons_of_mem _ hy))
    refine Ev.congr (fun k => rfl) (Ev.bind (h x List.mem_cons_self) ?_)
    rw [List.any_cons]
    cases q x with
    | true => exact Ev.pos rfl (Ev.is (by simp))
    | false => exact Ev.neg (by simp) (by simpa using ih)
theorem i_flash (a b c : Int) (l : List S218) (e f : Int) (g : Bool) (h : Int) (hs : ∀ x ∈ l, x.f3.length ≤ 140737488351232) : Ev (fun k => impl_ValidFlash.f k a b c l e f g h) (flashB a b c l e f h) := by
  have hof : Ev (fun k => hof_210_211.f k l a b c l e f g h) (l.any (fun x => !blkB c x)) :=
    anyO_ev (fun k x => hof_210_211.p k a b c x) _ l (fun x hx => Ev.congr (fun k => rfl) (Ev.bind (i_block a b c x (hs x hx)) (Ev.now _)))
  unfold flashB impl_ValidFlash.f impl_Geometry_all.f
  simp only [i_in, i_geo, Option.bind_some]
  cases e1 : geoB a b c with
  | false => exact Ev.neg (by simp) (Ev.is (by simp))
  | true =>
    rw [geo_wrap e1]
    refine Ev.pos rfl ?_
    by_cases c2 : (l.length : Int) = a * b
    · refine Ev.pos c2 ?_
      cases e3 : inB e (-1) 1000000 with
      | false => exact Ev.neg (by simp) (Ev.is (by simp))
      | true =>
        refine Ev.pos rfl ?_
        cases e4 : inB f 0 91 with
        | false => exact Ev.neg (by simp) (Ev.is (by simp))
        | true =>
          refine Ev.pos rfl ?_
          by_cases c5 : h < 0
          · have c6 : ¬ 0 ≤ h := by omega
            exact Ev.pos c5 (Ev.is (by simp [c6]))
          · have c6 : 0 ≤ h := by omega
            refine Ev.neg c5 (Ev.bind hof ?_)
            have e7 : (!(l.any fun x => !blkB c x)) = l.all (blkB c) := by rw [List.not_any_eq_all_not]; simp
            rw [e7]
            exact Ev.is (by simp [c2, c6])
    · exact Ev.neg c2 (Ev.is (by simp [c2]))

/-! reading -/
def erasedB : ByteArray := ⟨(List.replicate 91 (255 : UInt8)).toArray⟩
set_option maxRecDepth 100000 in
theorem s_erased_at : spec_ErasedPage.f 100 = some erasedB := by kernel_rfl
theorem s_erased : Ev (fun k => spec_ErasedPage.f k) erasedB := Ev.of spec_ErasedPage.mono s_erased_at
theorem i_erased : impl_ErasedPage.f = some erasedB := rfl
def rawB (l : List S218) (blk pg : Int) : ByteArray := if (rdOf ByteArray.empty (rd_T218 l blk).f3 pg).toList = ([] : List UInt8) then erasedB else rdOf ByteArray.empty (rd_T218 l blk).f3 pg
def readB (a b c : Int) (l : List S218) (e f : Int) (g : Bool) (h blk pg : Int) : ByteArray × Int :=
  if flashB a b c l e f h = true then if g = true then (⟨#[]⟩, 8) else if (inB blk 0 ((l.length : Int) - 1) && inB pg 0 (c - 1)) = true then (rawB l blk pg, 0) else (⟨#[]⟩, 2) else (⟨#[]⟩, 1)
theorem flash_page {a b c : Int} {l : List S218} {e f h blk : Int} (hv : flashB a b c l e f h = true) (h0 : 0 ≤ blk) (h1 : blk < (l.length : Int)) : ((rd_T218 l blk).f3.length : Int) = c := by
  simp only [flashB, Bool.and_eq_true, List.all_eq_true] at hv
  have := hv.2 _ (rdT_mem218 h0 h1)
  simp only [blkB, Bool.and_eq_true, decide_eq_true_eq] at this
  exact this.1.2
theorem flash_geo {a b c : Int} {l : List S218} {e f h : Int} (hv : flashB a b c l e f h = true) : c = 8 ∨ c = 16 := by
  simp only [flashB, geoB, Bool.and_eq_true, Bool.or_eq_true, beq_iff_eq] at hv
  exact hv.1.1.1.1.1.2
theorem s_read (a b c : Int) (l : List S218) (e f : Int) (g : Bool) (h blk pg : Int) (hl : l.length ≤ 140737488351232) (hs : ∀ x ∈ l, x.f3.length ≤ 140737488351232) : Ev (fun k => spec_ReadRaw.f k a b c l e f g h blk pg) (readB a b c l e f g h blk pg) := by
  unfold spec_ReadRaw.f readB
  refine Ev.bind (s_flash a b c l e f g h hl hs) ?_
  cases hv : flashB a b c l e f h with
  | false => exact Ev.neg (by simp) (Ev.is (by simp))
  | true =>
    refine Ev.pos rfl ?_
    cases g with
    | true => exact Ev.pos rfl (Ev.is (by simp))
    | false =>
      have hc := flash_geo hv
      have hw1 : wrap64 ((l.length : Int) - 1) = (l.length : Int) - 1 := wrap_id (by omega) (by omega)
      have hw2 : wrap64 (c - 1) = c - 1 := wrap_id (by omega) (by omega)
      have hp : spec_l06HasPage.f a b c l e f false h blk pg = some (inB blk 0 ((l.length : Int) - 1) && inB pg 0 (c - 1)) := by
        unfold spec_l06HasPage.f spec_l06HasBlock.f
        rw [hw1, hw2, s_in, s_in]
        cases inB blk 0 ((l.length : Int) - 1) <;> simp
      refine Ev.neg (by simp) (Ev.via hp ?_)
      by_cases hi : (inB blk 0 ((l.length : Int) - 1) && inB pg 0 (c - 1)) = true
      · refine Ev.pos hi ?_
        rw [if_pos rfl, if_neg (by simp), if_pos hi]
        simp only [Bool.and_eq_true, inB_iff] at hi
        have hpl := flash_page hv hi.1.1 (show blk < (l.length : Int) by omega)
        unfold spec_l06Read.f rawB
        by_cases he : (rdOf ByteArray.empty (rd_T218 l blk).f3 pg).toList = ([] : List UInt8)
        · rw [if_pos he]
          exact Ev.bind (Ev.pos hi.1.1 (Ev.pos (by omega) (Ev.pos hi.2.1 (Ev.pos (by omega) (Ev.pos he (Ev.bind s_erased (Ev.now _))))))) (Ev.now _)
        · rw [if_neg he]
          exact Ev.bind (Ev.pos hi.1.1 (Ev.pos (by omega) (Ev.pos hi.2.1 (Ev.pos (by omega) (Ev.neg he (Ev.now _)))))) (Ev.now _)
      · exact Ev.neg hi (Ev.is (by rw [if_pos rfl, if_neg (by simp), if_neg hi]))
theorem i_read (a b c : Int) (l : List S218) (e f : Int) (g : Bool) (h blk pg : Int) (hl : l.length ≤ 140737488351232) (hs : ∀ x ∈ l, x.f3.length ≤ 140737488351232) : Ev (fun k => impl_ReadRaw.f k a b c l e f g h blk pg) (readB a b c l e f g h blk pg) := by
  unfold impl_ReadRaw.f readB
  refine Ev.bind (i_flash a b c l e f g h hs) ?_
  cases hv : flashB a b c l e f h with
  | false => exact Ev.neg (by simp) (Ev.is (by simp))
  | true =>
    refine Ev.pos rfl ?_
    unfold impl_Flash_read.f
    cases g with
    | true => exact Ev.is (by simp)
    | false =>
      have hc := flash_geo hv
      have hw1 : wrap64 ((l.length : Int) - 1) = (l.length : Int) - 1 := wrap_id (by omega) (by omega)
      have hw2 : wrap64 (c - 1) = c - 1 := wrap_id (by omega) (by omega)
      have hp : impl_Flash_place.f a b c l e f false h blk pg = some ((inB blk 0 ((l.length : Int) - 1) && inB pg 0 (c - 1)), a, b, c, e, f, false, h) := by
        unfold impl_Flash_place.f impl_isIndex.f
        rw [hw1, hw2, i_in, i_in]
        cases inB blk 0 ((l.length : Int) - 1) <;> simp
      rw [hp]
      simp only [Option.bind_some, Bool.false_eq_true, if_false]
      rw [if_pos trivial]
      by_cases hi : (inB blk 0 ((l.length : Int) - 1) && inB pg 0 (c - 1)) = true
      · rw [if_pos hi, if_pos hi]
        simp only [Bool.and_eq_true, inB_iff] at hi
        have hpl := flash_page hv hi.1.1 (show blk < (l.length : Int) by omega)
        unfold impl_Flash_raw.f rawB
        rw [if_pos hi.1.1, if_pos (by omega), if_pos hi.2.1, if_pos (by omega), i_erased]
        by_cases he : (rdOf ByteArray.empty (rd_T218 l blk).f3 pg).toList = ([] : List UInt8)
        · rw [if_pos he, if_pos he]
          exact Ev.now _
        · rw [if_neg he, if_neg he]
          exact Ev.now _
      · rw [if_neg hi, if_neg hi]
        exact Ev.now _

theorem FnExactReadRaw : laws_FnExactReadRaw.Pure := by
  intro x blk pg h hb hp
  refine Ev.rounds ?_
  have hl : (x.f1.map cv218).length ≤ 140737488351232 := by have := h.2.1.1; simp; omega
  have hs : ∀ y ∈ x.f1.map cv218, y.f3.length ≤ 140737488351232 := by
    intro y hy
    obtain ⟨z, hz, rfl⟩ := List.mem_map.1 hy
    have := (h.2.1.2 z hz).2.2.2.1
    show z.f3.length ≤ _
    omega
  obtain ⟨r, hr, h1⟩ := szFlash_ev x h
  unfold laws_FnExactReadRaw.f
  refine Ev.bind hr ?_
  by_cases hn : r < 0
  · exact Ev.congr (fun k => by rw [if_pos hn]) (Ev.now _)
  · refine Ev.congr (fun k => by rw [if_neg hn]) ?_
    refine Ev.bind (toFlash_ev x h) (Ev.bind (s_read _ _ _ _ _ _ _ _ blk pg hl hs) (Ev.bind (toFlash_ev x h) (Ev.bind (i_read _ _ _ _ _ _ _ _ blk pg hl hs) ?_)))
    refine Ev.congr (fun k => by rw [if_pos rfl]) ?_
    refine Ev.step (fun k => by rw [laws_FnExactReadRaw.j0, if_neg (by simp)]) ?_
    exact Ev.bind (toFlash_ev x h) (Ev.bind (eqFlash_ev _ _ _ _ _ _ _ _ hl hs) (Ev.congr (fun k => by rw [if_pos rfl]) (Ev.now _)))

end Go.Proofs.Ytokonpkecmnneaa.Pure
