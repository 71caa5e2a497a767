/- Proved: the law laws.FnExactRoomIn of the program holds, as the row FnExactRoomInSaid states it: at every device and every zone that the row allows, the law answers true. Conditions: none beyond those of the row itself. -/
import Derived.Test.YtokonpkecmnneaaRows
import Derived.Test.YtokonpkecmnneaaQFnExactRoomInx17
import Derived.Test.YtokonpkecmnneaaPureFnExactRoomIn
import Derived.Test.YtokonpkecmnneaaHo
import Derived.Test.YtokonpkecmnneaaFcFnExactRoomIn
import Derived.WalkKit
import Derived.ProofKit
import Derived.OpenShut
import Derived.ShutString
import Derived.ChangeOld
import Derived.Below
import Derived.SizedLaws
import Derived.Carry
namespace Go.Proofs.Ytokonpkecmnneaa.fnExactRoomIn
open Go.ChangeShapes Go.WideShapes Go.ChangeAt Go.RowKit Go.Proofs.Ytokonpkecmnneaa.QFnExactRoomInx Go.Proofs.YtokonpkecmnneaaHo Go.Proofs.YtokonpkecmnneaaW.PrintWords
open Go.ChangeMaps (open_string shut_string)
set_option linter.unusedVariables false
set_option linter.unusedSimpArgs false
theorem own : ownKnob Try.prog.godebug = none := by kernel_rfl
theorem laidOut : laidOutB Try.prog = true := YtokonpkecmnneaaFb.laid
set_option maxRecDepth 100000 in
theorem lifted (os : Os) (started : os.Started) (H : Type) (enc : TypeId × Value → H) :
    ReturnsInHanded {} Try.checked os 13 .any (Rows.fnExactRoomInSpec.pre6 enc Try.prog Try.f13 Rows.fnExactRoomInRow.domain false) (Rows.fnExactRoomInSpec.post enc Try.prog Try.f13 false true false false) := by
  refine returnsInHanded_of_change_sized (C := Try.checked) own started (by kernel_rfl) Try.func13
    (ChangeSpec.witness6 (enc := enc) (C := Try.checked) false ⟨#[], #[.agg #[(.int .i64 0), (.int .i64 0), (.int .i64 0), (.slice none 0 0), (.int .i64 0), (.int .i64 0), (.bool false), (.int .i64 0), (.slice none 0 0)], .int .i64 0], []⟩ 8 (by kernel_rfl) (by kernel_rfl) (by kernel_rfl) (by kernel_rfl)) ?_
  intro W base args ds gs before hval0 hW hcnd hsz0 _
  have hsz : (DataW.weightsEach Try.prog (Try.f13.params.toList ++ Rows.fnExactRoomInSpec.plain.varTypes Try.prog) (ds ++ gs)).all (· ≤ reachBytes) = true := hsz0
  have hval : ∀ (j : Nat) t v, Try.f13.params[j]? = some t → args[j]? = some v → Value.okWide Try.prog W .any base t v := hval0
  have hW' := hW
  obtain ⟨p, q, hA0, hV, rfl, hfz, hnd⟩ := hW
  have hA : DataW.TrodAll enc Try.prog W 0 (fun _ => true) true Try.f13.params.toList args.toList ds p := hA0
  rw [Try.params13] at hA hval hsz
  obtain ⟨v0, vs0, d0, ds0, p0, q0, hargs, rfl, rfl, h0, r0⟩ := trodAll_cons hA
  obtain ⟨v1, vs1, d1, ds1, p1, q1, rfl, rfl, rfl, h1, r1⟩ := trodAll_cons r0
  obtain ⟨rfl, rfl, rfl⟩ := trodAll_nil r1
  obtain rfl : args = #[v0, v1] := by cases args; simp_all
  obtain ⟨rfl, rfl⟩ := trodVars_none hV
  have k0 := h0
  have lt0 : ∀ x ∈ p0, x.block < W.heap.size := by obtain ⟨m, hm⟩ := k0; exact DataW.trod_lt m _ _ _ hm
  obtain ⟨b0, rfl, _⟩ := okWide_struct Try.underlying121 (hval 0 121 v0 rfl rfl)
  obtain ⟨a0, K0, w0⟩ := Opn.arg opS_121 hsz (j := 0) rfl rfl h0
  obtain ⟨A0_3, c0_3, A0_8, c0_8, e0, l0_3, g0_3, l0_8, g0_8⟩ := k121_open (show k121.K W a0 b0.toList from K0)
  obtain rfl : b0 = #[.int .i64 a0.f0.f0.f0, .int .i64 a0.f0.f0.f1, .int .i64 a0.f0.f0.f2, .slice A0_3 a0.f0.f1.length c0_3, .int .i64 a0.f0.f2, .int .i64 a0.f0.f3, .bool a0.f0.f4, .int .i64 a0.f0.f5, .slice A0_8 a0.f1.length c0_8] := by apply Array.toList_inj.1; exact e0
  obtain ⟨a1, rfl, rfl, rfl, w1⟩ := open_int Try.underlying2 (hval 1 2 v1 rfl rfl) h1
  clear hA0 hval0 hsz0
  obtain ⟨k, hp⟩ := Pure.FnExactRoomIn a0 a1 w0 (by simpa [Lit.wf, inK] using w1)
  refine (laws_FnExactRoomIn.calls k a0.f0.f0.f0 a0.f0.f0.f1 a0.f0.f0.f2 _ _ a0.f0.f1 a0.f0.f2 a0.f0.f3 a0.f0.f4 a0.f0.f5 _ _ a0.f1 a1 true W g0_3 l0_3 g0_8 l0_8 hp).mono fun e W' ⟨he, bel0⟩ => ?_
  have bel : Below W.heap.size W W' := bel0
  subst he
  exact ⟨_, rfl, _, _, _, [], _, [], hW', trodAll_mk1 (shut_bool Try.underlying4 _), (trodAll_cons_mk (Below.trod laidOut (by kernel_rfl) (of_decide_eq_true (by kernel_rfl)) k0 bel lt0) (trodAll_cons_mk (shut_int Try.underlying2 w1) trodAll_mk0)), rfl, bel.frame _, fun h => by cases h⟩
theorem over : Rows.fnExactRoomInRow.holds Try.pinned (OpenSpec.ofChange Rows.fnExactRoomInSpec) :=
  OpenClaim.holds_of_wide 13 Try.f13 rfl rfl rfl rfl rfl rfl rfl ⟨rfl, rfl, rfl, rfl, rfl⟩ rfl rfl rfl rfl rfl (by kernel_rfl) Try.func13 closed
    (of_decide_eq_true (by kernel_rfl)) (by unfold Func.isWrapper; first | (rw [if_pos (by decide +kernel)]; kernel_rfl) | (rw [if_neg (by decide +kernel)]; exact ⟨rfl, rfl⟩))
    (fun os started H enc _ => lifted os started H enc)
theorem proved : Rows.FnExactRoomInSaid := over
#print axioms proved
end Go.Proofs.Ytokonpkecmnneaa.fnExactRoomIn
namespace Go.Proofs.Ytokonpkecmnneaa
/-- The row, under a short name, for the claim. -/
theorem fnExactRoomIn_holds : Rows.FnExactRoomInSaid := fnExactRoomIn.proved
end Go.Proofs.Ytokonpkecmnneaa
