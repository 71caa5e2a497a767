/- Proved: the law laws.FnExactReadRaw of the program holds, as the row FnExactReadRawSaid states it: at every flash and every zone that the row's domain allows, the law's function returns true. Conditions: none beyond those of the row itself. -/
import Derived.Test.YtokonpkecmnneaaRows
import Derived.Test.YtokonpkecmnneaaQFnExactReadRawx8
import Derived.Test.YtokonpkecmnneaaPureFnExactReadRaw
import Derived.Test.YtokonpkecmnneaaHo
import Derived.Test.YtokonpkecmnneaaFcFnExactReadRaw
import Derived.WalkKit
import Derived.ProofKit
import Derived.OpenShut
import Derived.ShutString
import Derived.ChangeOld
import Derived.Below
import Derived.SizedLaws
import Derived.Carry
namespace Go.Proofs.Ytokonpkecmnneaa.fnExactReadRaw
open Go.ChangeShapes Go.WideShapes Go.ChangeAt Go.RowKit Go.Proofs.Ytokonpkecmnneaa.QFnExactReadRawx Go.Proofs.YtokonpkecmnneaaHo Go.Proofs.YtokonpkecmnneaaW.PrintWords
open Go.ChangeMaps (open_string shut_string)
set_option linter.unusedVariables false
set_option linter.unusedSimpArgs false
theorem own : ownKnob Try.prog.godebug = none := by kernel_rfl
theorem laidOut : laidOutB Try.prog = true := YtokonpkecmnneaaFb.laid
set_option maxRecDepth 100000 in
theorem lifted (os : Os) (started : os.Started) (H : Type) (enc : TypeId × Value → H) :
    ReturnsInHanded {} Try.checked os 4 .any (Rows.fnExactReadRawSpec.pre6 enc Try.prog Try.f4 Rows.fnExactReadRawRow.domain false) (Rows.fnExactReadRawSpec.post enc Try.prog Try.f4 false true false false) := by
  refine returnsInHanded_of_change_sized (C := Try.checked) own started (by kernel_rfl) Try.func4
    (ChangeSpec.witness6 (enc := enc) (C := Try.checked) false ⟨#[], #[.agg #[(.int .i64 0), (.int .i64 0), (.int .i64 0), (.slice none 0 0), (.int .i64 0), (.int .i64 0), (.bool false), (.int .i64 0)], .int .i64 0, .int .i64 0], []⟩ 8 (by kernel_rfl) (by kernel_rfl) (by kernel_rfl) (by kernel_rfl)) ?_
  intro W base args ds gs before hval0 hW hcnd hsz0 _
  have hsz : (DataW.weightsEach Try.prog (Try.f4.params.toList ++ Rows.fnExactReadRawSpec.plain.varTypes Try.prog) (ds ++ gs)).all (· ≤ reachBytes) = true := hsz0
  have hval : ∀ (j : Nat) t v, Try.f4.params[j]? = some t → args[j]? = some v → Value.okWide Try.prog W .any base t v := hval0
  have hW' := hW
  obtain ⟨p, q, hA0, hV, rfl, hfz, hnd⟩ := hW
  have hA : DataW.TrodAll enc Try.prog W 0 (fun _ => true) true Try.f4.params.toList args.toList ds p := hA0
  rw [Try.params4] at hA hval hsz
  obtain ⟨v0, vs0, d0, ds0, p0, q0, hargs, rfl, rfl, h0, r0⟩ := trodAll_cons hA
  obtain ⟨v1, vs1, d1, ds1, p1, q1, rfl, rfl, rfl, h1, r1⟩ := trodAll_cons r0
  obtain ⟨v2, vs2, d2, ds2, p2, q2, rfl, rfl, rfl, h2, r2⟩ := trodAll_cons r1
  obtain ⟨rfl, rfl, rfl⟩ := trodAll_nil r2
  obtain rfl : args = #[v0, v1, v2] := by cases args; simp_all
  obtain ⟨rfl, rfl⟩ := trodVars_none hV
  have k0 := h0
  have lt0 : ∀ x ∈ p0, x.block < W.heap.size := by obtain ⟨m, hm⟩ := k0; exact DataW.trod_lt m _ _ _ hm
  obtain ⟨b0, rfl, _⟩ := okWide_struct Try.underlying38 (hval 0 38 v0 rfl rfl)
  obtain ⟨a0, K0, w0⟩ := Opn.arg opS_38 hsz (j := 0) rfl rfl h0
  obtain ⟨A0_3, c0_3, e0, l0_3, g0_3⟩ := k38_open (show k38.K W a0 b0.toList from K0)
  obtain rfl : b0 = #[.int .i64 a0.f0.f0, .int .i64 a0.f0.f1, .int .i64 a0.f0.f2, .slice A0_3 a0.f1.length c0_3, .int .i64 a0.f2, .int .i64 a0.f3, .bool a0.f4, .int .i64 a0.f5] := by apply Array.toList_inj.1; exact e0
  obtain ⟨a1, rfl, rfl, rfl, w1⟩ := open_int Try.underlying2 (hval 1 2 v1 rfl rfl) h1
  obtain ⟨a2, rfl, rfl, rfl, w2⟩ := open_int Try.underlying2 (hval 2 2 v2 rfl rfl) h2
  clear hA0 hval0 hsz0
  obtain ⟨k, hp⟩ := Pure.FnExactReadRaw a0 a1 a2 w0 (by simpa [Lit.wf, inK] using w1) (by simpa [Lit.wf, inK] using w2)
  refine (laws_FnExactReadRaw.calls k a0.f0.f0 a0.f0.f1 a0.f0.f2 _ _ a0.f1 a0.f2 a0.f3 a0.f4 a0.f5 a1 a2 true W g0_3 l0_3 hp).mono fun e W' ⟨he, bel0⟩ => ?_
  have bel : Below W.heap.size W W' := bel0
  subst he
  exact ⟨_, rfl, _, _, _, [], _, [], hW', trodAll_mk1 (shut_bool Try.underlying4 _), (trodAll_cons_mk (Below.trod laidOut (by kernel_rfl) (of_decide_eq_true (by kernel_rfl)) k0 bel lt0) (trodAll_cons_mk (shut_int Try.underlying2 w1) (trodAll_cons_mk (shut_int Try.underlying2 w2) trodAll_mk0))), rfl, bel.frame _, fun h => by cases h⟩
theorem over : Rows.fnExactReadRawRow.holds Try.pinned (OpenSpec.ofChange Rows.fnExactReadRawSpec) :=
  OpenClaim.holds_of_wide 4 Try.f4 rfl rfl rfl rfl rfl rfl rfl ⟨rfl, rfl, rfl, rfl, rfl⟩ rfl rfl rfl rfl rfl (by kernel_rfl) Try.func4 closed
    (of_decide_eq_true (by kernel_rfl)) (by unfold Func.isWrapper; first | (rw [if_pos (by decide +kernel)]; kernel_rfl) | (rw [if_neg (by decide +kernel)]; exact ⟨rfl, rfl⟩))
    (fun os started H enc _ => lifted os started H enc)
theorem proved : Rows.FnExactReadRawSaid := over
#print axioms proved
end Go.Proofs.Ytokonpkecmnneaa.fnExactReadRaw
namespace Go.Proofs.Ytokonpkecmnneaa
/-- The row, under a short name, for the claim. -/
theorem fnExactReadRaw_holds : Rows.FnExactReadRawSaid := fnExactReadRaw.proved
end Go.Proofs.Ytokonpkecmnneaa
