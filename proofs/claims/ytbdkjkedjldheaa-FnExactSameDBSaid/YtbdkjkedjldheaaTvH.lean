/- What the law answers. Conditions: none. -/
import Derived.Test.YtbdkjkedjldheaaTvG
namespace Go.Proofs.YtbdkjkedjldheaaTv.Ytbdkjkedjldheaa
set_option linter.unusedVariables false
set_option linter.unusedSimpArgs false
open Go Go.Proofs.YtbdkjkedjldheaaTv Go.Proofs
set_option maxRecDepth 10000
theorem law (x y : DB) (hx : Enc.small 140737488351232 x) (hy : Enc.small 140737488351232 y) : Den E 3 [Arg.t false x, Arg.t false y] (.bool true) := by
  obtain ⟨rx, hdx, hlx, hsx⟩ := szDB x 1048576 (by omega) (by omega) hx
  refine den_is (den_of rfl (fnOf_eq Try.func3 (by decide)) rfl rfl rfl ?_)
  conv => arg 1; ext k m; whnf
  refine Evs.bnd hdx (args2 false false x (1048576 : Int)) ?_
  conv => arg 1; ext k m; whnf
  refine Evs.cond (fun h => ?_) (fun h => ?_)
  · conv => arg 1; ext k m; whnf
    exact Evs.is rfl
  have hx0 := lt_ff h
  have hx1 := hsx (by omega)
  obtain ⟨ry, hdy, hly, hsy⟩ := szDB y rx (by omega) (by omega) hy
  conv => arg 1; ext k m; whnf
  refine Evs.bnd hdy (args2 false false y rx) ?_
  conv => arg 1; ext k m; whnf
  refine Evs.cond (fun h => ?_) (fun h => ?_)
  · conv => arg 1; ext k m; whnf
    exact Evs.is rfl
  have hy0 := lt_ff h
  have hy1 := hsy (by omega)
  conv => arg 1; ext k m; whnf
  refine Evs.bnd (toDB x hx1) (args1 false x) ?_
  conv => arg 1; ext k m; whnf
  refine Evs.bnd (toDB y hy1) (args1 false y) ?_
  conv => arg 1; ext k m; whnf
  obtain ⟨bs, hds, hbs⟩ := spSameDB x y hx1
  refine Evs.bnd hds (args2 true true x y) ?_
  conv => arg 1; ext k m; whnf
  refine Evs.bnd (toDB x hx1) (args1 false x) ?_
  conv => arg 1; ext k m; whnf
  refine Evs.bnd (toDB y hy1) (args1 false y) ?_
  conv => arg 1; ext k m; whnf
  obtain ⟨bi, hdi, hbi⟩ := sameDB x y hx1
  refine Evs.bnd hdi (args2 true true x y) ?_
  have hb : bi = bs := by rw [Bool.eq_iff_iff, hbi, hbs]
  subst hb
  conv => arg 1; ext k m; whnf
  refine Evs.ff (by simp) ?_
  conv => arg 1; ext k m; whnf
  refine Evs.bnd (toDB x hx1) (args1 false x) ?_
  conv => arg 1; ext k m; whnf
  obtain ⟨b1, hd1, hb1⟩ := eqDB x x hx1
  have hb1 : b1 = true := hb1.2 rfl
  subst hb1
  refine Evs.bnd hd1 (args2 true true x x) ?_
  conv => arg 1; ext k m; whnf
  refine Evs.bnd (toDB y hy1) (args1 false y) ?_
  conv => arg 1; ext k m; whnf
  obtain ⟨b2, hd2, hb2⟩ := eqDB y y hy1
  have hb2 : b2 = true := hb2.2 rfl
  subst hb2
  refine Evs.bnd hd2 (args2 true true y y) ?_
  conv => arg 1; ext k m; whnf
  exact Evs.is rfl
end Go.Proofs.YtbdkjkedjldheaaTv.Ytbdkjkedjldheaa
