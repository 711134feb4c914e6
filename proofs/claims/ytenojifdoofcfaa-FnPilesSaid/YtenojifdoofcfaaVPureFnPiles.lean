/- Plain laws over the shapes. -/
import Derived.Test.YtenojifdoofcfaaPPileL
import Derived.Test.YtenojifdoofcfaaLFnPiles
import Derived.Test.YtenojifdoofcfaaFIsPile
import Derived.Test.YtenojifdoofcfaaFLifted
import Derived.Test.YtenojifdoofcfaaFStacked
import Derived.Test.YtenojifdoofcfaaS1
import Derived.Test.YtenojifdoofcfaaS3
import Derived.Test.YtenojifdoofcfaaS4
set_option linter.unusedVariables false
set_option linter.unusedSimpArgs false
set_option maxRecDepth 10000
namespace Go.Proofs.Ytenojifdoofcfaa.V
open Go
theorem piles_t3 (a0 : List Int) (ha : a0.length ≤ 1048576) : ((spec_DrawMayStack a0).bind fun c14 => ((impl_Stacked c14.1 c14.2.1 ([c14.2.2])).bind fun c15 => ((impl_MayStack c14.1 c14.2.1 c14.2.2).bind fun c16 => (some (c15.2.2 == c16))))) = some true := by
  obtain ⟨⟨p, hp, c⟩, e3, b5⟩ := DrawMayStack_tot ha
  dsimp only at b5
  rw [e3, Option.bind_some]
  dsimp only
  rw [impl_Stacked_ok _ _ _ (by omega) (by rw [List.length_singleton]; omega), Option.bind_some, impl_MayStack_ok _ _ _ (by omega), Option.bind_some, stackM_one]
  simp
theorem piles_t2 (a0 : List Int) (ha : a0.length ≤ 1048576) : ((spec_DrawStacked a0).bind fun c8 => ((impl_Stacked c8.1 c8.2.1 c8.2.2).bind fun c9 => (if c9.2.2 = true then (if (decide ((c8.2.2.length : Int) > 0)) = true then ((impl_IsPile c9.1 c9.2.1).bind fun c10 => (if (!c10) = true then (some false) else ((impl_TopOf c9.1 c9.2.1).bind fun c11 => (if 0 ≤ IntKind.i64.wrap ((c8.2.2.length : Int) - 1) then (if IntKind.i64.wrap ((c8.2.2.length : Int) - 1) < (c8.2.2.length : Int) then (if (c11 != (c8.2.2.getD ((IntKind.i64.wrap ((c8.2.2.length : Int) - 1)).toNat) 0)) = true then (some false) else ((impl_OpenCards c9.1 c9.2.1).bind fun c12 => ((impl_OpenCards c8.1 c8.2.1).bind fun c13 => (if (c12 != (IntKind.i64.wrap (c13 + (c8.2.2.length : Int)))) = true then (some false) else ((spec_DrawMayStack a0).bind fun c14 => ((impl_Stacked c14.1 c14.2.1 ([c14.2.2])).bind fun c15 => ((impl_MayStack c14.1 c14.2.1 c14.2.2).bind fun c16 => (some (c15.2.2 == c16))))))))) else none) else none)))) else ((spec_DrawMayStack a0).bind fun c17 => ((impl_Stacked c17.1 c17.2.1 ([c17.2.2])).bind fun c18 => ((impl_MayStack c17.1 c17.2.1 c17.2.2).bind fun c19 => (some (c18.2.2 == c19)))))) else ((spec_DrawMayStack a0).bind fun c20 => ((impl_Stacked c20.1 c20.2.1 ([c20.2.2])).bind fun c21 => ((impl_MayStack c20.1 c20.2.1 c20.2.2).bind fun c22 => (some (c21.2.2 == c22)))))))) = some true := by
  have t3 := piles_t3 a0 ha
  obtain ⟨⟨q, hq, cs⟩, e2, b2, b3, b4⟩ := DrawStacked_tot ha
  dsimp only at b2 b3 b4
  have hl := stackR_length q hq cs q
  have es := impl_Stacked_ok q hq cs (by omega) (by omega)
  rw [e2, Option.bind_some, bindF es]
  have hl : (stackM q hq cs).1.length ≤ 2000 := by unfold stackM; omega
  cases ho : (stackM q hq cs).2.2 with
  | false => rw [if_neg (by decide)]; exact t3
  | true =>
    obtain ⟨f1, f2, f3⟩ := stackM_facts b3 ho
    have w1 : IntKind.i64.wrap ((cs.length : Int) - 1) = ((cs.length - 1 : Nat) : Int) := by rw [wrap_id (by omega) (by omega)]; omega
    have ho2 : -3000 ≤ openM q hq ∧ openM q hq ≤ 3000 := by
      unfold openM
      split
      · have := pileM_hid (by assumption); omega
      · omega
    have w2 : IntKind.i64.wrap (openM q hq + (cs.length : Int)) = openM q hq + (cs.length : Int) := wrap_id (by omega) (by omega)
    simp (disch := omega) only [↓if_true, ↓if_dpos, ↓bindF (impl_IsPile_ok _ _ (by omega : (stackM q hq cs).1.length ≤ 4398046511104)), f1, Bool.not_true, Bool.false_eq_true, ↓if_false, ↓bindF (impl_TopOf_ok _ (stackM q hq cs).2.1 (by omega : (stackM q hq cs).1.length ≤ 4398046511104)), w1, ↓if_pos, Int.toNat_natCast, f2, bne_self_eq_false, ↓bindF (impl_OpenCards_ok (stackM q hq cs).1 (stackM q hq cs).2.1 (by omega)), ↓bindF (impl_OpenCards_ok q hq (by omega)), w2, f3]
    exact t3
theorem laws_FnPiles_ok (a0 : List Int) : laws_FnPiles a0 = some true := by
  rw [laws_FnPiles_eq, laws_big_eq, Option.bind_some]
  by_cases hb : (a0.length : Int) > 1048576
  · rw [if_dpos hb]
  rw [if_dneg hb]
  have ha : a0.length ≤ 1048576 := by omega
  have t2 := piles_t2 a0 ha
  obtain ⟨⟨l, h, n⟩, e1, b1⟩ := DrawLifted_tot ha
  dsimp only at b1
  have hs := liftM_size l h n
  rw [e1, Option.bind_some, bindF (impl_Lifted_ok l h n (by omega))]
  have i1 := impl_IsPile_ok (liftM l h n).1 (liftM l h n).2.1 (by omega)
  have i2 := impl_IsPile_ok l h (by omega)
  have i3 := impl_OpenCards_ok (liftM l h n).1 (liftM l h n).2.1 (by omega)
  have i4 := impl_OpenCards_ok l h (by omega)
  cases ho : (liftM l h n).2.2.2 with
  | true =>
    obtain ⟨f1, f2, f3, f4, f5, f6, f7⟩ := liftM_facts ho
    have w : IntKind.i64.wrap (((liftM l h n).1.length : Int) + n) = (l.length : Int) := by rw [wrap_id (by omega) (by omega)]; omega
    by_cases h0 : (0 : Int) < ((liftM l h n).1.length : Int)
    · have f4 := f4 (by omega)
      simp (disch := omega) only [↓if_true, ↓if_dpos, ↓if_dneg, ↓bindF i1, ↓bindF i2, ↓bindF i3, ↓bindF i4, f1, f2, f5, w, bne_self_eq_false, Bool.not_true, Bool.false_eq_true, ↓if_false, decide_eq_true f7, ↓t2]
    · simp (disch := omega) only [↓if_true, ↓if_dpos, ↓if_dneg, ↓bindF i1, ↓bindF i2, ↓bindF i3, ↓bindF i4, f1, f2, f5, w, bne_self_eq_false, Bool.not_true, Bool.false_eq_true, ↓if_false, decide_eq_true f7, ↓t2]
  | false =>
    obtain ⟨f1, f2⟩ := liftM_not ho
    cases hp : pileM l h with
    | false => simp (disch := omega) only [↓if_true, ↓if_dpos, ↓if_dneg, ↓bindF i1, ↓bindF i2, ↓bindF i3, ↓bindF i4, f1, hp, bne_self_eq_false, Bool.not_false, Bool.not_true, Bool.false_eq_true, ↓if_false, ↓t2]
    | true =>
      by_cases h1 : 1 ≤ n
      · have f2 : ¬ n ≤ openM l h := fun e => f2 ⟨h1, e⟩
        simp (disch := omega) only [↓if_true, ↓if_dpos, ↓if_dneg, ↓bindF i1, ↓bindF i2, ↓bindF i3, ↓bindF i4, f1, hp, bne_self_eq_false, Bool.not_false, Bool.not_true, Bool.false_eq_true, ↓if_false, decide_eq_false f2, ↓t2]
      · simp (disch := omega) only [↓if_true, ↓if_dpos, ↓if_dneg, ↓bindF i1, ↓bindF i2, ↓bindF i3, ↓bindF i4, f1, hp, bne_self_eq_false, Bool.not_false, Bool.not_true, Bool.false_eq_true, ↓if_false, ↓t2]
theorem law_FnPiles (x : den (parTy HH 9)) (hx : Fit Try.prog (parTy HH 9) x) : ∃ n, frun Try.prog HH n 9 x = some true := run_some (laws_FnPiles_ok x)
end Go.Proofs.Ytenojifdoofcfaa.V
