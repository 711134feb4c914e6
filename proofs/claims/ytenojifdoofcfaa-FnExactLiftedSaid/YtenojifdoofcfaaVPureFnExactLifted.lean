/- Plain laws over the shapes. -/
import Derived.Test.YtenojifdoofcfaaPMQ
import Derived.Test.YtenojifdoofcfaaPPile
import Derived.Test.YtenojifdoofcfaaLFnExactLifted
import Derived.Test.YtenojifdoofcfaaFLifted
import Derived.Test.YtenojifdoofcfaaM
import Derived.Test.YtenojifdoofcfaaMQ
set_option linter.unusedVariables false
set_option linter.unusedSimpArgs false
set_option maxRecDepth 10000
namespace Go.Proofs.Ytenojifdoofcfaa.V
open Go
theorem lifted_ok (a0_0 : List Int) (a0_1 : Int) (a1 : Int) (ba0_0 : B1 1048576 a0_0) :
    ∃ (r0 : List Int) (r1 : Int) (r2 : List Int) (r3 : Bool), spec_Lifted a0_0 a0_1 a1 = some (r0, r1, r2, r3) ∧ impl_Lifted a0_0 a0_1 a1 = some (r0, r1, r2, r3) ∧ r0.length ≤ 2097152 ∧ r2.length ≤ 2097152 := by
  have hl := ba0_0.le
  have k := liftM_size a0_0 a0_1 a1
  have s := spec_Lifted_ok a0_0 a0_1 a1 hl
  have i := impl_Lifted_ok a0_0 a0_1 a1 hl
  generalize liftM a0_0 a0_1 a1 = m at k s i
  obtain ⟨x, y, z, v⟩ := m
  dsimp only at k
  exact ⟨_, _, _, _, s, i, by omega, by omega⟩
theorem laws_FnExactLifted_ok (a0_0 : List Int) (a0_1 : Int) (a1 : Int) (fa0_0 : F1 a0_0) : laws_FnExactLifted a0_0 a0_1 a1 = some true := by
  rw [laws_FnExactLifted_eq]
  obtain ⟨c1, e1, h⟩ := laws_szPile_sp a0_0 a0_1 1048576 fa0_0 (by omega) (by omega)
  rw [e1, Option.bind_some]
  rcases h with h | ⟨p1, q1, ra0_0⟩
  · rw [if_pos (decide_eq_true h)]
  rw [if_neg (by simp; omega)]
  have ba0_0 := ra0_0.mono (b' := 1048576) (by omega)
  obtain ⟨r0, r1, r2, r3, s1, s2, gr0, gr2⟩ := lifted_ok a0_0 a0_1 a1 ba0_0
  have ga0_0 := ba0_0.le
  have ta0_0 := ga0_0
  have tr0 := gr0
  have tr2 := gr2
  simp (disch := omega) only [↓bindF (laws_toPile_ok a0_0 a0_1 ga0_0), ↓bindF (laws_eqPile_self a0_0 a0_1 ga0_0), ↓bindF (laws_markPile_ok a0_0 a0_1 ga0_0 (1) (by omega) (by omega)), ↓bindF (laws_eqPile_self r0 r1 gr0), ↓bindF (laws_markPile_ok r0 r1 gr0 (1) (by omega) (by omega)), ↓bindF (laws_heldPile_ok r0 r1 gr0 (1) (by omega) (by omega)), ↓bindF (laws_eqIntS_self r2 gr2), ↓bindF (laws_markIntS_ok r2 gr2 (1 + (r0.length : Int)) (by omega) (by omega)), ↓bindF (laws_heldIntS_ok r2.length gr2 (1 + (r0.length : Int)) (by omega) (by omega)), ↓bindF s1, ↓bindF s2, ↓if_dpos, ↓if_dneg, bne_self_eq_false, Bool.not_true, Bool.false_eq_true, if_false]
theorem law_FnExactLifted (x : den (parTy HH 3)) (hx : Fit Try.prog (parTy HH 3) x) : ∃ n, frun Try.prog HH n 3 x = some true := by
  obtain ⟨a0_0, a0_1, a1⟩ := (x : (List Int) × Int × Int)
  obtain ⟨ha0_0, ha0_1, ha1⟩ := hx
  exact run_some (laws_FnExactLifted_ok a0_0 a0_1 a1 (fit1 ha0_0 (of_decide_eq_true (by kernel_rfl))))
end Go.Proofs.Ytenojifdoofcfaa.V
