/- Plain laws over the shapes. -/
import Derived.Test.YtenojifdoofcfaaPMQ
import Derived.Test.YtenojifdoofcfaaPPile
import Derived.Test.YtenojifdoofcfaaLFnExactStacked
import Derived.Test.YtenojifdoofcfaaFStacked
import Derived.Test.YtenojifdoofcfaaM
import Derived.Test.YtenojifdoofcfaaMQ
set_option linter.unusedVariables false
set_option linter.unusedSimpArgs false
set_option maxRecDepth 10000
namespace Go.Proofs.Ytenojifdoofcfaa.V
open Go
theorem stacked_ok (a0_0 : List Int) (a0_1 : Int) (a1 : List Int) (ba0_0 : B1 1048576 a0_0) (ba1 : B1 1048576 a1) :
    ∃ (r0 : List Int) (r1 : Int) (r2 : Bool), spec_Stacked a0_0 a0_1 a1 = some (r0, r1, r2) ∧ impl_Stacked a0_0 a0_1 a1 = some (r0, r1, r2) ∧ r0.length ≤ 2097152 := by
  have hl := ba0_0.nat
  have hc := ba1.nat
  have k : (stackM a0_0 a0_1 a1).1.length ≤ _ := stackR_length a0_0 a0_1 a1 a0_0
  have s := spec_Stacked_ok a0_0 a0_1 a1 (by omega) (by omega)
  have i := impl_Stacked_ok a0_0 a0_1 a1 (by omega) (by omega)
  generalize stackM a0_0 a0_1 a1 = m at k s i
  obtain ⟨x, y, z⟩ := m
  dsimp only at k
  exact ⟨_, _, _, s, i, by omega⟩
theorem laws_FnExactStacked_ok (a0_0 : List Int) (a0_1 : Int) (a1 : List Int) (fa0_0 : F1 a0_0) (fa1 : F1 a1) : laws_FnExactStacked a0_0 a0_1 a1 = some true := by
  rw [laws_FnExactStacked_eq]
  by_cases h : (a1.length : Int) > 1048576
  · rw [if_pos (decide_eq_true h)]
  rw [if_neg (by simpa using h)]
  have ba1 : B1 1048576 a1 := by unfold B1; omega
  clear h
  obtain ⟨c1, e1, h⟩ := laws_szPile_sp a0_0 a0_1 1048576 fa0_0 (by omega) (by omega)
  rw [e1, Option.bind_some]
  rcases h with h | ⟨p1, q1, ra0_0⟩
  · rw [if_pos (decide_eq_true h)]
  rw [if_neg (by simp; omega)]
  have ba0_0 := ra0_0.mono (b' := 1048576) (by omega)
  obtain ⟨r0, r1, r2, s1, s2, gr0⟩ := stacked_ok a0_0 a0_1 a1 ba0_0 ba1
  have ga0_0 := ba0_0.le
  have ga1 := ba1.le
  have ta0_0 := ga0_0
  have ta1 := ga1
  have tr0 := gr0
  simp (disch := omega) only [↓bindF (laws_toPile_ok a0_0 a0_1 ga0_0), ↓bindF (laws_toIntS_ok a1 ga1), ↓bindF (laws_eqPile_self a0_0 a0_1 ga0_0), ↓bindF (laws_eqIntS_self a1 ga1), ↓bindF (laws_markPile_ok a0_0 a0_1 ga0_0 (1) (by omega) (by omega)), ↓bindF (laws_markIntS_ok a1 ga1 (1 + (a0_0.length : Int)) (by omega) (by omega)), ↓bindF (laws_eqPile_self r0 r1 gr0), ↓bindF (laws_markPile_ok r0 r1 gr0 (1) (by omega) (by omega)), ↓bindF (laws_heldPile_ok r0 r1 gr0 (1) (by omega) (by omega)), ↓bindF s1, ↓bindF s2, ↓if_dpos, ↓if_dneg, bne_self_eq_false, Bool.not_true, Bool.false_eq_true, if_false]
theorem law_FnExactStacked (x : den (parTy HH 4)) (hx : Fit Try.prog (parTy HH 4) x) : ∃ n, frun Try.prog HH n 4 x = some true := by
  obtain ⟨a0_0, a0_1, a1⟩ := (x : (List Int) × Int × List Int)
  obtain ⟨ha0_0, ha0_1, ha1⟩ := hx
  exact run_some (laws_FnExactStacked_ok a0_0 a0_1 a1 (fit1 ha0_0 (of_decide_eq_true (by kernel_rfl))) (fit1 ha1 (of_decide_eq_true (by kernel_rfl))))
end Go.Proofs.Ytenojifdoofcfaa.V
