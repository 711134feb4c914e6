/- Plain laws over the shapes. -/
import Derived.Test.YtoioaijpdiglfaaPM
import Derived.Test.YtoioaijpdiglfaaPRot
import Derived.Test.YtoioaijpdiglfaaLFnExactRotateKinds
import Derived.Test.YtoioaijpdiglfaaFRotateKinds
import Derived.Test.YtoioaijpdiglfaaM
set_option linter.unusedVariables false
set_option linter.unusedSimpArgs false
set_option maxRecDepth 10000
namespace Go.Proofs.Ytoioaijpdiglfaa.V
open Go
theorem rotateKinds_ok (a0 : List Int) (a1 : Int) (ba0 : B1 1048576 a0) :
    ∃ (r0 : List Int), spec_RotateKinds a0 a1 = some r0 ∧ impl_RotateKinds a0 a1 = some r0 ∧ r0.length ≤ 2097152 := by
  have h := ba0.nat
  refine ⟨_, spec_RotateKinds_ok _ _ h, impl_RotateKinds_ok _ _ h, ?_⟩
  split
  · exact Nat.zero_le _
  · rw [rotM_length]; omega
theorem laws_FnExactRotateKinds_ok (a0 : List Int) (a1 : Int) (fa0 : F1 a0) : laws_FnExactRotateKinds a0 a1 = some true := by
  rw [laws_FnExactRotateKinds_eq]
  by_cases h : (a0.length : Int) > 1048576
  · rw [if_pos (decide_eq_true h)]
  rw [if_neg (by simpa using h)]
  have ba0 : B1 1048576 a0 := by unfold B1; omega
  clear h
  obtain ⟨r0, s1, s2, gr0⟩ := rotateKinds_ok a0 a1 ba0
  have ga0 := ba0.le
  have ta0 := ga0
  have tr0 := gr0
  simp (disch := omega) only [↓bindF (laws_toIntS_ok a0 ga0), ↓bindF (laws_eqIntS_self a0 ga0), ↓bindF (laws_markIntS_ok a0 ga0 (1) (by omega) (by omega)), ↓bindF (laws_eqIntS_self r0 gr0), ↓bindF (laws_markIntS_ok r0 gr0 (1) (by omega) (by omega)), ↓bindF (laws_heldIntS_ok r0.length gr0 (1) (by omega) (by omega)), ↓bindF s1, ↓bindF s2, ↓if_dpos, ↓if_dneg, bne_self_eq_false, Bool.not_true, Bool.false_eq_true, if_false]
theorem law_FnExactRotateKinds (x : den (parTy HH 3)) (hx : Fit Try.prog (parTy HH 3) x) : ∃ n, frun Try.prog HH n 3 x = some true := by
  obtain ⟨a0, a1⟩ := (x : (List Int) × Int)
  obtain ⟨ha0, ha1⟩ := hx
  exact run_some (laws_FnExactRotateKinds_ok a0 a1 (fit1 ha0 (of_decide_eq_true (by kernel_rfl))))
end Go.Proofs.Ytoioaijpdiglfaa.V
