/- Plain laws over the shapes. -/
import Derived.Test.YtdkhomhdapoeoaaPMD
import Derived.Test.YtdkhomhdapoeoaaPSwap
import Derived.Test.YtdkhomhdapoeoaaLFnExactSwapHidden
import Derived.Test.YtdkhomhdapoeoaaFSwapHidden
import Derived.Test.YtdkhomhdapoeoaaMD
set_option linter.unusedVariables false
set_option linter.unusedSimpArgs false
set_option maxRecDepth 10000
namespace Go.Proofs.Ytdkhomhdapoeoaa.V
open Go
theorem swapHidden_ok (a0_0 : List (List Int)) (a0_1 : Int) (a0_2 : Int) (a0_3 : List Int) (a0_4 : List Int) (a0_5 : List Int) (a0_6 : Int) (a1 : Int) (a2 : Int) (a3 : Int) (a4 : Int) (ba0_0 : B2 1048576 a0_0) (ba0_3 : B1 1048576 a0_3) (ba0_4 : B1 1048576 a0_4) (ba0_5 : B1 1048576 a0_5) :
    ∃ (r0 : List (List Int)) (r1 : Int) (r2 : Int) (r3 : List Int) (r4 : List Int) (r5 : List Int) (r6 : Int) (r7 : Bool), spec_SwapHidden a0_0 a0_1 a0_2 a0_3 a0_4 a0_5 a0_6 a1 a2 a3 a4 = some (r0, r1, r2, r3, r4, r5, r6, r7) ∧ impl_SwapHidden a0_0 a0_1 a0_2 a0_3 a0_4 a0_5 a0_6 a1 a2 a3 a4 = some (r0, r1, r2, r3, r4, r5, r6, r7) ∧ G2 r0 ∧ r3.length ≤ 2097152 ∧ r4.length ≤ 2097152 ∧ r5.length ≤ 2097152 := by
  have hh := ba0_0.g
  have h3 := ba0_3.le
  have hwo := ba0_4.le
  have hpo := ba0_5.le
  obtain ⟨r0, r7, e, k⟩ := swap_good a0_0 a0_1 a0_2 a0_3 a0_4 a0_5 a0_6 a1 a2 a3 a4 hh h3 hwo hpo
  have s := spec_SwapHidden_ok a0_0 a0_1 a0_2 a0_3 a0_4 a0_5 a0_6 a1 a2 a3 a4 hh h3 hwo hpo
  have i := impl_SwapHidden_ok a0_0 a0_1 a0_2 a0_3 a0_4 a0_5 a0_6 a1 a2 a3 a4 hh h3 hwo hpo
  rw [e] at s i
  exact ⟨_, _, _, _, _, _, _, _, s, i, k, h3, hwo, hpo⟩
theorem laws_FnExactSwapHidden_ok (a0_0 : List (List Int)) (a0_1 : Int) (a0_2 : Int) (a0_3 : List Int) (a0_4 : List Int) (a0_5 : List Int) (a0_6 : Int) (a1 : Int) (a2 : Int) (a3 : Int) (a4 : Int) (fa0_0 : F2 a0_0) (fa0_3 : F1 a0_3) (fa0_4 : F1 a0_4) (fa0_5 : F1 a0_5) : laws_FnExactSwapHidden a0_0 a0_1 a0_2 a0_3 a0_4 a0_5 a0_6 a1 a2 a3 a4 = some true := by
  rw [laws_FnExactSwapHidden_eq]
  obtain ⟨c1, e1, h⟩ := laws_szDeal_sp a0_0 a0_1 a0_2 a0_3 a0_4 a0_5 a0_6 1048576 fa0_0 fa0_3 fa0_4 fa0_5 (by omega) (by omega)
  rw [e1, Option.bind_some]
  rcases h with h | ⟨p1, q1, ra0_0, ra0_3, ra0_4, ra0_5⟩
  · rw [if_pos (decide_eq_true h)]
  rw [if_neg (by simp; omega)]
  have ba0_0 := ra0_0.mono (b' := 1048576) (by omega)
  have ba0_3 := ra0_3.mono (b' := 1048576) (by omega)
  have ba0_4 := ra0_4.mono (b' := 1048576) (by omega)
  have ba0_5 := ra0_5.mono (b' := 1048576) (by omega)
  obtain ⟨r0, r1, r2, r3, r4, r5, r6, r7, s1, s2, gr0, gr3, gr4, gr5⟩ := swapHidden_ok a0_0 a0_1 a0_2 a0_3 a0_4 a0_5 a0_6 a1 a2 a3 a4 ba0_0 ba0_3 ba0_4 ba0_5
  have ga0_0 := ba0_0.g
  have ga0_3 := ba0_3.le
  have ga0_4 := ba0_4.le
  have ga0_5 := ba0_5.le
  have ta0_0 := ga0_0.tle
  have ta0_3 := ga0_3
  have ta0_4 := ga0_4
  have ta0_5 := ga0_5
  have tr0 := gr0.tle
  have tr3 := gr3
  have tr4 := gr4
  have tr5 := gr5
  simp (disch := omega) only [↓bindF (laws_toDeal_ok a0_0 a0_1 a0_2 a0_3 a0_4 a0_5 a0_6 ga0_0 ga0_3 ga0_4 ga0_5), ↓bindF (laws_eqDeal_self a0_0 a0_1 a0_2 a0_3 a0_4 a0_5 a0_6 ga0_0 ga0_3 ga0_4 ga0_5), ↓bindF (laws_markDeal_ok a0_0 a0_1 a0_2 a0_3 a0_4 a0_5 a0_6 ga0_0 ga0_3 ga0_4 ga0_5 (1) (by omega) (by omega)), ↓bindF (laws_eqDeal_self r0 r1 r2 r3 r4 r5 r6 gr0 gr3 gr4 gr5), ↓bindF (laws_markDeal_ok r0 r1 r2 r3 r4 r5 r6 gr0 gr3 gr4 gr5 (1) (by omega) (by omega)), ↓bindF (laws_heldDeal_ok r0 r1 r2 r3 r4 r5 r6 gr0 gr3 gr4 gr5 (1) (by omega) (by omega)), ↓bindF s1, ↓bindF s2, ↓if_dpos, ↓if_dneg, bne_self_eq_false, Bool.not_true, Bool.false_eq_true, if_false]
theorem law_FnExactSwapHidden (x : den (parTy HH 5)) (hx : Fit Try.prog (parTy HH 5) x) : ∃ n, frun Try.prog HH n 5 x = some true := by
  obtain ⟨a0_0, a0_1, a0_2, a0_3, a0_4, a0_5, a0_6, a1, a2, a3, a4⟩ := (x : (List (List Int)) × Int × Int × (List Int) × (List Int) × (List Int) × Int × Int × Int × Int × Int)
  obtain ⟨ha0_0, ha0_1, ha0_2, ha0_3, ha0_4, ha0_5, ha0_6, ha1, ha2, ha3, ha4⟩ := hx
  exact run_some (laws_FnExactSwapHidden_ok a0_0 a0_1 a0_2 a0_3 a0_4 a0_5 a0_6 a1 a2 a3 a4 (fit2 ha0_0 (of_decide_eq_true (by kernel_rfl)) (of_decide_eq_true (by kernel_rfl))) (fit1 ha0_3 (of_decide_eq_true (by kernel_rfl))) (fit1 ha0_4 (of_decide_eq_true (by kernel_rfl))) (fit1 ha0_5 (of_decide_eq_true (by kernel_rfl))))
end Go.Proofs.Ytdkhomhdapoeoaa.V
