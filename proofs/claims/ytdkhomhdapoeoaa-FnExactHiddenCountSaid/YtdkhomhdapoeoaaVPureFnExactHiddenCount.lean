/- Plain laws over the shapes. -/
import Derived.Test.YtdkhomhdapoeoaaPMP
import Derived.Test.YtdkhomhdapoeoaaLFnExactHiddenCount
import Derived.Test.YtdkhomhdapoeoaaFHiddenCount
import Derived.Test.YtdkhomhdapoeoaaMP
set_option linter.unusedVariables false
set_option linter.unusedSimpArgs false
set_option maxRecDepth 10000
namespace Go.Proofs.Ytdkhomhdapoeoaa.V
open Go
theorem hiddenCount_ok (a0_0 : Int) (a0_1 : List Int) (a0_2 : Int) (a0_3 : Int) (a0_4 : Int) (a0_5 : List Int) (a0_6 : Int) (a0_7 : Int) (ba0_1 : B1 1048576 a0_1) (ba0_5 : B1 1048576 a0_5) :
    ∃ (r0 : Int), spec_HiddenCount a0_0 a0_1 a0_2 a0_3 a0_4 a0_5 a0_6 a0_7 = some r0 ∧ impl_HiddenCount a0_0 a0_1 a0_2 a0_3 a0_4 a0_5 a0_6 a0_7 = some r0 := by
  exact ⟨_, spec_HiddenCount_eq _ _ _ _ _ _ _ _, impl_HiddenCount_eq _ _ _ _ _ _ _ _⟩
theorem laws_FnExactHiddenCount_ok (a0_0 : Int) (a0_1 : List Int) (a0_2 : Int) (a0_3 : Int) (a0_4 : Int) (a0_5 : List Int) (a0_6 : Int) (a0_7 : Int) (fa0_1 : F1 a0_1) (fa0_5 : F1 a0_5) : laws_FnExactHiddenCount a0_0 a0_1 a0_2 a0_3 a0_4 a0_5 a0_6 a0_7 = some true := by
  rw [laws_FnExactHiddenCount_eq]
  obtain ⟨c1, e1, h⟩ := laws_szPeek_sp a0_0 a0_1 a0_2 a0_3 a0_4 a0_5 a0_6 a0_7 1048576 fa0_1 fa0_5 (by omega) (by omega)
  rw [e1, Option.bind_some]
  rcases h with h | ⟨p1, q1, ra0_1, ra0_5⟩
  · rw [if_pos (decide_eq_true h)]
  rw [if_neg (by simp; omega)]
  have ba0_1 := ra0_1.mono (b' := 1048576) (by omega)
  have ba0_5 := ra0_5.mono (b' := 1048576) (by omega)
  obtain ⟨r0, s1, s2⟩ := hiddenCount_ok a0_0 a0_1 a0_2 a0_3 a0_4 a0_5 a0_6 a0_7 ba0_1 ba0_5
  have ga0_1 := ba0_1.le
  have ga0_5 := ba0_5.le
  have ta0_1 := ga0_1
  have ta0_5 := ga0_5
  simp (disch := omega) only [↓bindF (laws_toPeek_ok a0_0 a0_1 a0_2 a0_3 a0_4 a0_5 a0_6 a0_7 ga0_1 ga0_5), ↓bindF (laws_eqPeek_self a0_0 a0_1 a0_2 a0_3 a0_4 a0_5 a0_6 a0_7 ga0_1 ga0_5), ↓bindF s1, ↓bindF s2, ↓if_dpos, ↓if_dneg, bne_self_eq_false, Bool.not_true, Bool.false_eq_true, if_false]
theorem law_FnExactHiddenCount (x : den (parTy HH 10)) (hx : Fit Try.prog (parTy HH 10) x) : ∃ n, frun Try.prog HH n 10 x = some true := by
  obtain ⟨a0_0, a0_1, a0_2, a0_3, a0_4, a0_5, a0_6, a0_7⟩ := (x : Int × (List Int) × Int × Int × Int × (List Int) × Int × Int)
  obtain ⟨ha0_0, ha0_1, ha0_2, ha0_3, ha0_4, ha0_5, ha0_6, ha0_7⟩ := hx
  exact run_some (laws_FnExactHiddenCount_ok a0_0 a0_1 a0_2 a0_3 a0_4 a0_5 a0_6 a0_7 (fit1 ha0_1 (of_decide_eq_true (by kernel_rfl))) (fit1 ha0_5 (of_decide_eq_true (by kernel_rfl))))
end Go.Proofs.Ytdkhomhdapoeoaa.V
