/- Plain laws over the shapes. -/
import Derived.Test.YthppocflbgnjlaaDoorPSheetT
import Derived.Test.YthppocflbgnjlaaDoorPM
import Derived.Test.YthppocflbgnjlaaDoorLFnExactSheetText
import Derived.Test.YthppocflbgnjlaaDoorFSheetText
import Derived.Test.YthppocflbgnjlaaDoorM
set_option linter.unusedVariables false
set_option linter.unusedSimpArgs false
set_option maxRecDepth 10000
namespace Go.Proofs.YthppocflbgnjlaaDoor.V
open Go
theorem sheetText_ok (a0 : Int) (a1 : List (List Int)) (ba1 : B2 1048576 a1) :
    ∃ (r0 : ByteArray), spec_SheetText a0 a1 = some r0 ∧ impl_SheetText a0 a1 = some r0 := by
  exact ⟨_, spec_SheetText_ok a0 a1 ba1.g, impl_SheetText_ok a0 a1 ba1.g⟩
theorem laws_FnExactSheetText_ok (a0 : Int) (a1 : List (List Int)) (fa1 : F2 a1) : laws_FnExactSheetText a0 a1 = some true := by
  rw [laws_FnExactSheetText_eq]
  obtain ⟨c1, e1, h⟩ := laws_szIntSS_sp a1 1048576 fa1 (by omega) (by omega)
  rw [e1, Option.bind_some]
  rcases h with h | ⟨p1, q1, ra1⟩
  · rw [if_pos (decide_eq_true h)]
  rw [if_neg (by simp; omega)]
  have ba1 := ra1.mono (b' := 1048576) (by omega)
  obtain ⟨r0, s1, s2⟩ := sheetText_ok a0 a1 ba1
  have ga1 := ba1.g
  have ta1 := ga1.tle
  simp (disch := omega) only [↓bindF (laws_toIntSS_ok a1 ga1), ↓bindF (laws_eqIntSS_self a1 ga1), ↓bindF s1, ↓bindF s2, ↓if_dpos, ↓if_dneg, bne_self_eq_false, beq_self_eq_true, Bool.not_true, Bool.false_eq_true, if_false]
theorem law_FnExactSheetText (x : den (parTy HH 6)) (hx : Fit Tryd.prog (parTy HH 6) x) : ∃ n, frun Tryd.prog HH n 6 x = some true := by
  obtain ⟨a0, a1⟩ := (x : Int × List (List Int))
  obtain ⟨ha0, ha1⟩ := hx
  exact run_some (laws_FnExactSheetText_ok a0 a1 (fit2 ha1 (of_decide_eq_true (by kernel_rfl)) (of_decide_eq_true (by kernel_rfl))))
end Go.Proofs.YthppocflbgnjlaaDoor.V
