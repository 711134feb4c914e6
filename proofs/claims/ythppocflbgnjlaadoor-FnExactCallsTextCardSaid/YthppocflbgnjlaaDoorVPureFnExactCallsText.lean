/- Plain laws over the shapes. -/
import Derived.Test.YthppocflbgnjlaaDoorPCalls
import Derived.Test.YthppocflbgnjlaaDoorPM
import Derived.Test.YthppocflbgnjlaaDoorLFnExactCallsText
import Derived.Test.YthppocflbgnjlaaDoorFCallsText
import Derived.Test.YthppocflbgnjlaaDoorM
set_option linter.unusedVariables false
set_option linter.unusedSimpArgs false
set_option maxRecDepth 10000
namespace Go.Proofs.YthppocflbgnjlaaDoor.V
open Go
theorem laws_FnExactCallsText_ok (a0 : List Int) (ia : ∀ x ∈ a0, I64 x) : laws_FnExactCallsText a0 = some true := by
  rw [laws_FnExactCallsText_eq]
  by_cases h : (a0.length : Int) > 1048576
  · rw [if_dpos h]
  rw [if_dneg h]
  have ga0 : a0.length ≤ 1048576 := by omega
  have s1 := spec_CallsText_ok ia ga0
  have gb0 : a0.length ≤ 2097152 := by omega
  have s2 := impl_CallsText_ok ia ga0
  simp (disch := omega) only [↓bindF (laws_toIntS_ok a0 gb0), ↓bindF (laws_eqIntS_self a0 gb0), ↓bindF s1, ↓bindF s2, ↓if_dpos, ↓if_dneg, bne_self_eq_false, beq_self_eq_true, Bool.not_true, Bool.false_eq_true, if_false]
theorem i64_of {n : Int} (h : (Lit.int .i64 n).wf = true) : I64 n := by
  simp only [Lit.wf, Bool.and_eq_true, decide_eq_true_eq] at h
  exact h
theorem law_FnExactCallsText (x : den (parTy HH 4)) (hx : Fit Tryd.prog (parTy HH 4) x) : ∃ n, frun Tryd.prog HH n 4 x = some true := by
  exact run_some (laws_FnExactCallsText_ok x fun y hy => i64_of ((hx : Fit Tryd.prog (.sl 3 (.int .i64)) x).2 y hy))
end Go.Proofs.YthppocflbgnjlaaDoor.V
