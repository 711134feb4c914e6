/- Plain laws over the shapes. -/
import Derived.Test.YthppocflbgnjlaaDoorPPatT
import Derived.Test.YthppocflbgnjlaaDoorPMQ
import Derived.Test.YthppocflbgnjlaaDoorPM
import Derived.Test.YthppocflbgnjlaaDoorLFnExactPatienceText
import Derived.Test.YthppocflbgnjlaaDoorFPatienceText
import Derived.Test.YthppocflbgnjlaaDoorMQ
set_option linter.unusedVariables false
set_option linter.unusedSimpArgs false
set_option maxRecDepth 10000
namespace Go.Proofs.YthppocflbgnjlaaDoor.V
open Go
theorem patienceText_ok (a0_0 : List ((List Int) × Int)) (a0_1 : List Int) (a0_2 : List Int) (a0_3 : List Int) (ba0_0 : B3 1048576 a0_0) (ba0_1 : B1 1048576 a0_1) (ba0_2 : B1 1048576 a0_2) (ba0_3 : B1 1048576 a0_3) :
    ∃ (r0 : ByteArray), spec_PatienceText a0_0 a0_1 a0_2 a0_3 = some r0 ∧ impl_PatienceText a0_0 a0_1 a0_2 a0_3 = some r0 := by
  exact ⟨_, spec_PatienceText_ok a0_0 a0_1 a0_2 a0_3 ba0_0.g (by have := ba0_1.nat; omega) (by have := ba0_2.nat; omega) (by have := ba0_3.nat; omega), impl_PatienceText_ok a0_0 a0_1 a0_2 a0_3 ba0_0.g (by have := ba0_1.nat; omega) (by have := ba0_2.nat; omega) (by have := ba0_3.nat; omega)⟩
theorem laws_FnExactPatienceText_ok (a0_0 : List ((List Int) × Int)) (a0_1 : List Int) (a0_2 : List Int) (a0_3 : List Int) (fa0_0 : F3 a0_0) (fa0_1 : F1 a0_1) (fa0_2 : F1 a0_2) (fa0_3 : F1 a0_3) : laws_FnExactPatienceText a0_0 a0_1 a0_2 a0_3 = some true := by
  rw [laws_FnExactPatienceText_eq]
  obtain ⟨c1, e1, h⟩ := laws_szPatience_sp a0_0 a0_1 a0_2 a0_3 1048576 fa0_0 fa0_1 fa0_2 fa0_3 (by omega) (by omega)
  rw [e1, Option.bind_some]
  rcases h with h | ⟨p1, q1, ra0_0, ra0_1, ra0_2, ra0_3⟩
  · rw [if_pos (decide_eq_true h)]
  rw [if_neg (by simp; omega)]
  have ba0_0 := ra0_0.mono (b' := 1048576) (by omega)
  have ba0_1 := ra0_1.mono (b' := 1048576) (by omega)
  have ba0_2 := ra0_2.mono (b' := 1048576) (by omega)
  have ba0_3 := ra0_3.mono (b' := 1048576) (by omega)
  obtain ⟨r0, s1, s2⟩ := patienceText_ok a0_0 a0_1 a0_2 a0_3 ba0_0 ba0_1 ba0_2 ba0_3
  have ga0_0 := ba0_0.g
  have ga0_1 := ba0_1.le
  have ga0_2 := ba0_2.le
  have ga0_3 := ba0_3.le
  have ta0_0 := ga0_0.tle
  have ta0_1 := ga0_1
  have ta0_2 := ga0_2
  have ta0_3 := ga0_3
  simp (disch := omega) only [↓bindF (laws_toPatience_ok a0_0 a0_1 a0_2 a0_3 ga0_0 ga0_1 ga0_2 ga0_3), ↓bindF (laws_eqPatience_self a0_0 a0_1 a0_2 a0_3 ga0_0 ga0_1 ga0_2 ga0_3), ↓bindF s1, ↓bindF s2, ↓if_dpos, ↓if_dneg, bne_self_eq_false, beq_self_eq_true, Bool.not_true, Bool.false_eq_true, if_false]
theorem law_FnExactPatienceText (x : den (parTy HH 3)) (hx : Fit Tryd.prog (parTy HH 3) x) : ∃ n, frun Tryd.prog HH n 3 x = some true := by
  obtain ⟨a0_0, a0_1, a0_2, a0_3⟩ := (x : (List ((List Int) × Int)) × (List Int) × (List Int) × List Int)
  obtain ⟨ha0_0, ha0_1, ha0_2, ha0_3⟩ := hx
  exact run_some (laws_FnExactPatienceText_ok a0_0 a0_1 a0_2 a0_3 (fit3 ha0_0 (of_decide_eq_true (by kernel_rfl)) (of_decide_eq_true (by kernel_rfl))) (fit1 ha0_1 (of_decide_eq_true (by kernel_rfl))) (fit1 ha0_2 (of_decide_eq_true (by kernel_rfl))) (fit1 ha0_3 (of_decide_eq_true (by kernel_rfl))))
end Go.Proofs.YthppocflbgnjlaaDoor.V
