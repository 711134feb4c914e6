/- Plain laws over the shapes. -/
import Derived.Test.YthppocflbgnjlaaDoorPPeekT
import Derived.Test.YthppocflbgnjlaaDoorPMP
import Derived.Test.YthppocflbgnjlaaDoorPM
import Derived.Test.YthppocflbgnjlaaDoorLFnExactPeekText
import Derived.Test.YthppocflbgnjlaaDoorFPeekText
import Derived.Test.YthppocflbgnjlaaDoorMP
set_option linter.unusedVariables false
set_option linter.unusedSimpArgs false
set_option maxRecDepth 10000
namespace Go.Proofs.YthppocflbgnjlaaDoor.V
open Go
theorem i64_of {n : Int} (h : (Lit.int .i64 n).wf = true) : I64 n := by
  simp only [Lit.wf, Bool.and_eq_true, decide_eq_true_eq] at h
  exact h
theorem laws_FnExactPeekText_ok (a0_0 : Int) (a0_1 : List Int) (a0_2 : Int) (a0_3 : Int) (a0_4 : Int) (a0_5 : List Int) (a0_6 : Int) (a0_7 : Int) (fa0_1 : F1 a0_1) (fa0_5 : F1 a0_5) (i0 : I64 a0_0) (i5 : ∀ x ∈ a0_5, I64 x) : laws_FnExactPeekText a0_0 a0_1 a0_2 a0_3 a0_4 a0_5 a0_6 a0_7 = some true := by
  rw [laws_FnExactPeekText_eq]
  obtain ⟨c1, e1, h⟩ := laws_szPeek_sp a0_0 a0_1 a0_2 a0_3 a0_4 a0_5 a0_6 a0_7 1048576 fa0_1 fa0_5 (by omega) (by omega)
  rw [e1, Option.bind_some]
  rcases h with h | ⟨p1, q1, ra0_1, ra0_5⟩
  · rw [if_pos (decide_eq_true h)]
  rw [if_neg (by simp; omega)]
  have ba0_1 := ra0_1.mono (b' := 1048576) (by omega)
  have ba0_5 := ra0_5.mono (b' := 1048576) (by omega)
  have s1 := spec_PeekText_ok a0_0 a0_1 a0_2 a0_3 a0_4 a0_5 a0_6 a0_7 i0 (by have := ba0_1.nat; omega) (by have := ba0_5.nat; omega) i5
  have s2 := impl_PeekText_ok a0_0 a0_1 a0_2 a0_3 a0_4 a0_5 a0_6 a0_7 i0 (by have := ba0_1.nat; omega) (by have := ba0_5.nat; omega) i5
  have ga0_1 := ba0_1.le
  have ga0_5 := ba0_5.le
  have ta0_1 := ga0_1
  have ta0_5 := ga0_5
  simp (disch := omega) only [↓bindF (laws_toPeek_ok a0_0 a0_1 a0_2 a0_3 a0_4 a0_5 a0_6 a0_7 ga0_1 ga0_5), ↓bindF (laws_eqPeek_self a0_0 a0_1 a0_2 a0_3 a0_4 a0_5 a0_6 a0_7 ga0_1 ga0_5), ↓bindF s1, ↓bindF s2, ↓if_dpos, ↓if_dneg, bne_self_eq_false, beq_self_eq_true, Bool.not_true, Bool.false_eq_true, if_false]
theorem law_FnExactPeekText (x : den (parTy HH 5)) (hx : Fit Tryd.prog (parTy HH 5) x) : ∃ n, frun Tryd.prog HH n 5 x = some true := by
  obtain ⟨a0_0, a0_1, a0_2, a0_3, a0_4, a0_5, a0_6, a0_7⟩ := (x : Int × (List Int) × Int × Int × Int × (List Int) × Int × Int)
  obtain ⟨ha0_0, ha0_1, ha0_2, ha0_3, ha0_4, ha0_5, ha0_6, ha0_7⟩ := hx
  exact run_some (laws_FnExactPeekText_ok a0_0 a0_1 a0_2 a0_3 a0_4 a0_5 a0_6 a0_7 (fit1 ha0_1 (of_decide_eq_true (by kernel_rfl))) (fit1 ha0_5 (of_decide_eq_true (by kernel_rfl))) (i64_of ha0_0) (fun y hy => i64_of (ha0_5.2 y hy)))
end Go.Proofs.YthppocflbgnjlaaDoor.V
