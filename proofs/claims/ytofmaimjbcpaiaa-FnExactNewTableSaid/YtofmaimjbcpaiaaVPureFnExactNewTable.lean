/- Plain laws over the shapes. -/
import Derived.Test.YtofmaimjbcpaiaaPMT
import Derived.Test.YtofmaimjbcpaiaaP2
import Derived.Test.YtofmaimjbcpaiaaLFnExactNewTable
import Derived.Test.YtofmaimjbcpaiaaFNewTable
import Derived.Test.YtofmaimjbcpaiaaM
import Derived.Test.YtofmaimjbcpaiaaMT
import Derived.Test.YtofmaimjbcpaiaaS4
set_option linter.unusedVariables false
set_option linter.unusedSimpArgs false
set_option maxRecDepth 10000
namespace Go.Proofs.Ytofmaimjbcpaiaa.V
open Go
theorem newTable_ok (a0_0 : Int) (a0_1 : Int) (a0_2 : Bool) (a0_3 : Bool) (a0_4 : List Int) (a0_5 : List Int) (a0_6 : Int) (a0_7 : Int) (ba0_4 : B1 1048576 a0_4) (ba0_5 : B1 1048576 a0_5) :
    ∃ (r0 : Int) (r1 : Int) (r2 : Bool) (r3 : Bool) (r4 : List Int) (r5 : List Int) (r6 : Int) (r7 : Int) (r8 : List Int) (r9 : Bool) (r10 : List Int) (r11 : Int) (r12 : Int) (r13 : Bool) (r14 : Bool) (r15 : List Int) (r16 : List Int) (r17 : Int) (r18 : Int) (r19 : List (List Int)) (r20 : List Int) (r21 : List Int) (r22 : Int) (r23 : Int) (r24 : Int) (r25 : List Int) (r26 : List (List Int)) (r27 : Bool), spec_NewTable a0_0 a0_1 a0_2 a0_3 a0_4 a0_5 a0_6 a0_7 = some (r0, r1, r2, r3, r4, r5, r6, r7, r8, r9, r10, r11, r12, r13, r14, r15, r16, r17, r18, r19, r20, r21, r22, r23, r24, r25, r26, r27) ∧ impl_NewTable a0_0 a0_1 a0_2 a0_3 a0_4 a0_5 a0_6 a0_7 = some (r0, r1, r2, r3, r4, r5, r6, r7, r8, r9, r10, r11, r12, r13, r14, r15, r16, r17, r18, r19, r20, r21, r22, r23, r24, r25, r26, r27) ∧ r4.length ≤ 2097152 ∧ r5.length ≤ 2097152 ∧ r8.length ≤ 2097152 ∧ r10.length ≤ 2097152 ∧ r15.length ≤ 2097152 ∧ r16.length ≤ 2097152 ∧ G2 r19 ∧ r20.length ≤ 2097152 ∧ r21.length ≤ 2097152 ∧ r25.length ≤ 2097152 ∧ G2 r26 := by
  have h4 := ba0_4.nat
  have h5 := ba0_5.nat
  rw [spec_NewTable_eq, impl_NewTable_eq, spec_IsRules_ok _ _ _ _ _ _ _ _ h4 h5, impl_IsRules_ok _ _ _ _ _ _ _ _ h4 h5, Option.bind_some, Option.bind_some, spec_l22Copy_ok _ _ _ _ _ _ _ _ h4 h5, impl_Rules_copied_ok _ _ _ _ _ _ _ _ h4 h5]
  cases hr : rulesM a0_0 a0_1 a0_2 a0_3 a0_4 a0_5 a0_6 a0_7
  · exact ⟨_, _, _, _, _, _, _, _, _, _, _, _, _, _, _, _, _, _, _, _, _, _, _, _, _, _, _, _, rfl, rfl, Nat.zero_le _, Nat.zero_le _, Nat.zero_le _, Nat.zero_le _, Nat.zero_le _, Nat.zero_le _, G2.nil, Nat.zero_le _, Nat.zero_le _, Nat.zero_le _, G2.nil⟩
  · exact ⟨_, _, _, _, _, _, _, _, _, _, _, _, _, _, _, _, _, _, _, _, _, _, _, _, _, _, _, _, rfl, rfl, by dsimp only; omega, by dsimp only; omega, Nat.zero_le _, Nat.zero_le _, Nat.zero_le _, Nat.zero_le _, G2.nil, Nat.zero_le _, Nat.zero_le _, Nat.zero_le _, G2.nil⟩
theorem laws_FnExactNewTable_ok (a0_0 : Int) (a0_1 : Int) (a0_2 : Bool) (a0_3 : Bool) (a0_4 : List Int) (a0_5 : List Int) (a0_6 : Int) (a0_7 : Int) (fa0_4 : F1 a0_4) (fa0_5 : F1 a0_5) : laws_FnExactNewTable a0_0 a0_1 a0_2 a0_3 a0_4 a0_5 a0_6 a0_7 = some true := by
  rw [laws_FnExactNewTable_eq]
  obtain ⟨c1, e1, h⟩ := laws_szRules_sp a0_0 a0_1 a0_2 a0_3 a0_4 a0_5 a0_6 a0_7 1048576 fa0_4 fa0_5 (by omega) (by omega)
  rw [e1, Option.bind_some]
  rcases h with h | ⟨p1, q1, ra0_4, ra0_5⟩
  · rw [if_pos (decide_eq_true h)]
  rw [if_neg (by simp; omega)]
  have ba0_4 := ra0_4.mono (b' := 1048576) (by omega)
  have ba0_5 := ra0_5.mono (b' := 1048576) (by omega)
  obtain ⟨r0, r1, r2, r3, r4, r5, r6, r7, r8, r9, r10, r11, r12, r13, r14, r15, r16, r17, r18, r19, r20, r21, r22, r23, r24, r25, r26, r27, s1, s2, gr4, gr5, gr8, gr10, gr15, gr16, gr19, gr20, gr21, gr25, gr26⟩ := newTable_ok a0_0 a0_1 a0_2 a0_3 a0_4 a0_5 a0_6 a0_7 ba0_4 ba0_5
  have ga0_4 := ba0_4.le
  have ga0_5 := ba0_5.le
  have ta0_4 := ga0_4
  have ta0_5 := ga0_5
  have tr4 := gr4
  have tr5 := gr5
  have tr8 := gr8
  have tr10 := gr10
  have tr15 := gr15
  have tr16 := gr16
  have tr19 := gr19.tle
  have tr20 := gr20
  have tr21 := gr21
  have tr25 := gr25
  have tr26 := gr26.tle
  simp (disch := omega) only [↓bindF (laws_toRules_ok a0_0 a0_1 a0_2 a0_3 a0_4 a0_5 a0_6 a0_7 ga0_4 ga0_5), ↓bindF (laws_eqRules_self a0_0 a0_1 a0_2 a0_3 a0_4 a0_5 a0_6 a0_7 ga0_4 ga0_5), ↓bindF (laws_markRules_ok a0_0 a0_1 a0_2 a0_3 a0_4 a0_5 a0_6 a0_7 ga0_4 ga0_5 (1) (by omega) (by omega)), ↓bindF (laws_eqTable_self r0 r1 r2 r3 r4 r5 r6 r7 r8 r9 r10 r11 r12 r13 r14 r15 r16 r17 r18 r19 r20 r21 r22 r23 r24 r25 r26 gr4 gr5 gr8 gr10 gr15 gr16 gr19 gr20 gr21 gr25 gr26), ↓bindF (laws_markTable_ok r0 r1 r2 r3 r4 r5 r6 r7 r8 r9 r10 r11 r12 r13 r14 r15 r16 r17 r18 r19 r20 r21 r22 r23 r24 r25 r26 gr4 gr5 gr8 gr10 gr15 gr16 gr19 gr20 gr21 gr25 gr26 (1) (by omega) (by omega)), ↓bindF (laws_heldTable_ok r0 r1 r2 r3 r4 r5 r6 r7 r8 r9 r10 r11 r12 r13 r14 r15 r16 r17 r18 r19 r20 r21 r22 r23 r24 r25 r26 gr4 gr5 gr8 gr10 gr15 gr16 gr19 gr20 gr21 gr25 gr26 (1) (by omega) (by omega)), ↓bindF s1, ↓bindF s2, ↓if_dpos, ↓if_dneg, bne_self_eq_false, Bool.not_true, Bool.false_eq_true, if_false]
theorem law_FnExactNewTable (x : den (parTy HH 8)) (hx : Fit Try.prog (parTy HH 8) x) : ∃ n, frun Try.prog HH n 8 x = some true := by
  obtain ⟨a0_0, a0_1, a0_2, a0_3, a0_4, a0_5, a0_6, a0_7⟩ := (x : Int × Int × Bool × Bool × (List Int) × (List Int) × Int × Int)
  obtain ⟨ha0_0, ha0_1, ha0_2, ha0_3, ha0_4, ha0_5, ha0_6, ha0_7⟩ := hx
  exact run_some (laws_FnExactNewTable_ok a0_0 a0_1 a0_2 a0_3 a0_4 a0_5 a0_6 a0_7 (fit1 ha0_4 (of_decide_eq_true (by kernel_rfl))) (fit1 ha0_5 (of_decide_eq_true (by kernel_rfl))))
end Go.Proofs.Ytofmaimjbcpaiaa.V
