/- Plain laws over the shapes. -/
import Derived.Test.YtofmaimjbcpaiaaPM
import Derived.Test.YtofmaimjbcpaiaaP2
import Derived.Test.YtofmaimjbcpaiaaPDealt
import Derived.Test.YtofmaimjbcpaiaaLFnExactNewGame
import Derived.Test.YtofmaimjbcpaiaaFNewGame
import Derived.Test.YtofmaimjbcpaiaaM
import Derived.Test.YtofmaimjbcpaiaaS1
import Derived.Test.YtofmaimjbcpaiaaS2
import Derived.Test.YtofmaimjbcpaiaaS4
set_option linter.unusedVariables false
set_option linter.unusedSimpArgs false
set_option maxRecDepth 10000
namespace Go.Proofs.Ytofmaimjbcpaiaa.V
open Go
theorem newGame_ok (a0_0 : Int) (a0_1 : Int) (a0_2 : Bool) (a0_3 : Bool) (a0_4 : List Int) (a0_5 : List Int) (a0_6 : Int) (a0_7 : Int) (a1 : List Int) (ba0_4 : B1 1048576 a0_4) (ba0_5 : B1 1048576 a0_5) (ba1 : B1 1048576 a1) :
    ∃ (r0 : Int) (r1 : Int) (r2 : Bool) (r3 : Bool) (r4 : List Int) (r5 : List Int) (r6 : Int) (r7 : Int) (r8 : List (List Int)) (r9 : List Int) (r10 : List Int) (r11 : Int) (r12 : Int) (r13 : Int) (r14 : Bool), spec_NewGame a0_0 a0_1 a0_2 a0_3 a0_4 a0_5 a0_6 a0_7 a1 = some (r0, r1, r2, r3, r4, r5, r6, r7, r8, r9, r10, r11, r12, r13, r14) ∧ impl_NewGame a0_0 a0_1 a0_2 a0_3 a0_4 a0_5 a0_6 a0_7 a1 = some (r0, r1, r2, r3, r4, r5, r6, r7, r8, r9, r10, r11, r12, r13, r14) ∧ r4.length ≤ 2097152 ∧ r5.length ≤ 2097152 ∧ G2 r8 ∧ r9.length ≤ 2097152 ∧ r10.length ≤ 2097152 := by
  have h4 := ba0_4.nat
  have h5 := ba0_5.nat
  have hd := ba1.nat
  rw [spec_NewGame_eq, impl_NewGame_eq, spec_IsRules_ok _ _ _ _ _ _ _ _ h4 h5, impl_IsRules_ok _ _ _ _ _ _ _ _ h4 h5, Option.bind_some, Option.bind_some, spec_IsHand_ok _ (by omega), impl_IsHand_ok _ (by omega), spec_l22Copy_ok _ _ _ _ _ _ _ _ h4 h5, impl_Rules_copied_ok _ _ _ _ _ _ _ _ h4 h5, spec_Dealt_ok _ _ _ (by omega), impl_Dealt_ok _ _ _ (by omega)]
  cases hr : rulesM a0_0 a0_1 a0_2 a0_3 a0_4 a0_5 a0_6 a0_7
  · exact ⟨_, _, _, _, _, _, _, _, _, _, _, _, _, _, _, rfl, rfl, Nat.zero_le _, Nat.zero_le _, G2.nil, Nat.zero_le _, Nat.zero_le _⟩
  · simp only [Bool.not_true, Bool.false_eq_true, if_false, Option.bind_some]
    cases hh : handM a1
    · exact ⟨_, _, _, _, _, _, _, _, _, _, _, _, _, _, _, rfl, rfl, Nat.zero_le _, Nat.zero_le _, G2.nil, Nat.zero_le _, Nat.zero_le _⟩
    · simp only [Bool.not_true, Bool.false_eq_true, if_false]
      by_cases hl : a1.length = 52
      · have k := hr
        simp only [rulesM, Bool.and_eq_true] at k
        have k1 := k.1; have k2 := k.2.1
        have j1 : inR a0_0 1 6 = true := by simp [inR] at k1 ⊢; omega
        have j2 : inR a0_1 0 20 = true := by simp [inR] at k2 ⊢; omega
        simp [inR] at k1 k2
        have hpe : a0_0.toNat * a0_1.toNat ≤ 48 := Nat.mul_le_mul (by omega : a0_0.toNat ≤ 6) (by omega : a0_1.toNat ≤ 8)
        have hpi : a0_0 * a0_1 = ((a0_0.toNat * a0_1.toNat : Nat) : Int) := by
          rw [Int.natCast_mul, Int.toNat_of_nonneg (by omega), Int.toNat_of_nonneg (by omega)]
        have e : dealtM a1 a0_0 a0_1 = (handsN a1 a0_0.toNat a0_1.toNat, a1.drop (a0_0.toNat * a0_1.toNat), true) := by
          rw [dealtM, if_pos ⟨hh, j1, j2, by omega⟩]
        have ht : (a1.drop (a0_0.toNat * a0_1.toNat)).take 1 = [(a1.drop (a0_0.toNat * a0_1.toNat)).getD 0 0] := by
          have hne : 0 < (a1.drop (a0_0.toNat * a0_1.toNat)).length := by simp; omega
          have := take_succ_getD (d := 0) hne
          simpa using this
        have ec := impl_copyOf_ok ((a1.drop (a0_0.toNat * a0_1.toNat)).drop 1) (by simp; omega)
        have hlen : (a1.drop (a0_0.toNat * a0_1.toNat)).length = 52 - a0_0.toNat * a0_1.toNat := by rw [List.length_drop, hl]
        rw [e]
        generalize a1.drop (a0_0.toNat * a0_1.toNat) = rest at *
        rw [if_neg (by simp [hl])]
        dsimp only
        simp (disch := (first | omega | (simp only [List.length_append, List.length_cons, List.length_nil, List.length_take, List.length_drop, List.length_set, List.length_replicate, List.length_singleton]; omega))) only [↓if_dpos, ↓if_dneg, ↓if_epos, ↓if_eneg, ↓if_npos, ↓if_nneg, ↓if_pos, ↓if_neg, Int.toNat_natCast, List.nil_append, Nat.zero_add, List.length_singleton, Option.bind_some, List.drop_zero, List.take_length, if_true, if_false, ec, ht]
        refine ⟨_, _, _, _, _, _, _, _, _, _, _, _, _, _, _, rfl, rfl, by omega, by omega, ⟨by rw [handsN_length]; omega, fun r hr2 => ?_⟩, by simp only [List.length_drop]; omega, by simp⟩
        unfold handsN at hr2
        obtain ⟨q, hq, e3⟩ := List.mem_map.1 hr2
        rw [← e3, handN_length]; omega
      · have hn : ((a1.length : Int) != 52) = true := by rw [bne_iff_ne]; omega
        simp only [hn, if_true]
        exact ⟨_, _, _, _, _, _, _, _, _, _, _, _, _, _, _, rfl, rfl, Nat.zero_le _, Nat.zero_le _, G2.nil, Nat.zero_le _, Nat.zero_le _⟩
theorem laws_FnExactNewGame_ok (a0_0 : Int) (a0_1 : Int) (a0_2 : Bool) (a0_3 : Bool) (a0_4 : List Int) (a0_5 : List Int) (a0_6 : Int) (a0_7 : Int) (a1 : List Int) (fa0_4 : F1 a0_4) (fa0_5 : F1 a0_5) (fa1 : F1 a1) : laws_FnExactNewGame a0_0 a0_1 a0_2 a0_3 a0_4 a0_5 a0_6 a0_7 a1 = some true := by
  rw [laws_FnExactNewGame_eq]
  by_cases h : (a1.length : Int) > 1048576
  · rw [if_pos (decide_eq_true h)]
  rw [if_neg (by simpa using h)]
  have ba1 : B1 1048576 a1 := by unfold B1; omega
  clear h
  obtain ⟨c1, e1, h⟩ := laws_szRules_sp a0_0 a0_1 a0_2 a0_3 a0_4 a0_5 a0_6 a0_7 1048576 fa0_4 fa0_5 (by omega) (by omega)
  rw [e1, Option.bind_some]
  rcases h with h | ⟨p1, q1, ra0_4, ra0_5⟩
  · rw [if_pos (decide_eq_true h)]
  rw [if_neg (by simp; omega)]
  have ba0_4 := ra0_4.mono (b' := 1048576) (by omega)
  have ba0_5 := ra0_5.mono (b' := 1048576) (by omega)
  obtain ⟨r0, r1, r2, r3, r4, r5, r6, r7, r8, r9, r10, r11, r12, r13, r14, s1, s2, gr4, gr5, gr8, gr9, gr10⟩ := newGame_ok a0_0 a0_1 a0_2 a0_3 a0_4 a0_5 a0_6 a0_7 a1 ba0_4 ba0_5 ba1
  have ga0_4 := ba0_4.le
  have ga0_5 := ba0_5.le
  have ga1 := ba1.le
  have ta0_4 := ga0_4
  have ta0_5 := ga0_5
  have ta1 := ga1
  have tr4 := gr4
  have tr5 := gr5
  have tr8 := gr8.tle
  have tr9 := gr9
  have tr10 := gr10
  simp (disch := omega) only [↓bindF (laws_toRules_ok a0_0 a0_1 a0_2 a0_3 a0_4 a0_5 a0_6 a0_7 ga0_4 ga0_5), ↓bindF (laws_toIntS_ok a1 ga1), ↓bindF (laws_eqRules_self a0_0 a0_1 a0_2 a0_3 a0_4 a0_5 a0_6 a0_7 ga0_4 ga0_5), ↓bindF (laws_eqIntS_self a1 ga1), ↓bindF (laws_markRules_ok a0_0 a0_1 a0_2 a0_3 a0_4 a0_5 a0_6 a0_7 ga0_4 ga0_5 (1) (by omega) (by omega)), ↓bindF (laws_markIntS_ok a1 ga1 (1 + (a0_4.length : Int) + (a0_5.length : Int)) (by omega) (by omega)), ↓bindF (laws_eqGame_self r0 r1 r2 r3 r4 r5 r6 r7 r8 r9 r10 r11 r12 r13 gr4 gr5 gr8 gr9 gr10), ↓bindF (laws_markGame_ok r0 r1 r2 r3 r4 r5 r6 r7 r8 r9 r10 r11 r12 r13 gr4 gr5 gr8 gr9 gr10 (1) (by omega) (by omega)), ↓bindF (laws_heldGame_ok r0 r1 r2 r3 r4 r5 r6 r7 r8 r9 r10 r11 r12 r13 gr4 gr5 gr8 gr9 gr10 (1) (by omega) (by omega)), ↓bindF s1, ↓bindF s2, ↓if_dpos, ↓if_dneg, bne_self_eq_false, Bool.not_true, Bool.false_eq_true, if_false]
theorem law_FnExactNewGame (x : den (parTy HH 7)) (hx : Fit Try.prog (parTy HH 7) x) : ∃ n, frun Try.prog HH n 7 x = some true := by
  obtain ⟨a0_0, a0_1, a0_2, a0_3, a0_4, a0_5, a0_6, a0_7, a1⟩ := (x : Int × Int × Bool × Bool × (List Int) × (List Int) × Int × Int × List Int)
  obtain ⟨ha0_0, ha0_1, ha0_2, ha0_3, ha0_4, ha0_5, ha0_6, ha0_7, ha1⟩ := hx
  exact run_some (laws_FnExactNewGame_ok a0_0 a0_1 a0_2 a0_3 a0_4 a0_5 a0_6 a0_7 a1 (fit1 ha0_4 (of_decide_eq_true (by kernel_rfl))) (fit1 ha0_5 (of_decide_eq_true (by kernel_rfl))) (fit1 ha1 (of_decide_eq_true (by kernel_rfl))))
end Go.Proofs.Ytofmaimjbcpaiaa.V
