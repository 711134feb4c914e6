/- Plain laws over the shapes. -/
import Derived.Test.YtofmaimjbcpaiaaPM
import Derived.Test.YtofmaimjbcpaiaaMT
import Derived.Test.YtofmaimjbcpaiaaM
set_option linter.unusedVariables false
set_option linter.unusedSimpArgs false
set_option maxRecDepth 10000
namespace Go.Proofs.Ytofmaimjbcpaiaa.V
open Go
theorem laws_szTable_sp (a0_0 : Int) (a0_1 : Int) (a0_2 : Bool) (a0_3 : Bool) (a0_4 : List Int) (a0_5 : List Int) (a0_6 : Int) (a0_7 : Int) (a0_8 : List Int) (a0_9 : Bool) (a0_10 : List Int) (a0_11 : Int) (a0_12 : Int) (a0_13 : Bool) (a0_14 : Bool) (a0_15 : List Int) (a0_16 : List Int) (a0_17 : Int) (a0_18 : Int) (a0_19 : List (List Int)) (a0_20 : List Int) (a0_21 : List Int) (a0_22 : Int) (a0_23 : Int) (a0_24 : Int) (a0_25 : List Int) (a0_26 : List (List Int)) (a1 : Int) (fa0_4 : F1 a0_4) (fa0_5 : F1 a0_5) (fa0_8 : F1 a0_8) (fa0_10 : F1 a0_10) (fa0_15 : F1 a0_15) (fa0_16 : F1 a0_16) (fa0_19 : F2 a0_19) (fa0_20 : F1 a0_20) (fa0_21 : F1 a0_21) (fa0_25 : F1 a0_25) (fa0_26 : F2 a0_26) (hb : 0 ≤ a1) (hb' : a1 ≤ 1048576) :
    ∃ c, laws_szTable a0_0 a0_1 a0_2 a0_3 a0_4 a0_5 a0_6 a0_7 a0_8 a0_9 a0_10 a0_11 a0_12 a0_13 a0_14 a0_15 a0_16 a0_17 a0_18 a0_19 a0_20 a0_21 a0_22 a0_23 a0_24 a0_25 a0_26 a1 = some c ∧ (c < 0 ∨ (0 ≤ c ∧ c ≤ a1 ∧ B1 a1 a0_4 ∧ B1 a1 a0_5 ∧ B1 a1 a0_8 ∧ B1 a1 a0_10 ∧ B1 a1 a0_15 ∧ B1 a1 a0_16 ∧ B2 a1 a0_19 ∧ B1 a1 a0_20 ∧ B1 a1 a0_21 ∧ B1 a1 a0_25 ∧ B2 a1 a0_26)) := by
  rw [laws_szTable_eq]
  obtain ⟨c1, e1, h⟩ := laws_szRules_sp a0_0 a0_1 a0_2 a0_3 a0_4 a0_5 a0_6 a0_7 a1 fa0_4 fa0_5 (by omega) (by omega)
  rw [e1, Option.bind_some]
  rcases h with h | ⟨p1, q1, ra0_4, ra0_5⟩
  · exact ⟨-1, by rw [if_pos (decide_eq_true h)], .inl (by decide)⟩
  rw [if_neg (by simp; omega)]
  obtain ⟨c2, e2, h⟩ := laws_szIntS_sp a0_8 c1 fa0_8 (by omega) (by omega)
  rw [e2, Option.bind_some]
  rcases h with h | ⟨p2, q2, ra0_8⟩
  · exact ⟨-1, by rw [if_pos (decide_eq_true h)], .inl (by decide)⟩
  rw [if_neg (by simp; omega)]
  obtain ⟨c3, e3, h⟩ := laws_szIntS_sp a0_10 c2 fa0_10 (by omega) (by omega)
  rw [e3, Option.bind_some]
  rcases h with h | ⟨p3, q3, ra0_10⟩
  · exact ⟨-1, by rw [if_pos (decide_eq_true h)], .inl (by decide)⟩
  rw [if_neg (by simp; omega)]
  obtain ⟨c4, e4, h⟩ := laws_szGame_sp a0_11 a0_12 a0_13 a0_14 a0_15 a0_16 a0_17 a0_18 a0_19 a0_20 a0_21 a0_22 a0_23 a0_24 c3 fa0_15 fa0_16 fa0_19 fa0_20 fa0_21 (by omega) (by omega)
  rw [e4, Option.bind_some]
  rcases h with h | ⟨p4, q4, ra0_15, ra0_16, ra0_19, ra0_20, ra0_21⟩
  · exact ⟨-1, by rw [if_pos (decide_eq_true h)], .inl (by decide)⟩
  rw [if_neg (by simp; omega)]
  obtain ⟨c5, e5, h⟩ := laws_szIntS_sp a0_25 c4 fa0_25 (by omega) (by omega)
  rw [e5, Option.bind_some]
  rcases h with h | ⟨p5, q5, ra0_25⟩
  · exact ⟨-1, by rw [if_pos (decide_eq_true h)], .inl (by decide)⟩
  rw [if_neg (by simp; omega)]
  obtain ⟨c6, e6, h⟩ := laws_szIntSS_sp a0_26 c5 fa0_26 (by omega) (by omega)
  rw [e6, Option.bind_some]
  rcases h with h | ⟨p6, q6, ra0_26⟩
  · exact ⟨-1, by rw [if_pos (decide_eq_true h)], .inl (by decide)⟩
  rw [if_neg (by simp; omega)]
  exact ⟨_, rfl, .inr ⟨by omega, by omega, ra0_4.mono (by omega), ra0_5.mono (by omega), ra0_8.mono (by omega), ra0_10.mono (by omega), ra0_15.mono (by omega), ra0_16.mono (by omega), ra0_19.mono (by omega), ra0_20.mono (by omega), ra0_21.mono (by omega), ra0_25.mono (by omega), ra0_26.mono (by omega)⟩⟩

theorem laws_toTable_ok (a0_0 : Int) (a0_1 : Int) (a0_2 : Bool) (a0_3 : Bool) (a0_4 : List Int) (a0_5 : List Int) (a0_6 : Int) (a0_7 : Int) (a0_8 : List Int) (a0_9 : Bool) (a0_10 : List Int) (a0_11 : Int) (a0_12 : Int) (a0_13 : Bool) (a0_14 : Bool) (a0_15 : List Int) (a0_16 : List Int) (a0_17 : Int) (a0_18 : Int) (a0_19 : List (List Int)) (a0_20 : List Int) (a0_21 : List Int) (a0_22 : Int) (a0_23 : Int) (a0_24 : Int) (a0_25 : List Int) (a0_26 : List (List Int)) (ga0_4 : a0_4.length ≤ 2097152) (ga0_5 : a0_5.length ≤ 2097152) (ga0_8 : a0_8.length ≤ 2097152) (ga0_10 : a0_10.length ≤ 2097152) (ga0_15 : a0_15.length ≤ 2097152) (ga0_16 : a0_16.length ≤ 2097152) (ga0_19 : G2 a0_19) (ga0_20 : a0_20.length ≤ 2097152) (ga0_21 : a0_21.length ≤ 2097152) (ga0_25 : a0_25.length ≤ 2097152) (ga0_26 : G2 a0_26) : laws_toTable a0_0 a0_1 a0_2 a0_3 a0_4 a0_5 a0_6 a0_7 a0_8 a0_9 a0_10 a0_11 a0_12 a0_13 a0_14 a0_15 a0_16 a0_17 a0_18 a0_19 a0_20 a0_21 a0_22 a0_23 a0_24 a0_25 a0_26 = some (a0_0, a0_1, a0_2, a0_3, a0_4, a0_5, a0_6, a0_7, a0_8, a0_9, a0_10, a0_11, a0_12, a0_13, a0_14, a0_15, a0_16, a0_17, a0_18, a0_19, a0_20, a0_21, a0_22, a0_23, a0_24, a0_25, a0_26) := by
  rw [laws_toTable_eq, laws_toRules_ok a0_0 a0_1 a0_2 a0_3 a0_4 a0_5 a0_6 a0_7 ga0_4 ga0_5, Option.bind_some, laws_toIntS_ok a0_8 ga0_8, Option.bind_some, laws_toIntS_ok a0_10 ga0_10, Option.bind_some, laws_toGame_ok a0_11 a0_12 a0_13 a0_14 a0_15 a0_16 a0_17 a0_18 a0_19 a0_20 a0_21 a0_22 a0_23 a0_24 ga0_15 ga0_16 ga0_19 ga0_20 ga0_21, Option.bind_some, laws_toIntS_ok a0_25 ga0_25, Option.bind_some, laws_toIntSS_ok a0_26 ga0_26, Option.bind_some]
  first | done | rfl

theorem laws_eqTable_self (a0_0 : Int) (a0_1 : Int) (a0_2 : Bool) (a0_3 : Bool) (a0_4 : List Int) (a0_5 : List Int) (a0_6 : Int) (a0_7 : Int) (a0_8 : List Int) (a0_9 : Bool) (a0_10 : List Int) (a0_11 : Int) (a0_12 : Int) (a0_13 : Bool) (a0_14 : Bool) (a0_15 : List Int) (a0_16 : List Int) (a0_17 : Int) (a0_18 : Int) (a0_19 : List (List Int)) (a0_20 : List Int) (a0_21 : List Int) (a0_22 : Int) (a0_23 : Int) (a0_24 : Int) (a0_25 : List Int) (a0_26 : List (List Int)) (ga0_4 : a0_4.length ≤ 2097152) (ga0_5 : a0_5.length ≤ 2097152) (ga0_8 : a0_8.length ≤ 2097152) (ga0_10 : a0_10.length ≤ 2097152) (ga0_15 : a0_15.length ≤ 2097152) (ga0_16 : a0_16.length ≤ 2097152) (ga0_19 : G2 a0_19) (ga0_20 : a0_20.length ≤ 2097152) (ga0_21 : a0_21.length ≤ 2097152) (ga0_25 : a0_25.length ≤ 2097152) (ga0_26 : G2 a0_26) : laws_eqTable a0_0 a0_1 a0_2 a0_3 a0_4 a0_5 a0_6 a0_7 a0_8 a0_9 a0_10 a0_11 a0_12 a0_13 a0_14 a0_15 a0_16 a0_17 a0_18 a0_19 a0_20 a0_21 a0_22 a0_23 a0_24 a0_25 a0_26 a0_0 a0_1 a0_2 a0_3 a0_4 a0_5 a0_6 a0_7 a0_8 a0_9 a0_10 a0_11 a0_12 a0_13 a0_14 a0_15 a0_16 a0_17 a0_18 a0_19 a0_20 a0_21 a0_22 a0_23 a0_24 a0_25 a0_26 = some true := by
  rw [laws_eqTable_eq, laws_eqRules_self a0_0 a0_1 a0_2 a0_3 a0_4 a0_5 a0_6 a0_7 ga0_4 ga0_5, laws_eqIntS_self a0_8 ga0_8, laws_eqIntS_self a0_10 ga0_10, laws_eqGame_self a0_11 a0_12 a0_13 a0_14 a0_15 a0_16 a0_17 a0_18 a0_19 a0_20 a0_21 a0_22 a0_23 a0_24 ga0_15 ga0_16 ga0_19 ga0_20 ga0_21, laws_eqIntS_self a0_25 ga0_25, laws_eqIntSS_self a0_26 ga0_26]
  simp

theorem laws_markTable_ok (a0_0 : Int) (a0_1 : Int) (a0_2 : Bool) (a0_3 : Bool) (a0_4 : List Int) (a0_5 : List Int) (a0_6 : Int) (a0_7 : Int) (a0_8 : List Int) (a0_9 : Bool) (a0_10 : List Int) (a0_11 : Int) (a0_12 : Int) (a0_13 : Bool) (a0_14 : Bool) (a0_15 : List Int) (a0_16 : List Int) (a0_17 : Int) (a0_18 : Int) (a0_19 : List (List Int)) (a0_20 : List Int) (a0_21 : List Int) (a0_22 : Int) (a0_23 : Int) (a0_24 : Int) (a0_25 : List Int) (a0_26 : List (List Int)) (ga0_4 : a0_4.length ≤ 2097152) (ga0_5 : a0_5.length ≤ 2097152) (ga0_8 : a0_8.length ≤ 2097152) (ga0_10 : a0_10.length ≤ 2097152) (ga0_15 : a0_15.length ≤ 2097152) (ga0_16 : a0_16.length ≤ 2097152) (ga0_19 : G2 a0_19) (ga0_20 : a0_20.length ≤ 2097152) (ga0_21 : a0_21.length ≤ 2097152) (ga0_25 : a0_25.length ≤ 2097152) (ga0_26 : G2 a0_26) (k : Int) (h0 : 0 ≤ k) (h1 : k ≤ 72057594037927936) :
    laws_markTable a0_0 a0_1 a0_2 a0_3 a0_4 a0_5 a0_6 a0_7 a0_8 a0_9 a0_10 a0_11 a0_12 a0_13 a0_14 a0_15 a0_16 a0_17 a0_18 a0_19 a0_20 a0_21 a0_22 a0_23 a0_24 a0_25 a0_26 k = some (k + (a0_4.length : Int) + (a0_5.length : Int) + (a0_8.length : Int) + (a0_10.length : Int) + (a0_15.length : Int) + (a0_16.length : Int) + (tot a0_19 : Int) + (a0_20.length : Int) + (a0_21.length : Int) + (a0_25.length : Int) + (tot a0_26 : Int), (cnt k a0_4.length), (cnt (k + (a0_4.length : Int)) a0_5.length), (cnt (k + (a0_4.length : Int) + (a0_5.length : Int)) a0_8.length), (cnt (k + (a0_4.length : Int) + (a0_5.length : Int) + (a0_8.length : Int)) a0_10.length), (cnt (k + (a0_4.length : Int) + (a0_5.length : Int) + (a0_8.length : Int) + (a0_10.length : Int)) a0_15.length), (cnt (k + (a0_4.length : Int) + (a0_5.length : Int) + (a0_8.length : Int) + (a0_10.length : Int) + (a0_15.length : Int)) a0_16.length), (mkSS a0_19 (k + (a0_4.length : Int) + (a0_5.length : Int) + (a0_8.length : Int) + (a0_10.length : Int) + (a0_15.length : Int) + (a0_16.length : Int))), (cnt (k + (a0_4.length : Int) + (a0_5.length : Int) + (a0_8.length : Int) + (a0_10.length : Int) + (a0_15.length : Int) + (a0_16.length : Int) + (tot a0_19 : Int)) a0_20.length), (cnt (k + (a0_4.length : Int) + (a0_5.length : Int) + (a0_8.length : Int) + (a0_10.length : Int) + (a0_15.length : Int) + (a0_16.length : Int) + (tot a0_19 : Int) + (a0_20.length : Int)) a0_21.length), (cnt (k + (a0_4.length : Int) + (a0_5.length : Int) + (a0_8.length : Int) + (a0_10.length : Int) + (a0_15.length : Int) + (a0_16.length : Int) + (tot a0_19 : Int) + (a0_20.length : Int) + (a0_21.length : Int)) a0_25.length), (mkSS a0_26 (k + (a0_4.length : Int) + (a0_5.length : Int) + (a0_8.length : Int) + (a0_10.length : Int) + (a0_15.length : Int) + (a0_16.length : Int) + (tot a0_19 : Int) + (a0_20.length : Int) + (a0_21.length : Int) + (a0_25.length : Int)))) := by
  have ta0_4 := ga0_4
  have ta0_5 := ga0_5
  have ta0_8 := ga0_8
  have ta0_10 := ga0_10
  have ta0_15 := ga0_15
  have ta0_16 := ga0_16
  have ta0_19 := ga0_19.tle
  have ta0_20 := ga0_20
  have ta0_21 := ga0_21
  have ta0_25 := ga0_25
  have ta0_26 := ga0_26.tle
  rw [laws_markTable_eq]
  simp (disch := omega) only [laws_markRules_ok a0_0 a0_1 a0_2 a0_3 a0_4 a0_5 a0_6 a0_7 ga0_4 ga0_5, laws_markIntS_ok a0_8 ga0_8, laws_markIntS_ok a0_10 ga0_10, laws_markGame_ok a0_11 a0_12 a0_13 a0_14 a0_15 a0_16 a0_17 a0_18 a0_19 a0_20 a0_21 a0_22 a0_23 a0_24 ga0_15 ga0_16 ga0_19 ga0_20 ga0_21, laws_markIntS_ok a0_25 ga0_25, laws_markIntSS_ok a0_26 ga0_26, Option.bind_some]

theorem laws_heldTable_ok (a0_0 : Int) (a0_1 : Int) (a0_2 : Bool) (a0_3 : Bool) (a0_4 : List Int) (a0_5 : List Int) (a0_6 : Int) (a0_7 : Int) (a0_8 : List Int) (a0_9 : Bool) (a0_10 : List Int) (a0_11 : Int) (a0_12 : Int) (a0_13 : Bool) (a0_14 : Bool) (a0_15 : List Int) (a0_16 : List Int) (a0_17 : Int) (a0_18 : Int) (a0_19 : List (List Int)) (a0_20 : List Int) (a0_21 : List Int) (a0_22 : Int) (a0_23 : Int) (a0_24 : Int) (a0_25 : List Int) (a0_26 : List (List Int)) (ga0_4 : a0_4.length ≤ 2097152) (ga0_5 : a0_5.length ≤ 2097152) (ga0_8 : a0_8.length ≤ 2097152) (ga0_10 : a0_10.length ≤ 2097152) (ga0_15 : a0_15.length ≤ 2097152) (ga0_16 : a0_16.length ≤ 2097152) (ga0_19 : G2 a0_19) (ga0_20 : a0_20.length ≤ 2097152) (ga0_21 : a0_21.length ≤ 2097152) (ga0_25 : a0_25.length ≤ 2097152) (ga0_26 : G2 a0_26) (k : Int) (h0 : 0 ≤ k) (h1 : k ≤ 72057594037927936) :
    laws_heldTable a0_0 a0_1 a0_2 a0_3 (cnt k a0_4.length) (cnt (k + (a0_4.length : Int)) a0_5.length) a0_6 a0_7 (cnt (k + (a0_4.length : Int) + (a0_5.length : Int)) a0_8.length) a0_9 (cnt (k + (a0_4.length : Int) + (a0_5.length : Int) + (a0_8.length : Int)) a0_10.length) a0_11 a0_12 a0_13 a0_14 (cnt (k + (a0_4.length : Int) + (a0_5.length : Int) + (a0_8.length : Int) + (a0_10.length : Int)) a0_15.length) (cnt (k + (a0_4.length : Int) + (a0_5.length : Int) + (a0_8.length : Int) + (a0_10.length : Int) + (a0_15.length : Int)) a0_16.length) a0_17 a0_18 (mkSS a0_19 (k + (a0_4.length : Int) + (a0_5.length : Int) + (a0_8.length : Int) + (a0_10.length : Int) + (a0_15.length : Int) + (a0_16.length : Int))) (cnt (k + (a0_4.length : Int) + (a0_5.length : Int) + (a0_8.length : Int) + (a0_10.length : Int) + (a0_15.length : Int) + (a0_16.length : Int) + (tot a0_19 : Int)) a0_20.length) (cnt (k + (a0_4.length : Int) + (a0_5.length : Int) + (a0_8.length : Int) + (a0_10.length : Int) + (a0_15.length : Int) + (a0_16.length : Int) + (tot a0_19 : Int) + (a0_20.length : Int)) a0_21.length) a0_22 a0_23 a0_24 (cnt (k + (a0_4.length : Int) + (a0_5.length : Int) + (a0_8.length : Int) + (a0_10.length : Int) + (a0_15.length : Int) + (a0_16.length : Int) + (tot a0_19 : Int) + (a0_20.length : Int) + (a0_21.length : Int)) a0_25.length) (mkSS a0_26 (k + (a0_4.length : Int) + (a0_5.length : Int) + (a0_8.length : Int) + (a0_10.length : Int) + (a0_15.length : Int) + (a0_16.length : Int) + (tot a0_19 : Int) + (a0_20.length : Int) + (a0_21.length : Int) + (a0_25.length : Int))) k = some (k + (a0_4.length : Int) + (a0_5.length : Int) + (a0_8.length : Int) + (a0_10.length : Int) + (a0_15.length : Int) + (a0_16.length : Int) + (tot a0_19 : Int) + (a0_20.length : Int) + (a0_21.length : Int) + (a0_25.length : Int) + (tot a0_26 : Int)) := by
  have ta0_4 := ga0_4
  have ta0_5 := ga0_5
  have ta0_8 := ga0_8
  have ta0_10 := ga0_10
  have ta0_15 := ga0_15
  have ta0_16 := ga0_16
  have ta0_19 := ga0_19.tle
  have ta0_20 := ga0_20
  have ta0_21 := ga0_21
  have ta0_25 := ga0_25
  have ta0_26 := ga0_26.tle
  rw [laws_heldTable_eq]
  simp (disch := omega) only [laws_heldRules_ok a0_0 a0_1 a0_2 a0_3 a0_4 a0_5 a0_6 a0_7 ga0_4 ga0_5, laws_heldIntS_ok a0_8.length ga0_8, laws_heldIntS_ok a0_10.length ga0_10, laws_heldGame_ok a0_11 a0_12 a0_13 a0_14 a0_15 a0_16 a0_17 a0_18 a0_19 a0_20 a0_21 a0_22 a0_23 a0_24 ga0_15 ga0_16 ga0_19 ga0_20 ga0_21, laws_heldIntS_ok a0_25.length ga0_25, laws_heldIntSS_ok a0_26 ga0_26, Option.bind_some, ↓if_dpos, ↓if_dneg]
end Go.Proofs.Ytofmaimjbcpaiaa.V
