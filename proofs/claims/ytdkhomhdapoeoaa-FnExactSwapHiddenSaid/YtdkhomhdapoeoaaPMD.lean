/- Plain laws over the shapes. -/
import Derived.Test.YtdkhomhdapoeoaaPM
import Derived.Test.YtdkhomhdapoeoaaMD
import Derived.Test.YtdkhomhdapoeoaaM
set_option linter.unusedVariables false
set_option linter.unusedSimpArgs false
set_option maxRecDepth 10000
namespace Go.Proofs.Ytdkhomhdapoeoaa.V
open Go
theorem laws_szDeal_sp (a0_0 : List (List Int)) (a0_1 : Int) (a0_2 : Int) (a0_3 : List Int) (a0_4 : List Int) (a0_5 : List Int) (a0_6 : Int) (a1 : Int) (fa0_0 : F2 a0_0) (fa0_3 : F1 a0_3) (fa0_4 : F1 a0_4) (fa0_5 : F1 a0_5) (hb : 0 ≤ a1) (hb' : a1 ≤ 1048576) :
    ∃ c, laws_szDeal a0_0 a0_1 a0_2 a0_3 a0_4 a0_5 a0_6 a1 = some c ∧ (c < 0 ∨ (0 ≤ c ∧ c ≤ a1 ∧ B2 a1 a0_0 ∧ B1 a1 a0_3 ∧ B1 a1 a0_4 ∧ B1 a1 a0_5)) := by
  rw [laws_szDeal_eq]
  obtain ⟨c1, e1, h⟩ := laws_szIntSS_sp a0_0 a1 fa0_0 (by omega) (by omega)
  rw [e1, Option.bind_some]
  rcases h with h | ⟨p1, q1, ra0_0⟩
  · exact ⟨-1, by rw [if_pos (decide_eq_true h)], .inl (by decide)⟩
  rw [if_neg (by simp; omega)]
  obtain ⟨c2, e2, h⟩ := laws_szIntS_sp a0_3 c1 fa0_3 (by omega) (by omega)
  rw [e2, Option.bind_some]
  rcases h with h | ⟨p2, q2, ra0_3⟩
  · exact ⟨-1, by rw [if_pos (decide_eq_true h)], .inl (by decide)⟩
  rw [if_neg (by simp; omega)]
  obtain ⟨c3, e3, h⟩ := laws_szIntS_sp a0_4 c2 fa0_4 (by omega) (by omega)
  rw [e3, Option.bind_some]
  rcases h with h | ⟨p3, q3, ra0_4⟩
  · exact ⟨-1, by rw [if_pos (decide_eq_true h)], .inl (by decide)⟩
  rw [if_neg (by simp; omega)]
  obtain ⟨c4, e4, h⟩ := laws_szIntS_sp a0_5 c3 fa0_5 (by omega) (by omega)
  rw [e4, Option.bind_some]
  rcases h with h | ⟨p4, q4, ra0_5⟩
  · exact ⟨-1, by rw [if_pos (decide_eq_true h)], .inl (by decide)⟩
  rw [if_neg (by simp; omega)]
  exact ⟨_, rfl, .inr ⟨by omega, by omega, ra0_0.mono (by omega), ra0_3.mono (by omega), ra0_4.mono (by omega), ra0_5.mono (by omega)⟩⟩

theorem laws_toDeal_ok (a0_0 : List (List Int)) (a0_1 : Int) (a0_2 : Int) (a0_3 : List Int) (a0_4 : List Int) (a0_5 : List Int) (a0_6 : Int) (ga0_0 : G2 a0_0) (ga0_3 : a0_3.length ≤ 2097152) (ga0_4 : a0_4.length ≤ 2097152) (ga0_5 : a0_5.length ≤ 2097152) : laws_toDeal a0_0 a0_1 a0_2 a0_3 a0_4 a0_5 a0_6 = some (a0_0, a0_1, a0_2, a0_3, a0_4, a0_5, a0_6) := by
  rw [laws_toDeal_eq, laws_toIntSS_ok a0_0 ga0_0, Option.bind_some, laws_toIntS_ok a0_3 ga0_3, Option.bind_some, laws_toIntS_ok a0_4 ga0_4, Option.bind_some, laws_toIntS_ok a0_5 ga0_5, Option.bind_some]
  first | done | rfl

theorem laws_eqDeal_self (a0_0 : List (List Int)) (a0_1 : Int) (a0_2 : Int) (a0_3 : List Int) (a0_4 : List Int) (a0_5 : List Int) (a0_6 : Int) (ga0_0 : G2 a0_0) (ga0_3 : a0_3.length ≤ 2097152) (ga0_4 : a0_4.length ≤ 2097152) (ga0_5 : a0_5.length ≤ 2097152) : laws_eqDeal a0_0 a0_1 a0_2 a0_3 a0_4 a0_5 a0_6 a0_0 a0_1 a0_2 a0_3 a0_4 a0_5 a0_6 = some true := by
  rw [laws_eqDeal_eq, laws_eqIntSS_self a0_0 ga0_0, laws_eqIntS_self a0_3 ga0_3, laws_eqIntS_self a0_4 ga0_4, laws_eqIntS_self a0_5 ga0_5]
  simp

theorem laws_markDeal_ok (a0_0 : List (List Int)) (a0_1 : Int) (a0_2 : Int) (a0_3 : List Int) (a0_4 : List Int) (a0_5 : List Int) (a0_6 : Int) (ga0_0 : G2 a0_0) (ga0_3 : a0_3.length ≤ 2097152) (ga0_4 : a0_4.length ≤ 2097152) (ga0_5 : a0_5.length ≤ 2097152) (k : Int) (h0 : 0 ≤ k) (h1 : k ≤ 288230376151711744) :
    laws_markDeal a0_0 a0_1 a0_2 a0_3 a0_4 a0_5 a0_6 k = some (k + (tot a0_0 : Int) + (a0_3.length : Int) + (a0_4.length : Int) + (a0_5.length : Int), (mkSS a0_0 k), (cnt (k + (tot a0_0 : Int)) a0_3.length), (cnt (k + (tot a0_0 : Int) + (a0_3.length : Int)) a0_4.length), (cnt (k + (tot a0_0 : Int) + (a0_3.length : Int) + (a0_4.length : Int)) a0_5.length)) := by
  have ta0_0 := ga0_0.tle
  have ta0_3 := ga0_3
  have ta0_4 := ga0_4
  have ta0_5 := ga0_5
  rw [laws_markDeal_eq]
  simp (disch := omega) only [laws_markIntSS_ok a0_0 ga0_0, laws_markIntS_ok a0_3 ga0_3, laws_markIntS_ok a0_4 ga0_4, laws_markIntS_ok a0_5 ga0_5, Option.bind_some]

theorem laws_heldDeal_ok (a0_0 : List (List Int)) (a0_1 : Int) (a0_2 : Int) (a0_3 : List Int) (a0_4 : List Int) (a0_5 : List Int) (a0_6 : Int) (ga0_0 : G2 a0_0) (ga0_3 : a0_3.length ≤ 2097152) (ga0_4 : a0_4.length ≤ 2097152) (ga0_5 : a0_5.length ≤ 2097152) (k : Int) (h0 : 0 ≤ k) (h1 : k ≤ 288230376151711744) :
    laws_heldDeal (mkSS a0_0 k) a0_1 a0_2 (cnt (k + (tot a0_0 : Int)) a0_3.length) (cnt (k + (tot a0_0 : Int) + (a0_3.length : Int)) a0_4.length) (cnt (k + (tot a0_0 : Int) + (a0_3.length : Int) + (a0_4.length : Int)) a0_5.length) a0_6 k = some (k + (tot a0_0 : Int) + (a0_3.length : Int) + (a0_4.length : Int) + (a0_5.length : Int)) := by
  have ta0_0 := ga0_0.tle
  have ta0_3 := ga0_3
  have ta0_4 := ga0_4
  have ta0_5 := ga0_5
  rw [laws_heldDeal_eq]
  simp (disch := omega) only [laws_heldIntSS_ok a0_0 ga0_0, laws_heldIntS_ok a0_3.length ga0_3, laws_heldIntS_ok a0_4.length ga0_4, laws_heldIntS_ok a0_5.length ga0_5, Option.bind_some, ↓if_dpos, ↓if_dneg]
end Go.Proofs.Ytdkhomhdapoeoaa.V
