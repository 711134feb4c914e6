/- Plain laws over the shapes. -/
import Derived.Test.YthppocflbgnjlaaDoorPM
import Derived.Test.YthppocflbgnjlaaDoorMP
import Derived.Test.YthppocflbgnjlaaDoorM
set_option linter.unusedVariables false
set_option linter.unusedSimpArgs false
set_option maxRecDepth 10000
namespace Go.Proofs.YthppocflbgnjlaaDoor.V
open Go
theorem laws_szPeek_sp (a0_0 : Int) (a0_1 : List Int) (a0_2 : Int) (a0_3 : Int) (a0_4 : Int) (a0_5 : List Int) (a0_6 : Int) (a0_7 : Int) (a1 : Int) (fa0_1 : F1 a0_1) (fa0_5 : F1 a0_5) (hb : 0 ≤ a1) (hb' : a1 ≤ 1048576) :
    ∃ c, laws_szPeek a0_0 a0_1 a0_2 a0_3 a0_4 a0_5 a0_6 a0_7 a1 = some c ∧ (c < 0 ∨ (0 ≤ c ∧ c ≤ a1 ∧ B1 a1 a0_1 ∧ B1 a1 a0_5)) := by
  rw [laws_szPeek_eq]
  obtain ⟨c1, e1, h⟩ := laws_szIntS_sp a0_1 a1 fa0_1 (by omega) (by omega)
  rw [e1, Option.bind_some]
  rcases h with h | ⟨p1, q1, ra0_1⟩
  · exact ⟨-1, by rw [if_pos (decide_eq_true h)], .inl (by decide)⟩
  rw [if_neg (by simp; omega)]
  obtain ⟨c2, e2, h⟩ := laws_szIntS_sp a0_5 c1 fa0_5 (by omega) (by omega)
  rw [e2, Option.bind_some]
  rcases h with h | ⟨p2, q2, ra0_5⟩
  · exact ⟨-1, by rw [if_pos (decide_eq_true h)], .inl (by decide)⟩
  rw [if_neg (by simp; omega)]
  exact ⟨_, rfl, .inr ⟨by omega, by omega, ra0_1.mono (by omega), ra0_5.mono (by omega)⟩⟩

theorem laws_toPeek_ok (a0_0 : Int) (a0_1 : List Int) (a0_2 : Int) (a0_3 : Int) (a0_4 : Int) (a0_5 : List Int) (a0_6 : Int) (a0_7 : Int) (ga0_1 : a0_1.length ≤ 2097152) (ga0_5 : a0_5.length ≤ 2097152) : laws_toPeek a0_0 a0_1 a0_2 a0_3 a0_4 a0_5 a0_6 a0_7 = some (a0_0, a0_1, a0_2, a0_3, a0_4, a0_5, a0_6, a0_7) := by
  rw [laws_toPeek_eq, laws_toIntS_ok a0_1 ga0_1, Option.bind_some, laws_toIntS_ok a0_5 ga0_5, Option.bind_some]
  first | done | rfl

theorem laws_eqPeek_self (a0_0 : Int) (a0_1 : List Int) (a0_2 : Int) (a0_3 : Int) (a0_4 : Int) (a0_5 : List Int) (a0_6 : Int) (a0_7 : Int) (ga0_1 : a0_1.length ≤ 2097152) (ga0_5 : a0_5.length ≤ 2097152) : laws_eqPeek a0_0 a0_1 a0_2 a0_3 a0_4 a0_5 a0_6 a0_7 a0_0 a0_1 a0_2 a0_3 a0_4 a0_5 a0_6 a0_7 = some true := by
  rw [laws_eqPeek_eq, laws_eqIntS_self a0_1 ga0_1, laws_eqIntS_self a0_5 ga0_5]
  simp
end Go.Proofs.YthppocflbgnjlaaDoor.V
