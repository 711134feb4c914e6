/- Plain laws over the shapes. -/
import Derived.Test.YtofmaimjbcpaiaaPM
import Derived.Test.YtofmaimjbcpaiaaMP
set_option linter.unusedVariables false
set_option linter.unusedSimpArgs false
set_option maxRecDepth 10000
namespace Go.Proofs.Ytofmaimjbcpaiaa.V
open Go
theorem laws_eqPeek_self (a0_0 : Int) (a0_1 : List Int) (a0_2 : Int) (a0_3 : Int) (a0_4 : Int) (a0_5 : List Int) (a0_6 : Int) (a0_7 : Int) (ga0_1 : a0_1.length ≤ 2097152) (ga0_5 : a0_5.length ≤ 2097152) : laws_eqPeek a0_0 a0_1 a0_2 a0_3 a0_4 a0_5 a0_6 a0_7 a0_0 a0_1 a0_2 a0_3 a0_4 a0_5 a0_6 a0_7 = some true := by
  rw [laws_eqPeek_eq, laws_eqIntS_self a0_1 ga0_1, laws_eqIntS_self a0_5 ga0_5]
  simp

theorem laws_markPeek_ok (a0_0 : Int) (a0_1 : List Int) (a0_2 : Int) (a0_3 : Int) (a0_4 : Int) (a0_5 : List Int) (a0_6 : Int) (a0_7 : Int) (ga0_1 : a0_1.length ≤ 2097152) (ga0_5 : a0_5.length ≤ 2097152) (k : Int) (h0 : 0 ≤ k) (h1 : k ≤ 288230376151711744) :
    laws_markPeek a0_0 a0_1 a0_2 a0_3 a0_4 a0_5 a0_6 a0_7 k = some (k + (a0_1.length : Int) + (a0_5.length : Int), (cnt k a0_1.length), (cnt (k + (a0_1.length : Int)) a0_5.length)) := by
  have ta0_1 := ga0_1
  have ta0_5 := ga0_5
  rw [laws_markPeek_eq]
  simp (disch := omega) only [laws_markIntS_ok a0_1 ga0_1, laws_markIntS_ok a0_5 ga0_5, Option.bind_some]

theorem laws_heldPeek_ok (a0_0 : Int) (a0_1 : List Int) (a0_2 : Int) (a0_3 : Int) (a0_4 : Int) (a0_5 : List Int) (a0_6 : Int) (a0_7 : Int) (ga0_1 : a0_1.length ≤ 2097152) (ga0_5 : a0_5.length ≤ 2097152) (k : Int) (h0 : 0 ≤ k) (h1 : k ≤ 288230376151711744) :
    laws_heldPeek a0_0 (cnt k a0_1.length) a0_2 a0_3 a0_4 (cnt (k + (a0_1.length : Int)) a0_5.length) a0_6 a0_7 k = some (k + (a0_1.length : Int) + (a0_5.length : Int)) := by
  have ta0_1 := ga0_1
  have ta0_5 := ga0_5
  rw [laws_heldPeek_eq]
  simp (disch := omega) only [laws_heldIntS_ok a0_1.length ga0_1, laws_heldIntS_ok a0_5.length ga0_5, Option.bind_some, ↓if_dpos, ↓if_dneg]
end Go.Proofs.Ytofmaimjbcpaiaa.V
