/- Plain laws over the shapes. -/
import Derived.Test.YtenojifdoofcfaaPMQ
import Derived.Test.YtenojifdoofcfaaPMoveWaste
import Derived.Test.YtenojifdoofcfaaLFnExactMoveWaste
import Derived.Test.YtenojifdoofcfaaFMoveWaste
import Derived.Test.YtenojifdoofcfaaMQ
set_option linter.unusedVariables false
set_option linter.unusedSimpArgs false
set_option maxRecDepth 10000
namespace Go.Proofs.Ytenojifdoofcfaa.V
open Go
theorem moveWaste_ok (a0_0 : List ((List Int) × Int)) (a0_1 : List Int) (a0_2 : List Int) (a0_3 : List Int) (a1 : Int) (ba0_0 : B3 1048576 a0_0) (ba0_1 : B1 1048576 a0_1) (ba0_2 : B1 1048576 a0_2) (ba0_3 : B1 1048576 a0_3) :
    ∃ (r0 : List ((List Int) × Int)) (r1 : List Int) (r2 : List Int) (r3 : List Int) (r4 : Bool), spec_MoveWaste a0_0 a0_1 a0_2 a0_3 a1 = some (r0, r1, r2, r3, r4) ∧ impl_MoveWaste a0_0 a0_1 a0_2 a0_3 a1 = some (r0, r1, r2, r3, r4) ∧ G3 r0 ∧ r1.length ≤ 2097152 ∧ r2.length ≤ 2097152 ∧ r3.length ≤ 2097152 := by
  have hh := ba0_0.g
  have hb := ba0_1.le
  have h9 := ba0_2.nat
  have h10 := ba0_3.nat
  have q2 := hh.at' (i := a1.toNat)
  rw [spec_MoveWaste_ok _ _ _ _ a1 hh hb (by omega) (by omega), impl_MoveWaste_ok _ _ _ _ a1 hh hb (by omega) (by omega), moveWasteM]
  split
  · rename_i hc
    obtain ⟨z1, z2, z3, z4⟩ := patM_size _ _ _ _ hc
    have q3 := pile_le a0_0 a1.toNat
    have k := stackR_length (a0_0.getD a1.toNat ([], 0)).1 (a0_0.getD a1.toNat ([], 0)).2 [a0_3.getD (a0_3.length - 1) 0] (a0_0.getD a1.toNat ([], 0)).1
    simp only [List.length_singleton] at k
    split
    · exact ⟨_, _, _, _, _, rfl, rfl, hh, by omega, by omega, by omega⟩
    · split
      · split
        · split
          · exact ⟨_, _, _, _, _, rfl, rfl, hh, by rw [builtM_length]; omega, by omega, by simp only [List.length_take]; omega⟩
          · exact ⟨_, _, _, _, _, rfl, rfl, hh, by omega, by omega, by omega⟩
        · split
          · exact ⟨_, _, _, _, _, rfl, rfl, hh.set (by dsimp only; unfold stackM; omega), by omega, by omega, by simp only [List.length_take]; omega⟩
          · exact ⟨_, _, _, _, _, rfl, rfl, hh, by omega, by omega, by omega⟩
      · exact ⟨_, _, _, _, _, rfl, rfl, hh, by omega, by omega, by omega⟩
  · exact ⟨_, _, _, _, _, rfl, rfl, hh, by omega, by omega, by omega⟩
theorem laws_FnExactMoveWaste_ok (a0_0 : List ((List Int) × Int)) (a0_1 : List Int) (a0_2 : List Int) (a0_3 : List Int) (a1 : Int) (fa0_0 : F3 a0_0) (fa0_1 : F1 a0_1) (fa0_2 : F1 a0_2) (fa0_3 : F1 a0_3) : laws_FnExactMoveWaste a0_0 a0_1 a0_2 a0_3 a1 = some true := by
  rw [laws_FnExactMoveWaste_eq]
  obtain ⟨c1, e1, h⟩ := laws_szPatience_sp a0_0 a0_1 a0_2 a0_3 1048576 fa0_0 fa0_1 fa0_2 fa0_3 (by omega) (by omega)
  rw [e1, Option.bind_some]
  rcases h with h | ⟨p1, q1, ra0_0, ra0_1, ra0_2, ra0_3⟩
  · rw [if_pos (decide_eq_true h)]
  rw [if_neg (by simp; omega)]
  have ba0_0 := ra0_0.mono (b' := 1048576) (by omega)
  have ba0_1 := ra0_1.mono (b' := 1048576) (by omega)
  have ba0_2 := ra0_2.mono (b' := 1048576) (by omega)
  have ba0_3 := ra0_3.mono (b' := 1048576) (by omega)
  obtain ⟨r0, r1, r2, r3, r4, s1, s2, gr0, gr1, gr2, gr3⟩ := moveWaste_ok a0_0 a0_1 a0_2 a0_3 a1 ba0_0 ba0_1 ba0_2 ba0_3
  have ga0_0 := ba0_0.g
  have ga0_1 := ba0_1.le
  have ga0_2 := ba0_2.le
  have ga0_3 := ba0_3.le
  have ta0_0 := ga0_0.tle
  have ta0_1 := ga0_1
  have ta0_2 := ga0_2
  have ta0_3 := ga0_3
  have tr0 := gr0.tle
  have tr1 := gr1
  have tr2 := gr2
  have tr3 := gr3
  simp (disch := omega) only [↓bindF (laws_toPatience_ok a0_0 a0_1 a0_2 a0_3 ga0_0 ga0_1 ga0_2 ga0_3), ↓bindF (laws_eqPatience_self a0_0 a0_1 a0_2 a0_3 ga0_0 ga0_1 ga0_2 ga0_3), ↓bindF (laws_markPatience_ok a0_0 a0_1 a0_2 a0_3 ga0_0 ga0_1 ga0_2 ga0_3 (1) (by omega) (by omega)), ↓bindF (laws_eqPatience_self r0 r1 r2 r3 gr0 gr1 gr2 gr3), ↓bindF (laws_markPatience_ok r0 r1 r2 r3 gr0 gr1 gr2 gr3 (1) (by omega) (by omega)), ↓bindF (laws_heldPatience_ok r0 r1 r2 r3 gr0 gr1 gr2 gr3 (1) (by omega) (by omega)), ↓bindF s1, ↓bindF s2, ↓if_dpos, ↓if_dneg, bne_self_eq_false, Bool.not_true, Bool.false_eq_true, if_false]
theorem law_FnExactMoveWaste (x : den (parTy HH 8)) (hx : Fit Try.prog (parTy HH 8) x) : ∃ n, frun Try.prog HH n 8 x = some true := by
  obtain ⟨a0_0, a0_1, a0_2, a0_3, a1⟩ := (x : (List ((List Int) × Int)) × (List Int) × (List Int) × (List Int) × Int)
  obtain ⟨ha0_0, ha0_1, ha0_2, ha0_3, ha1⟩ := hx
  exact run_some (laws_FnExactMoveWaste_ok a0_0 a0_1 a0_2 a0_3 a1 (fit3 ha0_0 (of_decide_eq_true (by kernel_rfl)) (of_decide_eq_true (by kernel_rfl))) (fit1 ha0_1 (of_decide_eq_true (by kernel_rfl))) (fit1 ha0_2 (of_decide_eq_true (by kernel_rfl))) (fit1 ha0_3 (of_decide_eq_true (by kernel_rfl))))
end Go.Proofs.Ytenojifdoofcfaa.V
