/- Plain laws over the shapes. -/
import Derived.Test.YtdkhomhdapoeoaaPM
import Derived.Test.YtdkhomhdapoeoaaPReplay
import Derived.Test.YtdkhomhdapoeoaaLFnExactReplayMove
import Derived.Test.YtdkhomhdapoeoaaFReplayMove
import Derived.Test.YtdkhomhdapoeoaaM
set_option linter.unusedVariables false
set_option linter.unusedSimpArgs false
set_option maxRecDepth 10000
namespace Go.Proofs.Ytdkhomhdapoeoaa.V
open Go

theorem replayMove_ok (a0_0 : Int) (a0_1 : Int) (a0_2 : Bool) (a0_3 : Bool) (a0_4 : List Int) (a0_5 : List Int) (a0_6 : Int) (a0_7 : Int) (a0_8 : List (List Int)) (a0_9 : List Int) (a0_10 : List Int) (a0_11 : Int) (a0_12 : Int) (a0_13 : Int) (a1 : Int) (ba0_4 : B1 1048576 a0_4) (ba0_5 : B1 1048576 a0_5) (ba0_8 : B2 1048576 a0_8) (ba0_9 : B1 1048576 a0_9) (ba0_10 : B1 1048576 a0_10) :
    ∃ (r0 : Int) (r1 : Int) (r2 : Bool) (r3 : Bool) (r4 : List Int) (r5 : List Int) (r6 : Int) (r7 : Int) (r8 : List (List Int)) (r9 : List Int) (r10 : List Int) (r11 : Int) (r12 : Int) (r13 : Int) (r14 : Bool), spec_ReplayMove a0_0 a0_1 a0_2 a0_3 a0_4 a0_5 a0_6 a0_7 a0_8 a0_9 a0_10 a0_11 a0_12 a0_13 a1 = some (r0, r1, r2, r3, r4, r5, r6, r7, r8, r9, r10, r11, r12, r13, r14) ∧ impl_ReplayMove a0_0 a0_1 a0_2 a0_3 a0_4 a0_5 a0_6 a0_7 a0_8 a0_9 a0_10 a0_11 a0_12 a0_13 a1 = some (r0, r1, r2, r3, r4, r5, r6, r7, r8, r9, r10, r11, r12, r13, r14) ∧ r4.length ≤ 2097152 ∧ r5.length ≤ 2097152 ∧ G2 r8 ∧ r9.length ≤ 2097152 ∧ r10.length ≤ 2097152 := by
  have h4 := ba0_4.nat
  have h5 := ba0_5.nat
  have hh := ba0_8.g
  have h9 := ba0_9.le
  have h10 := ba0_10.le
  obtain ⟨r8, r9, r10, r11, r12, r13, r14, e, k1, k2, k3, k4, k5⟩ := move_good a0_0 a0_1 a0_2 a0_3 a0_4 a0_5 a0_6 a0_7 a0_8 a0_9 a0_10 a0_11 a0_12 a0_13 a1 h4 h5 hh h9 h10
  have s := spec_ReplayMove_ok a0_0 a0_1 a0_2 a0_3 a0_4 a0_5 a0_6 a0_7 a0_8 a0_9 a0_10 a0_11 a0_12 a0_13 a1 h4 h5 hh h9 h10
  have i := impl_ReplayMove_ok a0_0 a0_1 a0_2 a0_3 a0_4 a0_5 a0_6 a0_7 a0_8 a0_9 a0_10 a0_11 a0_12 a0_13 a1 h4 h5 hh h9 h10
  rw [e] at s i
  exact ⟨_, _, _, _, _, _, _, _, _, _, _, _, _, _, _, s, i, by omega, by omega, k1, k2, k3⟩
theorem laws_FnExactReplayMove_ok (a0_0 : Int) (a0_1 : Int) (a0_2 : Bool) (a0_3 : Bool) (a0_4 : List Int) (a0_5 : List Int) (a0_6 : Int) (a0_7 : Int) (a0_8 : List (List Int)) (a0_9 : List Int) (a0_10 : List Int) (a0_11 : Int) (a0_12 : Int) (a0_13 : Int) (a1 : Int) (fa0_4 : F1 a0_4) (fa0_5 : F1 a0_5) (fa0_8 : F2 a0_8) (fa0_9 : F1 a0_9) (fa0_10 : F1 a0_10) : laws_FnExactReplayMove a0_0 a0_1 a0_2 a0_3 a0_4 a0_5 a0_6 a0_7 a0_8 a0_9 a0_10 a0_11 a0_12 a0_13 a1 = some true := by
  rw [laws_FnExactReplayMove_eq]
  obtain ⟨c1, e1, h⟩ := laws_szGame_sp a0_0 a0_1 a0_2 a0_3 a0_4 a0_5 a0_6 a0_7 a0_8 a0_9 a0_10 a0_11 a0_12 a0_13 1048576 fa0_4 fa0_5 fa0_8 fa0_9 fa0_10 (by omega) (by omega)
  rw [e1, Option.bind_some]
  rcases h with h | ⟨p1, q1, ra0_4, ra0_5, ra0_8, ra0_9, ra0_10⟩
  · rw [if_pos (decide_eq_true h)]
  rw [if_neg (by simp; omega)]
  have ba0_4 := ra0_4.mono (b' := 1048576) (by omega)
  have ba0_5 := ra0_5.mono (b' := 1048576) (by omega)
  have ba0_8 := ra0_8.mono (b' := 1048576) (by omega)
  have ba0_9 := ra0_9.mono (b' := 1048576) (by omega)
  have ba0_10 := ra0_10.mono (b' := 1048576) (by omega)
  obtain ⟨r0, r1, r2, r3, r4, r5, r6, r7, r8, r9, r10, r11, r12, r13, r14, s1, s2, gr4, gr5, gr8, gr9, gr10⟩ := replayMove_ok a0_0 a0_1 a0_2 a0_3 a0_4 a0_5 a0_6 a0_7 a0_8 a0_9 a0_10 a0_11 a0_12 a0_13 a1 ba0_4 ba0_5 ba0_8 ba0_9 ba0_10
  have ga0_4 := ba0_4.le
  have ga0_5 := ba0_5.le
  have ga0_8 := ba0_8.g
  have ga0_9 := ba0_9.le
  have ga0_10 := ba0_10.le
  have ta0_4 := ga0_4
  have ta0_5 := ga0_5
  have ta0_8 := ga0_8.tle
  have ta0_9 := ga0_9
  have ta0_10 := ga0_10
  have tr4 := gr4
  have tr5 := gr5
  have tr8 := gr8.tle
  have tr9 := gr9
  have tr10 := gr10
  simp (disch := omega) only [↓bindF (laws_toGame_ok a0_0 a0_1 a0_2 a0_3 a0_4 a0_5 a0_6 a0_7 a0_8 a0_9 a0_10 a0_11 a0_12 a0_13 ga0_4 ga0_5 ga0_8 ga0_9 ga0_10), ↓bindF (laws_eqGame_self a0_0 a0_1 a0_2 a0_3 a0_4 a0_5 a0_6 a0_7 a0_8 a0_9 a0_10 a0_11 a0_12 a0_13 ga0_4 ga0_5 ga0_8 ga0_9 ga0_10), ↓bindF (laws_markGame_ok a0_0 a0_1 a0_2 a0_3 a0_4 a0_5 a0_6 a0_7 a0_8 a0_9 a0_10 a0_11 a0_12 a0_13 ga0_4 ga0_5 ga0_8 ga0_9 ga0_10 (1) (by omega) (by omega)), ↓bindF (laws_eqGame_self r0 r1 r2 r3 r4 r5 r6 r7 r8 r9 r10 r11 r12 r13 gr4 gr5 gr8 gr9 gr10), ↓bindF (laws_markGame_ok r0 r1 r2 r3 r4 r5 r6 r7 r8 r9 r10 r11 r12 r13 gr4 gr5 gr8 gr9 gr10 (1) (by omega) (by omega)), ↓bindF (laws_heldGame_ok r0 r1 r2 r3 r4 r5 r6 r7 r8 r9 r10 r11 r12 r13 gr4 gr5 gr8 gr9 gr10 (1) (by omega) (by omega)), ↓bindF s1, ↓bindF s2, ↓if_dpos, ↓if_dneg, bne_self_eq_false, Bool.not_true, Bool.false_eq_true, if_false]
theorem law_FnExactReplayMove (x : den (parTy HH 8)) (hx : Fit Try.prog (parTy HH 8) x) : ∃ n, frun Try.prog HH n 8 x = some true := by
  obtain ⟨a0_0, a0_1, a0_2, a0_3, a0_4, a0_5, a0_6, a0_7, a0_8, a0_9, a0_10, a0_11, a0_12, a0_13, a1⟩ := (x : Int × Int × Bool × Bool × (List Int) × (List Int) × Int × Int × (List (List Int)) × (List Int) × (List Int) × Int × Int × Int × Int)
  obtain ⟨ha0_0, ha0_1, ha0_2, ha0_3, ha0_4, ha0_5, ha0_6, ha0_7, ha0_8, ha0_9, ha0_10, ha0_11, ha0_12, ha0_13, ha1⟩ := hx
  exact run_some (laws_FnExactReplayMove_ok a0_0 a0_1 a0_2 a0_3 a0_4 a0_5 a0_6 a0_7 a0_8 a0_9 a0_10 a0_11 a0_12 a0_13 a1 (fit1 ha0_4 (of_decide_eq_true (by kernel_rfl))) (fit1 ha0_5 (of_decide_eq_true (by kernel_rfl))) (fit2 ha0_8 (of_decide_eq_true (by kernel_rfl)) (of_decide_eq_true (by kernel_rfl))) (fit1 ha0_9 (of_decide_eq_true (by kernel_rfl))) (fit1 ha0_10 (of_decide_eq_true (by kernel_rfl))))
end Go.Proofs.Ytdkhomhdapoeoaa.V
