/- Plain laws over the shapes. -/
import Derived.Test.YtdkhomhdapoeoaaPM
import Derived.Test.YtdkhomhdapoeoaaPReplay
import Derived.Test.YtdkhomhdapoeoaaLFnExactTurnsOf
import Derived.Test.YtdkhomhdapoeoaaFReplayMove
import Derived.Test.YtdkhomhdapoeoaaFTurnsOf
import Derived.Test.YtdkhomhdapoeoaaM
import Derived.Test.YtdkhomhdapoeoaaS3
set_option linter.unusedVariables false
set_option linter.unusedSimpArgs false
set_option maxRecDepth 10000
namespace Go.Proofs.Ytdkhomhdapoeoaa.V
open Go

theorem turns_loop (l : List Int) (hl : l.length ≤ 1048576) (a0 a1 : Int) (a2 a3 : Bool) (a4 a5 : List Int) (a6 a7 : Int) (h4 : a4.length ≤ 1048576) (h5 : a5.length ≤ 1048576) : ∀ i, i ≤ l.length → ∀ (out : List Int) (hs : List (List Int)) (st hp : List Int) (tu mo pa : Int), G2 hs → st.length ≤ 2097152 → hp.length ≤ 2097152 → out.length = hs.length →
    ∃ r, spec_TurnsOf_L3v1 l i a0 a1 a2 a3 a6 a7 tu mo pa out a4 a5 hs st hp = some r ∧ impl_TurnsOf_L3 l l.length i a0 a1 a2 a3 a6 a7 tu mo pa out a4 a5 hs st hp = some r ∧ r.length = hs.length := down (by
    intro out hs st hp tu mo pa hh h9 h10 ho
    rw [spec_TurnsOf_L3v1_eq, impl_TurnsOf_L3_eq]
    simp (disch := (first | omega | (simp only [List.length_append, List.length_cons, List.length_nil, List.length_take, List.length_drop, List.length_set, List.length_replicate, List.length_singleton]; omega))) only [↓if_dpos, ↓if_dneg, ↓if_epos, ↓if_eneg, ↓if_npos, ↓if_nneg, ↓if_pos, ↓if_neg]
    exact ⟨_, rfl, rfl, ho⟩) fun i hi ih out hs st hp tu mo pa hh h9 h10 ho => by
  have hil : (i : Int) < (l.length : Int) := by omega
  have hw : IntKind.i64.wrap ((i : Int) + 1) = ((i + 1 : Nat) : Int) := wrap_succ hi (by omega)
  obtain ⟨r8, r9, r10, r11, r12, r13, r14, e, k1, k2, k3, k4, k5⟩ := move_good a0 a1 a2 a3 a4 a5 a6 a7 hs st hp tu mo pa (l.getD i 0) h4 h5 hh h9 h10
  have s := spec_ReplayMove_ok a0 a1 a2 a3 a4 a5 a6 a7 hs st hp tu mo pa (l.getD i 0) h4 h5 hh h9 h10
  have t := impl_ReplayMove_ok a0 a1 a2 a3 a4 a5 a6 a7 hs st hp tu mo pa (l.getD i 0) h4 h5 hh h9 h10
  rw [e] at s t
  rw [spec_TurnsOf_L3v1_eq, impl_TurnsOf_L3_eq]
  simp (disch := (first | omega | (simp only [List.length_append, List.length_cons, List.length_nil, List.length_take, List.length_drop, List.length_set, List.length_replicate, List.length_singleton]; omega))) only [↓if_dpos, ↓if_dneg, ↓if_epos, ↓if_eneg, ↓if_npos, ↓if_nneg, ↓if_pos, ↓if_neg, hw, Int.toNat_natCast, List.nil_append, Nat.zero_add, List.length_singleton, Option.bind_some, List.drop_zero, List.take_length, if_true, if_false, ↓bindF s, ↓bindF t]
  cases r14
  · exact ⟨_, rfl, rfl, ho⟩
  · have v := gameM_valid a0 a1 a2 a3 a4 a5 a6 a7 hs st hp tu mo pa (k5 rfl)
    obtain ⟨v1, v2, v3⟩ := (⟨v.t1, v.t2, v.players⟩ : _ ∧ _ ∧ _)
    simp (disch := (first | omega | (simp only [List.length_append, List.length_cons, List.length_nil, List.length_take, List.length_drop, List.length_set, List.length_replicate, List.length_singleton]; omega))) only [↓if_dpos, ↓if_dneg, ↓if_epos, ↓if_eneg, ↓if_npos, ↓if_nneg, ↓if_pos, ↓if_neg, Bool.not_true, Bool.false_eq_true, if_false]
    obtain ⟨r, x1, x2, x3⟩ := ih (out.set tu.toNat (IntKind.i64.wrap (out.getD tu.toNat 0 + 1))) r8 r9 r10 r11 r12 r13 k1 k2 k3 (by rw [List.length_set]; omega)
    exact ⟨r, x1, x2, by omega⟩
theorem turnsOf_ok (a0_0 : Int) (a0_1 : Int) (a0_2 : Bool) (a0_3 : Bool) (a0_4 : List Int) (a0_5 : List Int) (a0_6 : Int) (a0_7 : Int) (a0_8 : List (List Int)) (a0_9 : List Int) (a0_10 : List Int) (a0_11 : Int) (a0_12 : Int) (a0_13 : Int) (a1 : List Int) (ba0_4 : B1 1048576 a0_4) (ba0_5 : B1 1048576 a0_5) (ba0_8 : B2 1048576 a0_8) (ba0_9 : B1 1048576 a0_9) (ba0_10 : B1 1048576 a0_10) (ba1 : B1 1048576 a1) :
    ∃ (r0 : List Int), spec_TurnsOf a0_0 a0_1 a0_2 a0_3 a0_4 a0_5 a0_6 a0_7 a0_8 a0_9 a0_10 a0_11 a0_12 a0_13 a1 = some r0 ∧ impl_TurnsOf a0_0 a0_1 a0_2 a0_3 a0_4 a0_5 a0_6 a0_7 a0_8 a0_9 a0_10 a0_11 a0_12 a0_13 a1 = some r0 ∧ r0.length ≤ 2097152 := by
  have h4 := ba0_4.nat
  have h5 := ba0_5.nat
  have hh := ba0_8.g
  have h9 := ba0_9.le
  have h10 := ba0_10.le
  have hl := ba1.nat
  have hl8 := hh.len
  rw [spec_TurnsOf_eq, impl_TurnsOf_eq, impl_Game_copied_ok a0_0 a0_1 a0_2 a0_3 a0_4 a0_5 a0_6 a0_7 a0_8 a0_9 a0_10 a0_11 a0_12 a0_13 h4 h5 hh h9 h10]
  simp (disch := (first | omega | (simp only [List.length_append, List.length_cons, List.length_nil, List.length_take, List.length_drop, List.length_set, List.length_replicate, List.length_singleton]; omega))) only [↓if_dpos, ↓if_dneg, ↓if_epos, ↓if_eneg, ↓if_npos, ↓if_nneg, ↓if_pos, ↓if_neg, Int.toNat_natCast, List.nil_append, Nat.zero_add, List.length_singleton, Option.bind_some, List.drop_zero, List.take_length, if_true, if_false]
  have e0 : spec_TurnsOf_L3 a1 0 a0_0 a0_1 a0_2 a0_3 a0_4 a0_5 a0_6 a0_7 a0_8 a0_9 a0_10 a0_11 a0_12 a0_13 (List.replicate a0_8.length 0) = spec_TurnsOf_L3v1 a1 0 a0_0 a0_1 a0_2 a0_3 a0_6 a0_7 a0_11 a0_12 a0_13 (List.replicate a0_8.length 0) a0_4 a0_5 a0_8 a0_9 a0_10 := by
    rw [spec_TurnsOf_L3_eq, spec_TurnsOf_L3v1_eq]
  rw [e0]
  obtain ⟨r, x1, x2, x3⟩ := turns_loop a1 hl a0_0 a0_1 a0_2 a0_3 a0_4 a0_5 a0_6 a0_7 h4 h5 0 (Nat.zero_le _) (List.replicate a0_8.length 0) a0_8 a0_9 a0_10 a0_11 a0_12 a0_13 hh h9 h10 (by simp)
  exact ⟨r, x1, x2, by omega⟩
theorem laws_FnExactTurnsOf_ok (a0_0 : Int) (a0_1 : Int) (a0_2 : Bool) (a0_3 : Bool) (a0_4 : List Int) (a0_5 : List Int) (a0_6 : Int) (a0_7 : Int) (a0_8 : List (List Int)) (a0_9 : List Int) (a0_10 : List Int) (a0_11 : Int) (a0_12 : Int) (a0_13 : Int) (a1 : List Int) (fa0_4 : F1 a0_4) (fa0_5 : F1 a0_5) (fa0_8 : F2 a0_8) (fa0_9 : F1 a0_9) (fa0_10 : F1 a0_10) (fa1 : F1 a1) : laws_FnExactTurnsOf a0_0 a0_1 a0_2 a0_3 a0_4 a0_5 a0_6 a0_7 a0_8 a0_9 a0_10 a0_11 a0_12 a0_13 a1 = some true := by
  rw [laws_FnExactTurnsOf_eq]
  by_cases h : (a1.length : Int) > 1048576
  · rw [if_pos (decide_eq_true h)]
  rw [if_neg (by simpa using h)]
  have ba1 : B1 1048576 a1 := by unfold B1; omega
  clear h
  obtain ⟨c1, e1, h⟩ := laws_szGame_sp a0_0 a0_1 a0_2 a0_3 a0_4 a0_5 a0_6 a0_7 a0_8 a0_9 a0_10 a0_11 a0_12 a0_13 1048576 fa0_4 fa0_5 fa0_8 fa0_9 fa0_10 (by omega) (by omega)
  rw [e1, Option.bind_some]
  rcases h with h | ⟨p1, q1, ra0_4, ra0_5, ra0_8, ra0_9, ra0_10⟩
  · rw [if_pos (decide_eq_true h)]
  rw [if_neg (by simp; omega)]
  have ba0_4 := ra0_4.mono (b' := 1048576) (by omega)
  have ba0_5 := ra0_5.mono (b' := 1048576) (by omega)
  have ba0_8 := ra0_8.mono (b' := 1048576) (by omega)
  have ba0_9 := ra0_9.mono (b' := 1048576) (by omega)
  have ba0_10 := ra0_10.mono (b' := 1048576) (by omega)
  obtain ⟨r0, s1, s2, gr0⟩ := turnsOf_ok a0_0 a0_1 a0_2 a0_3 a0_4 a0_5 a0_6 a0_7 a0_8 a0_9 a0_10 a0_11 a0_12 a0_13 a1 ba0_4 ba0_5 ba0_8 ba0_9 ba0_10 ba1
  have ga0_4 := ba0_4.le
  have ga0_5 := ba0_5.le
  have ga0_8 := ba0_8.g
  have ga0_9 := ba0_9.le
  have ga0_10 := ba0_10.le
  have ga1 := ba1.le
  have ta0_4 := ga0_4
  have ta0_5 := ga0_5
  have ta0_8 := ga0_8.tle
  have ta0_9 := ga0_9
  have ta0_10 := ga0_10
  have ta1 := ga1
  have tr0 := gr0
  simp (disch := omega) only [↓bindF (laws_toGame_ok a0_0 a0_1 a0_2 a0_3 a0_4 a0_5 a0_6 a0_7 a0_8 a0_9 a0_10 a0_11 a0_12 a0_13 ga0_4 ga0_5 ga0_8 ga0_9 ga0_10), ↓bindF (laws_toIntS_ok a1 ga1), ↓bindF (laws_eqGame_self a0_0 a0_1 a0_2 a0_3 a0_4 a0_5 a0_6 a0_7 a0_8 a0_9 a0_10 a0_11 a0_12 a0_13 ga0_4 ga0_5 ga0_8 ga0_9 ga0_10), ↓bindF (laws_eqIntS_self a1 ga1), ↓bindF (laws_markGame_ok a0_0 a0_1 a0_2 a0_3 a0_4 a0_5 a0_6 a0_7 a0_8 a0_9 a0_10 a0_11 a0_12 a0_13 ga0_4 ga0_5 ga0_8 ga0_9 ga0_10 (1) (by omega) (by omega)), ↓bindF (laws_markIntS_ok a1 ga1 (1 + (a0_4.length : Int) + (a0_5.length : Int) + (tot a0_8 : Int) + (a0_9.length : Int) + (a0_10.length : Int)) (by omega) (by omega)), ↓bindF (laws_eqIntS_self r0 gr0), ↓bindF (laws_markIntS_ok r0 gr0 (1) (by omega) (by omega)), ↓bindF (laws_heldIntS_ok r0.length gr0 (1) (by omega) (by omega)), ↓bindF s1, ↓bindF s2, ↓if_dpos, ↓if_dneg, bne_self_eq_false, Bool.not_true, Bool.false_eq_true, if_false]
theorem law_FnExactTurnsOf (x : den (parTy HH 7)) (hx : Fit Try.prog (parTy HH 7) x) : ∃ n, frun Try.prog HH n 7 x = some true := by
  obtain ⟨a0_0, a0_1, a0_2, a0_3, a0_4, a0_5, a0_6, a0_7, a0_8, a0_9, a0_10, a0_11, a0_12, a0_13, a1⟩ := (x : Int × Int × Bool × Bool × (List Int) × (List Int) × Int × Int × (List (List Int)) × (List Int) × (List Int) × Int × Int × Int × List Int)
  obtain ⟨ha0_0, ha0_1, ha0_2, ha0_3, ha0_4, ha0_5, ha0_6, ha0_7, ha0_8, ha0_9, ha0_10, ha0_11, ha0_12, ha0_13, ha1⟩ := hx
  exact run_some (laws_FnExactTurnsOf_ok a0_0 a0_1 a0_2 a0_3 a0_4 a0_5 a0_6 a0_7 a0_8 a0_9 a0_10 a0_11 a0_12 a0_13 a1 (fit1 ha0_4 (of_decide_eq_true (by kernel_rfl))) (fit1 ha0_5 (of_decide_eq_true (by kernel_rfl))) (fit2 ha0_8 (of_decide_eq_true (by kernel_rfl)) (of_decide_eq_true (by kernel_rfl))) (fit1 ha0_9 (of_decide_eq_true (by kernel_rfl))) (fit1 ha0_10 (of_decide_eq_true (by kernel_rfl))) (fit1 ha1 (of_decide_eq_true (by kernel_rfl))))
end Go.Proofs.Ytdkhomhdapoeoaa.V
