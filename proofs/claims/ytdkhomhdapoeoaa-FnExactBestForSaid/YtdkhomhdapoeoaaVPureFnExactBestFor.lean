/- Plain laws over the shapes. -/
import Derived.Test.YtdkhomhdapoeoaaPM
import Derived.Test.YtdkhomhdapoeoaaPChoice
import Derived.Test.YtdkhomhdapoeoaaLFnExactBestFor
import Derived.Test.YtdkhomhdapoeoaaFBestFor
import Derived.Test.YtdkhomhdapoeoaaFIsGame
import Derived.Test.YtdkhomhdapoeoaaFPlayable
import Derived.Test.YtdkhomhdapoeoaaM
import Derived.Test.YtdkhomhdapoeoaaS4
import Derived.Test.YtdkhomhdapoeoaaS5
import Derived.Test.YtdkhomhdapoeoaaS6
set_option linter.unusedVariables false
set_option linter.unusedSimpArgs false
set_option maxRecDepth 10000
namespace Go.Proofs.Ytdkhomhdapoeoaa.V
open Go

theorem best_step (a0 a1 : Int) (a2 a3 : Bool) (a4 a5 : List Int) (a6 a7 : Int) (hs : List (List Int)) (st hp : List Int) (tu mo pa : Int) (kind : Int) (h4 : a4.length ≤ 1048576) (h5 : a5.length ≤ 1048576) (hh : G2 hs) (h9 : st.length ≤ 2097152) (h10 : hp.length ≤ 2097152) : ∃ (r8 : List (List Int)) (r9 r10 : List Int) (r11 r12 r13 : Int) (n : Nat), n ≤ 52 ∧
    (∀ {β : Type} (k : _ → Option β), ((spec_AutoMove a0 a1 a2 a3 a4 a5 a6 a7 hs st hp tu mo pa kind).bind k) = k (a0, a1, a2, a3, a4, a5, a6, a7, r8, r9, r10, r11, r12, r13, gameM a0 a1 a2 a3 a4 a5 a6 a7 hs st hp tu mo pa && !overM a0 a7 hs mo pa)) ∧
    (∀ {β : Type} (k : _ → Option β), ((impl_AutoMove a0 a1 a2 a3 a4 a5 a6 a7 hs st hp tu mo pa kind).bind k) = k (a0, a1, a2, a3, a4, a5, a6, a7, r8, r9, r10, r11, r12, r13, gameM a0 a1 a2 a3 a4 a5 a6 a7 hs st hp tu mo pa && !overM a0 a7 hs mo pa)) ∧
    ∃ l, l.length = n ∧ spec_Playable a0 a1 a2 a3 a4 a5 a6 a7 r8 r9 r10 r11 r12 r13 = some l ∧ impl_Playable a0 a1 a2 a3 a4 a5 a6 a7 r8 r9 r10 r11 r12 r13 = some l := by
  obtain ⟨r8, r9, r10, r11, r12, r13, r14, e, k1, k2, k3, k4, k5⟩ := move_good a0 a1 a2 a3 a4 a5 a6 a7 hs st hp tu mo pa (choiceM a0 a1 a2 a3 a4 a5 a6 a7 hs st hp tu mo pa kind) h4 h5 hh h9 h10
  have hf := auto_flag a0 a1 a2 a3 a4 a5 a6 a7 hs st hp tu mo pa kind
  rw [e] at hf
  have s := spec_AutoMove_ok a0 a1 a2 a3 a4 a5 a6 a7 hs st hp tu mo pa kind h4 h5 hh h9 h10
  have t := impl_AutoMove_ok a0 a1 a2 a3 a4 a5 a6 a7 hs st hp tu mo pa kind h4 h5 hh h9 h10
  rw [e] at s t
  have hf : r14 = (gameM a0 a1 a2 a3 a4 a5 a6 a7 hs st hp tu mo pa && !overM a0 a7 hs mo pa) := hf
  rw [hf] at s t
  exact ⟨r8, r9, r10, r11, r12, r13, _, playM_length a0 a1 a2 a3 a4 a5 a6 a7 r8 r9 r10 r11 r12 r13, fun k => bindF s k, fun k => bindF t k, _, rfl, spec_Playable_ok _ _ _ _ _ _ _ _ _ _ _ _ _ _ h4 h5 k1 k2 k3, impl_Playable_ok _ _ _ _ _ _ _ _ _ _ _ _ _ _ h4 h5 k1 k2 k3⟩
theorem bestFor_ok (a0_0 : Int) (a0_1 : Int) (a0_2 : Bool) (a0_3 : Bool) (a0_4 : List Int) (a0_5 : List Int) (a0_6 : Int) (a0_7 : Int) (a0_8 : List (List Int)) (a0_9 : List Int) (a0_10 : List Int) (a0_11 : Int) (a0_12 : Int) (a0_13 : Int) (ba0_4 : B1 1048576 a0_4) (ba0_5 : B1 1048576 a0_5) (ba0_8 : B2 1048576 a0_8) (ba0_9 : B1 1048576 a0_9) (ba0_10 : B1 1048576 a0_10) :
    ∃ (r0 : Int), spec_BestFor a0_0 a0_1 a0_2 a0_3 a0_4 a0_5 a0_6 a0_7 a0_8 a0_9 a0_10 a0_11 a0_12 a0_13 = some r0 ∧ impl_BestFor a0_0 a0_1 a0_2 a0_3 a0_4 a0_5 a0_6 a0_7 a0_8 a0_9 a0_10 a0_11 a0_12 a0_13 = some r0 := by
  have h4 := ba0_4.nat
  have h5 := ba0_5.nat
  have hh := ba0_8.g
  have h9 := ba0_9.le
  have h10 := ba0_10.le
  obtain ⟨p8, p9, p10, p11, p12, p13, n0, hn0, s0, t0, l0, e0, f0, g0⟩ := best_step a0_0 a0_1 a0_2 a0_3 a0_4 a0_5 a0_6 a0_7 a0_8 a0_9 a0_10 a0_11 a0_12 a0_13 0 h4 h5 hh h9 h10
  obtain ⟨q8, q9, q10, q11, q12, q13, n1, hn1, s1, t1, l1, e1, f1, g1⟩ := best_step a0_0 a0_1 a0_2 a0_3 a0_4 a0_5 a0_6 a0_7 a0_8 a0_9 a0_10 a0_11 a0_12 a0_13 1 h4 h5 hh h9 h10
  obtain ⟨r8, r9, r10, r11, r12, r13, n2, hn2, s2, t2, l2, e2, f2, g2⟩ := best_step a0_0 a0_1 a0_2 a0_3 a0_4 a0_5 a0_6 a0_7 a0_8 a0_9 a0_10 a0_11 a0_12 a0_13 2 h4 h5 hh h9 h10
  have w0 : IntKind.i64.wrap (0 + 1) = 1 := by rw [wrap_id (by omega) (by omega)]; rfl
  have w1 : IntKind.i64.wrap (1 + 1) = 2 := by rw [wrap_id (by omega) (by omega)]; rfl
  have w2 : IntKind.i64.wrap (2 + 1) = 3 := by rw [wrap_id (by omega) (by omega)]; rfl
  have S3 : ∀ b l : Int, spec_BestFor_L4 b l 3 a0_0 a0_1 a0_2 a0_3 a0_4 a0_5 a0_6 a0_7 a0_8 a0_9 a0_10 a0_11 a0_12 a0_13 = some b := fun b l => by
    rw [spec_BestFor_L4_eq]
    simp (disch := (first | omega | (simp only [List.length_append, List.length_cons, List.length_nil, List.length_take, List.length_drop, List.length_set, List.length_replicate, List.length_singleton]; omega))) only [↓if_dpos, ↓if_dneg, ↓if_epos, ↓if_eneg, ↓if_npos, ↓if_nneg, ↓if_pos, ↓if_neg]
  have I3 : ∀ b l : Int, impl_BestFor_L5 b l 3 a0_0 a0_1 a0_2 a0_3 a0_4 a0_5 a0_6 a0_7 a0_8 a0_9 a0_10 a0_11 a0_12 a0_13 = some b := fun b l => by
    rw [impl_BestFor_L5_eq]
    simp (disch := (first | omega | (simp only [List.length_append, List.length_cons, List.length_nil, List.length_take, List.length_drop, List.length_set, List.length_replicate, List.length_singleton]; omega))) only [↓if_dpos, ↓if_dneg, ↓if_epos, ↓if_eneg, ↓if_npos, ↓if_nneg, ↓if_pos, ↓if_neg]
  rw [spec_BestFor_eq, impl_BestFor_eq, impl_IsGame_ok a0_0 a0_1 a0_2 a0_3 a0_4 a0_5 a0_6 a0_7 a0_8 a0_9 a0_10 a0_11 a0_12 a0_13 h4 h5 hh h9 h10, Option.bind_some, impl_IsEnded_ok a0_0 a0_1 a0_2 a0_3 a0_4 a0_5 a0_6 a0_7 a0_8 a0_9 a0_10 a0_11 a0_12 a0_13 h4 h5 hh h9 h10, Option.bind_some, endM]
  cases hg : (gameM a0_0 a0_1 a0_2 a0_3 a0_4 a0_5 a0_6 a0_7 a0_8 a0_9 a0_10 a0_11 a0_12 a0_13 && !overM a0_0 a0_7 a0_8 a0_12 a0_13)
  · have S2 : ∀ l : Int, spec_BestFor_L4 (-1) l 2 a0_0 a0_1 a0_2 a0_3 a0_4 a0_5 a0_6 a0_7 a0_8 a0_9 a0_10 a0_11 a0_12 a0_13 = some (-1) := fun l => by
      rw [spec_BestFor_L4_eq]
      simp (disch := (first | omega | (simp only [List.length_append, List.length_cons, List.length_nil, List.length_take, List.length_drop, List.length_set, List.length_replicate, List.length_singleton]; omega))) only [↓if_dpos, ↓if_dneg, ↓if_epos, ↓if_eneg, ↓if_npos, ↓if_nneg, ↓if_pos, ↓if_neg, s2, hg, ↓bindF f2, w2, S3, Bool.false_eq_true, if_false]
    have S1 : ∀ l : Int, spec_BestFor_L4 (-1) l 1 a0_0 a0_1 a0_2 a0_3 a0_4 a0_5 a0_6 a0_7 a0_8 a0_9 a0_10 a0_11 a0_12 a0_13 = some (-1) := fun l => by
      rw [spec_BestFor_L4_eq]
      simp (disch := (first | omega | (simp only [List.length_append, List.length_cons, List.length_nil, List.length_take, List.length_drop, List.length_set, List.length_replicate, List.length_singleton]; omega))) only [↓if_dpos, ↓if_dneg, ↓if_epos, ↓if_eneg, ↓if_npos, ↓if_nneg, ↓if_pos, ↓if_neg, s1, hg, ↓bindF f1, w1, S2, Bool.false_eq_true, if_false]
    have S0 : spec_BestFor_L4 (-1) 0 0 a0_0 a0_1 a0_2 a0_3 a0_4 a0_5 a0_6 a0_7 a0_8 a0_9 a0_10 a0_11 a0_12 a0_13 = some (-1) := by
      rw [spec_BestFor_L4_eq]
      simp (disch := (first | omega | (simp only [List.length_append, List.length_cons, List.length_nil, List.length_take, List.length_drop, List.length_set, List.length_replicate, List.length_singleton]; omega))) only [↓if_dpos, ↓if_dneg, ↓if_epos, ↓if_eneg, ↓if_npos, ↓if_nneg, ↓if_pos, ↓if_neg, s0, hg, ↓bindF f0, w0, S1, Bool.false_eq_true, if_false]
    refine ⟨-1, S0, ?_⟩
    cases h1 : gameM a0_0 a0_1 a0_2 a0_3 a0_4 a0_5 a0_6 a0_7 a0_8 a0_9 a0_10 a0_11 a0_12 a0_13
    · rfl
    · cases h2 : overM a0_0 a0_7 a0_8 a0_12 a0_13
      · rw [h1, h2] at hg; cases hg
      · rfl
  · have hg2 := hg
    simp only [Bool.and_eq_true, Bool.not_eq_true'] at hg2
    rw [hg2.1, hg2.2]
    simp only [Bool.not_true, Bool.false_eq_true, if_false, Bool.and_false]
    have S2 : ∀ b l : Int, 0 ≤ b → ∃ v, spec_BestFor_L4 b l 2 a0_0 a0_1 a0_2 a0_3 a0_4 a0_5 a0_6 a0_7 a0_8 a0_9 a0_10 a0_11 a0_12 a0_13 = some v ∧ impl_BestFor_L5 b l 2 a0_0 a0_1 a0_2 a0_3 a0_4 a0_5 a0_6 a0_7 a0_8 a0_9 a0_10 a0_11 a0_12 a0_13 = some v := fun b l hb => by
      rw [spec_BestFor_L4_eq, impl_BestFor_L5_eq]
      simp (disch := (first | omega | (simp only [List.length_append, List.length_cons, List.length_nil, List.length_take, List.length_drop, List.length_set, List.length_replicate, List.length_singleton]; omega))) only [↓if_dpos, ↓if_dneg, ↓if_epos, ↓if_eneg, ↓if_npos, ↓if_nneg, ↓if_pos, ↓if_neg, s2, t2, hg, ↓bindF f2, ↓bindF g2, w2, S3, I3, if_true]
      split <;> exact ⟨_, rfl, rfl⟩
    have S1 : ∀ b l : Int, 0 ≤ b → ∃ v, spec_BestFor_L4 b l 1 a0_0 a0_1 a0_2 a0_3 a0_4 a0_5 a0_6 a0_7 a0_8 a0_9 a0_10 a0_11 a0_12 a0_13 = some v ∧ impl_BestFor_L5 b l 1 a0_0 a0_1 a0_2 a0_3 a0_4 a0_5 a0_6 a0_7 a0_8 a0_9 a0_10 a0_11 a0_12 a0_13 = some v := fun b l hb => by
      rw [spec_BestFor_L4_eq, impl_BestFor_L5_eq]
      simp (disch := (first | omega | (simp only [List.length_append, List.length_cons, List.length_nil, List.length_take, List.length_drop, List.length_set, List.length_replicate, List.length_singleton]; omega))) only [↓if_dpos, ↓if_dneg, ↓if_epos, ↓if_eneg, ↓if_npos, ↓if_nneg, ↓if_pos, ↓if_neg, s1, t1, hg, ↓bindF f1, ↓bindF g1, w1, if_true]
      split
      · exact S2 _ _ (by omega)
      · exact S2 _ _ hb
    rw [spec_BestFor_L4_eq, impl_BestFor_L5_eq]
    simp (disch := (first | omega | (simp only [List.length_append, List.length_cons, List.length_nil, List.length_take, List.length_drop, List.length_set, List.length_replicate, List.length_singleton]; omega))) only [↓if_dpos, ↓if_dneg, ↓if_epos, ↓if_eneg, ↓if_npos, ↓if_nneg, ↓if_pos, ↓if_neg, s0, t0, hg, ↓bindF f0, ↓bindF g0, w0, if_true]
    exact S1 _ _ (by omega)
theorem laws_FnExactBestFor_ok (a0_0 : Int) (a0_1 : Int) (a0_2 : Bool) (a0_3 : Bool) (a0_4 : List Int) (a0_5 : List Int) (a0_6 : Int) (a0_7 : Int) (a0_8 : List (List Int)) (a0_9 : List Int) (a0_10 : List Int) (a0_11 : Int) (a0_12 : Int) (a0_13 : Int) (fa0_4 : F1 a0_4) (fa0_5 : F1 a0_5) (fa0_8 : F2 a0_8) (fa0_9 : F1 a0_9) (fa0_10 : F1 a0_10) : laws_FnExactBestFor a0_0 a0_1 a0_2 a0_3 a0_4 a0_5 a0_6 a0_7 a0_8 a0_9 a0_10 a0_11 a0_12 a0_13 = some true := by
  rw [laws_FnExactBestFor_eq]
  obtain ⟨c1, e1, h⟩ := laws_szGame_sp a0_0 a0_1 a0_2 a0_3 a0_4 a0_5 a0_6 a0_7 a0_8 a0_9 a0_10 a0_11 a0_12 a0_13 1048576 fa0_4 fa0_5 fa0_8 fa0_9 fa0_10 (by omega) (by omega)
  rw [e1, Option.bind_some]
  rcases h with h | ⟨p1, q1, ra0_4, ra0_5, ra0_8, ra0_9, ra0_10⟩
  · rw [if_pos (decide_eq_true h)]
  rw [if_neg (by simp; omega)]
  have ba0_4 := ra0_4.mono (b' := 1048576) (by omega)
  have ba0_5 := ra0_5.mono (b' := 1048576) (by omega)
  have ba0_8 := ra0_8.mono (b' := 1048576) (by omega)
  have ba0_9 := ra0_9.mono (b' := 1048576) (by omega)
  have ba0_10 := ra0_10.mono (b' := 1048576) (by omega)
  obtain ⟨r0, s1, s2⟩ := bestFor_ok a0_0 a0_1 a0_2 a0_3 a0_4 a0_5 a0_6 a0_7 a0_8 a0_9 a0_10 a0_11 a0_12 a0_13 ba0_4 ba0_5 ba0_8 ba0_9 ba0_10
  have ga0_4 := ba0_4.le
  have ga0_5 := ba0_5.le
  have ga0_8 := ba0_8.g
  have ga0_9 := ba0_9.le
  have ga0_10 := ba0_10.le
  have ta0_4 := ga0_4
  have ta0_5 := ga0_5
  have ta0_8 := ga0_8.tle
  have ta0_9 := ga0_9
  have ta0_10 := ga0_10
  simp (disch := omega) only [↓bindF (laws_toGame_ok a0_0 a0_1 a0_2 a0_3 a0_4 a0_5 a0_6 a0_7 a0_8 a0_9 a0_10 a0_11 a0_12 a0_13 ga0_4 ga0_5 ga0_8 ga0_9 ga0_10), ↓bindF (laws_eqGame_self a0_0 a0_1 a0_2 a0_3 a0_4 a0_5 a0_6 a0_7 a0_8 a0_9 a0_10 a0_11 a0_12 a0_13 ga0_4 ga0_5 ga0_8 ga0_9 ga0_10), ↓bindF s1, ↓bindF s2, ↓if_dpos, ↓if_dneg, bne_self_eq_false, Bool.not_true, Bool.false_eq_true, if_false]
theorem law_FnExactBestFor (x : den (parTy HH 9)) (hx : Fit Try.prog (parTy HH 9) x) : ∃ n, frun Try.prog HH n 9 x = some true := by
  obtain ⟨a0_0, a0_1, a0_2, a0_3, a0_4, a0_5, a0_6, a0_7, a0_8, a0_9, a0_10, a0_11, a0_12, a0_13⟩ := (x : Int × Int × Bool × Bool × (List Int) × (List Int) × Int × Int × (List (List Int)) × (List Int) × (List Int) × Int × Int × Int)
  obtain ⟨ha0_0, ha0_1, ha0_2, ha0_3, ha0_4, ha0_5, ha0_6, ha0_7, ha0_8, ha0_9, ha0_10, ha0_11, ha0_12, ha0_13⟩ := hx
  exact run_some (laws_FnExactBestFor_ok a0_0 a0_1 a0_2 a0_3 a0_4 a0_5 a0_6 a0_7 a0_8 a0_9 a0_10 a0_11 a0_12 a0_13 (fit1 ha0_4 (of_decide_eq_true (by kernel_rfl))) (fit1 ha0_5 (of_decide_eq_true (by kernel_rfl))) (fit2 ha0_8 (of_decide_eq_true (by kernel_rfl)) (of_decide_eq_true (by kernel_rfl))) (fit1 ha0_9 (of_decide_eq_true (by kernel_rfl))) (fit1 ha0_10 (of_decide_eq_true (by kernel_rfl))))
end Go.Proofs.Ytdkhomhdapoeoaa.V
