/- Plain laws over the shapes. -/
import Derived.Test.YtofmaimjbcpaiaaPMT
import Derived.Test.YtofmaimjbcpaiaaPEqual
import Derived.Test.YtofmaimjbcpaiaaLFnExactEqualTables
import Derived.Test.YtofmaimjbcpaiaaFEqualGames
import Derived.Test.YtofmaimjbcpaiaaFEqualTables
import Derived.Test.YtofmaimjbcpaiaaMT
import Derived.Test.YtofmaimjbcpaiaaS1
import Derived.Test.YtofmaimjbcpaiaaS3
import Derived.Test.YtofmaimjbcpaiaaS4
set_option linter.unusedVariables false
set_option linter.unusedSimpArgs false
set_option maxRecDepth 10000
namespace Go.Proofs.Ytofmaimjbcpaiaa.V
open Go
theorem equalTables_ok (a0_0 : Int) (a0_1 : Int) (a0_2 : Bool) (a0_3 : Bool) (a0_4 : List Int) (a0_5 : List Int) (a0_6 : Int) (a0_7 : Int) (a0_8 : List Int) (a0_9 : Bool) (a0_10 : List Int) (a0_11 : Int) (a0_12 : Int) (a0_13 : Bool) (a0_14 : Bool) (a0_15 : List Int) (a0_16 : List Int) (a0_17 : Int) (a0_18 : Int) (a0_19 : List (List Int)) (a0_20 : List Int) (a0_21 : List Int) (a0_22 : Int) (a0_23 : Int) (a0_24 : Int) (a0_25 : List Int) (a0_26 : List (List Int)) (a1_0 : Int) (a1_1 : Int) (a1_2 : Bool) (a1_3 : Bool) (a1_4 : List Int) (a1_5 : List Int) (a1_6 : Int) (a1_7 : Int) (a1_8 : List Int) (a1_9 : Bool) (a1_10 : List Int) (a1_11 : Int) (a1_12 : Int) (a1_13 : Bool) (a1_14 : Bool) (a1_15 : List Int) (a1_16 : List Int) (a1_17 : Int) (a1_18 : Int) (a1_19 : List (List Int)) (a1_20 : List Int) (a1_21 : List Int) (a1_22 : Int) (a1_23 : Int) (a1_24 : Int) (a1_25 : List Int) (a1_26 : List (List Int)) (ba0_4 : B1 1048576 a0_4) (ba0_5 : B1 1048576 a0_5) (ba0_8 : B1 1048576 a0_8) (ba0_10 : B1 1048576 a0_10) (ba0_15 : B1 1048576 a0_15) (ba0_16 : B1 1048576 a0_16) (ba0_19 : B2 1048576 a0_19) (ba0_20 : B1 1048576 a0_20) (ba0_21 : B1 1048576 a0_21) (ba0_25 : B1 1048576 a0_25) (ba0_26 : B2 1048576 a0_26) (ba1_4 : B1 1048576 a1_4) (ba1_5 : B1 1048576 a1_5) (ba1_8 : B1 1048576 a1_8) (ba1_10 : B1 1048576 a1_10) (ba1_15 : B1 1048576 a1_15) (ba1_16 : B1 1048576 a1_16) (ba1_19 : B2 1048576 a1_19) (ba1_20 : B1 1048576 a1_20) (ba1_21 : B1 1048576 a1_21) (ba1_25 : B1 1048576 a1_25) (ba1_26 : B2 1048576 a1_26) :
    ∃ (r0 : Bool), spec_EqualTables a0_0 a0_1 a0_2 a0_3 a0_4 a0_5 a0_6 a0_7 a0_8 a0_9 a0_10 a0_11 a0_12 a0_13 a0_14 a0_15 a0_16 a0_17 a0_18 a0_19 a0_20 a0_21 a0_22 a0_23 a0_24 a0_25 a0_26 a1_0 a1_1 a1_2 a1_3 a1_4 a1_5 a1_6 a1_7 a1_8 a1_9 a1_10 a1_11 a1_12 a1_13 a1_14 a1_15 a1_16 a1_17 a1_18 a1_19 a1_20 a1_21 a1_22 a1_23 a1_24 a1_25 a1_26 = some r0 ∧ impl_EqualTables a0_0 a0_1 a0_2 a0_3 a0_4 a0_5 a0_6 a0_7 a0_8 a0_9 a0_10 a0_11 a0_12 a0_13 a0_14 a0_15 a0_16 a0_17 a0_18 a0_19 a0_20 a0_21 a0_22 a0_23 a0_24 a0_25 a0_26 a1_0 a1_1 a1_2 a1_3 a1_4 a1_5 a1_6 a1_7 a1_8 a1_9 a1_10 a1_11 a1_12 a1_13 a1_14 a1_15 a1_16 a1_17 a1_18 a1_19 a1_20 a1_21 a1_22 a1_23 a1_24 a1_25 a1_26 = some r0 := by
  have h4 := ba0_4.nat
  have h5 := ba0_5.nat
  have h8 := ba0_8.nat
  have h10 := ba0_10.nat
  have h15 := ba0_15.nat
  have h16 := ba0_16.nat
  have h20 := ba0_20.nat
  have h21 := ba0_21.nat
  have h25 := ba0_25.nat
  have hl19 : a0_19.length ≤ 1048576 := by have := ba0_19.1; omega
  have hr19 : ∀ x ∈ a0_19, x.length ≤ 1048576 := fun x hx => by have := ba0_19.2 x hx; omega
  have hl26 : a0_26.length ≤ 1048576 := by have := ba0_26.1; omega
  have hr26 : ∀ x ∈ a0_26, x.length ≤ 1048576 := fun x hx => by have := ba0_26.2 x hx; omega
  have eG := spec_EqualGames_ok a0_11 a0_12 a0_13 a0_14 a0_15 a0_16 a0_17 a0_18 a0_19 a0_20 a0_21 a0_22 a0_23 a0_24 a1_11 a1_12 a1_13 a1_14 a1_15 a1_16 a1_17 a1_18 a1_19 a1_20 a1_21 a1_22 a1_23 a1_24 h15 h16 hl19 hr19 h20 h21
  have iG := impl_EqualGames_ok a0_11 a0_12 a0_13 a0_14 a0_15 a0_16 a0_17 a0_18 a0_19 a0_20 a0_21 a0_22 a0_23 a0_24 a1_11 a1_12 a1_13 a1_14 a1_15 a1_16 a1_17 a1_18 a1_19 a1_20 a1_21 a1_22 a1_23 a1_24 h15 h16 hl19 hr19 h20 h21
  have hend : ∀ i : Int, ¬ i < (a0_26.length : Int) → spec_EqualTables_L4 i a0_0 a0_1 a0_2 a0_3 a0_4 a0_5 a0_6 a0_7 a0_8 a0_9 a0_10 a0_11 a0_12 a0_13 a0_14 a0_15 a0_16 a0_17 a0_18 a0_19 a0_20 a0_21 a0_22 a0_23 a0_24 a0_25 a0_26 a1_0 a1_1 a1_2 a1_3 a1_4 a1_5 a1_6 a1_7 a1_8 a1_9 a1_10 a1_11 a1_12 a1_13 a1_14 a1_15 a1_16 a1_17 a1_18 a1_19 a1_20 a1_21 a1_22 a1_23 a1_24 a1_25 a1_26 = some (reM a0_0 a0_1 a0_2 a0_3 a0_4 a0_5 a0_6 a0_7 a1_0 a1_1 a1_2 a1_3 a1_4 a1_5 a1_6 a1_7 && (decide (a0_8 = a1_8) && ((a0_9 == a1_9) && (decide (a0_10 = a1_10) && (geM a0_11 a0_12 a0_13 a0_14 a0_15 a0_16 a0_17 a0_18 a0_19 a0_20 a0_21 a0_22 a0_23 a0_24 a1_11 a1_12 a1_13 a1_14 a1_15 a1_16 a1_17 a1_18 a1_19 a1_20 a1_21 a1_22 a1_23 a1_24 && decide (a0_25 = a1_25)))))) := fun i hi => by
    rw [spec_EqualTables_L4_eq, if_neg (by rw [decide_eq_true_eq]; exact hi), spec_EqualRules_ok _ _ _ _ _ _ _ _ _ _ _ _ _ _ _ _ h4 h5, spec_EqualInts_ok _ _ h8, spec_EqualInts_ok _ _ h10, eG, spec_EqualInts_ok _ _ h25]
    simp only [Option.bind_some]
    cases reM a0_0 a0_1 a0_2 a0_3 a0_4 a0_5 a0_6 a0_7 a1_0 a1_1 a1_2 a1_3 a1_4 a1_5 a1_6 a1_7 <;> cases decide (a0_8 = a1_8) <;> cases (a0_9 == a1_9) <;> cases decide (a0_10 = a1_10) <;> cases geM a0_11 a0_12 a0_13 a0_14 a0_15 a0_16 a0_17 a0_18 a0_19 a0_20 a0_21 a0_22 a0_23 a0_24 a1_11 a1_12 a1_13 a1_14 a1_15 a1_16 a1_17 a1_18 a1_19 a1_20 a1_21 a1_22 a1_23 a1_24 <;> rfl
  have hi : impl_EqualTables a0_0 a0_1 a0_2 a0_3 a0_4 a0_5 a0_6 a0_7 a0_8 a0_9 a0_10 a0_11 a0_12 a0_13 a0_14 a0_15 a0_16 a0_17 a0_18 a0_19 a0_20 a0_21 a0_22 a0_23 a0_24 a0_25 a0_26 a1_0 a1_1 a1_2 a1_3 a1_4 a1_5 a1_6 a1_7 a1_8 a1_9 a1_10 a1_11 a1_12 a1_13 a1_14 a1_15 a1_16 a1_17 a1_18 a1_19 a1_20 a1_21 a1_22 a1_23 a1_24 a1_25 a1_26 = some (decide (a0_26 = a1_26) && (reM a0_0 a0_1 a0_2 a0_3 a0_4 a0_5 a0_6 a0_7 a1_0 a1_1 a1_2 a1_3 a1_4 a1_5 a1_6 a1_7 && (decide (a0_8 = a1_8) && ((a0_9 == a1_9) && (decide (a0_10 = a1_10) && (geM a0_11 a0_12 a0_13 a0_14 a0_15 a0_16 a0_17 a0_18 a0_19 a0_20 a0_21 a0_22 a0_23 a0_24 a1_11 a1_12 a1_13 a1_14 a1_15 a1_16 a1_17 a1_18 a1_19 a1_20 a1_21 a1_22 a1_23 a1_24 && decide (a0_25 = a1_25))))))) := by
    rw [impl_EqualTables_eq, impl_EqualRules_ok _ _ _ _ _ _ _ _ _ _ _ _ _ _ _ _ h4 h5, impl_EqualInts_ok _ _ h8, impl_EqualInts_ok _ _ h10, iG, impl_EqualInts_ok _ _ h25, impl_sameRows_ok _ _ hl26 hr26]
    simp only [Option.bind_some]
    cases reM a0_0 a0_1 a0_2 a0_3 a0_4 a0_5 a0_6 a0_7 a1_0 a1_1 a1_2 a1_3 a1_4 a1_5 a1_6 a1_7 <;> cases decide (a0_8 = a1_8) <;> cases (a0_9 == a1_9) <;> cases decide (a0_10 = a1_10) <;> cases geM a0_11 a0_12 a0_13 a0_14 a0_15 a0_16 a0_17 a0_18 a0_19 a0_20 a0_21 a0_22 a0_23 a0_24 a1_11 a1_12 a1_13 a1_14 a1_15 a1_16 a1_17 a1_18 a1_19 a1_20 a1_21 a1_22 a1_23 a1_24 <;> cases decide (a0_25 = a1_25) <;> cases decide (a0_26 = a1_26) <;> rfl
  refine ⟨_, ?_, hi⟩
  rw [spec_EqualTables_eq]
  by_cases hlen : a0_26.length = a1_26.length
  · rw [if_neg (by simp [hlen])]
    exact eq_loop2 (d := []) _ (fun i => spec_EqualTables_L4 i a0_0 a0_1 a0_2 a0_3 a0_4 a0_5 a0_6 a0_7 a0_8 a0_9 a0_10 a0_11 a0_12 a0_13 a0_14 a0_15 a0_16 a0_17 a0_18 a0_19 a0_20 a0_21 a0_22 a0_23 a0_24 a0_25 a0_26 a1_0 a1_1 a1_2 a1_3 a1_4 a1_5 a1_6 a1_7 a1_8 a1_9 a1_10 a1_11 a1_12 a1_13 a1_14 a1_15 a1_16 a1_17 a1_18 a1_19 a1_20 a1_21 a1_22 a1_23 a1_24 a1_25 a1_26) hlen (hend _ (by omega)) fun i hi => by
      have e := spec_EqualInts_ok (a0_26.getD i []) (a1_26.getD i []) (hr26 _ (getD_mem hi))
      show spec_EqualTables_L4 (i : Int) a0_0 a0_1 a0_2 a0_3 a0_4 a0_5 a0_6 a0_7 a0_8 a0_9 a0_10 a0_11 a0_12 a0_13 a0_14 a0_15 a0_16 a0_17 a0_18 a0_19 a0_20 a0_21 a0_22 a0_23 a0_24 a0_25 a0_26 a1_0 a1_1 a1_2 a1_3 a1_4 a1_5 a1_6 a1_7 a1_8 a1_9 a1_10 a1_11 a1_12 a1_13 a1_14 a1_15 a1_16 a1_17 a1_18 a1_19 a1_20 a1_21 a1_22 a1_23 a1_24 a1_25 a1_26 = _
      have hil : (i : Int) < (a0_26.length : Int) := by omega
      have hw : IntKind.i64.wrap ((i : Int) + 1) = ((i + 1 : Nat) : Int) := wrap_succ hi (by omega)
      rw [spec_EqualTables_L4_eq]
      simp (disch := (first | omega | (simp only [List.length_append, List.length_cons, List.length_nil, List.length_take, List.length_drop, List.length_set, List.length_replicate, List.length_singleton]; omega))) only [↓if_dpos, ↓if_dneg, ↓if_epos, ↓if_eneg, ↓if_npos, ↓if_nneg, ↓if_pos, ↓if_neg, hw, Int.toNat_natCast, List.nil_append, Nat.zero_add, List.length_singleton, Option.bind_some, List.drop_zero, List.take_length, if_true, if_false, e]
      by_cases e : a0_26.getD i [] = a1_26.getD i []
      · rw [decide_eq_true e, if_pos e]; rfl
      · rw [decide_eq_false e, if_neg e]; rfl
  · rw [if_pos (by simp; omega), decide_eq_false (fun e => hlen (by rw [e])), Bool.false_and]
theorem laws_FnExactEqualTables_ok (a0_0 : Int) (a0_1 : Int) (a0_2 : Bool) (a0_3 : Bool) (a0_4 : List Int) (a0_5 : List Int) (a0_6 : Int) (a0_7 : Int) (a0_8 : List Int) (a0_9 : Bool) (a0_10 : List Int) (a0_11 : Int) (a0_12 : Int) (a0_13 : Bool) (a0_14 : Bool) (a0_15 : List Int) (a0_16 : List Int) (a0_17 : Int) (a0_18 : Int) (a0_19 : List (List Int)) (a0_20 : List Int) (a0_21 : List Int) (a0_22 : Int) (a0_23 : Int) (a0_24 : Int) (a0_25 : List Int) (a0_26 : List (List Int)) (a1_0 : Int) (a1_1 : Int) (a1_2 : Bool) (a1_3 : Bool) (a1_4 : List Int) (a1_5 : List Int) (a1_6 : Int) (a1_7 : Int) (a1_8 : List Int) (a1_9 : Bool) (a1_10 : List Int) (a1_11 : Int) (a1_12 : Int) (a1_13 : Bool) (a1_14 : Bool) (a1_15 : List Int) (a1_16 : List Int) (a1_17 : Int) (a1_18 : Int) (a1_19 : List (List Int)) (a1_20 : List Int) (a1_21 : List Int) (a1_22 : Int) (a1_23 : Int) (a1_24 : Int) (a1_25 : List Int) (a1_26 : List (List Int)) (fa0_4 : F1 a0_4) (fa0_5 : F1 a0_5) (fa0_8 : F1 a0_8) (fa0_10 : F1 a0_10) (fa0_15 : F1 a0_15) (fa0_16 : F1 a0_16) (fa0_19 : F2 a0_19) (fa0_20 : F1 a0_20) (fa0_21 : F1 a0_21) (fa0_25 : F1 a0_25) (fa0_26 : F2 a0_26) (fa1_4 : F1 a1_4) (fa1_5 : F1 a1_5) (fa1_8 : F1 a1_8) (fa1_10 : F1 a1_10) (fa1_15 : F1 a1_15) (fa1_16 : F1 a1_16) (fa1_19 : F2 a1_19) (fa1_20 : F1 a1_20) (fa1_21 : F1 a1_21) (fa1_25 : F1 a1_25) (fa1_26 : F2 a1_26) : laws_FnExactEqualTables a0_0 a0_1 a0_2 a0_3 a0_4 a0_5 a0_6 a0_7 a0_8 a0_9 a0_10 a0_11 a0_12 a0_13 a0_14 a0_15 a0_16 a0_17 a0_18 a0_19 a0_20 a0_21 a0_22 a0_23 a0_24 a0_25 a0_26 a1_0 a1_1 a1_2 a1_3 a1_4 a1_5 a1_6 a1_7 a1_8 a1_9 a1_10 a1_11 a1_12 a1_13 a1_14 a1_15 a1_16 a1_17 a1_18 a1_19 a1_20 a1_21 a1_22 a1_23 a1_24 a1_25 a1_26 = some true := by
  rw [laws_FnExactEqualTables_eq]
  obtain ⟨c1, e1, h⟩ := laws_szTable_sp a0_0 a0_1 a0_2 a0_3 a0_4 a0_5 a0_6 a0_7 a0_8 a0_9 a0_10 a0_11 a0_12 a0_13 a0_14 a0_15 a0_16 a0_17 a0_18 a0_19 a0_20 a0_21 a0_22 a0_23 a0_24 a0_25 a0_26 1048576 fa0_4 fa0_5 fa0_8 fa0_10 fa0_15 fa0_16 fa0_19 fa0_20 fa0_21 fa0_25 fa0_26 (by omega) (by omega)
  rw [e1, Option.bind_some]
  rcases h with h | ⟨p1, q1, ra0_4, ra0_5, ra0_8, ra0_10, ra0_15, ra0_16, ra0_19, ra0_20, ra0_21, ra0_25, ra0_26⟩
  · rw [if_pos (decide_eq_true h)]
  rw [if_neg (by simp; omega)]
  have ba0_4 := ra0_4.mono (b' := 1048576) (by omega)
  have ba0_5 := ra0_5.mono (b' := 1048576) (by omega)
  have ba0_8 := ra0_8.mono (b' := 1048576) (by omega)
  have ba0_10 := ra0_10.mono (b' := 1048576) (by omega)
  have ba0_15 := ra0_15.mono (b' := 1048576) (by omega)
  have ba0_16 := ra0_16.mono (b' := 1048576) (by omega)
  have ba0_19 := ra0_19.mono (b' := 1048576) (by omega)
  have ba0_20 := ra0_20.mono (b' := 1048576) (by omega)
  have ba0_21 := ra0_21.mono (b' := 1048576) (by omega)
  have ba0_25 := ra0_25.mono (b' := 1048576) (by omega)
  have ba0_26 := ra0_26.mono (b' := 1048576) (by omega)
  obtain ⟨c2, e2, h⟩ := laws_szTable_sp a1_0 a1_1 a1_2 a1_3 a1_4 a1_5 a1_6 a1_7 a1_8 a1_9 a1_10 a1_11 a1_12 a1_13 a1_14 a1_15 a1_16 a1_17 a1_18 a1_19 a1_20 a1_21 a1_22 a1_23 a1_24 a1_25 a1_26 c1 fa1_4 fa1_5 fa1_8 fa1_10 fa1_15 fa1_16 fa1_19 fa1_20 fa1_21 fa1_25 fa1_26 (by omega) (by omega)
  rw [e2, Option.bind_some]
  rcases h with h | ⟨p2, q2, ra1_4, ra1_5, ra1_8, ra1_10, ra1_15, ra1_16, ra1_19, ra1_20, ra1_21, ra1_25, ra1_26⟩
  · rw [if_pos (decide_eq_true h)]
  rw [if_neg (by simp; omega)]
  have ba1_4 := ra1_4.mono (b' := 1048576) (by omega)
  have ba1_5 := ra1_5.mono (b' := 1048576) (by omega)
  have ba1_8 := ra1_8.mono (b' := 1048576) (by omega)
  have ba1_10 := ra1_10.mono (b' := 1048576) (by omega)
  have ba1_15 := ra1_15.mono (b' := 1048576) (by omega)
  have ba1_16 := ra1_16.mono (b' := 1048576) (by omega)
  have ba1_19 := ra1_19.mono (b' := 1048576) (by omega)
  have ba1_20 := ra1_20.mono (b' := 1048576) (by omega)
  have ba1_21 := ra1_21.mono (b' := 1048576) (by omega)
  have ba1_25 := ra1_25.mono (b' := 1048576) (by omega)
  have ba1_26 := ra1_26.mono (b' := 1048576) (by omega)
  obtain ⟨r0, s1, s2⟩ := equalTables_ok a0_0 a0_1 a0_2 a0_3 a0_4 a0_5 a0_6 a0_7 a0_8 a0_9 a0_10 a0_11 a0_12 a0_13 a0_14 a0_15 a0_16 a0_17 a0_18 a0_19 a0_20 a0_21 a0_22 a0_23 a0_24 a0_25 a0_26 a1_0 a1_1 a1_2 a1_3 a1_4 a1_5 a1_6 a1_7 a1_8 a1_9 a1_10 a1_11 a1_12 a1_13 a1_14 a1_15 a1_16 a1_17 a1_18 a1_19 a1_20 a1_21 a1_22 a1_23 a1_24 a1_25 a1_26 ba0_4 ba0_5 ba0_8 ba0_10 ba0_15 ba0_16 ba0_19 ba0_20 ba0_21 ba0_25 ba0_26 ba1_4 ba1_5 ba1_8 ba1_10 ba1_15 ba1_16 ba1_19 ba1_20 ba1_21 ba1_25 ba1_26
  have ga0_4 := ba0_4.le
  have ga0_5 := ba0_5.le
  have ga0_8 := ba0_8.le
  have ga0_10 := ba0_10.le
  have ga0_15 := ba0_15.le
  have ga0_16 := ba0_16.le
  have ga0_19 := ba0_19.g
  have ga0_20 := ba0_20.le
  have ga0_21 := ba0_21.le
  have ga0_25 := ba0_25.le
  have ga0_26 := ba0_26.g
  have ga1_4 := ba1_4.le
  have ga1_5 := ba1_5.le
  have ga1_8 := ba1_8.le
  have ga1_10 := ba1_10.le
  have ga1_15 := ba1_15.le
  have ga1_16 := ba1_16.le
  have ga1_19 := ba1_19.g
  have ga1_20 := ba1_20.le
  have ga1_21 := ba1_21.le
  have ga1_25 := ba1_25.le
  have ga1_26 := ba1_26.g
  have ta0_4 := ga0_4
  have ta0_5 := ga0_5
  have ta0_8 := ga0_8
  have ta0_10 := ga0_10
  have ta0_15 := ga0_15
  have ta0_16 := ga0_16
  have ta0_19 := ga0_19.tle
  have ta0_20 := ga0_20
  have ta0_21 := ga0_21
  have ta0_25 := ga0_25
  have ta0_26 := ga0_26.tle
  have ta1_4 := ga1_4
  have ta1_5 := ga1_5
  have ta1_8 := ga1_8
  have ta1_10 := ga1_10
  have ta1_15 := ga1_15
  have ta1_16 := ga1_16
  have ta1_19 := ga1_19.tle
  have ta1_20 := ga1_20
  have ta1_21 := ga1_21
  have ta1_25 := ga1_25
  have ta1_26 := ga1_26.tle
  simp (disch := omega) only [↓bindF (laws_toTable_ok a0_0 a0_1 a0_2 a0_3 a0_4 a0_5 a0_6 a0_7 a0_8 a0_9 a0_10 a0_11 a0_12 a0_13 a0_14 a0_15 a0_16 a0_17 a0_18 a0_19 a0_20 a0_21 a0_22 a0_23 a0_24 a0_25 a0_26 ga0_4 ga0_5 ga0_8 ga0_10 ga0_15 ga0_16 ga0_19 ga0_20 ga0_21 ga0_25 ga0_26), ↓bindF (laws_toTable_ok a1_0 a1_1 a1_2 a1_3 a1_4 a1_5 a1_6 a1_7 a1_8 a1_9 a1_10 a1_11 a1_12 a1_13 a1_14 a1_15 a1_16 a1_17 a1_18 a1_19 a1_20 a1_21 a1_22 a1_23 a1_24 a1_25 a1_26 ga1_4 ga1_5 ga1_8 ga1_10 ga1_15 ga1_16 ga1_19 ga1_20 ga1_21 ga1_25 ga1_26), ↓bindF (laws_eqTable_self a0_0 a0_1 a0_2 a0_3 a0_4 a0_5 a0_6 a0_7 a0_8 a0_9 a0_10 a0_11 a0_12 a0_13 a0_14 a0_15 a0_16 a0_17 a0_18 a0_19 a0_20 a0_21 a0_22 a0_23 a0_24 a0_25 a0_26 ga0_4 ga0_5 ga0_8 ga0_10 ga0_15 ga0_16 ga0_19 ga0_20 ga0_21 ga0_25 ga0_26), ↓bindF (laws_eqTable_self a1_0 a1_1 a1_2 a1_3 a1_4 a1_5 a1_6 a1_7 a1_8 a1_9 a1_10 a1_11 a1_12 a1_13 a1_14 a1_15 a1_16 a1_17 a1_18 a1_19 a1_20 a1_21 a1_22 a1_23 a1_24 a1_25 a1_26 ga1_4 ga1_5 ga1_8 ga1_10 ga1_15 ga1_16 ga1_19 ga1_20 ga1_21 ga1_25 ga1_26), ↓bindF s1, ↓bindF s2, ↓if_dpos, ↓if_dneg, bne_self_eq_false, Bool.not_true, Bool.false_eq_true, if_false]
theorem law_FnExactEqualTables (x : den (parTy HH 5)) (hx : Fit Try.prog (parTy HH 5) x) : ∃ n, frun Try.prog HH n 5 x = some true := by
  obtain ⟨a0_0, a0_1, a0_2, a0_3, a0_4, a0_5, a0_6, a0_7, a0_8, a0_9, a0_10, a0_11, a0_12, a0_13, a0_14, a0_15, a0_16, a0_17, a0_18, a0_19, a0_20, a0_21, a0_22, a0_23, a0_24, a0_25, a0_26, a1_0, a1_1, a1_2, a1_3, a1_4, a1_5, a1_6, a1_7, a1_8, a1_9, a1_10, a1_11, a1_12, a1_13, a1_14, a1_15, a1_16, a1_17, a1_18, a1_19, a1_20, a1_21, a1_22, a1_23, a1_24, a1_25, a1_26⟩ := (x : Int × Int × Bool × Bool × (List Int) × (List Int) × Int × Int × (List Int) × Bool × (List Int) × Int × Int × Bool × Bool × (List Int) × (List Int) × Int × Int × (List (List Int)) × (List Int) × (List Int) × Int × Int × Int × (List Int) × (List (List Int)) × Int × Int × Bool × Bool × (List Int) × (List Int) × Int × Int × (List Int) × Bool × (List Int) × Int × Int × Bool × Bool × (List Int) × (List Int) × Int × Int × (List (List Int)) × (List Int) × (List Int) × Int × Int × Int × (List Int) × List (List Int))
  obtain ⟨ha0_0, ha0_1, ha0_2, ha0_3, ha0_4, ha0_5, ha0_6, ha0_7, ha0_8, ha0_9, ha0_10, ha0_11, ha0_12, ha0_13, ha0_14, ha0_15, ha0_16, ha0_17, ha0_18, ha0_19, ha0_20, ha0_21, ha0_22, ha0_23, ha0_24, ha0_25, ha0_26, ha1_0, ha1_1, ha1_2, ha1_3, ha1_4, ha1_5, ha1_6, ha1_7, ha1_8, ha1_9, ha1_10, ha1_11, ha1_12, ha1_13, ha1_14, ha1_15, ha1_16, ha1_17, ha1_18, ha1_19, ha1_20, ha1_21, ha1_22, ha1_23, ha1_24, ha1_25, ha1_26⟩ := hx
  exact run_some (laws_FnExactEqualTables_ok a0_0 a0_1 a0_2 a0_3 a0_4 a0_5 a0_6 a0_7 a0_8 a0_9 a0_10 a0_11 a0_12 a0_13 a0_14 a0_15 a0_16 a0_17 a0_18 a0_19 a0_20 a0_21 a0_22 a0_23 a0_24 a0_25 a0_26 a1_0 a1_1 a1_2 a1_3 a1_4 a1_5 a1_6 a1_7 a1_8 a1_9 a1_10 a1_11 a1_12 a1_13 a1_14 a1_15 a1_16 a1_17 a1_18 a1_19 a1_20 a1_21 a1_22 a1_23 a1_24 a1_25 a1_26 (fit1 ha0_4 (of_decide_eq_true (by kernel_rfl))) (fit1 ha0_5 (of_decide_eq_true (by kernel_rfl))) (fit1 ha0_8 (of_decide_eq_true (by kernel_rfl))) (fit1 ha0_10 (of_decide_eq_true (by kernel_rfl))) (fit1 ha0_15 (of_decide_eq_true (by kernel_rfl))) (fit1 ha0_16 (of_decide_eq_true (by kernel_rfl))) (fit2 ha0_19 (of_decide_eq_true (by kernel_rfl)) (of_decide_eq_true (by kernel_rfl))) (fit1 ha0_20 (of_decide_eq_true (by kernel_rfl))) (fit1 ha0_21 (of_decide_eq_true (by kernel_rfl))) (fit1 ha0_25 (of_decide_eq_true (by kernel_rfl))) (fit2 ha0_26 (of_decide_eq_true (by kernel_rfl)) (of_decide_eq_true (by kernel_rfl))) (fit1 ha1_4 (of_decide_eq_true (by kernel_rfl))) (fit1 ha1_5 (of_decide_eq_true (by kernel_rfl))) (fit1 ha1_8 (of_decide_eq_true (by kernel_rfl))) (fit1 ha1_10 (of_decide_eq_true (by kernel_rfl))) (fit1 ha1_15 (of_decide_eq_true (by kernel_rfl))) (fit1 ha1_16 (of_decide_eq_true (by kernel_rfl))) (fit2 ha1_19 (of_decide_eq_true (by kernel_rfl)) (of_decide_eq_true (by kernel_rfl))) (fit1 ha1_20 (of_decide_eq_true (by kernel_rfl))) (fit1 ha1_21 (of_decide_eq_true (by kernel_rfl))) (fit1 ha1_25 (of_decide_eq_true (by kernel_rfl))) (fit2 ha1_26 (of_decide_eq_true (by kernel_rfl)) (of_decide_eq_true (by kernel_rfl))))
end Go.Proofs.Ytofmaimjbcpaiaa.V
