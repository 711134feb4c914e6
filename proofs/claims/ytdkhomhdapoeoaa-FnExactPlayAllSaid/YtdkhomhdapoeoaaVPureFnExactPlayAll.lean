/- Plain laws over the shapes. -/
import Derived.Test.YtdkhomhdapoeoaaPMD
import Derived.Test.YtdkhomhdapoeoaaPCard
import Derived.Test.YtdkhomhdapoeoaaLFnExactPlayAll
import Derived.Test.YtdkhomhdapoeoaaFPlayAll
import Derived.Test.YtdkhomhdapoeoaaFPlayCard
import Derived.Test.YtdkhomhdapoeoaaM
import Derived.Test.YtdkhomhdapoeoaaMD
import Derived.Test.YtdkhomhdapoeoaaS3
set_option linter.unusedVariables false
set_option linter.unusedSimpArgs false
set_option maxRecDepth 10000
namespace Go.Proofs.Ytdkhomhdapoeoaa.V
open Go
theorem playAll_loop (l : List Int) (hl : l.length ≤ 1048576) : ∀ i, i ≤ l.length → ∀ (hs : List (List Int)) (le tr : Int) (tk wo po : List Int) (lf : Int), G2 hs → tk.length ≤ 2097152 → wo.length ≤ 2097152 → po.length ≤ 2097152 →
    ∃ r0 r1 r2 r3 r4 r5 r6 r7, spec_PlayAll_L3 l i le tr lf 0 0 0 hs tk wo po = some (r0, r1, r2, r3, r4, r5, r6, r7) ∧ impl_PlayAll_L3 l l l.length i 0 0 0 le tr lf hs tk wo po = some (r0, r1, r2, r3, r4, r5, r6, r7) ∧ G2 r0 ∧ r3.length ≤ 2097152 ∧ r4.length ≤ 2097152 ∧ r5.length ≤ 2097152 := down (by
    intro hs le tr tk wo po lf hh h3 hwo hpo
    rw [spec_PlayAll_L3_eq, impl_PlayAll_L3_eq]
    simp (disch := (first | omega | (simp only [List.length_append, List.length_cons, List.length_nil, List.length_take, List.length_drop, List.length_set, List.length_replicate, List.length_singleton]; omega))) only [↓if_dpos, ↓if_dneg, ↓if_epos, ↓if_eneg, ↓if_npos, ↓if_nneg, ↓if_pos, ↓if_neg]
    exact ⟨_, _, _, _, _, _, _, _, rfl, rfl, hh, h3, hwo, hpo⟩) fun i hi ih hs le tr tk wo po lf hh h3 hwo hpo => by
  have hil : (i : Int) < (l.length : Int) := by omega
  have hw : IntKind.i64.wrap ((i : Int) + 1) = ((i + 1 : Nat) : Int) := wrap_succ hi (by omega)
  obtain ⟨r0, r1, r2, r3, r4, r5, r6, r7, e, k1, k2, k3, k4⟩ := card_good hs le tr tk wo po lf (l.getD i 0) hh h3 hwo hpo
  have s := spec_PlayCard_ok hs le tr tk wo po lf (l.getD i 0) hh h3 hwo hpo
  have t := impl_PlayCard_ok hs le tr tk wo po lf (l.getD i 0) hh h3 hwo hpo
  rw [e] at s t
  rw [spec_PlayAll_L3_eq, impl_PlayAll_L3_eq]
  simp (disch := (first | omega | (simp only [List.length_append, List.length_cons, List.length_nil, List.length_take, List.length_drop, List.length_set, List.length_replicate, List.length_singleton]; omega))) only [↓if_dpos, ↓if_dneg, ↓if_epos, ↓if_eneg, ↓if_npos, ↓if_nneg, ↓if_pos, ↓if_neg, hw, Int.toNat_natCast, List.nil_append, Nat.zero_add, List.length_singleton, Option.bind_some, List.drop_zero, List.take_length, if_true, if_false, ↓bindF s, ↓bindF t]
  cases r7
  · exact ⟨_, _, _, _, _, _, _, _, rfl, rfl, hh, h3, hwo, hpo⟩
  · exact ih r0 r1 r2 r3 r4 r5 r6 k1 k2 k3 k4
theorem playAll_ok (a0_0 : List (List Int)) (a0_1 : Int) (a0_2 : Int) (a0_3 : List Int) (a0_4 : List Int) (a0_5 : List Int) (a0_6 : Int) (a1 : List Int) (ba0_0 : B2 1048576 a0_0) (ba0_3 : B1 1048576 a0_3) (ba0_4 : B1 1048576 a0_4) (ba0_5 : B1 1048576 a0_5) (ba1 : B1 1048576 a1) :
    ∃ (r0 : List (List Int)) (r1 : Int) (r2 : Int) (r3 : List Int) (r4 : List Int) (r5 : List Int) (r6 : Int) (r7 : Int), spec_PlayAll a0_0 a0_1 a0_2 a0_3 a0_4 a0_5 a0_6 a1 = some (r0, r1, r2, r3, r4, r5, r6, r7) ∧ impl_PlayAll a0_0 a0_1 a0_2 a0_3 a0_4 a0_5 a0_6 a1 = some (r0, r1, r2, r3, r4, r5, r6, r7) ∧ G2 r0 ∧ r3.length ≤ 2097152 ∧ r4.length ≤ 2097152 ∧ r5.length ≤ 2097152 := by
  have hh := ba0_0.g
  have h3 := ba0_3.le
  have hwo := ba0_4.le
  have hpo := ba0_5.le
  have hl := ba1.nat
  rw [spec_PlayAll_eq, impl_PlayAll_eq, spec_l12Copy_ok a0_0 a0_1 a0_2 a0_3 a0_4 a0_5 a0_6 hh h3 hwo hpo, impl_Deal_copied_ok a0_0 a0_1 a0_2 a0_3 a0_4 a0_5 a0_6 hh h3 hwo hpo]
  obtain ⟨r0, r1, r2, r3, r4, r5, r6, r7, s, t, k1, k2, k3, k4⟩ := playAll_loop a1 hl 0 (Nat.zero_le _) a0_0 a0_1 a0_2 a0_3 a0_4 a0_5 a0_6 hh h3 hwo hpo
  exact ⟨_, _, _, _, _, _, _, _, s, t, k1, k2, k3, k4⟩
theorem laws_FnExactPlayAll_ok (a0_0 : List (List Int)) (a0_1 : Int) (a0_2 : Int) (a0_3 : List Int) (a0_4 : List Int) (a0_5 : List Int) (a0_6 : Int) (a1 : List Int) (fa0_0 : F2 a0_0) (fa0_3 : F1 a0_3) (fa0_4 : F1 a0_4) (fa0_5 : F1 a0_5) (fa1 : F1 a1) : laws_FnExactPlayAll a0_0 a0_1 a0_2 a0_3 a0_4 a0_5 a0_6 a1 = some true := by
  rw [laws_FnExactPlayAll_eq]
  by_cases h : (a1.length : Int) > 1048576
  · rw [if_pos (decide_eq_true h)]
  rw [if_neg (by simpa using h)]
  have ba1 : B1 1048576 a1 := by unfold B1; omega
  clear h
  obtain ⟨c1, e1, h⟩ := laws_szDeal_sp a0_0 a0_1 a0_2 a0_3 a0_4 a0_5 a0_6 1048576 fa0_0 fa0_3 fa0_4 fa0_5 (by omega) (by omega)
  rw [e1, Option.bind_some]
  rcases h with h | ⟨p1, q1, ra0_0, ra0_3, ra0_4, ra0_5⟩
  · rw [if_pos (decide_eq_true h)]
  rw [if_neg (by simp; omega)]
  have ba0_0 := ra0_0.mono (b' := 1048576) (by omega)
  have ba0_3 := ra0_3.mono (b' := 1048576) (by omega)
  have ba0_4 := ra0_4.mono (b' := 1048576) (by omega)
  have ba0_5 := ra0_5.mono (b' := 1048576) (by omega)
  obtain ⟨r0, r1, r2, r3, r4, r5, r6, r7, s1, s2, gr0, gr3, gr4, gr5⟩ := playAll_ok a0_0 a0_1 a0_2 a0_3 a0_4 a0_5 a0_6 a1 ba0_0 ba0_3 ba0_4 ba0_5 ba1
  have ga0_0 := ba0_0.g
  have ga0_3 := ba0_3.le
  have ga0_4 := ba0_4.le
  have ga0_5 := ba0_5.le
  have ga1 := ba1.le
  have ta0_0 := ga0_0.tle
  have ta0_3 := ga0_3
  have ta0_4 := ga0_4
  have ta0_5 := ga0_5
  have ta1 := ga1
  have tr0 := gr0.tle
  have tr3 := gr3
  have tr4 := gr4
  have tr5 := gr5
  simp (disch := omega) only [↓bindF (laws_toDeal_ok a0_0 a0_1 a0_2 a0_3 a0_4 a0_5 a0_6 ga0_0 ga0_3 ga0_4 ga0_5), ↓bindF (laws_toIntS_ok a1 ga1), ↓bindF (laws_eqDeal_self a0_0 a0_1 a0_2 a0_3 a0_4 a0_5 a0_6 ga0_0 ga0_3 ga0_4 ga0_5), ↓bindF (laws_eqIntS_self a1 ga1), ↓bindF (laws_markDeal_ok a0_0 a0_1 a0_2 a0_3 a0_4 a0_5 a0_6 ga0_0 ga0_3 ga0_4 ga0_5 (1) (by omega) (by omega)), ↓bindF (laws_markIntS_ok a1 ga1 (1 + (tot a0_0 : Int) + (a0_3.length : Int) + (a0_4.length : Int) + (a0_5.length : Int)) (by omega) (by omega)), ↓bindF (laws_eqDeal_self r0 r1 r2 r3 r4 r5 r6 gr0 gr3 gr4 gr5), ↓bindF (laws_markDeal_ok r0 r1 r2 r3 r4 r5 r6 gr0 gr3 gr4 gr5 (1) (by omega) (by omega)), ↓bindF (laws_heldDeal_ok r0 r1 r2 r3 r4 r5 r6 gr0 gr3 gr4 gr5 (1) (by omega) (by omega)), ↓bindF s1, ↓bindF s2, ↓if_dpos, ↓if_dneg, bne_self_eq_false, Bool.not_true, Bool.false_eq_true, if_false]
theorem law_FnExactPlayAll (x : den (parTy HH 4)) (hx : Fit Try.prog (parTy HH 4) x) : ∃ n, frun Try.prog HH n 4 x = some true := by
  obtain ⟨a0_0, a0_1, a0_2, a0_3, a0_4, a0_5, a0_6, a1⟩ := (x : (List (List Int)) × Int × Int × (List Int) × (List Int) × (List Int) × Int × List Int)
  obtain ⟨ha0_0, ha0_1, ha0_2, ha0_3, ha0_4, ha0_5, ha0_6, ha1⟩ := hx
  exact run_some (laws_FnExactPlayAll_ok a0_0 a0_1 a0_2 a0_3 a0_4 a0_5 a0_6 a1 (fit2 ha0_0 (of_decide_eq_true (by kernel_rfl)) (of_decide_eq_true (by kernel_rfl))) (fit1 ha0_3 (of_decide_eq_true (by kernel_rfl))) (fit1 ha0_4 (of_decide_eq_true (by kernel_rfl))) (fit1 ha0_5 (of_decide_eq_true (by kernel_rfl))) (fit1 ha1 (of_decide_eq_true (by kernel_rfl))))
end Go.Proofs.Ytdkhomhdapoeoaa.V
