/- Plain laws over the shapes. -/
import Derived.Test.YtofmaimjbcpaiaaPM
import Derived.Test.YtofmaimjbcpaiaaP3
import Derived.Test.YtofmaimjbcpaiaaLFnExactStirHidden
import Derived.Test.YtofmaimjbcpaiaaFIsGame
import Derived.Test.YtofmaimjbcpaiaaFStirHidden
import Derived.Test.YtofmaimjbcpaiaaM
import Derived.Test.YtofmaimjbcpaiaaS1
import Derived.Test.YtofmaimjbcpaiaaS2
import Derived.Test.YtofmaimjbcpaiaaS4
set_option linter.unusedVariables false
set_option linter.unusedSimpArgs false
set_option maxRecDepth 10000
namespace Go.Proofs.Ytofmaimjbcpaiaa.V
open Go

def remT (me : Int) : List (List Int) → Int → Nat
  | [], _ => 0
  | h :: t, i => (if i = me then 0 else h.length) + remT me t (i + 1)
def colR (me : Int) : List (List Int) → Int → List Int → List Int
  | [], _, acc => acc
  | h :: t, i, acc => colR me t (i + 1) (if i = me then acc else acc ++ h)
theorem colR_length (me : Int) : ∀ (l : List (List Int)) (i : Int) (acc : List Int), (colR me l i acc).length = acc.length + remT me l i := by
  intro l
  induction l with
  | nil => intro i acc; rfl
  | cons h t ih =>
    intro i acc
    rw [colR, ih, remT]
    split <;> simp <;> omega
theorem remT_le (me : Int) : ∀ (l : List (List Int)) (i : Int), remT me l i ≤ l.flatten.length := by
  intro l
  induction l with
  | nil => intro i; exact Nat.le_refl _
  | cons h t ih =>
    intro i
    have := ih (i + 1)
    rw [remT, List.flatten_cons, List.length_append]
    split <;> omega
theorem stir_deal (me : Int) (a0 a1 : Int) (a2 a3 : Bool) (a4 a5 : List Int) (a6 a7 : Int) (hs : List (List Int)) (st hp : List Int) (tu mo pa : Int) (all : List Int) (hl : hs.length ≤ 6) (ha : all.length ≤ 52) : ∀ i, i ≤ hs.length → ∀ (at' : Nat) (out : List (List Int)), out.length = hs.length → G2 out → at' + remT me (hs.drop i) i ≤ all.length →
    ∃ r8 r9, spec_StirHidden_L13 me at' i a0 a1 a2 a3 a4 a5 a6 a7 hs st hp tu mo pa 0 0 false false 0 0 0 0 0 a0 a1 a2 a3 a6 a7 tu mo pa all a4 a5 out st hp = some (a0, a1, a2, a3, a4, a5, a6, a7, r8, r9, hp, tu, mo, pa) ∧
      impl_StirHidden_L13v1 me at' all.length hs hs.length i 0 0 false false 0 0 0 0 0 a0 a1 a2 a3 a6 a7 tu mo pa all a4 a5 out st hp = some (a0, a1, a2, a3, a4, a5, a6, a7, r8, r9, hp, tu, mo, pa) ∧
      (at' = 0 → impl_StirHidden_L13 me hs hs.length i 0 0 false false 0 0 0 0 0 a0 a1 a2 a3 a6 a7 tu mo pa all a4 a5 out st hp = some (a0, a1, a2, a3, a4, a5, a6, a7, r8, r9, hp, tu, mo, pa)) ∧ G2 r8 ∧ r9.length ≤ 2097152 := down (by
    intro at' out ho hg hat
    have e := impl_copyOf_ok (all.drop at') (by simp; omega)
    have e2 := impl_copyOf_ok all (by omega)
    rw [List.drop_of_length_le (Nat.le_refl _)] at hat
    rw [spec_StirHidden_L13_eq, impl_StirHidden_L13v1_eq]
    simp (disch := (first | omega | (simp only [List.length_append, List.length_cons, List.length_nil, List.length_take, List.length_drop, List.length_set, List.length_replicate, List.length_singleton]; omega))) only [↓if_dpos, ↓if_dneg, ↓if_epos, ↓if_eneg, ↓if_npos, ↓if_nneg, ↓if_pos, ↓if_neg, Int.toNat_natCast, List.nil_append, Nat.zero_add, List.length_singleton, Option.bind_some, List.drop_zero, List.take_length, if_true, if_false, e]
    refine ⟨_, _, rfl, rfl, fun h0 => ?_, hg, by simp only [List.length_drop]; omega⟩
    rw [impl_StirHidden_L13_eq]
    simp (disch := (first | omega | (simp only [List.length_append, List.length_cons, List.length_nil, List.length_take, List.length_drop, List.length_set, List.length_replicate, List.length_singleton]; omega))) only [↓if_dpos, ↓if_dneg, ↓if_epos, ↓if_eneg, ↓if_npos, ↓if_nneg, ↓if_pos, ↓if_neg, Int.toNat_natCast, List.nil_append, Nat.zero_add, List.length_singleton, Option.bind_some, List.drop_zero, List.take_length, if_true, if_false, e2]
    rw [h0, List.drop_zero]) fun i hi ih at' out ho hg hat => by
  have hil : (i : Int) < (hs.length : Int) := by omega
  have hw : IntKind.i64.wrap ((i : Int) + 1) = ((i + 1 : Nat) : Int) := wrap_succ hi (by omega)
  rw [getD_drop (d := []) hi, remT] at hat
  rw [spec_StirHidden_L13_eq, impl_StirHidden_L13v1_eq]
  by_cases hm : (i : Int) = me
  · rw [if_pos hm] at hat
    simp (disch := (first | omega | (simp only [List.length_append, List.length_cons, List.length_nil, List.length_take, List.length_drop, List.length_set, List.length_replicate, List.length_singleton]; omega))) only [↓if_dpos, ↓if_dneg, ↓if_epos, ↓if_eneg, ↓if_npos, ↓if_nneg, ↓if_pos, ↓if_neg, hw, Int.toNat_natCast, List.nil_append, Nat.zero_add, List.length_singleton, Option.bind_some, List.drop_zero, List.take_length, if_true, if_false]
    obtain ⟨r8, r9, x1, x2, x3, x4, x5⟩ := ih at' out ho hg (by have : ((i + 1 : Nat) : Int) = (i : Int) + 1 := rfl; rw [this]; omega)
    refine ⟨r8, r9, x1, x2, fun h0 => ?_, x4, x5⟩
    rw [impl_StirHidden_L13_eq]
    simp (disch := (first | omega | (simp only [List.length_append, List.length_cons, List.length_nil, List.length_take, List.length_drop, List.length_set, List.length_replicate, List.length_singleton]; omega))) only [↓if_dpos, ↓if_dneg, ↓if_epos, ↓if_eneg, ↓if_npos, ↓if_nneg, ↓if_pos, ↓if_neg, hw, Int.toNat_natCast, List.nil_append, Nat.zero_add, List.length_singleton, Option.bind_some, List.drop_zero, List.take_length, if_true, if_false]
    exact x3 h0
  · rw [if_neg hm] at hat
    have hrow : (hs.getD i []).length ≤ all.length := by omega
    have w1 : IntKind.i64.wrap ((at' : Int) + ((hs.getD i []).length : Int)) = ((at' + (hs.getD i []).length : Nat) : Int) := by rw [wrap_id (by omega) (by omega)]; omega
    have e := impl_copyOf_ok ((all.take (at' + (hs.getD i []).length)).drop at') (by simp; omega)
    have hsub : at' + (all.length - at') = all.length := by omega
    simp (disch := (first | omega | (simp only [List.length_append, List.length_cons, List.length_nil, List.length_take, List.length_drop, List.length_set, List.length_replicate, List.length_singleton]; omega))) only [↓if_dpos, ↓if_dneg, ↓if_epos, ↓if_eneg, ↓if_npos, ↓if_nneg, ↓if_pos, ↓if_neg, hw, w1, Int.toNat_natCast, List.nil_append, Nat.zero_add, List.length_singleton, Option.bind_some, List.drop_zero, List.take_length, if_true, if_false, e, hsub]
    obtain ⟨r8, r9, x1, x2, x3, x4, x5⟩ := ih (at' + (hs.getD i []).length) (out.set i ((all.take (at' + (hs.getD i []).length)).drop at')) (by simpa using ho) (hg.set (by simp only [List.length_drop, List.length_take]; omega)) (by have : ((i + 1 : Nat) : Int) = (i : Int) + 1 := rfl; rw [this]; omega)
    refine ⟨r8, r9, x1, x2, fun h0 => ?_, x4, x5⟩
    subst h0
    rw [Nat.zero_add, List.drop_zero] at e x2
    rw [impl_StirHidden_L13_eq]
    simp (disch := (first | omega | (simp only [List.length_append, List.length_cons, List.length_nil, List.length_take, List.length_drop, List.length_set, List.length_replicate, List.length_singleton]; omega))) only [↓if_dpos, ↓if_dneg, ↓if_epos, ↓if_eneg, ↓if_npos, ↓if_nneg, ↓if_pos, ↓if_neg, hw, Int.toNat_natCast, List.nil_append, Nat.zero_add, List.length_singleton, Option.bind_some, List.drop_zero, List.take_length, if_true, if_false, e]
    exact x2
theorem stir_col (me seed : Int) (a0 a1 : Int) (a2 a3 : Bool) (a4 a5 : List Int) (a6 a7 : Int) (hs : List (List Int)) (st hp : List Int) (tu mo pa : Int) (hl : hs.length ≤ 6) (hf : hs.flatten.length + st.length ≤ 52) (hh : G2 hs) : ∀ i, i ≤ hs.length → ∀ acc : List Int, acc.length + remT me (hs.drop i) i = remT me hs 0 →
    ∃ r8 r9, spec_StirHidden_L6 me seed i a0 a1 a2 a3 a4 a5 a6 a7 hs st hp tu mo pa 0 0 false false 0 0 0 0 0 a0 a1 a2 a3 a6 a7 tu mo pa acc a4 a5 hs st hp = some (a0, a1, a2, a3, a4, a5, a6, a7, r8, r9, hp, tu, mo, pa) ∧
      impl_StirHidden_L6 me seed hs hs.length i a0 a1 a2 a3 a4 a5 a6 a7 hs st hp tu mo pa 0 0 false false 0 0 0 0 0 a0 a1 a2 a3 a6 a7 tu mo pa acc a4 a5 hs st hp = some (a0, a1, a2, a3, a4, a5, a6, a7, r8, r9, hp, tu, mo, pa) ∧ G2 r8 ∧ r9.length ≤ 2097152 := down (by
    intro acc hacc
    have hr := remT_le me hs 0
    rw [List.drop_of_length_le (Nat.le_refl _), remT, Nat.add_zero] at hacc
    have e1 := spec_Shuffled_ok (acc ++ st) seed (by simp only [List.length_append]; omega)
    have e2 := impl_Shuffled_ok (acc ++ st) seed (by simp only [List.length_append]; omega)
    have hsl : (shuffledM (acc ++ st) seed).length = acc.length + st.length := by rw [shuffledM, shufM_length, List.length_append]
    rw [spec_StirHidden_L6_eq, impl_StirHidden_L6_eq]
    simp (disch := (first | omega | (simp only [List.length_append, List.length_cons, List.length_nil, List.length_take, List.length_drop, List.length_set, List.length_replicate, List.length_singleton]; omega))) only [↓if_dpos, ↓if_dneg, ↓if_epos, ↓if_eneg, ↓if_npos, ↓if_nneg, ↓if_pos, ↓if_neg, Int.toNat_natCast, List.nil_append, Nat.zero_add, List.length_singleton, Option.bind_some, List.drop_zero, List.take_length, if_true, if_false, e1, e2]
    obtain ⟨r8, r9, x1, x2, x3, x4, x5⟩ := stir_deal me a0 a1 a2 a3 a4 a5 a6 a7 hs st hp tu mo pa (shuffledM (acc ++ st) seed) hl (by omega) 0 (Nat.zero_le _) 0 hs rfl hh (by rw [List.drop_zero, Int.natCast_zero]; omega)
    exact ⟨r8, r9, x1, x3 rfl, x4, x5⟩) fun i hi ih acc hacc => by
  have hil : (i : Int) < (hs.length : Int) := by omega
  have hw : IntKind.i64.wrap ((i : Int) + 1) = ((i + 1 : Nat) : Int) := wrap_succ hi (by omega)
  have hr := remT_le me hs 0
  have hrow := getD_le_flat hs i
  rw [getD_drop (d := []) hi, remT] at hacc
  rw [spec_StirHidden_L6_eq, impl_StirHidden_L6_eq]
  by_cases hm : (i : Int) = me
  · rw [if_pos hm] at hacc
    simp (disch := (first | omega | (simp only [List.length_append, List.length_cons, List.length_nil, List.length_take, List.length_drop, List.length_set, List.length_replicate, List.length_singleton]; omega))) only [↓if_dpos, ↓if_dneg, ↓if_epos, ↓if_eneg, ↓if_npos, ↓if_nneg, ↓if_pos, ↓if_neg, hw, Int.toNat_natCast, List.nil_append, Nat.zero_add, List.length_singleton, Option.bind_some, List.drop_zero, List.take_length, if_true, if_false]
    exact ih acc (by have : ((i + 1 : Nat) : Int) = (i : Int) + 1 := rfl; rw [this]; omega)
  · rw [if_neg hm] at hacc
    simp (disch := (first | omega | (simp only [List.length_append, List.length_cons, List.length_nil, List.length_take, List.length_drop, List.length_set, List.length_replicate, List.length_singleton]; omega))) only [↓if_dpos, ↓if_dneg, ↓if_epos, ↓if_eneg, ↓if_npos, ↓if_nneg, ↓if_pos, ↓if_neg, hw, Int.toNat_natCast, List.nil_append, Nat.zero_add, List.length_singleton, Option.bind_some, List.drop_zero, List.take_length, if_true, if_false]
    exact ih _ (by have : ((i + 1 : Nat) : Int) = (i : Int) + 1 := rfl; rw [this, List.length_append]; omega)
theorem stirHidden_ok (a0_0 : Int) (a0_1 : Int) (a0_2 : Bool) (a0_3 : Bool) (a0_4 : List Int) (a0_5 : List Int) (a0_6 : Int) (a0_7 : Int) (a0_8 : List (List Int)) (a0_9 : List Int) (a0_10 : List Int) (a0_11 : Int) (a0_12 : Int) (a0_13 : Int) (a1 : Int) (a2 : Int) (ba0_4 : B1 1048576 a0_4) (ba0_5 : B1 1048576 a0_5) (ba0_8 : B2 1048576 a0_8) (ba0_9 : B1 1048576 a0_9) (ba0_10 : B1 1048576 a0_10) :
    ∃ (r0 : Int) (r1 : Int) (r2 : Bool) (r3 : Bool) (r4 : List Int) (r5 : List Int) (r6 : Int) (r7 : Int) (r8 : List (List Int)) (r9 : List Int) (r10 : List Int) (r11 : Int) (r12 : Int) (r13 : Int), spec_StirHidden a0_0 a0_1 a0_2 a0_3 a0_4 a0_5 a0_6 a0_7 a0_8 a0_9 a0_10 a0_11 a0_12 a0_13 a1 a2 = some (r0, r1, r2, r3, r4, r5, r6, r7, r8, r9, r10, r11, r12, r13) ∧ impl_StirHidden a0_0 a0_1 a0_2 a0_3 a0_4 a0_5 a0_6 a0_7 a0_8 a0_9 a0_10 a0_11 a0_12 a0_13 a1 a2 = some (r0, r1, r2, r3, r4, r5, r6, r7, r8, r9, r10, r11, r12, r13) ∧ r4.length ≤ 2097152 ∧ r5.length ≤ 2097152 ∧ G2 r8 ∧ r9.length ≤ 2097152 ∧ r10.length ≤ 2097152 := by
  have h4 := ba0_4.nat
  have h5 := ba0_5.nat
  have hh := ba0_8.g
  have h9 := ba0_9.le
  have h10 := ba0_10.le
  have hl := hh.len
  have w : IntKind.i64.wrap ((a0_8.length : Int) - 1) = (a0_8.length : Int) - 1 := wrap_id (by omega) (by omega)
  rw [spec_StirHidden_eq, impl_StirHidden_eq, spec_l24Copy_ok a0_0 a0_1 a0_2 a0_3 a0_4 a0_5 a0_6 a0_7 a0_8 a0_9 a0_10 a0_11 a0_12 a0_13 h4 h5 hh h9 h10, impl_Game_copied_ok a0_0 a0_1 a0_2 a0_3 a0_4 a0_5 a0_6 a0_7 a0_8 a0_9 a0_10 a0_11 a0_12 a0_13 h4 h5 hh h9 h10, spec_IsGame_ok a0_0 a0_1 a0_2 a0_3 a0_4 a0_5 a0_6 a0_7 a0_8 a0_9 a0_10 a0_11 a0_12 a0_13 h4 h5 hh h9 h10, impl_IsGame_ok a0_0 a0_1 a0_2 a0_3 a0_4 a0_5 a0_6 a0_7 a0_8 a0_9 a0_10 a0_11 a0_12 a0_13 h4 h5 hh h9 h10, w]
  simp only [Option.bind_some, spec_l1In_ok, impl_InRange_ok]
  cases hg : gameM a0_0 a0_1 a0_2 a0_3 a0_4 a0_5 a0_6 a0_7 a0_8 a0_9 a0_10 a0_11 a0_12 a0_13
  · exact ⟨_, _, _, _, _, _, _, _, _, _, _, _, _, _, rfl, rfl, by omega, by omega, hh, h9, h10⟩
  · cases inR a1 0 ((a0_8.length : Int) - 1)
    · exact ⟨_, _, _, _, _, _, _, _, _, _, _, _, _, _, rfl, rfl, by omega, by omega, hh, h9, h10⟩
    · have v := gameM_valid a0_0 a0_1 a0_2 a0_3 a0_4 a0_5 a0_6 a0_7 a0_8 a0_9 a0_10 a0_11 a0_12 a0_13 hg
      have v1 := v.all; have v2 := v.players; have v3 := v.p2
      obtain ⟨r8, r9, x1, x2, x3, x4⟩ := stir_col a1 a2 a0_0 a0_1 a0_2 a0_3 a0_4 a0_5 a0_6 a0_7 a0_8 a0_9 a0_10 a0_11 a0_12 a0_13 (by omega) (by omega) hh 0 (Nat.zero_le _) [] (by rw [List.drop_zero, Int.natCast_zero]; simp)
      exact ⟨_, _, _, _, _, _, _, _, _, _, _, _, _, _, x1, x2, by omega, by omega, x3, x4, h10⟩
theorem laws_FnExactStirHidden_ok (a0_0 : Int) (a0_1 : Int) (a0_2 : Bool) (a0_3 : Bool) (a0_4 : List Int) (a0_5 : List Int) (a0_6 : Int) (a0_7 : Int) (a0_8 : List (List Int)) (a0_9 : List Int) (a0_10 : List Int) (a0_11 : Int) (a0_12 : Int) (a0_13 : Int) (a1 : Int) (a2 : Int) (fa0_4 : F1 a0_4) (fa0_5 : F1 a0_5) (fa0_8 : F2 a0_8) (fa0_9 : F1 a0_9) (fa0_10 : F1 a0_10) : laws_FnExactStirHidden a0_0 a0_1 a0_2 a0_3 a0_4 a0_5 a0_6 a0_7 a0_8 a0_9 a0_10 a0_11 a0_12 a0_13 a1 a2 = some true := by
  rw [laws_FnExactStirHidden_eq]
  obtain ⟨c1, e1, h⟩ := laws_szGame_sp a0_0 a0_1 a0_2 a0_3 a0_4 a0_5 a0_6 a0_7 a0_8 a0_9 a0_10 a0_11 a0_12 a0_13 1048576 fa0_4 fa0_5 fa0_8 fa0_9 fa0_10 (by omega) (by omega)
  rw [e1, Option.bind_some]
  rcases h with h | ⟨p1, q1, ra0_4, ra0_5, ra0_8, ra0_9, ra0_10⟩
  · rw [if_pos (decide_eq_true h)]
  rw [if_neg (by simp; omega)]
  have ba0_4 := ra0_4.mono (b' := 1048576) (by omega)
  have ba0_5 := ra0_5.mono (b' := 1048576) (by omega)
  have ba0_8 := ra0_8.mono (b' := 1048576) (by omega)
  have ba0_9 := ra0_9.mono (b' := 1048576) (by omega)
  have ba0_10 := ra0_10.mono (b' := 1048576) (by omega)
  obtain ⟨r0, r1, r2, r3, r4, r5, r6, r7, r8, r9, r10, r11, r12, r13, s1, s2, gr4, gr5, gr8, gr9, gr10⟩ := stirHidden_ok a0_0 a0_1 a0_2 a0_3 a0_4 a0_5 a0_6 a0_7 a0_8 a0_9 a0_10 a0_11 a0_12 a0_13 a1 a2 ba0_4 ba0_5 ba0_8 ba0_9 ba0_10
  have ga0_4 := ba0_4.le
  have ga0_5 := ba0_5.le
  have ga0_8 := ba0_8.g
  have ga0_9 := ba0_9.le
  have ga0_10 := ba0_10.le
  have ta0_4 := ga0_4
  have ta0_5 := ga0_5
  have ta0_8 := ga0_8.tle
  have ta0_9 := ga0_9
  have ta0_10 := ga0_10
  have tr4 := gr4
  have tr5 := gr5
  have tr8 := gr8.tle
  have tr9 := gr9
  have tr10 := gr10
  simp (disch := omega) only [↓bindF (laws_toGame_ok a0_0 a0_1 a0_2 a0_3 a0_4 a0_5 a0_6 a0_7 a0_8 a0_9 a0_10 a0_11 a0_12 a0_13 ga0_4 ga0_5 ga0_8 ga0_9 ga0_10), ↓bindF (laws_eqGame_self a0_0 a0_1 a0_2 a0_3 a0_4 a0_5 a0_6 a0_7 a0_8 a0_9 a0_10 a0_11 a0_12 a0_13 ga0_4 ga0_5 ga0_8 ga0_9 ga0_10), ↓bindF (laws_markGame_ok a0_0 a0_1 a0_2 a0_3 a0_4 a0_5 a0_6 a0_7 a0_8 a0_9 a0_10 a0_11 a0_12 a0_13 ga0_4 ga0_5 ga0_8 ga0_9 ga0_10 (1) (by omega) (by omega)), ↓bindF (laws_eqGame_self r0 r1 r2 r3 r4 r5 r6 r7 r8 r9 r10 r11 r12 r13 gr4 gr5 gr8 gr9 gr10), ↓bindF (laws_markGame_ok r0 r1 r2 r3 r4 r5 r6 r7 r8 r9 r10 r11 r12 r13 gr4 gr5 gr8 gr9 gr10 (1) (by omega) (by omega)), ↓bindF (laws_heldGame_ok r0 r1 r2 r3 r4 r5 r6 r7 r8 r9 r10 r11 r12 r13 gr4 gr5 gr8 gr9 gr10 (1) (by omega) (by omega)), ↓bindF s1, ↓bindF s2, ↓if_dpos, ↓if_dneg, bne_self_eq_false, Bool.not_true, Bool.false_eq_true, if_false]
theorem law_FnExactStirHidden (x : den (parTy HH 13)) (hx : Fit Try.prog (parTy HH 13) x) : ∃ n, frun Try.prog HH n 13 x = some true := by
  obtain ⟨a0_0, a0_1, a0_2, a0_3, a0_4, a0_5, a0_6, a0_7, a0_8, a0_9, a0_10, a0_11, a0_12, a0_13, a1, a2⟩ := (x : Int × Int × Bool × Bool × (List Int) × (List Int) × Int × Int × (List (List Int)) × (List Int) × (List Int) × Int × Int × Int × Int × Int)
  obtain ⟨ha0_0, ha0_1, ha0_2, ha0_3, ha0_4, ha0_5, ha0_6, ha0_7, ha0_8, ha0_9, ha0_10, ha0_11, ha0_12, ha0_13, ha1, ha2⟩ := hx
  exact run_some (laws_FnExactStirHidden_ok a0_0 a0_1 a0_2 a0_3 a0_4 a0_5 a0_6 a0_7 a0_8 a0_9 a0_10 a0_11 a0_12 a0_13 a1 a2 (fit1 ha0_4 (of_decide_eq_true (by kernel_rfl))) (fit1 ha0_5 (of_decide_eq_true (by kernel_rfl))) (fit2 ha0_8 (of_decide_eq_true (by kernel_rfl)) (of_decide_eq_true (by kernel_rfl))) (fit1 ha0_9 (of_decide_eq_true (by kernel_rfl))) (fit1 ha0_10 (of_decide_eq_true (by kernel_rfl))))
end Go.Proofs.Ytofmaimjbcpaiaa.V
