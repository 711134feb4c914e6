/- Plain laws over the shapes. -/
import Derived.Test.YtoioaijpdiglfaaGreatDoorPPile
import Derived.Test.YtoioaijpdiglfaaGreatDoorS7
import Derived.Test.YtoioaijpdiglfaaGreatDoorS3
import Derived.Test.YtoioaijpdiglfaaGreatDoorLFnSayings
set_option linter.unusedVariables false
set_option linter.unusedSimpArgs false
set_option maxRecDepth 10000
namespace Go.Proofs.YtoioaijpdiglfaaGreatDoor.V
open Go
def baseM (b : List Int) : Bool := b.all (fun x => inR x 0 13) && decide (b.length = 4)
theorem spec_IsBase_ok (b : List Int) (hl : b.length ≤ 4398046511104) : spec_IsBase b = some (baseM b) := by
  have h : ∀ i, i ≤ b.length → spec_IsBase_L2 b i = some ((b.drop i).all (fun x => inR x 0 13) && decide (b.length = 4)) := down (by
      rw [spec_IsBase_L2_eq]
      simp (disch := (first | omega | (simp only [List.length_append, List.length_cons, List.length_nil, List.length_take, List.length_drop, List.length_set, List.length_replicate, List.length_singleton]; omega))) only [↓if_dpos, ↓if_dneg, ↓if_epos, ↓if_eneg, ↓if_npos, ↓if_nneg, ↓if_pos, ↓if_neg, Int.toNat_natCast, List.nil_append, Nat.zero_add, List.length_singleton, Option.bind_some, List.drop_zero, List.take_length, if_true, if_false, ]
      rw [List.drop_of_length_le (Nat.le_refl _), List.all_nil, Bool.true_and]
      congr 1
      rw [Bool.eq_iff_iff]; simp; omega) fun i hi ih => by
    have hil : (i : Int) < (b.length : Int) := by omega
    have hw : IntKind.i64.wrap ((i : Int) + 1) = ((i + 1 : Nat) : Int) := wrap_succ hi (by omega)
    rw [spec_IsBase_L2_eq]
    simp (disch := (first | omega | (simp only [List.length_append, List.length_cons, List.length_nil, List.length_take, List.length_drop, List.length_set, List.length_replicate, List.length_singleton]; omega))) only [↓if_dpos, ↓if_dneg, ↓if_epos, ↓if_eneg, ↓if_npos, ↓if_nneg, ↓if_pos, ↓if_neg, hw, Int.toNat_natCast, List.nil_append, Nat.zero_add, List.length_singleton, Option.bind_some, List.drop_zero, List.take_length, if_true, if_false, spec_l1In_ok, ih]
    rw [getD_drop (d := 0) hi, List.all_cons]
    cases inR (b.getD i 0) 0 13 <;> rfl
  rw [spec_IsBase_eq]
  exact h 0 (Nat.zero_le _)
theorem impl_IsBase_ok (b : List Int) (hl : b.length ≤ 4398046511104) : impl_IsBase b = some (baseM b) := by
  rw [impl_IsBase_eq, impl_allIn_ok _ _ _ hl, baseM]
  by_cases c : b.length = 4
  · rw [if_pos (by simp only [beq_iff_eq]; omega), decide_eq_true c, Bool.and_true]; rfl
  · rw [if_neg (by simp only [beq_iff_eq]; omega), decide_eq_false c, Bool.and_false]
theorem baseM_len {b : List Int} (h : baseM b = true) : b.length = 4 := by
  simp only [baseM, Bool.and_eq_true, decide_eq_true_eq] at h; exact h.2
theorem baseM_get {b : List Int} (h : baseM b = true) {i : Nat} (hi : i < 4) : 0 ≤ b.getD i 0 ∧ b.getD i 0 ≤ 13 := by
  have hl := baseM_len h
  simp only [baseM, Bool.and_eq_true, List.all_eq_true] at h
  have := h.1 _ (getD_mem (d := 0) (by omega : i < b.length))
  simpa [inR] using this
def stepM (c : Int) : Int := if isC c = true then (rankM c + 1).tmod 13 + 1 else 0
theorem rank_card {c : Int} (h : isC c = true) : 0 ≤ rankM c ∧ rankM c ≤ 12 := by
  obtain ⟨h1, h2⟩ := isC_iff.1 h
  unfold rankM
  rw [if_pos h, Int.tmod_eq_emod_of_nonneg h1]; omega
theorem rank_no {c : Int} (h : isC c = false) : rankM c = -1 := by unfold rankM; rw [h]; rfl
theorem spec_StepOf_ok (c : Int) : spec_StepOf c = some (stepM c) := by
  rw [spec_StepOf_eq, spec_IsCard_ok, Option.bind_some, spec_RankOf_ok, stepM]
  cases h : isC c
  · rfl
  · obtain ⟨h1, h2⟩ := rank_card h
    have hm : 0 ≤ (rankM c + 1).tmod 13 ∧ (rankM c + 1).tmod 13 < 13 := by rw [Int.tmod_eq_emod_of_nonneg (by omega)]; omega
    rw [if_neg (by simp), Option.bind_some, wrap_id (x := rankM c + 1) (by omega) (by omega), wrap_id (by omega) (by omega), if_pos rfl]
theorem impl_StepOf_ok (c : Int) : impl_StepOf c = some (stepM c) := by
  rw [impl_StepOf_eq, impl_RankOf_ok, Option.bind_some, stepM]
  cases h : isC c
  · rw [rank_no h]; rfl
  · obtain ⟨h1, h2⟩ := rank_card h
    rw [if_neg (by simp; omega), if_pos rfl, Int.tmod_eq_emod_of_nonneg (by omega)]
    by_cases e : rankM c = 12
    · rw [if_pos (by simp [e]), e]; rfl
    · rw [if_neg (by simpa using e), wrap_id (by omega) (by omega)]
      congr 1; omega
def mayBM (b : List Int) (c : Int) : Bool := baseM b && (isC c && (stepM c == b.getD (suitM c).toNat 0 + 1))
theorem spec_MayBuild_ok (b : List Int) (c : Int) (hl : b.length ≤ 4398046511104) : spec_MayBuild b c = some (mayBM b c) := by
  rw [spec_MayBuild_eq, spec_IsBase_ok b hl, Option.bind_some, spec_IsCard_ok, Option.bind_some, spec_StepOf_ok, Option.bind_some, spec_SuitOf_ok, Option.bind_some, mayBM]
  cases hb : baseM b
  · rfl
  · cases hc : isC c
    · rfl
    · obtain ⟨h1, h2⟩ := suitM_card hc
      have h4 := baseM_len hb
      have h5 := baseM_get hb (i := (suitM c).toNat) (by omega)
      have w : IntKind.i64.wrap (b.getD (suitM c).toNat 0 + 1) = b.getD (suitM c).toNat 0 + 1 := wrap_id (by omega) (by omega)
      simp (disch := (first | omega | (simp only [List.length_append, List.length_cons, List.length_nil, List.length_take, List.length_drop, List.length_set, List.length_replicate, List.length_singleton]; omega))) only [↓if_dpos, ↓if_dneg, ↓if_epos, ↓if_eneg, ↓if_npos, ↓if_nneg, ↓if_pos, ↓if_neg, if_true, Bool.true_and, w]
theorem mayBM_card {b : List Int} {c : Int} (h : mayBM b c = true) : baseM b = true ∧ isC c = true := by
  simp only [mayBM, Bool.and_eq_true] at h; exact ⟨h.1, h.2.1⟩
def builtM (b : List Int) (c : Int) : List Int × Bool := if mayBM b c = true then (b.set (suitM c).toNat (b.getD (suitM c).toNat 0 + 1), true) else (b, false)
theorem spec_Built_ok (b : List Int) (c : Int) (hl : b.length ≤ 2097152) : spec_Built b c = some (builtM b c) := by
  rw [spec_Built_eq, spec_MayBuild_ok b c (by omega), builtM]
  cases h : mayBM b c
  · simp (disch := (first | omega | (simp only [List.length_append, List.length_cons, List.length_nil, List.length_take, List.length_drop, List.length_set, List.length_replicate, List.length_singleton]; omega))) only [↓if_dpos, ↓if_dneg, ↓if_epos, ↓if_eneg, ↓if_npos, ↓if_nneg, ↓if_pos, ↓if_neg, Int.toNat_natCast, List.nil_append, Nat.zero_add, List.length_singleton, Option.bind_some, List.drop_zero, List.take_length, if_true, if_false]
    rfl
  · obtain ⟨hb, hc⟩ := mayBM_card h
    obtain ⟨h1, h2⟩ := suitM_card hc
    have h4 := baseM_len hb
    have h5 := baseM_get hb (i := (suitM c).toNat) (by omega)
    have w : IntKind.i64.wrap (b.getD (suitM c).toNat 0 + 1) = b.getD (suitM c).toNat 0 + 1 := wrap_id (by omega) (by omega)
    simp (disch := (first | omega | (simp only [List.length_append, List.length_cons, List.length_nil, List.length_take, List.length_drop, List.length_set, List.length_replicate, List.length_singleton]; omega))) only [↓if_dpos, ↓if_dneg, ↓if_epos, ↓if_eneg, ↓if_npos, ↓if_nneg, ↓if_pos, ↓if_neg, Int.toNat_natCast, List.nil_append, Nat.zero_add, List.length_singleton, Option.bind_some, List.drop_zero, List.take_length, if_true, if_false, w, spec_SuitOf_ok, Bool.not_true, Bool.false_eq_true]
def baseP (b : List Int) (c : Int) : Bool := decide (stepM c ≤ b.getD (suitM c).toNat 0)
def baseCM (b : List Int) : List Int := if baseM b = true then (cards52 52).filter (baseP b) else []
theorem filter_cards {p : Int → Bool} (n : Nat) : (cards52 (n + 1)).filter p = if p (n : Int) = true then (cards52 n).filter p ++ [(n : Int)] else (cards52 n).filter p := by
  rw [cards52_succ, List.filter_append, List.filter_cons]
  split <;> simp
theorem isC_nat {i : Nat} (h : i < 52) : isC (i : Int) = true := isC_iff.2 ⟨by omega, by omega⟩
theorem spec_BaseCards_ok (b : List Int) (hl : b.length ≤ 2097152) : spec_BaseCards b = some (baseCM b) := by
  rw [spec_BaseCards_eq, baseCM]
  cases hb : baseM b
  · rw [spec_BaseCards_L3_eq, if_pos (by decide), spec_IsBase_ok b (by omega), hb]; rfl
  · have h4 := baseM_len hb
    have h : ∀ i : Nat, i ≤ 52 → spec_BaseCards_L3 b i ((cards52 i).filter (baseP b)) = some ((cards52 52).filter (baseP b)) := down (by
        rw [spec_BaseCards_L3_eq, if_neg (by decide)]) fun i hi ih => by
      have hw : IntKind.i64.wrap ((i : Int) + 1) = ((i + 1 : Nat) : Int) := by rw [wrap_id (by omega) (by omega)]; omega
      obtain ⟨h1, h2⟩ := suitM_card (isC_nat hi)
      have hk : ((cards52 i).filter (baseP b)).length ≤ 52 := Nat.le_trans (List.length_filter_le _ _) (by rw [cards52_length]; omega)
      rw [spec_BaseCards_L3_eq, spec_IsBase_ok b (by omega), hb, Option.bind_some, if_pos (rfl : true = true)]
      simp (disch := (first | omega | (simp only [List.length_append, List.length_cons, List.length_nil, List.length_take, List.length_drop, List.length_set, List.length_replicate, List.length_singleton]; omega))) only [↓if_dpos, ↓if_dneg, ↓if_epos, ↓if_eneg, ↓if_npos, ↓if_nneg, ↓if_pos, ↓if_neg, Int.toNat_natCast, List.nil_append, Nat.zero_add, List.length_singleton, Option.bind_some, List.drop_zero, List.take_length, if_true, if_false, hw, spec_StepOf_ok, spec_SuitOf_ok]
      rw [← ih, filter_cards, baseP]
      split <;> rfl
    exact h 0 (Nat.zero_le _)
theorem impl_BaseCards_ok (b : List Int) (hl : b.length ≤ 2097152) : impl_BaseCards b = some (baseCM b) := by
  rw [impl_BaseCards_eq, impl_IsBase_ok b (by omega), Option.bind_some, baseCM]
  cases hb : baseM b
  · rfl
  · have h4 := baseM_len hb
    have h : ∀ i : Nat, i ≤ 52 → impl_BaseCards_L5 b i ((cards52 i).filter (baseP b)) = some ((cards52 52).filter (baseP b)) := down (by
        rw [impl_BaseCards_L5_eq, if_neg (by decide)]) fun i hi ih => by
      have hw : IntKind.i64.wrap ((i : Int) + 1) = ((i + 1 : Nat) : Int) := by rw [wrap_id (by omega) (by omega)]; omega
      obtain ⟨h1, h2⟩ := suitM_card (isC_nat hi)
      have hk : ((cards52 i).filter (baseP b)).length ≤ 52 := Nat.le_trans (List.length_filter_le _ _) (by rw [cards52_length]; omega)
      rw [impl_BaseCards_L5_eq]
      simp (disch := (first | omega | (simp only [List.length_append, List.length_cons, List.length_nil, List.length_take, List.length_drop, List.length_set, List.length_replicate, List.length_singleton]; omega))) only [↓if_dpos, ↓if_dneg, ↓if_epos, ↓if_eneg, ↓if_npos, ↓if_nneg, ↓if_pos, ↓if_neg, Int.toNat_natCast, List.nil_append, Nat.zero_add, List.length_singleton, Option.bind_some, List.drop_zero, List.take_length, if_true, if_false, hw, impl_StepOf_ok, impl_SuitOf_ok]
      rw [← ih, filter_cards, baseP]
      split <;> rfl
    exact h 0 (Nat.zero_le _)
theorem baseCM_length (b : List Int) : (baseCM b).length ≤ 52 := by
  unfold baseCM; split
  · exact Nat.le_trans (List.length_filter_le _ _) (by rw [cards52_length]; omega)
  · exact Nat.zero_le _
theorem spec_l18Copy_ok (ps : List (List Int × Int)) (b st wa : List Int) (hh : G3 ps) (hb : b.length ≤ 2097152) (h9 : st.length ≤ 2097152) (h10 : wa.length ≤ 2097152) : spec_l18Copy ps b st wa = some (ps, b, st, wa) := by
  have hl := hh.len
  have h : ∀ i, i ≤ ps.length → spec_l18Copy_L3v1 i ps b st wa (ps.take i) b st wa = some (ps, b, st, wa) := down (by
      rw [spec_l18Copy_L3v1_eq]
      simp (disch := (first | omega | (simp only [List.length_append, List.length_cons, List.length_nil, List.length_take, List.length_drop, List.length_set, List.length_replicate, List.length_singleton]; omega))) only [↓if_dpos, ↓if_dneg, ↓if_epos, ↓if_eneg, ↓if_npos, ↓if_nneg, ↓if_pos, ↓if_neg, Int.toNat_natCast, List.nil_append, Nat.zero_add, List.length_singleton, Option.bind_some, List.drop_zero, List.take_length, if_true, if_false, ]) fun i hi ih => by
    have e := spec_l16Copy_ok (ps.getD i ([], 0)).1 (ps.getD i ([], 0)).2 (Nat.le_trans (hh.row _ (getD_mem hi)) (by omega))
    have hil : (i : Int) < (ps.length : Int) := by omega
    have hw : IntKind.i64.wrap ((i : Int) + 1) = ((i + 1 : Nat) : Int) := wrap_succ hi (by omega)
    rw [spec_l18Copy_L3v1_eq]
    simp (disch := (first | omega | (simp only [List.length_append, List.length_cons, List.length_nil, List.length_take, List.length_drop, List.length_set, List.length_replicate, List.length_singleton]; omega))) only [↓if_dpos, ↓if_dneg, ↓if_epos, ↓if_eneg, ↓if_npos, ↓if_nneg, ↓if_pos, ↓if_neg, hw, Int.toNat_natCast, List.nil_append, Nat.zero_add, List.length_singleton, Option.bind_some, List.drop_zero, List.take_length, if_true, if_false, e]
    rw [← ih, take_succ_getD (d := ([], 0)) hi]
  rw [spec_l18Copy_eq]
  simp (disch := (first | omega | (simp only [List.length_append, List.length_cons, List.length_nil, List.length_take, List.length_drop, List.length_set, List.length_replicate, List.length_singleton]; omega))) only [↓if_dpos, ↓if_dneg, ↓if_epos, ↓if_eneg, ↓if_npos, ↓if_nneg, ↓if_pos, ↓if_neg, Int.toNat_natCast, List.nil_append, Nat.zero_add, List.length_singleton, Option.bind_some, List.drop_zero, List.take_length, if_true, if_false]
  by_cases c : ps.length = 0
  · rw [spec_l18Copy_L3_eq, if_neg (by rw [decide_eq_true_eq]; omega), List.length_eq_zero_iff.1 c]
  · have e := spec_l16Copy_ok (ps.getD 0 ([], 0)).1 (ps.getD 0 ([], 0)).2 (Nat.le_trans hh.at' (by omega))
    have w : IntKind.i64.wrap (0 + 1) = ((1 : Nat) : Int) := by rw [wrap_id (by omega) (by omega)]; rfl
    rw [spec_l18Copy_L3_eq]
    simp (disch := (first | omega | (simp only [List.length_append, List.length_cons, List.length_nil, List.length_take, List.length_drop, List.length_set, List.length_replicate, List.length_singleton]; omega))) only [↓if_dpos, ↓if_dneg, ↓if_epos, ↓if_eneg, ↓if_npos, ↓if_nneg, ↓if_pos, ↓if_neg, Int.toNat_natCast, List.nil_append, Nat.zero_add, List.length_singleton, Option.bind_some, List.drop_zero, List.take_length, if_true, if_false, e, w, Int.toNat_zero]
    have h1 := h 1 (by omega)
    rw [take_succ_getD (d := ([], 0)) (by omega), List.take_zero] at h1
    exact h1
def okP (p : List Int × Int) : Bool := pileM p.1 p.2 && !(decide (0 < p.1.length) && decide (p.2 = (p.1.length : Int)))
def patAll (ps : List (List Int × Int)) (b st wa : List Int) : List Int := baseCM b ++ st ++ wa ++ cardsP ps
def patM (ps : List (List Int × Int)) (b st wa : List Int) : Bool := inR (ps.length : Int) 1 7 && (baseM b && (ps.all okP && wholeL (patAll ps b st wa)))
theorem spec_IsPatience_ok (ps : List (List Int × Int)) (b st wa : List Int) (hh : G3 ps) (hb : b.length ≤ 2097152) (h9 : st.length ≤ 2097152) (h10 : wa.length ≤ 2097152) : spec_IsPatience ps b st wa = some (patM ps b st wa) := by
  have hl := hh.len
  have hc := hh.cards
  have hbc := baseCM_length b
  have h : ∀ i, i ≤ ps.length → spec_IsPatience_L5 i ps b st wa (baseCM b ++ st ++ wa ++ cardsP (ps.take i)) = some ((ps.drop i).all okP && wholeL (patAll ps b st wa)) := down (by
      have e := spec_IsHand_ok (patAll ps b st wa) (by unfold patAll; simp only [List.length_append]; omega)
      rw [List.take_length, show baseCM b ++ st ++ wa ++ cardsP ps = patAll ps b st wa from rfl]
      rw [spec_IsPatience_L5_eq]
      simp (disch := (first | omega | (simp only [List.length_append, List.length_cons, List.length_nil, List.length_take, List.length_drop, List.length_set, List.length_replicate, List.length_singleton]; omega))) only [↓if_dpos, ↓if_dneg, ↓if_epos, ↓if_eneg, ↓if_npos, ↓if_nneg, ↓if_pos, ↓if_neg, Int.toNat_natCast, List.nil_append, Nat.zero_add, List.length_singleton, Option.bind_some, List.drop_zero, List.take_length, if_true, if_false, e]
      rw [List.drop_of_length_le (Nat.le_refl _), List.all_nil, Bool.true_and, wholeL]
      cases handM (patAll ps b st wa)
      · simp
      · simp only [if_true, Bool.and_true]
        congr 1
        rw [Bool.eq_iff_iff]; simp; omega) fun i hi ih => by
    have hp := hh.row _ (getD_mem (d := ([], 0)) hi)
    have h1 := cardsP_take_le ps (i + 1)
    rw [cardsP_take hi, List.length_append] at h1
    have e := spec_IsPile_ok (ps.getD i ([], 0)).1 (ps.getD i ([], 0)).2 (by omega)
    rw [cardsP_take hi, ← List.append_assoc] at ih
    have hil : (i : Int) < (ps.length : Int) := by omega
    have hw : IntKind.i64.wrap ((i : Int) + 1) = ((i + 1 : Nat) : Int) := wrap_succ hi (by omega)
    rw [spec_IsPatience_L5_eq]
    simp (disch := (first | omega | (simp only [List.length_append, List.length_cons, List.length_nil, List.length_take, List.length_drop, List.length_set, List.length_replicate, List.length_singleton]; omega))) only [↓if_dpos, ↓if_dneg, ↓if_epos, ↓if_eneg, ↓if_npos, ↓if_nneg, ↓if_pos, ↓if_neg, hw, Int.toNat_natCast, List.nil_append, Nat.zero_add, List.length_singleton, Option.bind_some, List.drop_zero, List.take_length, if_true, if_false, e, ih]
    rw [getD_drop (d := ([], 0)) hi, List.all_cons, okP]
    cases hpm : pileM (ps.getD i ([], 0)).1 (ps.getD i ([], 0)).2
    · rfl
    · simp only [Bool.not_true, Bool.false_eq_true, if_false, Bool.true_and]
      by_cases c1 : 0 < (ps.getD i ([], 0)).1.length
      · by_cases c2 : (ps.getD i ([], 0)).2 = ((ps.getD i ([], 0)).1.length : Int)
        · rw [if_pos (decide_eq_true (by omega)), if_pos (by rw [beq_iff_eq]; exact c2), decide_eq_true c1, decide_eq_true c2]; rfl
        · rw [if_pos (decide_eq_true (by omega)), if_neg (by rw [beq_iff_eq]; exact c2), decide_eq_true c1, decide_eq_false c2]; rfl
      · rw [if_neg (by rw [decide_eq_true_eq]; omega), decide_eq_false c1]; rfl
  have w : (baseCM b ++ st).length = (baseCM b).length + st.length := List.length_append
  rw [spec_IsPatience_eq, spec_l1In_ok, Option.bind_some, spec_IsBase_ok b (by omega), Option.bind_some, spec_BaseCards_ok b hb, Option.bind_some, patM]
  cases inR (ps.length : Int) 1 7
  · rfl
  · cases baseM b
    · rfl
    · have h0 := h 0 (Nat.zero_le _)
      rw [List.take_zero, show cardsP [] = [] from rfl, List.append_nil] at h0
      simp (disch := (first | omega | (simp only [List.length_append, List.length_cons, List.length_nil, List.length_take, List.length_drop, List.length_set, List.length_replicate, List.length_singleton]; omega))) only [↓if_dpos, ↓if_dneg, ↓if_epos, ↓if_eneg, ↓if_npos, ↓if_nneg, ↓if_pos, ↓if_neg, Bool.not_true, Bool.false_eq_true, if_false, Bool.true_and]
      exact h0
theorem impl_IsPatience_ok (ps : List (List Int × Int)) (b st wa : List Int) (hh : G3 ps) (hb : b.length ≤ 2097152) (h9 : st.length ≤ 2097152) (h10 : wa.length ≤ 2097152) : impl_IsPatience ps b st wa = some (patM ps b st wa) := by
  have hl := hh.len
  have hc := hh.cards
  have hbc := baseCM_length b
  have hfl : ∀ i, ([st, wa, baseCM b] ++ (ps.take i).map fun p => p.1).flatten = st ++ (wa ++ (baseCM b ++ cardsP (ps.take i))) := fun i => by simp [cardsP]
  have hperm : (st ++ (wa ++ (baseCM b ++ cardsP ps))).Perm (patAll ps b st wa) := by
    unfold patAll
    rw [← List.append_assoc, ← List.append_assoc]
    refine List.Perm.append_right _ ?_
    rw [List.append_assoc (baseCM b)]
    exact List.perm_append_comm
  have h : ∀ i, i ≤ ps.length → impl_IsPatience_L5 ps ps.length i ([st, wa, baseCM b] ++ (ps.take i).map fun p => p.1) = some ((ps.drop i).all okP && wholeL (patAll ps b st wa)) := down (by
      have ef := hfl ps.length
      rw [List.take_length] at ef
      have e := impl_isWhole_ok ([st, wa, baseCM b] ++ ps.map fun p => p.1) (by simp; omega) (by rw [ef]; simp only [List.length_append]; omega)
      rw [ef, wholeL_perm hperm] at e
      rw [impl_IsPatience_L5_eq]
      simp (disch := (first | omega | (simp only [List.length_append, List.length_cons, List.length_nil, List.length_take, List.length_drop, List.length_set, List.length_replicate, List.length_singleton]; omega))) only [↓if_dpos, ↓if_dneg, ↓if_epos, ↓if_eneg, ↓if_npos, ↓if_nneg, ↓if_pos, ↓if_neg, Int.toNat_natCast, List.nil_append, Nat.zero_add, List.length_singleton, Option.bind_some, List.drop_zero, List.take_length, if_true, if_false, e]
      rw [List.drop_of_length_le (Nat.le_refl _), List.all_nil, Bool.true_and]) fun i hi ih => by
    have hp := hh.row _ (getD_mem (d := ([], 0)) hi)
    have e := impl_IsPile_ok (ps.getD i ([], 0)).1 (ps.getD i ([], 0)).2 (by omega)
    have e2 := impl_OpenCards_ok (ps.getD i ([], 0)).1 (ps.getD i ([], 0)).2 (by omega)
    have hk : ([st, wa, baseCM b] ++ (ps.take i).map fun p => p.1).length ≤ i + 3 := by simp; omega
    rw [take_succ_getD (d := ([], 0)) hi, List.map_append, ← List.append_assoc] at ih
    have hil : (i : Int) < (ps.length : Int) := by omega
    have hw : IntKind.i64.wrap ((i : Int) + 1) = ((i + 1 : Nat) : Int) := wrap_succ hi (by omega)
    rw [impl_IsPatience_L5_eq]
    simp (disch := (first | omega | (simp only [List.length_append, List.length_cons, List.length_nil, List.length_take, List.length_drop, List.length_set, List.length_replicate, List.length_singleton]; omega))) only [↓if_dpos, ↓if_dneg, ↓if_epos, ↓if_eneg, ↓if_npos, ↓if_nneg, ↓if_pos, ↓if_neg, hw, Int.toNat_natCast, List.nil_append, Nat.zero_add, List.length_singleton, Option.bind_some, List.drop_zero, List.take_length, if_true, if_false, e, e2, ih]
    rw [getD_drop (d := ([], 0)) hi, List.all_cons, okP]
    cases hpm : pileM (ps.getD i ([], 0)).1 (ps.getD i ([], 0)).2
    · rfl
    · have hhid := pileM_hid hpm
      simp only [Bool.not_true, Bool.false_eq_true, if_false, Bool.true_and, openM, hpm, if_true]
      by_cases c1 : 0 < (ps.getD i ([], 0)).1.length
      · by_cases c2 : (ps.getD i ([], 0)).2 = ((ps.getD i ([], 0)).1.length : Int)
        · rw [if_pos (decide_eq_true (by omega)), if_pos (by rw [beq_iff_eq]; omega), decide_eq_true c1, decide_eq_true c2]; rfl
        · rw [if_pos (decide_eq_true (by omega)), if_neg (by rw [beq_iff_eq]; omega), decide_eq_true c1, decide_eq_false c2]
          exact ih
      · rw [if_neg (by rw [decide_eq_true_eq]; omega), decide_eq_false c1]
        exact ih
  rw [impl_IsPatience_eq, impl_InRange_ok, Option.bind_some, impl_IsBase_ok b (by omega), Option.bind_some, impl_BaseCards_ok b hb, Option.bind_some, patM]
  cases inR (ps.length : Int) 1 7
  · rfl
  · cases baseM b
    · rfl
    · exact h 0 (Nat.zero_le _)
theorem patM_size (ps : List (List Int × Int)) (b st wa : List Int) (h : patM ps b st wa = true) : 1 ≤ ps.length ∧ ps.length ≤ 7 ∧ baseM b = true ∧ (baseCM b).length + st.length + wa.length + (cardsP ps).length = 52 := by
  simp only [patM, wholeL, patAll, Bool.and_eq_true, decide_eq_true_eq, List.length_append] at h
  have k := h.1
  simp [inR] at k
  exact ⟨by omega, by omega, h.2.1, h.2.2.2.1⟩
theorem pile_le (ps : List (List Int × Int)) (i : Nat) : (ps.getD i ([], 0)).1.length ≤ (cardsP ps).length := by
  by_cases hi : i < ps.length
  · have h1 := cardsP_take_le ps (i + 1)
    rw [cardsP_take hi, List.length_append] at h1
    omega
  · rw [List.getD_eq_getElem?_getD, List.getElem?_eq_none (by omega)]; exact Nat.zero_le _
def turnM (ps : List (List Int × Int)) (b st wa : List Int) : List (List Int × Int) × List Int × List Int × List Int × Bool :=
  if patM ps b st wa = true then (if st.length + wa.length = 0 then (ps, b, st, wa, false) else if st.length = 0 then (ps, b, wa, [], true) else (ps, b, st.drop 1, wa ++ [st.getD 0 0], true)) else (ps, b, st, wa, false)
theorem spec_Turn_ok (ps : List (List Int × Int)) (b st wa : List Int) (hh : G3 ps) (hb : b.length ≤ 2097152) (h9 : st.length ≤ 2097152) (h10 : wa.length ≤ 2097152) : spec_Turn ps b st wa = some (turnM ps b st wa) := by
  have w : IntKind.i64.wrap ((st.length : Int) + (wa.length : Int)) = (st.length : Int) + (wa.length : Int) := wrap_id (by omega) (by omega)
  rw [spec_Turn_eq, spec_l18Copy_ok ps b st wa hh hb h9 h10, Option.bind_some, spec_IsPatience_ok ps b st wa hh hb h9 h10, Option.bind_some, w, turnM]
  cases hp : patM ps b st wa
  · rfl
  · simp only [Bool.not_true, Bool.false_eq_true, if_false, if_true]
    by_cases c1 : st.length + wa.length = 0
    · simp (disch := (first | omega | (simp only [List.length_append, List.length_cons, List.length_nil, List.length_take, List.length_drop, List.length_set, List.length_replicate, List.length_singleton]; omega))) only [↓if_dpos, ↓if_dneg, ↓if_epos, ↓if_eneg, ↓if_npos, ↓if_nneg, ↓if_pos, ↓if_neg]
    · by_cases c2 : st.length = 0
      · simp (disch := (first | omega | (simp only [List.length_append, List.length_cons, List.length_nil, List.length_take, List.length_drop, List.length_set, List.length_replicate, List.length_singleton]; omega))) only [↓if_dpos, ↓if_dneg, ↓if_epos, ↓if_eneg, ↓if_npos, ↓if_nneg, ↓if_pos, ↓if_neg]
      · simp (disch := (first | omega | (simp only [List.length_append, List.length_cons, List.length_nil, List.length_take, List.length_drop, List.length_set, List.length_replicate, List.length_singleton]; omega))) only [↓if_dpos, ↓if_dneg, ↓if_epos, ↓if_eneg, ↓if_npos, ↓if_nneg, ↓if_pos, ↓if_neg, Int.toNat_natCast, List.nil_append, Nat.zero_add, List.length_singleton, Option.bind_some, List.drop_zero, List.take_length, if_true, if_false]
def moveUpM (ps : List (List Int × Int)) (b st wa : List Int) (fr : Int) : List (List Int × Int) × List Int × List Int × List Int × Bool :=
  if patM ps b st wa && (inR fr 0 ((ps.length : Int) - 1) && ((liftM (ps.getD fr.toNat ([], 0)).1 (ps.getD fr.toNat ([], 0)).2 1).2.2.2 && (builtM b ((liftM (ps.getD fr.toNat ([], 0)).1 (ps.getD fr.toNat ([], 0)).2 1).2.2.1.getD 0 0)).2)) then
    (ps.set fr.toNat ((liftM (ps.getD fr.toNat ([], 0)).1 (ps.getD fr.toNat ([], 0)).2 1).1, (liftM (ps.getD fr.toNat ([], 0)).1 (ps.getD fr.toNat ([], 0)).2 1).2.1), (builtM b ((liftM (ps.getD fr.toNat ([], 0)).1 (ps.getD fr.toNat ([], 0)).2 1).2.2.1.getD 0 0)).1, st, wa, true)
  else (ps, b, st, wa, false)
theorem lift_len {l : List Int} {h n : Int} (hk : (liftM l h n).2.2.2 = true) (hn : 1 ≤ n) : 0 < (liftM l h n).2.2.1.length := by
  unfold liftM at hk ⊢
  cases hr : inR n 1 (openM l h)
  · rw [hr] at hk; cases hk
  · rw [if_pos rfl]
    obtain ⟨_, k1, k2, k3⟩ := openM_pos hr
    simp only [List.length_drop]; omega
theorem spec_MoveUp_ok (ps : List (List Int × Int)) (b st wa : List Int) (fr : Int) (hh : G3 ps) (hb : b.length ≤ 2097152) (h9 : st.length ≤ 2097152) (h10 : wa.length ≤ 2097152) : spec_MoveUp ps b st wa fr = some (moveUpM ps b st wa fr) := by
  have hl := hh.len
  have w : IntKind.i64.wrap ((ps.length : Int) - 1) = (ps.length : Int) - 1 := wrap_id (by omega) (by omega)
  have hq := hh.at' (i := fr.toNat)
  rw [spec_MoveUp_eq, spec_l18Copy_ok ps b st wa hh hb h9 h10, Option.bind_some, spec_IsPatience_ok ps b st wa hh hb h9 h10, Option.bind_some, w, spec_l1In_ok, Option.bind_some, moveUpM]
  cases patM ps b st wa
  · rfl
  · cases hr : inR fr 0 ((ps.length : Int) - 1)
    · rfl
    · have hr2 := hr; simp [inR] at hr2
      rw [if_neg (by simp), if_neg (by simp), if_pos (by omega), if_pos (by omega), spec_Lifted_ok _ _ _ hq, Option.bind_some]
      cases hk : (liftM (ps.getD fr.toNat ([], 0)).1 (ps.getD fr.toNat ([], 0)).2 1).2.2.2
      · rfl
      · have hlen := lift_len hk (by omega)
        rw [if_neg (by simp), if_pos (by omega), spec_Built_ok _ _ hb, Option.bind_some]
        cases (builtM b ((liftM (ps.getD fr.toNat ([], 0)).1 (ps.getD fr.toNat ([], 0)).2 1).2.2.1.getD 0 0)).2
        · rfl
        · rw [if_neg (by simp)]; dsimp only; rw [if_pos (by omega), if_pos (by omega)]; rfl
def movePileM (ps : List (List Int × Int)) (b st wa : List Int) (fr to n : Int) : List (List Int × Int) × List Int × List Int × List Int × Bool :=
  if patM ps b st wa && (!(fr == to) && (inR fr 0 ((ps.length : Int) - 1) && (inR to 0 ((ps.length : Int) - 1) && ((liftM (ps.getD fr.toNat ([], 0)).1 (ps.getD fr.toNat ([], 0)).2 n).2.2.2 && (stackM (ps.getD to.toNat ([], 0)).1 (ps.getD to.toNat ([], 0)).2 (liftM (ps.getD fr.toNat ([], 0)).1 (ps.getD fr.toNat ([], 0)).2 n).2.2.1).2.2)))) then
    ((ps.set fr.toNat ((liftM (ps.getD fr.toNat ([], 0)).1 (ps.getD fr.toNat ([], 0)).2 n).1, (liftM (ps.getD fr.toNat ([], 0)).1 (ps.getD fr.toNat ([], 0)).2 n).2.1)).set to.toNat ((stackM (ps.getD to.toNat ([], 0)).1 (ps.getD to.toNat ([], 0)).2 (liftM (ps.getD fr.toNat ([], 0)).1 (ps.getD fr.toNat ([], 0)).2 n).2.2.1).1, (stackM (ps.getD to.toNat ([], 0)).1 (ps.getD to.toNat ([], 0)).2 (liftM (ps.getD fr.toNat ([], 0)).1 (ps.getD fr.toNat ([], 0)).2 n).2.2.1).2.1), b, st, wa, true)
  else (ps, b, st, wa, false)
theorem liftM_len2 (l : List Int) (h n : Int) : (liftM l h n).1.length ≤ l.length ∧ (liftM l h n).2.2.1.length ≤ l.length := by
  unfold liftM; split
  · simp only [List.length_take, List.length_drop]; omega
  · exact ⟨Nat.le_refl _, Nat.zero_le _⟩
theorem spec_MovePile_ok (ps : List (List Int × Int)) (b st wa : List Int) (fr to n : Int) (hh : G3 ps) (hb : b.length ≤ 2097152) (h9 : st.length ≤ 2097152) (h10 : wa.length ≤ 2097152) : spec_MovePile ps b st wa fr to n = some (movePileM ps b st wa fr to n) := by
  have hl := hh.len
  have w : IntKind.i64.wrap ((ps.length : Int) - 1) = (ps.length : Int) - 1 := wrap_id (by omega) (by omega)
  have hq := hh.at' (i := fr.toNat)
  have hq2 := hh.at' (i := to.toNat)
  rw [spec_MovePile_eq, spec_l18Copy_ok ps b st wa hh hb h9 h10, Option.bind_some, spec_IsPatience_ok ps b st wa hh hb h9 h10, Option.bind_some, w, spec_l1In_ok, Option.bind_some, spec_l1In_ok, Option.bind_some, movePileM]
  cases patM ps b st wa
  · rfl
  · cases hr : inR fr 0 ((ps.length : Int) - 1)
    · cases (fr == to) <;> rfl
    · cases hs : inR to 0 ((ps.length : Int) - 1)
      · cases (fr == to) <;> rfl
      · cases (fr == to)
        · have hr2 := hr; simp [inR] at hr2
          have hs2 := hs; simp [inR] at hs2
          have hl2 := (liftM_len2 (ps.getD fr.toNat ([], 0)).1 (ps.getD fr.toNat ([], 0)).2 n).2
          rw [if_neg (by simp), if_neg (by simp), if_neg (by simp), if_neg (by simp), if_pos (by omega), if_pos (by omega), spec_Lifted_ok _ _ _ hq, Option.bind_some, if_pos (by omega), if_pos (by omega), spec_Stacked_ok _ _ _ hq2 (by omega), Option.bind_some]
          cases hk : (liftM (ps.getD fr.toNat ([], 0)).1 (ps.getD fr.toNat ([], 0)).2 n).2.2.2
          · rfl
          · rw [if_neg (by simp)]
            cases (stackM (ps.getD to.toNat ([], 0)).1 (ps.getD to.toNat ([], 0)).2 (liftM (ps.getD fr.toNat ([], 0)).1 (ps.getD fr.toNat ([], 0)).2 n).2.2.1).2.2
            · rfl
            · rw [if_neg (by simp)]; dsimp only; rw [if_pos (by omega), if_pos (by omega), if_pos (by omega), if_pos (by rw [List.length_set]; omega)]; rfl
        · rfl
def moveWasteM (ps : List (List Int × Int)) (b st wa : List Int) (to : Int) : List (List Int × Int) × List Int × List Int × List Int × Bool :=
  if patM ps b st wa = true then (if wa.length = 0 then (ps, b, st, wa, false) else if inR to (-1) ((ps.length : Int) - 1) = true then
    (if to = -1 then (if (builtM b (wa.getD (wa.length - 1) 0)).2 = true then (ps, (builtM b (wa.getD (wa.length - 1) 0)).1, st, wa.take (wa.length - 1), true) else (ps, b, st, wa, false))
     else if (stackM (ps.getD to.toNat ([], 0)).1 (ps.getD to.toNat ([], 0)).2 [wa.getD (wa.length - 1) 0]).2.2 = true then (ps.set to.toNat ((stackM (ps.getD to.toNat ([], 0)).1 (ps.getD to.toNat ([], 0)).2 [wa.getD (wa.length - 1) 0]).1, (stackM (ps.getD to.toNat ([], 0)).1 (ps.getD to.toNat ([], 0)).2 [wa.getD (wa.length - 1) 0]).2.1), b, st, wa.take (wa.length - 1), true)
     else (ps, b, st, wa, false))
    else (ps, b, st, wa, false))
  else (ps, b, st, wa, false)
theorem spec_MoveWaste_ok (ps : List (List Int × Int)) (b st wa : List Int) (to : Int) (hh : G3 ps) (hb : b.length ≤ 2097152) (h9 : st.length ≤ 2097152) (h10 : wa.length ≤ 2097152) : spec_MoveWaste ps b st wa to = some (moveWasteM ps b st wa to) := by
  have hl := hh.len
  have w : IntKind.i64.wrap ((ps.length : Int) - 1) = (ps.length : Int) - 1 := wrap_id (by omega) (by omega)
  have hq := hh.at' (i := to.toNat)
  rw [spec_MoveWaste_eq, spec_l18Copy_ok ps b st wa hh hb h9 h10, Option.bind_some, spec_IsPatience_ok ps b st wa hh hb h9 h10, Option.bind_some, w, spec_l1In_ok, Option.bind_some, moveWasteM]
  cases patM ps b st wa
  · rfl
  · simp only [Bool.not_true, Bool.false_eq_true, if_false, if_true]
    by_cases c1 : wa.length = 0
    · simp (disch := (first | omega | (simp only [List.length_append, List.length_cons, List.length_nil, List.length_take, List.length_drop, List.length_set, List.length_replicate, List.length_singleton]; omega))) only [↓if_dpos, ↓if_dneg, ↓if_epos, ↓if_eneg, ↓if_npos, ↓if_nneg, ↓if_pos, ↓if_neg]
    · cases hr : inR to (-1) ((ps.length : Int) - 1)
      · simp (disch := (first | omega | (simp only [List.length_append, List.length_cons, List.length_nil, List.length_take, List.length_drop, List.length_set, List.length_replicate, List.length_singleton]; omega))) only [↓if_dpos, ↓if_dneg, ↓if_epos, ↓if_eneg, ↓if_npos, ↓if_nneg, ↓if_pos, ↓if_neg]; rfl
      · have hr2 := hr; simp [inR] at hr2
        have ww : IntKind.i64.wrap ((wa.length : Int) - 1) = ((wa.length - 1 : Nat) : Int) := by rw [wrap_id (by omega) (by omega)]; omega
        by_cases c2 : to = -1
        · simp (disch := (first | omega | (simp only [List.length_append, List.length_cons, List.length_nil, List.length_take, List.length_drop, List.length_set, List.length_replicate, List.length_singleton]; omega))) only [↓if_dpos, ↓if_dneg, ↓if_epos, ↓if_eneg, ↓if_npos, ↓if_nneg, ↓if_pos, ↓if_neg, ww, Int.toNat_natCast, List.nil_append, Nat.zero_add, List.length_singleton, Option.bind_some, List.drop_zero, List.take_length, if_true, if_false, spec_Built_ok _ _ hb, Bool.not_true, Bool.false_eq_true]
          cases hbu : (builtM b (wa.getD (wa.length - 1) 0)).2 <;> rfl
        · simp (disch := (first | omega | (simp only [List.length_append, List.length_cons, List.length_nil, List.length_take, List.length_drop, List.length_set, List.length_replicate, List.length_singleton]; omega))) only [↓if_dpos, ↓if_dneg, ↓if_epos, ↓if_eneg, ↓if_npos, ↓if_nneg, ↓if_pos, ↓if_neg, ww, Int.toNat_natCast, List.nil_append, Nat.zero_add, List.length_singleton, Option.bind_some, List.drop_zero, List.take_length, if_true, if_false, spec_Stacked_ok _ _ _ hq, Bool.not_true, Bool.false_eq_true]
          cases hbu : (stackM (ps.getD to.toNat ([], 0)).1 (ps.getD to.toNat ([], 0)).2 [wa.getD (wa.length - 1) 0]).2.2 <;> rfl
theorem handM_append {l : List Int} {c : Int} (h : handM l = true) (hc : isC c = true) (hn : hasM l c = false) : handM (l ++ [c]) = true := by
  simp only [handM, Bool.and_eq_true, decide_eq_true_eq, List.all_eq_true] at *
  refine ⟨fun x hx => ?_, ?_⟩
  · rcases List.mem_append.1 hx with e | e
    · exact h.1 x e
    · rw [List.mem_singleton.1 e]; exact hc
  · rw [List.nodup_append]
    refine ⟨h.2, by simp, fun x hx y hy => ?_⟩
    rw [List.mem_singleton.1 hy]
    intro e
    rw [e] at hx
    simp [hasM, hx] at hn
theorem handM_take {l : List Int} (h : handM l = true) (k : Nat) : handM (l.take k) = true := by
  simp only [handM, Bool.and_eq_true, decide_eq_true_eq, List.all_eq_true] at *
  exact ⟨fun x hx => h.1 x (List.mem_of_mem_take hx), h.2.sublist (List.take_sublist k l)⟩
theorem chainM_iff {l : List Int} {n : Nat} : chainM l n = true ↔ ∀ i, i < l.length → n ≤ i → onM (l.getD (i - 1) 0) (l.getD i 0) = true := by
  unfold chainM
  simp only [List.all_eq_true, List.mem_range, Bool.or_eq_true, Bool.not_eq_true', decide_eq_false_iff_not]
  exact ⟨fun k i hi hn => (k i hi).resolve_left (by omega), fun k i hi => by
    by_cases e : n ≤ i
    · exact .inr (k i hi e)
    · exact .inl e⟩
theorem getD_take {l : List Int} {k i : Nat} (h : i < k) : (l.take k).getD i 0 = l.getD i 0 := by
  rw [List.getD_eq_getElem?_getD, List.getElem?_take, if_pos h, List.getD_eq_getElem?_getD]
theorem getD_left {l r : List Int} {i : Nat} (h : i < l.length) : (l ++ r).getD i 0 = l.getD i 0 := by
  rw [List.getD_eq_getElem?_getD, List.getElem?_append_left h, List.getD_eq_getElem?_getD]
theorem getD_last {l : List Int} {c : Int} : (l ++ [c]).getD l.length 0 = c := by
  rw [List.getD_eq_getElem?_getD, List.getElem?_append_right (Nat.le_refl _), Nat.sub_self]; rfl
theorem pileM_iff {l : List Int} {h : Int} : pileM l h = true ↔ handM l = true ∧ (0 ≤ h ∧ h ≤ (l.length : Int)) ∧ ∀ i, i < l.length → (h + 1).toNat ≤ i → onM (l.getD (i - 1) 0) (l.getD i 0) = true := by
  rw [pileM, Bool.and_eq_true, Bool.and_eq_true, chainM_iff]
  simp [inR]
theorem pile_app {l : List Int} {h c : Int} (hm : mayM l h c = true) : pileM (l ++ [c]) h = true := by
  simp only [mayM, Bool.and_eq_true, Bool.not_eq_true'] at hm
  obtain ⟨h1, h2, h3, h4⟩ := hm
  obtain ⟨p1, p2, p3⟩ := pileM_iff.1 h1
  refine pileM_iff.2 ⟨handM_append p1 h2 h3, ⟨p2.1, by rw [List.length_append, List.length_singleton]; omega⟩, fun i hi hn => ?_⟩
  rw [List.length_append, List.length_singleton] at hi
  by_cases e : i < l.length
  · rw [getD_left e, getD_left (by omega)]; exact p3 i e hn
  · have : i = l.length := by omega
    subst this
    by_cases e0 : l.length = 0
    · omega
    · rw [if_neg e0, Bool.and_eq_true] at h4
      rw [getD_last, getD_left (by omega)]
      have := h4.2
      rw [topM, if_neg e0] at this
      exact this
theorem openM_of {l : List Int} {h : Int} (hp : pileM l h = true) : openM l h = (l.length : Int) - h := by rw [openM, if_pos hp]
theorem stack_facts (l0 : List Int) (h : Int) : ∀ cs l, pileM l h = true → (stackR l0 h cs l).2.2 = true → (stackR l0 h cs l).1 = l ++ cs ∧ (stackR l0 h cs l).2.1 = h ∧ pileM (l ++ cs) h = true := by
  intro cs
  induction cs with
  | nil => intro l hp _; rw [List.append_nil]; exact ⟨rfl, rfl, hp⟩
  | cons c cs ih =>
    intro l hp ho
    rw [stackR] at ho ⊢
    cases hm : mayM l h c with
    | false => rw [hm] at ho; cases ho
    | true =>
      rw [hm, if_pos rfl] at ho
      rw [if_pos rfl]
      have := ih (l ++ [c]) (pile_app hm) ho
      rwa [List.append_assoc] at this
theorem stack_pile {l0 l : List Int} {h c : Int} {cs : List Int} (ho : (stackR l0 h (c :: cs) l).2.2 = true) : pileM l h = true := by
  rw [stackR] at ho
  cases hm : mayM l h c with
  | false => rw [hm] at ho; cases ho
  | true =>
    simp only [mayM, Bool.and_eq_true] at hm
    exact hm.1
/-- What is known of a pile that cards were lifted from. -/
theorem liftM_facts {l : List Int} {h n : Int} (ho : (liftM l h n).2.2.2 = true) : pileM (liftM l h n).1 (liftM l h n).2.1 = true ∧ ((liftM l h n).2.2.1.length : Int) = n ∧ ((liftM l h n).1.length : Int) + n = (l.length : Int) ∧ (0 < (liftM l h n).1.length → 1 ≤ openM (liftM l h n).1 (liftM l h n).2.1) ∧ pileM l h = true ∧ 1 ≤ n ∧ n ≤ openM l h := by
  unfold liftM at ho ⊢
  cases hn : inR n 1 (openM l h)
  · rw [hn] at ho; cases ho
  · obtain ⟨k0, k1, k2, k3⟩ := openM_pos hn
    rw [if_pos rfl]
    dsimp only
    obtain ⟨p1, p2, p3⟩ := pileM_iff.1 k0
    have hk : (l.take (l.length - n.toNat)).length = l.length - n.toNat := by rw [List.length_take]; omega
    have hid : 0 ≤ hidM h (l.length - n.toNat) ∧ hidM h (l.length - n.toNat) ≤ ((l.length - n.toNat : Nat) : Int) ∧ (0 < l.length - n.toNat → hidM h (l.length - n.toNat) < ((l.length - n.toNat : Nat) : Int)) ∧ (hidM h (l.length - n.toNat) = h ∨ ((l.length - n.toNat : Nat) : Int) ≤ hidM h (l.length - n.toNat) + 1) := by
      unfold hidM
      split <;> omega
    have hp : pileM (l.take (l.length - n.toNat)) (hidM h (l.length - n.toNat)) = true := by
      refine pileM_iff.2 ⟨handM_take p1 _, ⟨hid.1, by rw [hk]; exact hid.2.1⟩, fun i hi hn => ?_⟩
      rw [hk] at hi
      rw [getD_take hi, getD_take (by omega)]
      rcases hid.2.2.2 with e | e
      · rw [e] at hn; exact p3 i (by omega) hn
      · omega
    refine ⟨hp, by rw [List.length_drop]; omega, by rw [hk]; omega, fun h0 => ?_, k0, k1, by rw [openM_of k0]; exact k2⟩
    rw [hk] at h0
    rw [openM_of hp, hk]
    have := hid.2.2.1 h0
    omega
theorem cardsP_cons (p : List Int × Int) (ps : List (List Int × Int)) : cardsP (p :: ps) = p.1 ++ cardsP ps := by simp [cardsP]
theorem cardsP_set (c : Int) : ∀ (ps : List (List Int × Int)) (i : Nat) (p : List Int × Int), i < ps.length → (cardsP (ps.set i p)).count c + (ps.getD i ([], 0)).1.count c = (cardsP ps).count c + p.1.count c
  | [], i, p, h => by simp at h
  | q :: ps, 0, p, h => by
    rw [List.set_cons_zero, cardsP_cons, cardsP_cons, List.count_append, List.count_append, List.getD_cons_zero]; omega
  | q :: ps, i + 1, p, h => by
    have := cardsP_set c ps i p (by simpa using h)
    rw [List.set_cons_succ, cardsP_cons, cardsP_cons, List.count_append, List.count_append, List.getD_cons_succ]; omega
theorem getD_set_other {ps : List (List Int × Int)} {i j : Nat} {p : List Int × Int} (h : i ≠ j) : (ps.set i p).getD j ([], 0) = ps.getD j ([], 0) := by
  rw [List.getD_eq_getElem?_getD, List.getElem?_set_ne h, List.getD_eq_getElem?_getD]
theorem all_set {q : List Int × Int → Bool} {ps : List (List Int × Int)} {i : Nat} {p : List Int × Int} (h : ps.all q = true) (hp : q p = true) : (ps.set i p).all q = true := by
  rw [List.all_eq_true] at *
  intro x hx
  rcases List.mem_or_eq_of_mem_set hx with e | e
  · exact h x e
  · rw [e]; exact hp
theorem patM_iff (ps : List (List Int × Int)) (b st wa : List Int) : patM ps b st wa = true ↔ (1 ≤ ps.length ∧ ps.length ≤ 7) ∧ baseM b = true ∧ ps.all okP = true ∧ wholeL (patAll ps b st wa) = true := by
  rw [patM, Bool.and_eq_true, Bool.and_eq_true, Bool.and_eq_true]
  have : inR (ps.length : Int) 1 7 = true ↔ 1 ≤ ps.length ∧ ps.length ≤ 7 := by simp [inR]; omega
  rw [this]
theorem patAll_count (ps : List (List Int × Int)) (b st wa : List Int) (c : Int) : (patAll ps b st wa).count c = (baseCM b).count c + st.count c + wa.count c + (cardsP ps).count c := by
  simp only [patAll, List.count_append]
/-- Another game of the same cards. -/
theorem pat_next (ps : List (List Int × Int)) (b st wa : List Int) {ps' : List (List Int × Int)} {b' st' wa' : List Int} (h : patM ps b st wa = true) (hl : ps'.length = ps.length) (hb : baseM b' = true) (hp : ps'.all okP = true)
    (hc : ∀ c, (baseCM b').count c + st'.count c + wa'.count c + (cardsP ps').count c = (baseCM b).count c + st.count c + wa.count c + (cardsP ps).count c) : patM ps' b' st' wa' = true := by
  obtain ⟨h1, _, _, h4⟩ := (patM_iff ps b st wa).1 h
  refine (patM_iff ..).2 ⟨by rw [hl]; exact h1, hb, hp, ?_⟩
  rw [← h4]
  exact wholeL_perm (perm_of_count fun c => by rw [patAll_count, patAll_count]; exact hc c)
theorem turnM_pat (ps : List (List Int × Int)) (b st wa : List Int) (h : patM ps b st wa = true) : patM (turnM ps b st wa).1 (turnM ps b st wa).2.1 (turnM ps b st wa).2.2.1 (turnM ps b st wa).2.2.2.1 = true := by
  obtain ⟨h1, h2, h3, h4⟩ := (patM_iff ps b st wa).1 h
  rw [turnM, if_pos h]
  split
  · exact h
  · split
    · rename_i e
      have : st = [] := List.length_eq_zero_iff.1 e
      refine pat_next ps b st wa h rfl h2 h3 fun c => ?_
      subst this
      simp
    · rename_i e
      refine pat_next ps b st wa h rfl h2 h3 fun c => ?_
      cases st with
      | nil => simp at e
      | cons x st => simp [List.count_cons, List.count_append]; omega
theorem okP_of {l : List Int} {h : Int} (hp : pileM l h = true) (ho : 0 < l.length → 1 ≤ openM l h) : okP (l, h) = true := by
  show (pileM l h && !(decide (0 < l.length) && decide (h = (l.length : Int)))) = true
  rw [hp, Bool.true_and]
  by_cases e : 0 < l.length
  · have := ho e
    rw [openM_of hp] at this
    rw [decide_eq_true e, decide_eq_false (by omega)]; rfl
  · rw [decide_eq_false e]; rfl
theorem lift_ok {l : List Int} {h n : Int} (ho : (liftM l h n).2.2.2 = true) : okP ((liftM l h n).1, (liftM l h n).2.1) = true ∧ ∀ c, (liftM l h n).1.count c + (liftM l h n).2.2.1.count c = l.count c := by
  obtain ⟨f1, f2, f3, f4, f5, f6, f7⟩ := liftM_facts ho
  refine ⟨okP_of f1 f4, fun c => ?_⟩
  unfold liftM at ho ⊢
  split at ho
  · rename_i hn
    rw [if_pos hn]
    show (l.take _).count c + (l.drop _).count c = _
    rw [← List.count_append, List.take_append_drop]
  · cases ho
theorem stack_ok {l : List Int} {h : Int} {cs : List Int} (hc : 0 < cs.length) (ho : (stackM l h cs).2.2 = true) : okP ((stackM l h cs).1, (stackM l h cs).2.1) = true ∧ ∀ c, (stackM l h cs).1.count c = l.count c + cs.count c := by
  cases cs with
  | nil => cases hc
  | cons c cs =>
    have hp := stack_pile ho
    obtain ⟨e1, e2, e3⟩ := stack_facts l h (c :: cs) l hp ho
    have hh := pileM_hid hp
    unfold stackM
    rw [e1, e2]
    refine ⟨okP_of e3 fun _ => ?_, fun x => List.count_append⟩
    rw [openM_of e3, List.length_append, List.length_cons]; omega
theorem movePileM_pat (ps : List (List Int × Int)) (b st wa : List Int) (fr to n : Int) (h : patM ps b st wa = true) : patM (movePileM ps b st wa fr to n).1 (movePileM ps b st wa fr to n).2.1 (movePileM ps b st wa fr to n).2.2.1 (movePileM ps b st wa fr to n).2.2.2.1 = true := by
  obtain ⟨h1, h2, h3, h4⟩ := (patM_iff ps b st wa).1 h
  rw [movePileM]
  split
  · rename_i hc
    simp only [Bool.and_eq_true, Bool.not_eq_true', beq_eq_false_iff_ne] at hc
    obtain ⟨_, hne, k1, k2, k3, k4⟩ := hc
    simp [inR] at k1 k2
    have hi : fr.toNat < ps.length := by omega
    have hj : to.toNat < ps.length := by omega
    have hij : fr.toNat ≠ to.toNat := by omega
    obtain ⟨l1, l2⟩ := lift_ok k3
    obtain ⟨f1, f2, f3, f4, f5, f6, f7⟩ := liftM_facts k3
    obtain ⟨s1, s2⟩ := stack_ok (by omega) k4
    refine pat_next ps b st wa h (by simp) h2 (all_set (all_set h3 l1) s1) fun c => ?_
    have e1 := cardsP_set c ps fr.toNat ((liftM (ps.getD fr.toNat ([], 0)).1 (ps.getD fr.toNat ([], 0)).2 n).1, (liftM (ps.getD fr.toNat ([], 0)).1 (ps.getD fr.toNat ([], 0)).2 n).2.1) hi
    have e2 := cardsP_set c (ps.set fr.toNat ((liftM (ps.getD fr.toNat ([], 0)).1 (ps.getD fr.toNat ([], 0)).2 n).1, (liftM (ps.getD fr.toNat ([], 0)).1 (ps.getD fr.toNat ([], 0)).2 n).2.1)) to.toNat ((stackM (ps.getD to.toNat ([], 0)).1 (ps.getD to.toNat ([], 0)).2 (liftM (ps.getD fr.toNat ([], 0)).1 (ps.getD fr.toNat ([], 0)).2 n).2.2.1).1, (stackM (ps.getD to.toNat ([], 0)).1 (ps.getD to.toNat ([], 0)).2 (liftM (ps.getD fr.toNat ([], 0)).1 (ps.getD fr.toNat ([], 0)).2 n).2.2.1).2.1) (by rw [List.length_set]; exact hj)
    rw [getD_set_other hij] at e2
    have e3 := l2 c
    have e4 := s2 c
    dsimp only at e1 e2 ⊢
    omega
  · exact h
theorem step_suit : ∀ a : Nat, a < 52 → ∀ c : Nat, c < 52 → suitM (a : Int) = suitM (c : Int) → stepM (a : Int) = stepM (c : Int) → a = c := by decide +kernel
theorem suit_small : ∀ a : Nat, a < 52 → 0 ≤ suitM (a : Int) ∧ suitM (a : Int) < 4 ∧ 1 ≤ stepM (a : Int) ∧ stepM (a : Int) ≤ 13 := by decide +kernel
theorem getD_set {l : List Int} {i j : Nat} {x : Int} (hi : i < l.length) : (l.set i x).getD j 0 = if i = j then x else l.getD j 0 := by
  rw [List.getD_eq_getElem?_getD, List.getElem?_set]
  by_cases e : i = j
  · rw [if_pos e, if_pos e, if_pos hi]; rfl
  · rw [if_neg e, if_neg e, List.getD_eq_getElem?_getD]
theorem built_ok {b : List Int} {c : Int} (ho : (builtM b c).2 = true) : baseM (builtM b c).1 = true ∧ (∀ x, (baseCM (builtM b c).1).count x = (baseCM b).count x + [c].count x) ∧ ∃ i, i < 4 ∧ (builtM b c).1 = b.set i (b.getD i 0 + 1) := by
  unfold builtM at ho ⊢
  cases hm : mayBM b c
  · rw [hm] at ho; cases ho
  · rw [if_pos rfl]
    dsimp only
    obtain ⟨hb, hc⟩ := mayBM_card hm
    simp only [mayBM, Bool.and_eq_true, beq_iff_eq] at hm
    have hst := hm.2.2
    obtain ⟨k1, k2⟩ := isC_iff.1 hc
    obtain ⟨n, rfl⟩ : ∃ n : Nat, c = (n : Int) := ⟨c.toNat, by omega⟩
    obtain ⟨s1, s2, s3, s4⟩ := suit_small n (by omega)
    have hl := baseM_len hb
    have hi : (suitM (n : Int)).toNat < b.length := by omega
    have hb' : baseM (b.set (suitM (n : Int)).toNat (b.getD (suitM (n : Int)).toNat 0 + 1)) = true := by
      simp only [baseM, Bool.and_eq_true, decide_eq_true_eq, List.all_eq_true, List.length_set] at hb ⊢
      refine ⟨fun x hx => ?_, hl⟩
      rcases List.mem_or_eq_of_mem_set hx with e | e
      · exact hb.1 x e
      · rw [e, ← hst]; simp [inR]; omega
    refine ⟨hb', fun x => ?_, _, by omega, rfl⟩
    have key : ∀ a ∈ cards52 52, baseP (b.set (suitM (n : Int)).toNat (b.getD (suitM (n : Int)).toNat 0 + 1)) a = (baseP b a || decide (a = (n : Int))) := fun a ha => by
      obtain ⟨m, hm', rfl⟩ := List.mem_map.1 ha
      have hm' := List.mem_range.1 hm'
      obtain ⟨t1, t2, t3, t4⟩ := suit_small m hm'
      unfold baseP
      rw [getD_set hi]
      by_cases e : (suitM (n : Int)).toNat = (suitM (m : Int)).toNat
      · rw [if_pos e]
        by_cases e2 : m = n
        · subst e2
          rw [decide_eq_true (by omega), decide_eq_true rfl, Bool.or_true]
        · have hne : stepM (m : Int) ≠ stepM (n : Int) := fun h => e2 (step_suit m hm' n (by omega) (by omega) h)
          rw [decide_eq_false (by omega : ¬ (m : Int) = (n : Int)), Bool.or_false, ← e, Bool.eq_iff_iff, decide_eq_true_eq, decide_eq_true_eq]
          omega
      · rw [if_neg e, decide_eq_false (fun h : (m : Int) = (n : Int) => e (by rw [h])), Bool.or_false]
    have hno : baseP b (n : Int) = false := by
      unfold baseP
      rw [decide_eq_false]; omega
    have h52 : (cards52 52).count (n : Int) = 1 := by
      have hall : ∀ m : Nat, m < 52 → (cards52 52).count (m : Int) = 1 := by decide +kernel
      exact hall n (by omega)
    rw [baseCM, if_pos hb', baseCM, if_pos hb, List.filter_congr key]
    by_cases ex : x = (n : Int)
    · subst ex
      rw [List.count_filter (by simp), h52, List.count_eq_zero.2 (by rw [List.mem_filter]; simp [hno])]
      simp
    · have e1 : [(n : Int)].count x = 0 := by rw [List.count_eq_zero]; simp [ex]
      rw [e1, Nat.add_zero]
      cases hp : baseP b x with
      | true => rw [List.count_filter (by simp [hp]), List.count_filter hp]
      | false => rw [List.count_eq_zero.2 (by rw [List.mem_filter]; simp [hp, ex]), List.count_eq_zero.2 (by rw [List.mem_filter]; simp [hp])]
theorem moveUpM_pat (ps : List (List Int × Int)) (b st wa : List Int) (fr : Int) (h : patM ps b st wa = true) : patM (moveUpM ps b st wa fr).1 (moveUpM ps b st wa fr).2.1 (moveUpM ps b st wa fr).2.2.1 (moveUpM ps b st wa fr).2.2.2.1 = true ∧ ((moveUpM ps b st wa fr).2.2.2.2 = true → ∃ i, i < 4 ∧ (moveUpM ps b st wa fr).2.1 = b.set i (b.getD i 0 + 1)) := by
  obtain ⟨h1, h2, h3, h4⟩ := (patM_iff ps b st wa).1 h
  rw [moveUpM]
  split
  · rename_i hc
    simp only [Bool.and_eq_true] at hc
    obtain ⟨_, k1, k3, k4⟩ := hc
    simp [inR] at k1
    have hi : fr.toNat < ps.length := by omega
    obtain ⟨l1, l2⟩ := lift_ok k3
    obtain ⟨f1, f2, f3, f4, f5, f6, f7⟩ := liftM_facts k3
    obtain ⟨g1, g2, g3⟩ := built_ok k4
    refine ⟨pat_next ps b st wa h (by simp) g1 (all_set h3 l1) fun c => ?_, fun _ => g3⟩
    have e1 := cardsP_set c ps fr.toNat ((liftM (ps.getD fr.toNat ([], 0)).1 (ps.getD fr.toNat ([], 0)).2 1).1, (liftM (ps.getD fr.toNat ([], 0)).1 (ps.getD fr.toNat ([], 0)).2 1).2.1) hi
    have e3 := l2 c
    have e4 := g2 c
    have e5 : (liftM (ps.getD fr.toNat ([], 0)).1 (ps.getD fr.toNat ([], 0)).2 1).2.2.1 = [(liftM (ps.getD fr.toNat ([], 0)).1 (ps.getD fr.toNat ([], 0)).2 1).2.2.1.getD 0 0] := by
      generalize (liftM (ps.getD fr.toNat ([], 0)).1 (ps.getD fr.toNat ([], 0)).2 1).2.2.1 = l at f2
      match l, f2 with
      | [x], _ => rfl
    rw [← e5] at e4
    dsimp only at e1 ⊢
    omega
  · exact ⟨h, fun e => by cases e⟩
theorem count_last {l : List Int} (h : l.length ≠ 0) (c : Int) : l.count c = (l.take (l.length - 1)).count c + [l.getD (l.length - 1) 0].count c := by
  have e := take_succ_getD (l := l) (i := l.length - 1) (d := 0) (by omega)
  rw [← List.count_append, ← e, show l.length - 1 + 1 = l.length by omega, List.take_length]
theorem moveWasteM_pat (ps : List (List Int × Int)) (b st wa : List Int) (to : Int) (h : patM ps b st wa = true) : patM (moveWasteM ps b st wa to).1 (moveWasteM ps b st wa to).2.1 (moveWasteM ps b st wa to).2.2.1 (moveWasteM ps b st wa to).2.2.2.1 = true := by
  obtain ⟨h1, h2, h3, h4⟩ := (patM_iff ps b st wa).1 h
  rw [moveWasteM, if_pos h]
  by_cases c0 : wa.length = 0
  · rw [if_pos c0]; exact h
  rw [if_neg c0]
  have hl := fun c => count_last c0 c
  cases c1 : inR to (-1) ((ps.length : Int) - 1)
  · exact h
  rw [if_pos rfl]
  simp [inR] at c1
  by_cases c2 : to = -1
  · rw [if_pos c2]
    cases c3 : (builtM b (wa.getD (wa.length - 1) 0)).2
    · exact h
    · rw [if_pos rfl]
      obtain ⟨g1, g2, _⟩ := built_ok c3
      refine pat_next ps b st wa h rfl g1 h3 fun c => ?_
      have := g2 c
      have := hl c
      dsimp only
      omega
  · rw [if_neg c2]
    cases c3 : (stackM (ps.getD to.toNat ([], 0)).1 (ps.getD to.toNat ([], 0)).2 [wa.getD (wa.length - 1) 0]).2.2
    · exact h
    · rw [if_pos rfl]
      obtain ⟨s1, s2⟩ := stack_ok (by simp) c3
      refine pat_next ps b st wa h (by simp) h2 (all_set h3 s1) fun c => ?_
      have e1 := cardsP_set c ps to.toNat ((stackM (ps.getD to.toNat ([], 0)).1 (ps.getD to.toNat ([], 0)).2 [wa.getD (wa.length - 1) 0]).1, (stackM (ps.getD to.toNat ([], 0)).1 (ps.getD to.toNat ([], 0)).2 [wa.getD (wa.length - 1) 0]).2.1) (by omega)
      have := s2 c
      have := hl c
      dsimp only at e1 ⊢
      omega
/-- So many cards lie in the first piles. -/
def tri : Nat → Nat
  | 0 => 0
  | i + 1 => tri i + (i + 1)
theorem tri_le : ∀ i : Nat, i ≤ 7 → tri i ≤ 28 := by decide
def dealP (deck : List Int) (k : Nat) : List (List Int × Int) := (List.range k).map fun i => ((deck.take (tri (i + 1))).drop (tri i), (i : Int))
theorem dealP_succ (deck : List Int) (k : Nat) : dealP deck (k + 1) = dealP deck k ++ [((deck.take (tri (k + 1))).drop (tri k), (k : Int))] := by simp [dealP, List.range_succ]
theorem dealP_length (deck : List Int) (k : Nat) : (dealP deck k).length = k := by simp [dealP]
def newPM (deck : List Int) (n : Int) : List (List Int × Int) × List Int × List Int × List Int × Bool :=
  if handM deck && (decide (deck.length = 52) && inR n 1 7) then (dealP deck n.toNat, List.replicate 4 0, deck.drop (tri n.toNat), [], true) else ([], [], [], [], false)
theorem spec_NewPatience_ok (deck : List Int) (n : Int) (hl : deck.length ≤ 2097152) : spec_NewPatience deck n = some (newPM deck n) := by
  rw [spec_NewPatience_eq, spec_IsHand_ok _ (by omega), Option.bind_some, newPM]
  cases handM deck
  · rfl
  by_cases h52 : deck.length = 52
  · rw [if_neg (by decide), if_nneg (by omega), spec_l1In_ok, Option.bind_some, decide_eq_true h52]
    cases hr : inR n 1 7
    · rfl
    · simp [inR] at hr
      rw [if_neg (by decide), if_pos (by decide), if_pos (by decide)]
      obtain ⟨m, rfl⟩ : ∃ m : Nat, n = (m : Int) := ⟨n.toNat, by omega⟩
      rw [Int.toNat_natCast]
      have hm := tri_le m (by omega)
      have key : ∀ i : Nat, i ≤ m → 0 < i → spec_NewPatience_L6v1 deck (m : Int) (tri i : Int) ((i + 1 : Nat) : Int) (dealP deck i) (List.replicate 4 0) = some (dealP deck m, List.replicate 4 0, deck.drop (tri m), [], true) := by
        intro i hi
        refine down (P := fun i => 0 < i → spec_NewPatience_L6v1 deck (m : Int) (tri i : Int) ((i + 1 : Nat) : Int) (dealP deck i) (List.replicate 4 0) = some (dealP deck m, List.replicate 4 0, deck.drop (tri m), [], true)) (fun _ => ?_) (fun i hi ih h0 => ?_) i hi
        · rw [spec_NewPatience_L6v1_eq]
          simp (disch := (first | omega | (simp only [List.length_append, List.length_cons, List.length_nil, List.length_take, List.length_drop, List.length_set, List.length_replicate, List.length_singleton]; omega))) only [↓if_dpos, ↓if_dneg, ↓if_epos, ↓if_eneg, ↓if_npos, ↓if_nneg, ↓if_pos, ↓if_neg, Int.toNat_natCast, List.nil_append, Nat.zero_add, List.length_singleton, Option.bind_some, List.drop_zero, List.take_length, if_true, if_false]
        · have t1 := tri_le i (by omega)
          have t2 := tri_le (i + 1) (by omega)
          have e : tri (i + 1) = tri i + (i + 1) := rfl
          have w1 : IntKind.i64.wrap ((tri i : Int) + ((i + 1 : Nat) : Int)) = ((tri (i + 1) : Nat) : Int) := by rw [wrap_id (by omega) (by omega)]; omega
          have w2 : IntKind.i64.wrap (((i + 1 : Nat) : Int) - 1) = (i : Int) := by rw [wrap_id (by omega) (by omega)]; omega
          have w3 : IntKind.i64.wrap (((i + 1 : Nat) : Int) + 1) = ((i + 1 + 1 : Nat) : Int) := by rw [wrap_id (by omega) (by omega)]; omega
          have hdl := dealP_length deck i
          rw [spec_NewPatience_L6v1_eq]
          simp (disch := (first | omega | (simp only [List.length_append, List.length_cons, List.length_nil, List.length_take, List.length_drop, List.length_set, List.length_replicate, List.length_singleton]; omega))) only [↓if_dpos, ↓if_dneg, ↓if_epos, ↓if_eneg, ↓if_npos, ↓if_nneg, ↓if_pos, ↓if_neg, w1, w2, w3, Int.toNat_natCast, List.nil_append, Nat.zero_add, List.length_singleton, Option.bind_some, List.drop_zero, List.take_length, if_true, if_false]
          rw [← dealP_succ]
          exact ih (by omega)
      have t1 : tri 1 = 1 := rfl
      have w1 : IntKind.i64.wrap ((0 : Int) + 1) = ((1 : Nat) : Int) := by rw [wrap_id (by omega) (by omega)]; rfl
      have w2 : IntKind.i64.wrap ((1 : Int) - 1) = 0 := by rw [wrap_id (by omega) (by omega)]; rfl
      have w3 : IntKind.i64.wrap ((1 : Int) + 1) = ((1 + 1 : Nat) : Int) := by rw [wrap_id (by omega) (by omega)]; rfl
      rw [spec_NewPatience_L6_eq]
      simp (disch := (first | omega | (simp only [List.length_append, List.length_cons, List.length_nil, List.length_take, List.length_drop, List.length_set, List.length_replicate, List.length_singleton]; omega))) only [↓if_dpos, ↓if_dneg, ↓if_epos, ↓if_eneg, ↓if_npos, ↓if_nneg, ↓if_pos, ↓if_neg, w1, w2, w3, Int.toNat_natCast, List.nil_append, Nat.zero_add, List.length_singleton, Option.bind_some, List.drop_zero, List.take_length, if_true, if_false, Int.toNat_zero]
      exact key 1 (by omega) (by omega)
  · rw [if_neg (by decide), if_npos (by omega), decide_eq_false h52]
    rfl
theorem handM_part {l : List Int} (h : handM l = true) {r : List Int} (hr : r.Sublist l) : handM r = true := by
  simp only [handM, Bool.and_eq_true, decide_eq_true_eq, List.all_eq_true] at *
  exact ⟨fun x hx => h.1 x (hr.subset hx), h.2.sublist hr⟩
theorem deal_cards (deck : List Int) : ∀ k, cardsP (dealP deck k) = deck.take (tri k) := by
  intro k
  induction k with
  | zero => rfl
  | succ k ih =>
    have : cardsP (dealP deck (k + 1)) = cardsP (dealP deck k) ++ (deck.take (tri (k + 1))).drop (tri k) := by rw [dealP_succ]; simp [cardsP]
    rw [this, ih]
    conv => rhs; rw [← List.take_append_drop (tri k) (deck.take (tri (k + 1)))]
    rw [List.take_take, show min (tri k) (tri (k + 1)) = tri k by show min (tri k) (tri k + (k + 1)) = _; omega]
theorem base_zero : baseM (List.replicate 4 0) = true ∧ baseCM (List.replicate 4 0) = [] := by decide +kernel
/-- A game that was dealt is one, and it is not won. -/
theorem newPM_pat {deck : List Int} {n : Int} (ho : (newPM deck n).2.2.2.2 = true) : patM (newPM deck n).1 (newPM deck n).2.1 (newPM deck n).2.2.1 (newPM deck n).2.2.2.1 = true ∧ baseCM (newPM deck n).2.1 = [] ∧ (newPM deck n).2.1.length = 4 := by
  unfold newPM at ho ⊢
  split at ho
  · rename_i hc
    rw [if_pos hc]
    simp only [Bool.and_eq_true, decide_eq_true_eq] at hc
    obtain ⟨h1, h2, h3⟩ := hc
    simp [inR] at h3
    dsimp only
    have hm := tri_le n.toNat (by omega)
    refine ⟨(patM_iff ..).2 ⟨by rw [dealP_length]; omega, base_zero.1, ?_, ?_⟩, base_zero.2, rfl⟩
    · rw [List.all_eq_true]
      intro p hp
      obtain ⟨i, hi, rfl⟩ := List.mem_map.1 hp
      have hi := List.mem_range.1 hi
      have t := tri_le (i + 1) (by omega)
      have e : tri (i + 1) = tri i + (i + 1) := rfl
      have hl : ((deck.take (tri (i + 1))).drop (tri i)).length = i + 1 := by rw [List.length_drop, List.length_take]; omega
      have hpile : pileM ((deck.take (tri (i + 1))).drop (tri i)) (i : Int) = true := pileM_iff.2 ⟨handM_part h1 ((List.drop_sublist _ _).trans (List.take_sublist _ _)), by rw [hl]; omega, fun j hj hn => by rw [hl] at hj; omega⟩
      exact okP_of hpile fun _ => by rw [openM_of hpile, hl]; omega
    · rw [patAll, base_zero.2, deal_cards]
      have hp : (([] : List Int) ++ deck.drop (tri n.toNat) ++ [] ++ deck.take (tri n.toNat)).Perm deck := by
        rw [List.nil_append, List.append_nil]
        refine List.perm_append_comm.trans ?_
        rw [List.take_append_drop]
      rw [wholeL_perm hp, wholeL, h1, decide_eq_true h2]; rfl
  · cases ho
/-- What a game's own cards are few. -/
structure PH (ps : List (List Int × Int)) (b st wa : List Int) : Prop where
  p : G3 ps
  b : b.length ≤ 1000000
  s : st.length ≤ 1000000
  w : wa.length ≤ 1000000
theorem patM_ph (ps : List (List Int × Int)) (b st wa : List Int) (h : patM ps b st wa = true) : PH ps b st wa := by
  obtain ⟨h1, h2, h3, h4⟩ := patM_size ps b st wa h
  refine ⟨⟨by omega, fun r hr => ?_⟩, by rw [baseM_len h3]; omega, by omega, by omega⟩
  obtain ⟨i, hi, rfl⟩ := List.mem_iff_getElem.1 hr
  have := pile_le ps i
  rw [List.getD_eq_getElem?_getD, List.getElem?_eq_getElem hi] at this
  have : ps[i].1.length ≤ (cardsP ps).length := this
  omega
def DG (r : List (List Int × Int) × List Int × List Int × List Int × List Int × Int × Int) : Prop := Cur r.2.2.2.2 ∧ patM r.1 r.2.1 r.2.2.1 r.2.2.2.1 = true
def DGE (r : List (List Int × Int) × List Int × List Int × List Int × List Int × Int × Int) : Prop := Cur r.2.2.2.2 ∧ PH r.1 r.2.1 r.2.2.1 r.2.2.2.1
theorem newPM_ok {deck : List Int} {n : Int} (h1 : handM deck = true) (h2 : deck.length = 52) (h3 : 1 ≤ n) (h4 : n ≤ 7) : (newPM deck n).2.2.2.2 = true := by
  rw [newPM, h1, decide_eq_true h2, show inR n 1 7 = true by simp [inR]; omega]; rfl
theorem newPat_ex {D : List Int} (h1 : D.length = 52) (h2 : handM D = true) {n : Int} (h3 : 1 ≤ n) (h4 : n ≤ 7) : ∃ r, spec_NewPatience D n = some r ∧ patM r.1 r.2.1 r.2.2.1 r.2.2.2.1 = true :=
  ⟨_, spec_NewPatience_ok _ _ (by omega), (newPM_pat (newPM_ok h2 h1 h3 h4)).1⟩
theorem l18Start_tot {c : List Int × Int × Int} (hc : Cur c) : Tot (spec_l18Start c) DG := by
  obtain ⟨D, e1, d1, d2⟩ := full_ex
  rw [spec_l18Start_eq, e1, Option.bind_some]
  refine Tot.bind (l1Once_tot hc _) fun r hr => Tot.ite (fun _ => ?_) fun _ => ?_
  · refine Tot.bind (l1Below_tot hr _) fun s ⟨hs, _⟩ => ?_
    obtain ⟨E, e2, k1, k2⟩ := shuffled_ex d1 d2 s.1
    rw [e2, Option.bind_some]
    refine Tot.bind (l1Below_tot hs _) fun t ⟨ht, t1, t2, _⟩ => ?_
    have t2 := t2 (by decide)
    obtain ⟨g, e3, g1⟩ := newPat_ex k1 k2 (n := 1 + t.1) (by omega) (by omega)
    rw [wrap_id (by omega) (by omega), e3, Option.bind_some]
    exact Tot.ret ⟨ht, g1⟩
  · refine Tot.bind (l1Below_tot hr _) fun t ⟨ht, t1, t2, _⟩ => ?_
    have t2 := t2 (by decide)
    obtain ⟨g, e3, g1⟩ := newPat_ex d1 d2 (n := 1 + t.1) (by omega) (by omega)
    rw [wrap_id (by omega) (by omega), e3, Option.bind_some]
    exact Tot.ret ⟨ht, g1⟩
theorem l18Step_tot {c : List Int × Int × Int} (hc : Cur c) (ps : List (List Int × Int)) (b st wa : List Int) (h : patM ps b st wa = true) : Tot (spec_l18Step c ps b st wa) DG := by
  obtain ⟨q1, q2, q3, q4⟩ := patM_ph ps b st wa h
  have turn : ∀ {c : List Int × Int × Int}, Cur c → Tot ((spec_Turn ps b st wa).bind fun c10 => some (c10.1, c10.2.1, c10.2.2.1, c10.2.2.2.1, c.1, c.2.1, c.2.2)) DG := fun hc => by
    rw [spec_Turn_ok ps b st wa q1 (by omega) (by omega) (by omega), Option.bind_some]
    exact Tot.ret ⟨hc, turnM_pat ps b st wa h⟩
  have waste : ∀ {c : List Int × Int × Int} (t : Int), Cur c → Tot ((spec_MoveWaste ps b st wa t).bind fun c10 => some (c10.1, c10.2.1, c10.2.2.1, c10.2.2.2.1, c.1, c.2.1, c.2.2)) DG := fun t hc => by
    rw [spec_MoveWaste_ok ps b st wa t q1 (by omega) (by omega) (by omega), Option.bind_some]
    exact Tot.ret ⟨hc, moveWasteM_pat ps b st wa t h⟩
  rw [spec_l18Step_eq]
  refine Tot.bind (l1Below_tot hc _) fun r ⟨hr, _⟩ => Tot.ite (fun _ => ?_) fun _ => Tot.ite (fun _ => ?_) fun _ => Tot.ite (fun _ => Tot.ite (fun _ => ?_) fun _ => turn hr) fun _ => Tot.ite (fun _ => ?_) fun _ => turn hr
  · refine Tot.bind (l1Below_tot hr _) fun s ⟨hs, _⟩ => Tot.bind (l1Below_tot hs _) fun t ⟨ht, _⟩ => Tot.bind (l1Below_tot ht _) fun u ⟨hu, _⟩ => ?_
    rw [spec_MovePile_ok ps b st wa _ _ _ q1 (by omega) (by omega) (by omega), Option.bind_some]
    exact Tot.ret ⟨hu, movePileM_pat ps b st wa _ _ _ h⟩
  · refine Tot.bind (l1Below_tot hr _) fun s ⟨hs, _⟩ => ?_
    rw [spec_MoveUp_ok ps b st wa _ q1 (by omega) (by omega) (by omega), Option.bind_some]
    exact Tot.ret ⟨hs, (moveUpM_pat ps b st wa _ h).1⟩
  · exact Tot.bind (l1Below_tot hr _) fun s ⟨hs, _⟩ => waste _ hs
  · exact Tot.bind (l1Below_tot hr _) fun s ⟨hs, _⟩ => waste _ hs
theorem l17Any_tot {c : List Int × Int × Int} (hc : Cur c) : Tot (spec_l17Any c) (fun r => Cur r.2 ∧ r.1.length ≤ 1000) := by
  rw [spec_l17Any_eq]
  have key : ∀ i : Nat, i ≤ 4 → ∀ (b0 : List Int) (b1 b2 : Int) (r : List Int), Cur (b0, b1, b2) → r.length = i → Tot (spec_l17Any_L3 (i : Int) b0 b1 b2 r) (fun r => Cur r.2 ∧ r.1.length ≤ 1000) := down (by
      intro b0 b1 b2 r hb hr
      rw [spec_l17Any_L3_eq, if_dneg (by omega)]
      refine Tot.bind (l1Below_tot hb _) fun s ⟨hs, _⟩ => Tot.ite (fun _ => ?_) fun _ => Tot.ite (fun _ => ?_) fun _ => Tot.ite (fun _ => ?_) fun _ => ?_
      · exact Tot.bind (l1Int_tot hs (Nat.zero_lt_succ _)) fun t ht => Tot.guard (by omega) (Tot.ret ⟨ht.1, by show (r.set 0 _).length ≤ _; rw [List.length_set]; omega⟩)
      · exact Tot.guard (by omega) (Tot.ret ⟨hs, by show ((r.take _).drop 1).length ≤ _; rw [List.length_drop, List.length_take]; omega⟩)
      · exact Tot.ret ⟨hs, by show 4 ≤ 1000; omega⟩
      · exact Tot.ret ⟨hs, by show r.length ≤ _; omega⟩) fun i hi ih b0 b1 b2 r hb hr => by
    rw [spec_l17Any_L3_eq, if_dpos (by omega)]
    refine Tot.bind (l1Below_tot hb _) fun s ⟨hs, _⟩ => Tot.guard (by rw [List.length_singleton]; omega) ?_
    rw [wrap_succ (n := 4) hi (by omega)]
    exact ih _ _ _ _ hs (by rw [List.length_append, List.length_singleton]; omega)
  exact key 0 (by omega) _ _ _ [] hc rfl
theorem l18Draw_tot {c : List Int × Int × Int} (hc : Cur c) : Tot (spec_l18Draw c) DGE := by
  rw [spec_l18Draw_eq]
  refine Tot.bind (l18Start_tot hc) fun g ⟨hg, gp⟩ => Tot.bind (l1Below_tot hg _) fun t ⟨ht, t1, t2, _⟩ => ?_
  have t2 := t2 (by decide)
  have key : ∀ i : Nat, i ≤ 20 → ∀ (b0 : List Int) (b1 b2 : Int) (ps : List (List Int × Int)) (b st wa : List Int), Cur (b0, b1, b2) → patM ps b st wa = true → Tot (spec_l18Draw_L3 (i : Int) b0 b1 b2 ps b st wa) DGE := by
    intro i
    induction i with
    | zero =>
      intro _ b0 b1 b2 ps b st wa hb hp
      obtain ⟨q1, q2, q3, q4⟩ := patM_ph ps b st wa hp
      obtain ⟨z1, z2, _⟩ := (patM_iff ps b st wa).1 hp
      rw [spec_l18Draw_L3_eq, if_dneg (by omega)]
      have hst : st.length ≤ 52 := by have := patM_size ps b st wa hp; omega
      refine Tot.bind (l1Below_tot hb _) fun s ⟨hs, _⟩ => Tot.ite (fun _ => ?_) fun _ => Tot.ite (fun _ => ?_) fun _ => Tot.ite (fun _ => ?_) fun _ => Tot.ite (fun _ => ?_) fun _ => ?_
      · exact Tot.bind (l4Card_tot hs) fun u hu => Tot.guard (by rw [List.length_singleton]; omega) (Tot.ret ⟨hu, q1, q2, by show (st ++ [_]).length ≤ _; rw [List.length_append, List.length_singleton]; omega, q4⟩)
      · exact Tot.bind (l17Any_tot hs) fun u hu => Tot.ret ⟨hu.1, q1, by show u.1.length ≤ _; have := hu.2; omega, q3, q4⟩
      · exact Tot.guard (by omega) (Tot.guard (by omega) (Tot.ret ⟨hs, q1.set q1.at', q2, q3, q4⟩))
      · have h13 : PH [([], 0)] [13, 13, 13, 13] [] [] := ⟨⟨by decide, fun r hr => by rw [List.mem_singleton.1 hr]; exact Nat.zero_le _⟩, by decide, by decide, by decide⟩
        exact Tot.ret ⟨hs, h13⟩
      · exact Tot.ret ⟨hs, q1, q2, q3, q4⟩
    | succ i ih =>
      intro hi b0 b1 b2 ps b st wa hb hp
      rw [spec_l18Draw_L3_eq, if_dpos (by omega)]
      refine Tot.bind (l18Step_tot hb ps b st wa hp) fun s ⟨hs, sp⟩ => ?_
      rw [wrap_id (by omega) (by omega), show ((i + 1 : Nat) : Int) - 1 = (i : Int) by omega]
      exact ih (by omega) _ _ _ _ _ _ _ hs sp
  have := key t.1.toNat (by omega) t.2.1 t.2.2.1 t.2.2.2 g.1 g.2.1 g.2.2.1 g.2.2.2.1 ht gp
  rw [show ((t.1.toNat : Nat) : Int) = t.1 by omega] at this
  exact this
theorem DrawIsPatience_tot {a : List Int} (ha : a.length ≤ 1048576) : Tot (spec_DrawIsPatience a) (fun r => PH r.1 r.2.1 r.2.2.1 r.2.2.2) := by
  rw [spec_DrawIsPatience_eq]
  exact Tot.bind (l1New_tot ha) fun c hc => Tot.bind (l18Draw_tot hc) fun p hp => Tot.ret hp.2
def I64 (n : Int) : Prop := -9223372036854775808 ≤ n ∧ n ≤ 9223372036854775807
def mkB (l : List UInt8) : ByteArray := ⟨l.toArray⟩
theorem mkB_size (l : List UInt8) : (mkB l).size = l.length := by simp [mkB, ByteArray.size]
theorem mkB_app (a b : List UInt8) : mkB a ++ mkB b = mkB (a ++ b) := by
  apply ByteArray.ext
  simp [mkB]
theorem mkB_data (s : ByteArray) : mkB s.data.toList = s := by
  apply ByteArray.ext
  simp [mkB]
theorem mkB_list (l : List UInt8) : (mkB l).data.toList = l := by simp [mkB]
theorem dec_len : ∀ k m : Nat, m < 10 ^ (k + 1) → (Lib.decDigits m).length ≤ k + 1
  | 0, m, h => by rw [Lib.decDigits, dif_pos (by omega)]; simp
  | k + 1, m, h => by
    rw [Lib.decDigits]
    split
    · simp
    · rw [List.length_append, List.length_singleton]
      have := dec_len k (m / 10) (by rw [Nat.pow_succ] at h; omega)
      omega
theorem itoaB_mk (n : Int) : itoaB n = mkB (Lib.itoa n) := rfl
theorem itoaB_size {n : Int} (h : I64 n) : (itoaB n).size ≤ 20 := by
  obtain ⟨h1, h2⟩ := h
  rw [itoaB_mk, mkB_size]
  unfold Lib.itoa
  split
  · rw [List.length_cons]
    have := dec_len 18 n.natAbs (Nat.lt_of_le_of_lt (by omega : n.natAbs ≤ 9223372036854775808) (by decide))
    omega
  · have := dec_len 18 n.toNat (Nat.lt_of_le_of_lt (by omega : n.toNat ≤ 9223372036854775808) (by decide))
    omega
theorem dec_pos (m : Nat) : 1 ≤ (Lib.decDigits m).length := by
  rw [Lib.decDigits]
  split <;> simp
theorem impl_FormatInt_ok {n : Int} (h : I64 n) : impl_FormatInt n = some (itoaB n) := by
  rw [impl_FormatInt_eq, strconv_Itoa_eq, itoaC, if_pos h.1, if_pos h.2, Option.bind_some]
theorem joinB_mk (l : List ByteArray) (sep : ByteArray) : joinB l sep = mkB (Lib.join (l.map (·.data.toList)) sep.data.toList) := rfl
theorem join_snoc (l : List (List UInt8)) (x sep : List UInt8) : Lib.join (l ++ [x]) sep = if l = [] then x else Lib.join l sep ++ (sep ++ x) := by
  cases l with
  | nil => rw [List.nil_append, Lib.join_one, if_pos rfl]
  | cons y r => rw [List.cons_append, Lib.join_cons, Lib.join_cons, if_neg (by simp), Lib.joinTail, Lib.joinTail, List.map_append, List.flatten_append, List.append_assoc]; simp
theorem joinB_snoc (l : List ByteArray) (x sep : ByteArray) : joinB (l ++ [x]) sep = if l = [] then x else joinB l sep ++ sep ++ x := by
  rw [joinB_mk, List.map_append, List.map_singleton, join_snoc]
  by_cases h : l = []
  · rw [if_pos h, if_pos (by rw [h]; rfl), mkB_data]
  · rw [if_neg h, if_neg (by simpa using h), joinB_mk, ← List.append_assoc, ← mkB_app, ← mkB_app, mkB_data, mkB_data]
theorem take_snoc {α : Type} {l : List α} {i : Nat} {d : α} (h : i < l.length) : l.take (i + 1) = l.take i ++ [l.getD i d] := take_succ_getD h
theorem joinB_take {l : List ByteArray} {i : Nat} (h : i < l.length) (sep : ByteArray) : joinB (l.take (i + 1)) sep = if i = 0 then l.getD i default else joinB (l.take i) sep ++ sep ++ l.getD i default := by
  rw [take_snoc (d := default) h, joinB_snoc]
  by_cases c : i = 0
  · rw [if_pos c, if_pos (by rw [c]; rfl)]
  · rw [if_neg c, if_neg (by
      intro e
      have := congrArg List.length e
      rw [List.length_take, List.length_nil] at this
      omega)]
theorem joinB_size (k : Nat) (sep : ByteArray) (l : List ByteArray) (h : ∀ x ∈ l, x.size ≤ k) : (joinB l sep).size ≤ l.length * (k + sep.size) := by
  have key : ∀ i, i ≤ l.length → (joinB (l.take i) sep).size ≤ i * (k + sep.size) := by
    intro i
    induction i with
    | zero => intro _; exact Nat.zero_le _
    | succ i ih =>
      intro hi
      have ih := ih (by omega)
      have hx := h _ (getD_mem (d := default) (by omega : i < l.length))
      rw [joinB_take (by omega), Nat.succ_mul]
      split
      · omega
      · rw [ByteArray.size_append, ByteArray.size_append]; omega
  have := key l.length (Nat.le_refl _)
  rw [List.take_length] at this
  exact this
theorem strings_Join_ok {l : List ByteArray} {sep : ByteArray} {k : Nat} (h : ∀ x ∈ l, x.size ≤ k) (hl : l.length * (k + sep.size) ≤ 140737488355328) (hl2 : l.length ≤ 140737488355328) : strings_Join l sep = some (joinB l sep) := by
  rw [strings_Join_eq, joinC, if_pos (Nat.le_trans (joinB_size k sep l h) hl), if_pos hl2]
/-- Numbers, as texts. -/
def numsM (l : List Int) : List ByteArray := l.map itoaB
theorem numsM_get {l : List Int} {i : Nat} (h : i < l.length) : (numsM l).getD i default = itoaB (l.getD i 0) := by
  rw [numsM, List.getD_eq_getElem?_getD, List.getD_eq_getElem?_getD, List.getElem?_map, List.getElem?_eq_getElem h]; rfl
theorem numsM_length (l : List Int) : (numsM l).length = l.length := by simp [numsM]
theorem numsM_small {l : List Int} (h : ∀ x ∈ l, I64 x) : ∀ s ∈ numsM l, s.size ≤ 20 := fun s hs => by
  obtain ⟨x, hx, rfl⟩ := List.mem_map.1 hs
  exact itoaB_size (h x hx)
theorem impl_numbersText_ok {l : List Int} (sep : ByteArray) (h : ∀ x ∈ l, I64 x) (hl : l.length ≤ 1048576) (hs : sep.size ≤ 100) : impl_numbersText l sep = some (joinB (numsM l) sep) := by
  have hn := numsM_length l
  have key : ∀ i, i ≤ l.length → impl_numbersText_L3 sep l (l.length : Int) (i : Int) ((numsM l).take i) = some (joinB (numsM l) sep) := down (by
      rw [impl_numbersText_L3_eq, if_dneg (by omega), List.take_of_length_le (by omega), strings_Join_ok (numsM_small h) (by
        have : (numsM l).length * (20 + sep.size) ≤ 1048576 * 120 := Nat.mul_le_mul (by omega) (by omega)
        omega) (by omega), Option.bind_some]) fun i hi ih => by
    rw [impl_numbersText_L3_eq, if_dpos (by omega), if_pos (by omega), if_pos (by omega), Int.toNat_natCast, impl_FormatInt_ok (h _ (getD_mem hi)), Option.bind_some, if_pos (by rw [List.length_take, List.length_singleton]; omega), wrap_succ hi (by omega), ← numsM_get hi, ← take_snoc (by omega)]
    exact ih
  rw [impl_numbersText_eq]
  exact key 0 (Nat.zero_le _)
/-- What was called, as texts. -/
def callB (c : Int) : ByteArray := if c = 0 then ByteArray.mk #[112] else itoaB c
def callsB (l : List Int) : List ByteArray := l.map callB
theorem callB_size {c : Int} (h : I64 c) : (callB c).size ≤ 20 := by
  unfold callB
  split
  · exact (by decide : (1 : Nat) ≤ 20)
  · exact itoaB_size h
theorem callsB_get {l : List Int} {i : Nat} (h : i < l.length) : (callsB l).getD i default = callB (l.getD i 0) := by
  rw [callsB, List.getD_eq_getElem?_getD, List.getD_eq_getElem?_getD, List.getElem?_map, List.getElem?_eq_getElem h]; rfl
theorem callsB_length (l : List Int) : (callsB l).length = l.length := by simp [callsB]
theorem callsB_small {l : List Int} (h : ∀ x ∈ l, I64 x) : ∀ s ∈ callsB l, s.size ≤ 20 := fun s hs => by
  obtain ⟨x, hx, rfl⟩ := List.mem_map.1 hs
  exact callB_size (h x hx)
def callsM (l : List Int) : ByteArray := if l.length = 0 then ByteArray.mk #[45] else joinB (callsB l) (ByteArray.mk #[32])
theorem impl_CallsText_ok {l : List Int} (h : ∀ x ∈ l, I64 x) (hl : l.length ≤ 1048576) : impl_CallsText l = some (callsM l) := by
  have hn := callsB_length l
  rw [impl_CallsText_eq, callsM]
  by_cases h0 : l.length = 0
  · rw [if_epos (by omega), if_pos h0]
  rw [if_eneg (by omega), if_neg h0]
  have key : ∀ i, i ≤ l.length → impl_CallsText_L5 l (l.length : Int) (i : Int) ((callsB l).take i) = some (joinB (callsB l) (ByteArray.mk #[32])) := down (by
      rw [impl_CallsText_L5_eq, if_dneg (by omega), List.take_of_length_le (by omega), strings_Join_ok (callsB_small h) (by
        have : (callsB l).length * (20 + (ByteArray.mk #[32]).size) ≤ 1048576 * 21 := Nat.mul_le_mul (by omega) (by decide)
        omega) (by omega), Option.bind_some]) fun i hi ih => by
    rw [take_snoc (d := default) (by omega), callsB_get hi] at ih
    rw [impl_CallsText_L5_eq, if_dpos (by omega), if_pos (by omega), if_pos (by omega), Int.toNat_natCast, wrap_succ hi (by omega)]
    unfold callB at ih
    by_cases c : l.getD i 0 = 0
    · rw [if_pos c] at ih
      rw [if_epos c, if_pos (by rw [List.length_take, List.length_singleton]; omega)]
      exact ih
    · rw [if_neg c] at ih
      rw [if_eneg c, impl_FormatInt_ok (h _ (getD_mem hi)), Option.bind_some, if_pos (by rw [List.length_take, List.length_singleton]; omega)]
      exact ih
  exact key 0 (Nat.zero_le _)
def cardText (c : Int) : ByteArray := ((ByteArray.mk #[50, 51, 52, 53, 54, 55, 56, 57, 84, 74, 81, 75, 65]).extract (c.tmod 13).toNat ((c.tmod 13) + 1).toNat) ++ ((ByteArray.mk #[99, 100, 104, 115]).extract (c.tdiv 13).toNat ((c.tdiv 13) + 1).toNat)
theorem cardText_size (c : Int) (h : 0 ≤ c) : (cardText c).size ≤ 2 := by
  unfold cardText
  rw [ByteArray.size_append, ByteArray.size_extract, ByteArray.size_extract, Int.tmod_eq_emod_of_nonneg h, Int.tdiv_eq_ediv_of_nonneg h]
  omega
theorem impl_CardText_ok (c : Int) (h : isC c = true) : impl_CardText c = some (cardText c) := by
  obtain ⟨h1, h2⟩ := isC_iff.1 h
  have e1 := Int.tmod_eq_emod_of_nonneg (b := 13) h1
  have e2 := Int.tdiv_eq_ediv_of_nonneg (b := 13) h1
  have w1 : IntKind.i64.wrap (c.tdiv 13) = c.tdiv 13 := wrap_id (by omega) (by omega)
  have w2 : IntKind.i64.wrap (c.tdiv 13 + 1) = c.tdiv 13 + 1 := wrap_id (by omega) (by omega)
  have w3 : IntKind.i64.wrap (c.tmod 13 + 1) = c.tmod 13 + 1 := wrap_id (by omega) (by omega)
  rw [impl_CardText_eq, impl_IsCard_ok, h, Option.bind_some, if_neg (by simp), w1, w2, w3]
  have z1 : (ByteArray.mk #[50, 51, 52, 53, 54, 55, 56, 57, 84, 74, 81, 75, 65]).size = 13 := rfl
  have z2 : (ByteArray.mk #[99, 100, 104, 115]).size = 4 := rfl
  have hsz := cardText_size c h1
  unfold cardText at hsz
  rw [ByteArray.size_append] at hsz
  rw [if_pos (by omega), if_pos (by omega), if_pos (by omega), if_pos (by omega), if_pos (by omega), if_pos (by omega), if_pos (by omega), if_pos (by omega), if_pos (by omega)]
  rfl
/-- A card as text; what is none has none. -/
def cardE (c : Int) : ByteArray := if isC c = true then cardText c else ByteArray.mk #[]
theorem cardE_size (c : Int) : (cardE c).size ≤ 2 := by
  unfold cardE
  split
  · rename_i h; exact cardText_size c (isC_iff.1 h).1
  · exact Nat.zero_le _
theorem impl_CardText_any (c : Int) : impl_CardText c = some (cardE c) := by
  unfold cardE
  by_cases h : isC c = true
  · rw [if_pos h]; exact impl_CardText_ok c h
  · rw [if_neg h, impl_CardText_eq, impl_IsCard_ok, Option.bind_some, if_pos (by simpa using h)]
/-- A card of a hand, as text. -/
def cardQ (c : Int) : ByteArray := if isC c = true then cardText c else ByteArray.mk #[63]
theorem cardQ_size (c : Int) : (cardQ c).size ≤ 2 := by
  unfold cardQ
  split
  · rename_i h; exact cardText_size c (isC_iff.1 h).1
  · exact (by decide : (1 : Nat) ≤ 2)
def cardsB (l : List Int) : ByteArray := l.foldl (fun s c => s ++ cardQ c) (ByteArray.mk #[])
def handB (l : List Int) : ByteArray := if l.length = 0 then ByteArray.mk #[45] else cardsB l
theorem cardsB_take {l : List Int} {i : Nat} (h : i < l.length) : cardsB (l.take (i + 1)) = cardsB (l.take i) ++ cardQ (l.getD i 0) := by
  unfold cardsB
  rw [foldl_take (d := 0) h]
theorem cardsB_size (l : List Int) : (cardsB l).size ≤ 2 * l.length := by
  have key : ∀ i, i ≤ l.length → (cardsB (l.take i)).size ≤ 2 * i := by
    intro i
    induction i with
    | zero => intro _; exact Nat.zero_le _
    | succ i ih =>
      intro hi
      have := ih (by omega)
      have := cardQ_size (l.getD i 0)
      rw [cardsB_take (by omega), ByteArray.size_append]; omega
  have := key l.length (Nat.le_refl _)
  rw [List.take_length] at this
  exact this
theorem handB_size (l : List Int) : (handB l).size ≤ 2 * l.length + 1 := by
  unfold handB
  have := cardsB_size l
  split
  · show 1 ≤ _; omega
  · omega
theorem impl_HandText_ok (l : List Int) (hl : l.length ≤ 2097152) : impl_HandText l = some (handB l) := by
  rw [impl_HandText_eq, impl_listText_eq, handB]
  by_cases h0 : l.length = 0
  · rw [if_epos (by omega), Option.bind_some, if_pos h0]
  rw [if_eneg (by omega), if_neg h0]
  have key : ∀ i, i ≤ l.length → impl_listText_L5 (-1) (ByteArray.mk #[63]) (cardsB (l.take i)) l (l.length : Int) (i : Int) = some (cardsB l) := down (by
      rw [impl_listText_L5_eq, if_dneg (by omega), List.take_length]) fun i hi ih => by
    have hs := cardsB_size (l.take i)
    rw [List.length_take] at hs
    have hq := cardQ_size (l.getD i 0)
    rw [cardsB_take hi] at ih
    rw [impl_listText_L5_eq, if_dpos (by omega), if_pos (by omega), if_pos (by omega), Int.toNat_natCast, impl_IsCard_ok, Option.bind_some, wrap_succ hi (by omega)]
    unfold cardQ at ih hq
    by_cases c : isC (l.getD i 0) = true
    · rw [if_pos c] at ih hq
      rw [if_pos c, impl_CardText_ok _ c, Option.bind_some, if_pos (by omega)]
      exact ih
    · rw [if_neg c] at ih hq
      rw [if_neg c]
      by_cases c2 : l.getD i 0 = -1
      · rw [if_epos c2, if_pos (by omega)]; exact ih
      · rw [if_eneg c2, if_pos (by omega)]; exact ih
  have := key 0 (Nat.zero_le _)
  have this : impl_listText_L5 (-1) (ByteArray.mk #[63]) (ByteArray.mk #[]) l (l.length : Int) 0 = some (cardsB l) := this
  rw [this]; rfl
/-- Numbers behind one another, each behind a blank. -/
def blanksB (s : ByteArray) (l : List Int) : ByteArray := l.foldl (fun s n => s ++ (ByteArray.mk #[32] ++ itoaB n)) s
theorem blanksB_take (s : ByteArray) {l : List Int} {i : Nat} (h : i < l.length) : blanksB s (l.take (i + 1)) = blanksB s (l.take i) ++ (ByteArray.mk #[32] ++ itoaB (l.getD i 0)) := by
  unfold blanksB
  rw [foldl_take (d := 0) h]
theorem blanksB_size (s : ByteArray) {l : List Int} (h : ∀ x ∈ l, I64 x) : ∀ i, i ≤ l.length → (blanksB s (l.take i)).size ≤ s.size + 21 * i := by
  intro i
  induction i with
  | zero => intro _; exact Nat.le_refl _
  | succ i ih =>
    intro hi
    have := ih (by omega)
    have := itoaB_size (h _ (getD_mem (d := 0) (by omega : i < l.length)))
    rw [blanksB_take s (by omega), ByteArray.size_append, ByteArray.size_append]
    have : (ByteArray.mk #[32]).size = 1 := rfl
    omega
def gameB (a0 a1 : Int) (a2 a3 : Bool) (a4 a5 : List Int) (a6 a7 : Int) (hs : List (List Int)) (st hp : List Int) (tu mo pa : Int) : ByteArray := if gameM a0 a1 a2 a3 a4 a5 a6 a7 hs st hp tu mo pa = true then blanksB (itoaB tu ++ ByteArray.mk #[58] ++ cardE (hp.getD (hp.length - 1) 0)) (lensM hs) ++ ByteArray.mk #[47] ++ itoaB (st.length : Int) else ByteArray.mk #[]
theorem lens_i64 {hs : List (List Int)} (h : G2 hs) : ∀ x ∈ lensM hs, I64 x := fun x hx => by
  obtain ⟨r, hr, rfl⟩ := List.mem_map.1 hx
  have := h.2 r hr
  exact ⟨by omega, by omega⟩
theorem lensM_get {hs : List (List Int)} {i : Nat} (h : i < hs.length) : (lensM hs).getD i 0 = ((hs.getD i []).length : Int) := by
  rw [lensM, List.getD_eq_getElem?_getD, List.getD_eq_getElem?_getD, List.getElem?_map, List.getElem?_eq_getElem h]; rfl
theorem impl_GameText_ok (a0 a1 : Int) (a2 a3 : Bool) (a4 a5 : List Int) (a6 a7 : Int) (hs : List (List Int)) (st hp : List Int) (tu mo pa : Int) (h4 : a4.length ≤ 1048576) (h5 : a5.length ≤ 1048576) (hh : G2 hs) (h9 : st.length ≤ 2097152) (h10 : hp.length ≤ 2097152) : impl_GameText a0 a1 a2 a3 a4 a5 a6 a7 hs st hp tu mo pa = some (gameB a0 a1 a2 a3 a4 a5 a6 a7 hs st hp tu mo pa) := by
  rw [impl_GameText_eq, impl_IsGame_ok a0 a1 a2 a3 a4 a5 a6 a7 hs st hp tu mo pa h4 h5 hh h9 h10, Option.bind_some, gameB]
  cases hg : gameM a0 a1 a2 a3 a4 a5 a6 a7 hs st hp tu mo pa with
  | false => rw [if_pos (by decide), if_neg (by decide)]
  | true =>
    have v := gameM_valid a0 a1 a2 a3 a4 a5 a6 a7 hs st hp tu mo pa hg
    have v1 := v.all; have v2 := v.players; have v3 := v.p2; have v4 := v.heap; have v5 := v.t1; have v6 := v.t2
    have z1 : (ByteArray.mk #[58]).size = 1 := rfl
    have z2 : (ByteArray.mk #[32]).size = 1 := rfl
    have z3 : (ByteArray.mk #[47]).size = 1 := rfl
    have ht : I64 tu := ⟨by omega, by omega⟩
    have hst : I64 (st.length : Int) := ⟨by omega, by omega⟩
    have s1 := itoaB_size ht
    have s2 := itoaB_size hst
    have s3 := cardE_size (hp.getD (hp.length - 1) 0)
    have w : IntKind.i64.wrap ((hp.length : Int) - 1) = ((hp.length - 1 : Nat) : Int) := by rw [wrap_id (by omega) (by omega)]; omega
    rw [if_neg (by decide), if_pos rfl, impl_FormatInt_ok ht, Option.bind_some, if_pos (by omega), w, if_pos (by omega), if_pos (by omega), Int.toNat_natCast, impl_CardText_any, Option.bind_some, if_pos (by rw [ByteArray.size_append]; omega)]
    generalize hs0 : itoaB tu ++ ByteArray.mk #[58] ++ cardE (hp.getD (hp.length - 1) 0) = s0
    have hz : s0.size ≤ 23 := by rw [← hs0, ByteArray.size_append, ByteArray.size_append]; omega
    have hl := lensM_length hs
    have key : ∀ i, i ≤ hs.length → impl_GameText_L5 (blanksB s0 ((lensM hs).take i)) hs (hs.length : Int) (i : Int) a0 a1 a2 a3 a4 a5 a6 a7 hs st hp tu mo pa = some (blanksB s0 (lensM hs) ++ ByteArray.mk #[47] ++ itoaB (st.length : Int)) := down (by
        have hb := blanksB_size s0 (lens_i64 hh) hs.length (by omega)
        rw [impl_GameText_L5_eq, if_dneg (by omega), if_pos (by omega), impl_FormatInt_ok hst, Option.bind_some, if_pos (by rw [ByteArray.size_append]; omega), List.take_of_length_le (by omega)]) fun i hi ih => by
      have hb := blanksB_size s0 (lens_i64 hh) i (by omega)
      have hr : I64 ((hs.getD i []).length : Int) := by rw [← lensM_get hi]; exact lens_i64 hh _ (getD_mem (by omega))
      have s4 := itoaB_size hr
      rw [impl_GameText_L5_eq, if_dpos (by omega), if_pos (by omega), if_pos (by omega), Int.toNat_natCast, impl_FormatInt_ok hr, Option.bind_some, if_pos (by omega), if_pos (by rw [ByteArray.size_append]; omega), wrap_succ hi (by omega), ← lensM_get hi, ← blanksB_take s0 (by omega)]
      exact ih
    exact key 0 (Nat.zero_le _)
def peekB (me : Int) (hand : List Int) (top : Int) (sz : List Int) : ByteArray := blanksB (itoaB me ++ ByteArray.mk #[58] ++ handB hand ++ ByteArray.mk #[32] ++ cardQ top) sz
theorem impl_PeekText_ok (a0 : Int) (a1 : List Int) (a2 a3 a4 : Int) (a5 : List Int) (a6 a7 : Int) (h0 : I64 a0) (h1 : a1.length ≤ 2097152) (h5 : a5.length ≤ 2097152) (hi5 : ∀ x ∈ a5, I64 x) : impl_PeekText a0 a1 a2 a3 a4 a5 a6 a7 = some (peekB a0 a1 a2 a5) := by
  have z1 : (ByteArray.mk #[58]).size = 1 := rfl
  have z2 : (ByteArray.mk #[32]).size = 1 := rfl
  have s1 := itoaB_size h0
  have s2 := handB_size a1
  have s3 := cardQ_size a2
  have key : ∀ s0 : ByteArray, s0.size ≤ 4194400 → impl_PeekText_L6 s0 a5 (a5.length : Int) 0 = some (blanksB s0 a5) := fun s0 hz => by
    have key : ∀ i, i ≤ a5.length → impl_PeekText_L6 (blanksB s0 (a5.take i)) a5 (a5.length : Int) (i : Int) = some (blanksB s0 a5) := down (by
        rw [impl_PeekText_L6_eq, if_dneg (by omega), List.take_length]) fun i hi ih => by
      have hb := blanksB_size s0 hi5 i (by omega)
      have hr := hi5 _ (getD_mem (d := 0) hi)
      have s4 := itoaB_size hr
      rw [impl_PeekText_L6_eq, if_dpos (by omega), if_pos (by omega), if_pos (by omega), Int.toNat_natCast, impl_FormatInt_ok hr, Option.bind_some, if_pos (by omega), if_pos (by rw [ByteArray.size_append]; omega), wrap_succ hi (by omega), ← blanksB_take s0 hi]
      exact ih
    exact key 0 (Nat.zero_le _)
  rw [impl_PeekText_eq, impl_IsCard_ok, Option.bind_some, peekB]
  unfold cardQ at s3 ⊢
  by_cases c : isC a2 = true
  · rw [if_pos c] at s3 ⊢
    rw [if_pos c, impl_CardText_ok _ c, Option.bind_some, impl_FormatInt_ok h0, Option.bind_some, if_pos (by omega), impl_HandText_ok _ h1, Option.bind_some, if_pos (by rw [ByteArray.size_append]; omega), if_pos (by rw [ByteArray.size_append, ByteArray.size_append]; omega), if_pos (by rw [ByteArray.size_append, ByteArray.size_append, ByteArray.size_append]; omega)]
    exact key _ (by rw [ByteArray.size_append, ByteArray.size_append, ByteArray.size_append, ByteArray.size_append]; omega)
  · rw [if_neg c] at s3 ⊢
    rw [if_neg c, impl_FormatInt_ok h0, Option.bind_some, if_pos (by omega), impl_HandText_ok _ h1, Option.bind_some, if_pos (by rw [ByteArray.size_append]; omega), if_pos (by rw [ByteArray.size_append, ByteArray.size_append]; omega), if_pos (by rw [ByteArray.size_append, ByteArray.size_append, ByteArray.size_append]; omega)]
    exact key _ (by rw [ByteArray.size_append, ByteArray.size_append, ByteArray.size_append, ByteArray.size_append]; omega)
theorem toList_nil (s : ByteArray) (h : s.size ≠ 0) : (s.toList == (ByteArray.mk #[]).toList) = false := by
  rw [beq_eq_false_iff_ne]
  intro e
  have e := congrArg List.length e
  rw [ByteArray.toList_eq, ByteArray.toList_eq] at e
  exact h (by rw [ByteArray.size, ← Array.length_toList, e]; rfl)
/-- A round of a sheet; a sheet. -/
def roundM (p : Int) (l : List Int) : Bool := inR p 2 6 && (decide ((l.length : Int) = p) && (l.all (fun x => inR x (-1000) 1000) && decide (l.sum = 0)))
def sheetM (p : Int) (rs : List (List Int)) : Bool := rs.all (roundM p) && (inR p 2 6 && decide (rs.length ≤ 50))
theorem sum_small (l : List Int) (h : ∀ x ∈ l, -1000 ≤ x ∧ x ≤ 1000) : ∀ i, i ≤ l.length → -(1000 * (i : Int)) ≤ (l.take i).sum ∧ (l.take i).sum ≤ 1000 * (i : Int) := by
  intro i
  induction i with
  | zero => intro _; rw [List.take_zero]; exact ⟨by show -(1000 * 0) ≤ (0 : Int); omega, by show (0 : Int) ≤ 1000 * 0; omega⟩
  | succ i ih =>
    intro hi
    have := ih (by omega)
    have := h _ (getD_mem (d := 0) (by omega : i < l.length))
    rw [take_succ_getD (d := 0) (by omega), List.sum_append, List.sum_singleton]
    omega
theorem in1000 {l : List Int} (h : l.all (fun x => inR x (-1000) 1000) = true) : ∀ x ∈ l, -1000 ≤ x ∧ x ≤ 1000 := fun x hx => by
  have := List.all_eq_true.1 h x hx
  simpa [inR] using this
theorem sumW_is {l : List Int} (hl : l.length ≤ 2097152) (h : ∀ x ∈ l, -1000 ≤ x ∧ x ≤ 1000) : sumW l = l.sum := by
  have key : ∀ i, i ≤ l.length → sumW (l.take i) = (l.take i).sum := by
    intro i
    induction i with
    | zero => intro _; rfl
    | succ i ih =>
      intro hi
      have h1 := ih (by omega)
      have h2 := sum_small l h (i + 1) hi
      rw [take_succ_getD (d := 0) (by omega), List.sum_append, List.sum_singleton] at h2 ⊢
      unfold sumW at h1 ⊢
      rw [List.foldl_append, h1, List.foldl_cons, List.foldl_nil, wrap_id (by omega) (by omega)]
  have := key l.length (Nat.le_refl _)
  rw [List.take_length] at this
  exact this
theorem impl_IsRound_ok (p : Int) (l : List Int) (hl : l.length ≤ 2097152) : impl_IsRound p l = some (roundM p l) := by
  rw [impl_IsRound_eq, impl_InRange_ok, Option.bind_some, roundM]
  cases h1 : inR p 2 6 with
  | false => rw [if_neg (by decide), Bool.false_and]
  | true =>
    rw [if_pos rfl, Bool.true_and]
    by_cases h2 : (l.length : Int) = p
    · rw [if_epos h2, decide_eq_true h2, Bool.true_and, impl_allIn_ok _ _ _ (by omega), Option.bind_some]
      cases h3 : l.all (fun x => inR x (-1000) 1000) with
      | false => rw [if_neg (by decide), Bool.false_and]
      | true =>
        rw [if_pos rfl, Bool.true_and, impl_sum_ok _ (by omega), Option.bind_some, sumW_is hl (in1000 h3)]
        congr 1
    · rw [if_eneg h2, decide_eq_false h2, Bool.false_and]
theorem impl_IsSheet_ok (p : Int) (rs : List (List Int)) (hh : G2 rs) : impl_IsSheet p rs = some (sheetM p rs) := by
  have hl := hh.len
  rw [impl_IsSheet_eq, sheetM]
  have key : ∀ i, i ≤ rs.length → impl_IsSheet_L2 p rs rs (rs.length : Int) (i : Int) = some ((rs.drop i).all (roundM p) && (inR p 2 6 && decide (rs.length ≤ 50))) := down (by
      rw [impl_IsSheet_L2_eq, if_dneg (by omega), impl_InRange_ok, Option.bind_some, List.drop_of_length_le (Nat.le_refl _), List.all_nil, Bool.true_and]
      cases h1 : inR p 2 6 with
      | false => rw [if_neg (by decide), Bool.false_and]
      | true =>
        rw [if_pos rfl, Bool.true_and]
        congr 1
        rw [Bool.eq_iff_iff, decide_eq_true_eq, decide_eq_true_eq]; omega) fun i hi ih => by
    have hr := hh.row _ (getD_mem (d := []) hi)
    rw [impl_IsSheet_L2_eq, if_dpos (by omega), if_pos (by omega), if_pos (by omega), Int.toNat_natCast, impl_IsRound_ok _ _ (by omega), Option.bind_some, wrap_succ hi (by omega), getD_drop (d := []) hi, List.all_cons]
    cases roundM p (rs.getD i []) with
    | false => rw [if_pos (by decide), Bool.false_and, Bool.false_and]
    | true => rw [if_neg (by decide), Bool.true_and]; exact ih
  exact key 0 (Nat.zero_le _)
theorem sheet_row {p : Int} {rs : List (List Int)} (h : sheetM p rs = true) {r : List Int} (hr : r ∈ rs) : (r.length : Int) = p := by
  rw [sheetM, Bool.and_eq_true, List.all_eq_true] at h
  have := h.1 r hr
  rw [roundM, Bool.and_eq_true, Bool.and_eq_true] at this
  exact of_decide_eq_true this.2.1
theorem sheet_p {p : Int} {rs : List (List Int)} (h : sheetM p rs = true) : 2 ≤ p ∧ p ≤ 6 := by
  rw [sheetM, Bool.and_eq_true, Bool.and_eq_true] at h
  simpa [inR] using h.2.1
def colM (rs : List (List Int)) (w : Nat) : List Int := rs.map fun r => r.getD w 0
theorem colM_get {rs : List (List Int)} {w i : Nat} (h : i < rs.length) : (colM rs w).getD i 0 = (rs.getD i []).getD w 0 := by
  rw [colM, List.getD_eq_getElem?_getD (l := rs.map _), List.getElem?_map, List.getElem?_eq_getElem h, List.getD_eq_getElem?_getD (l := rs), List.getElem?_eq_getElem h]; rfl
theorem colM_length (rs : List (List Int)) (w : Nat) : (colM rs w).length = rs.length := by simp [colM]
theorem sumW_take {l : List Int} {i : Nat} (h : i < l.length) : sumW (l.take (i + 1)) = IntKind.i64.wrap (sumW (l.take i) + l.getD i 0) := by
  unfold sumW
  rw [foldl_take (d := 0) h]
theorem impl_TotalOf_ok {p : Int} {rs : List (List Int)} (hh : G2 rs) (h : sheetM p rs = true) {w : Nat} (hw : (w : Int) < p) : impl_TotalOf p rs (w : Int) = some (sumW (colM rs w)) := by
  have hl := hh.len
  have hp := sheet_p h
  have hcl := colM_length rs w
  rw [impl_TotalOf_eq, impl_IsSheet_ok _ _ hh, Option.bind_some, h, if_neg (by decide), wrap_id (by omega) (by omega), impl_InRange_ok, Option.bind_some, show inR (w : Int) 0 (p - 1) = true by simp [inR]; omega, if_neg (by decide)]
  have key : ∀ i, i ≤ rs.length → impl_TotalOf_L5 (w : Int) (sumW ((colM rs w).take i)) rs (rs.length : Int) (i : Int) = some (sumW (colM rs w)) := down (by
      rw [impl_TotalOf_L5_eq, if_dneg (by omega), List.take_of_length_le (by omega)]) fun i hi ih => by
    have hr := sheet_row h (getD_mem (d := []) hi)
    rw [impl_TotalOf_L5_eq, if_dpos (by omega), if_pos (by omega), if_pos (by omega), Int.toNat_natCast, if_pos (by omega), if_pos (by omega), Int.toNat_natCast, wrap_succ hi (by omega), ← colM_get hi, ← sumW_take (by omega)]
    exact ih
  exact key 0 (Nat.zero_le _)
def totalsM (p : Nat) (rs : List (List Int)) : List Int := (List.range p).map fun w => sumW (colM rs w)
theorem totalsM_get {p i : Nat} (rs : List (List Int)) (h : i < p) : (totalsM p rs).getD i 0 = sumW (colM rs i) := by
  rw [totalsM, List.getD_eq_getElem?_getD, List.getElem?_map, List.getElem?_range h]; rfl
theorem totalsM_length (p : Nat) (rs : List (List Int)) : (totalsM p rs).length = p := by simp [totalsM]
theorem sumW_i64 (l : List Int) : I64 (sumW l) := by
  have key : ∀ (l : List Int) (n : Int), I64 n → I64 (l.foldl (fun n x => IntKind.i64.wrap (n + x)) n) := by
    intro l
    induction l with
    | nil => intro n h; exact h
    | cons c l ih => intro n _; refine ih _ ?_; show I64 (IntKind.i64.wrap (n + c)); rw [IntKind.wrap_i64]; exact ⟨by omega, by omega⟩
  exact key l 0 ⟨by omega, by omega⟩
theorem totals_i64 (p : Nat) (rs : List (List Int)) : ∀ x ∈ totalsM p rs, I64 x := fun x hx => by
  obtain ⟨w, _, rfl⟩ := List.mem_map.1 hx
  exact sumW_i64 _
def sheetB (p : Int) (rs : List (List Int)) : ByteArray := if sheetM p rs = true then joinB (numsM (totalsM p.toNat rs)) (ByteArray.mk #[32]) else ByteArray.mk #[]
theorem impl_SheetText_ok (p : Int) (rs : List (List Int)) (hh : G2 rs) : impl_SheetText p rs = some (sheetB p rs) := by
  rw [impl_SheetText_eq, impl_IsSheet_ok _ _ hh, Option.bind_some, sheetB]
  cases h : sheetM p rs with
  | false => rw [if_pos (by decide), if_neg (by decide)]
  | true =>
    have hp := sheet_p h
    obtain ⟨q, rfl⟩ : ∃ q : Nat, p = (q : Int) := ⟨p.toNat, by omega⟩
    have hn := totalsM_length q rs
    rw [if_neg (by decide), if_pos rfl, Int.toNat_natCast]
    have key : ∀ i, i ≤ q → impl_SheetText_L5 (q : Int) rs (q : Int) (i : Int) ((totalsM q rs).take i) = some (joinB (numsM (totalsM q rs)) (ByteArray.mk #[32])) := down (by
        rw [impl_SheetText_L5_eq, if_dneg (by omega), List.take_of_length_le (by omega), impl_numbersText_ok _ (totals_i64 q rs) (by omega) (by decide), Option.bind_some]) fun i hi ih => by
      rw [impl_SheetText_L5_eq, if_dpos (by omega), impl_TotalOf_ok hh h (by omega), Option.bind_some, if_pos (by rw [List.length_take, List.length_singleton]; omega), wrap_succ hi (by omega), ← totalsM_get rs hi, ← take_succ_getD (by omega)]
      exact ih
    exact key 0 (Nat.zero_le _)
theorem repB_size (s : ByteArray) (n : Nat) : (repB s n).size = n * s.size := by
  show (mkB (Lib.repeatL s.data.toList n)).size = _
  rw [mkB_size, Lib.repeatL_length, Array.length_toList]; rfl
/-- A pile as text. -/
def pileB (x : List Int × Int) : ByteArray := repB (ByteArray.mk #[35]) x.2.toNat ++ handB (x.1.drop x.2.toNat)
def pilesB (ps : List (List Int × Int)) : List ByteArray := ps.map pileB
theorem pilesB_get {ps : List (List Int × Int)} {i : Nat} (h : i < ps.length) : (pilesB ps).getD i default = pileB (ps.getD i ([], 0)) := by
  rw [pilesB, List.getD_eq_getElem?_getD, List.getD_eq_getElem?_getD, List.getElem?_map, List.getElem?_eq_getElem h]; rfl
theorem pilesB_length (ps : List (List Int × Int)) : (pilesB ps).length = ps.length := by simp [pilesB]
/-- What is known of a pile of a game. -/
def PileIs (x : List Int × Int) : Prop := x.1.length ≤ 2097152 ∧ 0 ≤ x.2 ∧ x.2 ≤ (x.1.length : Int)
theorem pileB_size {x : List Int × Int} (h : PileIs x) : (pileB x).size ≤ 8388608 := by
  obtain ⟨h1, h2, h3⟩ := h
  have := handB_size (x.1.drop x.2.toNat)
  rw [List.length_drop] at this
  have z : (ByteArray.mk #[35]).size = 1 := rfl
  unfold pileB
  rw [ByteArray.size_append, repB_size, z]
  omega
def patienceB (ps : List (List Int × Int)) (b st wa : List Int) : ByteArray := if patM ps b st wa = true then joinB (pilesB ps) (ByteArray.mk #[32]) ++ ByteArray.mk #[32, 91] ++ joinB (numsM b) (ByteArray.mk #[44]) ++ ByteArray.mk #[93, 32] ++ itoaB (st.length : Int) ++ ByteArray.mk #[43] ++ itoaB (wa.length : Int) else ByteArray.mk #[]
theorem pat_facts (ps : List (List Int × Int)) (b st wa : List Int) (hh : G3 ps) (hb : b.length ≤ 2097152) (h9 : st.length ≤ 2097152) (h10 : wa.length ≤ 2097152) (h : patM ps b st wa = true) : (ps.length ≤ 7) ∧ (∀ x ∈ ps, PileIs x) ∧ b.length = 4 ∧ ∀ x ∈ b, I64 x := by
  rw [patM, Bool.and_eq_true, Bool.and_eq_true, Bool.and_eq_true] at h
  obtain ⟨h1, h2, h3, _⟩ := h
  have h1 : 1 ≤ (ps.length : Int) ∧ (ps.length : Int) ≤ 7 := by simpa [inR] using h1
  refine ⟨by omega, fun x hx => ?_, baseM_len h2, fun x hx => ?_⟩
  · have := List.all_eq_true.1 h3 x hx
    rw [okP, Bool.and_eq_true, pileM, Bool.and_eq_true, Bool.and_eq_true] at this
    have hr : 0 ≤ x.2 ∧ x.2 ≤ (x.1.length : Int) := by simpa [inR] using this.1.2.1
    exact ⟨Nat.le_trans (hh.row x hx) (by omega), hr.1, hr.2⟩
  · rw [baseM, Bool.and_eq_true, List.all_eq_true] at h2
    have : 0 ≤ x ∧ x ≤ 13 := by simpa [inR] using h2.1 x hx
    exact ⟨by omega, by omega⟩
theorem impl_PatienceText_ok (ps : List (List Int × Int)) (b st wa : List Int) (hh : G3 ps) (hb : b.length ≤ 2097152) (h9 : st.length ≤ 2097152) (h10 : wa.length ≤ 2097152) : impl_PatienceText ps b st wa = some (patienceB ps b st wa) := by
  rw [impl_PatienceText_eq, impl_IsPatience_ok ps b st wa hh hb h9 h10, Option.bind_some, patienceB]
  cases h : patM ps b st wa with
  | false => rw [if_pos (by decide), if_neg (by decide)]
  | true =>
    obtain ⟨f1, f2, f3, f4⟩ := pat_facts ps b st wa hh hb h9 h10 h
    have hst : I64 (st.length : Int) := ⟨by omega, by omega⟩
    have hwa : I64 (wa.length : Int) := ⟨by omega, by omega⟩
    have s1 := itoaB_size hst
    have s2 := itoaB_size hwa
    have hn := pilesB_length ps
    have hb2 := numsM_length b
    have hsm : ∀ x ∈ pilesB ps, x.size ≤ 8388608 := fun x hx => by
      obtain ⟨y, hy, rfl⟩ := List.mem_map.1 hx
      exact pileB_size (f2 y hy)
    have z0 : (ByteArray.mk #[32]).size = 1 := rfl
    have z1 : (ByteArray.mk #[32, 91]).size = 2 := rfl
    have z2 : (ByteArray.mk #[93, 32]).size = 2 := rfl
    have z3 : (ByteArray.mk #[43]).size = 1 := rfl
    have z4 : (ByteArray.mk #[44]).size = 1 := rfl
    have z5 : (ByteArray.mk #[35]).size = 1 := rfl
    have j1 := joinB_size 8388608 (ByteArray.mk #[32]) (pilesB ps) hsm
    have j2 := joinB_size 20 (ByteArray.mk #[44]) (numsM b) (numsM_small f4)
    have j1' : (joinB (pilesB ps) (ByteArray.mk #[32])).size ≤ 7 * 8388609 := Nat.le_trans j1 (Nat.mul_le_mul (by omega) (by omega))
    have j2' : (joinB (numsM b) (ByteArray.mk #[44])).size ≤ 4 * 21 := Nat.le_trans j2 (Nat.mul_le_mul (by omega) (by omega))
    rw [if_neg (by decide), if_pos rfl]
    have key : ∀ i, i ≤ ps.length → impl_PatienceText_L5 ps (ps.length : Int) (i : Int) ps b st wa ((pilesB ps).take i) = some (joinB (pilesB ps) (ByteArray.mk #[32]) ++ ByteArray.mk #[32, 91] ++ joinB (numsM b) (ByteArray.mk #[44]) ++ ByteArray.mk #[93, 32] ++ itoaB (st.length : Int) ++ ByteArray.mk #[43] ++ itoaB (wa.length : Int)) := down (by
        rw [impl_PatienceText_L5_eq, if_dneg (by omega), List.take_of_length_le (by omega), strings_Join_ok hsm (Nat.le_trans (Nat.mul_le_mul (by omega : (pilesB ps).length ≤ 7) (by omega : 8388608 + (ByteArray.mk #[32]).size ≤ 8388609)) (by omega)) (by omega), Option.bind_some, if_pos (by omega), impl_numbersText_ok _ f4 (by omega) (by decide), Option.bind_some, if_pos (by rw [ByteArray.size_append]; omega), if_pos (by rw [ByteArray.size_append, ByteArray.size_append]; omega), impl_FormatInt_ok hst, Option.bind_some, if_pos (by rw [ByteArray.size_append, ByteArray.size_append, ByteArray.size_append]; omega), if_pos (by rw [ByteArray.size_append, ByteArray.size_append, ByteArray.size_append, ByteArray.size_append]; omega), impl_FormatInt_ok hwa, Option.bind_some, if_pos (by rw [ByteArray.size_append, ByteArray.size_append, ByteArray.size_append, ByteArray.size_append, ByteArray.size_append]; omega)]) fun i hi ih => by
      obtain ⟨g1, g2, g3⟩ := f2 _ (getD_mem (d := ([], 0)) hi)
      have hsz := pileB_size ⟨g1, g2, g3⟩
      rw [take_snoc (d := default) (by omega), pilesB_get hi, pileB] at ih
      rw [pileB, ByteArray.size_append] at hsz
      rw [impl_PatienceText_L5_eq, if_dpos (by omega), if_pos (by omega), if_pos (by omega), Int.toNat_natCast, strings_Repeat_eq, repC, if_pos g2, if_pos (by omega), if_pos (by rw [z5]; omega), Option.bind_some, if_pos g2, if_pos (by omega), List.take_length, impl_HandText_ok _ (by rw [List.length_drop]; omega), Option.bind_some, if_pos (by omega), if_pos (by rw [List.length_take, List.length_singleton]; omega), wrap_succ hi (by omega)]
      exact ih
    exact key 0 (Nat.zero_le _)
def SmR (l : List (List Int)) : Prop := l.length ≤ 1000 ∧ ∀ r ∈ l, r.length ≤ 1000
theorem SmR.nil : SmR [] := ⟨Nat.zero_le _, fun r h => by cases h⟩
theorem SmR.one {r : List Int} (h : r.length ≤ 1000) : SmR [r] := ⟨by show 1 ≤ 1000; omega, fun q hq => by rw [List.mem_singleton.1 hq]; exact h⟩
theorem SmR.g2 {l : List (List Int)} (h : SmR l) : G2 l := ⟨by have := h.1; omega, fun r hr => by have := h.2 r hr; omega⟩
theorem FromTricks_tot (l : List Int) (hl : l.length ≤ 1000) : Tot (spec_FromTricks l) (fun r => r.length ≤ 1000) := by
  have k2 : ∀ n : Int, ∀ i, i ≤ l.length → ∀ r : List Int, r.length ≤ i → Tot (spec_FromTricks_L10 l n (i : Int) r) (fun r => r.length ≤ 1000) := fun n => down (by
      intro r hr
      rw [spec_FromTricks_L10_eq, if_dneg (by omega)]
      exact Tot.ret (by omega)) fun i hi ih r hr => by
    rw [spec_FromTricks_L10_eq, if_dpos (by omega), spec_l1In_ok, Option.bind_some]
    refine Tot.ite (fun _ => ?_) fun _ => Tot.ret (by omega)
    refine Tot.guard (by omega) (Tot.guard (by omega) (Tot.guard (by rw [List.length_singleton]; omega) ?_))
    rw [wrap_succ hi (by omega)]
    exact ih _ (by rw [List.length_append, List.length_singleton]; omega)
  have k1 : ∀ i, i ≤ l.length → ∀ n : Int, Tot (spec_FromTricks_L3 l n (i : Int)) (fun r => r.length ≤ 1000) := down (by
      intro n
      rw [spec_FromTricks_L3_eq, if_dneg (by omega)]
      exact k2 n 0 (Nat.zero_le _) [] (Nat.le_refl _)) fun i hi ih n => by
    rw [spec_FromTricks_L3_eq, if_dpos (by omega)]
    refine Tot.guard (by omega) (Tot.guard (by omega) ?_)
    rw [spec_l1In_ok, Option.bind_some]
    refine Tot.ite (fun _ => Tot.ret (Nat.zero_le _)) fun _ => Tot.guard (by omega) (Tot.guard (by omega) ?_)
    rw [wrap_succ hi (by omega)]
    exact ih _
  rw [spec_FromTricks_eq]
  exact k1 0 (Nat.zero_le _) 0
theorem l15Round_tot {c : List Int × Int × Int} (hc : Cur c) (n : Int) (hn : n ≤ 6) : Tot (spec_l15Round c n) (fun r => Cur r.2 ∧ r.1.length ≤ 1000) := by
  have key : ∀ d i : Nat, ∀ (b0 : List Int) (b1 b2 : Int) (r : List Int), Cur (b0, b1, b2) → r.length ≤ i → max 0 n - (i : Int) = (d : Int) → Tot (spec_l15Round_L3 n (i : Int) b0 b1 b2 r) (fun r => Cur r.2 ∧ r.1.length ≤ 1000) := by
    intro d
    induction d with
    | zero =>
      intro i b0 b1 b2 r hb hr hd
      rw [spec_l15Round_L3_eq, if_dneg (by omega)]
      exact Tot.bind (FromTricks_tot r (by omega)) fun s hs => Tot.ret ⟨hb, hs⟩
    | succ d ih =>
      intro i b0 b1 b2 r hb hr hd
      rw [spec_l15Round_L3_eq, if_dpos (by omega)]
      refine Tot.bind (l1Below_tot hb _) fun s ⟨hs, _⟩ => Tot.guard (by rw [List.length_singleton]; omega) ?_
      have w : IntKind.i64.wrap ((i : Int) + 1) = ((i + 1 : Nat) : Int) := by rw [wrap_id (by omega) (by omega)]; omega
      rw [w]
      exact ih (i + 1) _ _ _ _ hs (by rw [List.length_append, List.length_singleton]; omega) (by omega)
  rw [spec_l15Round_eq]
  exact key (max 0 n).toNat 0 _ _ _ [] hc (Nat.zero_le _) (by omega)
theorem spec_CardsHeld_ok (a0 a1 : Int) (a2 a3 : Bool) (a4 a5 : List Int) (a6 a7 : Int) (hs : List (List Int)) (st hp : List Int) (tu mo pa : Int) (hl : hs.length ≤ 2097152) : spec_CardsHeld a0 a1 a2 a3 a4 a5 a6 a7 hs st hp tu mo pa = some (lensM hs) := by
  have h : ∀ i, i ≤ hs.length → spec_CardsHeld_L3 i a0 a1 a2 a3 a4 a5 a6 a7 hs st hp tu mo pa (lensM (hs.take i)) = some (lensM hs) := down (by
      rw [spec_CardsHeld_L3_eq]
      simp (disch := (first | omega | (simp only [List.length_append, List.length_cons, List.length_nil, List.length_take, List.length_drop, List.length_set, List.length_replicate, List.length_singleton]; omega))) only [↓if_dpos, ↓if_dneg, ↓if_epos, ↓if_eneg, ↓if_npos, ↓if_nneg, ↓if_pos, ↓if_neg, Int.toNat_natCast, List.nil_append, Nat.zero_add, List.length_singleton, Option.bind_some, List.drop_zero, List.take_length, if_true, if_false, ]) fun i hi ih => by
    have hk : (lensM (hs.take i)).length ≤ i := by unfold lensM; simp; omega
    have hil : (i : Int) < (hs.length : Int) := by omega
    have hw : IntKind.i64.wrap ((i : Int) + 1) = ((i + 1 : Nat) : Int) := wrap_succ hi (by omega)
    rw [spec_CardsHeld_L3_eq]
    simp (disch := (first | omega | (simp only [List.length_append, List.length_cons, List.length_nil, List.length_take, List.length_drop, List.length_set, List.length_replicate, List.length_singleton]; omega))) only [↓if_dpos, ↓if_dneg, ↓if_epos, ↓if_eneg, ↓if_npos, ↓if_nneg, ↓if_pos, ↓if_neg, hw, Int.toNat_natCast, List.nil_append, Nat.zero_add, List.length_singleton, Option.bind_some, List.drop_zero, List.take_length, if_true, if_false, ]
    rw [← ih]
    unfold lensM
    rw [map_take (d := []) hi]
  rw [spec_CardsHeld_eq]
  exact h 0 (Nat.zero_le _)
def peekM (a0 a1 : Int) (a2 a3 : Bool) (a4 a5 : List Int) (a6 a7 : Int) (hs : List (List Int)) (st hp : List Int) (tu mo pa : Int) (me : Int) : Int × List Int × Int × Int × Int × List Int × Int × Int × Bool :=
  if (gameM a0 a1 a2 a3 a4 a5 a6 a7 hs st hp tu mo pa && inR me 0 ((hs.length : Int) - 1)) = true then (me, sortM (hs.getD me.toNat []), hp.getD (hp.length - 1) 0, (hp.length : Int), (st.length : Int), lensM hs, tu, mo, true) else (0, [], 0, 0, 0, [], 0, 0, false)
theorem spec_PeekOf_ok (a0 a1 : Int) (a2 a3 : Bool) (a4 a5 : List Int) (a6 a7 : Int) (hs : List (List Int)) (st hp : List Int) (tu mo pa : Int) (me : Int) (h4 : a4.length ≤ 1048576) (h5 : a5.length ≤ 1048576) (hh : G2 hs) (h9 : st.length ≤ 2097152) (h10 : hp.length ≤ 2097152) : spec_PeekOf a0 a1 a2 a3 a4 a5 a6 a7 hs st hp tu mo pa me = some (peekM a0 a1 a2 a3 a4 a5 a6 a7 hs st hp tu mo pa me) := by
  have hl := hh.len
  have hw : IntKind.i64.wrap ((hs.length : Int) - 1) = (hs.length : Int) - 1 := wrap_id (by omega) (by omega)
  rw [spec_PeekOf_eq, spec_IsGame_ok a0 a1 a2 a3 a4 a5 a6 a7 hs st hp tu mo pa h4 h5 hh h9 h10, Option.bind_some, hw, spec_l1In_ok, peekM]
  cases hg : gameM a0 a1 a2 a3 a4 a5 a6 a7 hs st hp tu mo pa
  · rfl
  · have v := (gameM_valid a0 a1 a2 a3 a4 a5 a6 a7 hs st hp tu mo pa hg).heap
    cases hm : inR me 0 ((hs.length : Int) - 1)
    · rfl
    · have hm := hm; simp [inR] at hm
      have hrow := hh.at' (i := me.toNat)
      have hw2 : IntKind.i64.wrap ((hp.length : Int) - 1) = ((hp.length - 1 : Nat) : Int) := by rw [wrap_id (by omega) (by omega)]; omega
      simp only [Bool.and_self, if_true]
      simp (disch := (first | omega | (simp only [List.length_append, List.length_cons, List.length_nil, List.length_take, List.length_drop, List.length_set, List.length_replicate, List.length_singleton]; omega))) only [↓if_dpos, ↓if_dneg, ↓if_epos, ↓if_eneg, ↓if_npos, ↓if_nneg, ↓if_pos, ↓if_neg, Int.toNat_natCast, List.nil_append, Nat.zero_add, List.length_singleton, Option.bind_some, List.drop_zero, List.take_length, if_true, if_false, Bool.not_true, Bool.false_eq_true, hw2, spec_Sorted_ok, spec_CardsHeld_ok, if_false]
theorem l15Any_tot {c : List Int × Int × Int} (hc : Cur c) : Tot (spec_l15Any c) (fun r => SmR r.2.1) := by
  rw [spec_l15Any_eq]
  refine Tot.bind (l1Below_tot hc _) fun r ⟨hr, r1, r2, _⟩ => Tot.bind (l1Below_tot hr _) fun s ⟨hs, s1, s2, _⟩ => ?_
  have r2 := r2 (by decide)
  have s2 := s2 (by decide)
  have key : ∀ i : Nat, i ≤ 6 → ∀ (b0 : List Int) (b1 b2 : Int) (l : List (List Int)), Cur (b0, b1, b2) → l.length + i ≤ 6 → (∀ r ∈ l, r.length ≤ 1000) → Tot (spec_l15Any_L4 (IntKind.i64.wrap (2 + r.1)) (i : Int) b0 b1 b2 l) (fun r => SmR r.2.1) := by
    intro i
    induction i with
    | zero =>
      intro _ b0 b1 b2 l hb hl hr
      have one : ∀ x : List Int, x.length ≤ 1000 → SmR (l ++ [x]) := fun x hx => ⟨by rw [List.length_append, List.length_singleton]; omega, fun q hq => by
        rcases List.mem_append.1 hq with h | h
        · exact hr q h
        · rw [List.mem_singleton.1 h]; exact hx⟩
      rw [spec_l15Any_L4_eq, if_dneg (by omega)]
      refine Tot.bind (l1Below_tot hb _) fun s ⟨hs, _⟩ => Tot.ite (fun _ => ?_) fun _ => Tot.ite (fun _ => ?_) fun _ => Tot.ite (fun _ => ?_) fun _ => ?_
      · exact Tot.bind (l1Int_tot hs (Nat.zero_lt_succ _)) fun t ht => Tot.ret ⟨by show l.length ≤ _; omega, hr⟩
      · exact Tot.guard (by rw [List.length_singleton]; omega) (Tot.ret (one _ (by decide)))
      · exact Tot.guard (by rw [List.length_singleton]; omega) (Tot.ret (one _ (by decide)))
      · exact Tot.ret ⟨by show l.length ≤ _; omega, hr⟩
    | succ i ih =>
      intro hi b0 b1 b2 l hb hl hr
      rw [spec_l15Any_L4_eq, if_dpos (by omega)]
      refine Tot.bind (l15Round_tot hb _ (by rw [wrap_id (by omega) (by omega)]; omega)) fun s ⟨hs, s1⟩ => Tot.guard (by rw [List.length_singleton]; omega) ?_
      rw [wrap_id (x := ((i + 1 : Nat) : Int) - 1) (by omega) (by omega), show ((i + 1 : Nat) : Int) - 1 = (i : Int) by omega]
      exact ih (by omega) _ _ _ _ hs (by rw [List.length_append, List.length_singleton]; omega) (fun q hq => by
        rcases List.mem_append.1 hq with h | h
        · exact hr q h
        · rw [List.mem_singleton.1 h]; exact s1)
  have := key s.1.toNat (by omega) s.2.1 s.2.2.1 s.2.2.2 [] hs (by show 0 + _ ≤ _; omega) (fun q hq => by cases hq)
  rw [show ((s.1.toNat : Nat) : Int) = s.1 by omega] at this
  exact this
theorem DrawSheetText_tot {a : List Int} (ha : a.length ≤ 1048576) : Tot (spec_DrawSheetText a) (fun r => SmR r.2) := by
  rw [spec_DrawSheetText_eq, spec_DrawIsSheet_eq]
  exact Tot.bind (Q := fun r => SmR r.2) (Tot.bind (l1New_tot ha) fun c hc => Tot.bind (l15Any_tot hc) fun r hr => Tot.ret hr) fun r hr => Tot.ret hr
/-- Few calls, all of them small. -/
def SmC (l : List Int) : Prop := ∀ x ∈ l, -1 ≤ x ∧ x ≤ 36
theorem sMax_tot (a b : Int) : spec_Max a b = some (if b > a then b else a) := by
  rw [spec_Max_eq]
  by_cases h : b > a
  · rw [if_dpos h, if_pos h]
  · rw [if_dneg h, if_neg h]
theorem HighBid_tot (l : List Int) (hl : l.length ≤ 1000) (h : SmC l) : Tot (spec_HighBid l) (fun n => 0 ≤ n ∧ n ≤ 36) := by
  rw [spec_HighBid_eq]
  have key : ∀ i, i ≤ l.length → ∀ n : Int, 0 ≤ n ∧ n ≤ 36 → Tot (spec_HighBid_L3 l n (i : Int)) (fun n => 0 ≤ n ∧ n ≤ 36) := down (by
      intro n hn; rw [spec_HighBid_L3_eq, if_dneg (by omega)]; exact Tot.ret hn) fun i hi ih n hn => by
    have hx := h _ (getD_mem (d := 0) hi)
    rw [spec_HighBid_L3_eq, if_dpos (by omega), if_pos (by omega), if_pos (by omega), Int.toNat_natCast, sMax_tot, Option.bind_some, wrap_succ hi (by omega)]
    exact ih _ (by split <;> omega)
  exact key 0 (Nat.zero_le _) 0 (by omega)
theorem CallsEnd_tot (p : Int) (l : List Int) (hl : l.length ≤ 1000) : Tot (spec_CallsEnd p l) (fun _ => True) := by
  rw [spec_CallsEnd_eq]
  have fin : ∀ n : Nat, Tot (if ((n : Int) == (l.length : Int)) = true then (if (decide (p ≥ 1)) = true then (some (decide ((n : Int) ≥ p))) else (some false)) else (if (decide ((n : Int) ≥ (IntKind.i64.wrap (p - 1)))) = true then (some (decide (p ≥ 1))) else (some false))) (fun _ => True) := fun n => by
    refine Tot.ite (fun _ => Tot.ite (fun _ => Tot.ret trivial) fun _ => Tot.ret trivial) fun _ => Tot.ite (fun _ => Tot.ret trivial) fun _ => Tot.ret trivial
  have key : ∀ i, i ≤ l.length → Tot (spec_CallsEnd_L2 p l (i : Int)) (fun _ => True) := down (by
      rw [spec_CallsEnd_L2_eq, if_dneg (by omega)]; exact fin _) fun i hi ih => by
    rw [spec_CallsEnd_L2_eq, if_dpos (by omega), wrap_id (x := (l.length : Int) - 1) (by omega) (by omega), wrap_id (x := (l.length : Int) - 1 - (i : Int)) (by omega) (by omega), if_pos (by omega), if_pos (by omega), wrap_succ hi (by omega)]
    exact Tot.ite (fun _ => ih) fun _ => fin _
  exact key 0 (Nat.zero_le _)
theorem IsCalls_tot (p : Int) (l : List Int) (hl : l.length ≤ 1000) (h : SmC l) : Tot (spec_IsCalls p l) (fun _ => True) := by
  rw [spec_IsCalls_eq]
  have key : ∀ i, i ≤ l.length → Tot (spec_IsCalls_L2 p l (i : Int)) (fun _ => True) := down (by
      rw [spec_IsCalls_L2_eq, if_dneg (by omega), spec_l1In_ok, Option.bind_some]; exact Tot.ret trivial) fun i hi ih => by
    have e : ((l.take i).drop 0).length ≤ 1000 := by rw [List.drop_zero, List.length_take]; omega
    have ce := CallsEnd_tot p _ e
    have hb := HighBid_tot _ e fun x hx => by rw [List.drop_zero] at hx; exact h x (List.mem_of_mem_take hx)
    rw [spec_IsCalls_L2_eq, if_dpos (by omega), if_pos (by omega), if_pos (by omega), Int.toNat_natCast, spec_l1In_ok, Option.bind_some, wrap_succ hi (by omega)]
    refine Tot.ite (fun _ => Tot.ret trivial) fun _ => Tot.guard (by omega) (Tot.guard (by omega) (Tot.dite (fun _ => ?_) fun _ => ?_))
    · exact Tot.guard (by omega) (Tot.guard (by omega) (Tot.guard (by omega) (Tot.guard (by omega) (Tot.bind hb fun n _ => Tot.dite (fun _ => Tot.ret trivial) fun _ => Tot.guard (by omega) (Tot.guard (by omega) (Tot.bind ce fun b _ => Tot.ite (fun _ => Tot.ret trivial) fun _ => ih))))))
    · exact Tot.guard (by omega) (Tot.guard (by omega) (Tot.bind ce fun b _ => Tot.ite (fun _ => Tot.ret trivial) fun _ => ih))
  exact key 0 (Nat.zero_le _)
theorem LegalCalls_tot (p : Int) (l : List Int) (hl : l.length ≤ 1000) (h : SmC l) : Tot (spec_LegalCalls p l) (fun r => r.length ≤ 1000 ∧ SmC r) := by
  have nil : SmC [] := fun x hx => by cases hx
  rw [spec_LegalCalls_eq]
  refine Tot.bind (IsCalls_tot p l hl h) fun b _ => Tot.ite (fun _ => Tot.ret ⟨Nat.zero_le _, nil⟩) fun _ => Tot.bind (CallsEnd_tot p l hl) fun b _ => Tot.ite (fun _ => Tot.ret ⟨Nat.zero_le _, nil⟩) fun _ => Tot.guard (by decide) (Tot.bind (HighBid_tot l hl h) fun n ⟨n1, n2⟩ => ?_)
  rw [wrap_id (by omega) (by omega)]
  have key : ∀ d : Nat, ∀ (x : Int) (r : List Int), 1 ≤ x → x ≤ 37 → 36 - x ≤ (d : Int) → r.length + d ≤ 100 → SmC r → Tot (spec_LegalCalls_L6 x r) (fun r => r.length ≤ 1000 ∧ SmC r) := by
    intro d
    induction d with
    | zero =>
      intro x r h1 h2 h3 h4 h5
      rw [spec_LegalCalls_L6_eq, if_dneg (by omega)]
      exact Tot.ret ⟨by omega, h5⟩
    | succ d ih =>
      intro x r h1 h2 h3 h4 h5
      rw [spec_LegalCalls_L6_eq]
      refine Tot.dite (fun hx => Tot.guard (by rw [List.length_singleton]; omega) ?_) fun _ => Tot.ret ⟨by omega, h5⟩
      rw [wrap_id (by omega) (by omega)]
      exact ih _ _ (by omega) (by omega) (by omega) (by rw [List.length_append, List.length_singleton]; omega) (fun y hy => by
        rcases List.mem_append.1 hy with e | e
        · exact h5 y e
        · rw [List.mem_singleton.1 e]; omega)
  exact key 36 (n + 1) _ (by omega) (by omega) (by omega) (by decide) (fun y hy => by
    have : y = 0 := by simpa using hy
    omega)
theorem l13Any_tot {c : List Int × Int × Int} (hc : Cur c) : Tot (spec_l13Any c) (fun r => r.2.1.length ≤ 1000 ∧ SmC r.2.1) := by
  rw [spec_l13Any_eq]
  refine Tot.bind (l1Below_tot hc _) fun r ⟨hr, r1, r2, _⟩ => Tot.bind (l1Below_tot hr _) fun s ⟨hs, s1, s2, _⟩ => ?_
  have s2 := s2 (by decide)
  generalize IntKind.i64.wrap (2 + r.1) = p
  have app : ∀ (l : List Int) (x : Int), SmC l → -1 ≤ x ∧ x ≤ 36 → SmC (l ++ [x]) := fun l x hl hx y hy => by
    rcases List.mem_append.1 hy with e | e
    · exact hl y e
    · rw [List.mem_singleton.1 e]; exact hx
  have fin : ∀ (b0 : List Int) (b1 b2 : Int) (l : List Int), Cur (b0, b1, b2) → l.length ≤ 10 → SmC l → Tot ((spec_l1Below ((b0, (b1, b2))) 10).bind fun c4 => (if (c4.1 == 0) = true then ((spec_l1Int ((c4.2.1, (c4.2.2.1, c4.2.2.2))) ([(-1), 1, 35, 36])).bind fun c5 => (if (l.length + ([c5.1]).length) * 8 ≤ 140737488355328 then (some ((p, (l ++ ([c5.1]), (c5.2.1, (c5.2.2.1, c5.2.2.2)))))) else none)) else (if (c4.1 == 1) = true then ((spec_l1Int ((c4.2.1, (c4.2.2.1, c4.2.2.2))) ([1, 4, 5, 0])).bind fun c6 => (some ((c6.1, (l, (c6.2.1, (c6.2.2.1, c6.2.2.2))))))) else (some ((p, (l, (c4.2.1, (c4.2.2.1, c4.2.2.2)))))))))
      (fun r : Int × List Int × List Int × Int × Int => r.2.1.length ≤ 1000 ∧ SmC r.2.1) := fun b0 b1 b2 l hb hl hsm => by
    refine Tot.bind (l1Below_tot hb _) fun s ⟨hs, _⟩ => Tot.ite (fun _ => ?_) fun _ => Tot.ite (fun _ => ?_) fun _ => ?_
    · refine Tot.bind (l1Int_tot hs (Nat.zero_lt_succ _)) fun t ⟨ht, tm⟩ => Tot.guard (by rw [List.length_singleton]; omega) (Tot.ret ⟨by show (l ++ [_]).length ≤ _; rw [List.length_append, List.length_singleton]; omega, app l _ hsm ?_⟩)
      simp only [List.mem_cons, List.not_mem_nil, or_false] at tm
      omega
    · exact Tot.bind (l1Int_tot hs (Nat.zero_lt_succ _)) fun t ⟨ht, tm⟩ => Tot.ret ⟨by show l.length ≤ _; omega, hsm⟩
    · exact Tot.ret ⟨by show l.length ≤ _; omega, hsm⟩
  have key : ∀ i : Nat, i ≤ 10 → ∀ (b0 : List Int) (b1 b2 : Int) (l : List Int), Cur (b0, b1, b2) → l.length + i ≤ 10 → SmC l → Tot (spec_l13Any_L4 p (i : Int) b0 b1 b2 l) (fun r => r.2.1.length ≤ 1000 ∧ SmC r.2.1) := by
    intro i
    induction i with
    | zero =>
      intro _ b0 b1 b2 l hb hl hsm
      rw [spec_l13Any_L4_eq, if_dneg (by omega)]
      exact fin b0 b1 b2 l hb (by omega) hsm
    | succ i ih =>
      intro hi b0 b1 b2 l hb hl hsm
      rw [spec_l13Any_L4_eq, if_dpos (by omega)]
      refine Tot.bind (LegalCalls_tot p l (by omega) hsm) fun q ⟨q1, q2⟩ => ?_
      by_cases h0 : (q.length : Int) = 0
      · rw [if_epos h0]; exact fin b0 b1 b2 l hb (by omega) hsm
      rw [if_eneg h0]
      have hw : IntKind.i64.wrap (((i + 1 : Nat) : Int) - 1) = (i : Int) := by rw [wrap_id (by omega) (by omega)]; omega
      rw [hw]
      refine Tot.bind (l1Once_tot hb _) fun t ht => Tot.ite (fun _ => ?_) fun _ => ?_
      · rw [spec_Min_eq]
        have hmin : ∀ m : Int, 0 < m → m ≤ (q.length : Int) → Tot ((spec_l1Below (t.2.1, (t.2.2.1, t.2.2.2)) m).bind fun c9 => (if 0 ≤ c9.1 then (if c9.1 < (q.length : Int) then (if (l.length + ([q.getD c9.1.toNat 0]).length) * 8 ≤ 140737488355328 then (spec_l13Any_L4 p (i : Int) c9.2.1 c9.2.2.1 c9.2.2.2 (l ++ ([q.getD c9.1.toNat 0]))) else none) else none) else none)) (fun r => r.2.1.length ≤ 1000 ∧ SmC r.2.1) := fun m m1 m2 => by
          refine Tot.bind (l1Below_tot ht _) fun u ⟨hu, u1, u2, _⟩ => ?_
          have u2 := u2 m1
          refine Tot.guard u1 (Tot.guard (by omega) (Tot.guard (by rw [List.length_singleton]; omega) ?_))
          exact ih (by omega) _ _ _ _ hu (by rw [List.length_append, List.length_singleton]; omega) (app l _ hsm (q2 _ (getD_mem (by omega))))
        by_cases h5 : (5 : Int) < (q.length : Int)
        · rw [if_dpos h5, Option.bind_some]; exact hmin 5 (by decide) (by omega)
        · rw [if_dneg h5, Option.bind_some]; exact hmin _ (by omega) (Int.le_refl _)
      · refine Tot.guard (by omega) (Tot.guard (by rw [List.length_singleton]; omega) ?_)
        exact ih (by omega) _ _ _ _ ht (by rw [List.length_append, List.length_singleton]; omega) (app l _ hsm (q2 _ (getD_mem (by omega))))
  have := key s.1.toNat (by omega) s.2.1 s.2.2.1 s.2.2.2 [] hs (by show 0 + _ ≤ _; omega) (fun q hq => by cases hq)
  rw [show ((s.1.toNat : Nat) : Int) = s.1 by omega] at this
  exact this
theorem DrawCallsText_tot {a : List Int} (ha : a.length ≤ 1048576) : Tot (spec_DrawCallsText a) (fun r => r.length ≤ 1000 ∧ SmC r) := by
  rw [spec_DrawCallsText_eq, spec_DrawHighBid_eq, spec_DrawIsCalls_eq]
  exact Tot.bind (Q := fun r => r.length ≤ 1000 ∧ SmC r) (Tot.bind (Q := fun r => r.2.length ≤ 1000 ∧ SmC r.2) (Tot.bind (l1New_tot ha) fun c hc => Tot.bind (l13Any_tot hc) fun r hr => Tot.ret hr) fun r hr => Tot.ret hr) fun r hr => Tot.ret hr
theorem DrawPatienceText_tot {a : List Int} (ha : a.length ≤ 1048576) : Tot (spec_DrawPatienceText a) (fun r => PH r.1 r.2.1 r.2.2.1 r.2.2.2) := by
  rw [spec_DrawPatienceText_eq]
  exact Tot.bind (DrawIsPatience_tot ha) fun r hr => Tot.ret hr
theorem DrawGameText_tot {a : List Int} (ha : a.length ≤ 1048576) : Tot (spec_DrawGameText a) (fun r => Sm 60 r.2.2.2.2.1 r.2.2.2.2.2.1 r.2.2.2.2.2.2.2.2.1 r.2.2.2.2.2.2.2.2.2.1 r.2.2.2.2.2.2.2.2.2.2.1) := by
  rw [spec_DrawGameText_eq]
  exact Tot.bind (DrawIsGame_tot ha) fun r hr => Tot.ret hr
end Go.Proofs.YtoioaijpdiglfaaGreatDoor.V
