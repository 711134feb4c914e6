/- Plain laws over the shapes. -/
import Derived.Test.YthppocflbgnjlaaDoorPPile
import Derived.Test.YthppocflbgnjlaaDoorFIsPatience
import Derived.Test.YthppocflbgnjlaaDoorFIsPile
import Derived.Test.YthppocflbgnjlaaDoorS1
import Derived.Test.YthppocflbgnjlaaDoorS3
set_option linter.unusedVariables false
set_option linter.unusedSimpArgs false
set_option maxRecDepth 10000
namespace Go.Proofs.YthppocflbgnjlaaDoor.V
open Go
def baseM (b : List Int) : Bool := b.all (fun x => inR x 0 13) && decide (b.length = 4)
theorem spec_IsBase_ok (b : List Int) (hl : b.length ≤ 4398046511104) : spec_IsBase b = some (baseM b) := by
  have h : ∀ i, i ≤ b.length → spec_IsBase_L2 b i = some ((b.drop i).all (fun x => inR x 0 13) && decide (b.length = 4)) := down (by
      rw [spec_IsBase_L2_eq]
      simp (disch := (first | omega | (simp only [List.length_append, List.length_cons, List.length_nil, List.length_take, List.length_drop, List.length_set, List.length_replicate, List.length_singleton]; omega))) only [↓if_dpos, ↓if_dneg, ↓if_epos, ↓if_eneg, ↓if_npos, ↓if_nneg, ↓if_pos, ↓if_neg, Int.toNat_natCast, List.nil_append, Nat.zero_add, List.length_singleton, Option.bind_some, List.drop_zero, List.take_length, if_true, if_false, ]
      rw [List.drop_of_length_le (Nat.le_refl _), List.all_nil, Bool.true_and]
      congr 1
      rw [Bool.eq_iff_iff]; simp; omega) fun i hi ih => by
    have hil : (i : Int) < (b.length : Int) := by omega
    have hw : IntKind.i64.wrap ((i : Int) + 1) = ((i + 1 : Nat) : Int) := wrap_succ hi (by omega)
    rw [spec_IsBase_L2_eq]
    simp (disch := (first | omega | (simp only [List.length_append, List.length_cons, List.length_nil, List.length_take, List.length_drop, List.length_set, List.length_replicate, List.length_singleton]; omega))) only [↓if_dpos, ↓if_dneg, ↓if_epos, ↓if_eneg, ↓if_npos, ↓if_nneg, ↓if_pos, ↓if_neg, hw, Int.toNat_natCast, List.nil_append, Nat.zero_add, List.length_singleton, Option.bind_some, List.drop_zero, List.take_length, if_true, if_false, spec_l1In_ok, ih]
    rw [getD_drop (d := 0) hi, List.all_cons]
    cases inR (b.getD i 0) 0 13 <;> rfl
  rw [spec_IsBase_eq]
  exact h 0 (Nat.zero_le _)
theorem impl_IsBase_ok (b : List Int) (hl : b.length ≤ 4398046511104) : impl_IsBase b = some (baseM b) := by
  rw [impl_IsBase_eq, impl_allIn_ok _ _ _ hl, baseM]
  by_cases c : b.length = 4
  · rw [if_pos (by simp only [beq_iff_eq]; omega), decide_eq_true c, Bool.and_true]; rfl
  · rw [if_neg (by simp only [beq_iff_eq]; omega), decide_eq_false c, Bool.and_false]
theorem baseM_len {b : List Int} (h : baseM b = true) : b.length = 4 := by
  simp only [baseM, Bool.and_eq_true, decide_eq_true_eq] at h; exact h.2
theorem baseM_get {b : List Int} (h : baseM b = true) {i : Nat} (hi : i < 4) : 0 ≤ b.getD i 0 ∧ b.getD i 0 ≤ 13 := by
  have hl := baseM_len h
  simp only [baseM, Bool.and_eq_true, List.all_eq_true] at h
  have := h.1 _ (getD_mem (d := 0) (by omega : i < b.length))
  simpa [inR] using this
def stepM (c : Int) : Int := if isC c = true then (rankM c + 1).tmod 13 + 1 else 0
theorem rank_card {c : Int} (h : isC c = true) : 0 ≤ rankM c ∧ rankM c ≤ 12 := by
  obtain ⟨h1, h2⟩ := isC_iff.1 h
  unfold rankM
  rw [if_pos h, Int.tmod_eq_emod_of_nonneg h1]; omega
theorem rank_no {c : Int} (h : isC c = false) : rankM c = -1 := by unfold rankM; rw [h]; rfl
theorem spec_StepOf_ok (c : Int) : spec_StepOf c = some (stepM c) := by
  rw [spec_StepOf_eq, spec_IsCard_ok, Option.bind_some, spec_RankOf_ok, stepM]
  cases h : isC c
  · rfl
  · obtain ⟨h1, h2⟩ := rank_card h
    have hm : 0 ≤ (rankM c + 1).tmod 13 ∧ (rankM c + 1).tmod 13 < 13 := by rw [Int.tmod_eq_emod_of_nonneg (by omega)]; omega
    rw [if_neg (by simp), Option.bind_some, wrap_id (x := rankM c + 1) (by omega) (by omega), wrap_id (by omega) (by omega), if_pos rfl]
theorem impl_StepOf_ok (c : Int) : impl_StepOf c = some (stepM c) := by
  rw [impl_StepOf_eq, impl_RankOf_ok, Option.bind_some, stepM]
  cases h : isC c
  · rw [rank_no h]; rfl
  · obtain ⟨h1, h2⟩ := rank_card h
    rw [if_neg (by simp; omega), if_pos rfl, Int.tmod_eq_emod_of_nonneg (by omega)]
    by_cases e : rankM c = 12
    · rw [if_pos (by simp [e]), e]; rfl
    · rw [if_neg (by simpa using e), wrap_id (by omega) (by omega)]
      congr 1; omega
def mayBM (b : List Int) (c : Int) : Bool := baseM b && (isC c && (stepM c == b.getD (suitM c).toNat 0 + 1))
theorem mayBM_card {b : List Int} {c : Int} (h : mayBM b c = true) : baseM b = true ∧ isC c = true := by
  simp only [mayBM, Bool.and_eq_true] at h; exact ⟨h.1, h.2.1⟩
def builtM (b : List Int) (c : Int) : List Int × Bool := if mayBM b c = true then (b.set (suitM c).toNat (b.getD (suitM c).toNat 0 + 1), true) else (b, false)
theorem builtM_length (b : List Int) (c : Int) : (builtM b c).1.length = b.length := by unfold builtM; split <;> simp
def cards52 (n : Nat) : List Int := (List.range n).map fun (i : Nat) => (i : Int)
theorem cards52_succ (n : Nat) : cards52 (n + 1) = cards52 n ++ [(n : Int)] := by simp [cards52, List.range_succ]
def baseP (b : List Int) (c : Int) : Bool := decide (stepM c ≤ b.getD (suitM c).toNat 0)
def baseCM (b : List Int) : List Int := if baseM b = true then (cards52 52).filter (baseP b) else []
theorem filter_cards {p : Int → Bool} (n : Nat) : (cards52 (n + 1)).filter p = if p (n : Int) = true then (cards52 n).filter p ++ [(n : Int)] else (cards52 n).filter p := by
  rw [cards52_succ, List.filter_append, List.filter_cons]
  split <;> simp
theorem cards52_length (n : Nat) : (cards52 n).length = n := by simp [cards52]
theorem isC_nat {i : Nat} (h : i < 52) : isC (i : Int) = true := isC_iff.2 ⟨by omega, by omega⟩
theorem spec_BaseCards_ok (b : List Int) (hl : b.length ≤ 2097152) : spec_BaseCards b = some (baseCM b) := by
  rw [spec_BaseCards_eq, baseCM]
  cases hb : baseM b
  · rw [spec_BaseCards_L3_eq, if_pos (by decide), spec_IsBase_ok b (by omega), hb]; rfl
  · have h4 := baseM_len hb
    have h : ∀ i : Nat, i ≤ 52 → spec_BaseCards_L3 b i ((cards52 i).filter (baseP b)) = some ((cards52 52).filter (baseP b)) := down (by
        rw [spec_BaseCards_L3_eq, if_neg (by decide)]) fun i hi ih => by
      have hw : IntKind.i64.wrap ((i : Int) + 1) = ((i + 1 : Nat) : Int) := by rw [wrap_id (by omega) (by omega)]; omega
      obtain ⟨h1, h2⟩ := suitM_card (isC_nat hi)
      have hk : ((cards52 i).filter (baseP b)).length ≤ 52 := Nat.le_trans (List.length_filter_le _ _) (by rw [cards52_length]; omega)
      rw [spec_BaseCards_L3_eq, spec_IsBase_ok b (by omega), hb, Option.bind_some, if_pos (rfl : true = true)]
      simp (disch := (first | omega | (simp only [List.length_append, List.length_cons, List.length_nil, List.length_take, List.length_drop, List.length_set, List.length_replicate, List.length_singleton]; omega))) only [↓if_dpos, ↓if_dneg, ↓if_epos, ↓if_eneg, ↓if_npos, ↓if_nneg, ↓if_pos, ↓if_neg, Int.toNat_natCast, List.nil_append, Nat.zero_add, List.length_singleton, Option.bind_some, List.drop_zero, List.take_length, if_true, if_false, hw, spec_StepOf_ok, spec_SuitOf_ok]
      rw [← ih, filter_cards, baseP]
      split <;> rfl
    exact h 0 (Nat.zero_le _)
theorem impl_BaseCards_ok (b : List Int) (hl : b.length ≤ 2097152) : impl_BaseCards b = some (baseCM b) := by
  rw [impl_BaseCards_eq, impl_IsBase_ok b (by omega), Option.bind_some, baseCM]
  cases hb : baseM b
  · rfl
  · have h4 := baseM_len hb
    have h : ∀ i : Nat, i ≤ 52 → impl_BaseCards_L5 b i ((cards52 i).filter (baseP b)) = some ((cards52 52).filter (baseP b)) := down (by
        rw [impl_BaseCards_L5_eq, if_neg (by decide)]) fun i hi ih => by
      have hw : IntKind.i64.wrap ((i : Int) + 1) = ((i + 1 : Nat) : Int) := by rw [wrap_id (by omega) (by omega)]; omega
      obtain ⟨h1, h2⟩ := suitM_card (isC_nat hi)
      have hk : ((cards52 i).filter (baseP b)).length ≤ 52 := Nat.le_trans (List.length_filter_le _ _) (by rw [cards52_length]; omega)
      rw [impl_BaseCards_L5_eq]
      simp (disch := (first | omega | (simp only [List.length_append, List.length_cons, List.length_nil, List.length_take, List.length_drop, List.length_set, List.length_replicate, List.length_singleton]; omega))) only [↓if_dpos, ↓if_dneg, ↓if_epos, ↓if_eneg, ↓if_npos, ↓if_nneg, ↓if_pos, ↓if_neg, Int.toNat_natCast, List.nil_append, Nat.zero_add, List.length_singleton, Option.bind_some, List.drop_zero, List.take_length, if_true, if_false, hw, impl_StepOf_ok, impl_SuitOf_ok]
      rw [← ih, filter_cards, baseP]
      split <;> rfl
    exact h 0 (Nat.zero_le _)
theorem baseCM_length (b : List Int) : (baseCM b).length ≤ 52 := by
  unfold baseCM; split
  · exact Nat.le_trans (List.length_filter_le _ _) (by rw [cards52_length]; omega)
  · exact Nat.zero_le _
def okP (p : List Int × Int) : Bool := pileM p.1 p.2 && !(decide (0 < p.1.length) && decide (p.2 = (p.1.length : Int)))
def patAll (ps : List (List Int × Int)) (b st wa : List Int) : List Int := baseCM b ++ st ++ wa ++ cardsP ps
def patM (ps : List (List Int × Int)) (b st wa : List Int) : Bool := inR (ps.length : Int) 1 7 && (baseM b && (ps.all okP && wholeL (patAll ps b st wa)))
theorem spec_IsPatience_ok (ps : List (List Int × Int)) (b st wa : List Int) (hh : G3 ps) (hb : b.length ≤ 2097152) (h9 : st.length ≤ 2097152) (h10 : wa.length ≤ 2097152) : spec_IsPatience ps b st wa = some (patM ps b st wa) := by
  have hl := hh.len
  have hc := hh.cards
  have hbc := baseCM_length b
  have h : ∀ i, i ≤ ps.length → spec_IsPatience_L5 i ps b st wa (baseCM b ++ st ++ wa ++ cardsP (ps.take i)) = some ((ps.drop i).all okP && wholeL (patAll ps b st wa)) := down (by
      have e := spec_IsHand_ok (patAll ps b st wa) (by unfold patAll; simp only [List.length_append]; omega)
      rw [List.take_length, show baseCM b ++ st ++ wa ++ cardsP ps = patAll ps b st wa from rfl]
      rw [spec_IsPatience_L5_eq]
      simp (disch := (first | omega | (simp only [List.length_append, List.length_cons, List.length_nil, List.length_take, List.length_drop, List.length_set, List.length_replicate, List.length_singleton]; omega))) only [↓if_dpos, ↓if_dneg, ↓if_epos, ↓if_eneg, ↓if_npos, ↓if_nneg, ↓if_pos, ↓if_neg, Int.toNat_natCast, List.nil_append, Nat.zero_add, List.length_singleton, Option.bind_some, List.drop_zero, List.take_length, if_true, if_false, e]
      rw [List.drop_of_length_le (Nat.le_refl _), List.all_nil, Bool.true_and, wholeL]
      cases handM (patAll ps b st wa)
      · simp
      · simp only [if_true, Bool.and_true]
        congr 1
        rw [Bool.eq_iff_iff]; simp; omega) fun i hi ih => by
    have hp := hh.row _ (getD_mem (d := ([], 0)) hi)
    have h1 := cardsP_take_le ps (i + 1)
    rw [cardsP_take hi, List.length_append] at h1
    have e := spec_IsPile_ok (ps.getD i ([], 0)).1 (ps.getD i ([], 0)).2 (by omega)
    rw [cardsP_take hi, ← List.append_assoc] at ih
    have hil : (i : Int) < (ps.length : Int) := by omega
    have hw : IntKind.i64.wrap ((i : Int) + 1) = ((i + 1 : Nat) : Int) := wrap_succ hi (by omega)
    rw [spec_IsPatience_L5_eq]
    simp (disch := (first | omega | (simp only [List.length_append, List.length_cons, List.length_nil, List.length_take, List.length_drop, List.length_set, List.length_replicate, List.length_singleton]; omega))) only [↓if_dpos, ↓if_dneg, ↓if_epos, ↓if_eneg, ↓if_npos, ↓if_nneg, ↓if_pos, ↓if_neg, hw, Int.toNat_natCast, List.nil_append, Nat.zero_add, List.length_singleton, Option.bind_some, List.drop_zero, List.take_length, if_true, if_false, e, ih]
    rw [getD_drop (d := ([], 0)) hi, List.all_cons, okP]
    cases hpm : pileM (ps.getD i ([], 0)).1 (ps.getD i ([], 0)).2
    · rfl
    · simp only [Bool.not_true, Bool.false_eq_true, if_false, Bool.true_and]
      by_cases c1 : 0 < (ps.getD i ([], 0)).1.length
      · by_cases c2 : (ps.getD i ([], 0)).2 = ((ps.getD i ([], 0)).1.length : Int)
        · rw [if_pos (decide_eq_true (by omega)), if_pos (by rw [beq_iff_eq]; exact c2), decide_eq_true c1, decide_eq_true c2]; rfl
        · rw [if_pos (decide_eq_true (by omega)), if_neg (by rw [beq_iff_eq]; exact c2), decide_eq_true c1, decide_eq_false c2]; rfl
      · rw [if_neg (by rw [decide_eq_true_eq]; omega), decide_eq_false c1]; rfl
  have w : (baseCM b ++ st).length = (baseCM b).length + st.length := List.length_append
  rw [spec_IsPatience_eq, spec_l1In_ok, Option.bind_some, spec_IsBase_ok b (by omega), Option.bind_some, spec_BaseCards_ok b hb, Option.bind_some, patM]
  cases inR (ps.length : Int) 1 7
  · rfl
  · cases baseM b
    · rfl
    · have h0 := h 0 (Nat.zero_le _)
      rw [List.take_zero, show cardsP [] = [] from rfl, List.append_nil] at h0
      simp (disch := (first | omega | (simp only [List.length_append, List.length_cons, List.length_nil, List.length_take, List.length_drop, List.length_set, List.length_replicate, List.length_singleton]; omega))) only [↓if_dpos, ↓if_dneg, ↓if_epos, ↓if_eneg, ↓if_npos, ↓if_nneg, ↓if_pos, ↓if_neg, Bool.not_true, Bool.false_eq_true, if_false, Bool.true_and]
      exact h0
theorem impl_IsPatience_ok (ps : List (List Int × Int)) (b st wa : List Int) (hh : G3 ps) (hb : b.length ≤ 2097152) (h9 : st.length ≤ 2097152) (h10 : wa.length ≤ 2097152) : impl_IsPatience ps b st wa = some (patM ps b st wa) := by
  have hl := hh.len
  have hc := hh.cards
  have hbc := baseCM_length b
  have hfl : ∀ i, ([st, wa, baseCM b] ++ (ps.take i).map fun p => p.1).flatten = st ++ (wa ++ (baseCM b ++ cardsP (ps.take i))) := fun i => by simp [cardsP]
  have hperm : (st ++ (wa ++ (baseCM b ++ cardsP ps))).Perm (patAll ps b st wa) := by
    unfold patAll
    rw [← List.append_assoc, ← List.append_assoc]
    refine List.Perm.append_right _ ?_
    rw [List.append_assoc (baseCM b)]
    exact List.perm_append_comm
  have h : ∀ i, i ≤ ps.length → impl_IsPatience_L5 ps ps.length i ([st, wa, baseCM b] ++ (ps.take i).map fun p => p.1) = some ((ps.drop i).all okP && wholeL (patAll ps b st wa)) := down (by
      have ef := hfl ps.length
      rw [List.take_length] at ef
      have e := impl_isWhole_ok ([st, wa, baseCM b] ++ ps.map fun p => p.1) (by simp; omega) (by rw [ef]; simp only [List.length_append]; omega)
      rw [ef, wholeL_perm hperm] at e
      rw [impl_IsPatience_L5_eq]
      simp (disch := (first | omega | (simp only [List.length_append, List.length_cons, List.length_nil, List.length_take, List.length_drop, List.length_set, List.length_replicate, List.length_singleton]; omega))) only [↓if_dpos, ↓if_dneg, ↓if_epos, ↓if_eneg, ↓if_npos, ↓if_nneg, ↓if_pos, ↓if_neg, Int.toNat_natCast, List.nil_append, Nat.zero_add, List.length_singleton, Option.bind_some, List.drop_zero, List.take_length, if_true, if_false, e]
      rw [List.drop_of_length_le (Nat.le_refl _), List.all_nil, Bool.true_and]) fun i hi ih => by
    have hp := hh.row _ (getD_mem (d := ([], 0)) hi)
    have e := impl_IsPile_ok (ps.getD i ([], 0)).1 (ps.getD i ([], 0)).2 (by omega)
    have e2 := impl_OpenCards_ok (ps.getD i ([], 0)).1 (ps.getD i ([], 0)).2 (by omega)
    have hk : ([st, wa, baseCM b] ++ (ps.take i).map fun p => p.1).length ≤ i + 3 := by simp; omega
    rw [take_succ_getD (d := ([], 0)) hi, List.map_append, ← List.append_assoc] at ih
    have hil : (i : Int) < (ps.length : Int) := by omega
    have hw : IntKind.i64.wrap ((i : Int) + 1) = ((i + 1 : Nat) : Int) := wrap_succ hi (by omega)
    rw [impl_IsPatience_L5_eq]
    simp (disch := (first | omega | (simp only [List.length_append, List.length_cons, List.length_nil, List.length_take, List.length_drop, List.length_set, List.length_replicate, List.length_singleton]; omega))) only [↓if_dpos, ↓if_dneg, ↓if_epos, ↓if_eneg, ↓if_npos, ↓if_nneg, ↓if_pos, ↓if_neg, hw, Int.toNat_natCast, List.nil_append, Nat.zero_add, List.length_singleton, Option.bind_some, List.drop_zero, List.take_length, if_true, if_false, e, e2, ih]
    rw [getD_drop (d := ([], 0)) hi, List.all_cons, okP]
    cases hpm : pileM (ps.getD i ([], 0)).1 (ps.getD i ([], 0)).2
    · rfl
    · have hhid := pileM_hid hpm
      simp only [Bool.not_true, Bool.false_eq_true, if_false, Bool.true_and, openM, hpm, if_true]
      by_cases c1 : 0 < (ps.getD i ([], 0)).1.length
      · by_cases c2 : (ps.getD i ([], 0)).2 = ((ps.getD i ([], 0)).1.length : Int)
        · rw [if_pos (decide_eq_true (by omega)), if_pos (by rw [beq_iff_eq]; omega), decide_eq_true c1, decide_eq_true c2]; rfl
        · rw [if_pos (decide_eq_true (by omega)), if_neg (by rw [beq_iff_eq]; omega), decide_eq_true c1, decide_eq_false c2]
          exact ih
      · rw [if_neg (by rw [decide_eq_true_eq]; omega), decide_eq_false c1]
        exact ih
  rw [impl_IsPatience_eq, impl_InRange_ok, Option.bind_some, impl_IsBase_ok b (by omega), Option.bind_some, impl_BaseCards_ok b hb, Option.bind_some, patM]
  cases inR (ps.length : Int) 1 7
  · rfl
  · cases baseM b
    · rfl
    · exact h 0 (Nat.zero_le _)
theorem patM_size (ps : List (List Int × Int)) (b st wa : List Int) (h : patM ps b st wa = true) : 1 ≤ ps.length ∧ ps.length ≤ 7 ∧ baseM b = true ∧ (baseCM b).length + st.length + wa.length + (cardsP ps).length = 52 := by
  simp only [patM, wholeL, patAll, Bool.and_eq_true, decide_eq_true_eq, List.length_append] at h
  have k := h.1
  simp [inR] at k
  exact ⟨by omega, by omega, h.2.1, h.2.2.2.1⟩
theorem pile_le (ps : List (List Int × Int)) (i : Nat) : (ps.getD i ([], 0)).1.length ≤ (cardsP ps).length := by
  by_cases hi : i < ps.length
  · have h1 := cardsP_take_le ps (i + 1)
    rw [cardsP_take hi, List.length_append] at h1
    omega
  · rw [List.getD_eq_getElem?_getD, List.getElem?_eq_none (by omega)]; exact Nat.zero_le _
end Go.Proofs.YthppocflbgnjlaaDoor.V
