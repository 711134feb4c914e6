/- Plain laws over the shapes. -/
import Derived.Test.YtdkhomhdapoeoaaPDeal
import Derived.Test.YtdkhomhdapoeoaaFIsDeal
import Derived.Test.YtdkhomhdapoeoaaFMayPlay
import Derived.Test.YtdkhomhdapoeoaaFPlayCard
import Derived.Test.YtdkhomhdapoeoaaFTrickPoints
import Derived.Test.YtdkhomhdapoeoaaFWinnerOf
import Derived.Test.YtdkhomhdapoeoaaS1
import Derived.Test.YtdkhomhdapoeoaaS2
import Derived.Test.YtdkhomhdapoeoaaS3
set_option linter.unusedVariables false
set_option linter.unusedSimpArgs false
set_option maxRecDepth 10000
namespace Go.Proofs.Ytdkhomhdapoeoaa.V
open Go
def mayPM (hand trick : List Int) (c : Int) : Bool := handM hand && (hasM hand c && (decide (trick.length = 0) || ((suitM c == suitM (trick.getD 0 0)) || hand.all (fun x => !(suitM x == suitM (trick.getD 0 0))))))
theorem spec_MayPlay_ok (hand trick : List Int) (c : Int) (hl : hand.length ≤ 4398046511104) (ht : trick.length ≤ 4398046511104) : spec_MayPlay hand trick c = some (mayPM hand trick c) := by
  rw [spec_MayPlay_eq, spec_IsHand_ok _ (by omega), Option.bind_some, spec_HasCard_ok _ _ (by omega), Option.bind_some, mayPM]
  cases handM hand
  · rfl
  · cases hasM hand c
    · rfl
    · simp only [Bool.not_true, Bool.false_eq_true, if_false, Bool.true_and]
      by_cases c1 : trick.length = 0
      · rw [if_pos (by rw [beq_iff_eq]; omega), decide_eq_true c1, Bool.true_or]
      · have h : ∀ i, i ≤ hand.length → spec_MayPlay_L6 hand trick i = some ((hand.drop i).all (fun x => !(suitM x == suitM (trick.getD 0 0)))) := down (by
            rw [spec_MayPlay_L6_eq]
            simp (disch := (first | omega | (simp only [List.length_append, List.length_cons, List.length_nil, List.length_take, List.length_drop, List.length_set, List.length_replicate, List.length_singleton]; omega))) only [↓if_dpos, ↓if_dneg, ↓if_epos, ↓if_eneg, ↓if_npos, ↓if_nneg, ↓if_pos, ↓if_neg, Int.toNat_natCast, List.nil_append, Nat.zero_add, List.length_singleton, Option.bind_some, List.drop_zero, List.take_length, if_true, if_false, ]
            rw [List.drop_of_length_le (Nat.le_refl _), List.all_nil]) fun i hi ih => by
          have hil : (i : Int) < (hand.length : Int) := by omega
          have hw : IntKind.i64.wrap ((i : Int) + 1) = ((i + 1 : Nat) : Int) := wrap_succ hi (by omega)
          rw [spec_MayPlay_L6_eq]
          simp (disch := (first | omega | (simp only [List.length_append, List.length_cons, List.length_nil, List.length_take, List.length_drop, List.length_set, List.length_replicate, List.length_singleton]; omega))) only [↓if_dpos, ↓if_dneg, ↓if_epos, ↓if_eneg, ↓if_npos, ↓if_nneg, ↓if_pos, ↓if_neg, hw, Int.toNat_natCast, List.nil_append, Nat.zero_add, List.length_singleton, Option.bind_some, List.drop_zero, List.take_length, if_true, if_false, spec_SuitOf_ok, ih]
          rw [getD_drop (d := 0) hi, List.all_cons]
          cases (suitM (hand.getD i 0) == suitM (trick.getD 0 0)) <;> rfl
        rw [if_neg (by rw [beq_iff_eq]; omega), decide_eq_false c1, Bool.false_or, spec_SuitOf_ok, Option.bind_some, if_pos (by omega), spec_SuitOf_ok, Option.bind_some]
        have h0 := h 0 (Nat.zero_le _)
        rw [List.drop_zero] at h0
        cases (suitM c == suitM (trick.getD 0 0))
        · exact h0
        · rfl
theorem impl_MayPlay_ok (hand trick : List Int) (c : Int) (hl : hand.length ≤ 4398046511104) (ht : trick.length ≤ 4398046511104) : impl_MayPlay hand trick c = some (mayPM hand trick c) := by
  rw [impl_MayPlay_eq, impl_IsHand_ok _ (by omega), Option.bind_some, impl_HasCard_ok _ _ (by omega), Option.bind_some, mayPM]
  cases handM hand
  · rfl
  · cases hasM hand c
    · rfl
    · simp only [Bool.not_true, Bool.false_eq_true, if_false, Bool.true_and]
      by_cases c1 : trick.length = 0
      · rw [if_pos (by rw [beq_iff_eq]; omega), decide_eq_true c1, Bool.true_or]
      · have h : ∀ i, i ≤ hand.length → impl_MayPlay_L6 trick hand hand.length i = some ((hand.drop i).all (fun x => !(suitM x == suitM (trick.getD 0 0)))) := down (by
            rw [impl_MayPlay_L6_eq]
            simp (disch := (first | omega | (simp only [List.length_append, List.length_cons, List.length_nil, List.length_take, List.length_drop, List.length_set, List.length_replicate, List.length_singleton]; omega))) only [↓if_dpos, ↓if_dneg, ↓if_epos, ↓if_eneg, ↓if_npos, ↓if_nneg, ↓if_pos, ↓if_neg, Int.toNat_natCast, List.nil_append, Nat.zero_add, List.length_singleton, Option.bind_some, List.drop_zero, List.take_length, if_true, if_false, ]
            rw [List.drop_of_length_le (Nat.le_refl _), List.all_nil]) fun i hi ih => by
          have hil : (i : Int) < (hand.length : Int) := by omega
          have hw : IntKind.i64.wrap ((i : Int) + 1) = ((i + 1 : Nat) : Int) := wrap_succ hi (by omega)
          rw [impl_MayPlay_L6_eq]
          simp (disch := (first | omega | (simp only [List.length_append, List.length_cons, List.length_nil, List.length_take, List.length_drop, List.length_set, List.length_replicate, List.length_singleton]; omega))) only [↓if_dpos, ↓if_dneg, ↓if_epos, ↓if_eneg, ↓if_npos, ↓if_nneg, ↓if_pos, ↓if_neg, hw, Int.toNat_natCast, List.nil_append, Nat.zero_add, List.length_singleton, Option.bind_some, List.drop_zero, List.take_length, if_true, if_false, impl_SuitOf_ok, ih]
          rw [getD_drop (d := 0) hi, List.all_cons]
          cases (suitM (hand.getD i 0) == suitM (trick.getD 0 0)) <;> rfl
        rw [if_neg (by rw [beq_iff_eq]; omega), decide_eq_false c1, Bool.false_or, impl_SuitOf_ok, Option.bind_some, if_pos (by omega), impl_SuitOf_ok, Option.bind_some]
        have h0 := h 0 (Nat.zero_le _)
        rw [List.drop_zero] at h0
        cases (suitM c == suitM (trick.getD 0 0))
        · exact h0
        · rfl
def beatsM (a b tr : Int) : Bool := isC a && (isC b && (if suitM a = suitM b then decide (a > b) else (suitM a == tr)))
theorem card_parts {c : Int} (h : isC c = true) : c = 13 * suitM c + rankM c ∧ 0 ≤ rankM c ∧ rankM c < 13 := by
  obtain ⟨h1, h2⟩ := isC_iff.1 h
  unfold suitM rankM
  have e := Int.tdiv_eq_ediv_of_nonneg (b := 13) h1
  rw [if_pos h, if_pos h, wrap_id (by omega) (by omega), e, Int.tmod_eq_emod_of_nonneg h1]
  omega
theorem spec_Beats_ok (a b tr : Int) : spec_Beats a b tr = some (beatsM a b tr) := by
  rw [spec_Beats_eq]
  simp only [spec_IsCard_ok, spec_SuitOf_ok, Option.bind_some, beatsM]
  cases isC a <;> cases isC b <;> try rfl
  simp only [Bool.not_true, Bool.false_eq_true, if_false, Bool.true_and]
  by_cases e : suitM a = suitM b
  · rw [if_pos (by rw [beq_iff_eq]; exact e), if_pos e]
  · rw [if_neg (by rw [beq_iff_eq]; exact e), if_neg e]
theorem impl_Beats_ok (a b tr : Int) : impl_Beats a b tr = some (beatsM a b tr) := by
  rw [impl_Beats_eq]
  simp only [impl_IsCard_ok, impl_SuitOf_ok, impl_RankOf_ok, Option.bind_some, beatsM]
  cases ha : isC a <;> cases hb : isC b <;> try rfl
  simp only [Bool.not_true, Bool.false_eq_true, if_false, Bool.true_and]
  by_cases e : suitM a = suitM b
  · rw [if_pos (by rw [beq_iff_eq]; exact e), if_pos e]
    obtain ⟨p1, p2, p3⟩ := card_parts ha
    obtain ⟨q1, q2, q3⟩ := card_parts hb
    congr 1
    rw [Bool.eq_iff_iff]; simp only [decide_eq_true_eq]; omega
  · rw [if_neg (by rw [beq_iff_eq]; exact e), if_neg e]
def winR (full : List Int) (tr : Int) : List Int → Int → Int → Int
  | [], k, _ => k
  | x :: t, k, i => if beatsM x (full.getD k.toNat 0) tr = true then winR full tr t i (i + 1) else winR full tr t k (i + 1)
def winOf (l : List Int) (tr : Int) : Int := if l.length = 0 then -1 else if handM l = true then winR l tr l 0 0 else -1
theorem winR_bound (full : List Int) (tr : Int) : ∀ (t : List Int) (k i : Int), 0 ≤ k → k ≤ i → k < i + t.length → 0 ≤ winR full tr t k i ∧ winR full tr t k i < i + t.length := by
  intro t
  induction t with
  | nil => intro k i h0 h1 h2; simp only [winR, List.length_nil] at *; omega
  | cons x t ih =>
    intro k i h0 h1 h2
    simp only [winR, List.length_cons] at *
    split
    · have := ih i (i + 1) (by omega) (by omega) (by omega); omega
    · have := ih k (i + 1) h0 (by omega) (by omega); omega
theorem winOf_bound {l : List Int} {tr : Int} (h : handM l = true) (hl : 0 < l.length) : 0 ≤ winOf l tr ∧ winOf l tr < l.length := by
  unfold winOf
  rw [if_neg (by omega), if_pos h]
  have := winR_bound l tr l 0 0 (Int.le_refl _) (Int.le_refl _) (by omega)
  omega
theorem spec_WinnerOf_ok (l : List Int) (tr : Int) (hl : l.length ≤ 4398046511104) : spec_WinnerOf l tr = some (winOf l tr) := by
  have h : ∀ i, i ≤ l.length → ∀ k : Int, 0 ≤ k → k < (l.length : Int) → spec_WinnerOf_L5 l tr k i = some (winR l tr (l.drop i) k i) := down (by
      intro k h0 h1
      rw [spec_WinnerOf_L5_eq]
      simp (disch := (first | omega | (simp only [List.length_append, List.length_cons, List.length_nil, List.length_take, List.length_drop, List.length_set, List.length_replicate, List.length_singleton]; omega))) only [↓if_dpos, ↓if_dneg, ↓if_epos, ↓if_eneg, ↓if_npos, ↓if_nneg, ↓if_pos, ↓if_neg, Int.toNat_natCast, List.nil_append, Nat.zero_add, List.length_singleton, Option.bind_some, List.drop_zero, List.take_length, if_true, if_false, ]
      rw [List.drop_of_length_le (Nat.le_refl _)]; rfl) fun i hi ih k h0 h1 => by
    have hil : (i : Int) < (l.length : Int) := by omega
    have hw : IntKind.i64.wrap ((i : Int) + 1) = ((i + 1 : Nat) : Int) := wrap_succ hi (by omega)
    rw [spec_WinnerOf_L5_eq]
    simp (disch := (first | omega | (simp only [List.length_append, List.length_cons, List.length_nil, List.length_take, List.length_drop, List.length_set, List.length_replicate, List.length_singleton]; omega))) only [↓if_dpos, ↓if_dneg, ↓if_epos, ↓if_eneg, ↓if_npos, ↓if_nneg, ↓if_pos, ↓if_neg, hw, Int.toNat_natCast, List.nil_append, Nat.zero_add, List.length_singleton, Option.bind_some, List.drop_zero, List.take_length, if_true, if_false, spec_Beats_ok]
    rw [getD_drop (d := 0) hi, winR]
    cases beatsM (l.getD i 0) (l.getD k.toNat 0) tr
    · exact ih k h0 h1
    · exact ih i (by omega) (by omega)
  rw [spec_WinnerOf_eq, spec_IsHand_ok _ (by omega), Option.bind_some, winOf]
  by_cases c : l.length = 0
  · rw [if_pos (by rw [beq_iff_eq]; omega), if_pos c]
  · rw [if_neg (by rw [beq_iff_eq]; omega), if_neg c]
    cases hh : handM l
    · rfl
    · have e := h 1 (by omega) 0 (Int.le_refl _) (by omega)
      have e0 : l = l.getD 0 0 :: l.drop 1 := by have := getD_drop (xs := l) (i := 0) (d := 0) (by omega); rwa [List.drop_zero] at this
      have eb : beatsM (l.getD 0 0) (l.getD (0 : Int).toNat 0) tr = false := by
        unfold beatsM
        rw [show (0 : Int).toNat = 0 from rfl, if_pos rfl]
        cases isC (l.getD 0 0) <;> simp
      simp only [Bool.not_true, Bool.false_eq_true, if_false, if_true]
      rw [show ((1 : Nat) : Int) = 1 from rfl] at e
      rw [e]
      congr 1
      conv => rhs; arg 3; rw [e0]
      rw [winR, eb]; rfl
theorem impl_WinnerOf_ok (l : List Int) (tr : Int) (hl : l.length ≤ 4398046511104) : impl_WinnerOf l tr = some (winOf l tr) := by
  have h : ∀ i, i ≤ l.length → ∀ k : Int, 0 ≤ k → k < (l.length : Int) → impl_WinnerOf_L5 l tr k l l.length i = some (winR l tr (l.drop i) k i) := down (by
      intro k h0 h1
      rw [impl_WinnerOf_L5_eq]
      simp (disch := (first | omega | (simp only [List.length_append, List.length_cons, List.length_nil, List.length_take, List.length_drop, List.length_set, List.length_replicate, List.length_singleton]; omega))) only [↓if_dpos, ↓if_dneg, ↓if_epos, ↓if_eneg, ↓if_npos, ↓if_nneg, ↓if_pos, ↓if_neg, Int.toNat_natCast, List.nil_append, Nat.zero_add, List.length_singleton, Option.bind_some, List.drop_zero, List.take_length, if_true, if_false, ]
      rw [List.drop_of_length_le (Nat.le_refl _)]; rfl) fun i hi ih k h0 h1 => by
    have hil : (i : Int) < (l.length : Int) := by omega
    have hw : IntKind.i64.wrap ((i : Int) + 1) = ((i + 1 : Nat) : Int) := wrap_succ hi (by omega)
    rw [impl_WinnerOf_L5_eq]
    simp (disch := (first | omega | (simp only [List.length_append, List.length_cons, List.length_nil, List.length_take, List.length_drop, List.length_set, List.length_replicate, List.length_singleton]; omega))) only [↓if_dpos, ↓if_dneg, ↓if_epos, ↓if_eneg, ↓if_npos, ↓if_nneg, ↓if_pos, ↓if_neg, hw, Int.toNat_natCast, List.nil_append, Nat.zero_add, List.length_singleton, Option.bind_some, List.drop_zero, List.take_length, if_true, if_false, impl_Beats_ok]
    rw [getD_drop (d := 0) hi, winR]
    cases beatsM (l.getD i 0) (l.getD k.toNat 0) tr
    · exact ih k h0 h1
    · exact ih i (by omega) (by omega)
  rw [impl_WinnerOf_eq, impl_IsHand_ok _ (by omega), Option.bind_some, winOf]
  by_cases c : l.length = 0
  · rw [if_pos (by rw [beq_iff_eq]; omega), if_pos c]
  · rw [if_neg (by rw [beq_iff_eq]; omega), if_neg c]
    cases hh : handM l
    · rfl
    · exact h 0 (Nat.zero_le _) 0 (Int.le_refl _) (by omega)
def ptStep (n c : Int) : Int := if rankM c = 12 then IntKind.i64.wrap (n + 11) else if rankM c = 8 then IntKind.i64.wrap (n + 10) else if rankM c = 11 then IntKind.i64.wrap (n + 4) else if rankM c = 10 then IntKind.i64.wrap (n + 3) else if rankM c = 9 then IntKind.i64.wrap (n + 2) else n
def ptsM (l : List Int) : Int := l.foldl ptStep 0
theorem spec_TrickPoints_ok (l : List Int) (hl : l.length ≤ 4398046511104) : spec_TrickPoints l = some (ptsM l) := by
  have h : ∀ i, i ≤ l.length → spec_TrickPoints_L3 l (ptsM (l.take i)) i = some (ptsM l) := down (by
      rw [spec_TrickPoints_L3_eq]
      simp (disch := (first | omega | (simp only [List.length_append, List.length_cons, List.length_nil, List.length_take, List.length_drop, List.length_set, List.length_replicate, List.length_singleton]; omega))) only [↓if_dpos, ↓if_dneg, ↓if_epos, ↓if_eneg, ↓if_npos, ↓if_nneg, ↓if_pos, ↓if_neg, Int.toNat_natCast, List.nil_append, Nat.zero_add, List.length_singleton, Option.bind_some, List.drop_zero, List.take_length, if_true, if_false, ]) fun i hi ih => by
    have hil : (i : Int) < (l.length : Int) := by omega
    have hw : IntKind.i64.wrap ((i : Int) + 1) = ((i + 1 : Nat) : Int) := wrap_succ hi (by omega)
    rw [spec_TrickPoints_L3_eq]
    simp (disch := (first | omega | (simp only [List.length_append, List.length_cons, List.length_nil, List.length_take, List.length_drop, List.length_set, List.length_replicate, List.length_singleton]; omega))) only [↓if_dpos, ↓if_dneg, ↓if_epos, ↓if_eneg, ↓if_npos, ↓if_nneg, ↓if_pos, ↓if_neg, hw, Int.toNat_natCast, List.nil_append, Nat.zero_add, List.length_singleton, Option.bind_some, List.drop_zero, List.take_length, if_true, if_false, spec_RankOf_ok]
    rw [← ih]
    unfold ptsM
    rw [foldl_take (d := 0) hi]
    generalize List.foldl ptStep 0 (List.take i l) = n
    rw [ptStep]
    by_cases e1 : rankM (l.getD i 0) = 12
    · simp (disch := (first | omega | (simp only [List.length_append, List.length_cons, List.length_nil, List.length_take, List.length_drop, List.length_set, List.length_replicate, List.length_singleton]; omega))) only [↓if_dpos, ↓if_dneg, ↓if_epos, ↓if_eneg, ↓if_npos, ↓if_nneg, ↓if_pos, ↓if_neg]
    by_cases e2 : rankM (l.getD i 0) = 8
    · simp (disch := (first | omega | (simp only [List.length_append, List.length_cons, List.length_nil, List.length_take, List.length_drop, List.length_set, List.length_replicate, List.length_singleton]; omega))) only [↓if_dpos, ↓if_dneg, ↓if_epos, ↓if_eneg, ↓if_npos, ↓if_nneg, ↓if_pos, ↓if_neg]
    by_cases e3 : rankM (l.getD i 0) = 11
    · simp (disch := (first | omega | (simp only [List.length_append, List.length_cons, List.length_nil, List.length_take, List.length_drop, List.length_set, List.length_replicate, List.length_singleton]; omega))) only [↓if_dpos, ↓if_dneg, ↓if_epos, ↓if_eneg, ↓if_npos, ↓if_nneg, ↓if_pos, ↓if_neg]
    by_cases e4 : rankM (l.getD i 0) = 10
    · simp (disch := (first | omega | (simp only [List.length_append, List.length_cons, List.length_nil, List.length_take, List.length_drop, List.length_set, List.length_replicate, List.length_singleton]; omega))) only [↓if_dpos, ↓if_dneg, ↓if_epos, ↓if_eneg, ↓if_npos, ↓if_nneg, ↓if_pos, ↓if_neg]
    by_cases e5 : rankM (l.getD i 0) = 9
    · simp (disch := (first | omega | (simp only [List.length_append, List.length_cons, List.length_nil, List.length_take, List.length_drop, List.length_set, List.length_replicate, List.length_singleton]; omega))) only [↓if_dpos, ↓if_dneg, ↓if_epos, ↓if_eneg, ↓if_npos, ↓if_nneg, ↓if_pos, ↓if_neg]
    · simp (disch := (first | omega | (simp only [List.length_append, List.length_cons, List.length_nil, List.length_take, List.length_drop, List.length_set, List.length_replicate, List.length_singleton]; omega))) only [↓if_dpos, ↓if_dneg, ↓if_epos, ↓if_eneg, ↓if_npos, ↓if_nneg, ↓if_pos, ↓if_neg]
  rw [spec_TrickPoints_eq]
  exact h 0 (Nat.zero_le _)
theorem impl_TrickPoints_ok (l : List Int) (hl : l.length ≤ 4398046511104) : impl_TrickPoints l = some (ptsM l) := by
  have h : ∀ i, i ≤ l.length → impl_TrickPoints_L3 (ptsM (l.take i)) l l.length i = some (ptsM l) := down (by
      rw [impl_TrickPoints_L3_eq]
      simp (disch := (first | omega | (simp only [List.length_append, List.length_cons, List.length_nil, List.length_take, List.length_drop, List.length_set, List.length_replicate, List.length_singleton]; omega))) only [↓if_dpos, ↓if_dneg, ↓if_epos, ↓if_eneg, ↓if_npos, ↓if_nneg, ↓if_pos, ↓if_neg, Int.toNat_natCast, List.nil_append, Nat.zero_add, List.length_singleton, Option.bind_some, List.drop_zero, List.take_length, if_true, if_false, ]) fun i hi ih => by
    have hil : (i : Int) < (l.length : Int) := by omega
    have hw : IntKind.i64.wrap ((i : Int) + 1) = ((i + 1 : Nat) : Int) := wrap_succ hi (by omega)
    rw [impl_TrickPoints_L3_eq]
    simp (disch := (first | omega | (simp only [List.length_append, List.length_cons, List.length_nil, List.length_take, List.length_drop, List.length_set, List.length_replicate, List.length_singleton]; omega))) only [↓if_dpos, ↓if_dneg, ↓if_epos, ↓if_eneg, ↓if_npos, ↓if_nneg, ↓if_pos, ↓if_neg, hw, Int.toNat_natCast, List.nil_append, Nat.zero_add, List.length_singleton, Option.bind_some, List.drop_zero, List.take_length, if_true, if_false, impl_RankOf_ok]
    rw [← ih]
    unfold ptsM
    rw [foldl_take (d := 0) hi]
    generalize List.foldl ptStep 0 (List.take i l) = n
    rw [ptStep]
    by_cases e1 : rankM (l.getD i 0) = 12
    · simp (disch := (first | omega | (simp only [List.length_append, List.length_cons, List.length_nil, List.length_take, List.length_drop, List.length_set, List.length_replicate, List.length_singleton]; omega))) only [↓if_dpos, ↓if_dneg, ↓if_epos, ↓if_eneg, ↓if_npos, ↓if_nneg, ↓if_pos, ↓if_neg]
    by_cases e2 : rankM (l.getD i 0) = 8
    · simp (disch := (first | omega | (simp only [List.length_append, List.length_cons, List.length_nil, List.length_take, List.length_drop, List.length_set, List.length_replicate, List.length_singleton]; omega))) only [↓if_dpos, ↓if_dneg, ↓if_epos, ↓if_eneg, ↓if_npos, ↓if_nneg, ↓if_pos, ↓if_neg]
    by_cases e3 : rankM (l.getD i 0) = 11
    · simp (disch := (first | omega | (simp only [List.length_append, List.length_cons, List.length_nil, List.length_take, List.length_drop, List.length_set, List.length_replicate, List.length_singleton]; omega))) only [↓if_dpos, ↓if_dneg, ↓if_epos, ↓if_eneg, ↓if_npos, ↓if_nneg, ↓if_pos, ↓if_neg]
    by_cases e4 : rankM (l.getD i 0) = 10
    · simp (disch := (first | omega | (simp only [List.length_append, List.length_cons, List.length_nil, List.length_take, List.length_drop, List.length_set, List.length_replicate, List.length_singleton]; omega))) only [↓if_dpos, ↓if_dneg, ↓if_epos, ↓if_eneg, ↓if_npos, ↓if_nneg, ↓if_pos, ↓if_neg]
    by_cases e5 : rankM (l.getD i 0) = 9
    · simp (disch := (first | omega | (simp only [List.length_append, List.length_cons, List.length_nil, List.length_take, List.length_drop, List.length_set, List.length_replicate, List.length_singleton]; omega))) only [↓if_dpos, ↓if_dneg, ↓if_epos, ↓if_eneg, ↓if_npos, ↓if_nneg, ↓if_pos, ↓if_neg]
    · simp (disch := (first | omega | (simp only [List.length_append, List.length_cons, List.length_nil, List.length_take, List.length_drop, List.length_set, List.length_replicate, List.length_singleton]; omega))) only [↓if_dpos, ↓if_dneg, ↓if_epos, ↓if_eneg, ↓if_npos, ↓if_nneg, ↓if_pos, ↓if_neg]
  rw [impl_TrickPoints_eq]
  exact h 0 (Nat.zero_le _)
theorem handM_parts {l : List Int} (h : handM l = true) : (∀ x ∈ l, isC x = true) ∧ l.Nodup := by
  simp only [handM, Bool.and_eq_true, List.all_eq_true, decide_eq_true_eq] at h; exact h
theorem handM_of {l : List Int} (h1 : ∀ x ∈ l, isC x = true) (h2 : l.Nodup) : handM l = true := by
  simp only [handM, Bool.and_eq_true, List.all_eq_true, decide_eq_true_eq]; exact ⟨h1, h2⟩
theorem hasM_iff {l : List Int} {c : Int} : hasM l c = true ↔ c ∈ l := by simp [hasM]
theorem mem_flat_getD {l : List (List Int)} {i : Nat} {c : Int} (h : c ∈ l.getD i []) : c ∈ l.flatten := by
  by_cases hi : i < l.length
  · exact List.mem_flatten.2 ⟨_, getD_mem (d := []) hi, h⟩
  · rw [List.getD_eq_getElem?_getD, List.getElem?_eq_none (by omega)] at h; cases h
theorem trick_hand (hs : List (List Int)) (le tr : Int) (tk wo po : List Int) (lf : Int) {c : Int} {i : Nat} (h : handM (hs.flatten ++ tk) = true) (hc : c ∈ hs.getD i []) : handM (tk ++ [c]) = true := by
  obtain ⟨h1, h2⟩ := handM_parts h
  have hf := mem_flat_getD hc
  rw [List.nodup_append] at h2
  refine handM_of (fun x hx => ?_) ?_
  · rcases List.mem_append.1 hx with e | e
    · exact h1 x (List.mem_append.2 (.inr e))
    · rw [List.mem_singleton.1 e]; exact h1 c (List.mem_append.2 (.inl hf))
  · rw [List.nodup_append]
    refine ⟨h2.2.1, by simp, fun a ha b hb e => ?_⟩
    rw [List.mem_singleton.1 hb] at e
    exact h2.2.2 c hf a ha e.symm
def cardW (hs : List (List Int)) (le tr : Int) (tk wo po : List Int) (lf : Int) (c : Int) : Int := (le + winOf (tk ++ [c]) tr).tmod (hs.length : Int)
def cardM (hs : List (List Int)) (le tr : Int) (tk wo po : List Int) (lf : Int) (c : Int) : List (List Int) × Int × Int × List Int × List Int × List Int × Int × Bool :=
  if (dealM hs le tr tk wo po lf && (!decide (whoM hs le tr tk wo po lf < 0) && mayPM (hs.getD (whoM hs le tr tk wo po lf).toNat []) tk c)) = true then
    (if tk.length + 1 = hs.length then (hs.set (whoM hs le tr tk wo po lf).toNat (withoutM (hs.getD (whoM hs le tr tk wo po lf).toNat []) c), cardW hs le tr tk wo po lf c, tr, [], wo.set (cardW hs le tr tk wo po lf c).toNat (wo.getD (cardW hs le tr tk wo po lf c).toNat 0 + 1), po.set (cardW hs le tr tk wo po lf c).toNat (IntKind.i64.wrap (po.getD (cardW hs le tr tk wo po lf c).toNat 0 + ptsM (tk ++ [c]))), lf, true)
     else (hs.set (whoM hs le tr tk wo po lf).toNat (withoutM (hs.getD (whoM hs le tr tk wo po lf).toNat []) c), le, tr, tk ++ [c], wo, po, lf, true))
  else (hs, le, tr, tk, wo, po, lf, false)
theorem whoM_bound (hs : List (List Int)) (le tr : Int) (tk wo po : List Int) (lf : Int) (v : ValidD hs le tr tk wo po lf) (h : ¬ whoM hs le tr tk wo po lf < 0) : 0 ≤ whoM hs le tr tk wo po lf ∧ whoM hs le tr tk wo po lf < (hs.length : Int) := by
  have v1 := v.n1; have v2 := v.l1; have v3 := v.l2; have v4 := v.trick
  unfold whoM at h ⊢
  rw [if_neg (by omega : ¬ hs.length = 0)] at h ⊢
  by_cases c2 : hs.flatten.length = 0
  · rw [if_pos c2] at h; omega
  · rw [if_neg c2] at h ⊢
    cases hr : inR le 0 ((hs.length : Int) - 1)
    · rw [hr] at h; simp at h
    · rw [if_pos rfl]
      exact ⟨Int.tmod_nonneg _ (by omega), Int.tmod_lt_of_pos _ (by omega)⟩
theorem mayPM_has {hand trick : List Int} {c : Int} (h : mayPM hand trick c = true) : c ∈ hand := by
  simp only [mayPM, Bool.and_eq_true] at h; exact hasM_iff.1 h.2.1
theorem spec_PlayCard_ok (hs : List (List Int)) (le tr : Int) (tk wo po : List Int) (lf : Int) (c : Int) (hh : G2 hs) (h3 : tk.length ≤ 2097152) (hwo : wo.length ≤ 2097152) (hpo : po.length ≤ 2097152) : spec_PlayCard hs le tr tk wo po lf c = some (cardM hs le tr tk wo po lf c) := by
  have hl := hh.len
  have hq := hh.at' (i := (whoM hs le tr tk wo po lf).toNat)
  rw [spec_PlayCard_eq, spec_l12Copy_ok hs le tr tk wo po lf hh h3 hwo hpo, Option.bind_some, spec_TurnOf_ok hs le tr tk wo po lf hh h3 hwo hpo, Option.bind_some, spec_IsDeal_ok hs le tr tk wo po lf hh h3 hwo hpo, Option.bind_some, cardM]
  cases hd : dealM hs le tr tk wo po lf
  · rfl
  · have v := dealM_valid hs le tr tk wo po lf hd
    have v1 := v.n1; have v2 := v.n2; have v3 := v.won; have v4 := v.pts; have v5 := v.l1; have v6 := v.l2; have v7 := v.trick; have v8 := v.wons
    simp only [Bool.not_true, Bool.false_eq_true, if_false, Bool.true_and]
    by_cases hw0 : whoM hs le tr tk wo po lf < 0
    · rw [if_pos (decide_eq_true hw0), decide_eq_true hw0]; rfl
    · obtain ⟨b1, b2⟩ := whoM_bound hs le tr tk wo po lf v hw0
      rw [if_neg (by rw [decide_eq_true_eq]; exact hw0), decide_eq_false hw0, if_pos b1, if_pos b2, spec_MayPlay_ok _ _ _ (by omega) (by omega), Option.bind_some]
      cases hm : mayPM (hs.getD (whoM hs le tr tk wo po lf).toNat []) tk c
      · rfl
      · have hth := trick_hand hs le tr tk wo po lf v.hand (mayPM_has hm)
        obtain ⟨q1, q2⟩ := winOf_bound (tr := tr) hth (by simp)
        simp only [List.length_append, List.length_singleton] at q2
        have x1 : IntKind.i64.wrap (le + winOf (tk ++ [c]) tr) = le + winOf (tk ++ [c]) tr := wrap_id (by omega) (by omega)
        have hw : 0 ≤ cardW hs le tr tk wo po lf c ∧ cardW hs le tr tk wo po lf c < (hs.length : Int) := ⟨Int.tmod_nonneg _ (by omega), Int.tmod_lt_of_pos _ (by omega)⟩
        have hg := v8 _ (getD_mem (d := 0) (by omega : (cardW hs le tr tk wo po lf c).toNat < wo.length))
        have x2 : IntKind.i64.wrap (wo.getD (cardW hs le tr tk wo po lf c).toNat 0 + 1) = wo.getD (cardW hs le tr tk wo po lf c).toNat 0 + 1 := wrap_id (by omega) (by omega)
        have e1 := spec_Without_ok (hs.getD (whoM hs le tr tk wo po lf).toNat []) c (by omega)
        have e2 := spec_WinnerOf_ok (tk ++ [c]) tr (by simp only [List.length_append, List.length_singleton]; omega)
        have e3 := spec_TrickPoints_ok (tk ++ [c]) (by simp only [List.length_append, List.length_singleton]; omega)
        have ew : (le + winOf (tk ++ [c]) tr).tmod (hs.length : Int) = cardW hs le tr tk wo po lf c := rfl
        simp only [Bool.not_true, Bool.not_false, Bool.false_eq_true, if_false, if_true, Bool.true_and]
        by_cases cl : tk.length + 1 = hs.length
        · simp (disch := (first | omega | (simp only [List.length_append, List.length_cons, List.length_nil, List.length_take, List.length_drop, List.length_set, List.length_replicate, List.length_singleton]; omega))) only [↓if_dpos, ↓if_dneg, ↓if_epos, ↓if_eneg, ↓if_npos, ↓if_nneg, ↓if_pos, ↓if_neg, Int.toNat_natCast, List.nil_append, Nat.zero_add, List.length_singleton, Option.bind_some, List.drop_zero, List.take_length, if_true, if_false, e1, e2, e3, x1, x2, List.length_set, List.length_append, ew]
        · simp (disch := (first | omega | (simp only [List.length_append, List.length_cons, List.length_nil, List.length_take, List.length_drop, List.length_set, List.length_replicate, List.length_singleton]; omega))) only [↓if_dpos, ↓if_dneg, ↓if_epos, ↓if_eneg, ↓if_npos, ↓if_nneg, ↓if_pos, ↓if_neg, Int.toNat_natCast, List.nil_append, Nat.zero_add, List.length_singleton, Option.bind_some, List.drop_zero, List.take_length, if_true, if_false, e1, List.length_set, List.length_append]
theorem impl_PlayCard_ok (hs : List (List Int)) (le tr : Int) (tk wo po : List Int) (lf : Int) (c : Int) (hh : G2 hs) (h3 : tk.length ≤ 2097152) (hwo : wo.length ≤ 2097152) (hpo : po.length ≤ 2097152) : impl_PlayCard hs le tr tk wo po lf c = some (cardM hs le tr tk wo po lf c) := by
  have hl := hh.len
  have hq := hh.at' (i := (whoM hs le tr tk wo po lf).toNat)
  rw [impl_PlayCard_eq, impl_Deal_copied_ok hs le tr tk wo po lf hh h3 hwo hpo, Option.bind_some, impl_TurnOf_ok hs le tr tk wo po lf hh h3 hwo hpo, Option.bind_some, impl_IsDeal_ok hs le tr tk wo po lf hh h3 hwo hpo, Option.bind_some, cardM]
  cases hd : dealM hs le tr tk wo po lf
  · rfl
  · have v := dealM_valid hs le tr tk wo po lf hd
    have v1 := v.n1; have v2 := v.n2; have v3 := v.won; have v4 := v.pts; have v5 := v.l1; have v6 := v.l2; have v7 := v.trick; have v8 := v.wons
    simp only [Bool.not_true, Bool.false_eq_true, if_false, Bool.true_and]
    by_cases hw0 : whoM hs le tr tk wo po lf < 0
    · rw [if_pos (decide_eq_true hw0), decide_eq_true hw0]; rfl
    · obtain ⟨b1, b2⟩ := whoM_bound hs le tr tk wo po lf v hw0
      rw [if_neg (by rw [decide_eq_true_eq]; exact hw0), decide_eq_false hw0, if_pos b1, if_pos b2, impl_MayPlay_ok _ _ _ (by omega) (by omega), Option.bind_some]
      cases hm : mayPM (hs.getD (whoM hs le tr tk wo po lf).toNat []) tk c
      · rfl
      · have hth := trick_hand hs le tr tk wo po lf v.hand (mayPM_has hm)
        obtain ⟨q1, q2⟩ := winOf_bound (tr := tr) hth (by simp)
        simp only [List.length_append, List.length_singleton] at q2
        have x1 : IntKind.i64.wrap (le + winOf (tk ++ [c]) tr) = le + winOf (tk ++ [c]) tr := wrap_id (by omega) (by omega)
        have hw : 0 ≤ cardW hs le tr tk wo po lf c ∧ cardW hs le tr tk wo po lf c < (hs.length : Int) := ⟨Int.tmod_nonneg _ (by omega), Int.tmod_lt_of_pos _ (by omega)⟩
        have hg := v8 _ (getD_mem (d := 0) (by omega : (cardW hs le tr tk wo po lf c).toNat < wo.length))
        have x2 : IntKind.i64.wrap (wo.getD (cardW hs le tr tk wo po lf c).toNat 0 + 1) = wo.getD (cardW hs le tr tk wo po lf c).toNat 0 + 1 := wrap_id (by omega) (by omega)
        have e1 := impl_Without_ok (hs.getD (whoM hs le tr tk wo po lf).toNat []) c (by omega)
        have e2 := impl_WinnerOf_ok (tk ++ [c]) tr (by simp only [List.length_append, List.length_singleton]; omega)
        have e3 := impl_TrickPoints_ok (tk ++ [c]) (by simp only [List.length_append, List.length_singleton]; omega)
        have ew : (le + winOf (tk ++ [c]) tr).tmod (hs.length : Int) = cardW hs le tr tk wo po lf c := rfl
        simp only [Bool.not_true, Bool.not_false, Bool.false_eq_true, if_false, if_true, Bool.true_and]
        by_cases cl : tk.length + 1 = hs.length
        · simp (disch := (first | omega | (simp only [List.length_append, List.length_cons, List.length_nil, List.length_take, List.length_drop, List.length_set, List.length_replicate, List.length_singleton]; omega))) only [↓if_dpos, ↓if_dneg, ↓if_epos, ↓if_eneg, ↓if_npos, ↓if_nneg, ↓if_pos, ↓if_neg, Int.toNat_natCast, List.nil_append, Nat.zero_add, List.length_singleton, Option.bind_some, List.drop_zero, List.take_length, if_true, if_false, e1, e2, e3, x1, x2, List.length_set, List.length_append, ew]
        · simp (disch := (first | omega | (simp only [List.length_append, List.length_cons, List.length_nil, List.length_take, List.length_drop, List.length_set, List.length_replicate, List.length_singleton]; omega))) only [↓if_dpos, ↓if_dneg, ↓if_epos, ↓if_eneg, ↓if_npos, ↓if_nneg, ↓if_pos, ↓if_neg, Int.toNat_natCast, List.nil_append, Nat.zero_add, List.length_singleton, Option.bind_some, List.drop_zero, List.take_length, if_true, if_false, e1, List.length_set, List.length_append]
theorem card_good (hs : List (List Int)) (le tr : Int) (tk wo po : List Int) (lf : Int) (c : Int) (hh : G2 hs) (h3 : tk.length ≤ 2097152) (hwo : wo.length ≤ 2097152) (hpo : po.length ≤ 2097152) : ∃ r0 r1 r2 r3 r4 r5 r6 r7, cardM hs le tr tk wo po lf c = (r0, r1, r2, r3, r4, r5, r6, r7) ∧ G2 r0 ∧ r3.length ≤ 2097152 ∧ r4.length ≤ 2097152 ∧ r5.length ≤ 2097152 := by
  have hq := hh.at' (i := (whoM hs le tr tk wo po lf).toNat)
  rw [cardM]
  by_cases hc : (dealM hs le tr tk wo po lf && (!decide (whoM hs le tr tk wo po lf < 0) && mayPM (hs.getD (whoM hs le tr tk wo po lf).toNat []) tk c)) = true
  · rw [if_pos hc]
    simp only [Bool.and_eq_true] at hc
    have v := dealM_valid hs le tr tk wo po lf hc.1
    have v2 := v.n2; have v7 := v.trick
    have hs1 : G2 (hs.set (whoM hs le tr tk wo po lf).toNat (withoutM (hs.getD (whoM hs le tr tk wo po lf).toNat []) c)) := G2.set hh (Nat.le_trans (withoutM_length _ _) hq)
    by_cases cl : tk.length + 1 = hs.length
    · rw [if_pos cl]; exact ⟨_, _, _, _, _, _, _, _, rfl, hs1, Nat.zero_le _, by simpa using hwo, by simpa using hpo⟩
    · rw [if_neg cl]; exact ⟨_, _, _, _, _, _, _, _, rfl, hs1, by simp only [List.length_append, List.length_singleton]; omega, hwo, hpo⟩
  · rw [if_neg hc]; exact ⟨_, _, _, _, _, _, _, _, rfl, hh, h3, hwo, hpo⟩
end Go.Proofs.Ytdkhomhdapoeoaa.V
