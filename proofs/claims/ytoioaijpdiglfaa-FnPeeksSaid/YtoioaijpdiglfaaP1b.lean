/- Plain laws over the shapes. -/
import Derived.Test.YtoioaijpdiglfaaP1
import Derived.Test.YtoioaijpdiglfaaS1
import Derived.Test.YtoioaijpdiglfaaS2
set_option linter.unusedVariables false
set_option linter.unusedSimpArgs false
set_option maxRecDepth 10000
namespace Go.Proofs.Ytoioaijpdiglfaa.V
open Go
def leafM (t : Int) : Bool := inR t 100 103 || (inR t 200 212 || (inR t 300 312 || t == 400))
theorem spec_l8Leaf_ok (t : Int) : spec_l8Leaf t = some (leafM t) := by
  simp only [spec_l8Leaf_eq, spec_l1In_ok, Option.bind_some, leafM]
  cases inR t 100 103 <;> cases inR t 200 212 <;> cases inR t 300 312 <;> rfl
theorem impl_isTest_ok (t : Int) : impl_isTest t = some (leafM t) := by
  simp only [impl_isTest_eq, impl_InRange_ok, Option.bind_some, leafM]
  cases inR t 100 103 <;> cases inR t 200 212 <;> cases inR t 300 312 <;> rfl
/-- Is the rest of a pattern right behind d asks? -/
def pat : List Int → Nat → Bool
  | [], d => d == 1
  | t :: r, d => if leafM t = true then pat r (d + 1) else if t = -1 then decide (1 ≤ d) && pat r d else if t = -2 ∨ t = -3 then decide (2 ≤ d) && pat r (d - 1) else false
def isPat (l : List Int) : Bool := pat l 0 && decide (l.length ≤ 20)
theorem leaf_ne {t : Int} (h : leafM t = true) : t ≠ -1 ∧ t ≠ -2 ∧ t ≠ -3 := by
  simp [leafM, inR] at h; omega
theorem pat_leaf {t : Int} {r : List Int} {d : Nat} (h : leafM t = true) : pat (t :: r) d = pat r (d + 1) := by rw [pat, if_pos h]
theorem pat_not {r : List Int} {d : Nat} : pat (-1 :: r) d = (decide (1 ≤ d) && pat r d) := by rw [pat, if_neg (by decide), if_pos rfl]
theorem pat_two {t : Int} {r : List Int} {d : Nat} (h : t = -2 ∨ t = -3) : pat (t :: r) d = (decide (2 ≤ d) && pat r (d - 1)) := by
  have h1 : leafM t = false := by rcases h with h | h <;> rw [h] <;> decide
  rw [pat, if_neg (by rw [h1]; decide), if_neg (by omega), if_pos h]
theorem pat_bad {t : Int} {r : List Int} {d : Nat} (h : leafM t ≠ true) (h1 : t ≠ -1) (h2 : t ≠ -2) (h3 : t ≠ -3) : pat (t :: r) d = false := by
  rw [pat, if_neg h, if_neg h1, if_neg (by omega)]
theorem spec_IsPattern_ok (l : List Int) (hl : l.length ≤ 1048576) : spec_IsPattern l = some (isPat l) := by
  have h : ∀ i, i ≤ l.length → ∀ d : Nat, d ≤ i → spec_IsPattern_L3 l d i = some (pat (l.drop i) d && decide (l.length ≤ 20)) := down (by
      intro d hd
      rw [spec_IsPattern_L3_eq, if_neg (by simp), List.drop_of_length_le (Nat.le_refl _), pat]
      by_cases h1 : d = 1
      · rw [if_pos (by simp [h1]), h1]; congr 1; rw [Bool.eq_iff_iff]; simp; omega
      · rw [if_neg (by simp; omega)]; simp [h1]) fun i hi ih d hd => by
    have hi0 : (0 : Int) ≤ (i : Int) := by omega
    have hil : (i : Int) < (l.length : Int) := by omega
    rw [spec_IsPattern_L3_eq, if_pos (by simpa using hi), if_pos hi0, if_pos hil, wrap_succ hi (by omega), Int.toNat_natCast, spec_l8Leaf_ok, Option.bind_some, getD_drop (d := 0) hi]
    generalize l.getD i 0 = t
    by_cases hlf : leafM t = true
    · rw [if_pos hlf, pat_leaf hlf, wrap_id (by omega) (by omega)]
      exact ih (d + 1) (by omega)
    · rw [if_neg hlf, if_pos hi0, if_pos hil]
      by_cases h1 : t = -1
      · subst h1
        rw [if_pos (by decide), pat_not]
        by_cases hd1 : 1 ≤ d
        · rw [if_pos (by simp; omega), decide_eq_true hd1, Bool.true_and]; exact ih d (by omega)
        · rw [if_neg (by simp; omega), decide_eq_false hd1, Bool.false_and, Bool.false_and, if_pos hi0, if_pos hil, if_neg (by decide), if_pos hi0, if_pos hil, if_neg (by decide)]
      · rw [if_neg (by simpa using h1), if_pos hi0, if_pos hil]
        by_cases h2 : t = -2
        · rw [if_pos (by simpa using h2), pat_two (.inl h2)]
          by_cases hd2 : 2 ≤ d
          · rw [if_pos (by simp; omega), decide_eq_true hd2, Bool.true_and, wrap_id (by omega) (by omega), show (d : Int) - 1 = ((d - 1 : Nat) : Int) by omega]; exact ih (d - 1) (by omega)
          · rw [if_neg (by simp; omega), decide_eq_false hd2, Bool.false_and, Bool.false_and]
        · rw [if_neg (by simpa using h2), if_pos hi0, if_pos hil]
          by_cases h3 : t = -3
          · rw [if_pos (by simpa using h3), pat_two (.inr h3)]
            by_cases hd2 : 2 ≤ d
            · rw [if_pos (by simp; omega), decide_eq_true hd2, Bool.true_and, wrap_id (by omega) (by omega), show (d : Int) - 1 = ((d - 1 : Nat) : Int) by omega]; exact ih (d - 1) (by omega)
            · rw [if_neg (by simp; omega), decide_eq_false hd2, Bool.false_and, Bool.false_and]
          · rw [if_neg (by simpa using h3), pat_bad hlf h1 h2 h3]; rfl
  rw [spec_IsPattern_eq]
  exact h 0 (Nat.zero_le _) 0 (Nat.le_refl _)
theorem impl_IsPattern_ok (l : List Int) (hl : l.length ≤ 1048576) : impl_IsPattern l = some (isPat l) := by
  have h : ∀ i, i ≤ l.length → ∀ d : Nat, d ≤ i → impl_IsPattern_L3 l d l l.length i = some (pat (l.drop i) d && decide (l.length ≤ 20)) := down (by
      intro d hd
      rw [impl_IsPattern_L3_eq, if_neg (by simp), List.drop_of_length_le (Nat.le_refl _), pat, impl_InRange_ok, Option.bind_some]
      by_cases h1 : d = 1
      · subst h1
        have : inR (l.length : Int) 1 20 = decide (l.length ≤ 20) := by
          rw [inR, Bool.eq_iff_iff]; simp; omega
        rw [this]
        by_cases h2 : l.length ≤ 20
        · rw [decide_eq_true h2]; rfl
        · rw [decide_eq_false h2]; rfl
      · have e1 : ((d : Int) == 1) = false := by simp; omega
        have e2 : (d == 1) = false := by simp [h1]
        rw [e1, e2]; split <;> rfl) fun i hi ih d hd => by
    have hi0 : (0 : Int) ≤ (i : Int) := by omega
    have hil : (i : Int) < (l.length : Int) := by omega
    rw [impl_IsPattern_L3_eq, if_pos (by simpa using hi), if_pos hi0, if_pos hil, wrap_succ hi (by omega), Int.toNat_natCast, impl_isTest_ok, Option.bind_some, getD_drop (d := 0) hi]
    generalize l.getD i 0 = t
    by_cases hlf : leafM t = true
    · rw [if_pos hlf, pat_leaf hlf, wrap_id (by omega) (by omega)]
      exact ih (d + 1) (by omega)
    · rw [if_neg hlf]
      by_cases h1 : t = -1
      · subst h1
        rw [if_pos (by decide), pat_not]
        by_cases hd1 : 1 ≤ d
        · rw [if_pos (by simp; omega), decide_eq_true hd1, Bool.true_and]; exact ih d (by omega)
        · rw [if_neg (by simp; omega), decide_eq_false hd1, Bool.false_and, Bool.false_and, if_neg (by decide), if_neg (by decide)]
      · rw [if_neg (by simpa using h1)]
        by_cases h2 : t = -2
        · rw [if_pos (by simpa using h2), pat_two (.inl h2)]
          by_cases hd2 : 2 ≤ d
          · rw [if_pos (by simp; omega), decide_eq_true hd2, Bool.true_and, wrap_id (by omega) (by omega), show (d : Int) - 1 = ((d - 1 : Nat) : Int) by omega]; exact ih (d - 1) (by omega)
          · rw [if_neg (by simp; omega), decide_eq_false hd2, Bool.false_and, Bool.false_and]
        · rw [if_neg (by simpa using h2)]
          by_cases h3 : t = -3
          · rw [if_pos (by simpa using h3), pat_two (.inr h3)]
            by_cases hd2 : 2 ≤ d
            · rw [if_pos (by simp; omega), decide_eq_true hd2, Bool.true_and, wrap_id (by omega) (by omega), show (d : Int) - 1 = ((d - 1 : Nat) : Int) by omega]; exact ih (d - 1) (by omega)
            · rw [if_neg (by simp; omega), decide_eq_false hd2, Bool.false_and, Bool.false_and]
          · rw [if_neg (by simpa using h3), pat_bad hlf h1 h2 h3]; rfl
  rw [impl_IsPattern_eq]
  exact h 0 (Nat.zero_le _) 0 (Nat.le_refl _)
def maybeM (l : List Int) : Bool := (l.length == 0) || isPat l
theorem spec_l22Pattern_ok (l : List Int) (hl : l.length ≤ 1048576) : spec_l22Pattern l = some (maybeM l) := by
  rw [spec_l22Pattern_eq, spec_IsPattern_ok l hl, Option.bind_some, maybeM]
  by_cases h : l.length = 0
  · rw [if_pos (by simpa using h), h]; rfl
  · rw [if_neg (by simpa using h)]; simp [h]
theorem impl_isMaybe_ok (l : List Int) (hl : l.length ≤ 1048576) : impl_isMaybe l = some (maybeM l) := by
  rw [impl_isMaybe_eq, impl_IsPattern_ok l hl, Option.bind_some, maybeM]
  by_cases h : l.length = 0
  · rw [if_pos (by simpa using h), h]; rfl
  · rw [if_neg (by simpa using h)]; simp [h]
def rulesM (a0 a1 : Int) (a2 a3 : Bool) (a4 a5 : List Int) (a6 a7 : Int) : Bool := inR a0 2 6 && (inR a1 1 8 && ((a2 || a3) && (maybeM a4 && (maybeM a5 && (inR a6 1 4 && inR a7 1 400)))))
theorem spec_IsRules_ok (a0 a1 : Int) (a2 a3 : Bool) (a4 a5 : List Int) (a6 a7 : Int) (h4 : a4.length ≤ 1048576) (h5 : a5.length ≤ 1048576) : spec_IsRules a0 a1 a2 a3 a4 a5 a6 a7 = some (rulesM a0 a1 a2 a3 a4 a5 a6 a7) := by
  simp only [spec_IsRules_eq, spec_l1In_ok, spec_l22Pattern_ok a4 h4, spec_l22Pattern_ok a5 h5, Option.bind_some, rulesM]
  cases inR a0 2 6 <;> cases inR a1 1 8 <;> cases a2 <;> cases a3 <;> cases maybeM a4 <;> cases maybeM a5 <;> cases inR a6 1 4 <;> rfl
theorem impl_IsRules_ok (a0 a1 : Int) (a2 a3 : Bool) (a4 a5 : List Int) (a6 a7 : Int) (h4 : a4.length ≤ 1048576) (h5 : a5.length ≤ 1048576) : impl_IsRules a0 a1 a2 a3 a4 a5 a6 a7 = some (rulesM a0 a1 a2 a3 a4 a5 a6 a7) := by
  simp only [impl_IsRules_eq, impl_InRange_ok, impl_isMaybe_ok a4 h4, impl_isMaybe_ok a5 h5, Option.bind_some, rulesM]
  cases inR a0 2 6 <;> cases inR a1 1 8 <;> cases a2 <;> cases a3 <;> cases maybeM a4 <;> cases maybeM a5 <;> cases inR a6 1 4 <;> rfl
def valueM (t c : Int) : Bool := if t = 400 then redM c else if t ≥ 300 then decide (rankM c ≥ IntKind.i64.wrap (t - 300)) else if t ≥ 200 then rankM c == IntKind.i64.wrap (t - 200) else suitM c == IntKind.i64.wrap (t - 100)
theorem spec_l8Value_ok (t c : Int) : spec_l8Value t c = some (valueM t c) := by
  simp only [spec_l8Value_eq, spec_IsRed_ok, spec_RankOf_ok, spec_SuitOf_ok, Option.bind_some, valueM]
  by_cases h1 : t = 400
  · simp [h1]
  · by_cases h2 : t ≥ 300
    · simp [h1, h2]
    · by_cases h3 : t ≥ 200 <;> simp [h1, h2, h3]
theorem impl_asks_ok (t c : Int) : impl_asks t c = some (valueM t c) := by
  simp only [impl_asks_eq, impl_IsRed_ok, impl_RankOf_ok, impl_SuitOf_ok, Option.bind_some, valueM]
  by_cases h1 : t = 400
  · simp [h1]
  · by_cases h2 : t ≥ 300
    · simp [h1, h2]
    · by_cases h3 : t ≥ 200 <;> simp [h1, h2, h3]
theorem matches_loop (x : List Int) (c : Int) (hl : x.length ≤ 1048576) : ∀ i, i ≤ x.length → ∀ r : List Bool, r.length ≤ i → pat (x.drop i) r.length = true → ∃ v, spec_Matches_L5 x c i r = some v ∧ impl_Matches_L5 c x x.length i r = some v := down (by
    intro r hr hp
    rw [List.drop_of_length_le (Nat.le_refl _), pat] at hp
    have hp : r.length = 1 := by simpa using hp
    have hd : ¬ decide ((x.length : Int) < (x.length : Int)) = true := by simp
    have h0 : (0 : Int) < (r.length : Int) := by omega
    rw [spec_Matches_L5_eq, impl_Matches_L5_eq]
    simp only [if_neg hd, if_pos h0]
    exact ⟨_, rfl, rfl⟩) fun i hi ih r hr hp => by
  have hi0 : (0 : Int) ≤ (i : Int) := by omega
  have hil : (i : Int) < (x.length : Int) := by omega
  rw [getD_drop (d := 0) hi] at hp
  have hdd : decide ((i : Int) < (x.length : Int)) = true := decide_eq_true hil
  rw [spec_Matches_L5_eq, impl_Matches_L5_eq]
  simp only [if_pos hdd, if_pos hi0, if_pos hil, wrap_succ hi (by omega), Int.toNat_natCast]
  generalize x.getD i 0 = t at hp
  by_cases hlf : leafM t = true
  · obtain ⟨n1, n2, n3⟩ := leaf_ne hlf
    rw [pat_leaf hlf] at hp
    rw [if_neg (by simpa using n1), if_neg (by simpa using n2), if_neg (by simpa using n3), spec_l8Value_ok, Option.bind_some, if_pos (by simp; omega), if_neg (by simpa using n1), if_neg (by simpa using n2), if_neg (by simpa using n3), impl_asks_ok, Option.bind_some, if_pos (by simp; omega)]
    exact ih _ (by simp; omega) (by simpa using hp)
  · by_cases h1 : t = -1
    · subst h1
      rw [pat_not] at hp
      simp only [Bool.and_eq_true, decide_eq_true_eq] at hp
      have w1 : IntKind.i64.wrap ((r.length : Int) - 1) = ((r.length - 1 : Nat) : Int) := by rw [wrap_id (by omega) (by omega)]; omega
      have g1 : (0 : Int) ≤ ((r.length - 1 : Nat) : Int) := by omega
      have g2 : ((r.length - 1 : Nat) : Int) < (r.length : Int) := by omega
      simp only [w1, Int.toNat_natCast, if_pos g1, if_pos g2]
      rw [if_pos (by decide), if_pos (by decide)]
      exact ih _ (by simp; omega) (by simpa using hp.2)
    · have h23 : t = -2 ∨ t = -3 := by
        by_cases h2 : t = -2
        · exact .inl h2
        · by_cases h3 : t = -3
          · exact .inr h3
          · rw [pat_bad hlf h1 h2 h3] at hp; cases hp
      rw [pat_two h23] at hp
      simp only [Bool.and_eq_true, decide_eq_true_eq] at hp
      have w1 : IntKind.i64.wrap ((r.length : Int) - 1) = ((r.length - 1 : Nat) : Int) := by rw [wrap_id (by omega) (by omega)]; omega
      have w2 : IntKind.i64.wrap ((r.length : Int) - 2) = ((r.length - 2 : Nat) : Int) := by rw [wrap_id (by omega) (by omega)]; omega
      have g1 : (0 : Int) ≤ ((r.length - 1 : Nat) : Int) := by omega
      have g2 : ((r.length - 1 : Nat) : Int) < (r.length : Int) := by omega
      have g3 : (0 : Int) ≤ ((r.length - 2 : Nat) : Int) := by omega
      have g4 : ((r.length - 2 : Nat) : Int) < (r.length : Int) := by omega
      have g5 : ((r.length - 2 : Nat) : Int) ≤ (r.length : Int) := by omega
      have hs : ∀ b : Bool, (((r.take (r.length - 2)).drop 0).length + [b].length) * 1 ≤ 140737488355328 := fun b => by simp; omega
      have hn : ∀ b : Bool, ∃ v, spec_Matches_L5 x c ((i + 1 : Nat) : Int) ((r.take (r.length - 2)).drop 0 ++ [b]) = some v ∧ impl_Matches_L5 c x x.length ((i + 1 : Nat) : Int) ((r.take (r.length - 2)).drop 0 ++ [b]) = some v := fun b => ih _ (by simp; omega) (by
        have : ((r.take (r.length - 2)).drop 0 ++ [b]).length = r.length - 1 := by simp; omega
        rw [this]; exact hp.2)
      simp only [w1, w2, Int.toNat_natCast, if_pos g1, if_pos g2, if_pos g3, if_pos g4, if_pos g5, if_pos (hs _)]
      rcases h23 with h | h
      · subst h
        have b1 : ((-2 : Int) == -1) = false := rfl
        have b2 : ((-2 : Int) == -2) = true := rfl
        simp only [b1, b2, Bool.false_eq_true, if_false, if_true]
        cases r.getD (r.length - 2) false
        · simp only [Bool.false_eq_true, if_false]; exact hn _
        · simp only [if_true]; exact hn _
      · subst h
        have b1 : ((-3 : Int) == -1) = false := rfl
        have b2 : ((-3 : Int) == -2) = false := rfl
        have b3 : ((-3 : Int) == -3) = true := rfl
        simp only [b1, b2, b3, Bool.false_eq_true, if_false, if_true]
        cases r.getD (r.length - 2) false
        · simp only [Bool.false_eq_true, if_false]; exact hn _
        · simp only [if_true]; exact hn _
theorem matches_both (p : List Int) (c : Int) (hl : p.length ≤ 1048576) : ∃ v, spec_Matches p c = some v ∧ impl_Matches p c = some v := by
  rw [spec_Matches_eq, impl_Matches_eq]
  simp only [spec_IsPattern_ok p hl, impl_IsPattern_ok p hl, Option.bind_some, spec_IsCard_ok, impl_IsCard_ok]
  cases hp : isPat p
  · exact ⟨false, rfl, rfl⟩
  · cases hc : isC c
    · exact ⟨false, rfl, rfl⟩
    · simp only [Bool.not_true, Bool.false_eq_true, if_false]
      exact matches_loop p c hl 0 (Nat.zero_le _) [] (Nat.le_refl _) (by simp only [isPat, Bool.and_eq_true] at hp; exact hp.1)
noncomputable def matchesM (p : List Int) (c : Int) : Bool := (spec_Matches p c).getD false
theorem spec_Matches_ok (p : List Int) (c : Int) (hl : p.length ≤ 1048576) : spec_Matches p c = some (matchesM p c) := by
  obtain ⟨v, h, _⟩ := matches_both p c hl; rw [matchesM, h]; rfl
noncomputable def skipM (a0 a1 : Int) (a2 a3 : Bool) (a4 a5 : List Int) (a6 a7 c : Int) : Bool := rulesM a0 a1 a2 a3 a4 a5 a6 a7 && matchesM a5 c
theorem spec_DoesSkip_ok (a0 a1 : Int) (a2 a3 : Bool) (a4 a5 : List Int) (a6 a7 c : Int) (h4 : a4.length ≤ 1048576) (h5 : a5.length ≤ 1048576) : spec_DoesSkip a0 a1 a2 a3 a4 a5 a6 a7 c = some (skipM a0 a1 a2 a3 a4 a5 a6 a7 c) := by
  simp only [spec_DoesSkip_eq, spec_IsRules_ok _ _ _ _ _ _ _ _ h4 h5, spec_Matches_ok _ _ h5, Option.bind_some, skipM]
  cases rulesM a0 a1 a2 a3 a4 a5 a6 a7 <;> rfl
end Go.Proofs.Ytoioaijpdiglfaa.V
