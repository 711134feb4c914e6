/- Plain laws over the shapes. -/
import Derived.Test.YthppocflbgnjlaaDoorP1
import Derived.Test.YthppocflbgnjlaaDoorS1
import Derived.Test.YthppocflbgnjlaaDoorS2
import Derived.Test.YthppocflbgnjlaaDoorS3
set_option linter.unusedVariables false
set_option linter.unusedSimpArgs false
set_option maxRecDepth 10000
namespace Go.Proofs.YthppocflbgnjlaaDoor.V
open Go
def leafM (t : Int) : Bool := inR t 100 103 || (inR t 200 212 || (inR t 300 312 || t == 400))
theorem spec_l8Leaf_ok (t : Int) : spec_l8Leaf t = some (leafM t) := by
  simp only [spec_l8Leaf_eq, spec_l1In_ok, Option.bind_some, leafM]
  cases inR t 100 103 <;> cases inR t 200 212 <;> cases inR t 300 312 <;> rfl
theorem impl_isTest_ok (t : Int) : impl_isTest t = some (leafM t) := by
  simp only [impl_isTest_eq, impl_InRange_ok, Option.bind_some, leafM]
  cases inR t 100 103 <;> cases inR t 200 212 <;> cases inR t 300 312 <;> rfl
/-- Is the rest of a pattern right behind d asks? -/
def pat : List Int → Nat → Bool
  | [], d => d == 1
  | t :: r, d => if leafM t = true then pat r (d + 1) else if t = -1 then decide (1 ≤ d) && pat r d else if t = -2 ∨ t = -3 then decide (2 ≤ d) && pat r (d - 1) else false
def isPat (l : List Int) : Bool := pat l 0 && decide (l.length ≤ 20)
theorem leaf_ne {t : Int} (h : leafM t = true) : t ≠ -1 ∧ t ≠ -2 ∧ t ≠ -3 := by
  simp [leafM, inR] at h; omega
theorem pat_leaf {t : Int} {r : List Int} {d : Nat} (h : leafM t = true) : pat (t :: r) d = pat r (d + 1) := by rw [pat, if_pos h]
theorem pat_not {r : List Int} {d : Nat} : pat (-1 :: r) d = (decide (1 ≤ d) && pat r d) := by rw [pat, if_neg (by decide), if_pos rfl]
theorem pat_two {t : Int} {r : List Int} {d : Nat} (h : t = -2 ∨ t = -3) : pat (t :: r) d = (decide (2 ≤ d) && pat r (d - 1)) := by
  have h1 : leafM t = false := by rcases h with h | h <;> rw [h] <;> decide
  rw [pat, if_neg (by rw [h1]; decide), if_neg (by omega), if_pos h]
theorem pat_bad {t : Int} {r : List Int} {d : Nat} (h : leafM t ≠ true) (h1 : t ≠ -1) (h2 : t ≠ -2) (h3 : t ≠ -3) : pat (t :: r) d = false := by
  rw [pat, if_neg h, if_neg h1, if_neg (by omega)]
theorem spec_IsPattern_ok (l : List Int) (hl : l.length ≤ 1048576) : spec_IsPattern l = some (isPat l) := by
  have h : ∀ i, i ≤ l.length → ∀ d : Nat, d ≤ i → spec_IsPattern_L3 l d i = some (pat (l.drop i) d && decide (l.length ≤ 20)) := down (by
      intro d hd
      rw [spec_IsPattern_L3_eq, if_neg (by simp), List.drop_of_length_le (Nat.le_refl _), pat]
      by_cases h1 : d = 1
      · rw [if_pos (by simp [h1]), h1]; congr 1; rw [Bool.eq_iff_iff]; simp; omega
      · rw [if_neg (by simp; omega)]; simp [h1]) fun i hi ih d hd => by
    have hi0 : (0 : Int) ≤ (i : Int) := by omega
    have hil : (i : Int) < (l.length : Int) := by omega
    rw [spec_IsPattern_L3_eq, if_pos (by simpa using hi), if_pos hi0, if_pos hil, wrap_succ hi (by omega), Int.toNat_natCast, spec_l8Leaf_ok, Option.bind_some, getD_drop (d := 0) hi]
    generalize l.getD i 0 = t
    by_cases hlf : leafM t = true
    · rw [if_pos hlf, pat_leaf hlf, wrap_id (by omega) (by omega)]
      exact ih (d + 1) (by omega)
    · rw [if_neg hlf, if_pos hi0, if_pos hil]
      by_cases h1 : t = -1
      · subst h1
        rw [if_pos (by decide), pat_not]
        by_cases hd1 : 1 ≤ d
        · rw [if_pos (by simp; omega), decide_eq_true hd1, Bool.true_and]; exact ih d (by omega)
        · rw [if_neg (by simp; omega), decide_eq_false hd1, Bool.false_and, Bool.false_and, if_pos hi0, if_pos hil, if_neg (by decide), if_pos hi0, if_pos hil, if_neg (by decide)]
      · rw [if_neg (by simpa using h1), if_pos hi0, if_pos hil]
        by_cases h2 : t = -2
        · rw [if_pos (by simpa using h2), pat_two (.inl h2)]
          by_cases hd2 : 2 ≤ d
          · rw [if_pos (by simp; omega), decide_eq_true hd2, Bool.true_and, wrap_id (by omega) (by omega), show (d : Int) - 1 = ((d - 1 : Nat) : Int) by omega]; exact ih (d - 1) (by omega)
          · rw [if_neg (by simp; omega), decide_eq_false hd2, Bool.false_and, Bool.false_and]
        · rw [if_neg (by simpa using h2), if_pos hi0, if_pos hil]
          by_cases h3 : t = -3
          · rw [if_pos (by simpa using h3), pat_two (.inr h3)]
            by_cases hd2 : 2 ≤ d
            · rw [if_pos (by simp; omega), decide_eq_true hd2, Bool.true_and, wrap_id (by omega) (by omega), show (d : Int) - 1 = ((d - 1 : Nat) : Int) by omega]; exact ih (d - 1) (by omega)
            · rw [if_neg (by simp; omega), decide_eq_false hd2, Bool.false_and, Bool.false_and]
          · rw [if_neg (by simpa using h3), pat_bad hlf h1 h2 h3]; rfl
  rw [spec_IsPattern_eq]
  exact h 0 (Nat.zero_le _) 0 (Nat.le_refl _)
theorem impl_IsPattern_ok (l : List Int) (hl : l.length ≤ 1048576) : impl_IsPattern l = some (isPat l) := by
  have h : ∀ i, i ≤ l.length → ∀ d : Nat, d ≤ i → impl_IsPattern_L3 l d l l.length i = some (pat (l.drop i) d && decide (l.length ≤ 20)) := down (by
      intro d hd
      rw [impl_IsPattern_L3_eq, if_neg (by simp), List.drop_of_length_le (Nat.le_refl _), pat, impl_InRange_ok, Option.bind_some]
      by_cases h1 : d = 1
      · subst h1
        have : inR (l.length : Int) 1 20 = decide (l.length ≤ 20) := by
          rw [inR, Bool.eq_iff_iff]; simp; omega
        rw [this]
        by_cases h2 : l.length ≤ 20
        · rw [decide_eq_true h2]; rfl
        · rw [decide_eq_false h2]; rfl
      · have e1 : ((d : Int) == 1) = false := by simp; omega
        have e2 : (d == 1) = false := by simp [h1]
        rw [e1, e2]; split <;> rfl) fun i hi ih d hd => by
    have hi0 : (0 : Int) ≤ (i : Int) := by omega
    have hil : (i : Int) < (l.length : Int) := by omega
    rw [impl_IsPattern_L3_eq, if_pos (by simpa using hi), if_pos hi0, if_pos hil, wrap_succ hi (by omega), Int.toNat_natCast, impl_isTest_ok, Option.bind_some, getD_drop (d := 0) hi]
    generalize l.getD i 0 = t
    by_cases hlf : leafM t = true
    · rw [if_pos hlf, pat_leaf hlf, wrap_id (by omega) (by omega)]
      exact ih (d + 1) (by omega)
    · rw [if_neg hlf]
      by_cases h1 : t = -1
      · subst h1
        rw [if_pos (by decide), pat_not]
        by_cases hd1 : 1 ≤ d
        · rw [if_pos (by simp; omega), decide_eq_true hd1, Bool.true_and]; exact ih d (by omega)
        · rw [if_neg (by simp; omega), decide_eq_false hd1, Bool.false_and, Bool.false_and, if_neg (by decide), if_neg (by decide)]
      · rw [if_neg (by simpa using h1)]
        by_cases h2 : t = -2
        · rw [if_pos (by simpa using h2), pat_two (.inl h2)]
          by_cases hd2 : 2 ≤ d
          · rw [if_pos (by simp; omega), decide_eq_true hd2, Bool.true_and, wrap_id (by omega) (by omega), show (d : Int) - 1 = ((d - 1 : Nat) : Int) by omega]; exact ih (d - 1) (by omega)
          · rw [if_neg (by simp; omega), decide_eq_false hd2, Bool.false_and, Bool.false_and]
        · rw [if_neg (by simpa using h2)]
          by_cases h3 : t = -3
          · rw [if_pos (by simpa using h3), pat_two (.inr h3)]
            by_cases hd2 : 2 ≤ d
            · rw [if_pos (by simp; omega), decide_eq_true hd2, Bool.true_and, wrap_id (by omega) (by omega), show (d : Int) - 1 = ((d - 1 : Nat) : Int) by omega]; exact ih (d - 1) (by omega)
            · rw [if_neg (by simp; omega), decide_eq_false hd2, Bool.false_and, Bool.false_and]
          · rw [if_neg (by simpa using h3), pat_bad hlf h1 h2 h3]; rfl
  rw [impl_IsPattern_eq]
  exact h 0 (Nat.zero_le _) 0 (Nat.le_refl _)
def maybeM (l : List Int) : Bool := (l.length == 0) || isPat l
theorem spec_l22Pattern_ok (l : List Int) (hl : l.length ≤ 1048576) : spec_l22Pattern l = some (maybeM l) := by
  rw [spec_l22Pattern_eq, spec_IsPattern_ok l hl, Option.bind_some, maybeM]
  by_cases h : l.length = 0
  · rw [if_pos (by simpa using h), h]; rfl
  · rw [if_neg (by simpa using h)]; simp [h]
theorem impl_isMaybe_ok (l : List Int) (hl : l.length ≤ 1048576) : impl_isMaybe l = some (maybeM l) := by
  rw [impl_isMaybe_eq, impl_IsPattern_ok l hl, Option.bind_some, maybeM]
  by_cases h : l.length = 0
  · rw [if_pos (by simpa using h), h]; rfl
  · rw [if_neg (by simpa using h)]; simp [h]
def rulesM (a0 a1 : Int) (a2 a3 : Bool) (a4 a5 : List Int) (a6 a7 : Int) : Bool := inR a0 2 6 && (inR a1 1 8 && ((a2 || a3) && (maybeM a4 && (maybeM a5 && (inR a6 1 4 && inR a7 1 400)))))
theorem spec_IsRules_ok (a0 a1 : Int) (a2 a3 : Bool) (a4 a5 : List Int) (a6 a7 : Int) (h4 : a4.length ≤ 1048576) (h5 : a5.length ≤ 1048576) : spec_IsRules a0 a1 a2 a3 a4 a5 a6 a7 = some (rulesM a0 a1 a2 a3 a4 a5 a6 a7) := by
  simp only [spec_IsRules_eq, spec_l1In_ok, spec_l22Pattern_ok a4 h4, spec_l22Pattern_ok a5 h5, Option.bind_some, rulesM]
  cases inR a0 2 6 <;> cases inR a1 1 8 <;> cases a2 <;> cases a3 <;> cases maybeM a4 <;> cases maybeM a5 <;> cases inR a6 1 4 <;> rfl
theorem impl_IsRules_ok (a0 a1 : Int) (a2 a3 : Bool) (a4 a5 : List Int) (a6 a7 : Int) (h4 : a4.length ≤ 1048576) (h5 : a5.length ≤ 1048576) : impl_IsRules a0 a1 a2 a3 a4 a5 a6 a7 = some (rulesM a0 a1 a2 a3 a4 a5 a6 a7) := by
  simp only [impl_IsRules_eq, impl_InRange_ok, impl_isMaybe_ok a4 h4, impl_isMaybe_ok a5 h5, Option.bind_some, rulesM]
  cases inR a0 2 6 <;> cases inR a1 1 8 <;> cases a2 <;> cases a3 <;> cases maybeM a4 <;> cases maybeM a5 <;> cases inR a6 1 4 <;> rfl
def valueM (t c : Int) : Bool := if t = 400 then redM c else if t ≥ 300 then decide (rankM c ≥ IntKind.i64.wrap (t - 300)) else if t ≥ 200 then rankM c == IntKind.i64.wrap (t - 200) else suitM c == IntKind.i64.wrap (t - 100)
end Go.Proofs.YthppocflbgnjlaaDoor.V
