/- LongestPlays of the program and of the reference are the same number for every record, and the record is left as it was; no condition. -/
import Derived.Test.YtgplombkkbppmaaPFnExactLongestPlaysx1
import Derived.Test.YtgplombkkbppmaaBase
set_option linter.unusedVariables false
set_option linter.unusedSimpArgs false
namespace Go.Proofs.Ytgplombkkbppmaa.Pure
open Go.RowKit Go.Proofs.Ytgplombkkbppmaa.PFnExactLongestPlays Go.Proofs.YtgplombkkbppmaaW.PrintWords Go.Proofs.YtgplombkkbppmaaW.PrintLast Go.Proofs.YtgplombkkbppmaaW.PrintMore Go.Proofs.Ytgplombkkbppmaa.Base

/-! ### laws_toIntS -/
theorem toIntS_ev (l : List Int) (hl : l.length ≤ 35184372088832) : Ev (fun k => laws_toIntS.f k l) l := by
  unfold laws_toIntS.f
  refine Ev.pos (by omega) (Ev.pos (by simpa using hl) ?_)
  rw [Int.toNat_natCast]
  refine ev_idx l (fun k (s : List Int) i => laws_toIntS.l0 k l s i) (fun _ _ => l) (fun i s => s.length = l.length ∧ s.take i = l.take i) ?_ ?_ _ ⟨by simp, rfl⟩
  · rintro s ⟨h1, h2⟩
    apply Ev.succ
    have hs : s = l := by rw [← h1, List.take_length] at h2; rw [h2, h1, List.take_length]
    simp only [laws_toIntS.l0, Int.lt_irrefl, if_false, hs]
    exact Ev.now l
  · rintro i x r s hd hi ⟨h1, h2⟩ ih
    apply Ev.succ
    have a1 : (i : Int) < (l.length : Int) := by omega
    have a2 : (0 : Int) ≤ (i : Int) := by omega
    have a3 : (i : Int) < (s.length : Int) := by omega
    simp only [laws_toIntS.l0, if_pos a1, if_pos a2, if_pos a3, rd_drop hd, Int.toNat_natCast, w64_succ hi (by omega)]
    refine ih _ ⟨by simpa using h1, ?_⟩
    rw [drop_take hd, List.take_succ_eq_append_getElem (by simpa using (by omega : i < s.length)), List.take_set_of_le (Nat.le_refl i), h2]
    simp

/-! ### laws_eqIntS -/
theorem eqIntS_loop (a b : List Int) (hab : a.length = b.length) (hl : a.length ≤ 9223372036854775807) : ∀ i, i ≤ a.length → Ev (fun k => laws_eqIntS.l0 k a b (i : Int)) (decide (a.drop i = b.drop i)) := by
  intro i hi
  refine ev_upto a.length (fun k (_ : Unit) i => laws_eqIntS.l0 k a b i) (fun i _ => decide (a.drop i = b.drop i)) (fun _ _ => True) ?_ ?_ i () hi trivial
  · intro _ _
    apply Ev.succ
    simp only [laws_eqIntS.l0, Int.lt_irrefl, if_false]
    refine Ev.to (Ev.now true) ?_
    rw [List.drop_length, hab, List.drop_length]; rfl
  · intro i _ hi _ ih
    apply Ev.succ
    have hd := drop_cons hi
    have hd' := drop_cons (xs := b) (i := i) (by omega)
    have a1 : (i : Int) < (a.length : Int) := by omega
    have a2 : (0 : Int) ≤ (i : Int) := by omega
    have a3 : (i : Int) < (b.length : Int) := by omega
    simp only [laws_eqIntS.l0, if_pos a1, if_pos a2, if_pos a3, rd_drop hd, rd_drop hd', w64_succ hi hl]
    refine Ev.ite (fun h => ?_) (fun h => ?_)
    · refine Ev.to (ih () trivial) ?_
      rw [hd, hd', h]; simp only [List.cons.injEq, true_and]
    · refine Ev.to (Ev.now false) ?_
      rw [hd, hd']; simp only [List.cons.injEq, h, false_and, decide_false]
theorem eqIntS_ev (a b : List Int) (hl : a.length ≤ 9223372036854775807) : Ev (fun k => laws_eqIntS.f k a b) (decide (a = b)) := by
  unfold laws_eqIntS.f
  refine Ev.ite (fun h => ?_) (fun h => ?_)
  · exact eqIntS_loop a b (by omega) hl 0 (by omega)
  · refine Ev.to (Ev.now false) ?_
    have : a ≠ b := fun e => h (by rw [e])
    simp [this]
theorem eqIntS_self (a : List Int) (hl : a.length ≤ 9223372036854775807) : Ev (fun k => laws_eqIntS.f k a a) true :=
  Ev.to (eqIntS_ev a a hl) (by simp)

/-! ### m_inR -/
/-- Is a number from a to b? -/
def inR (x a b : Int) : Bool := decide (a ≤ x ∧ x ≤ b)
theorem inR_iff {x a b : Int} : inR x a b = true ↔ a ≤ x ∧ x ≤ b := by unfold inR; exact decide_eq_true_iff

/-! ### m_IsCard -/
def isCard (x : Int) : Bool := inR x 0 51

/-! ### m_LongestPlays -/
/-- The greatest number of cards one after the other: best so far, the run so far. -/
def mLongest : List Int → Int → Int → Int
  | [], b, _ => b
  | x :: r, b, n => if isCard x = true then mLongest r (mx b (wrap64 (n + 1))) (wrap64 (n + 1)) else mLongest r (mx b 0) 0

/-! ### spec_l1In -/
theorem spec_l1In_eq (x a b : Int) : spec_l1In.f x a b = some (inR x a b) := by
  unfold spec_l1In.f inR
  by_cases h : x ≥ a
  · rw [if_pos h]; simp [h, decide_eq_true (show a ≤ x from h)]
  · rw [if_neg h]; simp [show ¬ a ≤ x from h]

/-! ### spec_IsCard -/
theorem spec_IsCard_eq (x : Int) : spec_IsCard.f x = some (isCard x) := by
  unfold spec_IsCard.f isCard; rw [spec_l1In_eq]; rfl

/-! ### spec_Max -/
theorem spec_Max_eq (a b : Int) : spec_Max.f a b = some (mx a b) := by
  unfold spec_Max.f mx
  by_cases h : a < b
  · rw [if_pos h, if_pos h]
  · rw [if_neg h, if_neg h]

/-! ### spec_LongestPlays -/
theorem spec_LongestPlays_ev (l : List Int) (hl : l.length ≤ 9223372036854775807) : Ev (fun k => spec_LongestPlays.f k l) (mLongest l 0 0) := by
  unfold spec_LongestPlays.f
  refine ev_idx l (fun k (s : Int × Int) i => spec_LongestPlays.l0 k l s.1 s.2 i) (fun r s => mLongest r s.1 s.2) (fun _ _ => True) ?_ ?_ (0, 0) trivial
  · intro s _
    apply Ev.succ
    simp only [spec_LongestPlays.l0, Int.lt_irrefl, if_false]
    exact Ev.now _
  · intro i x r s hd hi _ ih
    apply Ev.succ
    have a1 : (i : Int) < (l.length : Int) := by omega
    have a2 : (0 : Int) ≤ (i : Int) := by omega
    simp only [spec_LongestPlays.l0, if_pos a1, if_pos a2, rd_drop hd, w64_succ hi hl, mLongest, spec_IsCard_eq, spec_Max_eq, Option.bind_some]
    refine Ev.ite (fun h => ?_) (fun h => ?_)
    · rw [if_pos h]; exact ih (_, _) trivial
    · rw [if_neg h]; exact ih (_, _) trivial

/-! ### impl_InRange -/
theorem impl_InRange_eq (x a b : Int) : impl_InRange.f x a b = some (inR x a b) := by
  unfold impl_InRange.f inR
  by_cases h : a ≤ x
  · rw [if_pos h]; simp [h]
  · rw [if_neg h]; simp [h]

/-! ### impl_IsCard -/
theorem impl_IsCard_eq (x : Int) : impl_IsCard.f x = some (isCard x) := by
  unfold impl_IsCard.f isCard; rw [impl_InRange_eq]; rfl

/-! ### impl_LongestPlays -/
theorem impl_LongestPlays_ev (l : List Int) (hl : l.length ≤ 9223372036854775807) : Ev (fun k => impl_LongestPlays.f k l) (mLongest l 0 0) := by
  unfold impl_LongestPlays.f
  refine ev_idx l (fun k (s : Int × Int) i => impl_LongestPlays.l0 k s.1 s.2 l (l.length : Int) i) (fun r s => mLongest r s.1 s.2) (fun _ _ => True) ?_ ?_ (0, 0) trivial
  · intro s _
    apply Ev.succ
    simp only [impl_LongestPlays.l0, Int.lt_irrefl, if_false]
    exact Ev.now _
  · intro i x r s hd hi _ ih
    apply Ev.succ
    have a1 : (i : Int) < (l.length : Int) := by omega
    have a2 : (0 : Int) ≤ (i : Int) := by omega
    simp only [impl_LongestPlays.l0, if_pos a1, if_pos a2, rd_drop hd, w64_succ hi hl, mLongest, impl_IsCard_eq, Option.bind_some]
    refine Ev.ite (fun h => ?_) (fun h => ?_)
    · rw [if_pos h]; exact ih (_, _) trivial
    · rw [if_neg h]; exact ih (_, _) trivial

/-! ### law_FnExactLongestPlays -/
theorem FnExactLongestPlays : laws_FnExactLongestPlays.Pure := by
  intro l hm hb hw
  apply Ev.rounds
  unfold laws_FnExactLongestPlays.f
  refine Ev.ite (fun _ => Ev.now true) (fun h => ?_)
  have hl : l.length ≤ 1048576 := by omega
  have t := toIntS_ev l (by omega)
  refine Ev.bind t (Ev.bind (spec_LongestPlays_ev l (by omega)) (Ev.bind t (Ev.bind (impl_LongestPlays_ev l (by omega)) ?_)))
  refine Ev.pos rfl (Ev.bind t (Ev.bind (eqIntS_self l (by omega)) (Ev.pos rfl (Ev.now true))))

end Go.Proofs.Ytgplombkkbppmaa.Pure
