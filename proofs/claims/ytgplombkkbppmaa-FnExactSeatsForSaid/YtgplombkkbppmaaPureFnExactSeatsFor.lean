/- SeatsFor of the program and of the reference are the same list for all numbers, and each call's result is new memory; no condition. -/
import Derived.Test.YtgplombkkbppmaaPFnExactSeatsForx2
import Derived.Test.YtgplombkkbppmaaBase
set_option linter.unusedVariables false
set_option linter.unusedSimpArgs false
namespace Go.Proofs.Ytgplombkkbppmaa.Pure
open Go.RowKit Go.Proofs.Ytgplombkkbppmaa.PFnExactSeatsFor Go.Proofs.YtgplombkkbppmaaW.PrintWords Go.Proofs.YtgplombkkbppmaaW.PrintLast Go.Proofs.YtgplombkkbppmaaW.PrintMore Go.Proofs.Ytgplombkkbppmaa.Base

/-! ### laws_eqIntS -/
theorem eqIntS_loop (a b : List Int) (hab : a.length = b.length) (hl : a.length ≤ 9223372036854775807) : ∀ i, i ≤ a.length → Ev (fun k => laws_eqIntS.l0 k a b (i : Int)) (decide (a.drop i = b.drop i)) := by
  intro i hi
  refine ev_upto a.length (fun k (_ : Unit) i => laws_eqIntS.l0 k a b i) (fun i _ => decide (a.drop i = b.drop i)) (fun _ _ => True) ?_ ?_ i () hi trivial
  · intro _ _
    apply Ev.succ
    simp only [laws_eqIntS.l0, Int.lt_irrefl, if_false]
    refine Ev.to (Ev.now true) ?_
    rw [List.drop_length, hab, List.drop_length]; rfl
  · intro i _ hi _ ih
    apply Ev.succ
    have hd := drop_cons hi
    have hd' := drop_cons (xs := b) (i := i) (by omega)
    have a1 : (i : Int) < (a.length : Int) := by omega
    have a2 : (0 : Int) ≤ (i : Int) := by omega
    have a3 : (i : Int) < (b.length : Int) := by omega
    simp only [laws_eqIntS.l0, if_pos a1, if_pos a2, if_pos a3, rd_drop hd, rd_drop hd', w64_succ hi hl]
    refine Ev.ite (fun h => ?_) (fun h => ?_)
    · refine Ev.to (ih () trivial) ?_
      rw [hd, hd', h]; simp only [List.cons.injEq, true_and]
    · refine Ev.to (Ev.now false) ?_
      rw [hd, hd']; simp only [List.cons.injEq, h, false_and, decide_false]
theorem eqIntS_ev (a b : List Int) (hl : a.length ≤ 9223372036854775807) : Ev (fun k => laws_eqIntS.f k a b) (decide (a = b)) := by
  unfold laws_eqIntS.f
  refine Ev.ite (fun h => ?_) (fun h => ?_)
  · exact eqIntS_loop a b (by omega) hl 0 (by omega)
  · refine Ev.to (Ev.now false) ?_
    have : a ≠ b := fun e => h (by rw [e])
    simp [this]
theorem eqIntS_self (a : List Int) (hl : a.length ≤ 9223372036854775807) : Ev (fun k => laws_eqIntS.f k a a) true :=
  Ev.to (eqIntS_ev a a hl) (by simp)

/-! ### laws_markIntS -/
theorem markIntS_ev (l : List Int) (a : Int) (ha : 0 ≤ a) (hl : a + (l.length : Int) ≤ 9223372036854775807) : Ev (fun k => laws_markIntS.f k l a) (a + (l.length : Int), marks l.length a) := by
  unfold laws_markIntS.f
  have key := ev_upto l.length (fun k (s : List Int × Int) i => laws_markIntS.l0 k s.1 s.2 i) (fun _ _ => (a + (l.length : Int), marks l.length a)) (fun i s => s.1.length = l.length ∧ s.2 = a + (i : Int) ∧ s.1.take i = marks i a) ?_ ?_ 0 (l, a) (by omega) ⟨rfl, by simp, rfl⟩
  · exact key
  · rintro ⟨s, x⟩ ⟨h1, h2, h3⟩
    simp only at h1 h2 h3
    apply Ev.succ
    have a1 : ¬ ((l.length : Int) < (s.length : Int)) := by omega
    simp only [laws_markIntS.l0, if_neg a1]
    refine Ev.to (Ev.now _) ?_
    rw [h2, ← h3, ← h1, List.take_length]
  · rintro i ⟨s, x⟩ hi ⟨h1, h2, h3⟩ ih
    simp only at h1 h2 h3
    apply Ev.succ
    have a1 : (i : Int) < (s.length : Int) := by omega
    have a2 : (0 : Int) ≤ (i : Int) := by omega
    have e1 : wrap64 (x + 1) = a + ((i + 1 : Nat) : Int) := by rw [w64 (by omega) (by omega)]; omega
    simp only [laws_markIntS.l0, if_pos a1, if_pos a2, Int.toNat_natCast, w64_succ hi (by omega), e1]
    refine ih (s.set i x, a + ((i + 1 : Nat) : Int)) ⟨by simpa using h1, rfl, ?_⟩
    show (s.set i x).take (i + 1) = _
    rw [List.take_succ_eq_append_getElem (by simpa using (by omega : i < s.length)), List.take_set_of_le (Nat.le_refl i), h3]
    simp [marks, List.range_succ, h2]

/-! ### laws_heldIntS -/
theorem heldIntS_ev (n : Nat) (a : Int) (ha : 0 ≤ a) (hl : a + (n : Int) ≤ 9223372036854775807) : Ev (fun k => laws_heldIntS.f k (marks n a) a) (a + (n : Int)) := by
  unfold laws_heldIntS.f
  have key := ev_upto n (fun k (s : Int) i => laws_heldIntS.l0 k (marks n a) s i) (fun _ _ => a + (n : Int)) (fun i s => s = a + (i : Int)) ?_ ?_ 0 a (by omega) (by simp)
  · exact key
  · rintro s rfl
    apply Ev.succ
    have a1 : ¬ ((n : Int) < ((marks n a).length : Int)) := by rw [marks_length]; omega
    simp only [laws_heldIntS.l0, if_neg a1]
    exact Ev.now _
  · rintro i s hi rfl ih
    apply Ev.succ
    have a1 : (i : Int) < ((marks n a).length : Int) := by rw [marks_length]; omega
    have a2 : (0 : Int) ≤ (i : Int) := by omega
    have e1 : wrap64 (a + (i : Int) + 1) = a + ((i + 1 : Nat) : Int) := by rw [w64 (by omega) (by omega)]; omega
    have e2 : rd (marks n a) (i : Int) = a + (i : Int) := by rw [rd_nat]; simp [marks, List.getD_eq_getElem?_getD, hi]
    simp only [laws_heldIntS.l0, if_pos a1, if_pos a2, e2, if_true, w64_succ hi (by omega), e1]
    exact ih _ rfl

/-! ### m_inR -/
/-- Is a number from a to b? -/
def inR (x a b : Int) : Bool := decide (a ≤ x ∧ x ≤ b)
theorem inR_iff {x a b : Int} : inR x a b = true ↔ a ≤ x ∧ x ≤ b := by unfold inR; exact decide_eq_true_iff

/-! ### m_SeatsFor -/
def mSeatsFor (p r : Int) : List Int := if inR p 2 6 = true ∧ inR r 0 1000 = true then (List.range p.toNat).map (fun (i : Nat) => ((i : Int) + r) % p) else []
theorem mSeatsFor_length (p r : Int) : (mSeatsFor p r).length ≤ 6 := by
  unfold mSeatsFor
  split
  · rename_i h
    have := inR_iff.1 h.1
    simp; omega
  · simp
theorem seats_round {p r : Int} (hp : inR p 2 6 = true) (hr : inR r 0 1000 = true) (i : Nat) (hi : i < p.toNat) : Int.tmod (wrap64 ((i : Int) + r)) p = ((i : Int) + r) % p := by
  have h1 := inR_iff.1 hp
  have h2 := inR_iff.1 hr
  rw [w64 (by omega) (by omega), Int.tmod_eq_emod_of_nonneg (by omega)]

/-! ### spec_l1In -/
theorem spec_l1In_eq (x a b : Int) : spec_l1In.f x a b = some (inR x a b) := by
  unfold spec_l1In.f inR
  by_cases h : x ≥ a
  · rw [if_pos h]; simp [h, decide_eq_true (show a ≤ x from h)]
  · rw [if_neg h]; simp [show ¬ a ≤ x from h]

/-! ### spec_SeatsFor -/
theorem spec_SeatsFor_ev (p r : Int) (hp64 : -9223372036854775808 ≤ p ∧ p ≤ 9223372036854775807) : Ev (fun k => spec_SeatsFor.f k p r) (mSeatsFor p r) := by
  unfold spec_SeatsFor.f
  by_cases h : inR p 2 6 = true ∧ inR r 0 1000 = true
  · obtain ⟨hp, hr⟩ := h
    have h1 := inR_iff.1 hp
    have key := ev_upto p.toNat (fun k (s : List Int) i => spec_SeatsFor.l0 k p r s i) (fun _ _ => mSeatsFor p r) (fun i s => s = (List.range i).map (fun (i : Nat) => ((i : Int) + r) % p)) ?_ ?_ 0 [] (by omega) rfl
    · exact key
    · rintro s rfl
      apply Ev.succ
      have a1 : ¬ (((p.toNat : Nat) : Int) < p) := by omega
      simp only [spec_SeatsFor.l0, if_neg a1]
      refine Ev.to (Ev.now _) ?_
      unfold mSeatsFor; rw [if_pos ⟨hp, hr⟩]
    · rintro i s hi rfl ih
      apply Ev.succ
      have a1 : ((i : Nat) : Int) < p := by omega
      have a2 : ¬ (p = 0) := by omega
      have a3 : ((List.range i).map (fun (i : Nat) => ((i : Int) + r) % p)).length < 17592186044416 := by simp; omega
      simp only [spec_SeatsFor.l0, if_pos a1, spec_l1In_eq, hp, hr, Option.bind_some, if_true, if_neg a2, if_pos a3, seats_round hp hr i hi, w64_succ hi (by omega)]
      exact ih _ (by simp [List.range_succ])
  · have hm : mSeatsFor p r = [] := by unfold mSeatsFor; rw [if_neg h]
    rw [hm]
    apply Ev.succ
    simp only [spec_SeatsFor.l0, spec_l1In_eq, Option.bind_some]
    refine Ev.ite (fun _ => ?_) (fun _ => Ev.now _)
    refine Ev.ite (fun hp => ?_) (fun _ => Ev.now _)
    refine Ev.neg (fun hr => h ⟨hp, hr⟩) (Ev.now _)

/-! ### impl_InRange -/
theorem impl_InRange_eq (x a b : Int) : impl_InRange.f x a b = some (inR x a b) := by
  unfold impl_InRange.f inR
  by_cases h : a ≤ x
  · rw [if_pos h]; simp [h]
  · rw [if_neg h]; simp [h]

/-! ### impl_SeatsFor -/
theorem impl_SeatsFor_ev (p r : Int) : Ev (fun k => impl_SeatsFor.f k p r) (mSeatsFor p r) := by
  unfold impl_SeatsFor.f
  simp only [impl_InRange_eq, Option.bind_some]
  by_cases h : inR p 2 6 = true ∧ inR r 0 1000 = true
  · obtain ⟨hp, hr⟩ := h
    have h1 := inR_iff.1 hp
    simp only [hp, hr, if_true, Bool.not_true]
    apply Ev.succ
    simp only [impl_SeatsFor.j0, Bool.false_eq_true, if_false]
    have key := ev_upto p.toNat (fun k (s : List Int) i => impl_SeatsFor.l0 k p r s p i) (fun _ _ => mSeatsFor p r) (fun i s => s = (List.range i).map (fun (i : Nat) => ((i : Int) + r) % p)) ?_ ?_ 0 [] (by omega) rfl
    · exact key
    · rintro s rfl
      apply Ev.succ
      have a1 : ¬ (((p.toNat : Nat) : Int) < p) := by omega
      simp only [impl_SeatsFor.l0, if_neg a1]
      refine Ev.to (Ev.now _) ?_
      unfold mSeatsFor; rw [if_pos ⟨hp, hr⟩]
    · rintro i s hi rfl ih
      apply Ev.succ
      have a1 : ((i : Nat) : Int) < p := by omega
      have a2 : ¬ (p = 0) := by omega
      have a3 : ((List.range i).map (fun (i : Nat) => ((i : Int) + r) % p)).length < 17592186044416 := by simp; omega
      simp only [impl_SeatsFor.l0, if_pos a1, if_neg a2, if_pos a3, seats_round hp hr i hi, w64_succ hi (by omega)]
      exact ih _ (by simp [List.range_succ])
  · have hm : mSeatsFor p r = [] := by unfold mSeatsFor; rw [if_neg h]
    rw [hm]
    refine Ev.ite (fun hp => ?_) (fun _ => ?_)
    · have hr : ¬ inR r 0 1000 = true := fun hr => h ⟨hp, hr⟩
      apply Ev.succ
      simp only [impl_SeatsFor.j0, Bool.not_eq_true] at hr ⊢
      simp only [hr, Bool.not_false, if_true]
      exact Ev.now _
    · apply Ev.succ
      simp only [impl_SeatsFor.j0, if_true]
      exact Ev.now _

/-! ### law_FnExactSeatsFor -/
theorem FnExactSeatsFor : laws_FnExactSeatsFor.Pure := by
  intro p r hp hr
  apply Ev.rounds
  unfold laws_FnExactSeatsFor.f
  have hl := mSeatsFor_length p r
  have ti := impl_SeatsFor_ev p r
  refine Ev.bind (spec_SeatsFor_ev p r ((wf64 p).1 hp)) (Ev.bind ti (Ev.bind (eqIntS_self _ (by omega)) (Ev.pos rfl ?_)))
  refine Ev.bind (markIntS_ev _ 1 (by omega) (by omega)) ?_
  have hh := heldIntS_ev (mSeatsFor p r).length 1 (by omega) (by omega)
  refine Ev.bind hh (Ev.neg (by omega) (Ev.pos rfl ?_))
  refine Ev.bind ti (Ev.bind (eqIntS_self _ (by omega)) (Ev.pos rfl ?_))
  exact Ev.bind hh (Ev.neg (by omega) (Ev.pos rfl (Ev.now true)))

end Go.Proofs.Ytgplombkkbppmaa.Pure
