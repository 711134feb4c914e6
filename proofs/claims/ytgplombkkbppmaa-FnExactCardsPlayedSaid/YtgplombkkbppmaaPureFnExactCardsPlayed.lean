/- CardsPlayed of the program and of the reference are the same list for every record; the record is left as it was, and the result is new memory; no condition. -/
import Derived.Test.YtgplombkkbppmaaPFnExactCardsPlayedx2
import Derived.Test.YtgplombkkbppmaaBase
set_option linter.unusedVariables false
set_option linter.unusedSimpArgs false
namespace Go.Proofs.Ytgplombkkbppmaa.Pure
open Go.RowKit Go.Proofs.Ytgplombkkbppmaa.PFnExactCardsPlayed Go.Proofs.YtgplombkkbppmaaW.PrintWords Go.Proofs.YtgplombkkbppmaaW.PrintLast Go.Proofs.YtgplombkkbppmaaW.PrintMore Go.Proofs.Ytgplombkkbppmaa.Base

/-! ### laws_toIntS -/
theorem toIntS_ev (l : List Int) (hl : l.length ≤ 35184372088832) : Ev (fun k => laws_toIntS.f k l) l := by
  unfold laws_toIntS.f
  refine Ev.pos (by omega) (Ev.pos (by simpa using hl) ?_)
  rw [Int.toNat_natCast]
  refine ev_idx l (fun k (s : List Int) i => laws_toIntS.l0 k l s i) (fun _ _ => l) (fun i s => s.length = l.length ∧ s.take i = l.take i) ?_ ?_ _ ⟨by simp, rfl⟩
  · rintro s ⟨h1, h2⟩
    apply Ev.succ
    have hs : s = l := by rw [← h1, List.take_length] at h2; rw [h2, h1, List.take_length]
    simp only [laws_toIntS.l0, Int.lt_irrefl, if_false, hs]
    exact Ev.now l
  · rintro i x r s hd hi ⟨h1, h2⟩ ih
    apply Ev.succ
    have a1 : (i : Int) < (l.length : Int) := by omega
    have a2 : (0 : Int) ≤ (i : Int) := by omega
    have a3 : (i : Int) < (s.length : Int) := by omega
    simp only [laws_toIntS.l0, if_pos a1, if_pos a2, if_pos a3, rd_drop hd, Int.toNat_natCast, w64_succ hi (by omega)]
    refine ih _ ⟨by simpa using h1, ?_⟩
    rw [drop_take hd, List.take_succ_eq_append_getElem (by simpa using (by omega : i < s.length)), List.take_set_of_le (Nat.le_refl i), h2]
    simp

/-! ### laws_eqIntS -/
theorem eqIntS_loop (a b : List Int) (hab : a.length = b.length) (hl : a.length ≤ 9223372036854775807) : ∀ i, i ≤ a.length → Ev (fun k => laws_eqIntS.l0 k a b (i : Int)) (decide (a.drop i = b.drop i)) := by
  intro i hi
  refine ev_upto a.length (fun k (_ : Unit) i => laws_eqIntS.l0 k a b i) (fun i _ => decide (a.drop i = b.drop i)) (fun _ _ => True) ?_ ?_ i () hi trivial
  · intro _ _
    apply Ev.succ
    simp only [laws_eqIntS.l0, Int.lt_irrefl, if_false]
    refine Ev.to (Ev.now true) ?_
    rw [List.drop_length, hab, List.drop_length]; rfl
  · intro i _ hi _ ih
    apply Ev.succ
    have hd := drop_cons hi
    have hd' := drop_cons (xs := b) (i := i) (by omega)
    have a1 : (i : Int) < (a.length : Int) := by omega
    have a2 : (0 : Int) ≤ (i : Int) := by omega
    have a3 : (i : Int) < (b.length : Int) := by omega
    simp only [laws_eqIntS.l0, if_pos a1, if_pos a2, if_pos a3, rd_drop hd, rd_drop hd', w64_succ hi hl]
    refine Ev.ite (fun h => ?_) (fun h => ?_)
    · refine Ev.to (ih () trivial) ?_
      rw [hd, hd', h]; simp only [List.cons.injEq, true_and]
    · refine Ev.to (Ev.now false) ?_
      rw [hd, hd']; simp only [List.cons.injEq, h, false_and, decide_false]
theorem eqIntS_ev (a b : List Int) (hl : a.length ≤ 9223372036854775807) : Ev (fun k => laws_eqIntS.f k a b) (decide (a = b)) := by
  unfold laws_eqIntS.f
  refine Ev.ite (fun h => ?_) (fun h => ?_)
  · exact eqIntS_loop a b (by omega) hl 0 (by omega)
  · refine Ev.to (Ev.now false) ?_
    have : a ≠ b := fun e => h (by rw [e])
    simp [this]
theorem eqIntS_self (a : List Int) (hl : a.length ≤ 9223372036854775807) : Ev (fun k => laws_eqIntS.f k a a) true :=
  Ev.to (eqIntS_ev a a hl) (by simp)

/-! ### laws_markIntS -/
theorem markIntS_ev (l : List Int) (a : Int) (ha : 0 ≤ a) (hl : a + (l.length : Int) ≤ 9223372036854775807) : Ev (fun k => laws_markIntS.f k l a) (a + (l.length : Int), marks l.length a) := by
  unfold laws_markIntS.f
  have key := ev_upto l.length (fun k (s : List Int × Int) i => laws_markIntS.l0 k s.1 s.2 i) (fun _ _ => (a + (l.length : Int), marks l.length a)) (fun i s => s.1.length = l.length ∧ s.2 = a + (i : Int) ∧ s.1.take i = marks i a) ?_ ?_ 0 (l, a) (by omega) ⟨rfl, by simp, rfl⟩
  · exact key
  · rintro ⟨s, x⟩ ⟨h1, h2, h3⟩
    simp only at h1 h2 h3
    apply Ev.succ
    have a1 : ¬ ((l.length : Int) < (s.length : Int)) := by omega
    simp only [laws_markIntS.l0, if_neg a1]
    refine Ev.to (Ev.now _) ?_
    rw [h2, ← h3, ← h1, List.take_length]
  · rintro i ⟨s, x⟩ hi ⟨h1, h2, h3⟩ ih
    simp only at h1 h2 h3
    apply Ev.succ
    have a1 : (i : Int) < (s.length : Int) := by omega
    have a2 : (0 : Int) ≤ (i : Int) := by omega
    have e1 : wrap64 (x + 1) = a + ((i + 1 : Nat) : Int) := by rw [w64 (by omega) (by omega)]; omega
    simp only [laws_markIntS.l0, if_pos a1, if_pos a2, Int.toNat_natCast, w64_succ hi (by omega), e1]
    refine ih (s.set i x, a + ((i + 1 : Nat) : Int)) ⟨by simpa using h1, rfl, ?_⟩
    show (s.set i x).take (i + 1) = _
    rw [List.take_succ_eq_append_getElem (by simpa using (by omega : i < s.length)), List.take_set_of_le (Nat.le_refl i), h3]
    simp [marks, List.range_succ, h2]

/-! ### laws_heldIntS -/
theorem heldIntS_ev (n : Nat) (a : Int) (ha : 0 ≤ a) (hl : a + (n : Int) ≤ 9223372036854775807) : Ev (fun k => laws_heldIntS.f k (marks n a) a) (a + (n : Int)) := by
  unfold laws_heldIntS.f
  have key := ev_upto n (fun k (s : Int) i => laws_heldIntS.l0 k (marks n a) s i) (fun _ _ => a + (n : Int)) (fun i s => s = a + (i : Int)) ?_ ?_ 0 a (by omega) (by simp)
  · exact key
  · rintro s rfl
    apply Ev.succ
    have a1 : ¬ ((n : Int) < ((marks n a).length : Int)) := by rw [marks_length]; omega
    simp only [laws_heldIntS.l0, if_neg a1]
    exact Ev.now _
  · rintro i s hi rfl ih
    apply Ev.succ
    have a1 : (i : Int) < ((marks n a).length : Int) := by rw [marks_length]; omega
    have a2 : (0 : Int) ≤ (i : Int) := by omega
    have e1 : wrap64 (a + (i : Int) + 1) = a + ((i + 1 : Nat) : Int) := by rw [w64 (by omega) (by omega)]; omega
    have e2 : rd (marks n a) (i : Int) = a + (i : Int) := by rw [rd_nat]; simp [marks, List.getD_eq_getElem?_getD, hi]
    simp only [laws_heldIntS.l0, if_pos a1, if_pos a2, e2, if_true, w64_succ hi (by omega), e1]
    exact ih _ rfl

/-! ### m_inR -/
/-- Is a number from a to b? -/
def inR (x a b : Int) : Bool := decide (a ≤ x ∧ x ≤ b)
theorem inR_iff {x a b : Int} : inR x a b = true ↔ a ≤ x ∧ x ≤ b := by unfold inR; exact decide_eq_true_iff

/-! ### m_IsCard -/
def isCard (x : Int) : Bool := inR x 0 51

/-! ### spec_l1In -/
theorem spec_l1In_eq (x a b : Int) : spec_l1In.f x a b = some (inR x a b) := by
  unfold spec_l1In.f inR
  by_cases h : x ≥ a
  · rw [if_pos h]; simp [h, decide_eq_true (show a ≤ x from h)]
  · rw [if_neg h]; simp [show ¬ a ≤ x from h]

/-! ### spec_IsCard -/
theorem spec_IsCard_eq (x : Int) : spec_IsCard.f x = some (isCard x) := by
  unfold spec_IsCard.f isCard; rw [spec_l1In_eq]; rfl

/-! ### spec_CardsPlayed -/
theorem spec_CardsPlayed_ev (l : List Int) (hl : l.length ≤ 17592186044416) : Ev (fun k => spec_CardsPlayed.f k l) (l.filter isCard) := by
  unfold spec_CardsPlayed.f
  refine ev_idx l (fun k (s : List Int) i => spec_CardsPlayed.l0 k l s i) (fun r s => s ++ r.filter isCard) (fun i s => s.length ≤ i) ?_ ?_ [] (by simp)
  · intro s _
    apply Ev.succ
    simp only [spec_CardsPlayed.l0, Int.lt_irrefl, if_false]
    exact Ev.to (Ev.now s) (by simp)
  · intro i x r s hd hi hI ih
    apply Ev.succ
    have a1 : (i : Int) < (l.length : Int) := by omega
    have a2 : (0 : Int) ≤ (i : Int) := by omega
    have a3 : s.length < 17592186044416 := by omega
    simp only [spec_CardsPlayed.l0, if_pos a1, if_pos a2, rd_drop hd, w64_succ hi (by omega), spec_IsCard_eq, Option.bind_some, if_pos a3]
    refine Ev.ite (fun h => ?_) (fun h => ?_)
    · exact Ev.to (ih (s ++ [x]) (by simp; omega)) (by simp [h])
    · exact Ev.to (ih s (by omega)) (by simp [h])

/-! ### impl_InRange -/
theorem impl_InRange_eq (x a b : Int) : impl_InRange.f x a b = some (inR x a b) := by
  unfold impl_InRange.f inR
  by_cases h : a ≤ x
  · rw [if_pos h]; simp [h]
  · rw [if_neg h]; simp [h]

/-! ### impl_IsCard -/
theorem impl_IsCard_eq (x : Int) : impl_IsCard.f x = some (isCard x) := by
  unfold impl_IsCard.f isCard; rw [impl_InRange_eq]; rfl

/-! ### impl_CardsPlayed -/
theorem impl_CardsPlayed_ev (l : List Int) (hl : l.length ≤ 17592186044416) : Ev (fun k => impl_CardsPlayed.f k l) (l.filter isCard) := by
  unfold impl_CardsPlayed.f
  refine ev_idx l (fun k (s : List Int) i => impl_CardsPlayed.l0 k s l (l.length : Int) i) (fun r s => s ++ r.filter isCard) (fun i s => s.length ≤ i) ?_ ?_ [] (by simp)
  · intro s _
    apply Ev.succ
    simp only [impl_CardsPlayed.l0, Int.lt_irrefl, if_false]
    exact Ev.to (Ev.now s) (by simp)
  · intro i x r s hd hi hI ih
    apply Ev.succ
    have a1 : (i : Int) < (l.length : Int) := by omega
    have a2 : (0 : Int) ≤ (i : Int) := by omega
    have a3 : s.length < 17592186044416 := by omega
    simp only [impl_CardsPlayed.l0, if_pos a1, if_pos a2, rd_drop hd, w64_succ hi (by omega), impl_IsCard_eq, Option.bind_some, if_pos a3]
    refine Ev.ite (fun h => ?_) (fun h => ?_)
    · exact Ev.to (ih (s ++ [x]) (by simp; omega)) (by simp [h])
    · exact Ev.to (ih s (by omega)) (by simp [h])

/-! ### law_FnExactCardsPlayed -/
theorem FnExactCardsPlayed : laws_FnExactCardsPlayed.Pure := by
  intro l hm hb hw
  apply Ev.rounds
  unfold laws_FnExactCardsPlayed.f
  refine Ev.ite (fun _ => Ev.now true) (fun h => ?_)
  have hl : l.length ≤ 1048576 := by omega
  have hf : (l.filter isCard).length ≤ 1048576 := Nat.le_trans (List.length_filter_le _ _) hl
  have t := toIntS_ev l (by omega)
  refine Ev.bind t (Ev.bind (spec_CardsPlayed_ev l (by omega)) (Ev.bind t (Ev.bind (impl_CardsPlayed_ev l (by omega)) ?_)))
  refine Ev.bind (eqIntS_self _ (by omega)) (Ev.pos rfl ?_)
  refine Ev.bind t (Ev.bind (eqIntS_self l (by omega)) (Ev.pos rfl ?_))
  refine Ev.bind (markIntS_ev l 1 (by omega) (by omega)) (Ev.neg (by simp only; omega) ?_)
  refine Ev.bind (eqIntS_self _ (by omega)) (Ev.succ ?_)
  simp only [laws_FnExactCardsPlayed.j0, Bool.not_true, Bool.false_eq_true, if_false]
  refine Ev.bind (markIntS_ev _ 1 (by omega) (by omega)) ?_
  have hh := heldIntS_ev (l.filter isCard).length 1 (by omega) (by omega)
  refine Ev.bind hh (Ev.neg (by omega) (Ev.pos rfl ?_))
  refine Ev.bind t (Ev.bind (impl_CardsPlayed_ev l (by omega)) (Ev.bind (eqIntS_self _ (by omega)) (Ev.pos rfl ?_)))
  exact Ev.bind hh (Ev.neg (by omega) (Ev.pos rfl (Ev.now true)))

end Go.Proofs.Ytgplombkkbppmaa.Pure
