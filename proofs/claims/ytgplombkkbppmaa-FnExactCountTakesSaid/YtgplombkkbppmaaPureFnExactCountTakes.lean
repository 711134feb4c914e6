/- CountTakes of the program and of the reference are the same number for every record, and the record is left as it was; no condition. -/
import Derived.Test.YtgplombkkbppmaaPFnExactCountTakesx1
import Derived.Test.YtgplombkkbppmaaBase
set_option linter.unusedVariables false
set_option linter.unusedSimpArgs false
namespace Go.Proofs.Ytgplombkkbppmaa.Pure
open Go.RowKit Go.Proofs.Ytgplombkkbppmaa.PFnExactCountTakes Go.Proofs.YtgplombkkbppmaaW.PrintWords Go.Proofs.YtgplombkkbppmaaW.PrintLast Go.Proofs.YtgplombkkbppmaaW.PrintMore Go.Proofs.Ytgplombkkbppmaa.Base

/-! ### laws_toIntS -/
theorem toIntS_ev (l : List Int) (hl : l.length ≤ 35184372088832) : Ev (fun k => laws_toIntS.f k l) l := by
  unfold laws_toIntS.f
  refine Ev.pos (by omega) (Ev.pos (by simpa using hl) ?_)
  rw [Int.toNat_natCast]
  refine ev_idx l (fun k (s : List Int) i => laws_toIntS.l0 k l s i) (fun _ _ => l) (fun i s => s.length = l.length ∧ s.take i = l.take i) ?_ ?_ _ ⟨by simp, rfl⟩
  · rintro s ⟨h1, h2⟩
    apply Ev.succ
    have hs : s = l := by rw [← h1, List.take_length] at h2; rw [h2, h1, List.take_length]
    simp only [laws_toIntS.l0, Int.lt_irrefl, if_false, hs]
    exact Ev.now l
  · rintro i x r s hd hi ⟨h1, h2⟩ ih
    apply Ev.succ
    have a1 : (i : Int) < (l.length : Int) := by omega
    have a2 : (0 : Int) ≤ (i : Int) := by omega
    have a3 : (i : Int) < (s.length : Int) := by omega
    simp only [laws_toIntS.l0, if_pos a1, if_pos a2, if_pos a3, rd_drop hd, Int.toNat_natCast, w64_succ hi (by omega)]
    refine ih _ ⟨by simpa using h1, ?_⟩
    rw [drop_take hd, List.take_succ_eq_append_getElem (by simpa using (by omega : i < s.length)), List.take_set_of_le (Nat.le_refl i), h2]
    simp

/-! ### laws_eqIntS -/
theorem eqIntS_loop (a b : List Int) (hab : a.length = b.length) (hl : a.length ≤ 9223372036854775807) : ∀ i, i ≤ a.length → Ev (fun k => laws_eqIntS.l0 k a b (i : Int)) (decide (a.drop i = b.drop i)) := by
  intro i hi
  refine ev_upto a.length (fun k (_ : Unit) i => laws_eqIntS.l0 k a b i) (fun i _ => decide (a.drop i = b.drop i)) (fun _ _ => True) ?_ ?_ i () hi trivial
  · intro _ _
    apply Ev.succ
    simp only [laws_eqIntS.l0, Int.lt_irrefl, if_false]
    refine Ev.to (Ev.now true) ?_
    rw [List.drop_length, hab, List.drop_length]; rfl
  · intro i _ hi _ ih
    apply Ev.succ
    have hd := drop_cons hi
    have hd' := drop_cons (xs := b) (i := i) (by omega)
    have a1 : (i : Int) < (a.length : Int) := by omega
    have a2 : (0 : Int) ≤ (i : Int) := by omega
    have a3 : (i : Int) < (b.length : Int) := by omega
    simp only [laws_eqIntS.l0, if_pos a1, if_pos a2, if_pos a3, rd_drop hd, rd_drop hd', w64_succ hi hl]
    refine Ev.ite (fun h => ?_) (fun h => ?_)
    · refine Ev.to (ih () trivial) ?_
      rw [hd, hd', h]; simp only [List.cons.injEq, true_and]
    · refine Ev.to (Ev.now false) ?_
      rw [hd, hd']; simp only [List.cons.injEq, h, false_and, decide_false]
theorem eqIntS_ev (a b : List Int) (hl : a.length ≤ 9223372036854775807) : Ev (fun k => laws_eqIntS.f k a b) (decide (a = b)) := by
  unfold laws_eqIntS.f
  refine Ev.ite (fun h => ?_) (fun h => ?_)
  · exact eqIntS_loop a b (by omega) hl 0 (by omega)
  · refine Ev.to (Ev.now false) ?_
    have : a ≠ b := fun e => h (by rw [e])
    simp [this]
theorem eqIntS_self (a : List Int) (hl : a.length ≤ 9223372036854775807) : Ev (fun k => laws_eqIntS.f k a a) true :=
  Ev.to (eqIntS_ev a a hl) (by simp)

/-! ### m_CountTakes -/
/-- How often -1 stands in a list (the count goes round at 2^63). -/
def mCountTakes : List Int → Int → Int
  | [], n => n
  | x :: r, n => if x = -1 then mCountTakes r (wrap64 (n + 1)) else mCountTakes r n

/-! ### spec_CountTakes -/
theorem spec_CountTakes_ev (l : List Int) (hl : l.length ≤ 9223372036854775807) : Ev (fun k => spec_CountTakes.f k l) (mCountTakes l 0) := by
  unfold spec_CountTakes.f
  refine ev_idx l (fun k (s : Int) i => spec_CountTakes.l0 k l s i) mCountTakes (fun _ _ => True) ?_ ?_ 0 trivial
  · intro s _
    apply Ev.succ
    simp only [spec_CountTakes.l0, Int.lt_irrefl, if_false]
    exact Ev.now _
  · intro i x r s hd hi _ ih
    apply Ev.succ
    have a1 : (i : Int) < (l.length : Int) := by omega
    have a2 : (0 : Int) ≤ (i : Int) := by omega
    simp only [spec_CountTakes.l0, if_pos a1, if_pos a2, rd_drop hd, w64_succ hi hl, mCountTakes]
    refine Ev.ite (fun h => ?_) (fun h => ?_)
    · rw [if_pos h]; exact ih _ trivial
    · rw [if_neg h]; exact ih _ trivial

/-! ### impl_CountTakes -/
theorem impl_CountTakes_ev (l : List Int) (hl : l.length ≤ 9223372036854775807) : Ev (fun k => impl_CountTakes.f k l) (mCountTakes l 0) := by
  unfold impl_CountTakes.f
  refine ev_idx l (fun k (s : Int) i => impl_CountTakes.l0 k s l (l.length : Int) i) mCountTakes (fun _ _ => True) ?_ ?_ 0 trivial
  · intro s _
    apply Ev.succ
    simp only [impl_CountTakes.l0, Int.lt_irrefl, if_false]
    exact Ev.now _
  · intro i x r s hd hi _ ih
    apply Ev.succ
    have a1 : (i : Int) < (l.length : Int) := by omega
    have a2 : (0 : Int) ≤ (i : Int) := by omega
    simp only [impl_CountTakes.l0, if_pos a1, if_pos a2, rd_drop hd, w64_succ hi hl, mCountTakes]
    refine Ev.ite (fun h => ?_) (fun h => ?_)
    · rw [if_pos h]; exact ih _ trivial
    · rw [if_neg h]; exact ih _ trivial

/-! ### law_FnExactCountTakes -/
theorem FnExactCountTakes : laws_FnExactCountTakes.Pure := by
  intro l hm hb hw
  apply Ev.rounds
  unfold laws_FnExactCountTakes.f
  refine Ev.ite (fun _ => Ev.now true) (fun h => ?_)
  have hl : l.length ≤ 1048576 := by omega
  have t := toIntS_ev l (by omega)
  refine Ev.bind t (Ev.bind (spec_CountTakes_ev l (by omega)) (Ev.bind t (Ev.bind (impl_CountTakes_ev l (by omega)) ?_)))
  refine Ev.pos rfl (Ev.bind t (Ev.bind (eqIntS_self l (by omega)) (Ev.pos rfl (Ev.now true))))

end Go.Proofs.Ytgplombkkbppmaa.Pure
