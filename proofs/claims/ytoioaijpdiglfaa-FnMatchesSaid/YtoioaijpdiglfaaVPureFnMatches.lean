/- Plain laws over the shapes. -/
import Derived.Test.YtoioaijpdiglfaaPMat
import Derived.Test.YtoioaijpdiglfaaLFnMatches
import Derived.Test.YtoioaijpdiglfaaS1
import Derived.Test.YtoioaijpdiglfaaS4
import Derived.Test.YtoioaijpdiglfaaS5
set_option linter.unusedVariables false
set_option linter.unusedSimpArgs false
set_option maxRecDepth 10000
namespace Go.Proofs.Ytoioaijpdiglfaa.V
open Go
theorem laws_sum_ok (l : List Int) (hl : l.length ≤ 4398046511104) : laws_sum l = some (sumW l) := by
  have h : ∀ i, i ≤ l.length → laws_sum_L3 l (sumW (l.take i)) i = some (sumW l) := down (by
      rw [laws_sum_L3_eq]
      simp (disch := (first | omega | (simp only [List.length_append, List.length_cons, List.length_nil, List.length_take, List.length_drop, List.length_set, List.length_replicate, List.length_singleton]; omega))) only [↓if_dpos, ↓if_dneg, ↓if_epos, ↓if_eneg, ↓if_npos, ↓if_nneg, ↓if_pos, ↓if_neg, Int.toNat_natCast, List.nil_append, Nat.zero_add, List.length_singleton, Option.bind_some, List.drop_zero, List.take_length, if_true, if_false, ]) fun i hi ih => by
    have hil : (i : Int) < (l.length : Int) := by omega
    have hw : IntKind.i64.wrap ((i : Int) + 1) = ((i + 1 : Nat) : Int) := wrap_succ hi (by omega)
    rw [laws_sum_L3_eq]
    simp (disch := (first | omega | (simp only [List.length_append, List.length_cons, List.length_nil, List.length_take, List.length_drop, List.length_set, List.length_replicate, List.length_singleton]; omega))) only [↓if_dpos, ↓if_dneg, ↓if_epos, ↓if_eneg, ↓if_npos, ↓if_nneg, ↓if_pos, ↓if_neg, hw, Int.toNat_natCast, List.nil_append, Nat.zero_add, List.length_singleton, Option.bind_some, List.drop_zero, List.take_length, if_true, if_false, ]
    rw [← ih]
    unfold sumW
    rw [foldl_take (d := 0) hi]
  rw [laws_sum_eq]
  exact h 0 (Nat.zero_le _)
theorem matches_rot {x0 : List Int} (ha : x0.length ≤ 1048576) : ((spec_DrawRotateKinds x0).bind fun c13 => ((impl_RotateKinds c13.1 c13.2).bind fun c14 => (if ((c14.length : Int) == 0) = true then (some true) else (if ((c14.length : Int) == (c13.1.length : Int)) = true then ((laws_sum c14).bind fun c15 => ((laws_sum c13.1).bind fun c16 => (some (c15 == c16)))) else (some false))))) = some true := by
  obtain ⟨r, e, hr⟩ := DrawRotateKinds_tot ha
  rw [e, Option.bind_some, impl_RotateKinds_ok _ _ (by omega), Option.bind_some]
  by_cases hn : r.2 < 0
  · rw [if_pos hn, if_epos (by rw [List.length_nil]; rfl)]
  · rw [if_neg hn]
    have hl : (rotM r.1 (r.2.toNat % r.1.length)).length = r.1.length := rotM_length
    have hs := rot_sum r.1 (r.2.toNat % r.1.length)
    generalize rotM r.1 (r.2.toNat % r.1.length) = x at hl hs ⊢
    by_cases h0 : (x.length : Int) = 0
    · rw [if_epos h0]
    · rw [if_eneg h0, if_epos (by omega), laws_sum_ok _ (by omega), Option.bind_some, laws_sum_ok _ (by omega), Option.bind_some, hs, BEq.rfl]
theorem matches_seats {a0 : List Int} (ha : a0.length ≤ 1048576) (p : Int) (l : List Int) (hl : l.length ≤ 10) (hp : ∀ i : Nat, i < l.length → 0 ≤ l.getD i 0 ∧ l.getD i 0 < p) (hd : ∀ i j : Nat, i < j → j < l.length → l.getD i 0 ≠ l.getD j 0) : ∀ i : Nat, i ≤ l.length → laws_FnMatches_L16 a0 p (i : Int) l = some true := down (by
    rw [laws_FnMatches_L16_eq, if_dneg (by omega)]
    exact matches_rot ha) fun i hi ih => by
  have h1 := hp i hi
  have hc : hasM (l.take i) (l.getD i 0) = false := by
    cases e : hasM (l.take i) (l.getD i 0) with
    | false => rfl
    | true =>
      exfalso
      have hm : l.getD i 0 ∈ l.take i := by simpa [hasM] using e
      obtain ⟨j, hj, e2⟩ := List.mem_iff_getElem.1 hm
      rw [List.length_take] at hj
      rw [List.getElem_take] at e2
      refine hd j i (by omega) hi ?_
      rw [← e2, List.getD_eq_getElem?_getD, List.getElem?_eq_getElem (by omega : j < l.length)]; rfl
  rw [laws_FnMatches_L16_eq, Int.toNat_natCast, List.drop_zero, if_dpos (by omega), if_pos (by omega), if_pos (by omega), if_dneg (by omega), if_pos (by omega), if_pos (by omega), if_dneg (by omega), if_pos (by omega), if_pos (by omega), if_pos (by omega), if_pos (by omega), laws_contains_ok _ _ (by rw [List.length_take]; omega), Option.bind_some, hc, if_neg (by decide), wrap_succ hi (by omega)]
  exact ih
theorem matches_seat {a0 : List Int} (ha : a0.length ≤ 1048576) : (spec_DrawSeatsFor a0).bind (fun c8 => ((impl_SeatsFor c8.1 c8.2).bind fun c9 => (laws_FnMatches_L16 a0 c8.1 0 c9))) = some true := by
  obtain ⟨r, e, _⟩ := DrawSeatsFor_tot ha
  rw [e, Option.bind_some, impl_SeatsFor_ok, Option.bind_some]
  cases h1 : inR r.1 2 6 && inR r.2 0 1000 with
  | false => exact matches_seats ha r.1 [] (Nat.zero_le _) (fun i hi => absurd hi (Nat.not_lt_zero i)) (fun i j _ hi => absurd hi (Nat.not_lt_zero j)) 0 (Nat.zero_le _)
  | true =>
    rw [if_pos rfl]
    rw [Bool.and_eq_true, inR_iff, inR_iff] at h1
    obtain ⟨p, e1⟩ : ∃ q : Nat, r.1 = (q : Int) := ⟨r.1.toNat, by omega⟩
    rw [e1, Int.toNat_natCast]
    have hlen := seatsM_length p r.2.toNat
    refine matches_seats ha (p : Int) _ (by omega) (fun i hi => ?_) (fun i j hij hj => ?_) 0 (Nat.zero_le _)
    · rw [seatsM_get (by omega)]
      have := Nat.mod_lt (i + r.2.toNat) (by omega : 0 < p)
      omega
    · rw [seatsM_get (by omega), seatsM_get (by omega)]
      intro e2
      have := seats_apart (p := p) (k := r.2.toNat) (by omega : i < p) (by omega : j < p) (by omega)
      omega
theorem laws_FnMatches_ok (a0 : List Int) : laws_FnMatches a0 = some true := by
  rw [laws_FnMatches_eq, laws_big_eq, Option.bind_some]
  by_cases hb : (a0.length : Int) > 1048576
  · rw [if_dpos hb]
  rw [if_dneg hb]
  have ha : a0.length ≤ 1048576 := by omega
  have t3 := matches_seat ha
  obtain ⟨c, e1, c4, c5, ck⟩ := DrawMatchSheet_tot ha
  obtain ⟨s, e2, hs, hrd, hl⟩ := sheet_ex c.1 c.2.1 c.2.2.1 c.2.2.2.1 c.2.2.2.2.1 c.2.2.2.2.2.1 c.2.2.2.2.2.2.1 c.2.2.2.2.2.2.2.1 c.2.2.2.2.2.2.2.2.1 c.2.2.2.2.2.2.2.2.2.1 c.2.2.2.2.2.2.2.2.2.2 c4 c5 ck
  obtain ⟨w, e3, hw⟩ := winner_ex c.1 c.2.1 c.2.2.1 c.2.2.2.1 c.2.2.2.2.1 c.2.2.2.2.2.1 c.2.2.2.2.2.2.1 c.2.2.2.2.2.2.2.1 c.2.2.2.2.2.2.2.2.1 c.2.2.2.2.2.2.2.2.2.1 c.2.2.2.2.2.2.2.2.2.2 e2 hs hl
  rw [e1, Option.bind_some, e2, Option.bind_some]
  have key : ∀ i : Nat, i ≤ s.length → laws_FnMatches_L6 a0 c.2.2.2.2.2.2.2.2.1 c.2.2.2.2.2.2.2.2.2.1 (i : Int) c.1 c.2.1 c.2.2.1 c.2.2.2.1 c.2.2.2.2.1 c.2.2.2.2.2.2.1 c.2.2.2.2.2.2.2.1 c.2.2.2.2.2.2.2.2.2.2 s c.2.2.2.2.2.1 = some true := down (by
      rw [laws_FnMatches_L6_eq, if_dneg (by omega), e3, Option.bind_some, hw, if_neg (by rw [bne_self_eq_false]; decide)]
      by_cases h0 : (s.length : Int) > 0
      · rw [if_dpos h0, if_nneg (by
          rcases hrd with h | h
          · rw [h] at h0; exact absurd h0 (by decide)
          · exact h)]
        exact t3
      · rw [if_dneg h0]; exact t3) fun i hi ih => by
    have hv := hs.1 _ (getD_mem (d := []) hi)
    have hvl := hv.1
    have hv2 := hv.2.1
    rw [laws_FnMatches_L6_eq, if_dpos (by omega), if_pos (by omega), if_pos (by omega), Int.toNat_natCast, laws_sum_ok _ (by omega), Option.bind_some, round_sumW hv, if_nneg rfl, if_pos (by omega), if_pos (by omega), hs.2 i hi, Option.bind_some, laws_sameInts_self _ (by omega), Option.bind_some, if_neg (by decide), wrap_succ hi (by omega)]
    exact ih
  exact key 0 (Nat.zero_le _)
theorem law_FnMatches (x : den (parTy HH 9)) (hx : Fit Try.prog (parTy HH 9) x) : ∃ n, frun Try.prog HH n 9 x = some true := run_some (laws_FnMatches_ok x)
end Go.Proofs.Ytoioaijpdiglfaa.V
