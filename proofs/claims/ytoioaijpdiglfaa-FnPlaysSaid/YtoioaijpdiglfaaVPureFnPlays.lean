/- Plain laws over the shapes. -/
import Derived.Test.YtoioaijpdiglfaaPPl
import Derived.Test.YtoioaijpdiglfaaLFnPlays
import Derived.Test.YtoioaijpdiglfaaFDrawPlayAll
import Derived.Test.YtoioaijpdiglfaaFIsDeal
import Derived.Test.YtoioaijpdiglfaaFNewDeal
import Derived.Test.YtoioaijpdiglfaaFPlayCard
import Derived.Test.YtoioaijpdiglfaaFTrickPoints
import Derived.Test.YtoioaijpdiglfaaS1
import Derived.Test.YtoioaijpdiglfaaS3
import Derived.Test.YtoioaijpdiglfaaS6
import Derived.Test.YtoioaijpdiglfaaS7
set_option linter.unusedVariables false
set_option linter.unusedSimpArgs false
set_option maxRecDepth 10000
namespace Go.Proofs.Ytoioaijpdiglfaa.V
open Go
theorem newdeal_tail {a0 : List Int} (ha : a0.length ≤ 1048576) : ((spec_DrawNewDeal a0).bind fun c18 => ((impl_NewDeal c18.1 c18.2.1 c18.2.2).bind fun c19 => (if (!c19.2.2.2.2.2.2.2) = true then (some true) else ((impl_IsDeal c19.1 c19.2.1 c19.2.2.1 c19.2.2.2.1 c19.2.2.2.2.1 c19.2.2.2.2.2.1 c19.2.2.2.2.2.2.1).bind fun c20 => (if c20 = true then ((impl_TurnOf c19.1 c19.2.1 c19.2.2.1 c19.2.2.2.1 c19.2.2.2.2.1 c19.2.2.2.2.2.1 c19.2.2.2.2.2.2.1).bind fun c21 => (if (c21 == c18.2.1) = true then (some true) else ((impl_TotalCards c18.1).bind fun c22 => (some (c22 == 0))))) else (some false)))))) = some true := by
  obtain ⟨d, e1, d1, d2⟩ := DrawNewDeal_tot ha
  obtain ⟨r, e2, h⟩ := impl_NewDeal_tot d.1 d.2.1 d.2.2 d1 d2
  rw [e1, Option.bind_some, e2, Option.bind_some]
  rcases h with h | ⟨rfl, hd⟩
  · rw [h, if_pos (by decide)]
  · dsimp only
    have hh := deal_g2 d1 (by omega)
    have z : (List.replicate d.1.length (0 : Int)).length ≤ 2097152 := by rw [List.length_replicate]; omega
    have v := dealM_valid _ _ _ _ _ _ _ hd
    rw [if_neg (by decide), impl_IsDeal_ok _ _ _ _ _ _ _ hh (Nat.zero_le _) z z, Option.bind_some, hd, if_pos rfl, impl_TurnOf_ok _ _ _ _ _ _ _ hh (Nat.zero_le _) z z, Option.bind_some, impl_TotalCards_ok _ (by omega) (by omega), Option.bind_some]
    by_cases c : d.1.flatten.length = 0
    · split
      · rfl
      · rw [c]; rfl
    · have e : whoM d.1 d.2.1 d.2.2 [] (List.replicate d.1.length 0) (List.replicate d.1.length 0) ((d.1.getD 0 []).length : Int) = d.2.1 := by
        have v1 := v.n1; have v2 := v.l1; have v3 := v.l2
        unfold whoM
        rw [if_neg (by omega), if_neg c, if_pos (inR_iff.2 ⟨v2, v3⟩), show d.2.1 + ((([] : List Int).length : Nat) : Int) = d.2.1 by simp, Int.tmod_eq_of_lt v2 (by omega)]
      rw [e, if_epos rfl]
theorem plays_tail {a0 : List Int} (ha : a0.length ≤ 1048576) : ((spec_DrawPlayAll a0).bind fun c11 => ((impl_PlayAll c11.1 c11.2.1 c11.2.2.1 c11.2.2.2.1 c11.2.2.2.2.1 c11.2.2.2.2.2.1 c11.2.2.2.2.2.2.1 c11.2.2.2.2.2.2.2).bind fun c12 => (if (decide (c12.2.2.2.2.2.2.2 < 0)) = true then (some false) else (if (decide (c12.2.2.2.2.2.2.2 > (c11.2.2.2.2.2.2.2.length : Int))) = true then (some false) else ((impl_IsDeal c12.1 c12.2.1 c12.2.2.1 c12.2.2.2.1 c12.2.2.2.2.1 c12.2.2.2.2.2.1 c12.2.2.2.2.2.2.1).bind fun c13 => (if (!c13) = true then (some false) else ((impl_IsOver c12.1 c12.2.1 c12.2.2.1 c12.2.2.2.1 c12.2.2.2.2.1 c12.2.2.2.2.2.1 c12.2.2.2.2.2.2.1).bind fun c14 => (if c14 = true then ((laws_sum c12.2.2.2.2.1).bind fun c15 => (if (c15 != c11.2.2.2.2.2.2.1) = true then (some false) else ((laws_sum c12.2.2.2.2.2.1).bind fun c16 => (if 0 ≤ c12.2.2.2.2.2.2.2 then (if c12.2.2.2.2.2.2.2 ≤ (c11.2.2.2.2.2.2.2.length : Int) then ((impl_TrickPoints (((c11.2.2.2.2.2.2.2).take c12.2.2.2.2.2.2.2.toNat).drop 0)).bind fun c17 => (if (c16 != c17) = true then (some false) else ((spec_DrawNewDeal a0).bind fun c18 => ((impl_NewDeal c18.1 c18.2.1 c18.2.2).bind fun c19 => (if (!c19.2.2.2.2.2.2.2) = true then (some true) else ((impl_IsDeal c19.1 c19.2.1 c19.2.2.1 c19.2.2.2.1 c19.2.2.2.2.1 c19.2.2.2.2.2.1 c19.2.2.2.2.2.2.1).bind fun c20 => (if c20 = true then ((impl_TurnOf c19.1 c19.2.1 c19.2.2.1 c19.2.2.2.1 c19.2.2.2.2.1 c19.2.2.2.2.2.1 c19.2.2.2.2.2.2.1).bind fun c21 => (if (c21 == c18.2.1) = true then (some true) else ((impl_TotalCards c18.1).bind fun c22 => (some (c22 == 0))))) else (some false)))))))) else none) else none)))) else ((spec_DrawNewDeal a0).bind fun c23 => ((impl_NewDeal c23.1 c23.2.1 c23.2.2).bind fun c24 => (if (!c24.2.2.2.2.2.2.2) = true then (some true) else ((impl_IsDeal c24.1 c24.2.1 c24.2.2.1 c24.2.2.2.1 c24.2.2.2.2.1 c24.2.2.2.2.2.1 c24.2.2.2.2.2.2.1).bind fun c25 => (if c25 = true then ((impl_TurnOf c24.1 c24.2.1 c24.2.2.1 c24.2.2.2.1 c24.2.2.2.2.1 c24.2.2.2.2.2.1 c24.2.2.2.2.2.2.1).bind fun c26 => (if (c26 == c23.2.1) = true then (some true) else ((impl_TotalCards c23.1).bind fun c27 => (some (c27 == 0))))) else (some false)))))))))))))) = some true := by
  obtain ⟨d, e1, hd, ht, hz, hl⟩ := DrawPlayAll_tot ha
  obtain ⟨h1, h2, h3, h4, h5, h6⟩ := deal_small d.1 d.2.1 d.2.2.1 d.2.2.2.1 d.2.2.2.2.1 d.2.2.2.2.2.1 d.2.2.2.2.2.2.1 hd
  have hz2 : ∀ x ∈ d.2.2.2.2.2.1, x = 0 := fun x hx => by rw [hz] at hx; exact List.eq_of_mem_replicate hx
  have hz3 : d.2.2.2.2.2.1.sum = 0 := by
    rw [hz]
    generalize d.1.length = n
    induction n with
    | zero => rfl
    | succ n ih => rw [List.replicate_succ, List.sum_cons, ih]; rfl
  obtain ⟨r0, r1, r2, r3, r4, r5, n, e2, p1, p2, p3, p4, p5⟩ := playAll_is d.2.2.2.2.2.2.2 hl 0 (Nat.zero_le _) d.1 d.2.1 d.2.2.1 d.2.2.2.1 d.2.2.2.2.1 d.2.2.2.2.2.1 d.2.2.2.2.2.2.1 hd (fun x hx => by rw [hz2 x hx]; omega) (by rw [hz3, ht]; rfl)
  have e3 : impl_PlayAll d.1 d.2.1 d.2.2.1 d.2.2.2.1 d.2.2.2.2.1 d.2.2.2.2.2.1 d.2.2.2.2.2.2.1 d.2.2.2.2.2.2.2 = some (r0, r1, r2, r3, r4, r5, d.2.2.2.2.2.2.1, n) := by
    rw [impl_PlayAll_eq, impl_Deal_copied_ok d.1 d.2.1 d.2.2.1 d.2.2.2.1 d.2.2.2.2.1 d.2.2.2.2.2.1 d.2.2.2.2.2.2.1 h6 (by omega) (by omega) (by omega), Option.bind_some]
    exact e2
  obtain ⟨g1, g2, g3, g4, g5, g6⟩ := deal_small r0 r1 r2 r3 r4 r5 d.2.2.2.2.2.2.1 p1
  rw [e1, Option.bind_some, bindF e3]
  dsimp only
  rw [if_dneg (by omega), if_dneg (by omega), bindF (impl_IsDeal_ok r0 r1 r2 r3 r4 r5 d.2.2.2.2.2.2.1 g6 (by omega) (by omega) (by omega)), p1, if_neg (by decide), bindF (impl_IsOver_ok r0 r1 r2 r3 r4 r5 d.2.2.2.2.2.2.1 g6 (by omega) (by omega) (by omega)), p1, Bool.true_and]
  by_cases c : (decide (r0.flatten.length = 0) && decide (r3.length = 0)) = true
  · rw [if_pos c]
    rw [Bool.and_eq_true, decide_eq_true_eq, decide_eq_true_eq] at c
    have v := dealM_valid r0 r1 r2 r3 r4 r5 d.2.2.2.2.2.2.1 p1
    have v1 := v.n1
    have hsz := dealM_sizes r0 r1 r2 r3 r4 r5 d.2.2.2.2.2.2.1 p1 0 (by omega)
    have hrow := getD_le_flat r0 0
    have hg := Int.tmod_nonneg (a := ((0 : Nat) : Int) - r1 + (r0.length : Int)) (r0.length : Int) (by have := v.l2; omega)
    rw [if_neg (by rw [c.2]; omega)] at hsz
    have hw : sumW r4 = d.2.2.2.2.2.2.1 := by omega
    have hps : sumW r5 = r5.sum := sumW_sum (fun x hx => ⟨v.ptss x hx, by have := p4 x hx; omega⟩) (by omega)
    have hr3 : r3 = [] := List.length_eq_zero_iff.1 c.2
    rw [hr3, ptS_nil, Int.add_zero] at p5
    have hpt : ptsM ((d.2.2.2.2.2.2.2.take n.toNat).drop 0) = r5.sum := by rw [List.drop_zero, ptsM_eq _ (by rw [List.length_take]; omega), p5]
    rw [laws_sum_ok r4 (by omega), Option.bind_some, hw, if_nneg rfl, laws_sum_ok r5 (by omega), Option.bind_some, if_pos p2, if_pos p3, impl_TrickPoints_ok _ (by rw [List.drop_zero, List.length_take]; omega), Option.bind_some, hps, hpt, if_nneg rfl]
    exact newdeal_tail ha
  · rw [if_neg c]
    exact newdeal_tail ha
theorem laws_FnPlays_ok (a0 : List Int) : laws_FnPlays a0 = some true := by
  rw [laws_FnPlays_eq, laws_big_eq, Option.bind_some]
  by_cases hb : (a0.length : Int) > 1048576
  · rw [if_dpos hb]
  rw [if_dneg hb]
  have ha : a0.length ≤ 1048576 := by omega
  obtain ⟨d, e1, h1, h2, h3, h4, h5, hp, h6⟩ := DrawPlayCard_tot ha
  have e2 := impl_PlayCard_ok d.1 d.2.1 d.2.2.1 d.2.2.2.1 d.2.2.2.2.1 d.2.2.2.2.2.1 d.2.2.2.2.2.2.1 d.2.2.2.2.2.2.2 h6 (by omega) (by omega) (by omega)
  rw [e1, Option.bind_some, bindF e2]
  by_cases hok : (dealM d.1 d.2.1 d.2.2.1 d.2.2.2.1 d.2.2.2.2.1 d.2.2.2.2.2.1 d.2.2.2.2.2.2.1 && (!decide (whoM d.1 d.2.1 d.2.2.1 d.2.2.2.1 d.2.2.2.2.1 d.2.2.2.2.2.1 d.2.2.2.2.2.2.1 < 0) && mayPM (d.1.getD (whoM d.1 d.2.1 d.2.2.1 d.2.2.2.1 d.2.2.2.2.1 d.2.2.2.2.2.1 d.2.2.2.2.2.2.1).toNat []) d.2.2.2.1 d.2.2.2.2.2.2.2)) = true
  · obtain ⟨le', tk', wo', po', c1, c2, c3, c4, c5, c6, c7⟩ := card_deal d.1 d.2.1 d.2.2.1 d.2.2.2.1 d.2.2.2.2.1 d.2.2.2.2.2.1 d.2.2.2.2.2.2.1 d.2.2.2.2.2.2.2 1000 (by omega) (by omega) hp hok
    rw [c1]
    obtain ⟨g1, g2, g3, g4, g5, g6⟩ := deal_small _ _ _ _ _ _ _ c2
    have hlen : (d.1.set (whoM d.1 d.2.1 d.2.2.1 d.2.2.2.1 d.2.2.2.2.1 d.2.2.2.2.2.1 d.2.2.2.2.2.2.1).toNat (withoutM (d.1.getD (whoM d.1 d.2.1 d.2.2.1 d.2.2.2.1 d.2.2.2.2.1 d.2.2.2.2.2.1 d.2.2.2.2.2.2.1).toNat []) d.2.2.2.2.2.2.2)).length = d.1.length := List.length_set
    have hno : hasM ((d.1.set (whoM d.1 d.2.1 d.2.2.1 d.2.2.2.1 d.2.2.2.2.1 d.2.2.2.2.2.1 d.2.2.2.2.2.2.1).toNat (withoutM (d.1.getD (whoM d.1 d.2.1 d.2.2.1 d.2.2.2.1 d.2.2.2.2.1 d.2.2.2.2.2.1 d.2.2.2.2.2.2.1).toNat []) d.2.2.2.2.2.2.2)).getD (whoM d.1 d.2.1 d.2.2.1 d.2.2.2.1 d.2.2.2.2.1 d.2.2.2.2.2.1 d.2.2.2.2.2.2.1).toNat []) d.2.2.2.2.2.2.2 = false := by
      rw [getD_setL (by omega), if_pos rfl]
      cases e : hasM (withoutM (d.1.getD (whoM d.1 d.2.1 d.2.2.1 d.2.2.2.1 d.2.2.2.2.1 d.2.2.2.2.2.1 d.2.2.2.2.2.2.1).toNat []) d.2.2.2.2.2.2.2) d.2.2.2.2.2.2.2 with
      | false => rfl
      | true =>
        have := (List.mem_filter.1 (hasM_iff.1 e)).2
        simp at this
    have hrow := getD_le_flat (d.1.set (whoM d.1 d.2.1 d.2.2.1 d.2.2.2.1 d.2.2.2.2.1 d.2.2.2.2.2.1 d.2.2.2.2.2.2.1).toNat (withoutM (d.1.getD (whoM d.1 d.2.1 d.2.2.1 d.2.2.2.1 d.2.2.2.2.1 d.2.2.2.2.2.1 d.2.2.2.2.2.2.1).toNat []) d.2.2.2.2.2.2.2)) (whoM d.1 d.2.1 d.2.2.1 d.2.2.2.1 d.2.2.2.2.1 d.2.2.2.2.2.1 d.2.2.2.2.2.2.1).toNat
    have t1 := impl_TotalCards_ok (d.1.set (whoM d.1 d.2.1 d.2.2.1 d.2.2.2.1 d.2.2.2.2.1 d.2.2.2.2.2.1 d.2.2.2.2.2.2.1).toNat (withoutM (d.1.getD (whoM d.1 d.2.1 d.2.2.1 d.2.2.2.1 d.2.2.2.2.1 d.2.2.2.2.2.1 d.2.2.2.2.2.2.1).toNat []) d.2.2.2.2.2.2.2)) (by omega) (by omega)
    dsimp only
    rw [if_pos rfl, bindF (impl_IsDeal_ok _ _ _ _ _ _ _ g6 (by omega) (by omega) (by omega)), c2, if_neg (by decide), bindF t1, bindF (impl_TotalCards_ok d.1 (by omega) (by omega)), if_nneg (by rw [wrap_id (by omega) (by omega)]; omega), bindF (impl_TurnOf_ok d.1 d.2.1 d.2.2.1 d.2.2.2.1 d.2.2.2.2.1 d.2.2.2.2.2.1 d.2.2.2.2.2.2.1 h6 (by omega) (by omega) (by omega)), if_pos c5, if_pos (by omega), bindF (laws_contains_ok _ _ (by omega)), hno, if_neg (by decide), if_neg (by decide)]
    exact plays_tail ha
  · rw [cardM, if_neg hok]
    dsimp only
    rw [if_neg (by decide), if_pos (by decide), bindF (impl_TotalCards_ok d.1 (by omega) (by omega)), bindF (impl_TotalCards_ok d.1 (by omega) (by omega)), if_nneg rfl]
    exact plays_tail ha
theorem law_FnPlays (x : den (parTy HH 8)) (hx : Fit Try.prog (parTy HH 8) x) : ∃ n, frun Try.prog HH n 8 x = some true := run_some (laws_FnPlays_ok x)
end Go.Proofs.Ytoioaijpdiglfaa.V
