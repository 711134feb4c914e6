/- Plain laws over the shapes. -/
import Derived.Test.YtoioaijpdiglfaaPSi
import Derived.Test.YtoioaijpdiglfaaLFnSights
import Derived.Test.YtoioaijpdiglfaaFIsDeal
import Derived.Test.YtoioaijpdiglfaaFSightOf
import Derived.Test.YtoioaijpdiglfaaS1
import Derived.Test.YtoioaijpdiglfaaS2
import Derived.Test.YtoioaijpdiglfaaS3
import Derived.Test.YtoioaijpdiglfaaS7
import Derived.Test.YtoioaijpdiglfaaS8
set_option linter.unusedVariables false
set_option linter.unusedSimpArgs false
set_option maxRecDepth 10000
namespace Go.Proofs.Ytoioaijpdiglfaa.V
open Go
theorem hasM_no {l : List Int} {x : Int} (h : x ∉ l) : hasM l x = false := by
  cases e : hasM l x with
  | false => rfl
  | true => exact absurd (hasM_iff.1 e) h
theorem sights_end {x0 : List Int} (ha : x0.length ≤ 1048576) (b0_0 b0_3 b0_4 : Int) (g hand tk r4 r5 : List Int) (h1 : hand.length ≤ 100) (h2 : tk.length ≤ 100) (h3 : g.length ≤ 100) : ∀ i, i ≤ (missM (hand ++ tk ++ g)).length → laws_FnSights_L17 x0 (i : Int) b0_0 b0_3 b0_4 g (missM (hand ++ tk ++ g)) hand tk r4 r5 = some true := down (by
    obtain ⟨d, e1, d1⟩ := DrawVoidIn_tot ha
    obtain ⟨v, e2, v1, v2⟩ := void_tot d.1 d.2.1 d.2.2.1 d.2.2.2.1 d.2.2.2.2.1 d.2.2.2.2.2.1 d.2.2.2.2.2.2.1 d.2.2.2.2.2.2.2 d1.2.2.2.2.2.2 (by have := d1.2.2.1; omega) (by have := d1.2.2.2.1; omega) (by have := d1.2.2.2.2.1; omega)
    obtain ⟨s, e3, ⟨s1, s2, s3, s4⟩, s5, s6, s7, s8⟩ := DrawSameSight_tot ha
    rw [laws_FnSights_L17_eq, if_dneg (by omega), e1, Option.bind_some, e2, Option.bind_some, e3, Option.bind_some, laws_ascends_ok _ (by have := miss_length (hand ++ tk ++ g); omega) (miss_asc _), Option.bind_some, if_pos rfl, if_dpos (by omega), if_dpos (by omega), same_sight _ _ _ _ _ _ _ _ _ _ _ _ _ _ s1 s2 s3 s4, Option.bind_some, same_sight _ _ _ _ _ _ _ _ _ _ _ _ _ _ s5 s6 s7 s8, Option.bind_some, if_pos (by
      rw [beq_iff_eq]
      simp only [eq_comm]), same_sight _ _ _ _ _ _ _ _ _ _ _ _ _ _ s1 s2 s3 s4, Option.bind_some]
    simp) fun i hi ih => by
  have hm := miss_length (hand ++ tk ++ g)
  have hx := getD_mem (d := (0 : Int)) hi
  have hn := miss_not hx
  rw [List.mem_append, List.mem_append, not_or, not_or] at hn
  rw [laws_FnSights_L17_eq, if_dpos (by omega), if_pos (by omega), if_pos (by omega), Int.toNat_natCast, laws_contains_ok _ _ (by omega), Option.bind_some, hasM_no hn.1.1, if_neg (by decide), if_pos (by omega), if_pos (by omega), laws_contains_ok _ _ (by omega), Option.bind_some, hasM_no hn.1.2, if_neg (by decide), if_pos (by omega), if_pos (by omega), laws_contains_ok _ _ (by omega), Option.bind_some, hasM_no hn.2, if_neg (by decide), wrap_id (by omega) (by omega)]
  exact ih
theorem sights_tail {x0 : List Int} (ha : x0.length ≤ 1048576) : ((spec_DrawUnseen x0).bind fun c11 => ((impl_Unseen c11.1 c11.2.1 c11.2.2.1 c11.2.2.2.1 c11.2.2.2.2.1 c11.2.2.2.2.2.1 c11.2.2.2.2.2.2.1 c11.2.2.2.2.2.2.2).bind fun c12 => (laws_FnSights_L17 x0 0 c11.1 c11.2.2.2.1 c11.2.2.2.2.1 c11.2.2.2.2.2.2.2 c12 c11.2.1 c11.2.2.1 c11.2.2.2.2.2.1 c11.2.2.2.2.2.2.1))) = some true := by
  obtain ⟨u, e1, u1, u2, u3⟩ := DrawUnseen_tot ha
  rw [e1, Option.bind_some, impl_Unseen_eq, impl_copyOf_ok _ (by omega), Option.bind_some, if_pos (by omega), if_pos (by rw [List.length_append]; omega), impl_Missing_ok _ (by rw [List.length_append, List.length_append]; omega), Option.bind_some, Option.bind_some]
  exact sights_end ha _ _ _ _ _ _ _ _ u1 u2 u3 0 (Nat.zero_le _)
theorem sight_of (hs : List (List Int)) (le tr : Int) (tk wo po : List Int) (lf : Int) (hd : dealM hs le tr tk wo po lf = true) {i : Nat} (hi : i < hs.length) : sightM hs le tr tk wo po lf (i : Int) = ((i : Int), sortM (hs.getD i []), tk, le, tr, lensM hs, wo, true) := by
  rw [sightM, hd, inR_iff.2 (by omega), Int.toNat_natCast]; rfl
theorem sight_ok (hs : List (List Int)) (le tr : Int) (tk wo po : List Int) (lf : Int) {i : Nat} (hi : i < hs.length) : (sightM hs le tr tk wo po lf (i : Int)).2.2.2.2.2.2.2 = dealM hs le tr tk wo po lf := by
  rw [sightM, inR_iff.2 (by omega)]
  cases dealM hs le tr tk wo po lf <;> rfl
theorem sights_loop {x0 : List Int} (ha : x0.length ≤ 1048576) (hs : List (List Int)) (le tr : Int) (tk wo po : List Int) (lf : Int) (hd : DrawnD hs tk wo po) (r0 : List (List Int)) (r7 : Bool) (a b : Int) (hr : G2 r0) (hy : r7 = true → Swapped hs r0 le tr tk wo po lf a b) : ∀ i, i ≤ hs.length → laws_FnSights_L8 x0 a b r7 (i : Int) le tr lf le tr lf hs tk wo po r0 tk wo po = some true := down (by
    rw [laws_FnSights_L8_eq, if_dneg (by omega)]
    exact sights_tail ha) fun i hi ih => by
  obtain ⟨h1, h2, h3, h4, h5, h6, h7⟩ := hd
  rw [laws_FnSights_L8_eq, if_dpos (by omega), impl_SightOf_ok hs le tr tk wo po lf (i : Int) h7 (by omega) (by omega) (by omega), Option.bind_some, impl_SightOf_ok r0 le tr tk wo po lf (i : Int) hr (by omega) (by omega) (by omega), Option.bind_some, impl_IsDeal_ok hs le tr tk wo po lf h7 (by omega) (by omega) (by omega), Option.bind_some, sight_ok hs le tr tk wo po lf hi, wrap_succ hi (by omega)]
  rw [if_neg (by rw [bne_self_eq_false]; decide)]
  cases r7 with
  | false => rw [if_neg (by decide)]; exact ih
  | true =>
    have y := hy rfl
    rw [if_pos rfl]
    by_cases c1 : (i : Int) = a
    · rw [if_nneg c1]; exact ih
    by_cases c2 : (i : Int) = b
    · rw [if_npos c1, if_nneg c2]; exact ih
    rw [if_npos c1, if_npos c2, sight_of hs le tr tk wo po lf y.old hi, sight_of r0 le tr tk wo po lf y.new (by rw [y.len]; exact hi), y.same i c1 c2, y.lens]
    dsimp only
    have hrow := getD_le_flat hs i
    rw [if_neg (by decide), same_sight _ _ _ _ _ _ _ _ _ _ _ _ _ _ (by rw [sortM_length]; omega) (by omega) (by rw [lensM_length]; omega) (by omega), Option.bind_some, if_neg (by simp)]
    exact ih
theorem laws_FnSights_ok (a0 : List Int) : laws_FnSights a0 = some true := by
  rw [laws_FnSights_eq, laws_big_eq, Option.bind_some]
  by_cases hb : (a0.length : Int) > 1048576
  · rw [if_dpos hb]
  rw [if_dneg hb]
  have ha : a0.length ≤ 1048576 := by omega
  obtain ⟨d, e1, hd⟩ := DrawSwapHidden_tot ha
  have hd0 := hd
  obtain ⟨h1, h2, h3, h4, h5, h6, h7⟩ := hd
  have q3 : d.2.2.2.1.length ≤ 2097152 := by omega
  have q4 : d.2.2.2.2.1.length ≤ 2097152 := by omega
  have q5 : d.2.2.2.2.2.1.length ≤ 2097152 := by omega
  have e2 := impl_SwapHidden_ok d.1 d.2.1 d.2.2.1 d.2.2.2.1 d.2.2.2.2.1 d.2.2.2.2.2.1 d.2.2.2.2.2.2.1 d.2.2.2.2.2.2.2.1 d.2.2.2.2.2.2.2.2.1 d.2.2.2.2.2.2.2.2.2.1 d.2.2.2.2.2.2.2.2.2.2 h7 q3 q4 q5
  obtain ⟨r0, r7, e3, hy, hn⟩ := swap_is d.1 d.2.1 d.2.2.1 d.2.2.2.1 d.2.2.2.2.1 d.2.2.2.2.2.1 d.2.2.2.2.2.2.1 d.2.2.2.2.2.2.2.1 d.2.2.2.2.2.2.2.2.1 d.2.2.2.2.2.2.2.2.2.1 d.2.2.2.2.2.2.2.2.2.2
  obtain ⟨r0', r7', e4, hg⟩ := swap_good d.1 d.2.1 d.2.2.1 d.2.2.2.1 d.2.2.2.2.1 d.2.2.2.2.2.1 d.2.2.2.2.2.2.1 d.2.2.2.2.2.2.2.1 d.2.2.2.2.2.2.2.2.1 d.2.2.2.2.2.2.2.2.2.1 d.2.2.2.2.2.2.2.2.2.2 h7 q3 q4 q5
  rw [e3] at e4 e2
  have er : r0 = r0' := congrArg Prod.fst e4
  rw [← er] at hg
  rw [e1, Option.bind_some, bindF e2]
  dsimp only
  cases r7 with
  | false => rw [if_neg (by decide)]; exact sights_loop ha d.1 d.2.1 d.2.2.1 d.2.2.2.1 d.2.2.2.2.1 d.2.2.2.2.2.1 d.2.2.2.2.2.2.1 hd0 r0 false _ _ hg (fun h => by cases h) 0 (Nat.zero_le _)
  | true =>
    have y := hy rfl
    rw [if_pos rfl, bindF (impl_IsDeal_ok r0 d.2.1 d.2.2.1 d.2.2.2.1 d.2.2.2.2.1 d.2.2.2.2.2.1 d.2.2.2.2.2.2.1 hg q3 q4 q5), y.new, if_neg (by decide), bindF (impl_TotalCards_ok r0 (by have := hg.len; omega) (by have := hg.flat; omega)), bindF (impl_TotalCards_ok d.1 (by omega) (by omega)), if_nneg (by rw [y.all])]
    exact sights_loop ha d.1 d.2.1 d.2.2.1 d.2.2.2.1 d.2.2.2.2.1 d.2.2.2.2.2.1 d.2.2.2.2.2.2.1 hd0 r0 true _ _ hg hy 0 (Nat.zero_le _)
theorem law_FnSights (x : den (parTy HH 6)) (hx : Fit Try.prog (parTy HH 6) x) : ∃ n, frun Try.prog HH n 6 x = some true := run_some (laws_FnSights_ok x)
end Go.Proofs.Ytoioaijpdiglfaa.V
