/- Plain laws over the shapes. -/
import Derived.Test.YtoioaijpdiglfaaPPk
import Derived.Test.YtoioaijpdiglfaaLFnPeeks
import Derived.Test.YtoioaijpdiglfaaS1
import Derived.Test.YtoioaijpdiglfaaS2
import Derived.Test.YtoioaijpdiglfaaS4
set_option linter.unusedVariables false
set_option linter.unusedSimpArgs false
set_option maxRecDepth 10000
namespace Go.Proofs.Ytoioaijpdiglfaa.V
open Go
theorem peeks_tail {x0 : List Int} (ha : x0.length ≤ 1048576) : ((spec_DrawSamePeek x0).bind fun c10 => ((spec_DrawHiddenCount x0).bind fun c11 => ((impl_SamePeek c10.1 c10.2.1 c10.2.2.1 c10.2.2.2.1 c10.2.2.2.2.1 c10.2.2.2.2.2.1 c10.2.2.2.2.2.2.1 c10.2.2.2.2.2.2.2.1 c10.2.2.2.2.2.2.2.2.1 c10.2.2.2.2.2.2.2.2.2.1 c10.2.2.2.2.2.2.2.2.2.2.1 c10.2.2.2.2.2.2.2.2.2.2.2.1 c10.2.2.2.2.2.2.2.2.2.2.2.2.1 c10.2.2.2.2.2.2.2.2.2.2.2.2.2.1 c10.2.2.2.2.2.2.2.2.2.2.2.2.2.2.1 c10.2.2.2.2.2.2.2.2.2.2.2.2.2.2.2).bind fun c12 => ((impl_SamePeek c10.2.2.2.2.2.2.2.2.1 c10.2.2.2.2.2.2.2.2.2.1 c10.2.2.2.2.2.2.2.2.2.2.1 c10.2.2.2.2.2.2.2.2.2.2.2.1 c10.2.2.2.2.2.2.2.2.2.2.2.2.1 c10.2.2.2.2.2.2.2.2.2.2.2.2.2.1 c10.2.2.2.2.2.2.2.2.2.2.2.2.2.2.1 c10.2.2.2.2.2.2.2.2.2.2.2.2.2.2.2 c10.1 c10.2.1 c10.2.2.1 c10.2.2.2.1 c10.2.2.2.2.1 c10.2.2.2.2.2.1 c10.2.2.2.2.2.2.1 c10.2.2.2.2.2.2.2.1).bind fun c13 => (if (c12 == c13) = true then ((impl_SamePeek c10.1 c10.2.1 c10.2.2.1 c10.2.2.2.1 c10.2.2.2.2.1 c10.2.2.2.2.2.1 c10.2.2.2.2.2.2.1 c10.2.2.2.2.2.2.2.1 c10.1 c10.2.1 c10.2.2.1 c10.2.2.2.1 c10.2.2.2.2.1 c10.2.2.2.2.2.1 c10.2.2.2.2.2.2.1 c10.2.2.2.2.2.2.2.1).bind fun c14 => (if c14 = true then ((impl_HiddenCount c11.1 c11.2.1 c11.2.2.1 c11.2.2.2.1 c11.2.2.2.2.1 c11.2.2.2.2.2.1 c11.2.2.2.2.2.2.1 c11.2.2.2.2.2.2.2).bind fun c15 => (some (decide (c15 < 52)))) else (some false))) else (some false)))))) = some true := by
  obtain ⟨r, e1, s1, s2, s3, s4⟩ := DrawSamePeek_tot ha
  obtain ⟨h, e2, k1⟩ := DrawHiddenCount_tot ha
  rw [e1, Option.bind_some, e2, Option.bind_some, same_peek _ _ _ _ _ _ _ _ _ _ _ _ _ _ _ _ s1 s2, Option.bind_some, same_peek _ _ _ _ _ _ _ _ _ _ _ _ _ _ _ _ s3 s4, Option.bind_some, if_pos (by
    rw [beq_iff_eq]
    simp only [eq_comm]), same_peek _ _ _ _ _ _ _ _ _ _ _ _ _ _ _ _ s1 s2, Option.bind_some, if_pos (by simp), impl_HiddenCount_eq, Option.bind_some, wrap_id (x := 52 - (h.2.1.length : Int)) (by omega) (by omega), wrap_id (by omega) (by omega), decide_eq_true (by omega)]
theorem peeks_loop {x0 : List Int} (ha : x0.length ≤ 1048576) (me : Int) (b0_0 b0_1 : Int) (b0_2 b0_3 : Bool) (b0_4 : List Int) (b0_6 b0_7 b0_11 b0_12 b0_13 b1_0 b1_2 b1_3 b1_4 b1_6 b1_7 : Int) (r0 : List Int) (hs : List (List Int)) (r2 r3 r4 r5 : List Int) (hl : hs.length ≤ 6) (hf : hs.flatten.length ≤ 60)
    (hm : ∀ i k : Nat, i < hs.length → k < (hs.getD i []).length → (i : Int) ≠ me → impl_MayHold b1_0 r4 b1_2 b1_3 b1_4 r5 b1_6 b1_7 ((hs.getD i []).getD k 0) = some true) : ∀ i, i ≤ hs.length → laws_FnPeeks_L10 x0 me true (i : Int) b0_0 b0_1 b0_2 b0_3 b0_4 b0_6 b0_7 b0_11 b0_12 b0_13 b1_0 b1_2 b1_3 b1_4 b1_6 b1_7 r0 hs r2 r3 r4 r5 = some true := down (by
    rw [laws_FnPeeks_L10_eq, if_dneg (by omega)]
    exact peeks_tail ha) fun i hi ih => by
  have hrow := row_le_flat (getD_mem (d := []) hi)
  rw [laws_FnPeeks_L10_eq, if_dpos (by omega), if_pos rfl]
  have key : ∀ k, k ≤ (hs.getD i []).length → laws_FnPeeks_L13 x0 me true (i : Int) (k : Int) b0_0 b0_1 b0_2 b0_3 b0_4 b0_6 b0_7 b0_11 b0_12 b0_13 b1_0 b1_2 b1_3 b1_4 b1_6 b1_7 r0 hs r2 r3 r4 r5 = some true := down (by
      rw [laws_FnPeeks_L13_eq, Int.toNat_natCast, if_pos (by omega), if_pos (by omega), if_dneg (by omega), wrap_succ hi (by omega)]
      exact ih) fun k hk ih2 => by
    rw [laws_FnPeeks_L13_eq, Int.toNat_natCast, Int.toNat_natCast, if_pos (by omega), if_pos (by omega), if_dpos (by omega), wrap_succ hk (by omega)]
    by_cases c : (i : Int) = me
    · rw [if_nneg c]; exact ih2
    · rw [if_npos c, if_pos (by omega), if_pos (by omega), if_pos (by omega), if_pos (by omega), if_pos hk, hm i k hi hk c, Option.bind_some, if_neg (by decide)]
      exact ih2
  exact key 0 (Nat.zero_le _)
theorem peeks_loopF {x0 : List Int} (ha : x0.length ≤ 1048576) (me : Int) (b0_0 b0_1 : Int) (b0_2 b0_3 : Bool) (b0_4 : List Int) (b0_6 b0_7 b0_11 b0_12 b0_13 b1_0 b1_2 b1_3 b1_4 b1_6 b1_7 : Int) (r0 : List Int) (hs : List (List Int)) (r2 r3 r4 r5 : List Int) (i : Int) : laws_FnPeeks_L10 x0 me false i b0_0 b0_1 b0_2 b0_3 b0_4 b0_6 b0_7 b0_11 b0_12 b0_13 b1_0 b1_2 b1_3 b1_4 b1_6 b1_7 r0 hs r2 r3 r4 r5 = some true := by
  rw [laws_FnPeeks_L10_eq]
  by_cases c : i < (hs.length : Int)
  · rw [if_dpos c, if_neg (by decide)]; exact peeks_tail ha
  · rw [if_dneg c]; exact peeks_tail ha
theorem laws_FnPeeks_ok (a0 : List Int) : laws_FnPeeks a0 = some true := by
  rw [laws_FnPeeks_eq, laws_big_eq, Option.bind_some]
  by_cases hb : (a0.length : Int) > 1048576
  · rw [if_dpos hb]
  rw [if_dneg hb]
  have ha : a0.length ≤ 1048576 := by omega
  obtain ⟨c, e1, sm⟩ := DrawStirHidden_tot ha
  obtain ⟨r8, r9, e2, hpk, hgm, sm2⟩ := stir_is c.1 c.2.1 c.2.2.1 c.2.2.2.1 c.2.2.2.2.1 c.2.2.2.2.2.1 c.2.2.2.2.2.2.1 c.2.2.2.2.2.2.2.1 c.2.2.2.2.2.2.2.2.1 c.2.2.2.2.2.2.2.2.2.1 c.2.2.2.2.2.2.2.2.2.2.1 c.2.2.2.2.2.2.2.2.2.2.2.1 c.2.2.2.2.2.2.2.2.2.2.2.2.1 c.2.2.2.2.2.2.2.2.2.2.2.2.2.1 sm c.2.2.2.2.2.2.2.2.2.2.2.2.2.2.1 c.2.2.2.2.2.2.2.2.2.2.2.2.2.2.2
  have e3 := impl_PeekOf_ok c.1 c.2.1 c.2.2.1 c.2.2.2.1 c.2.2.2.2.1 c.2.2.2.2.2.1 c.2.2.2.2.2.2.1 c.2.2.2.2.2.2.2.1 c.2.2.2.2.2.2.2.2.1 c.2.2.2.2.2.2.2.2.2.1 c.2.2.2.2.2.2.2.2.2.2.1 c.2.2.2.2.2.2.2.2.2.2.2.1 c.2.2.2.2.2.2.2.2.2.2.2.2.1 c.2.2.2.2.2.2.2.2.2.2.2.2.2.1 c.2.2.2.2.2.2.2.2.2.2.2.2.2.2.1 (by have := sm.1; omega) (by have := sm.2.1; omega) (sm.g2 (by omega)) (by have := sm.2.2.2; omega) (by have := sm.2.2.2; omega)
  have e4 := impl_PeekOf_ok c.1 c.2.1 c.2.2.1 c.2.2.2.1 c.2.2.2.2.1 c.2.2.2.2.2.1 c.2.2.2.2.2.2.1 c.2.2.2.2.2.2.2.1 r8 r9 c.2.2.2.2.2.2.2.2.2.2.1 c.2.2.2.2.2.2.2.2.2.2.2.1 c.2.2.2.2.2.2.2.2.2.2.2.2.1 c.2.2.2.2.2.2.2.2.2.2.2.2.2.1 c.2.2.2.2.2.2.2.2.2.2.2.2.2.2.1 (by have := sm.1; omega) (by have := sm.2.1; omega) (sm2.g2 (by omega)) (by have := sm2.2.2.2; omega) (by have := sm2.2.2.2; omega)
  have e5 := impl_IsGame_ok c.1 c.2.1 c.2.2.1 c.2.2.2.1 c.2.2.2.2.1 c.2.2.2.2.2.1 c.2.2.2.2.2.2.1 c.2.2.2.2.2.2.2.1 r8 r9 c.2.2.2.2.2.2.2.2.2.2.1 c.2.2.2.2.2.2.2.2.2.2.2.1 c.2.2.2.2.2.2.2.2.2.2.2.2.1 c.2.2.2.2.2.2.2.2.2.2.2.2.2.1 (by have := sm.1; omega) (by have := sm.2.1; omega) (sm2.g2 (by omega)) (by have := sm2.2.2.2; omega) (by have := sm2.2.2.2; omega)
  have e6 := impl_IsGame_ok c.1 c.2.1 c.2.2.1 c.2.2.2.1 c.2.2.2.2.1 c.2.2.2.2.2.1 c.2.2.2.2.2.2.1 c.2.2.2.2.2.2.2.1 c.2.2.2.2.2.2.2.2.1 c.2.2.2.2.2.2.2.2.2.1 c.2.2.2.2.2.2.2.2.2.2.1 c.2.2.2.2.2.2.2.2.2.2.2.1 c.2.2.2.2.2.2.2.2.2.2.2.2.1 c.2.2.2.2.2.2.2.2.2.2.2.2.2.1 (by have := sm.1; omega) (by have := sm.2.1; omega) (sm.g2 (by omega)) (by have := sm.2.2.2; omega) (by have := sm.2.2.2; omega)
  have hps := peek_small c.1 c.2.1 c.2.2.1 c.2.2.2.1 c.2.2.2.2.1 c.2.2.2.2.2.1 c.2.2.2.2.2.2.1 c.2.2.2.2.2.2.2.1 c.2.2.2.2.2.2.2.2.1 c.2.2.2.2.2.2.2.2.2.1 c.2.2.2.2.2.2.2.2.2.2.1 c.2.2.2.2.2.2.2.2.2.2.2.1 c.2.2.2.2.2.2.2.2.2.2.2.2.1 c.2.2.2.2.2.2.2.2.2.2.2.2.2.1 sm c.2.2.2.2.2.2.2.2.2.2.2.2.2.2.1
  rw [hpk] at e4
  rw [hgm] at e5
  have hl := sm.2.2.1
  have hfl := sm.2.2.2
  rw [e1, Option.bind_some, e2, Option.bind_some, e3, Option.bind_some, bindF e4]
  cases hg : gameM c.1 c.2.1 c.2.2.1 c.2.2.2.1 c.2.2.2.2.1 c.2.2.2.2.2.1 c.2.2.2.2.2.2.1 c.2.2.2.2.2.2.2.1 c.2.2.2.2.2.2.2.2.1 c.2.2.2.2.2.2.2.2.2.1 c.2.2.2.2.2.2.2.2.2.2.1 c.2.2.2.2.2.2.2.2.2.2.2.1 c.2.2.2.2.2.2.2.2.2.2.2.2.1 c.2.2.2.2.2.2.2.2.2.2.2.2.2.1 && inR c.2.2.2.2.2.2.2.2.2.2.2.2.2.2.1 0 ((c.2.2.2.2.2.2.2.2.1.length : Int) - 1) with
  | false =>
    have hp : peekM c.1 c.2.1 c.2.2.1 c.2.2.2.1 c.2.2.2.2.1 c.2.2.2.2.2.1 c.2.2.2.2.2.2.1 c.2.2.2.2.2.2.2.1 c.2.2.2.2.2.2.2.2.1 c.2.2.2.2.2.2.2.2.2.1 c.2.2.2.2.2.2.2.2.2.2.1 c.2.2.2.2.2.2.2.2.2.2.2.1 c.2.2.2.2.2.2.2.2.2.2.2.2.1 c.2.2.2.2.2.2.2.2.2.2.2.2.2.1 c.2.2.2.2.2.2.2.2.2.2.2.2.2.2.1 = (0, [], 0, 0, 0, [], 0, 0, false) := by rw [peekM, hg]; rfl
    rw [hp]
    rw [if_neg (by decide), if_neg (by decide), bindF e6]
    cases hgg : gameM c.1 c.2.1 c.2.2.1 c.2.2.2.1 c.2.2.2.2.1 c.2.2.2.2.2.1 c.2.2.2.2.2.2.1 c.2.2.2.2.2.2.2.1 c.2.2.2.2.2.2.2.2.1 c.2.2.2.2.2.2.2.2.2.1 c.2.2.2.2.2.2.2.2.2.2.1 c.2.2.2.2.2.2.2.2.2.2.2.1 c.2.2.2.2.2.2.2.2.2.2.2.2.1 c.2.2.2.2.2.2.2.2.2.2.2.2.2.1 with
    | false => rw [if_neg (by decide), if_neg (by decide)]; exact peeks_loopF ha _ _ _ _ _ _ _ _ _ _ _ _ _ _ _ _ _ _ _ _ _ _ _ _
    | true =>
      rw [hgg, Bool.true_and] at hg
      rw [if_pos rfl]
      by_cases c1 : c.2.2.2.2.2.2.2.2.2.2.2.2.2.2.1 ≥ 0
      · have c2 : ¬ c.2.2.2.2.2.2.2.2.2.2.2.2.2.2.1 < (c.2.2.2.2.2.2.2.2.1.length : Int) := fun h => by
          rw [inR_iff.2 ⟨by omega, by omega⟩] at hg; cases hg
        rw [if_dpos c1, decide_eq_false c2, if_neg (by decide)]; exact peeks_loopF ha _ _ _ _ _ _ _ _ _ _ _ _ _ _ _ _ _ _ _ _ _ _ _ _
      · rw [if_dneg c1, if_neg (by decide)]; exact peeks_loopF ha _ _ _ _ _ _ _ _ _ _ _ _ _ _ _ _ _ _ _ _ _ _ _ _
  | true =>
    have hp : peekM c.1 c.2.1 c.2.2.1 c.2.2.2.1 c.2.2.2.2.1 c.2.2.2.2.2.1 c.2.2.2.2.2.2.1 c.2.2.2.2.2.2.2.1 c.2.2.2.2.2.2.2.2.1 c.2.2.2.2.2.2.2.2.2.1 c.2.2.2.2.2.2.2.2.2.2.1 c.2.2.2.2.2.2.2.2.2.2.2.1 c.2.2.2.2.2.2.2.2.2.2.2.2.1 c.2.2.2.2.2.2.2.2.2.2.2.2.2.1 c.2.2.2.2.2.2.2.2.2.2.2.2.2.2.1 = (c.2.2.2.2.2.2.2.2.2.2.2.2.2.2.1, sortM (c.2.2.2.2.2.2.2.2.1.getD c.2.2.2.2.2.2.2.2.2.2.2.2.2.2.1.toNat []), c.2.2.2.2.2.2.2.2.2.2.1.getD (c.2.2.2.2.2.2.2.2.2.2.1.length - 1) 0, (c.2.2.2.2.2.2.2.2.2.2.1.length : Int), (c.2.2.2.2.2.2.2.2.2.1.length : Int), lensM c.2.2.2.2.2.2.2.2.1, c.2.2.2.2.2.2.2.2.2.2.2.1, c.2.2.2.2.2.2.2.2.2.2.2.2.1, true) := by rw [peekM, hg]; rfl
    rw [hp] at hps ⊢
    rw [Bool.and_eq_true] at hg
    have hi := inR_iff.1 hg.2
    have hmay := may_hold c.1 c.2.1 c.2.2.1 c.2.2.2.1 c.2.2.2.2.1 c.2.2.2.2.2.1 c.2.2.2.2.2.2.1 c.2.2.2.2.2.2.2.1 c.2.2.2.2.2.2.2.2.1 c.2.2.2.2.2.2.2.2.2.1 c.2.2.2.2.2.2.2.2.2.2.1 c.2.2.2.2.2.2.2.2.2.2.2.1 c.2.2.2.2.2.2.2.2.2.2.2.2.1 c.2.2.2.2.2.2.2.2.2.2.2.2.2.1 hg.1 c.2.2.2.2.2.2.2.2.2.2.2.2.2.2.1 hg.2
    rw [hg.1] at e5 e6
    rw [if_neg (by simp), if_pos rfl, same_peek _ _ _ _ _ _ _ _ _ _ _ _ _ _ _ _ (by have := hps.1; omega) (by have := hps.2; omega), Option.bind_some, if_neg (by simp), bindF e5, if_neg (by decide), bindF e6, if_pos rfl, if_dpos (by omega), decide_eq_true (by omega), if_neg (by simp)]
    exact peeks_loop ha _ _ _ _ _ _ _ _ _ _ _ _ _ _ _ _ _ _ _ _ _ _ _ hl (by omega) (fun i k h1 h2 h3 => hmay i k h1 h2 h3 _ _ _ _ _ _) 0 (Nat.zero_le _)
theorem law_FnPeeks (x : den (parTy HH 7)) (hx : Fit Try.prog (parTy HH 7) x) : ∃ n, frun Try.prog HH n 7 x = some true := run_some (laws_FnPeeks_ok x)
end Go.Proofs.Ytoioaijpdiglfaa.V
