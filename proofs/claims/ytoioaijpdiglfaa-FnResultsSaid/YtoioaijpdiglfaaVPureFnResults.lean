/- Plain laws over the shapes. -/
import Derived.Test.YtoioaijpdiglfaaPRes
import Derived.Test.YtoioaijpdiglfaaLFnResults
import Derived.Test.YtoioaijpdiglfaaS1
import Derived.Test.YtoioaijpdiglfaaS5
import Derived.Test.YtoioaijpdiglfaaS6
import Derived.Test.YtoioaijpdiglfaaS7
import Derived.Test.YtoioaijpdiglfaaS8
import Derived.Test.YtoioaijpdiglfaaS9
set_option linter.unusedVariables false
set_option linter.unusedSimpArgs false
set_option maxRecDepth 10000
namespace Go.Proofs.Ytoioaijpdiglfaa.V
open Go
theorem laws_sum_ok (l : List Int) (hl : l.length ≤ 4398046511104) : laws_sum l = some (sumW l) := by
  have h : ∀ i, i ≤ l.length → laws_sum_L3 l (sumW (l.take i)) i = some (sumW l) := down (by
      rw [laws_sum_L3_eq]
      simp (disch := (first | omega | (simp only [List.length_append, List.length_cons, List.length_nil, List.length_take, List.length_drop, List.length_set, List.length_replicate, List.length_singleton]; omega))) only [↓if_dpos, ↓if_dneg, ↓if_epos, ↓if_eneg, ↓if_npos, ↓if_nneg, ↓if_pos, ↓if_neg, Int.toNat_natCast, List.nil_append, Nat.zero_add, List.length_singleton, Option.bind_some, List.drop_zero, List.take_length, if_true, if_false, ]) fun i hi ih => by
    have hil : (i : Int) < (l.length : Int) := by omega
    have hw : IntKind.i64.wrap ((i : Int) + 1) = ((i + 1 : Nat) : Int) := wrap_succ hi (by omega)
    rw [laws_sum_L3_eq]
    simp (disch := (first | omega | (simp only [List.length_append, List.length_cons, List.length_nil, List.length_take, List.length_drop, List.length_set, List.length_replicate, List.length_singleton]; omega))) only [↓if_dpos, ↓if_dneg, ↓if_epos, ↓if_eneg, ↓if_npos, ↓if_nneg, ↓if_pos, ↓if_neg, hw, Int.toNat_natCast, List.nil_append, Nat.zero_add, List.length_singleton, Option.bind_some, List.drop_zero, List.take_length, if_true, if_false, ]
    rw [← ih]
    unfold sumW
    rw [foldl_take (d := 0) hi]
  rw [laws_sum_eq]
  exact h 0 (Nat.zero_le _)
theorem impl_Loser_ok (a0 a1 : Int) (a2 a3 : Bool) (a4 a5 : List Int) (a6 a7 : Int) (hs : List (List Int)) (st hp : List Int) (tu mo pa : Int) (h4 : a4.length ≤ 1048576) (h5 : a5.length ≤ 1048576) (hh : G2 hs) (h9 : st.length ≤ 2097152) (h10 : hp.length ≤ 2097152) : impl_Loser a0 a1 a2 a3 a4 a5 a6 a7 hs st hp tu mo pa = some (if gameM a0 a1 a2 a3 a4 a5 a6 a7 hs st hp tu mo pa = true then mostR (leftM hs) (leftM hs) (-1) 0 else -1) := by
  have hl := leftM_length hs
  have hn := hh.len
  rw [impl_Loser_eq, impl_IsGame_ok a0 a1 a2 a3 a4 a5 a6 a7 hs st hp tu mo pa h4 h5 hh h9 h10, Option.bind_some, impl_LeftPoints_ok a0 a1 a2 a3 a4 a5 a6 a7 hs st hp tu mo pa hh, Option.bind_some, impl_MostOf_ok _ (by omega)]
  cases gameM a0 a1 a2 a3 a4 a5 a6 a7 hs st hp tu mo pa <;> rfl
theorem impl_IsDrawn_ok (a0 a1 : Int) (a2 a3 : Bool) (a4 a5 : List Int) (a6 a7 : Int) (hs : List (List Int)) (st hp : List Int) (tu mo pa : Int) (h4 : a4.length ≤ 1048576) (h5 : a5.length ≤ 1048576) (hh : G2 hs) (h9 : st.length ≤ 2097152) (h10 : hp.length ≤ 2097152) : impl_IsDrawn a0 a1 a2 a3 a4 a5 a6 a7 hs st hp tu mo pa = some (endM a0 a1 a2 a3 a4 a5 a6 a7 hs st hp tu mo pa && decide (winM a0 a1 a2 a3 a4 a5 a6 a7 hs st hp tu mo pa < 0)) := by
  rw [impl_IsDrawn_eq, impl_IsEnded_ok a0 a1 a2 a3 a4 a5 a6 a7 hs st hp tu mo pa h4 h5 hh h9 h10, Option.bind_some, impl_Winner_ok a0 a1 a2 a3 a4 a5 a6 a7 hs st hp tu mo pa h4 h5 hh h9 h10]
  cases endM a0 a1 a2 a3 a4 a5 a6 a7 hs st hp tu mo pa <;> rfl
theorem res_end (a0 a1 : Int) (a2 a3 : Bool) (a4 a5 : List Int) (a6 a7 : Int) (hs : List (List Int)) (st hp : List Int) (tu mo pa : Int) (sm : Sm 60 a4 a5 hs st hp) (i : Nat) (hi : (orderM a0 a1 a2 a3 a4 a5 a6 a7 hs st hp tu mo pa).length ≤ i) : laws_FnResults_L11 (winM a0 a1 a2 a3 a4 a5 a6 a7 hs st hp tu mo pa) (i : Int) a0 a1 a2 a3 a4 a6 a7 tu mo pa (settledM a0 a1 a2 a3 a4 a5 a6 a7 hs st hp tu mo pa) (orderM a0 a1 a2 a3 a4 a5 a6 a7 hs st hp tu mo pa) (leftM hs) a5 hs st hp = some true := by
  obtain ⟨_, f2, f3⟩ := settled_facts a0 a1 a2 a3 a4 a5 a6 a7 hs st hp tu mo pa sm
  have hl := leftM_length hs
  have hlo := impl_Loser_ok a0 a1 a2 a3 a4 a5 a6 a7 hs st hp tu mo pa (by have := sm.1; omega) (by have := sm.2.1; omega) (sm.g2 (by omega)) (by have := sm.2.2.2; omega) (by have := sm.2.2.2; omega)
  rw [laws_FnResults_L11_eq, if_dneg (by omega)]
  cases hg : gameM a0 a1 a2 a3 a4 a5 a6 a7 hs st hp tu mo pa with
  | false =>
    rw [hg, if_neg (by decide)] at f2
    have ho : (orderM a0 a1 a2 a3 a4 a5 a6 a7 hs st hp tu mo pa).length = 0 := by rw [orderM, hg]; rfl
    rw [if_epos (by omega), if_epos (by omega), if_dpos (by rw [winM, hg, if_neg (by decide)]; omega)]
  | true =>
    rw [hg, if_pos rfl] at f2 hlo
    obtain ⟨_, k2, _⟩ := (gameM_iff a0 a1 a2 a3 a4 a5 a6 a7 hs st hp tu mo pa).1 hg
    have v := gameM_valid a0 a1 a2 a3 a4 a5 a6 a7 hs st hp tu mo pa hg
    have v1 := v.p1
    have ho : orderM a0 a1 a2 a3 a4 a5 a6 a7 hs st hp tu mo pa = ordL (leftM hs) hs.length := by rw [orderM, hg, if_pos rfl]
    have hol := ordL_length (leftM hs) hs.length
    have hmem := ordL_mem (leftM hs) hs.length
    have hsorted := ordL_sorted (leftM hs) hs.length
    have hall := ordL_all (leftM hs) hs.length
    rw [ho] at hi ⊢
    generalize ordL (leftM hs) hs.length = o at *
    obtain ⟨m1, m2, m3⟩ := mostR_max (leftM hs) (leftM hs) (-1) 0 rfl (fun _ => rfl) (by omega) (fun h => by omega) (by omega)
    have m1 : 0 ≤ mostR (leftM hs) (leftM hs) (-1) 0 := m1
    have m2 : mostR (leftM hs) (leftM hs) (-1) 0 < ((leftM hs).length : Int) := m2
    have m3 : ∀ j : Nat, j < (leftM hs).length → (leftM hs).getD j 0 ≤ (leftM hs).getD (mostR (leftM hs) (leftM hs) (-1) 0).toNat 0 := m3
    have w : IntKind.i64.wrap ((o.length : Int) - 1) = ((o.length - 1 : Nat) : Int) := by rw [wrap_id (by have := sm.2.2.1; omega) (by have := sm.2.2.1; omega)]; omega
    have hlast := hmem _ (getD_mem (d := 0) (by omega : o.length - 1 < o.length))
    have heq : (leftM hs).getD (mostR (leftM hs) (leftM hs) (-1) 0).toNat 0 = (leftM hs).getD (o.getD (o.length - 1) 0).toNat 0 := by
      have h1 := m3 (o.getD (o.length - 1) 0).toNat (by omega)
      have h2 : (leftM hs).getD (mostR (leftM hs) (leftM hs) (-1) 0).toNat 0 ≤ (leftM hs).getD (o.getD (o.length - 1) 0).toNat 0 := by
        have hin := hall (mostR (leftM hs) (leftM hs) (-1) 0).toNat (by omega)
        obtain ⟨j, hj, e⟩ := List.mem_iff_getElem.1 hin
        by_cases c : j = o.length - 1
        · subst c
          rw [List.getD_eq_getElem?_getD (l := o), List.getElem?_eq_getElem (by omega)]
          rw [Option.getD_some, e, Int.toNat_natCast]
          exact Int.le_refl _
        · have := List.pairwise_iff_getElem.1 hsorted j (o.length - 1) (by omega) (by omega) (by omega)
          rw [e, Int.toNat_natCast] at this
          rw [List.getD_eq_getElem?_getD (l := o), List.getElem?_eq_getElem (by omega)]
          exact this
      omega
    generalize mostR (leftM hs) (leftM hs) (-1) 0 = m at *
    rw [if_epos (by omega), if_eneg (by omega), bindF hlo, w, Int.toNat_natCast, if_pos m1, if_pos m2, if_pos (by omega), if_pos (by omega), if_pos (by omega), if_pos (by omega), if_epos heq]
    by_cases c : winM a0 a1 a2 a3 a4 a5 a6 a7 hs st hp tu mo pa < 0
    · rw [if_dpos c]
    · obtain ⟨w1, w2, w3, w4⟩ := win_facts a0 a1 a2 a3 a4 a5 a6 a7 hs st hp tu mo pa (by omega)
      rw [if_dneg c, if_pos (by omega), if_pos (by omega), (f3 (by omega)).2]; rfl
theorem res_loop (a0 a1 : Int) (a2 a3 : Bool) (a4 a5 : List Int) (a6 a7 : Int) (hs : List (List Int)) (st hp : List Int) (tu mo pa : Int) (sm : Sm 60 a4 a5 hs st hp) : ∀ d i : Nat, 1 ≤ i → (orderM a0 a1 a2 a3 a4 a5 a6 a7 hs st hp tu mo pa).length ≤ i + d → laws_FnResults_L11 (winM a0 a1 a2 a3 a4 a5 a6 a7 hs st hp tu mo pa) (i : Int) a0 a1 a2 a3 a4 a6 a7 tu mo pa (settledM a0 a1 a2 a3 a4 a5 a6 a7 hs st hp tu mo pa) (orderM a0 a1 a2 a3 a4 a5 a6 a7 hs st hp tu mo pa) (leftM hs) a5 hs st hp = some true := by
  intro d
  induction d with
  | zero => intro i h1 hi; exact res_end a0 a1 a2 a3 a4 a5 a6 a7 hs st hp tu mo pa sm i hi
  | succ d ih =>
    intro i h1 hi
    by_cases c : (orderM a0 a1 a2 a3 a4 a5 a6 a7 hs st hp tu mo pa).length ≤ i
    · exact res_end a0 a1 a2 a3 a4 a5 a6 a7 hs st hp tu mo pa sm i c
    have ih := ih (i + 1) (by omega) (by omega)
    have hg : gameM a0 a1 a2 a3 a4 a5 a6 a7 hs st hp tu mo pa = true := by
      cases hg : gameM a0 a1 a2 a3 a4 a5 a6 a7 hs st hp tu mo pa with
      | true => rfl
      | false => rw [orderM, hg] at c; exact absurd (Nat.zero_le _) c
    have hl := leftM_length hs
    have ho : orderM a0 a1 a2 a3 a4 a5 a6 a7 hs st hp tu mo pa = ordL (leftM hs) hs.length := by rw [orderM, hg, if_pos rfl]
    have hol := ordL_length (leftM hs) hs.length
    have hmem := ordL_mem (leftM hs) hs.length
    have hsorted := ordL_sorted (leftM hs) hs.length
    rw [ho] at c hi ih ⊢
    generalize ordL (leftM hs) hs.length = o at *
    have w1 : IntKind.i64.wrap ((i : Int) - 1) = ((i - 1 : Nat) : Int) := by rw [wrap_id (by have := sm.2.2.1; omega) (by have := sm.2.2.1; omega)]; omega
    have w2 : IntKind.i64.wrap ((i : Int) + 1) = ((i + 1 : Nat) : Int) := by rw [wrap_id (by have := sm.2.2.1; omega) (by have := sm.2.2.1; omega)]; omega
    have b1 := hmem _ (getD_mem (d := 0) (by omega : i - 1 < o.length))
    have b2 := hmem _ (getD_mem (d := 0) (by omega : i < o.length))
    have hle : (leftM hs).getD (o.getD (i - 1) 0).toNat 0 ≤ (leftM hs).getD (o.getD i 0).toNat 0 := by
      have := List.pairwise_iff_getElem.1 hsorted (i - 1) i (by omega) (by omega) (by omega)
      rw [List.getD_eq_getElem?_getD (l := o), List.getElem?_eq_getElem (by omega), List.getD_eq_getElem?_getD (l := o), List.getElem?_eq_getElem (by omega)]
      exact this
    rw [laws_FnResults_L11_eq, w1, w2, Int.toNat_natCast, Int.toNat_natCast, if_dpos (by omega), if_pos (by omega), if_pos (by omega), if_pos b1.1, if_pos (by omega), if_pos (by omega), if_pos (by omega), if_pos b2.1, if_pos (by omega), if_dneg (by omega)]
    exact ih
theorem laws_FnResults_ok (a0 : List Int) : laws_FnResults a0 = some true := by
  rw [laws_FnResults_eq, laws_big_eq, Option.bind_some]
  by_cases hb : (a0.length : Int) > 1048576
  · rw [if_dpos hb]
  rw [if_dneg hb]
  have ha : a0.length ≤ 1048576 := by omega
  obtain ⟨c2, e1, sm⟩ := DrawSettled_tot ha
  have i1 := impl_Settled_ok c2.1 c2.2.1 c2.2.2.1 c2.2.2.2.1 c2.2.2.2.2.1 c2.2.2.2.2.2.1 c2.2.2.2.2.2.2.1 c2.2.2.2.2.2.2.2.1 c2.2.2.2.2.2.2.2.2.1 c2.2.2.2.2.2.2.2.2.2.1 c2.2.2.2.2.2.2.2.2.2.2.1 c2.2.2.2.2.2.2.2.2.2.2.2.1 c2.2.2.2.2.2.2.2.2.2.2.2.2.1 c2.2.2.2.2.2.2.2.2.2.2.2.2.2 (by have := sm.1; omega) (by have := sm.2.1; omega) (sm.g2 (by omega)) (by have := sm.2.2.2; omega) (by have := sm.2.2.2; omega)
  have i2 := impl_Winner_ok c2.1 c2.2.1 c2.2.2.1 c2.2.2.2.1 c2.2.2.2.2.1 c2.2.2.2.2.2.1 c2.2.2.2.2.2.2.1 c2.2.2.2.2.2.2.2.1 c2.2.2.2.2.2.2.2.2.1 c2.2.2.2.2.2.2.2.2.2.1 c2.2.2.2.2.2.2.2.2.2.2.1 c2.2.2.2.2.2.2.2.2.2.2.2.1 c2.2.2.2.2.2.2.2.2.2.2.2.2.1 c2.2.2.2.2.2.2.2.2.2.2.2.2.2 (by have := sm.1; omega) (by have := sm.2.1; omega) (sm.g2 (by omega)) (by have := sm.2.2.2; omega) (by have := sm.2.2.2; omega)
  have i3 := impl_IsGame_ok c2.1 c2.2.1 c2.2.2.1 c2.2.2.2.1 c2.2.2.2.2.1 c2.2.2.2.2.2.1 c2.2.2.2.2.2.2.1 c2.2.2.2.2.2.2.2.1 c2.2.2.2.2.2.2.2.2.1 c2.2.2.2.2.2.2.2.2.2.1 c2.2.2.2.2.2.2.2.2.2.2.1 c2.2.2.2.2.2.2.2.2.2.2.2.1 c2.2.2.2.2.2.2.2.2.2.2.2.2.1 c2.2.2.2.2.2.2.2.2.2.2.2.2.2 (by have := sm.1; omega) (by have := sm.2.1; omega) (sm.g2 (by omega)) (by have := sm.2.2.2; omega) (by have := sm.2.2.2; omega)
  have i4 := impl_IsDrawn_ok c2.1 c2.2.1 c2.2.2.1 c2.2.2.2.1 c2.2.2.2.2.1 c2.2.2.2.2.2.1 c2.2.2.2.2.2.2.1 c2.2.2.2.2.2.2.2.1 c2.2.2.2.2.2.2.2.2.1 c2.2.2.2.2.2.2.2.2.2.1 c2.2.2.2.2.2.2.2.2.2.2.1 c2.2.2.2.2.2.2.2.2.2.2.2.1 c2.2.2.2.2.2.2.2.2.2.2.2.2.1 c2.2.2.2.2.2.2.2.2.2.2.2.2.2 (by have := sm.1; omega) (by have := sm.2.1; omega) (sm.g2 (by omega)) (by have := sm.2.2.2; omega) (by have := sm.2.2.2; omega)
  have i5 := impl_OrderOf_ok c2.1 c2.2.1 c2.2.2.1 c2.2.2.2.1 c2.2.2.2.2.1 c2.2.2.2.2.2.1 c2.2.2.2.2.2.2.1 c2.2.2.2.2.2.2.2.1 c2.2.2.2.2.2.2.2.2.1 c2.2.2.2.2.2.2.2.2.2.1 c2.2.2.2.2.2.2.2.2.2.2.1 c2.2.2.2.2.2.2.2.2.2.2.2.1 c2.2.2.2.2.2.2.2.2.2.2.2.2.1 c2.2.2.2.2.2.2.2.2.2.2.2.2.2 (by have := sm.1; omega) (by have := sm.2.1; omega) (sm.g2 (by omega)) (by have := sm.2.2.2; omega) (by have := sm.2.2.2; omega)
  have i6 := impl_LeftPoints_ok c2.1 c2.2.1 c2.2.2.1 c2.2.2.2.1 c2.2.2.2.2.1 c2.2.2.2.2.2.1 c2.2.2.2.2.2.2.1 c2.2.2.2.2.2.2.2.1 c2.2.2.2.2.2.2.2.2.1 c2.2.2.2.2.2.2.2.2.2.1 c2.2.2.2.2.2.2.2.2.2.2.1 c2.2.2.2.2.2.2.2.2.2.2.2.1 c2.2.2.2.2.2.2.2.2.2.2.2.2.1 c2.2.2.2.2.2.2.2.2.2.2.2.2.2 (sm.g2 (by omega))
  obtain ⟨f1, f2, f3⟩ := settled_facts c2.1 c2.2.1 c2.2.2.1 c2.2.2.2.1 c2.2.2.2.2.1 c2.2.2.2.2.2.1 c2.2.2.2.2.2.2.1 c2.2.2.2.2.2.2.2.1 c2.2.2.2.2.2.2.2.2.1 c2.2.2.2.2.2.2.2.2.2.1 c2.2.2.2.2.2.2.2.2.2.2.1 c2.2.2.2.2.2.2.2.2.2.2.2.1 c2.2.2.2.2.2.2.2.2.2.2.2.2.1 c2.2.2.2.2.2.2.2.2.2.2.2.2.2 sm
  have h6 := sm.2.2.1
  have hlen : (settledM c2.1 c2.2.1 c2.2.2.1 c2.2.2.2.1 c2.2.2.2.2.1 c2.2.2.2.2.2.1 c2.2.2.2.2.2.2.1 c2.2.2.2.2.2.2.2.1 c2.2.2.2.2.2.2.2.2.1 c2.2.2.2.2.2.2.2.2.2.1 c2.2.2.2.2.2.2.2.2.2.2.1 c2.2.2.2.2.2.2.2.2.2.2.2.1 c2.2.2.2.2.2.2.2.2.2.2.2.2.1 c2.2.2.2.2.2.2.2.2.2.2.2.2.2).length ≤ 6 := by rw [f2]; split <;> omega
  have s1 := laws_sum_ok (settledM c2.1 c2.2.1 c2.2.2.1 c2.2.2.2.1 c2.2.2.2.2.1 c2.2.2.2.2.2.1 c2.2.2.2.2.2.2.1 c2.2.2.2.2.2.2.2.1 c2.2.2.2.2.2.2.2.2.1 c2.2.2.2.2.2.2.2.2.2.1 c2.2.2.2.2.2.2.2.2.2.2.1 c2.2.2.2.2.2.2.2.2.2.2.2.1 c2.2.2.2.2.2.2.2.2.2.2.2.2.1 c2.2.2.2.2.2.2.2.2.2.2.2.2.2) (by omega)
  rw [f1] at s1
  have loop : laws_FnResults_L11 (winM c2.1 c2.2.1 c2.2.2.1 c2.2.2.2.1 c2.2.2.2.2.1 c2.2.2.2.2.2.1 c2.2.2.2.2.2.2.1 c2.2.2.2.2.2.2.2.1 c2.2.2.2.2.2.2.2.2.1 c2.2.2.2.2.2.2.2.2.2.1 c2.2.2.2.2.2.2.2.2.2.2.1 c2.2.2.2.2.2.2.2.2.2.2.2.1 c2.2.2.2.2.2.2.2.2.2.2.2.2.1 c2.2.2.2.2.2.2.2.2.2.2.2.2.2) 1 c2.1 c2.2.1 c2.2.2.1 c2.2.2.2.1 c2.2.2.2.2.1 c2.2.2.2.2.2.2.1 c2.2.2.2.2.2.2.2.1 c2.2.2.2.2.2.2.2.2.2.2.2.1 c2.2.2.2.2.2.2.2.2.2.2.2.2.1 c2.2.2.2.2.2.2.2.2.2.2.2.2.2 (settledM c2.1 c2.2.1 c2.2.2.1 c2.2.2.2.1 c2.2.2.2.2.1 c2.2.2.2.2.2.1 c2.2.2.2.2.2.2.1 c2.2.2.2.2.2.2.2.1 c2.2.2.2.2.2.2.2.2.1 c2.2.2.2.2.2.2.2.2.2.1 c2.2.2.2.2.2.2.2.2.2.2.1 c2.2.2.2.2.2.2.2.2.2.2.2.1 c2.2.2.2.2.2.2.2.2.2.2.2.2.1 c2.2.2.2.2.2.2.2.2.2.2.2.2.2) (orderM c2.1 c2.2.1 c2.2.2.1 c2.2.2.2.1 c2.2.2.2.2.1 c2.2.2.2.2.2.1 c2.2.2.2.2.2.2.1 c2.2.2.2.2.2.2.2.1 c2.2.2.2.2.2.2.2.2.1 c2.2.2.2.2.2.2.2.2.2.1 c2.2.2.2.2.2.2.2.2.2.2.1 c2.2.2.2.2.2.2.2.2.2.2.2.1 c2.2.2.2.2.2.2.2.2.2.2.2.2.1 c2.2.2.2.2.2.2.2.2.2.2.2.2.2) (leftM c2.2.2.2.2.2.2.2.2.1) c2.2.2.2.2.2.1 c2.2.2.2.2.2.2.2.2.1 c2.2.2.2.2.2.2.2.2.2.1 c2.2.2.2.2.2.2.2.2.2.2.1 = some true := res_loop c2.1 c2.2.1 c2.2.2.1 c2.2.2.2.1 c2.2.2.2.2.1 c2.2.2.2.2.2.1 c2.2.2.2.2.2.2.1 c2.2.2.2.2.2.2.2.1 c2.2.2.2.2.2.2.2.2.1 c2.2.2.2.2.2.2.2.2.2.1 c2.2.2.2.2.2.2.2.2.2.2.1 c2.2.2.2.2.2.2.2.2.2.2.2.1 c2.2.2.2.2.2.2.2.2.2.2.2.2.1 c2.2.2.2.2.2.2.2.2.2.2.2.2.2 sm (orderM c2.1 c2.2.1 c2.2.2.1 c2.2.2.2.1 c2.2.2.2.2.1 c2.2.2.2.2.2.1 c2.2.2.2.2.2.2.1 c2.2.2.2.2.2.2.2.1 c2.2.2.2.2.2.2.2.2.1 c2.2.2.2.2.2.2.2.2.2.1 c2.2.2.2.2.2.2.2.2.2.2.1 c2.2.2.2.2.2.2.2.2.2.2.2.1 c2.2.2.2.2.2.2.2.2.2.2.2.2.1 c2.2.2.2.2.2.2.2.2.2.2.2.2.2).length 1 (by omega) (by omega)
  have hgl : (gameM c2.1 c2.2.1 c2.2.2.1 c2.2.2.2.1 c2.2.2.2.2.1 c2.2.2.2.2.2.1 c2.2.2.2.2.2.2.1 c2.2.2.2.2.2.2.2.1 c2.2.2.2.2.2.2.2.2.1 c2.2.2.2.2.2.2.2.2.2.1 c2.2.2.2.2.2.2.2.2.2.2.1 c2.2.2.2.2.2.2.2.2.2.2.2.1 c2.2.2.2.2.2.2.2.2.2.2.2.2.1 c2.2.2.2.2.2.2.2.2.2.2.2.2.2 != decide (((settledM c2.1 c2.2.1 c2.2.2.1 c2.2.2.2.1 c2.2.2.2.2.1 c2.2.2.2.2.2.1 c2.2.2.2.2.2.2.1 c2.2.2.2.2.2.2.2.1 c2.2.2.2.2.2.2.2.2.1 c2.2.2.2.2.2.2.2.2.2.1 c2.2.2.2.2.2.2.2.2.2.2.1 c2.2.2.2.2.2.2.2.2.2.2.2.1 c2.2.2.2.2.2.2.2.2.2.2.2.2.1 c2.2.2.2.2.2.2.2.2.2.2.2.2.2).length : Int) > 0)) = false := by
    cases hg : gameM c2.1 c2.2.1 c2.2.2.1 c2.2.2.2.1 c2.2.2.2.2.1 c2.2.2.2.2.2.1 c2.2.2.2.2.2.2.1 c2.2.2.2.2.2.2.2.1 c2.2.2.2.2.2.2.2.2.1 c2.2.2.2.2.2.2.2.2.2.1 c2.2.2.2.2.2.2.2.2.2.2.1 c2.2.2.2.2.2.2.2.2.2.2.2.1 c2.2.2.2.2.2.2.2.2.2.2.2.2.1 c2.2.2.2.2.2.2.2.2.2.2.2.2.2 with
    | false => rw [hg, if_neg (by decide)] at f2; rw [decide_eq_false (by omega)]; rfl
    | true =>
      have v := gameM_valid c2.1 c2.2.1 c2.2.2.1 c2.2.2.2.1 c2.2.2.2.2.1 c2.2.2.2.2.2.1 c2.2.2.2.2.2.2.1 c2.2.2.2.2.2.2.2.1 c2.2.2.2.2.2.2.2.2.1 c2.2.2.2.2.2.2.2.2.2.1 c2.2.2.2.2.2.2.2.2.2.2.1 c2.2.2.2.2.2.2.2.2.2.2.2.1 c2.2.2.2.2.2.2.2.2.2.2.2.2.1 c2.2.2.2.2.2.2.2.2.2.2.2.2.2 hg
      have v1 := v.p1
      have v2 := v.players
      rw [hg, if_pos rfl] at f2
      rw [decide_eq_true (by omega)]; rfl
  rw [e1, Option.bind_some, bindF i1, bindF i2, bindF i3, hgl, if_neg (by decide), bindF s1, if_neg (by decide)]
  by_cases c : winM c2.1 c2.2.1 c2.2.2.1 c2.2.2.2.1 c2.2.2.2.2.1 c2.2.2.2.2.2.1 c2.2.2.2.2.2.2.1 c2.2.2.2.2.2.2.2.1 c2.2.2.2.2.2.2.2.2.1 c2.2.2.2.2.2.2.2.2.2.1 c2.2.2.2.2.2.2.2.2.2.2.1 c2.2.2.2.2.2.2.2.2.2.2.2.1 c2.2.2.2.2.2.2.2.2.2.2.2.2.1 c2.2.2.2.2.2.2.2.2.2.2.2.2.2 < 0
  · rw [if_dneg (by omega), bindF i4]
    have fin : ((impl_OrderOf c2.1 c2.2.1 c2.2.2.1 c2.2.2.2.1 c2.2.2.2.2.1 c2.2.2.2.2.2.1 c2.2.2.2.2.2.2.1 c2.2.2.2.2.2.2.2.1 c2.2.2.2.2.2.2.2.2.1 c2.2.2.2.2.2.2.2.2.2.1 c2.2.2.2.2.2.2.2.2.2.2.1 c2.2.2.2.2.2.2.2.2.2.2.2.1 c2.2.2.2.2.2.2.2.2.2.2.2.2.1 c2.2.2.2.2.2.2.2.2.2.2.2.2.2).bind fun c13 => ((impl_LeftPoints c2.1 c2.2.1 c2.2.2.1 c2.2.2.2.1 c2.2.2.2.2.1 c2.2.2.2.2.2.1 c2.2.2.2.2.2.2.1 c2.2.2.2.2.2.2.2.1 c2.2.2.2.2.2.2.2.2.1 c2.2.2.2.2.2.2.2.2.2.1 c2.2.2.2.2.2.2.2.2.2.2.1 c2.2.2.2.2.2.2.2.2.2.2.2.1 c2.2.2.2.2.2.2.2.2.2.2.2.2.1 c2.2.2.2.2.2.2.2.2.2.2.2.2.2).bind fun c14 => (laws_FnResults_L11 (winM c2.1 c2.2.1 c2.2.2.1 c2.2.2.2.1 c2.2.2.2.2.1 c2.2.2.2.2.2.1 c2.2.2.2.2.2.2.1 c2.2.2.2.2.2.2.2.1 c2.2.2.2.2.2.2.2.2.1 c2.2.2.2.2.2.2.2.2.2.1 c2.2.2.2.2.2.2.2.2.2.2.1 c2.2.2.2.2.2.2.2.2.2.2.2.1 c2.2.2.2.2.2.2.2.2.2.2.2.2.1 c2.2.2.2.2.2.2.2.2.2.2.2.2.2) 1 c2.1 c2.2.1 c2.2.2.1 c2.2.2.2.1 c2.2.2.2.2.1 c2.2.2.2.2.2.2.1 c2.2.2.2.2.2.2.2.1 c2.2.2.2.2.2.2.2.2.2.2.2.1 c2.2.2.2.2.2.2.2.2.2.2.2.2.1 c2.2.2.2.2.2.2.2.2.2.2.2.2.2 (settledM c2.1 c2.2.1 c2.2.2.1 c2.2.2.2.1 c2.2.2.2.2.1 c2.2.2.2.2.2.1 c2.2.2.2.2.2.2.1 c2.2.2.2.2.2.2.2.1 c2.2.2.2.2.2.2.2.2.1 c2.2.2.2.2.2.2.2.2.2.1 c2.2.2.2.2.2.2.2.2.2.2.1 c2.2.2.2.2.2.2.2.2.2.2.2.1 c2.2.2.2.2.2.2.2.2.2.2.2.2.1 c2.2.2.2.2.2.2.2.2.2.2.2.2.2) c13 c14 c2.2.2.2.2.2.1 c2.2.2.2.2.2.2.2.2.1 c2.2.2.2.2.2.2.2.2.2.1 c2.2.2.2.2.2.2.2.2.2.2.1))) = some true := by
      rw [bindF i5, bindF i6]; exact loop
    cases endM c2.1 c2.2.1 c2.2.2.1 c2.2.2.2.1 c2.2.2.2.2.1 c2.2.2.2.2.2.1 c2.2.2.2.2.2.2.1 c2.2.2.2.2.2.2.2.1 c2.2.2.2.2.2.2.2.2.1 c2.2.2.2.2.2.2.2.2.2.1 c2.2.2.2.2.2.2.2.2.2.2.1 c2.2.2.2.2.2.2.2.2.2.2.2.1 c2.2.2.2.2.2.2.2.2.2.2.2.2.1 c2.2.2.2.2.2.2.2.2.2.2.2.2.2 && decide (winM c2.1 c2.2.1 c2.2.2.1 c2.2.2.2.1 c2.2.2.2.2.1 c2.2.2.2.2.2.1 c2.2.2.2.2.2.2.1 c2.2.2.2.2.2.2.2.1 c2.2.2.2.2.2.2.2.2.1 c2.2.2.2.2.2.2.2.2.2.1 c2.2.2.2.2.2.2.2.2.2.2.1 c2.2.2.2.2.2.2.2.2.2.2.2.1 c2.2.2.2.2.2.2.2.2.2.2.2.2.1 c2.2.2.2.2.2.2.2.2.2.2.2.2.2 < 0)
    · rw [if_neg (by decide)]; exact fin
    · rw [if_pos rfl, if_dneg (by omega)]; exact fin
  · obtain ⟨w1, w2, w3, w4⟩ := win_facts c2.1 c2.2.1 c2.2.2.1 c2.2.2.2.1 c2.2.2.2.2.1 c2.2.2.2.2.2.1 c2.2.2.2.2.2.2.1 c2.2.2.2.2.2.2.2.1 c2.2.2.2.2.2.2.2.2.1 c2.2.2.2.2.2.2.2.2.2.1 c2.2.2.2.2.2.2.2.2.2.2.1 c2.2.2.2.2.2.2.2.2.2.2.2.1 c2.2.2.2.2.2.2.2.2.2.2.2.2.1 c2.2.2.2.2.2.2.2.2.2.2.2.2.2 (by omega)
    have f3 := f3 (by omega)
    rw [w1, if_pos rfl] at f2
    rw [if_dpos (by omega), if_pos (by omega), if_pos (by omega), if_dneg (by omega), bindF i4, decide_eq_false c, Bool.and_false, if_neg (by decide), bindF i5, bindF i6]
    exact loop
theorem law_FnResults (x : den (parTy HH 10)) (hx : Fit Try.prog (parTy HH 10) x) : ∃ n, frun Try.prog HH n 10 x = some true := run_some (laws_FnResults_ok x)
end Go.Proofs.Ytoioaijpdiglfaa.V
