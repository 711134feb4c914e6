/- Plain laws over the shapes. -/
import Derived.Test.YtdkhomhdapoeoaaPDeal
import Derived.Test.YtdkhomhdapoeoaaFIsDeal
import Derived.Test.YtdkhomhdapoeoaaFSwapHidden
import Derived.Test.YtdkhomhdapoeoaaS1
import Derived.Test.YtdkhomhdapoeoaaS3
set_option linter.unusedVariables false
set_option linter.unusedSimpArgs false
set_option maxRecDepth 10000
namespace Go.Proofs.Ytdkhomhdapoeoaa.V
open Go
def swapM (hs : List (List Int)) (le tr : Int) (tk wo po : List Int) (lf : Int) (a b i j : Int) : List (List Int) × Int × Int × List Int × List Int × List Int × Int × Bool :=
  if dealM hs le tr tk wo po lf = true then (if (a == b) = true then (hs, le, tr, tk, wo, po, lf, false) else if inR a 0 ((hs.length : Int) - 1) = true then (if inR b 0 ((hs.length : Int) - 1) = true then (if inR i 0 (((hs.getD a.toNat []).length : Int) - 1) = true then (if inR j 0 (((hs.getD b.toNat []).length : Int) - 1) = true then
    ((hs.set a.toNat ((hs.getD a.toNat []).set i.toNat ((hs.getD b.toNat []).getD j.toNat 0))).set b.toNat ((hs.getD b.toNat []).set j.toNat ((hs.getD a.toNat []).getD i.toNat 0)), le, tr, tk, wo, po, lf, true)
    else (hs, le, tr, tk, wo, po, lf, false)) else (hs, le, tr, tk, wo, po, lf, false)) else (hs, le, tr, tk, wo, po, lf, false)) else (hs, le, tr, tk, wo, po, lf, false)) else (hs, le, tr, tk, wo, po, lf, false)
theorem swap_good (hs : List (List Int)) (le tr : Int) (tk wo po : List Int) (lf : Int) (a b i j : Int) (hh : G2 hs) (h3 : tk.length ≤ 2097152) (hwo : wo.length ≤ 2097152) (hpo : po.length ≤ 2097152) : ∃ r0 r7, swapM hs le tr tk wo po lf a b i j = (r0, le, tr, tk, wo, po, lf, r7) ∧ G2 r0 := by
  have q1 := hh.at' (i := a.toNat)
  have q2 := hh.at' (i := b.toNat)
  unfold swapM
  repeat' split
  all_goals first | exact ⟨_, _, rfl, hh⟩ | exact ⟨_, _, rfl, (hh.set (by rw [List.length_set]; exact q1)).set (by rw [List.length_set]; exact q2)⟩
theorem spec_SwapHidden_ok (hs : List (List Int)) (le tr : Int) (tk wo po : List Int) (lf : Int) (a b i j : Int) (hh : G2 hs) (h3 : tk.length ≤ 2097152) (hwo : wo.length ≤ 2097152) (hpo : po.length ≤ 2097152) : spec_SwapHidden hs le tr tk wo po lf a b i j = some (swapM hs le tr tk wo po lf a b i j) := by
  have hl := hh.len
  have q1 := hh.at' (i := a.toNat)
  have q2 := hh.at' (i := b.toNat)
  have w : IntKind.i64.wrap ((hs.length : Int) - 1) = (hs.length : Int) - 1 := wrap_id (by omega) (by omega)
  have w1 : IntKind.i64.wrap (((hs.getD a.toNat []).length : Int) - 1) = ((hs.getD a.toNat []).length : Int) - 1 := wrap_id (by omega) (by omega)
  have w2 : IntKind.i64.wrap (((hs.getD b.toNat []).length : Int) - 1) = ((hs.getD b.toNat []).length : Int) - 1 := wrap_id (by omega) (by omega)
  rw [spec_SwapHidden_eq, spec_l12Copy_ok hs le tr tk wo po lf hh h3 hwo hpo, Option.bind_some, spec_IsDeal_ok hs le tr tk wo po lf hh h3 hwo hpo, Option.bind_some, swapM]
  simp only [w, w1, w2, spec_l1In_ok, Option.bind_some]
  cases dealM hs le tr tk wo po lf
  · rfl
  simp only [Bool.not_true, Bool.false_eq_true, if_false, if_true]
  by_cases heq : a = b
  · have hb : (a == b) = true := by rw [beq_iff_eq]; exact heq
    rw [hb]
    cases inR a 0 ((hs.length : Int) - 1) <;> cases inR b 0 ((hs.length : Int) - 1) <;> rfl
  have hb : (a == b) = false := by rw [beq_eq_false_iff_ne]; exact heq
  rw [hb]
  cases hr1 : inR a 0 ((hs.length : Int) - 1)
  · rfl
  cases hr2 : inR b 0 ((hs.length : Int) - 1)
  · rfl
  have h1 : 0 ≤ a ∧ a ≤ (hs.length : Int) - 1 := by unfold inR at hr1; simpa only [Bool.and_eq_true, decide_eq_true_eq] using hr1
  have h2 : 0 ≤ b ∧ b ≤ (hs.length : Int) - 1 := by unfold inR at hr2; simpa only [Bool.and_eq_true, decide_eq_true_eq] using hr2
  simp only [Bool.not_true, Bool.false_eq_true, if_false, if_true, Bool.not_false]
  rw [if_pos h1.1, if_pos (by omega)]
  cases hr3 : inR i 0 (((hs.getD a.toNat []).length : Int) - 1)
  · rfl
  simp only [Bool.not_true, Bool.false_eq_true, if_false, if_true]
  rw [if_pos h2.1, if_pos (by omega)]
  cases hr4 : inR j 0 (((hs.getD b.toNat []).length : Int) - 1)
  · rfl
  have h3' : 0 ≤ i ∧ i ≤ ((hs.getD a.toNat []).length : Int) - 1 := by unfold inR at hr3; simpa only [Bool.and_eq_true, decide_eq_true_eq] using hr3
  have h4' : 0 ≤ j ∧ j ≤ ((hs.getD b.toNat []).length : Int) - 1 := by unfold inR at hr4; simpa only [Bool.and_eq_true, decide_eq_true_eq] using hr4
  simp only [Bool.not_true, Bool.false_eq_true, if_false, if_true]
  have hne : a.toNat ≠ b.toNat := by omega
  have hset : ∀ x, (hs.set a.toNat x).getD b.toNat [] = hs.getD b.toNat [] := fun x => by
    rw [List.getD_eq_getElem?_getD, List.getElem?_set_ne hne, ← List.getD_eq_getElem?_getD]
  have g1 : a < (hs.length : Int) := by omega
  have g2 : b < (hs.length : Int) := by omega
  have g3 : i < ((hs.getD a.toNat []).length : Int) := by omega
  have g4 : j < ((hs.getD b.toNat []).length : Int) := by omega
  have g5 : i.toNat < (hs.getD a.toNat []).length := by omega
  have g6 : j.toNat < (hs.getD b.toNat []).length := by omega
  simp only [if_pos h1.1, if_pos h2.1, if_pos h3'.1, if_pos h4'.1, if_pos g1, if_pos g2, if_pos g3, if_pos g4, if_pos g5, if_pos g6, hset, List.length_set]
theorem impl_SwapHidden_ok (hs : List (List Int)) (le tr : Int) (tk wo po : List Int) (lf : Int) (a b i j : Int) (hh : G2 hs) (h3 : tk.length ≤ 2097152) (hwo : wo.length ≤ 2097152) (hpo : po.length ≤ 2097152) : impl_SwapHidden hs le tr tk wo po lf a b i j = some (swapM hs le tr tk wo po lf a b i j) := by
  have hl := hh.len
  have q1 := hh.at' (i := a.toNat)
  have q2 := hh.at' (i := b.toNat)
  have w : IntKind.i64.wrap ((hs.length : Int) - 1) = (hs.length : Int) - 1 := wrap_id (by omega) (by omega)
  have w1 : IntKind.i64.wrap (((hs.getD a.toNat []).length : Int) - 1) = ((hs.getD a.toNat []).length : Int) - 1 := wrap_id (by omega) (by omega)
  have w2 : IntKind.i64.wrap (((hs.getD b.toNat []).length : Int) - 1) = ((hs.getD b.toNat []).length : Int) - 1 := wrap_id (by omega) (by omega)
  rw [impl_SwapHidden_eq, impl_Deal_copied_ok hs le tr tk wo po lf hh h3 hwo hpo, Option.bind_some, impl_IsDeal_ok hs le tr tk wo po lf hh h3 hwo hpo, Option.bind_some, swapM]
  simp only [w, w1, w2, impl_InRange_ok, Option.bind_some]
  cases dealM hs le tr tk wo po lf
  · rfl
  simp only [Bool.not_true, Bool.false_eq_true, if_false, if_true]
  by_cases heq : a = b
  · have hb : (a == b) = true := by rw [beq_iff_eq]; exact heq
    rw [hb]
    cases inR a 0 ((hs.length : Int) - 1) <;> cases inR b 0 ((hs.length : Int) - 1) <;> rfl
  have hb : (a == b) = false := by rw [beq_eq_false_iff_ne]; exact heq
  rw [hb]
  cases hr1 : inR a 0 ((hs.length : Int) - 1)
  · rfl
  cases hr2 : inR b 0 ((hs.length : Int) - 1)
  · rfl
  have h1 : 0 ≤ a ∧ a ≤ (hs.length : Int) - 1 := by unfold inR at hr1; simpa only [Bool.and_eq_true, decide_eq_true_eq] using hr1
  have h2 : 0 ≤ b ∧ b ≤ (hs.length : Int) - 1 := by unfold inR at hr2; simpa only [Bool.and_eq_true, decide_eq_true_eq] using hr2
  simp only [Bool.not_true, Bool.false_eq_true, if_false, if_true, Bool.not_false]
  rw [if_pos h1.1, if_pos (by omega)]
  cases hr3 : inR i 0 (((hs.getD a.toNat []).length : Int) - 1)
  · rfl
  simp only [Bool.not_true, Bool.false_eq_true, if_false, if_true]
  rw [if_pos h2.1, if_pos (by omega)]
  cases hr4 : inR j 0 (((hs.getD b.toNat []).length : Int) - 1)
  · rfl
  have h3' : 0 ≤ i ∧ i ≤ ((hs.getD a.toNat []).length : Int) - 1 := by unfold inR at hr3; simpa only [Bool.and_eq_true, decide_eq_true_eq] using hr3
  have h4' : 0 ≤ j ∧ j ≤ ((hs.getD b.toNat []).length : Int) - 1 := by unfold inR at hr4; simpa only [Bool.and_eq_true, decide_eq_true_eq] using hr4
  simp only [Bool.not_true, Bool.false_eq_true, if_false, if_true]
  have hne : a.toNat ≠ b.toNat := by omega
  have hset : ∀ x, (hs.set a.toNat x).getD b.toNat [] = hs.getD b.toNat [] := fun x => by
    rw [List.getD_eq_getElem?_getD, List.getElem?_set_ne hne, ← List.getD_eq_getElem?_getD]
  have g1 : a < (hs.length : Int) := by omega
  have g2 : b < (hs.length : Int) := by omega
  have g3 : i < ((hs.getD a.toNat []).length : Int) := by omega
  have g4 : j < ((hs.getD b.toNat []).length : Int) := by omega
  have g5 : i.toNat < (hs.getD a.toNat []).length := by omega
  have g6 : j.toNat < (hs.getD b.toNat []).length := by omega
  simp only [if_pos h1.1, if_pos h2.1, if_pos h3'.1, if_pos h4'.1, if_pos g1, if_pos g2, if_pos g3, if_pos g4, if_pos g5, if_pos g6, hset, List.length_set]
end Go.Proofs.Ytdkhomhdapoeoaa.V
