/- Plain laws over the shapes. -/
import Derived.Test.YtofmaimjbcpaiaaPLeft
import Derived.Test.YtofmaimjbcpaiaaFSettled
set_option linter.unusedVariables false
set_option linter.unusedSimpArgs false
set_option maxRecDepth 10000
namespace Go.Proofs.Ytofmaimjbcpaiaa.V
open Go
def negL (l : List Int) : List Int := l.map fun x => IntKind.i64.wrap (0 - x)
theorem negL_get {l : List Int} {i : Nat} (hi : i < l.length) : (negL l).getD i 0 = IntKind.i64.wrap (0 - l.getD i 0) := by
  rw [negL, List.getD_eq_getElem?_getD, List.getElem?_map, List.getElem?_eq_getElem hi, List.getD_eq_getElem?_getD, List.getElem?_eq_getElem hi]; rfl
def settledM (a0 a1 : Int) (a2 a3 : Bool) (a4 a5 : List Int) (a6 a7 : Int) (hs : List (List Int)) (st hp : List Int) (tu mo pa : Int) : List Int := if gameM a0 a1 a2 a3 a4 a5 a6 a7 hs st hp tu mo pa = true then (if fstM hs 0 < 0 then List.replicate hs.length 0 else (negL (leftM hs)).set (fstM hs 0).toNat (sumW (leftM hs))) else []
theorem fstM_lt : ∀ (l : List (List Int)) (i : Int), 0 ≤ i → fstM l i = -1 ∨ (i ≤ fstM l i ∧ fstM l i < i + (l.length : Int))
  | [], _, _ => .inl rfl
  | x :: l, i, hi => by
    rw [fstM]
    split
    · right; simp only [List.length_cons]; omega
    · have := fstM_lt l (i + 1) (by omega)
      simp only [List.length_cons]; omega
theorem spec_Settled_ok (a0 a1 : Int) (a2 a3 : Bool) (a4 a5 : List Int) (a6 a7 : Int) (hs : List (List Int)) (st hp : List Int) (tu mo pa : Int) (h4 : a4.length ≤ 1048576) (h5 : a5.length ≤ 1048576) (hh : G2 hs) (h9 : st.length ≤ 2097152) (h10 : hp.length ≤ 2097152) : spec_Settled a0 a1 a2 a3 a4 a5 a6 a7 hs st hp tu mo pa = some (settledM a0 a1 a2 a3 a4 a5 a6 a7 hs st hp tu mo pa) := by
  have hl := hh.len
  have hq := leftM_length hs
  rw [spec_Settled_eq, spec_LeftPoints_ok a0 a1 a2 a3 a4 a5 a6 a7 hs st hp tu mo pa hh, Option.bind_some, spec_Winner_ok a0 a1 a2 a3 a4 a5 a6 a7 hs st hp tu mo pa h4 h5 hh h9 h10, Option.bind_some, settledM, winM]
  cases hg : gameM a0 a1 a2 a3 a4 a5 a6 a7 hs st hp tu mo pa
  · simp only [Bool.false_eq_true, if_false]
    rw [spec_Settled_L5_eq, spec_IsGame_ok a0 a1 a2 a3 a4 a5 a6 a7 hs st hp tu mo pa h4 h5 hh h9 h10, hg]
    by_cases c : (0 : Int) < ((leftM hs).length : Int)
    · rw [if_pos (decide_eq_true c)]; rfl
    · rw [if_neg (by simpa using c)]
  · simp only [if_true]
    by_cases hw0 : fstM hs 0 < 0
    · rw [if_pos hw0]
      have h : ∀ i, i ≤ (leftM hs).length → spec_Settled_L5 (fstM hs 0) i a0 a1 a2 a3 a4 a5 a6 a7 hs st hp tu mo pa (List.replicate i 0) (leftM hs) = some (List.replicate hs.length 0) := down (by
          rw [spec_Settled_L5_eq]
          simp (disch := (first | omega | (simp only [List.length_append, List.length_cons, List.length_nil, List.length_take, List.length_drop, List.length_set, List.length_replicate, List.length_singleton]; omega))) only [↓if_dpos, ↓if_dneg, ↓if_epos, ↓if_eneg, ↓if_npos, ↓if_nneg, ↓if_pos, ↓if_neg, Int.toNat_natCast, List.nil_append, Nat.zero_add, List.length_singleton, Option.bind_some, List.drop_zero, List.take_length, if_true, if_false, hq]) fun i hi ih => by
        have hil : (i : Int) < ((leftM hs).length : Int) := by omega
        have hw : IntKind.i64.wrap ((i : Int) + 1) = ((i + 1 : Nat) : Int) := wrap_succ hi (by omega)
        rw [spec_Settled_L5_eq, if_pos (decide_eq_true (by omega)), spec_IsGame_ok a0 a1 a2 a3 a4 a5 a6 a7 hs st hp tu mo pa h4 h5 hh h9 h10, hg, Option.bind_some, if_pos rfl]
        simp (disch := (first | omega | (simp only [List.length_append, List.length_cons, List.length_nil, List.length_take, List.length_drop, List.length_set, List.length_replicate, List.length_singleton]; omega))) only [↓if_dpos, ↓if_dneg, ↓if_epos, ↓if_eneg, ↓if_npos, ↓if_nneg, ↓if_pos, ↓if_neg, hw, Int.toNat_natCast, List.nil_append, Nat.zero_add, List.length_singleton, Option.bind_some, List.drop_zero, List.take_length, if_true, if_false]
        rw [← ih, List.replicate_succ']
      exact h 0 (Nat.zero_le _)
    · rw [if_neg hw0]
      have hf := (fstM_lt hs 0 (Int.le_refl _)).resolve_left (by omega)
      have key : ∀ i, i ≤ (leftM hs).length → spec_Settled_L5 (fstM hs 0) i a0 a1 a2 a3 a4 a5 a6 a7 hs st hp tu mo pa (((negL (leftM hs)).set (fstM hs 0).toNat (sumW (leftM hs))).take i) (leftM hs) = some ((negL (leftM hs)).set (fstM hs 0).toNat (sumW (leftM hs))) := down (by
          rw [spec_Settled_L5_eq]
          simp (disch := (first | omega | (simp only [List.length_append, List.length_cons, List.length_nil, List.length_take, List.length_drop, List.length_set, List.length_replicate, List.length_singleton]; omega))) only [↓if_dpos, ↓if_dneg, ↓if_epos, ↓if_eneg, ↓if_npos, ↓if_nneg, ↓if_pos, ↓if_neg, Int.toNat_natCast, List.nil_append, Nat.zero_add, List.length_singleton, Option.bind_some, List.drop_zero, List.take_length, if_true, if_false, ]
          rw [List.take_of_length_le (by simp [negL])]) fun i hi ih => by
        have hi2 : i < ((negL (leftM hs)).set (fstM hs 0).toNat (sumW (leftM hs))).length := by simpa [negL] using hi
        have hk : (((negL (leftM hs)).set (fstM hs 0).toNat (sumW (leftM hs))).take i).length = i := by simp [negL]; omega
        rw [take_succ_getD (d := 0) hi2] at ih
        have hil : (i : Int) < ((leftM hs).length : Int) := by omega
        have hw : IntKind.i64.wrap ((i : Int) + 1) = ((i + 1 : Nat) : Int) := wrap_succ hi (by omega)
        rw [spec_Settled_L5_eq, if_pos (decide_eq_true (by omega)), spec_IsGame_ok a0 a1 a2 a3 a4 a5 a6 a7 hs st hp tu mo pa h4 h5 hh h9 h10, hg, Option.bind_some, if_pos rfl, if_neg (by simpa using hw0)]
        by_cases e : (i : Int) = fstM hs 0
        · rw [if_pos (by simpa using e)]
          have hv : ((negL (leftM hs)).set (fstM hs 0).toNat (sumW (leftM hs))).getD i 0 = sumW (leftM hs) := by
            have : (fstM hs 0).toNat = i := by omega
            rw [this, List.getD_eq_getElem?_getD, List.getElem?_set_self (by simpa [negL] using hi)]; rfl
          rw [hv] at ih
          have h13 : ∀ j, j ≤ (leftM hs).length → spec_Settled_L13 (fstM hs 0) i (sumW ((leftM hs).take j)) j a0 a1 a2 a3 a4 a5 a6 a7 hs st hp tu mo pa (((negL (leftM hs)).set (fstM hs 0).toNat (sumW (leftM hs))).take i) (leftM hs) = some ((negL (leftM hs)).set (fstM hs 0).toNat (sumW (leftM hs))) := down (by
              rw [spec_Settled_L13_eq]
              simp (disch := (first | omega | (simp only [List.length_append, List.length_cons, List.length_nil, List.length_take, List.length_drop, List.length_set, List.length_replicate, List.length_singleton]; omega))) only [↓if_dpos, ↓if_dneg, ↓if_epos, ↓if_eneg, ↓if_npos, ↓if_nneg, ↓if_pos, ↓if_neg, Int.toNat_natCast, List.nil_append, Nat.zero_add, List.length_singleton, Option.bind_some, List.drop_zero, List.take_length, if_true, if_false, hw, hk]
              exact ih) fun j hj jh => by
            have hjl : (j : Int) < ((leftM hs).length : Int) := by omega
            have hwj : IntKind.i64.wrap ((j : Int) + 1) = ((j + 1 : Nat) : Int) := wrap_succ hj (by omega)
            rw [spec_Settled_L13_eq]
            simp (disch := (first | omega | (simp only [List.length_append, List.length_cons, List.length_nil, List.length_take, List.length_drop, List.length_set, List.length_replicate, List.length_singleton]; omega))) only [↓if_dpos, ↓if_dneg, ↓if_epos, ↓if_eneg, ↓if_npos, ↓if_nneg, ↓if_pos, ↓if_neg, hwj, Int.toNat_natCast, List.nil_append, Nat.zero_add, List.length_singleton, Option.bind_some, List.drop_zero, List.take_length, if_true, if_false]
            rw [← jh]
            unfold sumW
            rw [foldl_take (d := 0) hj]
          exact h13 0 (Nat.zero_le _)
        · rw [if_neg (by simpa using e)]
          have hv : ((negL (leftM hs)).set (fstM hs 0).toNat (sumW (leftM hs))).getD i 0 = IntKind.i64.wrap (0 - (leftM hs).getD i 0) := by
            have : (fstM hs 0).toNat ≠ i := by omega
            rw [List.getD_eq_getElem?_getD, List.getElem?_set_ne this, negL, List.getElem?_map, List.getElem?_eq_getElem hi, List.getD_eq_getElem?_getD, List.getElem?_eq_getElem hi]; rfl
          rw [hv] at ih
          simp (disch := (first | omega | (simp only [List.length_append, List.length_cons, List.length_nil, List.length_take, List.length_drop, List.length_set, List.length_replicate, List.length_singleton]; omega))) only [↓if_dpos, ↓if_dneg, ↓if_epos, ↓if_eneg, ↓if_npos, ↓if_nneg, ↓if_pos, ↓if_neg, hw, Int.toNat_natCast, List.nil_append, Nat.zero_add, List.length_singleton, Option.bind_some, List.drop_zero, List.take_length, if_true, if_false, hk]
          exact ih
      exact key 0 (Nat.zero_le _)
theorem impl_Settled_ok (a0 a1 : Int) (a2 a3 : Bool) (a4 a5 : List Int) (a6 a7 : Int) (hs : List (List Int)) (st hp : List Int) (tu mo pa : Int) (h4 : a4.length ≤ 1048576) (h5 : a5.length ≤ 1048576) (hh : G2 hs) (h9 : st.length ≤ 2097152) (h10 : hp.length ≤ 2097152) : impl_Settled a0 a1 a2 a3 a4 a5 a6 a7 hs st hp tu mo pa = some (settledM a0 a1 a2 a3 a4 a5 a6 a7 hs st hp tu mo pa) := by
  have hl := hh.len
  have hq := leftM_length hs
  rw [impl_Settled_eq, impl_IsGame_ok a0 a1 a2 a3 a4 a5 a6 a7 hs st hp tu mo pa h4 h5 hh h9 h10, Option.bind_some, settledM]
  cases hg : gameM a0 a1 a2 a3 a4 a5 a6 a7 hs st hp tu mo pa
  · rfl
  · rw [if_neg (by simp), impl_Winner_ok a0 a1 a2 a3 a4 a5 a6 a7 hs st hp tu mo pa h4 h5 hh h9 h10, Option.bind_some, impl_LeftPoints_ok a0 a1 a2 a3 a4 a5 a6 a7 hs st hp tu mo pa hh, Option.bind_some, winM, hg, if_pos rfl, if_pos rfl]
    by_cases hw0 : fstM hs 0 < 0
    · simp (disch := (first | omega | (simp only [List.length_append, List.length_cons, List.length_nil, List.length_take, List.length_drop, List.length_set, List.length_replicate, List.length_singleton]; omega))) only [↓if_dpos, ↓if_dneg, ↓if_epos, ↓if_eneg, ↓if_npos, ↓if_nneg, ↓if_pos, ↓if_neg, Int.toNat_natCast, List.nil_append, Nat.zero_add, List.length_singleton, Option.bind_some, List.drop_zero, List.take_length, if_true, if_false, hq, if_true]
    · have hf := (fstM_lt hs 0 (Int.le_refl _)).resolve_left (by omega)
      have h : ∀ i, i ≤ (leftM hs).length → impl_Settled_L8 (fstM hs 0) (leftM hs).length i (leftM hs) ((negL (leftM hs)).take i ++ List.replicate ((leftM hs).length - i) 0) = some ((negL (leftM hs)).set (fstM hs 0).toNat (sumW (leftM hs))) := down (by
          have hk : ((negL (leftM hs)).take (leftM hs).length ++ List.replicate ((leftM hs).length - (leftM hs).length) 0) = negL (leftM hs) := by
            rw [Nat.sub_self, List.take_of_length_le (by simp [negL])]; simp
          have hk2 : (negL (leftM hs)).length = hs.length := by simp [negL, hq]
          rw [hk]
          rw [impl_Settled_L8_eq]
          simp (disch := (first | omega | (simp only [List.length_append, List.length_cons, List.length_nil, List.length_take, List.length_drop, List.length_set, List.length_replicate, List.length_singleton]; omega))) only [↓if_dpos, ↓if_dneg, ↓if_epos, ↓if_eneg, ↓if_npos, ↓if_nneg, ↓if_pos, ↓if_neg, Int.toNat_natCast, List.nil_append, Nat.zero_add, List.length_singleton, Option.bind_some, List.drop_zero, List.take_length, if_true, if_false, impl_sum_ok _ (by omega : (leftM hs).length ≤ 4398046511104), hk2]) fun i hi ih => by
        have hk2 : (negL (leftM hs)).length = (leftM hs).length := by simp [negL]
        have hk : ((negL (leftM hs)).take i ++ List.replicate ((leftM hs).length - i) 0).length = (leftM hs).length := by simp [negL]; omega
        have hil : (i : Int) < ((leftM hs).length : Int) := by omega
        have hw : IntKind.i64.wrap ((i : Int) + 1) = ((i + 1 : Nat) : Int) := wrap_succ hi (by omega)
        rw [impl_Settled_L8_eq]
        simp (disch := (first | omega | (simp only [List.length_append, List.length_cons, List.length_nil, List.length_take, List.length_drop, List.length_set, List.length_replicate, List.length_singleton]; omega))) only [↓if_dpos, ↓if_dneg, ↓if_epos, ↓if_eneg, ↓if_npos, ↓if_nneg, ↓if_pos, ↓if_neg, hw, Int.toNat_natCast, List.nil_append, Nat.zero_add, List.length_singleton, Option.bind_some, List.drop_zero, List.take_length, if_true, if_false, hk]
        rw [← ih]
        congr 1
        have h1 : ((negL (leftM hs)).take i).length = i := by simp [negL]; omega
        have h2 : List.replicate ((leftM hs).length - i) (0 : Int) = 0 :: List.replicate ((leftM hs).length - (i + 1)) 0 := by
          rw [show (leftM hs).length - i = ((leftM hs).length - (i + 1)) + 1 by omega]; rfl
        rw [List.set_append_right _ _ (by omega), h1, Nat.sub_self, h2, List.set_cons_zero, take_succ_getD (d := 0) (by omega : i < (negL (leftM hs)).length), List.append_assoc]
        rw [negL_get hi]; rfl
      have h0 := h 0 (Nat.zero_le _)
      rw [List.take_zero, List.nil_append, Nat.sub_zero] at h0
      simp (disch := (first | omega | (simp only [List.length_append, List.length_cons, List.length_nil, List.length_take, List.length_drop, List.length_set, List.length_replicate, List.length_singleton]; omega))) only [↓if_dpos, ↓if_dneg, ↓if_epos, ↓if_eneg, ↓if_npos, ↓if_nneg, ↓if_pos, ↓if_neg, Int.toNat_natCast, List.nil_append, Nat.zero_add, List.length_singleton, Option.bind_some, List.drop_zero, List.take_length, if_true, if_false]
      exact h0
theorem settledM_length (a0 a1 : Int) (a2 a3 : Bool) (a4 a5 : List Int) (a6 a7 : Int) (hs : List (List Int)) (st hp : List Int) (tu mo pa : Int) (hh : G2 hs) : (settledM a0 a1 a2 a3 a4 a5 a6 a7 hs st hp tu mo pa).length ≤ 2097152 := by
  have := hh.len
  have hq := leftM_length hs
  unfold settledM negL; split
  · split
    · simp; omega
    · simp; omega
  · exact Nat.zero_le _
end Go.Proofs.Ytofmaimjbcpaiaa.V
