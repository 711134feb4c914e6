/- Plain laws over the shapes. -/
import Derived.Test.YtofmaimjbcpaiaaPLeft
import Derived.Test.YtofmaimjbcpaiaaFOrderOf
set_option linter.unusedVariables false
set_option linter.unusedSimpArgs false
set_option maxRecDepth 10000
namespace Go.Proofs.Ytofmaimjbcpaiaa.V
open Go
def insP (pts : List Int) (out : List Int) (i : Int) : List Int := insG (fun j => decide (pts.getD j.toNat 0 > pts.getD i.toNat 0)) out i
def ordL (pts : List Int) (n : Nat) : List Int := ((List.range n).map fun (i : Nat) => (i : Int)).foldl (insP pts) []
theorem ordL_succ (pts : List Int) (n : Nat) : ordL pts (n + 1) = insP pts (ordL pts n) (n : Int) := by
  unfold ordL
  rw [List.range_succ, List.map_append, List.foldl_append]; rfl
theorem ordL_length (pts : List Int) : ∀ n, (ordL pts n).length = n
  | 0 => rfl
  | n + 1 => by rw [ordL_succ, insP, insG_length, ordL_length pts n]
theorem ordL_mem (pts : List Int) : ∀ n, ∀ x ∈ ordL pts n, 0 ≤ x ∧ x < (n : Int)
  | 0 => fun x hx => by cases hx
  | n + 1 => fun x hx => by
    rw [ordL_succ] at hx
    rcases List.mem_cons.1 ((insG_perm _ _ _).mem_iff.1 hx) with e | e
    · subst e; omega
    · have := ordL_mem pts n x e; omega
theorem spec_OrderOf_in (a0 a1 : Int) (a2 a3 : Bool) (a4 a5 : List Int) (a6 a7 : Int) (hs : List (List Int)) (st hp : List Int) (tu mo pa : Int) (pts : List Int) (i : Nat) (hi : i < pts.length) (hl : pts.length ≤ 4398046511104) (r : List Int) (hr : r.length ≤ 4398046511104) (hm : ∀ x ∈ r, 0 ≤ x ∧ x < (pts.length : Int)) : ∀ k, k ≤ r.length → spec_OrderOf_L7 i k a0 a1 a2 a3 a4 a5 a6 a7 hs st hp tu mo pa r pts = spec_OrderOf_L4 ((i + 1 : Nat) : Int) a0 a1 a2 a3 a4 a5 a6 a7 hs st hp tu mo pa (r.take (kG (fun j => decide (pts.getD j.toNat 0 > pts.getD ((i : Nat) : Int).toNat 0)) r k) ++ (i : Int) :: r.drop (kG (fun j => decide (pts.getD j.toNat 0 > pts.getD ((i : Nat) : Int).toNat 0)) r k)) pts := by
  intro k
  induction k with
  | zero =>
    intro hk
    have hil : (i : Int) < (pts.length : Int) := by omega
    have hw : IntKind.i64.wrap ((i : Int) + 1) = ((i + 1 : Nat) : Int) := wrap_succ hi (by omega)
    rw [spec_OrderOf_L7_eq]
    simp (disch := (first | omega | (simp only [List.length_append, List.length_cons, List.length_nil, List.length_take, List.length_drop, List.length_set, List.length_replicate, List.length_singleton]; omega))) only [↓if_dpos, ↓if_dneg, ↓if_epos, ↓if_eneg, ↓if_npos, ↓if_nneg, ↓if_pos, ↓if_neg, hw, Int.toNat_natCast, List.nil_append, Nat.zero_add, List.length_singleton, Option.bind_some, List.drop_zero, List.take_length, if_true, if_false, kG, Int.natCast_zero, Int.toNat_zero, List.append_assoc, List.singleton_append]
  | succ k ih =>
    intro hk
    have hil : (i : Int) < (pts.length : Int) := by omega
    have hw : IntKind.i64.wrap ((i : Int) + 1) = ((i + 1 : Nat) : Int) := wrap_succ hi (by omega)
    have hk1 : IntKind.i64.wrap (((k + 1 : Nat) : Int) - 1) = (k : Int) := by rw [wrap_id (by omega) (by omega)]; omega
    obtain ⟨m1, m2⟩ := hm _ (getD_mem (d := 0) (by omega : k < r.length))
    rw [spec_OrderOf_L7_eq]
    simp (disch := (first | omega | (simp only [List.length_append, List.length_cons, List.length_nil, List.length_take, List.length_drop, List.length_set, List.length_replicate, List.length_singleton]; omega))) only [↓if_dpos, ↓if_dneg, ↓if_epos, ↓if_eneg, ↓if_npos, ↓if_nneg, ↓if_pos, ↓if_neg, hw, hk1, Int.toNat_natCast, List.nil_append, Nat.zero_add, List.length_singleton, Option.bind_some, List.drop_zero, List.take_length, if_true, if_false, kG, ih (by omega), List.append_assoc, List.singleton_append]
    split <;> simp
theorem impl_OrderOf_in (pts : List Int) (i : Nat) (hi : i < pts.length) (hl : pts.length ≤ 4398046511104) (r : List Int) (hr : r.length ≤ 4398046511104) (hm : ∀ x ∈ r, 0 ≤ x ∧ x < (pts.length : Int)) : ∀ k, k ≤ r.length → impl_OrderOf_L8 i (pts.getD i 0) k pts.length i pts r = impl_OrderOf_L5 pts.length ((i + 1 : Nat) : Int) pts (r.take (kG (fun j => decide (pts.getD j.toNat 0 > pts.getD ((i : Nat) : Int).toNat 0)) r k) ++ (i : Int) :: r.drop (kG (fun j => decide (pts.getD j.toNat 0 > pts.getD ((i : Nat) : Int).toNat 0)) r k)) := by
  intro k
  induction k with
  | zero =>
    intro hk
    have hil : (i : Int) < (pts.length : Int) := by omega
    have hw : IntKind.i64.wrap ((i : Int) + 1) = ((i + 1 : Nat) : Int) := wrap_succ hi (by omega)
    have h0 : IntKind.i64.wrap (((0 : Nat) : Int) + 1) = ((0 + 1 : Nat) : Int) := by rw [wrap_id (by omega) (by omega)]; rfl
    rw [impl_OrderOf_L8_eq]
    have e := ins_copy r i 0 (Nat.zero_le _)
    simp (disch := (first | omega | (simp only [List.length_append, List.length_cons, List.length_nil, List.length_take, List.length_drop, List.length_set, List.length_replicate, List.length_singleton]; omega))) only [↓if_dpos, ↓if_dneg, ↓if_epos, ↓if_eneg, ↓if_npos, ↓if_nneg, ↓if_pos, ↓if_neg, hw, h0, Int.toNat_natCast, e, kG]
  | succ k ih =>
    intro hk
    have hil : (i : Int) < (pts.length : Int) := by omega
    have hw : IntKind.i64.wrap ((i : Int) + 1) = ((i + 1 : Nat) : Int) := wrap_succ hi (by omega)
    have hk1 : IntKind.i64.wrap (((k + 1 : Nat) : Int) - 1) = (k : Int) := by rw [wrap_id (by omega) (by omega)]; omega
    have hk2 : IntKind.i64.wrap (((k + 1 : Nat) : Int) + 1) = ((k + 1 + 1 : Nat) : Int) := by rw [wrap_id (by omega) (by omega)]; omega
    obtain ⟨m1, m2⟩ := hm _ (getD_mem (d := 0) (by omega : k < r.length))
    have e := ins_copy r i (k + 1) hk
    rw [impl_OrderOf_L8_eq]
    simp (disch := (first | omega | (simp only [List.length_append, List.length_cons, List.length_nil, List.length_take, List.length_drop, List.length_set, List.length_replicate, List.length_singleton]; omega))) only [↓if_dpos, ↓if_dneg, ↓if_epos, ↓if_eneg, ↓if_npos, ↓if_nneg, ↓if_pos, ↓if_neg, hw, hk1, hk2, Int.toNat_natCast, e, kG, ih (by omega)]
    split <;> simp
def orderM (a0 a1 : Int) (a2 a3 : Bool) (a4 a5 : List Int) (a6 a7 : Int) (hs : List (List Int)) (st hp : List Int) (tu mo pa : Int) : List Int := if gameM a0 a1 a2 a3 a4 a5 a6 a7 hs st hp tu mo pa = true then ordL (leftM hs) hs.length else []
theorem spec_OrderOf_ok (a0 a1 : Int) (a2 a3 : Bool) (a4 a5 : List Int) (a6 a7 : Int) (hs : List (List Int)) (st hp : List Int) (tu mo pa : Int) (h4 : a4.length ≤ 1048576) (h5 : a5.length ≤ 1048576) (hh : G2 hs) (h9 : st.length ≤ 2097152) (h10 : hp.length ≤ 2097152) : spec_OrderOf a0 a1 a2 a3 a4 a5 a6 a7 hs st hp tu mo pa = some (orderM a0 a1 a2 a3 a4 a5 a6 a7 hs st hp tu mo pa) := by
  have hl := hh.len
  have hq := leftM_length hs
  rw [spec_OrderOf_eq, spec_LeftPoints_ok a0 a1 a2 a3 a4 a5 a6 a7 hs st hp tu mo pa hh, Option.bind_some, orderM]
  cases hg : gameM a0 a1 a2 a3 a4 a5 a6 a7 hs st hp tu mo pa
  · rw [spec_OrderOf_L4_eq, spec_IsGame_ok a0 a1 a2 a3 a4 a5 a6 a7 hs st hp tu mo pa h4 h5 hh h9 h10, hg]
    by_cases c : (0 : Int) < ((leftM hs).length : Int)
    · rw [if_pos (decide_eq_true c)]; rfl
    · rw [if_neg (by simpa using c)]; rfl
  · have h : ∀ i, i ≤ (leftM hs).length → spec_OrderOf_L4 i a0 a1 a2 a3 a4 a5 a6 a7 hs st hp tu mo pa (ordL (leftM hs) i) (leftM hs) = some (ordL (leftM hs) hs.length) := down (by
        rw [spec_OrderOf_L4_eq]
        simp (disch := (first | omega | (simp only [List.length_append, List.length_cons, List.length_nil, List.length_take, List.length_drop, List.length_set, List.length_replicate, List.length_singleton]; omega))) only [↓if_dpos, ↓if_dneg, ↓if_epos, ↓if_eneg, ↓if_npos, ↓if_nneg, ↓if_pos, ↓if_neg, Int.toNat_natCast, List.nil_append, Nat.zero_add, List.length_singleton, Option.bind_some, List.drop_zero, List.take_length, if_true, if_false, hq]) fun i hi ih => by
      have e := spec_OrderOf_in a0 a1 a2 a3 a4 a5 a6 a7 hs st hp tu mo pa (leftM hs) i hi (by omega) (ordL (leftM hs) i) (by rw [ordL_length]; omega) (fun x hx => by have := ordL_mem _ _ x hx; omega) _ (Nat.le_refl _)
      rw [spec_OrderOf_L4_eq, if_pos (decide_eq_true (by omega)), spec_IsGame_ok a0 a1 a2 a3 a4 a5 a6 a7 hs st hp tu mo pa h4 h5 hh h9 h10, hg, Option.bind_some, if_pos rfl, e, ← ih, ordL_succ]
      rfl
    exact h 0 (Nat.zero_le _)
theorem impl_OrderOf_ok (a0 a1 : Int) (a2 a3 : Bool) (a4 a5 : List Int) (a6 a7 : Int) (hs : List (List Int)) (st hp : List Int) (tu mo pa : Int) (h4 : a4.length ≤ 1048576) (h5 : a5.length ≤ 1048576) (hh : G2 hs) (h9 : st.length ≤ 2097152) (h10 : hp.length ≤ 2097152) : impl_OrderOf a0 a1 a2 a3 a4 a5 a6 a7 hs st hp tu mo pa = some (orderM a0 a1 a2 a3 a4 a5 a6 a7 hs st hp tu mo pa) := by
  have hl := hh.len
  have hq := leftM_length hs
  rw [impl_OrderOf_eq, impl_IsGame_ok a0 a1 a2 a3 a4 a5 a6 a7 hs st hp tu mo pa h4 h5 hh h9 h10, Option.bind_some, orderM]
  cases hg : gameM a0 a1 a2 a3 a4 a5 a6 a7 hs st hp tu mo pa
  · rfl
  · rw [impl_LeftPoints_ok a0 a1 a2 a3 a4 a5 a6 a7 hs st hp tu mo pa hh]
    have h : ∀ i, i ≤ (leftM hs).length → impl_OrderOf_L5 (leftM hs).length i (leftM hs) (ordL (leftM hs) i) = some (ordL (leftM hs) hs.length) := down (by
        rw [impl_OrderOf_L5_eq]
        simp (disch := (first | omega | (simp only [List.length_append, List.length_cons, List.length_nil, List.length_take, List.length_drop, List.length_set, List.length_replicate, List.length_singleton]; omega))) only [↓if_dpos, ↓if_dneg, ↓if_epos, ↓if_eneg, ↓if_npos, ↓if_nneg, ↓if_pos, ↓if_neg, Int.toNat_natCast, List.nil_append, Nat.zero_add, List.length_singleton, Option.bind_some, List.drop_zero, List.take_length, if_true, if_false, hq]) fun i hi ih => by
      have e := impl_OrderOf_in (leftM hs) i hi (by omega) (ordL (leftM hs) i) (by rw [ordL_length]; omega) (fun x hx => by have := ordL_mem _ _ x hx; omega) _ (Nat.le_refl _)
      have hil : (i : Int) < ((leftM hs).length : Int) := by omega
      have hw : IntKind.i64.wrap ((i : Int) + 1) = ((i + 1 : Nat) : Int) := wrap_succ hi (by omega)
      rw [impl_OrderOf_L5_eq]
      simp (disch := (first | omega | (simp only [List.length_append, List.length_cons, List.length_nil, List.length_take, List.length_drop, List.length_set, List.length_replicate, List.length_singleton]; omega))) only [↓if_dpos, ↓if_dneg, ↓if_epos, ↓if_eneg, ↓if_npos, ↓if_nneg, ↓if_pos, ↓if_neg, hw, Int.toNat_natCast, List.nil_append, Nat.zero_add, List.length_singleton, Option.bind_some, List.drop_zero, List.take_length, if_true, if_false, e]
      rw [← ih, ordL_succ]
      rfl
    exact h 0 (Nat.zero_le _)
theorem orderM_length (a0 a1 : Int) (a2 a3 : Bool) (a4 a5 : List Int) (a6 a7 : Int) (hs : List (List Int)) (st hp : List Int) (tu mo pa : Int) (hh : G2 hs) : (orderM a0 a1 a2 a3 a4 a5 a6 a7 hs st hp tu mo pa).length ≤ 2097152 := by
  have := hh.len
  unfold orderM; split
  · rw [ordL_length]; omega
  · exact Nat.zero_le _
end Go.Proofs.Ytofmaimjbcpaiaa.V
