/- Plain laws over the shapes. -/
import Derived.Test.YtofmaimjbcpaiaaP3
import Derived.Test.YtofmaimjbcpaiaaFLeftPoints
set_option linter.unusedVariables false
set_option linter.unusedSimpArgs false
set_option maxRecDepth 10000
namespace Go.Proofs.Ytofmaimjbcpaiaa.V
open Go
def leftM (hs : List (List Int)) : List Int := hs.map valsM
theorem leftM_length (hs : List (List Int)) : (leftM hs).length = hs.length := by simp [leftM]
theorem spec_LeftPoints_ok (a0 a1 : Int) (a2 a3 : Bool) (a4 a5 : List Int) (a6 a7 : Int) (hs : List (List Int)) (st hp : List Int) (tu mo pa : Int) (hh : G2 hs) : spec_LeftPoints a0 a1 a2 a3 a4 a5 a6 a7 hs st hp tu mo pa = some (leftM hs) := by
  have hl := hh.len
  have h : ∀ i, i ≤ hs.length → spec_LeftPoints_L3 i a0 a1 a2 a3 a4 a5 a6 a7 hs st hp tu mo pa (leftM (hs.take i)) = some (leftM hs) := down (by
      rw [spec_LeftPoints_L3_eq]
      simp (disch := (first | omega | (simp only [List.length_append, List.length_cons, List.length_nil, List.length_take, List.length_drop, List.length_set, List.length_replicate, List.length_singleton]; omega))) only [↓if_dpos, ↓if_dneg, ↓if_epos, ↓if_eneg, ↓if_npos, ↓if_nneg, ↓if_pos, ↓if_neg, Int.toNat_natCast, List.nil_append, Nat.zero_add, List.length_singleton, Option.bind_some, List.drop_zero, List.take_length, if_true, if_false, ]) fun i hi ih => by
    have hk : (leftM (hs.take i)).length ≤ i := by rw [leftM_length]; simp; omega
    have e := spec_l10Sum_ok (hs.getD i []) (Nat.le_trans (hh.row _ (getD_mem hi)) (by omega))
    have hil : (i : Int) < (hs.length : Int) := by omega
    have hw : IntKind.i64.wrap ((i : Int) + 1) = ((i + 1 : Nat) : Int) := wrap_succ hi (by omega)
    rw [spec_LeftPoints_L3_eq]
    simp (disch := (first | omega | (simp only [List.length_append, List.length_cons, List.length_nil, List.length_take, List.length_drop, List.length_set, List.length_replicate, List.length_singleton]; omega))) only [↓if_dpos, ↓if_dneg, ↓if_epos, ↓if_eneg, ↓if_npos, ↓if_nneg, ↓if_pos, ↓if_neg, hw, Int.toNat_natCast, List.nil_append, Nat.zero_add, List.length_singleton, Option.bind_some, List.drop_zero, List.take_length, if_true, if_false, e]
    rw [← ih]
    unfold leftM
    rw [map_take (d := []) hi]
  rw [spec_LeftPoints_eq]
  exact h 0 (Nat.zero_le _)
theorem impl_LeftPoints_ok (a0 a1 : Int) (a2 a3 : Bool) (a4 a5 : List Int) (a6 a7 : Int) (hs : List (List Int)) (st hp : List Int) (tu mo pa : Int) (hh : G2 hs) : impl_LeftPoints a0 a1 a2 a3 a4 a5 a6 a7 hs st hp tu mo pa = some (leftM hs) := by
  have hl := hh.len
  have h : ∀ i, i ≤ hs.length → impl_LeftPoints_L3 hs hs.length i (leftM (hs.take i)) = some (leftM hs) := down (by
      rw [impl_LeftPoints_L3_eq]
      simp (disch := (first | omega | (simp only [List.length_append, List.length_cons, List.length_nil, List.length_take, List.length_drop, List.length_set, List.length_replicate, List.length_singleton]; omega))) only [↓if_dpos, ↓if_dneg, ↓if_epos, ↓if_eneg, ↓if_npos, ↓if_nneg, ↓if_pos, ↓if_neg, Int.toNat_natCast, List.nil_append, Nat.zero_add, List.length_singleton, Option.bind_some, List.drop_zero, List.take_length, if_true, if_false, ]) fun i hi ih => by
    have hk : (leftM (hs.take i)).length ≤ i := by rw [leftM_length]; simp; omega
    have e := impl_values_ok (hs.getD i []) (Nat.le_trans (hh.row _ (getD_mem hi)) (by omega))
    have hil : (i : Int) < (hs.length : Int) := by omega
    have hw : IntKind.i64.wrap ((i : Int) + 1) = ((i + 1 : Nat) : Int) := wrap_succ hi (by omega)
    rw [impl_LeftPoints_L3_eq]
    simp (disch := (first | omega | (simp only [List.length_append, List.length_cons, List.length_nil, List.length_take, List.length_drop, List.length_set, List.length_replicate, List.length_singleton]; omega))) only [↓if_dpos, ↓if_dneg, ↓if_epos, ↓if_eneg, ↓if_npos, ↓if_nneg, ↓if_pos, ↓if_neg, hw, Int.toNat_natCast, List.nil_append, Nat.zero_add, List.length_singleton, Option.bind_some, List.drop_zero, List.take_length, if_true, if_false, e]
    rw [← ih]
    unfold leftM
    rw [map_take (d := []) hi]
  rw [impl_LeftPoints_eq]
  exact h 0 (Nat.zero_le _)
end Go.Proofs.Ytofmaimjbcpaiaa.V
