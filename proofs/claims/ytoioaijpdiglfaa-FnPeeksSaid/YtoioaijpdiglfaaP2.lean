/- Plain laws over the shapes. -/
import Derived.Test.YtoioaijpdiglfaaP1b
import Derived.Test.YtoioaijpdiglfaaS1
import Derived.Test.YtoioaijpdiglfaaS2
set_option linter.unusedVariables false
set_option linter.unusedSimpArgs false
set_option maxRecDepth 10000
namespace Go.Proofs.Ytoioaijpdiglfaa.V
open Go
def lensM (l : List (List Int)) : List Int := l.map fun r => (r.length : Int)
theorem map_take {α β : Type} {f : α → β} {l : List α} {i : Nat} {d : α} (hi : i < l.length) : (l.take (i + 1)).map f = (l.take i).map f ++ [f (l.getD i d)] := by
  have : l.take (i + 1) = l.take i ++ [l.getD i d] := by
    rw [List.take_succ_eq_append_getElem hi, List.getD_eq_getElem?_getD, List.getElem?_eq_getElem hi]; rfl
  rw [this, List.map_append]; rfl
theorem impl_sizes_ok (l : List (List Int)) (hl : l.length ≤ 4194304) : impl_sizes l = some (lensM l) := by
  have h : ∀ i, i ≤ l.length → impl_sizes_L3 l l.length i (lensM (l.take i)) = some (lensM l) := down (by
      rw [impl_sizes_L3_eq]
      simp (disch := (first | omega | (simp only [List.length_append, List.length_cons, List.length_nil, List.length_take, List.length_drop, List.length_set, List.length_replicate, List.length_singleton]; omega))) only [↓if_dpos, ↓if_dneg, ↓if_epos, ↓if_eneg, ↓if_npos, ↓if_nneg, ↓if_pos, ↓if_neg, Int.toNat_natCast, List.nil_append, Nat.zero_add, List.length_singleton, Option.bind_some, List.drop_zero, List.take_length, if_true, if_false, ]) fun i hi ih => by
    have hk : (lensM (l.take i)).length ≤ i := by unfold lensM; simp; omega
    have hil : (i : Int) < (l.length : Int) := by omega
    have hw : IntKind.i64.wrap ((i : Int) + 1) = ((i + 1 : Nat) : Int) := wrap_succ hi (by omega)
    rw [impl_sizes_L3_eq]
    simp (disch := (first | omega | (simp only [List.length_append, List.length_cons, List.length_nil, List.length_take, List.length_drop, List.length_set, List.length_replicate, List.length_singleton]; omega))) only [↓if_dpos, ↓if_dneg, ↓if_epos, ↓if_eneg, ↓if_npos, ↓if_nneg, ↓if_pos, ↓if_neg, hw, Int.toNat_natCast, List.nil_append, Nat.zero_add, List.length_singleton, Option.bind_some, List.drop_zero, List.take_length, if_true, if_false, ]
    rw [← ih]
    unfold lensM
    rw [map_take (d := []) hi]
  rw [impl_sizes_eq]
  exact h 0 (Nat.zero_le _)
theorem lensM_length (l : List (List Int)) : (lensM l).length = l.length := by simp [lensM]
noncomputable def fitsM (a0 a1 : Int) (a2 a3 : Bool) (a4 a5 : List Int) (a6 a7 top c : Int) : Bool :=
  rulesM a0 a1 a2 a3 a4 a5 a6 a7 && (isC top && (isC c && ((a2 && (suitM c == suitM top)) || ((a3 && (rankM c == rankM top)) || matchesM a4 c))))
theorem spec_FitsOn_ok (a0 a1 : Int) (a2 a3 : Bool) (a4 a5 : List Int) (a6 a7 top c : Int) (h4 : a4.length ≤ 1048576) (h5 : a5.length ≤ 1048576) : spec_FitsOn a0 a1 a2 a3 a4 a5 a6 a7 top c = some (fitsM a0 a1 a2 a3 a4 a5 a6 a7 top c) := by
  simp only [spec_FitsOn_eq, spec_IsRules_ok _ _ _ _ _ _ _ _ h4 h5, spec_IsCard_ok, spec_SuitOf_ok, spec_RankOf_ok, spec_Matches_ok _ _ h4, Option.bind_some, fitsM]
  cases rulesM a0 a1 a2 a3 a4 a5 a6 a7 <;> cases isC top <;> cases isC c <;> cases a2 <;> cases a3 <;> cases (suitM c == suitM top) <;> cases (rankM c == rankM top) <;> rfl
theorem spec_l22Copy_ok (a0 a1 : Int) (a2 a3 : Bool) (a4 a5 : List Int) (a6 a7 : Int) (h4 : a4.length ≤ 1048576) (h5 : a5.length ≤ 1048576) : spec_l22Copy a0 a1 a2 a3 a4 a5 a6 a7 = some (a0, a1, a2, a3, a4, a5, a6, a7) := by
  rw [spec_l22Copy_eq]
  simp (disch := (first | omega | (simp only [List.length_append, List.length_cons, List.length_nil, List.length_take, List.length_drop, List.length_set, List.length_replicate, List.length_singleton]; omega))) only [↓if_dpos, ↓if_dneg, ↓if_epos, ↓if_eneg, ↓if_npos, ↓if_nneg, ↓if_pos, ↓if_neg, Int.toNat_natCast, List.nil_append, Nat.zero_add, List.length_singleton, Option.bind_some, List.drop_zero, List.take_length, if_true, if_false]
theorem impl_Rules_copied_ok (a0 a1 : Int) (a2 a3 : Bool) (a4 a5 : List Int) (a6 a7 : Int) (h4 : a4.length ≤ 1048576) (h5 : a5.length ≤ 1048576) : impl_Rules_copied a0 a1 a2 a3 a4 a5 a6 a7 = some (a0, a1, a2, a3, a4, a5, a6, a7) := by
  rw [impl_Rules_copied_eq, impl_copyOf_ok a4 (by omega), Option.bind_some, impl_copyOf_ok a5 (by omega), Option.bind_some]
end Go.Proofs.Ytoioaijpdiglfaa.V
