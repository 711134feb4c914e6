/- Plain laws over the shapes. -/
import Derived.Test.YtofmaimjbcpaiaaP1
import Derived.Test.YtofmaimjbcpaiaaS5
set_option linter.unusedVariables false
set_option linter.unusedSimpArgs false
set_option maxRecDepth 10000
namespace Go.Proofs.Ytofmaimjbcpaiaa.V
open Go
def mostR (full : List Int) : List Int → Int → Int → Int
  | [], k, _ => k
  | x :: t, k, i => if k < 0 then mostR full t i (i + 1) else if x > full.getD k.toNat 0 then mostR full t i (i + 1) else mostR full t k (i + 1)
theorem spec_MostOf_ok (l : List Int) (hl : l.length ≤ 4398046511104) : spec_MostOf l = some (mostR l l (-1) 0) := by
  have h : ∀ i, i ≤ l.length → ∀ k : Int, k < i → spec_MostOf_L3 l k i = some (mostR l (l.drop i) k i) := down (by
      intro k hk
      rw [spec_MostOf_L3_eq]
      simp (disch := (first | omega | (simp only [List.length_append, List.length_cons, List.length_nil, List.length_take, List.length_drop, List.length_set, List.length_replicate, List.length_singleton]; omega))) only [↓if_dpos, ↓if_dneg, ↓if_epos, ↓if_eneg, ↓if_npos, ↓if_nneg, ↓if_pos, ↓if_neg, Int.toNat_natCast, List.nil_append, Nat.zero_add, List.length_singleton, Option.bind_some, List.drop_zero, List.take_length, if_true, if_false, ]
      rw [List.drop_of_length_le (Nat.le_refl _)]; rfl) fun i hi ih k hk => by
    have hil : (i : Int) < (l.length : Int) := by omega
    have hw : IntKind.i64.wrap ((i : Int) + 1) = ((i + 1 : Nat) : Int) := wrap_succ hi (by omega)
    have i1 := ih i (by omega)
    have i2 := ih k (by omega)
    rw [spec_MostOf_L3_eq, getD_drop (d := 0) hi, mostR]
    by_cases hk0 : k < 0
    · simp (disch := (first | omega | (simp only [List.length_append, List.length_cons, List.length_nil, List.length_take, List.length_drop, List.length_set, List.length_replicate, List.length_singleton]; omega))) only [↓if_dpos, ↓if_dneg, ↓if_epos, ↓if_eneg, ↓if_npos, ↓if_nneg, ↓if_pos, ↓if_neg, hw, Int.toNat_natCast, List.nil_append, Nat.zero_add, List.length_singleton, Option.bind_some, List.drop_zero, List.take_length, if_true, if_false, i1]; rfl
    · simp (disch := (first | omega | (simp only [List.length_append, List.length_cons, List.length_nil, List.length_take, List.length_drop, List.length_set, List.length_replicate, List.length_singleton]; omega))) only [↓if_dpos, ↓if_dneg, ↓if_epos, ↓if_eneg, ↓if_npos, ↓if_nneg, ↓if_pos, ↓if_neg, hw, Int.toNat_natCast, List.nil_append, Nat.zero_add, List.length_singleton, Option.bind_some, List.drop_zero, List.take_length, if_true, if_false, i1, i2]
      by_cases c : l.getD i 0 > l.getD k.toNat 0
      · rw [if_pos (decide_eq_true c), if_pos c]; rfl
      · rw [if_neg (by simpa using c), if_neg c]; rfl
  rw [spec_MostOf_eq]
  exact h 0 (Nat.zero_le _) (-1) (by omega)
theorem impl_MostOf_ok (l : List Int) (hl : l.length ≤ 4398046511104) : impl_MostOf l = some (mostR l l (-1) 0) := by
  have h : ∀ i, i ≤ l.length → ∀ k : Int, k < i → impl_MostOf_L3 l k l l.length i = some (mostR l (l.drop i) k i) := down (by
      intro k hk
      rw [impl_MostOf_L3_eq]
      simp (disch := (first | omega | (simp only [List.length_append, List.length_cons, List.length_nil, List.length_take, List.length_drop, List.length_set, List.length_replicate, List.length_singleton]; omega))) only [↓if_dpos, ↓if_dneg, ↓if_epos, ↓if_eneg, ↓if_npos, ↓if_nneg, ↓if_pos, ↓if_neg, Int.toNat_natCast, List.nil_append, Nat.zero_add, List.length_singleton, Option.bind_some, List.drop_zero, List.take_length, if_true, if_false, ]
      rw [List.drop_of_length_le (Nat.le_refl _)]; rfl) fun i hi ih k hk => by
    have hil : (i : Int) < (l.length : Int) := by omega
    have hw : IntKind.i64.wrap ((i : Int) + 1) = ((i + 1 : Nat) : Int) := wrap_succ hi (by omega)
    have i1 := ih i (by omega)
    have i2 := ih k (by omega)
    rw [impl_MostOf_L3_eq, getD_drop (d := 0) hi, mostR]
    by_cases hk0 : k < 0
    · simp (disch := (first | omega | (simp only [List.length_append, List.length_cons, List.length_nil, List.length_take, List.length_drop, List.length_set, List.length_replicate, List.length_singleton]; omega))) only [↓if_dpos, ↓if_dneg, ↓if_epos, ↓if_eneg, ↓if_npos, ↓if_nneg, ↓if_pos, ↓if_neg, hw, Int.toNat_natCast, List.nil_append, Nat.zero_add, List.length_singleton, Option.bind_some, List.drop_zero, List.take_length, if_true, if_false, i1]; rfl
    · simp (disch := (first | omega | (simp only [List.length_append, List.length_cons, List.length_nil, List.length_take, List.length_drop, List.length_set, List.length_replicate, List.length_singleton]; omega))) only [↓if_dpos, ↓if_dneg, ↓if_epos, ↓if_eneg, ↓if_npos, ↓if_nneg, ↓if_pos, ↓if_neg, hw, Int.toNat_natCast, List.nil_append, Nat.zero_add, List.length_singleton, Option.bind_some, List.drop_zero, List.take_length, if_true, if_false, i1, i2]
      by_cases c : l.getD i 0 > l.getD k.toNat 0
      · rw [if_pos (decide_eq_true c), if_pos c]; rfl
      · rw [if_neg (by simpa using c), if_neg c]; rfl
  rw [impl_MostOf_eq]
  exact h 0 (Nat.zero_le _) (-1) (by omega)
end Go.Proofs.Ytofmaimjbcpaiaa.V
