/- Plain laws over the shapes. -/
import Derived.Test.YtofmaimjbcpaiaaP3
import Derived.Test.YtofmaimjbcpaiaaFPeekOf
import Derived.Test.YtofmaimjbcpaiaaS5
set_option linter.unusedVariables false
set_option linter.unusedSimpArgs false
set_option maxRecDepth 10000
namespace Go.Proofs.Ytofmaimjbcpaiaa.V
open Go
theorem spec_CardsHeld_ok (a0 a1 : Int) (a2 a3 : Bool) (a4 a5 : List Int) (a6 a7 : Int) (hs : List (List Int)) (st hp : List Int) (tu mo pa : Int) (hl : hs.length ≤ 2097152) : spec_CardsHeld a0 a1 a2 a3 a4 a5 a6 a7 hs st hp tu mo pa = some (lensM hs) := by
  have h : ∀ i, i ≤ hs.length → spec_CardsHeld_L3 i a0 a1 a2 a3 a4 a5 a6 a7 hs st hp tu mo pa (lensM (hs.take i)) = some (lensM hs) := down (by
      rw [spec_CardsHeld_L3_eq]
      simp (disch := (first | omega | (simp only [List.length_append, List.length_cons, List.length_nil, List.length_take, List.length_drop, List.length_set, List.length_replicate, List.length_singleton]; omega))) only [↓if_dpos, ↓if_dneg, ↓if_epos, ↓if_eneg, ↓if_npos, ↓if_nneg, ↓if_pos, ↓if_neg, Int.toNat_natCast, List.nil_append, Nat.zero_add, List.length_singleton, Option.bind_some, List.drop_zero, List.take_length, if_true, if_false, ]) fun i hi ih => by
    have hk : (lensM (hs.take i)).length ≤ i := by unfold lensM; simp; omega
    have hil : (i : Int) < (hs.length : Int) := by omega
    have hw : IntKind.i64.wrap ((i : Int) + 1) = ((i + 1 : Nat) : Int) := wrap_succ hi (by omega)
    rw [spec_CardsHeld_L3_eq]
    simp (disch := (first | omega | (simp only [List.length_append, List.length_cons, List.length_nil, List.length_take, List.length_drop, List.length_set, List.length_replicate, List.length_singleton]; omega))) only [↓if_dpos, ↓if_dneg, ↓if_epos, ↓if_eneg, ↓if_npos, ↓if_nneg, ↓if_pos, ↓if_neg, hw, Int.toNat_natCast, List.nil_append, Nat.zero_add, List.length_singleton, Option.bind_some, List.drop_zero, List.take_length, if_true, if_false, ]
    rw [← ih]
    unfold lensM
    rw [map_take (d := []) hi]
  rw [spec_CardsHeld_eq]
  exact h 0 (Nat.zero_le _)
def peekM (a0 a1 : Int) (a2 a3 : Bool) (a4 a5 : List Int) (a6 a7 : Int) (hs : List (List Int)) (st hp : List Int) (tu mo pa : Int) (me : Int) : Int × List Int × Int × Int × Int × List Int × Int × Int × Bool :=
  if (gameM a0 a1 a2 a3 a4 a5 a6 a7 hs st hp tu mo pa && inR me 0 ((hs.length : Int) - 1)) = true then (me, sortM (hs.getD me.toNat []), hp.getD (hp.length - 1) 0, (hp.length : Int), (st.length : Int), lensM hs, tu, mo, true) else (0, [], 0, 0, 0, [], 0, 0, false)
theorem spec_PeekOf_ok (a0 a1 : Int) (a2 a3 : Bool) (a4 a5 : List Int) (a6 a7 : Int) (hs : List (List Int)) (st hp : List Int) (tu mo pa : Int) (me : Int) (h4 : a4.length ≤ 1048576) (h5 : a5.length ≤ 1048576) (hh : G2 hs) (h9 : st.length ≤ 2097152) (h10 : hp.length ≤ 2097152) : spec_PeekOf a0 a1 a2 a3 a4 a5 a6 a7 hs st hp tu mo pa me = some (peekM a0 a1 a2 a3 a4 a5 a6 a7 hs st hp tu mo pa me) := by
  have hl := hh.len
  have hw : IntKind.i64.wrap ((hs.length : Int) - 1) = (hs.length : Int) - 1 := wrap_id (by omega) (by omega)
  rw [spec_PeekOf_eq, spec_IsGame_ok a0 a1 a2 a3 a4 a5 a6 a7 hs st hp tu mo pa h4 h5 hh h9 h10, Option.bind_some, hw, spec_l1In_ok, peekM]
  cases hg : gameM a0 a1 a2 a3 a4 a5 a6 a7 hs st hp tu mo pa
  · rfl
  · have v := (gameM_valid a0 a1 a2 a3 a4 a5 a6 a7 hs st hp tu mo pa hg).heap
    cases hm : inR me 0 ((hs.length : Int) - 1)
    · rfl
    · have hm := hm; simp [inR] at hm
      have hrow := hh.at' (i := me.toNat)
      have hw2 : IntKind.i64.wrap ((hp.length : Int) - 1) = ((hp.length - 1 : Nat) : Int) := by rw [wrap_id (by omega) (by omega)]; omega
      simp only [Bool.and_self, if_true]
      simp (disch := (first | omega | (simp only [List.length_append, List.length_cons, List.length_nil, List.length_take, List.length_drop, List.length_set, List.length_replicate, List.length_singleton]; omega))) only [↓if_dpos, ↓if_dneg, ↓if_epos, ↓if_eneg, ↓if_npos, ↓if_nneg, ↓if_pos, ↓if_neg, Int.toNat_natCast, List.nil_append, Nat.zero_add, List.length_singleton, Option.bind_some, List.drop_zero, List.take_length, if_true, if_false, Bool.not_true, Bool.false_eq_true, hw2, spec_Sorted_ok, spec_CardsHeld_ok, if_false]
theorem impl_PeekOf_ok (a0 a1 : Int) (a2 a3 : Bool) (a4 a5 : List Int) (a6 a7 : Int) (hs : List (List Int)) (st hp : List Int) (tu mo pa : Int) (me : Int) (h4 : a4.length ≤ 1048576) (h5 : a5.length ≤ 1048576) (hh : G2 hs) (h9 : st.length ≤ 2097152) (h10 : hp.length ≤ 2097152) : impl_PeekOf a0 a1 a2 a3 a4 a5 a6 a7 hs st hp tu mo pa me = some (peekM a0 a1 a2 a3 a4 a5 a6 a7 hs st hp tu mo pa me) := by
  have hl := hh.len
  have hw : IntKind.i64.wrap ((hs.length : Int) - 1) = (hs.length : Int) - 1 := wrap_id (by omega) (by omega)
  rw [impl_PeekOf_eq, impl_IsGame_ok a0 a1 a2 a3 a4 a5 a6 a7 hs st hp tu mo pa h4 h5 hh h9 h10, Option.bind_some, hw, impl_InRange_ok, peekM]
  cases hg : gameM a0 a1 a2 a3 a4 a5 a6 a7 hs st hp tu mo pa
  · rfl
  · have v := (gameM_valid a0 a1 a2 a3 a4 a5 a6 a7 hs st hp tu mo pa hg).heap
    cases hm : inR me 0 ((hs.length : Int) - 1)
    · rfl
    · have hm := hm; simp [inR] at hm
      have hrow := hh.at' (i := me.toNat)
      have hw2 : IntKind.i64.wrap ((hp.length : Int) - 1) = ((hp.length - 1 : Nat) : Int) := by rw [wrap_id (by omega) (by omega)]; omega
      simp only [Bool.and_self, if_true]
      simp (disch := (first | omega | (simp only [List.length_append, List.length_cons, List.length_nil, List.length_take, List.length_drop, List.length_set, List.length_replicate, List.length_singleton]; omega))) only [↓if_dpos, ↓if_dneg, ↓if_epos, ↓if_eneg, ↓if_npos, ↓if_nneg, ↓if_pos, ↓if_neg, Int.toNat_natCast, List.nil_append, Nat.zero_add, List.length_singleton, Option.bind_some, List.drop_zero, List.take_length, if_true, if_false, Bool.not_true, Bool.false_eq_true, hw2, impl_Sorted_ok, impl_sizes_ok, if_false]
end Go.Proofs.Ytofmaimjbcpaiaa.V
