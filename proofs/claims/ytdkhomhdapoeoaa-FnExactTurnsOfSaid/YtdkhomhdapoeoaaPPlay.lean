/- Plain laws over the shapes. -/
import Derived.Test.YtdkhomhdapoeoaaP3
import Derived.Test.YtdkhomhdapoeoaaFPlayOn
import Derived.Test.YtdkhomhdapoeoaaFPlayable
import Derived.Test.YtdkhomhdapoeoaaS1
import Derived.Test.YtdkhomhdapoeoaaS2
import Derived.Test.YtdkhomhdapoeoaaS3
set_option linter.unusedVariables false
set_option linter.unusedSimpArgs false
set_option maxRecDepth 10000
namespace Go.Proofs.Ytdkhomhdapoeoaa.V
open Go
noncomputable def playOnM (a0 a1 : Int) (a2 a3 : Bool) (a4 a5 : List Int) (a6 a7 : Int) (hs : List (List Int)) (st hp : List Int) (tu mo pa : Int) (c : Int) : Int × Int × Bool × Bool × List Int × List Int × Int × Int × List (List Int) × List Int × List Int × Int × Int × Int × Bool :=
  if hasM (playM a0 a1 a2 a3 a4 a5 a6 a7 hs st hp tu mo pa) c = true then (a0, a1, a2, a3, a4, a5, a6, a7, hs.set tu.toNat (withoutM (hs.getD tu.toNat []) c), st, hp ++ [c], (tu + (if skipM a0 a1 a2 a3 a4 a5 a6 a7 c = true then 2 else 1)).tmod a0, mo + 1, 0, true)
  else (a0, a1, a2, a3, a4, a5, a6, a7, hs, st, hp, tu, mo, pa, false)
theorem spec_PlayOn_ok (a0 a1 : Int) (a2 a3 : Bool) (a4 a5 : List Int) (a6 a7 : Int) (hs : List (List Int)) (st hp : List Int) (tu mo pa : Int) (c : Int) (h4 : a4.length ≤ 1048576) (h5 : a5.length ≤ 1048576) (hh : G2 hs) (h9 : st.length ≤ 2097152) (h10 : hp.length ≤ 2097152) : spec_PlayOn a0 a1 a2 a3 a4 a5 a6 a7 hs st hp tu mo pa c = some (playOnM a0 a1 a2 a3 a4 a5 a6 a7 hs st hp tu mo pa c) := by
  have hpl := playM_length a0 a1 a2 a3 a4 a5 a6 a7 hs st hp tu mo pa
  rw [spec_PlayOn_eq, spec_l24Copy_ok a0 a1 a2 a3 a4 a5 a6 a7 hs st hp tu mo pa h4 h5 hh h9 h10, Option.bind_some, spec_Playable_ok a0 a1 a2 a3 a4 a5 a6 a7 hs st hp tu mo pa h4 h5 hh h9 h10, Option.bind_some, spec_HasCard_ok _ _ (by omega), Option.bind_some, playOnM]
  cases hc : hasM (playM a0 a1 a2 a3 a4 a5 a6 a7 hs st hp tu mo pa) c
  · rfl
  · obtain ⟨hg, _, _⟩ := playM_has a0 a1 a2 a3 a4 a5 a6 a7 hs st hp tu mo pa hc
    have v := gameM_valid a0 a1 a2 a3 a4 a5 a6 a7 hs st hp tu mo pa hg
    obtain ⟨v1, v2, v3, v4, v5, v6, v7, v8, v9, v10⟩ := (⟨v.p2, v.players, v.heap, v.t1, v.t2, v.all, v.p1, v.m1, v.m2, v.lim⟩ : _ ∧ _ ∧ _ ∧ _ ∧ _ ∧ _ ∧ _ ∧ _ ∧ _ ∧ _)
    have hrow := getD_le_flat hs tu.toNat
    have e := spec_Without_ok (hs.getD tu.toNat []) c (by omega)
    have w1 : IntKind.i64.wrap (tu + 1) = tu + 1 := wrap_id (by omega) (by omega)
    have w2 : IntKind.i64.wrap (tu + 2) = tu + 2 := wrap_id (by omega) (by omega)
    have w3 : IntKind.i64.wrap (mo + 1) = mo + 1 := wrap_id (by omega) (by omega)
    simp (disch := (first | omega | (simp only [List.length_append, List.length_cons, List.length_nil, List.length_take, List.length_drop, List.length_set, List.length_replicate, List.length_singleton]; omega))) only [↓if_dpos, ↓if_dneg, ↓if_epos, ↓if_eneg, ↓if_npos, ↓if_nneg, ↓if_pos, ↓if_neg, Bool.not_true, Bool.false_eq_true, if_false, e, Int.toNat_natCast, List.nil_append, Nat.zero_add, List.length_singleton, Option.bind_some, List.drop_zero, List.take_length, if_true, if_false, spec_DoesSkip_ok _ _ _ _ _ _ _ _ _ h4 h5, w1, w2, w3]
    cases skipM a0 a1 a2 a3 a4 a5 a6 a7 c <;> simp
theorem impl_PlayOn_ok (a0 a1 : Int) (a2 a3 : Bool) (a4 a5 : List Int) (a6 a7 : Int) (hs : List (List Int)) (st hp : List Int) (tu mo pa : Int) (c : Int) (h4 : a4.length ≤ 1048576) (h5 : a5.length ≤ 1048576) (hh : G2 hs) (h9 : st.length ≤ 2097152) (h10 : hp.length ≤ 2097152) : impl_PlayOn a0 a1 a2 a3 a4 a5 a6 a7 hs st hp tu mo pa c = some (playOnM a0 a1 a2 a3 a4 a5 a6 a7 hs st hp tu mo pa c) := by
  have hpl := playM_length a0 a1 a2 a3 a4 a5 a6 a7 hs st hp tu mo pa
  rw [impl_PlayOn_eq, impl_Game_copied_ok a0 a1 a2 a3 a4 a5 a6 a7 hs st hp tu mo pa h4 h5 hh h9 h10, Option.bind_some, impl_Playable_ok a0 a1 a2 a3 a4 a5 a6 a7 hs st hp tu mo pa h4 h5 hh h9 h10, Option.bind_some, impl_HasCard_ok _ _ (by omega), Option.bind_some, playOnM]
  cases hc : hasM (playM a0 a1 a2 a3 a4 a5 a6 a7 hs st hp tu mo pa) c
  · rfl
  · obtain ⟨hg, _, _⟩ := playM_has a0 a1 a2 a3 a4 a5 a6 a7 hs st hp tu mo pa hc
    have v := gameM_valid a0 a1 a2 a3 a4 a5 a6 a7 hs st hp tu mo pa hg
    obtain ⟨v1, v2, v3, v4, v5, v6, v7, v8, v9, v10⟩ := (⟨v.p2, v.players, v.heap, v.t1, v.t2, v.all, v.p1, v.m1, v.m2, v.lim⟩ : _ ∧ _ ∧ _ ∧ _ ∧ _ ∧ _ ∧ _ ∧ _ ∧ _ ∧ _)
    have hrow := getD_le_flat hs tu.toNat
    have e := impl_Without_ok (hs.getD tu.toNat []) c (by omega)
    have w1 : IntKind.i64.wrap (tu + 1) = tu + 1 := wrap_id (by omega) (by omega)
    have w2 : IntKind.i64.wrap (tu + 2) = tu + 2 := wrap_id (by omega) (by omega)
    have w3 : IntKind.i64.wrap (mo + 1) = mo + 1 := wrap_id (by omega) (by omega)
    simp (disch := (first | omega | (simp only [List.length_append, List.length_cons, List.length_nil, List.length_take, List.length_drop, List.length_set, List.length_replicate, List.length_singleton]; omega))) only [↓if_dpos, ↓if_dneg, ↓if_epos, ↓if_eneg, ↓if_npos, ↓if_nneg, ↓if_pos, ↓if_neg, Bool.not_true, Bool.false_eq_true, if_false, e, Int.toNat_natCast, List.nil_append, Nat.zero_add, List.length_singleton, Option.bind_some, List.drop_zero, List.take_length, if_true, if_false, impl_DoesSkip_ok _ _ _ _ _ _ _ _ _ h4 h5, w1, w2, w3, v2]
    cases skipM a0 a1 a2 a3 a4 a5 a6 a7 c <;> simp
end Go.Proofs.Ytdkhomhdapoeoaa.V
