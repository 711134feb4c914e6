/- Plain laws over the shapes. -/
import Derived.Test.YtoioaijpdiglfaaP3
import Derived.Test.YtoioaijpdiglfaaFTakeCards
import Derived.Test.YtoioaijpdiglfaaS1
import Derived.Test.YtoioaijpdiglfaaS2
import Derived.Test.YtoioaijpdiglfaaS3
import Derived.Test.YtoioaijpdiglfaaS4
set_option linter.unusedVariables false
set_option linter.unusedSimpArgs false
set_option maxRecDepth 10000
namespace Go.Proofs.Ytoioaijpdiglfaa.V
open Go
noncomputable def playOnM (a0 a1 : Int) (a2 a3 : Bool) (a4 a5 : List Int) (a6 a7 : Int) (hs : List (List Int)) (st hp : List Int) (tu mo pa : Int) (c : Int) : Int × Int × Bool × Bool × List Int × List Int × Int × Int × List (List Int) × List Int × List Int × Int × Int × Int × Bool :=
  if hasM (playM a0 a1 a2 a3 a4 a5 a6 a7 hs st hp tu mo pa) c = true then (a0, a1, a2, a3, a4, a5, a6, a7, hs.set tu.toNat (withoutM (hs.getD tu.toNat []) c), st, hp ++ [c], (tu + (if skipM a0 a1 a2 a3 a4 a5 a6 a7 c = true then 2 else 1)).tmod a0, mo + 1, 0, true)
  else (a0, a1, a2, a3, a4, a5, a6, a7, hs, st, hp, tu, mo, pa, false)
theorem spec_PlayOn_ok (a0 a1 : Int) (a2 a3 : Bool) (a4 a5 : List Int) (a6 a7 : Int) (hs : List (List Int)) (st hp : List Int) (tu mo pa : Int) (c : Int) (h4 : a4.length ≤ 1048576) (h5 : a5.length ≤ 1048576) (hh : G2 hs) (h9 : st.length ≤ 2097152) (h10 : hp.length ≤ 2097152) : spec_PlayOn a0 a1 a2 a3 a4 a5 a6 a7 hs st hp tu mo pa c = some (playOnM a0 a1 a2 a3 a4 a5 a6 a7 hs st hp tu mo pa c) := by
  have hpl := playM_length a0 a1 a2 a3 a4 a5 a6 a7 hs st hp tu mo pa
  rw [spec_PlayOn_eq, spec_l24Copy_ok a0 a1 a2 a3 a4 a5 a6 a7 hs st hp tu mo pa h4 h5 hh h9 h10, Option.bind_some, spec_Playable_ok a0 a1 a2 a3 a4 a5 a6 a7 hs st hp tu mo pa h4 h5 hh h9 h10, Option.bind_some, spec_HasCard_ok _ _ (by omega), Option.bind_some, playOnM]
  cases hc : hasM (playM a0 a1 a2 a3 a4 a5 a6 a7 hs st hp tu mo pa) c
  · rfl
  · obtain ⟨hg, _, _⟩ := playM_has a0 a1 a2 a3 a4 a5 a6 a7 hs st hp tu mo pa hc
    have v := gameM_valid a0 a1 a2 a3 a4 a5 a6 a7 hs st hp tu mo pa hg
    obtain ⟨v1, v2, v3, v4, v5, v6, v7, v8, v9, v10⟩ := (⟨v.p2, v.players, v.heap, v.t1, v.t2, v.all, v.p1, v.m1, v.m2, v.lim⟩ : _ ∧ _ ∧ _ ∧ _ ∧ _ ∧ _ ∧ _ ∧ _ ∧ _ ∧ _)
    have hrow := getD_le_flat hs tu.toNat
    have e := spec_Without_ok (hs.getD tu.toNat []) c (by omega)
    have w1 : IntKind.i64.wrap (tu + 1) = tu + 1 := wrap_id (by omega) (by omega)
    have w2 : IntKind.i64.wrap (tu + 2) = tu + 2 := wrap_id (by omega) (by omega)
    have w3 : IntKind.i64.wrap (mo + 1) = mo + 1 := wrap_id (by omega) (by omega)
    simp (disch := (first | omega | (simp only [List.length_append, List.length_cons, List.length_nil, List.length_take, List.length_drop, List.length_set, List.length_replicate, List.length_singleton]; omega))) only [↓if_dpos, ↓if_dneg, ↓if_epos, ↓if_eneg, ↓if_npos, ↓if_nneg, ↓if_pos, ↓if_neg, Bool.not_true, Bool.false_eq_true, if_false, e, Int.toNat_natCast, List.nil_append, Nat.zero_add, List.length_singleton, Option.bind_some, List.drop_zero, List.take_length, if_true, if_false, spec_DoesSkip_ok _ _ _ _ _ _ _ _ _ h4 h5, w1, w2, w3]
    cases skipM a0 a1 a2 a3 a4 a5 a6 a7 c <;> simp
theorem sum_set {l : List (List Int)} {i : Nat} {r : List Int} (hi : i < l.length) : (l.set i r).flatten.length + (l.getD i []).length = l.flatten.length + r.length := by
  have e : l = l.take i ++ l.getD i [] :: l.drop (i + 1) := by rw [← getD_drop hi, List.take_append_drop]
  have hk : (l.take i).length = i := by simp; omega
  have e2 : l.set i r = l.take i ++ r :: l.drop (i + 1) := by
    conv => lhs; rw [e]
    rw [List.set_append_right _ _ (by omega), hk, Nat.sub_self, List.set_cons_zero]
  have e3 : l.flatten.length = (l.take i ++ l.getD i [] :: l.drop (i + 1)).flatten.length := by rw [← e]
  rw [e2, e3]
  simp only [List.flatten_append, List.flatten_cons, List.length_append]
  omega
/-- What is taken: n times, from hands, stock and heap. -/
def takeR (tu : Nat) : Nat → Nat → List (List Int) → List Int → List Int → Nat × List (List Int) × List Int × List Int
  | 0, taken, hs, st, hp => (taken, hs, st, hp)
  | n + 1, taken, hs, st, hp =>
    if st.length = 0 then
      (if hp.length - 1 = 0 then (taken, hs, hp.take (hp.length - 1), hp.drop (hp.length - 1))
       else takeR tu n (taken + 1) (hs.set tu (hs.getD tu [] ++ [(hp.take (hp.length - 1)).getD 0 0])) ((hp.take (hp.length - 1)).drop 1) (hp.drop (hp.length - 1)))
    else takeR tu n (taken + 1) (hs.set tu (hs.getD tu [] ++ [st.getD 0 0])) (st.drop 1) hp
def passM (pa : Int) (t : Nat) : Int := if t = 0 then pa + 1 else 0
theorem passM_zero (pa : Int) : passM pa 0 = pa + 1 := rfl
theorem passM_pos {pa : Int} {t : Nat} (h : ¬ t = 0) : passM pa t = 0 := if_neg h
def takeM (a0 a1 : Int) (a2 a3 : Bool) (a4 a5 : List Int) (a6 a7 : Int) (hs : List (List Int)) (st hp : List Int) (tu mo pa : Int) : Int × Int × Bool × Bool × List Int × List Int × Int × Int × List (List Int) × List Int × List Int × Int × Int × Int × Bool :=
  if (gameM a0 a1 a2 a3 a4 a5 a6 a7 hs st hp tu mo pa && !overM a0 a7 hs mo pa) = true then
    (a0, a1, a2, a3, a4, a5, a6, a7, (takeR tu.toNat a6.toNat 0 hs st hp).2.1, (takeR tu.toNat a6.toNat 0 hs st hp).2.2.1, (takeR tu.toNat a6.toNat 0 hs st hp).2.2.2, (tu + 1).tmod a0, mo + 1, passM pa (takeR tu.toNat a6.toNat 0 hs st hp).1, true)
  else (a0, a1, a2, a3, a4, a5, a6, a7, hs, st, hp, tu, mo, pa, false)
theorem spec_TakeCards_ok (a0 a1 : Int) (a2 a3 : Bool) (a4 a5 : List Int) (a6 a7 : Int) (hs : List (List Int)) (st hp : List Int) (tu mo pa : Int) (h4 : a4.length ≤ 1048576) (h5 : a5.length ≤ 1048576) (hh : G2 hs) (h9 : st.length ≤ 2097152) (h10 : hp.length ≤ 2097152) : spec_TakeCards a0 a1 a2 a3 a4 a5 a6 a7 hs st hp tu mo pa = some (takeM a0 a1 a2 a3 a4 a5 a6 a7 hs st hp tu mo pa) := by
  rw [spec_TakeCards_eq, spec_l24Copy_ok a0 a1 a2 a3 a4 a5 a6 a7 hs st hp tu mo pa h4 h5 hh h9 h10, Option.bind_some, spec_IsGame_ok a0 a1 a2 a3 a4 a5 a6 a7 hs st hp tu mo pa h4 h5 hh h9 h10, Option.bind_some, spec_l24Over_ok a0 a1 a2 a3 a4 a5 a6 a7 hs st hp tu mo pa hh.len, Option.bind_some, takeM]
  cases hg : gameM a0 a1 a2 a3 a4 a5 a6 a7 hs st hp tu mo pa
  · rfl
  · cases ho : overM a0 a7 hs mo pa
    · have v := gameM_valid a0 a1 a2 a3 a4 a5 a6 a7 hs st hp tu mo pa hg
      obtain ⟨v1, v2, v3, v4, v5, v6, v7, v8, v9, v10⟩ := (⟨v.p2, v.players, v.heap, v.t1, v.t2, v.all, v.p1, v.m1, v.m2, v.lim⟩ : _ ∧ _ ∧ _ ∧ _ ∧ _ ∧ _ ∧ _ ∧ _ ∧ _ ∧ _)
      obtain ⟨v11, v12, v13, v14⟩ := (⟨v.take1, v.take2, v.s1, v.s2⟩ : _ ∧ _ ∧ _ ∧ _)
      have w1 : IntKind.i64.wrap (tu + 1) = tu + 1 := wrap_id (by omega) (by omega)
      have w3 : IntKind.i64.wrap (mo + 1) = mo + 1 := wrap_id (by omega) (by omega)
      have w4 : IntKind.i64.wrap (pa + 1) = pa + 1 := wrap_id (by omega) (by omega)
      have key : ∀ n : Nat, ∀ (i t : Nat) (hs' : List (List Int)) (st' hp' : List Int), i + n = a6.toNat → t ≤ i → hs'.length = hs.length → 0 < hp'.length → st'.length + hp'.length + hs'.flatten.length = 52 →
          spec_TakeCards_L6 t i a0 a1 a2 a3 a4 a5 a6 a7 hs st hp tu mo pa 0 0 false false 0 0 0 0 0 a0 a1 a2 a3 a6 a7 tu mo pa a4 a5 hs' st' hp' = some (a0, a1, a2, a3, a4, a5, a6, a7, (takeR tu.toNat n t hs' st' hp').2.1, (takeR tu.toNat n t hs' st' hp').2.2.1, (takeR tu.toNat n t hs' st' hp').2.2.2, (tu + 1).tmod a0, mo + 1, passM pa (takeR tu.toNat n t hs' st' hp').1, true) := by
        intro n
        induction n with
        | zero =>
          intro i t hs' st' hp' hi ht k1 k2 k3
          rw [spec_TakeCards_L6_eq]
          simp (disch := (first | omega | (simp only [List.length_append, List.length_cons, List.length_nil, List.length_take, List.length_drop, List.length_set, List.length_replicate, List.length_singleton]; omega))) only [↓if_dpos, ↓if_dneg, ↓if_epos, ↓if_eneg, ↓if_npos, ↓if_nneg, ↓if_pos, ↓if_neg, w1, w3, w4, takeR]
          by_cases c : t = 0
          · subst c; rw [passM_zero]; simp (disch := (first | omega | (simp only [List.length_append, List.length_cons, List.length_nil, List.length_take, List.length_drop, List.length_set, List.length_replicate, List.length_singleton]; omega))) only [↓if_dpos, ↓if_dneg, ↓if_epos, ↓if_eneg, ↓if_npos, ↓if_nneg, ↓if_pos, ↓if_neg]
          · rw [passM_pos c]; simp (disch := (first | omega | (simp only [List.length_append, List.length_cons, List.length_nil, List.length_take, List.length_drop, List.length_set, List.length_replicate, List.length_singleton]; omega))) only [↓if_dpos, ↓if_dneg, ↓if_epos, ↓if_eneg, ↓if_npos, ↓if_nneg, ↓if_pos, ↓if_neg]
        | succ n ih =>
          intro i t hs' st' hp' hi ht k1 k2 k3
          have ut : IntKind.i64.wrap ((t : Int) + 1) = ((t + 1 : Nat) : Int) := by rw [wrap_id (by omega) (by omega)]; omega
          have ui : IntKind.i64.wrap ((i : Int) + 1) = ((i + 1 : Nat) : Int) := by rw [wrap_id (by omega) (by omega)]; omega
          have uh : IntKind.i64.wrap ((hp'.length : Int) - 1) = ((hp'.length - 1 : Nat) : Int) := by rw [wrap_id (by omega) (by omega)]; omega
          have hrow := getD_le_flat hs' tu.toNat
          rw [spec_TakeCards_L6_eq, takeR]
          by_cases c1 : st'.length = 0
          · by_cases c2 : hp'.length - 1 = 0
            · simp (disch := (first | omega | (simp only [List.length_append, List.length_cons, List.length_nil, List.length_take, List.length_drop, List.length_set, List.length_replicate, List.length_singleton]; omega))) only [↓if_dpos, ↓if_dneg, ↓if_epos, ↓if_eneg, ↓if_npos, ↓if_nneg, ↓if_pos, ↓if_neg, uh, Int.toNat_natCast, List.nil_append, Nat.zero_add, List.length_singleton, Option.bind_some, List.drop_zero, List.take_length, if_true, if_false, w1, w3, w4]
              by_cases c : t = 0
              · subst c; rw [passM_zero]; simp (disch := (first | omega | (simp only [List.length_append, List.length_cons, List.length_nil, List.length_take, List.length_drop, List.length_set, List.length_replicate, List.length_singleton]; omega))) only [↓if_dpos, ↓if_dneg, ↓if_epos, ↓if_eneg, ↓if_npos, ↓if_nneg, ↓if_pos, ↓if_neg]
              · rw [passM_pos c]; simp (disch := (first | omega | (simp only [List.length_append, List.length_cons, List.length_nil, List.length_take, List.length_drop, List.length_set, List.length_replicate, List.length_singleton]; omega))) only [↓if_dpos, ↓if_dneg, ↓if_epos, ↓if_eneg, ↓if_npos, ↓if_nneg, ↓if_pos, ↓if_neg]
            · have hsum := sum_set (r := hs'.getD tu.toNat [] ++ [(hp'.take (hp'.length - 1)).getD 0 0]) (by omega : tu.toNat < hs'.length)
              rw [List.length_append, List.length_singleton] at hsum
              simp (disch := (first | omega | (simp only [List.length_append, List.length_cons, List.length_nil, List.length_take, List.length_drop, List.length_set, List.length_replicate, List.length_singleton]; omega))) only [↓if_dpos, ↓if_dneg, ↓if_epos, ↓if_eneg, ↓if_npos, ↓if_nneg, ↓if_pos, ↓if_neg, uh, Int.toNat_natCast, List.nil_append, Nat.zero_add, List.length_singleton, Option.bind_some, List.drop_zero, List.take_length, if_true, if_false, ut, ui, Nat.beq_refl, Bool.and_self, cond_true, List.set_set]
              exact ih (i + 1) (t + 1) _ _ _ (by omega) (by omega) (by simpa using k1) (by simp; omega) (by simp only [List.length_drop, List.length_take]; omega)
          · have hsum := sum_set (r := hs'.getD tu.toNat [] ++ [st'.getD 0 0]) (by omega : tu.toNat < hs'.length)
            rw [List.length_append, List.length_singleton] at hsum
            simp (disch := (first | omega | (simp only [List.length_append, List.length_cons, List.length_nil, List.length_take, List.length_drop, List.length_set, List.length_replicate, List.length_singleton]; omega))) only [↓if_dpos, ↓if_dneg, ↓if_epos, ↓if_eneg, ↓if_npos, ↓if_nneg, ↓if_pos, ↓if_neg, uh, Int.toNat_natCast, List.nil_append, Nat.zero_add, List.length_singleton, Option.bind_some, List.drop_zero, List.take_length, if_true, if_false, ut, ui, Nat.beq_refl, Bool.and_self, cond_true, List.set_set]
            exact ih (i + 1) (t + 1) _ _ _ (by omega) (by omega) (by simpa using k1) k2 (by simp only [List.length_drop]; omega)
      exact key a6.toNat 0 0 hs st hp (by omega) (Nat.le_refl _) rfl v3 v6
    · rfl
end Go.Proofs.Ytoioaijpdiglfaa.V
