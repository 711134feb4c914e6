/- Plain laws over the shapes. -/
import Derived.Test.YtoioaijpdiglfaaPDrawG
import Derived.Test.YtoioaijpdiglfaaFTakeCards
import Derived.Test.YtoioaijpdiglfaaS1
import Derived.Test.YtoioaijpdiglfaaS2
import Derived.Test.YtoioaijpdiglfaaS3
import Derived.Test.YtoioaijpdiglfaaS4
import Derived.Test.YtoioaijpdiglfaaS5
set_option linter.unusedVariables false
set_option linter.unusedSimpArgs false
set_option maxRecDepth 10000
namespace Go.Proofs.Ytoioaijpdiglfaa.V
open Go
noncomputable def moveM (a0 a1 : Int) (a2 a3 : Bool) (a4 a5 : List Int) (a6 a7 : Int) (hs : List (List Int)) (st hp : List Int) (tu mo pa : Int) (c : Int) : Int × Int × Bool × Bool × List Int × List Int × Int × Int × List (List Int) × List Int × List Int × Int × Int × Int × Bool :=
  if c = -1 then takeM a0 a1 a2 a3 a4 a5 a6 a7 hs st hp tu mo pa else playOnM a0 a1 a2 a3 a4 a5 a6 a7 hs st hp tu mo pa c
theorem impl_ReplayMove_ok (a0 a1 : Int) (a2 a3 : Bool) (a4 a5 : List Int) (a6 a7 : Int) (hs : List (List Int)) (st hp : List Int) (tu mo pa : Int) (c : Int) (h4 : a4.length ≤ 1048576) (h5 : a5.length ≤ 1048576) (hh : G2 hs) (h9 : st.length ≤ 2097152) (h10 : hp.length ≤ 2097152) : impl_ReplayMove a0 a1 a2 a3 a4 a5 a6 a7 hs st hp tu mo pa c = some (moveM a0 a1 a2 a3 a4 a5 a6 a7 hs st hp tu mo pa c) := by
  rw [impl_ReplayMove_eq, impl_TakeCards_ok a0 a1 a2 a3 a4 a5 a6 a7 hs st hp tu mo pa h4 h5 hh h9 h10, impl_PlayOn_ok a0 a1 a2 a3 a4 a5 a6 a7 hs st hp tu mo pa c h4 h5 hh h9 h10, moveM]
  by_cases e : c = -1
  · rw [if_pos (by rw [beq_iff_eq]; exact e), if_pos e]; rfl
  · rw [if_neg (by rw [beq_iff_eq]; exact e), if_neg e]; rfl
def cntStep (r : List Int) (c : Int) : List Int := if isC c = true then r.set (suitM c).toNat (IntKind.i64.wrap (r.getD (suitM c).toNat 0 + 1)) else r
def countsM (l : List Int) : List Int := l.foldl cntStep (List.replicate 4 0)
theorem cnt_foldl_len (l : List Int) : ∀ r : List Int, (l.foldl cntStep r).length = r.length := by
  induction l with
  | nil => intro r; rfl
  | cons c l ih =>
    intro r
    rw [List.foldl_cons, ih, cntStep]
    split <;> simp
theorem countsM_length (l : List Int) : (countsM l).length = 4 := by rw [countsM, cnt_foldl_len]; rfl
theorem suitM_bound {c : Int} (h : isC c = true) : 0 ≤ suitM c ∧ suitM c ≤ 3 := by
  obtain ⟨h1, h2⟩ := isC_iff.1 h
  unfold suitM
  have e := Int.tdiv_eq_ediv_of_nonneg (b := 13) h1
  rw [if_pos h, wrap_id (by omega) (by omega), e]
  omega
theorem impl_SuitCounts_ok (l : List Int) (hl : l.length ≤ 4398046511104) : impl_SuitCounts l = some (countsM l) := by
  have h : ∀ i, i ≤ l.length → impl_SuitCounts_L3 l l.length i (countsM (l.take i)) = some (countsM l) := down (by
      rw [impl_SuitCounts_L3_eq]
      simp (disch := (first | omega | (simp only [List.length_append, List.length_cons, List.length_nil, List.length_take, List.length_drop, List.length_set, List.length_replicate, List.length_singleton]; omega))) only [↓if_dpos, ↓if_dneg, ↓if_epos, ↓if_eneg, ↓if_npos, ↓if_nneg, ↓if_pos, ↓if_neg, Int.toNat_natCast, List.nil_append, Nat.zero_add, List.length_singleton, Option.bind_some, List.drop_zero, List.take_length, if_true, if_false, ]) fun i hi ih => by
    have hk := countsM_length (l.take i)
    have hil : (i : Int) < (l.length : Int) := by omega
    have hw : IntKind.i64.wrap ((i : Int) + 1) = ((i + 1 : Nat) : Int) := wrap_succ hi (by omega)
    rw [impl_SuitCounts_L3_eq]
    simp (disch := (first | omega | (simp only [List.length_append, List.length_cons, List.length_nil, List.length_take, List.length_drop, List.length_set, List.length_replicate, List.length_singleton]; omega))) only [↓if_dpos, ↓if_dneg, ↓if_epos, ↓if_eneg, ↓if_npos, ↓if_nneg, ↓if_pos, ↓if_neg, hw, Int.toNat_natCast, List.nil_append, Nat.zero_add, List.length_singleton, Option.bind_some, List.drop_zero, List.take_length, if_true, if_false, impl_SuitOf_ok, impl_IsCard_ok]
    rw [← ih]
    have e : countsM (l.take (i + 1)) = cntStep (countsM (l.take i)) (l.getD i 0) := by unfold countsM; rw [foldl_take (d := 0) hi]
    rw [e, cntStep]
    cases hc : isC (l.getD i 0)
    · rfl
    · have := suitM_bound hc
      simp (disch := (first | omega | (simp only [List.length_append, List.length_cons, List.length_nil, List.length_take, List.length_drop, List.length_set, List.length_replicate, List.length_singleton]; omega))) only [↓if_dpos, ↓if_dneg, ↓if_epos, ↓if_eneg, ↓if_npos, ↓if_nneg, ↓if_pos, ↓if_neg, if_true]
  rw [impl_SuitCounts_eq]
  simp (disch := (first | omega | (simp only [List.length_append, List.length_cons, List.length_nil, List.length_take, List.length_drop, List.length_set, List.length_replicate, List.length_singleton]; omega))) only [↓if_dpos, ↓if_dneg, ↓if_epos, ↓if_eneg, ↓if_npos, ↓if_nneg, ↓if_pos, ↓if_neg, Int.toNat_natCast, List.nil_append, Nat.zero_add, List.length_singleton, Option.bind_some, List.drop_zero, List.take_length, if_true, if_false]
  exact h 0 (Nat.zero_le _)
def bestR (cs : List Int) : List Int → Int → Int
  | [], b => b
  | c :: t, b => if cs.getD (suitM c).toNat 0 > cs.getD (suitM b).toNat 0 then bestR cs t c else bestR cs t b
theorem playM_cards (a0 a1 : Int) (a2 a3 : Bool) (a4 a5 : List Int) (a6 a7 : Int) (hs : List (List Int)) (st hp : List Int) (tu mo pa : Int) : ∀ c ∈ playM a0 a1 a2 a3 a4 a5 a6 a7 hs st hp tu mo pa, isC c = true := by
  intro c hc
  unfold playM at hc
  split at hc
  · have := (List.mem_filter.1 hc).2
    simp only [fitsM, Bool.and_eq_true] at this
    exact this.2.2.1
  · cases hc
noncomputable def choiceM (a0 a1 : Int) (a2 a3 : Bool) (a4 a5 : List Int) (a6 a7 : Int) (hs : List (List Int)) (st hp : List Int) (tu mo pa : Int) (kind : Int) : Int :=
  if (playM a0 a1 a2 a3 a4 a5 a6 a7 hs st hp tu mo pa).length = 0 then -1 else if kind = 0 then (playM a0 a1 a2 a3 a4 a5 a6 a7 hs st hp tu mo pa).getD 0 0 else if kind = 1 then (playM a0 a1 a2 a3 a4 a5 a6 a7 hs st hp tu mo pa).getD ((playM a0 a1 a2 a3 a4 a5 a6 a7 hs st hp tu mo pa).length - 1) 0 else if kind = 2 then bestR (countsM (hs.getD tu.toNat [])) (playM a0 a1 a2 a3 a4 a5 a6 a7 hs st hp tu mo pa) ((playM a0 a1 a2 a3 a4 a5 a6 a7 hs st hp tu mo pa).getD 0 0) else -1
theorem playM_valid (a0 a1 : Int) (a2 a3 : Bool) (a4 a5 : List Int) (a6 a7 : Int) (hs : List (List Int)) (st hp : List Int) (tu mo pa : Int) (h : ¬ (playM a0 a1 a2 a3 a4 a5 a6 a7 hs st hp tu mo pa).length = 0) : gameM a0 a1 a2 a3 a4 a5 a6 a7 hs st hp tu mo pa = true ∧ overM a0 a7 hs mo pa = false := by
  unfold playM at h
  split at h
  · rename_i hc
    simp only [Bool.and_eq_true, Bool.not_eq_true'] at hc; exact hc
  · exact absurd rfl h
theorem impl_ChoiceOf_ok (a0 a1 : Int) (a2 a3 : Bool) (a4 a5 : List Int) (a6 a7 : Int) (hs : List (List Int)) (st hp : List Int) (tu mo pa : Int) (kind : Int) (h4 : a4.length ≤ 1048576) (h5 : a5.length ≤ 1048576) (hh : G2 hs) (h9 : st.length ≤ 2097152) (h10 : hp.length ≤ 2097152) : impl_ChoiceOf a0 a1 a2 a3 a4 a5 a6 a7 hs st hp tu mo pa kind = some (choiceM a0 a1 a2 a3 a4 a5 a6 a7 hs st hp tu mo pa kind) := by
  have hpl := playM_length a0 a1 a2 a3 a4 a5 a6 a7 hs st hp tu mo pa
  have hcd := playM_cards a0 a1 a2 a3 a4 a5 a6 a7 hs st hp tu mo pa
  rw [impl_ChoiceOf_eq, impl_Playable_ok a0 a1 a2 a3 a4 a5 a6 a7 hs st hp tu mo pa h4 h5 hh h9 h10, Option.bind_some, choiceM]
  by_cases c0 : (playM a0 a1 a2 a3 a4 a5 a6 a7 hs st hp tu mo pa).length = 0
  · rw [if_pos (by rw [beq_iff_eq]; omega), if_pos c0]
  · obtain ⟨hg, ho⟩ := playM_valid a0 a1 a2 a3 a4 a5 a6 a7 hs st hp tu mo pa c0
    have v := gameM_valid a0 a1 a2 a3 a4 a5 a6 a7 hs st hp tu mo pa hg
    have v1 := v.t1; have v2 := v.t2; have v3 := v.players; have v4 := v.all
    have hrow := getD_le_flat hs tu.toNat
    generalize playM a0 a1 a2 a3 a4 a5 a6 a7 hs st hp tu mo pa = P at *
    rw [if_neg (by rw [beq_iff_eq]; omega), if_neg c0]
    by_cases k0 : kind = 0
    · simp (disch := (first | omega | (simp only [List.length_append, List.length_cons, List.length_nil, List.length_take, List.length_drop, List.length_set, List.length_replicate, List.length_singleton]; omega))) only [↓if_dpos, ↓if_dneg, ↓if_epos, ↓if_eneg, ↓if_npos, ↓if_nneg, ↓if_pos, ↓if_neg]
    · by_cases k1 : kind = 1
      · have w : IntKind.i64.wrap ((P.length : Int) - 1) = ((P.length - 1 : Nat) : Int) := by rw [wrap_id (by omega) (by omega)]; omega
        simp (disch := (first | omega | (simp only [List.length_append, List.length_cons, List.length_nil, List.length_take, List.length_drop, List.length_set, List.length_replicate, List.length_singleton]; omega))) only [↓if_dpos, ↓if_dneg, ↓if_epos, ↓if_eneg, ↓if_npos, ↓if_nneg, ↓if_pos, ↓if_neg, w, Int.toNat_natCast]
      · by_cases k2 : kind = 2
        · have e := impl_SuitCounts_ok (hs.getD tu.toNat []) (by omega)
          have hk := countsM_length (hs.getD tu.toNat [])
          simp (disch := (first | omega | (simp only [List.length_append, List.length_cons, List.length_nil, List.length_take, List.length_drop, List.length_set, List.length_replicate, List.length_singleton]; omega))) only [↓if_dpos, ↓if_dneg, ↓if_epos, ↓if_eneg, ↓if_npos, ↓if_nneg, ↓if_pos, ↓if_neg, e, Int.toNat_natCast, List.nil_append, Nat.zero_add, List.length_singleton, Option.bind_some, List.drop_zero, List.take_length, if_true, if_false]
          generalize countsM (hs.getD tu.toNat []) = cs at *
          have h : ∀ i, i ≤ P.length → ∀ b, isC b = true → impl_ChoiceOf_L12 b P.length i cs P = some (bestR cs (P.drop i) b) := down (by
              intro b hb
              rw [impl_ChoiceOf_L12_eq]
              simp (disch := (first | omega | (simp only [List.length_append, List.length_cons, List.length_nil, List.length_take, List.length_drop, List.length_set, List.length_replicate, List.length_singleton]; omega))) only [↓if_dpos, ↓if_dneg, ↓if_epos, ↓if_eneg, ↓if_npos, ↓if_nneg, ↓if_pos, ↓if_neg, Int.toNat_natCast, List.nil_append, Nat.zero_add, List.length_singleton, Option.bind_some, List.drop_zero, List.take_length, if_true, if_false, ]
              rw [List.drop_of_length_le (Nat.le_refl _)]; rfl) fun i hi ih b hb => by
            have hcc := hcd _ (getD_mem (d := 0) hi)
            have hs1 := suitM_bound hcc
            have hs2 := suitM_bound hb
            have hil : (i : Int) < (P.length : Int) := by omega
            have hw : IntKind.i64.wrap ((i : Int) + 1) = ((i + 1 : Nat) : Int) := wrap_succ hi (by omega)
            rw [impl_ChoiceOf_L12_eq]
            simp (disch := (first | omega | (simp only [List.length_append, List.length_cons, List.length_nil, List.length_take, List.length_drop, List.length_set, List.length_replicate, List.length_singleton]; omega))) only [↓if_dpos, ↓if_dneg, ↓if_epos, ↓if_eneg, ↓if_npos, ↓if_nneg, ↓if_pos, ↓if_neg, hw, Int.toNat_natCast, List.nil_append, Nat.zero_add, List.length_singleton, Option.bind_some, List.drop_zero, List.take_length, if_true, if_false, impl_SuitOf_ok]
            rw [getD_drop (d := 0) hi, bestR, ih _ hcc, ih _ hb]
            by_cases c : cs.getD (suitM (P.getD i 0)).toNat 0 > cs.getD (suitM b).toNat 0
            · rw [if_pos (decide_eq_true c), if_pos c]
            · rw [if_neg (by rw [decide_eq_true_eq]; exact c), if_neg c]
          exact h 0 (Nat.zero_le _) _ (hcd _ (getD_mem (by omega)))
        · simp (disch := (first | omega | (simp only [List.length_append, List.length_cons, List.length_nil, List.length_take, List.length_drop, List.length_set, List.length_replicate, List.length_singleton]; omega))) only [↓if_dpos, ↓if_dneg, ↓if_epos, ↓if_eneg, ↓if_npos, ↓if_nneg, ↓if_pos, ↓if_neg]
theorem bestR_mem (cs : List Int) : ∀ (t : List Int) (b : Int), bestR cs t b = b ∨ bestR cs t b ∈ t := by
  intro t
  induction t with
  | nil => intro b; exact .inl rfl
  | cons c t ih =>
    intro b
    rw [bestR]
    split
    · rcases ih c with e | e
      · exact .inr (by rw [e]; simp)
      · exact .inr (List.mem_cons_of_mem _ e)
    · rcases ih b with e | e
      · exact .inl e
      · exact .inr (List.mem_cons_of_mem _ e)
theorem choiceM_mem (a0 a1 : Int) (a2 a3 : Bool) (a4 a5 : List Int) (a6 a7 : Int) (hs : List (List Int)) (st hp : List Int) (tu mo pa : Int) (kind : Int) : choiceM a0 a1 a2 a3 a4 a5 a6 a7 hs st hp tu mo pa kind = -1 ∨ choiceM a0 a1 a2 a3 a4 a5 a6 a7 hs st hp tu mo pa kind ∈ playM a0 a1 a2 a3 a4 a5 a6 a7 hs st hp tu mo pa := by
  unfold choiceM
  by_cases c0 : (playM a0 a1 a2 a3 a4 a5 a6 a7 hs st hp tu mo pa).length = 0
  · rw [if_pos c0]; exact .inl rfl
  · rw [if_neg c0]
    have h0 : (playM a0 a1 a2 a3 a4 a5 a6 a7 hs st hp tu mo pa).getD 0 0 ∈ playM a0 a1 a2 a3 a4 a5 a6 a7 hs st hp tu mo pa := getD_mem (by omega)
    split
    · exact .inr h0
    · split
      · exact .inr (getD_mem (by omega))
      · split
        · rcases bestR_mem (countsM (hs.getD tu.toNat [])) (playM a0 a1 a2 a3 a4 a5 a6 a7 hs st hp tu mo pa) ((playM a0 a1 a2 a3 a4 a5 a6 a7 hs st hp tu mo pa).getD 0 0) with e | e
          · rw [e]; exact .inr h0
          · exact .inr e
        · exact .inl rfl
theorem impl_AutoMove_ok (a0 a1 : Int) (a2 a3 : Bool) (a4 a5 : List Int) (a6 a7 : Int) (hs : List (List Int)) (st hp : List Int) (tu mo pa : Int) (kind : Int) (h4 : a4.length ≤ 1048576) (h5 : a5.length ≤ 1048576) (hh : G2 hs) (h9 : st.length ≤ 2097152) (h10 : hp.length ≤ 2097152) : impl_AutoMove a0 a1 a2 a3 a4 a5 a6 a7 hs st hp tu mo pa kind = some (moveM a0 a1 a2 a3 a4 a5 a6 a7 hs st hp tu mo pa (choiceM a0 a1 a2 a3 a4 a5 a6 a7 hs st hp tu mo pa kind)) := by
  rw [impl_AutoMove_eq, impl_ChoiceOf_ok a0 a1 a2 a3 a4 a5 a6 a7 hs st hp tu mo pa kind h4 h5 hh h9 h10, Option.bind_some, impl_ReplayMove_ok a0 a1 a2 a3 a4 a5 a6 a7 hs st hp tu mo pa _ h4 h5 hh h9 h10]; rfl
def leftM (hs : List (List Int)) : List Int := hs.map valsM
theorem leftM_length (hs : List (List Int)) : (leftM hs).length = hs.length := by simp [leftM]
theorem impl_LeftPoints_ok (a0 a1 : Int) (a2 a3 : Bool) (a4 a5 : List Int) (a6 a7 : Int) (hs : List (List Int)) (st hp : List Int) (tu mo pa : Int) (hh : G2 hs) : impl_LeftPoints a0 a1 a2 a3 a4 a5 a6 a7 hs st hp tu mo pa = some (leftM hs) := by
  have hl := hh.len
  have h : ∀ i, i ≤ hs.length → impl_LeftPoints_L3 hs hs.length i (leftM (hs.take i)) = some (leftM hs) := down (by
      rw [impl_LeftPoints_L3_eq]
      simp (disch := (first | omega | (simp only [List.length_append, List.length_cons, List.length_nil, List.length_take, List.length_drop, List.length_set, List.length_replicate, List.length_singleton]; omega))) only [↓if_dpos, ↓if_dneg, ↓if_epos, ↓if_eneg, ↓if_npos, ↓if_nneg, ↓if_pos, ↓if_neg, Int.toNat_natCast, List.nil_append, Nat.zero_add, List.length_singleton, Option.bind_some, List.drop_zero, List.take_length, if_true, if_false, ]) fun i hi ih => by
    have hk : (leftM (hs.take i)).length ≤ i := by rw [leftM_length]; simp; omega
    have e := impl_values_ok (hs.getD i []) (Nat.le_trans (hh.row _ (getD_mem hi)) (by omega))
    have hil : (i : Int) < (hs.length : Int) := by omega
    have hw : IntKind.i64.wrap ((i : Int) + 1) = ((i + 1 : Nat) : Int) := wrap_succ hi (by omega)
    rw [impl_LeftPoints_L3_eq]
    simp (disch := (first | omega | (simp only [List.length_append, List.length_cons, List.length_nil, List.length_take, List.length_drop, List.length_set, List.length_replicate, List.length_singleton]; omega))) only [↓if_dpos, ↓if_dneg, ↓if_epos, ↓if_eneg, ↓if_npos, ↓if_nneg, ↓if_pos, ↓if_neg, hw, Int.toNat_natCast, List.nil_append, Nat.zero_add, List.length_singleton, Option.bind_some, List.drop_zero, List.take_length, if_true, if_false, e]
    rw [← ih]
    unfold leftM
    rw [map_take (d := []) hi]
  rw [impl_LeftPoints_eq]
  exact h 0 (Nat.zero_le _)
def negL (l : List Int) : List Int := l.map fun x => IntKind.i64.wrap (0 - x)
theorem negL_get {l : List Int} {i : Nat} (hi : i < l.length) : (negL l).getD i 0 = IntKind.i64.wrap (0 - l.getD i 0) := by
  rw [negL, List.getD_eq_getElem?_getD, List.getElem?_map, List.getElem?_eq_getElem hi, List.getD_eq_getElem?_getD, List.getElem?_eq_getElem hi]; rfl
def settledM (a0 a1 : Int) (a2 a3 : Bool) (a4 a5 : List Int) (a6 a7 : Int) (hs : List (List Int)) (st hp : List Int) (tu mo pa : Int) : List Int := if gameM a0 a1 a2 a3 a4 a5 a6 a7 hs st hp tu mo pa = true then (if fstM hs 0 < 0 then List.replicate hs.length 0 else (negL (leftM hs)).set (fstM hs 0).toNat (sumW (leftM hs))) else []
theorem fstM_lt : ∀ (l : List (List Int)) (i : Int), 0 ≤ i → fstM l i = -1 ∨ (i ≤ fstM l i ∧ fstM l i < i + (l.length : Int))
  | [], _, _ => .inl rfl
  | x :: l, i, hi => by
    rw [fstM]
    split
    · right; simp only [List.length_cons]; omega
    · have := fstM_lt l (i + 1) (by omega)
      simp only [List.length_cons]; omega
theorem impl_Settled_ok (a0 a1 : Int) (a2 a3 : Bool) (a4 a5 : List Int) (a6 a7 : Int) (hs : List (List Int)) (st hp : List Int) (tu mo pa : Int) (h4 : a4.length ≤ 1048576) (h5 : a5.length ≤ 1048576) (hh : G2 hs) (h9 : st.length ≤ 2097152) (h10 : hp.length ≤ 2097152) : impl_Settled a0 a1 a2 a3 a4 a5 a6 a7 hs st hp tu mo pa = some (settledM a0 a1 a2 a3 a4 a5 a6 a7 hs st hp tu mo pa) := by
  have hl := hh.len
  have hq := leftM_length hs
  rw [impl_Settled_eq, impl_IsGame_ok a0 a1 a2 a3 a4 a5 a6 a7 hs st hp tu mo pa h4 h5 hh h9 h10, Option.bind_some, settledM]
  cases hg : gameM a0 a1 a2 a3 a4 a5 a6 a7 hs st hp tu mo pa
  · rfl
  · rw [if_neg (by simp), impl_Winner_ok a0 a1 a2 a3 a4 a5 a6 a7 hs st hp tu mo pa h4 h5 hh h9 h10, Option.bind_some, impl_LeftPoints_ok a0 a1 a2 a3 a4 a5 a6 a7 hs st hp tu mo pa hh, Option.bind_some, winM, hg, if_pos rfl, if_pos rfl]
    by_cases hw0 : fstM hs 0 < 0
    · simp (disch := (first | omega | (simp only [List.length_append, List.length_cons, List.length_nil, List.length_take, List.length_drop, List.length_set, List.length_replicate, List.length_singleton]; omega))) only [↓if_dpos, ↓if_dneg, ↓if_epos, ↓if_eneg, ↓if_npos, ↓if_nneg, ↓if_pos, ↓if_neg, Int.toNat_natCast, List.nil_append, Nat.zero_add, List.length_singleton, Option.bind_some, List.drop_zero, List.take_length, if_true, if_false, hq, if_true]
    · have hf := (fstM_lt hs 0 (Int.le_refl _)).resolve_left (by omega)
      have h : ∀ i, i ≤ (leftM hs).length → impl_Settled_L8 (fstM hs 0) (leftM hs).length i (leftM hs) ((negL (leftM hs)).take i ++ List.replicate ((leftM hs).length - i) 0) = some ((negL (leftM hs)).set (fstM hs 0).toNat (sumW (leftM hs))) := down (by
          have hk : ((negL (leftM hs)).take (leftM hs).length ++ List.replicate ((leftM hs).length - (leftM hs).length) 0) = negL (leftM hs) := by
            rw [Nat.sub_self, List.take_of_length_le (by simp [negL])]; simp
          have hk2 : (negL (leftM hs)).length = hs.length := by simp [negL, hq]
          rw [hk]
          rw [impl_Settled_L8_eq]
          simp (disch := (first | omega | (simp only [List.length_append, List.length_cons, List.length_nil, List.length_take, List.length_drop, List.length_set, List.length_replicate, List.length_singleton]; omega))) only [↓if_dpos, ↓if_dneg, ↓if_epos, ↓if_eneg, ↓if_npos, ↓if_nneg, ↓if_pos, ↓if_neg, Int.toNat_natCast, List.nil_append, Nat.zero_add, List.length_singleton, Option.bind_some, List.drop_zero, List.take_length, if_true, if_false, impl_sum_ok _ (by omega : (leftM hs).length ≤ 4398046511104), hk2]) fun i hi ih => by
        have hk2 : (negL (leftM hs)).length = (leftM hs).length := by simp [negL]
        have hk : ((negL (leftM hs)).take i ++ List.replicate ((leftM hs).length - i) 0).length = (leftM hs).length := by simp [negL]; omega
        have hil : (i : Int) < ((leftM hs).length : Int) := by omega
        have hw : IntKind.i64.wrap ((i : Int) + 1) = ((i + 1 : Nat) : Int) := wrap_succ hi (by omega)
        rw [impl_Settled_L8_eq]
        simp (disch := (first | omega | (simp only [List.length_append, List.length_cons, List.length_nil, List.length_take, List.length_drop, List.length_set, List.length_replicate, List.length_singleton]; omega))) only [↓if_dpos, ↓if_dneg, ↓if_epos, ↓if_eneg, ↓if_npos, ↓if_nneg, ↓if_pos, ↓if_neg, hw, Int.toNat_natCast, List.nil_append, Nat.zero_add, List.length_singleton, Option.bind_some, List.drop_zero, List.take_length, if_true, if_false, hk]
        rw [← ih]
        congr 1
        have h1 : ((negL (leftM hs)).take i).length = i := by simp [negL]; omega
        have h2 : List.replicate ((leftM hs).length - i) (0 : Int) = 0 :: List.replicate ((leftM hs).length - (i + 1)) 0 := by
          rw [show (leftM hs).length - i = ((leftM hs).length - (i + 1)) + 1 by omega]; rfl
        rw [List.set_append_right _ _ (by omega), h1, Nat.sub_self, h2, List.set_cons_zero, take_succ_getD (d := 0) (by omega : i < (negL (leftM hs)).length), List.append_assoc]
        rw [negL_get hi]; rfl
      have h0 := h 0 (Nat.zero_le _)
      rw [List.take_zero, List.nil_append, Nat.sub_zero] at h0
      simp (disch := (first | omega | (simp only [List.length_append, List.length_cons, List.length_nil, List.length_take, List.length_drop, List.length_set, List.length_replicate, List.length_singleton]; omega))) only [↓if_dpos, ↓if_dneg, ↓if_epos, ↓if_eneg, ↓if_npos, ↓if_nneg, ↓if_pos, ↓if_neg, Int.toNat_natCast, List.nil_append, Nat.zero_add, List.length_singleton, Option.bind_some, List.drop_zero, List.take_length, if_true, if_false]
      exact h0
/-- What is known of a game behind a player's own move. -/
theorem auto_game (a0 a1 : Int) (a2 a3 : Bool) (a4 a5 : List Int) (a6 a7 : Int) (hs : List (List Int)) (st hp : List Int) (tu mo pa : Int) (kind : Int) (hg : gameM a0 a1 a2 a3 a4 a5 a6 a7 hs st hp tu mo pa = true) (ho : overM a0 a7 hs mo pa = false) : gameM (moveM a0 a1 a2 a3 a4 a5 a6 a7 hs st hp tu mo pa (choiceM a0 a1 a2 a3 a4 a5 a6 a7 hs st hp tu mo pa kind)).1 (moveM a0 a1 a2 a3 a4 a5 a6 a7 hs st hp tu mo pa (choiceM a0 a1 a2 a3 a4 a5 a6 a7 hs st hp tu mo pa kind)).2.1 (moveM a0 a1 a2 a3 a4 a5 a6 a7 hs st hp tu mo pa (choiceM a0 a1 a2 a3 a4 a5 a6 a7 hs st hp tu mo pa kind)).2.2.1 (moveM a0 a1 a2 a3 a4 a5 a6 a7 hs st hp tu mo pa (choiceM a0 a1 a2 a3 a4 a5 a6 a7 hs st hp tu mo pa kind)).2.2.2.1 (moveM a0 a1 a2 a3 a4 a5 a6 a7 hs st hp tu mo pa (choiceM a0 a1 a2 a3 a4 a5 a6 a7 hs st hp tu mo pa kind)).2.2.2.2.1 (moveM a0 a1 a2 a3 a4 a5 a6 a7 hs st hp tu mo pa (choiceM a0 a1 a2 a3 a4 a5 a6 a7 hs st hp tu mo pa kind)).2.2.2.2.2.1 (moveM a0 a1 a2 a3 a4 a5 a6 a7 hs st hp tu mo pa (choiceM a0 a1 a2 a3 a4 a5 a6 a7 hs st hp tu mo pa kind)).2.2.2.2.2.2.1 (moveM a0 a1 a2 a3 a4 a5 a6 a7 hs st hp tu mo pa (choiceM a0 a1 a2 a3 a4 a5 a6 a7 hs st hp tu mo pa kind)).2.2.2.2.2.2.2.1 (moveM a0 a1 a2 a3 a4 a5 a6 a7 hs st hp tu mo pa (choiceM a0 a1 a2 a3 a4 a5 a6 a7 hs st hp tu mo pa kind)).2.2.2.2.2.2.2.2.1 (moveM a0 a1 a2 a3 a4 a5 a6 a7 hs st hp tu mo pa (choiceM a0 a1 a2 a3 a4 a5 a6 a7 hs st hp tu mo pa kind)).2.2.2.2.2.2.2.2.2.1 (moveM a0 a1 a2 a3 a4 a5 a6 a7 hs st hp tu mo pa (choiceM a0 a1 a2 a3 a4 a5 a6 a7 hs st hp tu mo pa kind)).2.2.2.2.2.2.2.2.2.2.1 (moveM a0 a1 a2 a3 a4 a5 a6 a7 hs st hp tu mo pa (choiceM a0 a1 a2 a3 a4 a5 a6 a7 hs st hp tu mo pa kind)).2.2.2.2.2.2.2.2.2.2.2.1 (moveM a0 a1 a2 a3 a4 a5 a6 a7 hs st hp tu mo pa (choiceM a0 a1 a2 a3 a4 a5 a6 a7 hs st hp tu mo pa kind)).2.2.2.2.2.2.2.2.2.2.2.2.1 (moveM a0 a1 a2 a3 a4 a5 a6 a7 hs st hp tu mo pa (choiceM a0 a1 a2 a3 a4 a5 a6 a7 hs st hp tu mo pa kind)).2.2.2.2.2.2.2.2.2.2.2.2.2.1 = true ∧ (moveM a0 a1 a2 a3 a4 a5 a6 a7 hs st hp tu mo pa (choiceM a0 a1 a2 a3 a4 a5 a6 a7 hs st hp tu mo pa kind)).2.2.2.2.2.2.2.2.2.2.2.2.1 = mo + 1 ∧ (moveM a0 a1 a2 a3 a4 a5 a6 a7 hs st hp tu mo pa (choiceM a0 a1 a2 a3 a4 a5 a6 a7 hs st hp tu mo pa kind)).2.2.2.2.2.2.2.1 = a7 ∧ (moveM a0 a1 a2 a3 a4 a5 a6 a7 hs st hp tu mo pa (choiceM a0 a1 a2 a3 a4 a5 a6 a7 hs st hp tu mo pa kind)).2.2.2.2.1 = a4 ∧ (moveM a0 a1 a2 a3 a4 a5 a6 a7 hs st hp tu mo pa (choiceM a0 a1 a2 a3 a4 a5 a6 a7 hs st hp tu mo pa kind)).2.2.2.2.2.1 = a5 := by
  unfold moveM
  rcases choiceM_mem a0 a1 a2 a3 a4 a5 a6 a7 hs st hp tu mo pa kind with e | e
  · rw [if_pos e]
    obtain ⟨f1, f2, _⟩ := take_facts a0 a1 a2 a3 a4 a5 a6 a7 hs st hp tu mo pa hg ho
    refine ⟨f1, f2, ?_, ?_, ?_⟩ <;> · unfold takeM; split <;> rfl
  · have hc := (isC_iff.1 (playM_cards a0 a1 a2 a3 a4 a5 a6 a7 hs st hp tu mo pa _ e)).1
    have hm : hasM (playM a0 a1 a2 a3 a4 a5 a6 a7 hs st hp tu mo pa) (choiceM a0 a1 a2 a3 a4 a5 a6 a7 hs st hp tu mo pa kind) = true := by simp [hasM, e]
    rw [if_neg (by omega)]
    obtain ⟨f1, f2, _⟩ := play_facts a0 a1 a2 a3 a4 a5 a6 a7 hs st hp tu mo pa hm
    refine ⟨f1, f2, ?_, ?_, ?_⟩ <;> · unfold playOnM; split <;> rfl
theorem l26Kinds_tot {c : List Int × Int × Int} (hc : Cur c) : Tot (spec_l26Kinds c) (fun r => Cur r.2 ∧ r.1.length ≤ 10) := by
  rw [spec_l26Kinds_eq]
  refine Tot.bind (l1Below_tot hc _) fun t ⟨ht, t1, t2, _⟩ => ?_
  have t2 := t2 (by decide)
  have key : ∀ i : Nat, i ≤ 7 → ∀ (b0 : List Int) (b1 b2 : Int) (r : List Int), Cur (b0, b1, b2) → r.length + i ≤ 10 → Tot (spec_l26Kinds_L3 (i : Int) b0 b1 b2 r) (fun r => Cur r.2 ∧ r.1.length ≤ 10) := by
    intro i
    induction i with
    | zero =>
      intro _ b0 b1 b2 r hb hr
      rw [spec_l26Kinds_L3_eq, if_dneg (by omega)]
      exact Tot.ret ⟨hb, by show r.length ≤ 10; omega⟩
    | succ i ih =>
      intro hi b0 b1 b2 r hb hr
      rw [spec_l26Kinds_L3_eq, if_dpos (by omega)]
      refine Tot.bind (l1Below_tot hb _) fun s ⟨hs, _⟩ => Tot.guard (by rw [List.length_singleton]; omega) ?_
      rw [wrap_id (by omega) (by omega), show ((i + 1 : Nat) : Int) - 1 = (i : Int) by omega]
      exact ih (by omega) _ _ _ _ hs (by rw [List.length_append, List.length_singleton]; omega)
  have := key t.1.toNat (by omega) t.2.1 t.2.2.1 t.2.2.2 [] ht (by rw [List.length_nil]; omega)
  rw [show ((t.1.toNat : Nat) : Int) = t.1 by omega] at this
  exact this
theorem valM_small (c : Int) : 0 ≤ valM c ∧ valM c ≤ 10 := by
  unfold valM
  split
  · omega
  · split
    · rw [wrap_id (by omega) (by omega)]; omega
    · split <;> omega
theorem valsM_small (l : List Int) (hl : l.length ≤ 1000) : 0 ≤ valsM l ∧ valsM l ≤ 10 * (l.length : Int) := by
  have key : ∀ (l : List Int) (n : Int), 0 ≤ n → n + 10 * (l.length : Int) ≤ 1000000 → 0 ≤ l.foldl (fun n c => IntKind.i64.wrap (n + valM c)) n ∧ l.foldl (fun n c => IntKind.i64.wrap (n + valM c)) n ≤ n + 10 * (l.length : Int) := by
    intro l
    induction l with
    | nil => intro n h1 h2; simp; exact h1
    | cons c l ih =>
      intro n h1 h2
      have hv := valM_small c
      rw [List.length_cons] at h2 ⊢
      rw [List.foldl_cons, wrap_id (by omega) (by omega)]
      have := ih (n + valM c) (by omega) (by omega)
      omega
  have := key l 0 (by omega) (by omega)
  rw [valsM]; omega
/-- The sum of few small numbers. -/
theorem sumW_sum (l : List Int) (hl : l.length ≤ 1000) (hb : ∀ x ∈ l, -1000000 ≤ x ∧ x ≤ 1000000) : sumW l = l.sum ∧ -(1000000 * (l.length : Int)) ≤ l.sum ∧ l.sum ≤ 1000000 * (l.length : Int) := by
  have key : ∀ (l : List Int) (n : Int) (k : Nat), (∀ x ∈ l, -1000000 ≤ x ∧ x ≤ 1000000) → -(1000000 * (k : Int)) ≤ n ∧ n ≤ 1000000 * (k : Int) → k + l.length ≤ 1000 → l.foldl (fun n x => IntKind.i64.wrap (n + x)) n = n + l.sum ∧ -(1000000 * ((k + l.length : Nat) : Int)) ≤ n + l.sum ∧ n + l.sum ≤ 1000000 * ((k + l.length : Nat) : Int) := by
    intro l
    induction l with
    | nil => intro n k _ h _; simp; exact h
    | cons c l ih =>
      intro n k h1 h2 h3
      have hc := h1 c List.mem_cons_self
      rw [List.length_cons] at h3 ⊢
      rw [List.foldl_cons, wrap_id (by omega) (by omega), List.sum_cons]
      have := ih (n + c) (k + 1) (fun x hx => h1 x (List.mem_cons_of_mem _ hx)) (by omega) (by omega)
      rw [show k + 1 + l.length = k + (l.length + 1) by omega] at this
      refine ⟨by rw [this.1]; omega, by omega, by omega⟩
  have := key l 0 0 hb (by omega) (by omega)
  rw [sumW]
  simp only [Int.zero_add, Nat.zero_add] at this
  exact this
theorem sum_setI : ∀ (l : List Int) (i : Nat) (v : Int), i < l.length → (l.set i v).sum + l.getD i 0 = l.sum + v
  | [], i, v, h => by simp at h
  | x :: l, 0, v, h => by rw [List.set_cons_zero, List.sum_cons, List.sum_cons, List.getD_cons_zero]; omega
  | x :: l, i + 1, v, h => by
    have := sum_setI l i v (by simpa using h)
    rw [List.set_cons_succ, List.sum_cons, List.sum_cons, List.getD_cons_succ]; omega
theorem negL_sum : ∀ (l : List Int), (∀ x ∈ l, -1000000 ≤ x ∧ x ≤ 1000000) → (negL l).sum = - l.sum ∧ ∀ x ∈ negL l, -1000000 ≤ x ∧ x ≤ 1000000
  | [], _ => ⟨rfl, fun x hx => by cases hx⟩
  | x :: l, h => by
    have hx := h x List.mem_cons_self
    obtain ⟨h1, h2⟩ := negL_sum l fun y hy => h y (List.mem_cons_of_mem _ hy)
    have e : negL (x :: l) = (0 - x) :: negL l := by
      show IntKind.i64.wrap (0 - x) :: negL l = _
      rw [wrap_id (by omega) (by omega)]
    rw [e, List.sum_cons, List.sum_cons, h1]
    refine ⟨by omega, fun y hy => ?_⟩
    rcases List.mem_cons.1 hy with e2 | e2
    · omega
    · exact h2 y e2
theorem sum_nonneg : ∀ (l : List Int), (∀ x ∈ l, 0 ≤ x) → 0 ≤ l.sum
  | [], _ => Int.le_refl _
  | x :: l, h => by
    have := h x List.mem_cons_self
    have := sum_nonneg l fun y hy => h y (List.mem_cons_of_mem _ hy)
    rw [List.sum_cons]; omega
theorem negL_len (l : List Int) : (negL l).length = l.length := by simp [negL]
theorem leftM_small {n : Nat} {a4 a5 : List Int} {hs : List (List Int)} {st hp : List Int} (h : Sm n a4 a5 hs st hp) (hn : n ≤ 1000) : ∀ x ∈ leftM hs, 0 ≤ x ∧ x ≤ 10000 := fun x hx => by
  obtain ⟨r, hr, rfl⟩ := List.mem_map.1 hx
  have h1 := row_le_flat hr
  have h2 := h.2.2.2
  have := valsM_small r (by omega)
  omega
theorem leftM_get (hs : List (List Int)) (i : Nat) : (leftM hs).getD i 0 = valsM (hs.getD i []) := by
  unfold leftM
  by_cases h : i < hs.length
  · rw [List.getD_eq_getElem?_getD, List.getElem?_map, List.getElem?_eq_getElem h, List.getD_eq_getElem?_getD, List.getElem?_eq_getElem h]; rfl
  · rw [List.getD_eq_getElem?_getD, List.getElem?_map, List.getElem?_eq_none (by omega), List.getD_eq_getElem?_getD, List.getElem?_eq_none (by omega)]; rfl
/-- What all get adds up to nothing; who wins gets something. -/
theorem settled_facts (a0 a1 : Int) (a2 a3 : Bool) (a4 a5 : List Int) (a6 a7 : Int) (hs : List (List Int)) (st hp : List Int) (tu mo pa : Int) (sm : Sm 60 a4 a5 hs st hp) : sumW (settledM a0 a1 a2 a3 a4 a5 a6 a7 hs st hp tu mo pa) = 0 ∧ (settledM a0 a1 a2 a3 a4 a5 a6 a7 hs st hp tu mo pa).length = (if gameM a0 a1 a2 a3 a4 a5 a6 a7 hs st hp tu mo pa = true then hs.length else 0) ∧ (0 ≤ winM a0 a1 a2 a3 a4 a5 a6 a7 hs st hp tu mo pa → 0 ≤ (settledM a0 a1 a2 a3 a4 a5 a6 a7 hs st hp tu mo pa).getD (winM a0 a1 a2 a3 a4 a5 a6 a7 hs st hp tu mo pa).toNat 0 ∧ (leftM hs).getD (winM a0 a1 a2 a3 a4 a5 a6 a7 hs st hp tu mo pa).toNat 0 = 0) := by
  have hl := leftM_length hs
  have hsm := leftM_small sm (by omega)
  have h6 := sm.2.2.1
  have hb : ∀ x ∈ leftM hs, -1000000 ≤ x ∧ x ≤ 1000000 := fun x hx => by have := hsm x hx; omega
  unfold settledM
  cases hg : gameM a0 a1 a2 a3 a4 a5 a6 a7 hs st hp tu mo pa with
  | false =>
    rw [if_neg (by decide), if_neg (by decide)]
    refine ⟨rfl, rfl, fun h => ?_⟩
    rw [winM, hg, if_neg (by decide)] at h; omega
  | true =>
    rw [if_pos rfl, if_pos rfl]
    have hw : winM a0 a1 a2 a3 a4 a5 a6 a7 hs st hp tu mo pa = fstM hs 0 := by rw [winM, hg, if_pos rfl]
    rw [hw]
    by_cases c : fstM hs 0 < 0
    · rw [if_pos c]
      have hz : ∀ x ∈ List.replicate hs.length (0 : Int), -1000000 ≤ x ∧ x ≤ 1000000 := fun x hx => by have := (List.mem_replicate.1 hx).2; omega
      obtain ⟨s1, _⟩ := sumW_sum (List.replicate hs.length 0) (by rw [List.length_replicate]; omega) hz
      refine ⟨?_, List.length_replicate, fun h => by omega⟩
      rw [s1]
      have : ∀ n : Nat, (List.replicate n (0 : Int)).sum = 0 := by
        intro n
        induction n with
        | zero => rfl
        | succ n ih => rw [List.replicate_succ, List.sum_cons, ih]; rfl
      exact this _
    · rw [if_neg c]
      obtain ⟨w1, w2, w3, w4⟩ := win_facts a0 a1 a2 a3 a4 a5 a6 a7 hs st hp tu mo pa (by rw [hw]; omega)
      rw [hw] at w2 w3
      have hi : (fstM hs 0).toNat < (negL (leftM hs)).length := by rw [negL_len, hl]; omega
      obtain ⟨s1, s2, s3⟩ := sumW_sum (leftM hs) (by omega) hb
      obtain ⟨n1, n2⟩ := negL_sum (leftM hs) hb
      have hz : (leftM hs).getD (fstM hs 0).toNat 0 = 0 := by
        rw [leftM_get, List.length_eq_zero_iff.1 w3]; rfl
      have hn0 := sum_nonneg (leftM hs) fun x hx => (hsm x hx).1
      have hup : (leftM hs).sum ≤ 1000000 := by
        have : ∀ l : List Int, (∀ x ∈ l, x ≤ 10000) → l.sum ≤ 10000 * (l.length : Int) := by
          intro l
          induction l with
          | nil => intro _; simp
          | cons y l ih =>
            intro h
            have := h y List.mem_cons_self
            have := ih fun z hz => h z (List.mem_cons_of_mem _ hz)
            rw [List.sum_cons, List.length_cons]; omega
        have := this (leftM hs) fun x hx => (hsm x hx).2
        omega
      have hset := sum_setI (negL (leftM hs)) (fstM hs 0).toNat (sumW (leftM hs)) hi
      have hz2 : (negL (leftM hs)).getD (fstM hs 0).toNat 0 = 0 := by
        rw [negL_get (by rw [hl]; omega), hz]; rfl
      have hb2 : ∀ x ∈ (negL (leftM hs)).set (fstM hs 0).toNat (sumW (leftM hs)), -1000000 ≤ x ∧ x ≤ 1000000 := fun x hx => by
        rcases List.mem_or_eq_of_mem_set hx with e | e
        · exact n2 x e
        · omega
      obtain ⟨t1, _⟩ := sumW_sum _ (by rw [List.length_set, negL_len]; omega) hb2
      refine ⟨by rw [t1]; omega, by rw [List.length_set, negL_len, hl], fun _ => ⟨?_, hz⟩⟩
      rw [List.getD_eq_getElem?_getD, List.getElem?_set_self hi]
      show 0 ≤ sumW (leftM hs)
      omega
theorem auto_players (a0 a1 : Int) (a2 a3 : Bool) (a4 a5 : List Int) (a6 a7 : Int) (hs : List (List Int)) (st hp : List Int) (tu mo pa : Int) (kind : Int) : (moveM a0 a1 a2 a3 a4 a5 a6 a7 hs st hp tu mo pa (choiceM a0 a1 a2 a3 a4 a5 a6 a7 hs st hp tu mo pa kind)).1 = a0 := by
  unfold moveM
  split
  · unfold takeM; split <;> rfl
  · unfold playOnM; split <;> rfl
theorem fullI_is : ∀ i : Nat, i ≤ 52 → impl_Missing_L3 [] (i : Int) (cards52 i) = some (cards52 52) := down (by
    rw [impl_Missing_L3_eq, if_dneg (by omega)]) fun i hi ih => by
  have hh : impl_HasCard [] (i : Int) = some false := by rw [impl_HasCard_ok _ _ (Nat.zero_le _)]; rfl
  have hl := cards52_length i
  rw [impl_Missing_L3_eq, if_dpos (by omega), hh, Option.bind_some, if_pos (by decide), if_pos (by rw [hl, List.length_singleton]; omega), wrap_succ hi (by omega), ← cards52_succ]
  exact ih
theorem fullI_ex : ∃ D : List Int, impl_FullDeck = some D ∧ D.length = 52 ∧ handM D = true := by
  refine ⟨cards52 52, ?_, cards52_length 52, full_hand⟩
  rw [impl_FullDeck_eq, impl_Missing_eq]
  have h := fullI_is 0 (by omega)
  have h : impl_Missing_L3 [] 0 [] = some (cards52 52) := h
  rw [h]; rfl
theorem shufI_ex {D : List Int} (h1 : D.length = 52) (h2 : handM D = true) (s : Int) : ∃ E : List Int, impl_Shuffled D s = some E ∧ E.length = 52 ∧ handM E = true := by
  have hp := shuffledM_perm s (l := D) (by omega)
  exact ⟨_, impl_Shuffled_ok _ _ (by omega), by rw [hp.length_eq]; exact h1, by rw [handM_perm hp]; exact h2⟩
theorem impl_PlayOut_ex (a0 a1 : Int) (a2 a3 : Bool) (a4 a5 : List Int) (a6 a7 : Int) (hs : List (List Int)) (st hp : List Int) (tu mo pa : Int) (k : List Int) (hg : gameM a0 a1 a2 a3 a4 a5 a6 a7 hs st hp tu mo pa = true) (h4 : a4.length ≤ 1000) (h5 : a5.length ≤ 1000) : ∃ r, impl_PlayOut a0 a1 a2 a3 a4 a5 a6 a7 hs st hp tu mo pa k = some r ∧ gameM r.1 r.2.1 r.2.2.1 r.2.2.2.1 r.2.2.2.2.1 r.2.2.2.2.2.1 r.2.2.2.2.2.2.1 r.2.2.2.2.2.2.2.1 r.2.2.2.2.2.2.2.2.1 r.2.2.2.2.2.2.2.2.2.1 r.2.2.2.2.2.2.2.2.2.2.1 r.2.2.2.2.2.2.2.2.2.2.2.1 r.2.2.2.2.2.2.2.2.2.2.2.2.1 r.2.2.2.2.2.2.2.2.2.2.2.2.2 = true ∧ r.1 = a0 ∧ r.2.2.2.2.1.length ≤ 1000 ∧ r.2.2.2.2.2.1.length ≤ 1000 := by
  have key : ∀ d : Nat, ∀ (a1 : Int) (a2 a3 : Bool) (a4 a5 : List Int) (a6 a7 : Int) (hs : List (List Int)) (st hp : List Int) (tu mo pa : Int), gameM a0 a1 a2 a3 a4 a5 a6 a7 hs st hp tu mo pa = true → a4.length ≤ 1000 → a5.length ≤ 1000 → a7 - mo ≤ (d : Int) → ∃ r, impl_PlayOut_L2 k 0 0 false false 0 0 0 0 0 a0 a1 a2 a3 a6 a7 tu mo pa a4 a5 hs st hp = some r ∧ gameM r.1 r.2.1 r.2.2.1 r.2.2.2.1 r.2.2.2.2.1 r.2.2.2.2.2.1 r.2.2.2.2.2.2.1 r.2.2.2.2.2.2.2.1 r.2.2.2.2.2.2.2.2.1 r.2.2.2.2.2.2.2.2.2.1 r.2.2.2.2.2.2.2.2.2.2.1 r.2.2.2.2.2.2.2.2.2.2.2.1 r.2.2.2.2.2.2.2.2.2.2.2.2.1 r.2.2.2.2.2.2.2.2.2.2.2.2.2 = true ∧ r.1 = a0 ∧ r.2.2.2.2.1.length ≤ 1000 ∧ r.2.2.2.2.2.1.length ≤ 1000 := by
    intro d
    induction d with
    | zero =>
      intro a1 a2 a3 a4 a5 a6 a7 hs st hp tu mo pa hg h4 h5 hd
      have sm := game_small a0 a1 a2 a3 a4 a5 a6 a7 hs st hp tu mo pa hg h4 h5
      obtain ⟨_, _, _, _, k5, _⟩ := (gameM_iff a0 a1 a2 a3 a4 a5 a6 a7 hs st hp tu mo pa).1 hg
      have ho : overM a0 a7 hs mo pa = true := by rw [overM, show (mo == a7) = true by rw [beq_iff_eq]; omega]; simp
      rw [impl_PlayOut_L2_eq, impl_IsGame_ok a0 a1 a2 a3 a4 a5 a6 a7 hs st hp tu mo pa (by have := sm.1; omega) (by have := sm.2.1; omega) (sm.g2 (by omega)) (by have := sm.2.2.2; omega) (by have := sm.2.2.2; omega), Option.bind_some, hg, if_pos rfl, impl_IsEnded_ok a0 a1 a2 a3 a4 a5 a6 a7 hs st hp tu mo pa (by have := sm.1; omega) (by have := sm.2.1; omega) (sm.g2 (by omega)) (by have := sm.2.2.2; omega) (by have := sm.2.2.2; omega), Option.bind_some, endM, hg, ho, if_neg (by decide)]
      exact ⟨_, rfl, hg, rfl, h4, h5⟩
    | succ d ih =>
      intro a1 a2 a3 a4 a5 a6 a7 hs st hp tu mo pa hg h4 h5 hd
      have sm := game_small a0 a1 a2 a3 a4 a5 a6 a7 hs st hp tu mo pa hg h4 h5
      obtain ⟨_, _, _, k4, k5, _⟩ := (gameM_iff a0 a1 a2 a3 a4 a5 a6 a7 hs st hp tu mo pa).1 hg
      rw [impl_PlayOut_L2_eq, impl_IsGame_ok a0 a1 a2 a3 a4 a5 a6 a7 hs st hp tu mo pa (by have := sm.1; omega) (by have := sm.2.1; omega) (sm.g2 (by omega)) (by have := sm.2.2.2; omega) (by have := sm.2.2.2; omega), Option.bind_some, hg, if_pos rfl, impl_IsEnded_ok a0 a1 a2 a3 a4 a5 a6 a7 hs st hp tu mo pa (by have := sm.1; omega) (by have := sm.2.1; omega) (sm.g2 (by omega)) (by have := sm.2.2.2; omega) (by have := sm.2.2.2; omega), Option.bind_some, endM, hg, Bool.true_and]
      cases ho : overM a0 a7 hs mo pa with
      | true => rw [if_neg (by decide)]; exact ⟨_, rfl, hg, rfl, h4, h5⟩
      | false =>
        rw [if_pos (by decide)]
        have go : ∀ kind : Int, ∃ r, ((impl_AutoMove a0 a1 a2 a3 a4 a5 a6 a7 hs st hp tu mo pa kind).bind fun c4 => (impl_PlayOut_L2 k 0 0 false false 0 0 0 0 0 c4.1 c4.2.1 c4.2.2.1 c4.2.2.2.1 c4.2.2.2.2.2.2.1 c4.2.2.2.2.2.2.2.1 c4.2.2.2.2.2.2.2.2.2.2.2.1 c4.2.2.2.2.2.2.2.2.2.2.2.2.1 c4.2.2.2.2.2.2.2.2.2.2.2.2.2.1 c4.2.2.2.2.1 c4.2.2.2.2.2.1 c4.2.2.2.2.2.2.2.2.1 c4.2.2.2.2.2.2.2.2.2.1 c4.2.2.2.2.2.2.2.2.2.2.1)) = some r ∧ gameM r.1 r.2.1 r.2.2.1 r.2.2.2.1 r.2.2.2.2.1 r.2.2.2.2.2.1 r.2.2.2.2.2.2.1 r.2.2.2.2.2.2.2.1 r.2.2.2.2.2.2.2.2.1 r.2.2.2.2.2.2.2.2.2.1 r.2.2.2.2.2.2.2.2.2.2.1 r.2.2.2.2.2.2.2.2.2.2.2.1 r.2.2.2.2.2.2.2.2.2.2.2.2.1 r.2.2.2.2.2.2.2.2.2.2.2.2.2 = true ∧ r.1 = a0 ∧ r.2.2.2.2.1.length ≤ 1000 ∧ r.2.2.2.2.2.1.length ≤ 1000 := fun kind => by
          obtain ⟨g1, g2, g3, g4, g5⟩ := auto_game a0 a1 a2 a3 a4 a5 a6 a7 hs st hp tu mo pa kind hg ho
          have g0 := auto_players a0 a1 a2 a3 a4 a5 a6 a7 hs st hp tu mo pa kind
          rw [impl_AutoMove_ok a0 a1 a2 a3 a4 a5 a6 a7 hs st hp tu mo pa kind (by have := sm.1; omega) (by have := sm.2.1; omega) (sm.g2 (by omega)) (by have := sm.2.2.2; omega) (by have := sm.2.2.2; omega), Option.bind_some]
          rw [g0] at g1 ⊢
          exact ih _ _ _ _ _ _ _ _ _ _ _ _ _ g1 (by rw [g4]; exact h4) (by rw [g5]; exact h5) (by rw [g2, g3]; omega)
        rw [impl_kindAt_eq]
        by_cases ht : tu < (k.length : Int)
        · rw [if_dpos ht, if_pos k4.1, if_pos ht, Option.bind_some]; exact go _
        · rw [if_dneg ht, Option.bind_some]; exact go _
  have sm := game_small a0 a1 a2 a3 a4 a5 a6 a7 hs st hp tu mo pa hg h4 h5
  obtain ⟨_, _, _, _, k5, _⟩ := (gameM_iff a0 a1 a2 a3 a4 a5 a6 a7 hs st hp tu mo pa).1 hg
  rw [impl_PlayOut_eq, impl_Game_copied_ok a0 a1 a2 a3 a4 a5 a6 a7 hs st hp tu mo pa (by have := sm.1; omega) (by have := sm.2.1; omega) (sm.g2 (by omega)) (by have := sm.2.2.2; omega) (by have := sm.2.2.2; omega), Option.bind_some]
  exact key (a7 - mo).toNat _ _ _ _ _ _ _ _ _ _ _ _ _ hg h4 h5 (by show a7 - mo ≤ ((a7 - mo).toNat : Int); omega)
def seatsM (p k : Nat) : List Int := (List.range p).map fun (i : Nat) => (((i + k) % p : Nat) : Int)
theorem seatsM_length (p k : Nat) : (seatsM p k).length = p := by simp [seatsM]
theorem seatsM_get {p k i : Nat} (h : i < p) : (seatsM p k).getD i 0 = (((i + k) % p : Nat) : Int) := by
  rw [List.getD_eq_getElem?_getD, seatsM, List.getElem?_map, List.getElem?_range h]; rfl
theorem seats_apart {p k i j : Nat} (hi : i < p) (hj : j < p) (h : (i + k) % p = (j + k) % p) : i = j := by
  have e1 := Nat.mod_add_div (i + k) p
  have e2 := Nat.mod_add_div (j + k) p
  rw [h] at e1
  by_cases c : (i + k) / p = (j + k) / p
  · rw [c] at e1; omega
  · exfalso
    rcases Nat.lt_or_gt_of_ne c with d | d
    · have := Nat.mul_le_mul_left p (Nat.succ_le_of_lt d)
      rw [Nat.mul_succ] at this; omega
    · have := Nat.mul_le_mul_left p (Nat.succ_le_of_lt d)
      rw [Nat.mul_succ] at this; omega
theorem impl_SeatsFor_ok (p k : Int) : impl_SeatsFor p k = some (if inR p 2 6 && inR k 0 1000 then seatsM p.toNat k.toNat else []) := by
  rw [impl_SeatsFor_eq, impl_InRange_ok, Option.bind_some]
  cases h1 : inR p 2 6
  · rfl
  rw [if_neg (by decide), impl_InRange_ok, Option.bind_some]
  cases h2 : inR k 0 1000
  · rfl
  rw [if_neg (by decide)]
  have k1 := inR_iff.1 h1
  have k2 := inR_iff.1 h2
  obtain ⟨p, rfl⟩ : ∃ q : Nat, p = (q : Int) := ⟨p.toNat, by omega⟩
  obtain ⟨k, rfl⟩ : ∃ q : Nat, k = (q : Int) := ⟨k.toNat, by omega⟩
  rw [Int.toNat_natCast, Int.toNat_natCast]
  have key : ∀ i : Nat, i ≤ p → impl_SeatsFor_L5 (p : Int) (k : Int) (p : Int) (i : Int) ((seatsM p k).take i) = some (seatsM p k) := down (by
      rw [impl_SeatsFor_L5_eq, if_dneg (by omega), List.take_of_length_le (by rw [seatsM_length]; omega)]) fun i hi ih => by
    have hlen := seatsM_length p k
    have w1 : IntKind.i64.wrap ((i : Int) + (k : Int)) = ((i + k : Nat) : Int) := by rw [wrap_id (by omega) (by omega)]; omega
    have ht : ((i + k : Nat) : Int).tmod (p : Int) = (((i + k) % p : Nat) : Int) := rfl
    rw [impl_SeatsFor_L5_eq, if_dpos (by omega), if_neg (by omega), w1, ht, if_pos (by rw [List.length_take, List.length_singleton]; omega), wrap_succ hi (by omega), ← seatsM_get hi, ← take_succ_getD (by omega)]
    exact ih
  exact key 0 (Nat.zero_le _)
theorem newGame_flag (a0 a1 : Int) (a2 a3 : Bool) (a4 a5 : List Int) (a6 a7 : Int) (deck : List Int) (h4 : a4.length ≤ 1000) (h5 : a5.length ≤ 1000) (hd : deck.length ≤ 1000) (hr : rulesM a0 a1 a2 a3 a4 a5 a6 a7 = true) (hl : deck.length = 52) (hh : handM deck = true) (g) (e : impl_NewGame a0 a1 a2 a3 a4 a5 a6 a7 deck = some g) : g.2.2.2.2.2.2.2.2.2.2.2.2.2.2 = true ∧ g.1 = a0 := by
  have k := hr
  simp only [rulesM, Bool.and_eq_true, inR_iff] at k
  obtain ⟨k1, k2, _⟩ := k
  have j1 : inR a0 1 6 = true := inR_iff.2 (by omega)
  have j2 : inR a1 0 20 = true := inR_iff.2 (by omega)
  have hpe : a0.toNat * a1.toNat ≤ 48 := Nat.mul_le_mul (by omega : a0.toNat ≤ 6) (by omega : a1.toNat ≤ 8)
  have hpi : a0 * a1 = ((a0.toNat * a1.toNat : Nat) : Int) := by
    rw [Int.natCast_mul, Int.toNat_of_nonneg (by omega), Int.toNat_of_nonneg (by omega)]
  have ed : dealtM deck a0 a1 = (handsN deck a0.toNat a1.toNat, deck.drop (a0.toNat * a1.toNat), true) := by
    rw [dealtM, if_pos ⟨hh, j1, j2, by omega⟩]
  have hlen : (deck.drop (a0.toNat * a1.toNat)).length = 52 - a0.toNat * a1.toNat := by rw [List.length_drop, hl]
  rw [impl_NewGame_eq, impl_IsRules_ok _ _ _ _ _ _ _ _ (by omega) (by omega), Option.bind_some, hr, if_neg (by decide), impl_IsHand_ok _ (by omega), Option.bind_some, hh, if_neg (by decide), if_nneg (by omega), impl_Dealt_ok _ _ _ (by omega), Option.bind_some, impl_Rules_copied_ok _ _ _ _ _ _ _ _ (by omega) (by omega), Option.bind_some, ed] at e
  dsimp only at e
  rw [if_pos (by omega), impl_copyOf_ok _ (by rw [List.length_drop, List.length_take]; omega), Option.bind_some, if_pos (by omega)] at e
  injection e with e
  subst e
  exact ⟨rfl, rfl⟩
theorem left_sum : ∀ (hs : List (List Int)), hs.flatten.length ≤ 1000 → (leftM hs).sum ≤ 10 * (hs.flatten.length : Int)
  | [], _ => Int.le_refl _
  | r :: hs, h => by
    rw [List.flatten_cons, List.length_append] at h ⊢
    have h1 := left_sum hs (by omega)
    have h2 := valsM_small r (by omega)
    show (valsM r :: leftM hs).sum ≤ _
    rw [List.sum_cons]; omega
theorem settled_small (a0 a1 : Int) (a2 a3 : Bool) (a4 a5 : List Int) (a6 a7 : Int) (hs : List (List Int)) (st hp : List Int) (tu mo pa : Int) (sm : Sm 60 a4 a5 hs st hp) : ∀ x ∈ settledM a0 a1 a2 a3 a4 a5 a6 a7 hs st hp tu mo pa, -1000 ≤ x ∧ x ≤ 1000 := by
  have hl := leftM_length hs
  have h6 := sm.2.2.1
  have hfl := sm.2.2.2
  have hsm := leftM_small sm (by omega)
  have hsum := left_sum hs (by omega)
  have h520 : ∀ x ∈ leftM hs, 0 ≤ x ∧ x ≤ 600 := fun x hx => by
    obtain ⟨r, hr, rfl⟩ := List.mem_map.1 hx
    have h1 := row_le_flat hr
    have := valsM_small r (by omega)
    omega
  have hb : ∀ x ∈ leftM hs, -1000000 ≤ x ∧ x ≤ 1000000 := fun x hx => by have := h520 x hx; omega
  obtain ⟨s1, _⟩ := sumW_sum (leftM hs) (by omega) hb
  have hn0 := sum_nonneg (leftM hs) fun x hx => (hsm x hx).1
  unfold settledM
  split
  · split
    · intro x hx; have := (List.mem_replicate.1 hx).2; omega
    · intro x hx
      rcases List.mem_or_eq_of_mem_set hx with e | e
      · obtain ⟨y, hy, rfl⟩ := List.mem_map.1 e
        have := h520 y hy
        rw [wrap_id (by omega) (by omega)]; omega
      · rw [e, s1]; omega
  · intro x hx; cases hx
theorem getD_setI {l : List Int} {i j : Nat} {x : Int} (hi : i < l.length) : (l.set i x).getD j 0 = if i = j then x else l.getD j 0 := by
  rw [List.getD_eq_getElem?_getD, List.getElem?_set]
  by_cases e : i = j
  · rw [if_pos e, if_pos e, if_pos hi]; rfl
  · rw [if_neg e, if_neg e, List.getD_eq_getElem?_getD]
theorem place_loop {p k : Nat} (v : List Int) (hv : v.length ≤ p) (hp : p ≤ 6) (hvb : ∀ x ∈ v, -1000 ≤ x ∧ x ≤ 1000) : ∀ i : Nat, i ≤ v.length → ∀ r1 : List Int, r1.length = p → r1.sum = (v.take i).sum → (∀ j : Nat, i ≤ j → j < p → r1.getD ((j + k) % p) 0 = 0) → (∀ x ∈ r1, -1000 ≤ x ∧ x ≤ 1000) →
    ∃ w, impl_MatchRound_L12 (v.length : Int) (i : Int) (seatsM p k) r1 v = some w ∧ w.length = p ∧ w.sum = v.sum ∧ ∀ x ∈ w, -1000 ≤ x ∧ x ≤ 1000 := down (by
      intro r1 h1 h2 _ h4
      rw [impl_MatchRound_L12_eq, if_dneg (by omega)]
      rw [List.take_length] at h2
      exact ⟨_, rfl, h1, h2, h4⟩) fun i hi ih r1 h1 h2 h3 h4 => by
    have hlen := seatsM_length p k
    have hq : (i + k) % p < p := Nat.mod_lt _ (by omega)
    have hg := seatsM_get (p := p) (k := k) (by omega : i < p)
    rw [impl_MatchRound_L12_eq, Int.toNat_natCast, hg, Int.toNat_natCast, if_dpos (by omega), if_pos (by omega), if_pos (by omega), if_pos (by omega), if_pos (by omega), if_pos (by omega), if_pos (by omega), wrap_succ hi (by omega)]
    refine ih _ (by rw [List.length_set]; exact h1) ?_ (fun j hj hjp => ?_) (fun x hx => ?_)
    · have e := sum_setI r1 ((i + k) % p) (v.getD i 0) (by omega)
      rw [h3 i (Nat.le_refl _) (by omega)] at e
      rw [take_succ_getD (d := 0) hi, List.sum_append, List.sum_singleton, ← h2]
      omega
    · rw [getD_setI (by omega), if_neg (fun e => by have := seats_apart (by omega : i < p) hjp e; omega)]
      exact h3 j (by omega) hjp
    · rcases List.mem_or_eq_of_mem_set hx with e | e
      · exact h4 x e
      · rw [e]; exact hvb _ (getD_mem hi)
def RoundOk (a0 : Int) (v : List Int) : Prop := v = [] ∨ ((v.length : Int) = a0 ∧ (2 ≤ a0 ∧ a0 ≤ 6) ∧ v.sum = 0 ∧ ∀ x ∈ v, -1000 ≤ x ∧ x ≤ 1000)
theorem round_ex (a0 a1 : Int) (a2 a3 : Bool) (a4 a5 : List Int) (a6 a7 seed rd : Int) (kinds : List Int) (h4 : a4.length ≤ 1000) (h5 : a5.length ≤ 1000) (hk : kinds.length ≤ 1000) : ∃ v, impl_MatchRound a0 a1 a2 a3 a4 a5 a6 a7 seed rd kinds = some v ∧ RoundOk a0 v := by
  rw [impl_MatchRound_eq, impl_IsRules_ok _ _ _ _ _ _ _ _ (by omega) (by omega), Option.bind_some]
  cases hr : rulesM a0 a1 a2 a3 a4 a5 a6 a7
  · exact ⟨_, rfl, .inl rfl⟩
  rw [if_neg (by decide)]
  by_cases hkl : (kinds.length : Int) = a0
  · rw [if_nneg hkl, impl_InRange_ok, Option.bind_some]
    cases hin : inR rd 0 1000
    · exact ⟨_, rfl, .inl rfl⟩
    rw [if_neg (by decide), impl_SeatsFor_ok, Option.bind_some, hin]
    have k := hr
    simp only [rulesM, Bool.and_eq_true, inR_iff] at k
    have hrd := inR_iff.1 hin
    obtain ⟨p, rfl⟩ : ∃ q : Nat, a0 = (q : Int) := ⟨a0.toNat, by omega⟩
    obtain ⟨n, rfl⟩ : ∃ q : Nat, rd = (q : Int) := ⟨rd.toNat, by omega⟩
    rw [show inR (p : Int) 2 6 = true from inR_iff.2 k.1, Bool.and_true, if_pos rfl, Int.toNat_natCast, Int.toNat_natCast]
    have hlen := seatsM_length p n
    have key : ∀ i : Nat, i ≤ p → ∀ own : List Int, own.length ≤ i → ∃ v, impl_MatchRound_L5 seed (n : Int) kinds ((seatsM p n).length : Int) (i : Int) (p : Int) a1 a2 a3 a4 a5 a6 a7 (seatsM p n) own = some v ∧ RoundOk (p : Int) v := down (by
        intro own ho
        obtain ⟨D, e1, d1, d2⟩ := fullI_ex
        have e2 := impl_Hash_ok [seed, (n : Int)] (by rw [List.length_cons, List.length_singleton]; omega)
        obtain ⟨E, e3, k1, k2⟩ := shufI_ex d1 d2 (hashM [seed, (n : Int)])
        obtain ⟨g, _, g1, g2, g3⟩ := newGame_ex (p : Int) a1 a2 a3 a4 a5 a6 a7 E h4 h5 (by omega)
        have gok := newGame_flag (p : Int) a1 a2 a3 a4 a5 a6 a7 E h4 h5 (by omega) hr k1 k2 g g1
        obtain ⟨gg, _⟩ := g2 gok.1
        obtain ⟨r, r1, r2, r3, r4, r5⟩ := impl_PlayOut_ex g.1 g.2.1 g.2.2.1 g.2.2.2.1 g.2.2.2.2.1 g.2.2.2.2.2.1 g.2.2.2.2.2.2.1 g.2.2.2.2.2.2.2.1 g.2.2.2.2.2.2.2.2.1 g.2.2.2.2.2.2.2.2.2.1 g.2.2.2.2.2.2.2.2.2.2.1 g.2.2.2.2.2.2.2.2.2.2.2.1 g.2.2.2.2.2.2.2.2.2.2.2.2.1 g.2.2.2.2.2.2.2.2.2.2.2.2.2.1 own gg g3.1 g3.2.1
        have sm := (game_small _ _ _ _ _ _ _ _ _ _ _ _ _ _ r2 r4 r5).mono (by omega : 52 ≤ 60)
        have es := impl_Settled_ok r.1 r.2.1 r.2.2.1 r.2.2.2.1 r.2.2.2.2.1 r.2.2.2.2.2.1 r.2.2.2.2.2.2.1 r.2.2.2.2.2.2.2.1 r.2.2.2.2.2.2.2.2.1 r.2.2.2.2.2.2.2.2.2.1 r.2.2.2.2.2.2.2.2.2.2.1 r.2.2.2.2.2.2.2.2.2.2.2.1 r.2.2.2.2.2.2.2.2.2.2.2.2.1 r.2.2.2.2.2.2.2.2.2.2.2.2.2 (by have := sm.1; omega) (by have := sm.2.1; omega) (sm.g2 (by omega)) (by have := sm.2.2.2; omega) (by have := sm.2.2.2; omega)
        obtain ⟨f1, f2, _⟩ := settled_facts r.1 r.2.1 r.2.2.1 r.2.2.2.1 r.2.2.2.2.1 r.2.2.2.2.2.1 r.2.2.2.2.2.2.1 r.2.2.2.2.2.2.2.1 r.2.2.2.2.2.2.2.2.1 r.2.2.2.2.2.2.2.2.2.1 r.2.2.2.2.2.2.2.2.2.2.1 r.2.2.2.2.2.2.2.2.2.2.2.1 r.2.2.2.2.2.2.2.2.2.2.2.2.1 r.2.2.2.2.2.2.2.2.2.2.2.2.2 sm
        have fb := settled_small r.1 r.2.1 r.2.2.1 r.2.2.2.1 r.2.2.2.2.1 r.2.2.2.2.2.1 r.2.2.2.2.2.2.1 r.2.2.2.2.2.2.2.1 r.2.2.2.2.2.2.2.2.1 r.2.2.2.2.2.2.2.2.2.1 r.2.2.2.2.2.2.2.2.2.2.1 r.2.2.2.2.2.2.2.2.2.2.2.1 r.2.2.2.2.2.2.2.2.2.2.2.2.1 r.2.2.2.2.2.2.2.2.2.2.2.2.2 sm
        obtain ⟨_, q2, _⟩ := (gameM_iff r.1 r.2.1 r.2.2.1 r.2.2.2.1 r.2.2.2.2.1 r.2.2.2.2.2.1 r.2.2.2.2.2.2.1 r.2.2.2.2.2.2.2.1 r.2.2.2.2.2.2.2.2.1 r.2.2.2.2.2.2.2.2.2.1 r.2.2.2.2.2.2.2.2.2.2.1 r.2.2.2.2.2.2.2.2.2.2.2.1 r.2.2.2.2.2.2.2.2.2.2.2.2.1 r.2.2.2.2.2.2.2.2.2.2.2.2.2).1 r2
        rw [r2, if_pos rfl] at f2
        have hps : (settledM r.1 r.2.1 r.2.2.1 r.2.2.2.1 r.2.2.2.2.1 r.2.2.2.2.2.1 r.2.2.2.2.2.2.1 r.2.2.2.2.2.2.2.1 r.2.2.2.2.2.2.2.2.1 r.2.2.2.2.2.2.2.2.2.1 r.2.2.2.2.2.2.2.2.2.2.1 r.2.2.2.2.2.2.2.2.2.2.2.1 r.2.2.2.2.2.2.2.2.2.2.2.2.1 r.2.2.2.2.2.2.2.2.2.2.2.2.2).length = p := by rw [f2]; rw [r3, gok.2] at q2; omega
        obtain ⟨s1, _⟩ := sumW_sum (settledM r.1 r.2.1 r.2.2.1 r.2.2.2.1 r.2.2.2.2.1 r.2.2.2.2.2.1 r.2.2.2.2.2.2.1 r.2.2.2.2.2.2.2.1 r.2.2.2.2.2.2.2.2.1 r.2.2.2.2.2.2.2.2.2.1 r.2.2.2.2.2.2.2.2.2.2.1 r.2.2.2.2.2.2.2.2.2.2.2.1 r.2.2.2.2.2.2.2.2.2.2.2.2.1 r.2.2.2.2.2.2.2.2.2.2.2.2.2) (by omega) (fun x hx => by have := fb x hx; omega)
        rw [impl_MatchRound_L5_eq, if_dneg (by omega), e1, Option.bind_some, e2, Option.bind_some, e3, Option.bind_some, g1, Option.bind_some, if_pos rfl, if_pos (by omega), Int.toNat_natCast, if_pos (by omega), r1, Option.bind_some, es, Option.bind_some]
        have hz : ∀ m : Nat, (List.replicate m (0 : Int)).sum = 0 := by
          intro m
          induction m with
          | zero => rfl
          | succ m ih => rw [List.replicate_succ, List.sum_cons, ih]; rfl
        obtain ⟨w, w1, w2, w3, w4⟩ := place_loop (p := p) (k := n) (settledM r.1 r.2.1 r.2.2.1 r.2.2.2.1 r.2.2.2.2.1 r.2.2.2.2.2.1 r.2.2.2.2.2.2.1 r.2.2.2.2.2.2.2.1 r.2.2.2.2.2.2.2.2.1 r.2.2.2.2.2.2.2.2.2.1 r.2.2.2.2.2.2.2.2.2.2.1 r.2.2.2.2.2.2.2.2.2.2.2.1 r.2.2.2.2.2.2.2.2.2.2.2.2.1 r.2.2.2.2.2.2.2.2.2.2.2.2.2) (by omega) (by omega) fb 0 (Nat.zero_le _) (List.replicate p 0) List.length_replicate (by rw [hz]; rfl) (fun j _ hj => by
          have : (j + n) % p < p := Nat.mod_lt _ (by omega)
          rw [List.getD_eq_getElem?_getD, List.getElem?_replicate, if_pos this]; rfl) (fun x hx => by have := (List.mem_replicate.1 hx).2; omega)
        exact ⟨w, w1, .inr ⟨by omega, k.1, by rw [w3, ← s1]; exact f1, w4⟩⟩) fun i hi ih own ho => by
      have hg := seatsM_get (p := p) (k := n) hi
      have hq : (i + n) % p < p := Nat.mod_lt _ (by omega)
      rw [impl_MatchRound_L5_eq, Int.toNat_natCast, hg, Int.toNat_natCast, if_dpos (by omega), if_pos (by omega), if_pos (by omega), if_pos (by omega), if_pos (by omega), if_pos (by rw [List.length_singleton]; omega), wrap_succ hi (by omega)]
      exact ih _ (by rw [List.length_append, List.length_singleton]; omega)
    exact key 0 (Nat.zero_le _) [] (Nat.le_refl _)
  · rw [if_npos hkl]; exact ⟨_, rfl, .inl rfl⟩
def rotM (l : List Int) (k : Nat) : List Int := l.drop k ++ l.take k
theorem rotM_length {l : List Int} {k : Nat} : (rotM l k).length = l.length := by
  rw [rotM, List.length_append, List.length_drop, List.length_take]; omega
theorem impl_Cut_ok (l : List Int) (k : Nat) (hk : k < l.length) (h : l.length ≤ 1048576) : impl_Cut l (k : Int) = some (rotM l k) := by
  rw [impl_Cut_eq, impl_InRange_eq, if_dpos (by omega), Option.bind_some, decide_eq_true (by omega), if_neg (by decide), if_pos (by omega), if_pos (by omega), Int.toNat_natCast, List.take_length, impl_copyOf_ok _ (by rw [List.length_drop]; omega), Option.bind_some, if_pos (by omega), if_pos (by omega), List.drop_zero, if_pos (by rw [List.length_drop, List.length_take]; omega)]
  rfl
theorem impl_RotateKinds_ok (l : List Int) (n : Int) (h : l.length ≤ 1048576) : impl_RotateKinds l n = some (if n < 0 then [] else rotM l (n.toNat % l.length)) := by
  rw [impl_RotateKinds_eq]
  by_cases h0 : l.length = 0
  · have : l = [] := List.length_eq_zero_iff.1 h0
    rw [if_epos (by omega)]
    subst this
    split <;> simp [rotM]
  · rw [if_eneg (by omega)]
    by_cases hn : n < 0
    · rw [if_dpos hn, if_pos hn]
    · rw [if_dneg hn, if_neg hn, if_neg (by omega)]
      obtain ⟨m, rfl⟩ : ∃ m : Nat, n = (m : Int) := ⟨n.toNat, by omega⟩
      rw [Int.toNat_natCast, show (m : Int).tmod (l.length : Int) = ((m % l.length : Nat) : Int) from rfl, impl_Cut_ok l _ (Nat.mod_lt _ (by omega)) h]
      rfl
theorem spec_Min_ok (a b : Int) : spec_Min a b = some (if b < a then b else a) := by
  rw [spec_Min_eq]
  by_cases h : b < a
  · rw [if_dpos h, if_pos h]
  · rw [if_dneg h, if_neg h]
theorem spec_Max_ok (a b : Int) : spec_Max a b = some (if b > a then b else a) := by
  rw [spec_Max_eq]
  by_cases h : b > a
  · rw [if_dpos h, if_pos h]
  · rw [if_dneg h, if_neg h]
theorem wrap_add (a b : Int) : IntKind.i64.wrap (IntKind.i64.wrap a + b) = IntKind.i64.wrap (a + b) := by
  rw [IntKind.wrap_i64, IntKind.wrap_i64, IntKind.wrap_i64]; omega
theorem sumW_wrap (l : List Int) : sumW l = IntKind.i64.wrap l.sum := by
  have key : ∀ (l : List Int) (n : Int), l.foldl (fun n x => IntKind.i64.wrap (n + x)) (IntKind.i64.wrap n) = IntKind.i64.wrap (n + l.sum) := by
    intro l
    induction l with
    | nil => intro n; rw [List.foldl_nil, List.sum_nil, Int.add_zero]
    | cons c l ih => intro n; rw [List.foldl_cons, wrap_add, ih, List.sum_cons, Int.add_assoc]
  have := key l 0
  rw [wrap_id (by omega) (by omega), Int.zero_add] at this
  exact this
theorem rot_sum (l : List Int) (k : Nat) : sumW (rotM l k) = sumW l := by
  rw [sumW_wrap, sumW_wrap, rotM, List.sum_append, Int.add_comm, ← List.sum_append, List.take_append_drop]
theorem laws_sameInts_self (l : List Int) (hl : l.length ≤ 1000000) : laws_sameInts l l = some true := by
  rw [laws_sameInts_eq, if_nneg rfl]
  have key : ∀ i, i ≤ l.length → laws_sameInts_L4 l l (i : Int) = some true := down (by rw [laws_sameInts_L4_eq, if_dneg (by omega)]) fun i hi ih => by
    rw [laws_sameInts_L4_eq, if_dpos (by omega), if_pos (by omega), if_pos (by omega), if_pos (by omega), if_pos (by omega), if_nneg rfl, wrap_succ hi (by omega)]
    exact ih
  exact key 0 (Nat.zero_le _)
/-- A round that was played. -/
def RoundIs (a0 : Int) (v : List Int) : Prop := (v.length : Int) = a0 ∧ (2 ≤ a0 ∧ a0 ≤ 6) ∧ v.sum = 0 ∧ ∀ x ∈ v, -1000 ≤ x ∧ x ≤ 1000
theorem round_sumW {a0 : Int} {v : List Int} (h : RoundIs a0 v) : sumW v = 0 := by
  obtain ⟨h1, h2, h3, h4⟩ := h
  rw [(sumW_sum v (by omega) fun x hx => by have := h4 x hx; omega).1, h3]
theorem impl_IsRound_is {a0 : Int} {v : List Int} (h : RoundIs a0 v) : impl_IsRound a0 v = some true := by
  have hs := round_sumW h
  obtain ⟨h1, h2, h3, h4⟩ := h
  rw [impl_IsRound_eq, impl_InRange_ok, Option.bind_some, inR_iff.2 h2, if_pos rfl, if_epos h1, impl_allIn_ok _ _ _ (by omega), Option.bind_some, List.all_eq_true.2 fun x hx => inR_iff.2 (h4 x hx), if_pos rfl, impl_sum_ok _ (by omega), Option.bind_some, hs]
  rfl
theorem impl_IsSheet_is {a0 : Int} {s : List (List Int)} (h : ∀ v ∈ s, RoundIs a0 v) (h0 : 2 ≤ a0 ∧ a0 ≤ 6) (hl : s.length ≤ 20) : impl_IsSheet a0 s = some true := by
  rw [impl_IsSheet_eq]
  have key : ∀ i, i ≤ s.length → impl_IsSheet_L2 a0 s s (s.length : Int) (i : Int) = some true := down (by
      rw [impl_IsSheet_L2_eq, if_dneg (by omega), impl_InRange_ok, Option.bind_some, inR_iff.2 h0, if_pos rfl, decide_eq_true (by omega)]) fun i hi ih => by
    rw [impl_IsSheet_L2_eq, if_dpos (by omega), if_pos (by omega), if_pos (by omega), Int.toNat_natCast, impl_IsRound_is (h _ (getD_mem hi)), Option.bind_some, if_neg (by decide), wrap_succ hi (by omega)]
    exact ih
  exact key 0 (Nat.zero_le _)
theorem impl_TotalOf_is {a0 : Int} {s : List (List Int)} (h : ∀ v ∈ s, RoundIs a0 v) (h0 : 2 ≤ a0 ∧ a0 ≤ 6) (hl : s.length ≤ 20) (w : Int) : ∃ n, impl_TotalOf a0 s w = some n := by
  rw [impl_TotalOf_eq, impl_IsSheet_is h h0 hl, Option.bind_some, if_neg (by decide), wrap_id (by omega) (by omega), impl_InRange_ok, Option.bind_some]
  cases hw : inR w 0 (a0 - 1) with
  | false => exact ⟨0, rfl⟩
  | true =>
    have hw := inR_iff.1 hw
    rw [if_neg (by decide)]
    have key : ∀ i, i ≤ s.length → ∀ n : Int, ∃ m, impl_TotalOf_L5 w n s (s.length : Int) (i : Int) = some m := down (by
        intro n; rw [impl_TotalOf_L5_eq, if_dneg (by omega)]; exact ⟨_, rfl⟩) fun i hi ih n => by
      have hr := (h _ (getD_mem (d := []) hi)).1
      rw [impl_TotalOf_L5_eq, if_dpos (by omega), if_pos (by omega), if_pos (by omega), Int.toNat_natCast, if_pos (by omega), if_pos (by omega), wrap_succ hi (by omega)]
      exact ih _
    exact key 0 (Nat.zero_le _) 0
theorem impl_AheadIn_is {a0 : Int} {s : List (List Int)} (h : ∀ v ∈ s, RoundIs a0 v) (h0 : 2 ≤ a0 ∧ a0 ≤ 6) (hl : s.length ≤ 20) : ∃ w, impl_AheadIn a0 s = some w ∧ 0 ≤ w := by
  rw [impl_AheadIn_eq, impl_IsSheet_is h h0 hl, Option.bind_some, if_neg (by decide)]
  obtain ⟨p, rfl⟩ : ∃ q : Nat, a0 = (q : Int) := ⟨a0.toNat, by omega⟩
  have key : ∀ i, i ≤ p → ∀ b : Int, 0 ≤ b → ∃ w, impl_AheadIn_L5 (p : Int) s b (p : Int) (i : Int) = some w ∧ 0 ≤ w := down (by
      intro b hb; rw [impl_AheadIn_L5_eq, if_dneg (by omega)]; exact ⟨_, rfl, hb⟩) fun i hi ih b hb => by
    obtain ⟨m, e1⟩ := impl_TotalOf_is h h0 hl (i : Int)
    obtain ⟨n, e2⟩ := impl_TotalOf_is h h0 hl b
    rw [impl_AheadIn_L5_eq, if_dpos (by omega), e1, Option.bind_some, e2, Option.bind_some, wrap_succ hi (by omega)]
    by_cases c : m > n
    · rw [if_dpos c]; exact ih _ (by omega)
    · rw [if_dneg c]; exact ih _ hb
  exact key 0 (Nat.zero_le _) 0 (Int.le_refl _)
/-- A match's sheet: every round as it is played by itself. -/
def SheetOf (a0 a1 : Int) (a2 a3 : Bool) (a4 a5 : List Int) (a6 a7 seed : Int) (kinds : List Int) (s : List (List Int)) : Prop := (∀ v ∈ s, RoundIs a0 v) ∧ ∀ i : Nat, i < s.length → impl_MatchRound a0 a1 a2 a3 a4 a5 a6 a7 seed (i : Int) kinds = some (s.getD i [])
theorem sheet_ex (a0 a1 : Int) (a2 a3 : Bool) (a4 a5 : List Int) (a6 a7 seed rounds : Int) (kinds : List Int) (h4 : a4.length ≤ 1000) (h5 : a5.length ≤ 1000) (hk : kinds.length ≤ 1000) : ∃ s, impl_MatchSheet a0 a1 a2 a3 a4 a5 a6 a7 seed rounds kinds = some s ∧ SheetOf a0 a1 a2 a3 a4 a5 a6 a7 seed kinds s ∧ (s = [] ∨ (s.length : Int) = rounds) ∧ s.length ≤ 20 := by
  have hnil : SheetOf a0 a1 a2 a3 a4 a5 a6 a7 seed kinds [] := ⟨fun v hv => by (cases hv), fun i hi => absurd hi (Nat.not_lt_zero i)⟩
  rw [impl_MatchSheet_eq, impl_InRange_ok, Option.bind_some]
  cases hin : inR rounds 0 20 with
  | false => exact ⟨[], rfl, hnil, .inl rfl, Nat.zero_le _⟩
  | true =>
    have hr := inR_iff.1 hin
    rw [if_neg (by decide)]
    obtain ⟨n, rfl⟩ : ∃ q : Nat, rounds = (q : Int) := ⟨rounds.toNat, by omega⟩
    have key : ∀ i, i ≤ n → ∀ s : List (List Int), s.length = i → SheetOf a0 a1 a2 a3 a4 a5 a6 a7 seed kinds s → ∃ t, impl_MatchSheet_L5 seed kinds (n : Int) (i : Int) a0 a1 a2 a3 a4 a5 a6 a7 s = some t ∧ SheetOf a0 a1 a2 a3 a4 a5 a6 a7 seed kinds t ∧ (t = [] ∨ (t.length : Int) = (n : Int)) ∧ t.length ≤ 20 := down (by
        intro s hs h; rw [impl_MatchSheet_L5_eq, if_dneg (by omega)]; exact ⟨_, rfl, h, .inr (by omega), by omega⟩) fun i hi ih s hs h => by
      obtain ⟨v, e, hv⟩ := round_ex a0 a1 a2 a3 a4 a5 a6 a7 seed (i : Int) kinds h4 h5 hk
      rw [impl_MatchSheet_L5_eq, if_dpos (by omega), e, Option.bind_some]
      rcases hv with hv | hv
      · rw [hv, if_epos (by rw [List.length_nil]; rfl)]; exact ⟨[], rfl, hnil, .inl rfl, Nat.zero_le _⟩
      · have hvl := hv.1
        have hv2 := hv.2.1
        rw [if_eneg (by omega), if_pos (by rw [List.length_singleton]; omega), wrap_succ hi (by omega)]
        refine ih _ (by rw [List.length_append, List.length_singleton]; omega) ⟨fun u hu => ?_, fun j hj => ?_⟩
        · rcases List.mem_append.1 hu with hu | hu
          · exact h.1 u hu
          · rw [List.mem_singleton.1 hu]; exact hv
        · rw [List.length_append, List.length_singleton] at hj
          by_cases c : j < s.length
          · rw [h.2 j c, List.getD_eq_getElem?_getD, List.getD_eq_getElem?_getD, List.getElem?_append_left c]
          · have : j = i := by omega
            subst this
            rw [e, List.getD_eq_getElem?_getD, List.getElem?_append_right (by omega), hs, Nat.sub_self]; rfl
    exact key 0 (Nat.zero_le _) [] rfl hnil
theorem winner_ex (a0 a1 : Int) (a2 a3 : Bool) (a4 a5 : List Int) (a6 a7 seed rounds : Int) (kinds : List Int) {s : List (List Int)} (e : impl_MatchSheet a0 a1 a2 a3 a4 a5 a6 a7 seed rounds kinds = some s) (h : SheetOf a0 a1 a2 a3 a4 a5 a6 a7 seed kinds s) (hl : s.length ≤ 20) : ∃ w, impl_MatchWinner a0 a1 a2 a3 a4 a5 a6 a7 seed rounds kinds = some w ∧ decide (w ≥ 0) = decide ((s.length : Int) > 0) := by
  rw [impl_MatchWinner_eq, e, Option.bind_some]
  cases s with
  | nil => rw [if_epos (by rw [List.length_nil]; rfl)]; exact ⟨-1, rfl, rfl⟩
  | cons v r =>
    have hv := h.1 v List.mem_cons_self
    obtain ⟨w, e2, hw⟩ := impl_AheadIn_is h.1 hv.2.1 hl
    rw [if_eneg (by rw [List.length_cons]; omega), e2, Option.bind_some]
    exact ⟨w, rfl, by rw [decide_eq_true hw, decide_eq_true (by rw [List.length_cons]; omega)]⟩
theorem l29Case_tot {c : List Int × Int × Int} (hc : Cur c) : Tot (spec_l29Case c) (fun r => Cur r.2.2.2.2.2.2.2.2.2 ∧ r.2.2.2.2.1.length ≤ 1000 ∧ r.2.2.2.2.2.1.length ≤ 1000 ∧ r.2.2.2.2.2.2.2.2.1.length ≤ 1000) := by
  rw [spec_l29Case_eq]
  refine Tot.bind (l22Any_tot hc) fun r ⟨hr, r4, r5⟩ => ?_
  rw [spec_Min_ok, Option.bind_some]
  generalize (if (25 : Int) < r.2.2.2.2.2.2.2.1 then (25 : Int) else r.2.2.2.2.2.2.2.1) = lim
  have key : ∀ d i : Nat, ∀ (b0 : List Int) (b1 b2 : Int) (k : List Int), Cur (b0, b1, b2) → k.length = i → 6 - (i : Int) = (d : Int) → Tot (spec_l29Case_L5 (i : Int) b0 b1 b2 0 0 false false 0 0 r.1 r.2.1 r.2.2.1 r.2.2.2.1 r.2.2.2.2.1 r.2.2.2.2.2.2.1 lim k r.2.2.2.2.2.1) (fun r => Cur r.2.2.2.2.2.2.2.2.2 ∧ r.2.2.2.2.1.length ≤ 1000 ∧ r.2.2.2.2.2.1.length ≤ 1000 ∧ r.2.2.2.2.2.2.2.2.1.length ≤ 1000) := by
    have fin : ∀ (i : Nat) (b0 : List Int) (b1 b2 : Int) (k : List Int), Cur (b0, b1, b2) → k.length = i → i ≤ 6 → Tot ((spec_l1Once ((b0, (b1, b2))) 9).bind fun c6 => (if c6.1 = true then (if (k.length + ([(1 : Int)]).length) * 8 ≤ 140737488355328 then (some ((r.1, (r.2.1, (r.2.2.1, (r.2.2.2.1, (r.2.2.2.2.1, (r.2.2.2.2.2.1, (r.2.2.2.2.2.2.1, (lim, (k ++ ([1]), (c6.2.1, (c6.2.2.1, c6.2.2.2))))))))))))) else none) else (some ((r.1, (r.2.1, (r.2.2.1, (r.2.2.2.1, (r.2.2.2.2.1, (r.2.2.2.2.2.1, (r.2.2.2.2.2.2.1, (lim, (k, (c6.2.1, (c6.2.2.1, c6.2.2.2)))))))))))))))
        (fun r => Cur r.2.2.2.2.2.2.2.2.2 ∧ r.2.2.2.2.1.length ≤ 1000 ∧ r.2.2.2.2.2.1.length ≤ 1000 ∧ r.2.2.2.2.2.2.2.2.1.length ≤ 1000) := fun i b0 b1 b2 k hb hk hi => by
      refine Tot.bind (l1Once_tot hb _) fun s hs => Tot.ite (fun _ => Tot.guard (by rw [List.length_singleton]; omega) (Tot.ret ⟨hs, r4, r5, ?_⟩)) fun _ => Tot.ret ⟨hs, r4, r5, ?_⟩
      · show (k ++ [(1 : Int)]).length ≤ 1000; rw [List.length_append, List.length_singleton]; omega
      · show k.length ≤ 1000; omega
    intro d
    induction d with
    | zero =>
      intro i b0 b1 b2 k hb hk hd
      rw [spec_l29Case_L5_eq, spec_Min_ok, Option.bind_some, spec_Max_ok, Option.bind_some, if_dneg (by split <;> split <;> omega)]
      exact fin i b0 b1 b2 k hb hk (by omega)
    | succ d ih =>
      intro i b0 b1 b2 k hb hk hd
      rw [spec_l29Case_L5_eq, spec_Min_ok, Option.bind_some, spec_Max_ok, Option.bind_some]
      refine Tot.dite (fun _ => ?_) fun _ => fin i b0 b1 b2 k hb hk (by omega)
      refine Tot.bind (l1Below_tot hb _) fun t ⟨ht, _⟩ => Tot.guard (by rw [List.length_singleton]; omega) ?_
      rw [wrap_id (by omega) (by omega), show (i : Int) + 1 = ((i + 1 : Nat) : Int) by omega]
      exact ih (i + 1) _ _ _ _ ht (by rw [List.length_append, List.length_singleton]; omega) (by omega)
  exact key 6 0 _ _ _ [] hr rfl (by omega)
theorem DrawMatchSheet_tot {a0 : List Int} (ha : a0.length ≤ 1048576) : Tot (spec_DrawMatchSheet a0) (fun r => r.2.2.2.2.1.length ≤ 1000 ∧ r.2.2.2.2.2.1.length ≤ 1000 ∧ r.2.2.2.2.2.2.2.2.2.2.length ≤ 1000) := by
  rw [spec_DrawMatchSheet_eq]
  refine Tot.bind (l1New_tot ha) fun c hc => Tot.bind (l29Case_tot hc) fun r ⟨hr, r4, r5, rk⟩ => Tot.bind (l1Below_tot hr _) fun s hs => Tot.bind (l1Int_tot hs.1 (Nat.zero_lt_succ _)) fun t ht => Tot.ret ⟨r4, r5, rk⟩
theorem DrawSeatsFor_tot {a0 : List Int} (ha : a0.length ≤ 1048576) : Tot (spec_DrawSeatsFor a0) (fun _ => True) := by
  rw [spec_DrawSeatsFor_eq]
  exact Tot.bind (l1New_tot ha) fun c hc => Tot.bind (l1Int_tot hc (Nat.zero_lt_succ _)) fun s hs => Tot.bind (l1Int_tot hs.1 (Nat.zero_lt_succ _)) fun t ht => Tot.ret trivial
theorem DrawRotateKinds_tot {a0 : List Int} (ha : a0.length ≤ 1048576) : Tot (spec_DrawRotateKinds a0) (fun r => r.1.length ≤ 10) := by
  rw [spec_DrawRotateKinds_eq]
  exact Tot.bind (l1New_tot ha) fun c hc => Tot.bind (l26Kinds_tot hc) fun s ⟨hs, s1⟩ => Tot.bind (l1Int_tot hs (Nat.zero_lt_succ _)) fun t ht => Tot.ret s1
end Go.Proofs.Ytoioaijpdiglfaa.V
