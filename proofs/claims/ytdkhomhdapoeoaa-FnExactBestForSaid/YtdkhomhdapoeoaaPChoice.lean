/- Plain laws over the shapes. -/
import Derived.Test.YtdkhomhdapoeoaaPReplay
import Derived.Test.YtdkhomhdapoeoaaFChoiceOf
import Derived.Test.YtdkhomhdapoeoaaFPlayOn
import Derived.Test.YtdkhomhdapoeoaaFPlayable
import Derived.Test.YtdkhomhdapoeoaaFReplayMove
import Derived.Test.YtdkhomhdapoeoaaFSuitCounts
import Derived.Test.YtdkhomhdapoeoaaFTakeCards
import Derived.Test.YtdkhomhdapoeoaaS1
import Derived.Test.YtdkhomhdapoeoaaS4
import Derived.Test.YtdkhomhdapoeoaaS5
import Derived.Test.YtdkhomhdapoeoaaS6
set_option linter.unusedVariables false
set_option linter.unusedSimpArgs false
set_option maxRecDepth 10000
namespace Go.Proofs.Ytdkhomhdapoeoaa.V
open Go
def mostR (full : List Int) : List Int → Int → Int → Int
  | [], k, _ => k
  | x :: t, k, i => if k < 0 then mostR full t i (i + 1) else if x > full.getD k.toNat 0 then mostR full t i (i + 1) else mostR full t k (i + 1)
theorem spec_MostOf_ok (l : List Int) (hl : l.length ≤ 4398046511104) : spec_MostOf l = some (mostR l l (-1) 0) := by
  have h : ∀ i, i ≤ l.length → ∀ k : Int, k < i → spec_MostOf_L3 l k i = some (mostR l (l.drop i) k i) := down (by
      intro k hk
      rw [spec_MostOf_L3_eq]
      simp (disch := (first | omega | (simp only [List.length_append, List.length_cons, List.length_nil, List.length_take, List.length_drop, List.length_set, List.length_replicate, List.length_singleton]; omega))) only [↓if_dpos, ↓if_dneg, ↓if_epos, ↓if_eneg, ↓if_npos, ↓if_nneg, ↓if_pos, ↓if_neg, Int.toNat_natCast, List.nil_append, Nat.zero_add, List.length_singleton, Option.bind_some, List.drop_zero, List.take_length, if_true, if_false, ]
      rw [List.drop_of_length_le (Nat.le_refl _)]; rfl) fun i hi ih k hk => by
    have hil : (i : Int) < (l.length : Int) := by omega
    have hw : IntKind.i64.wrap ((i : Int) + 1) = ((i + 1 : Nat) : Int) := wrap_succ hi (by omega)
    have i1 := ih i (by omega)
    have i2 := ih k (by omega)
    rw [spec_MostOf_L3_eq, getD_drop (d := 0) hi, mostR]
    by_cases hk0 : k < 0
    · simp (disch := (first | omega | (simp only [List.length_append, List.length_cons, List.length_nil, List.length_take, List.length_drop, List.length_set, List.length_replicate, List.length_singleton]; omega))) only [↓if_dpos, ↓if_dneg, ↓if_epos, ↓if_eneg, ↓if_npos, ↓if_nneg, ↓if_pos, ↓if_neg, hw, Int.toNat_natCast, List.nil_append, Nat.zero_add, List.length_singleton, Option.bind_some, List.drop_zero, List.take_length, if_true, if_false, i1]; rfl
    · simp (disch := (first | omega | (simp only [List.length_append, List.length_cons, List.length_nil, List.length_take, List.length_drop, List.length_set, List.length_replicate, List.length_singleton]; omega))) only [↓if_dpos, ↓if_dneg, ↓if_epos, ↓if_eneg, ↓if_npos, ↓if_nneg, ↓if_pos, ↓if_neg, hw, Int.toNat_natCast, List.nil_append, Nat.zero_add, List.length_singleton, Option.bind_some, List.drop_zero, List.take_length, if_true, if_false, i1, i2]
      by_cases c : l.getD i 0 > l.getD k.toNat 0
      · rw [if_pos (decide_eq_true c), if_pos c]; rfl
      · rw [if_neg (by simpa using c), if_neg c]; rfl
  rw [spec_MostOf_eq]
  exact h 0 (Nat.zero_le _) (-1) (by omega)
def cntStep (r : List Int) (c : Int) : List Int := if isC c = true then r.set (suitM c).toNat (IntKind.i64.wrap (r.getD (suitM c).toNat 0 + 1)) else r
def countsM (l : List Int) : List Int := l.foldl cntStep (List.replicate 4 0)
theorem cnt_foldl_len (l : List Int) : ∀ r : List Int, (l.foldl cntStep r).length = r.length := by
  induction l with
  | nil => intro r; rfl
  | cons c l ih =>
    intro r
    rw [List.foldl_cons, ih, cntStep]
    split <;> simp
theorem countsM_length (l : List Int) : (countsM l).length = 4 := by rw [countsM, cnt_foldl_len]; rfl
theorem suitM_bound {c : Int} (h : isC c = true) : 0 ≤ suitM c ∧ suitM c ≤ 3 := by
  obtain ⟨h1, h2⟩ := isC_iff.1 h
  unfold suitM
  have e := Int.tdiv_eq_ediv_of_nonneg (b := 13) h1
  rw [if_pos h, wrap_id (by omega) (by omega), e]
  omega
theorem suitM_no {c : Int} (h : isC c = false) : suitM c = -1 := by unfold suitM; rw [h]; rfl
theorem spec_SuitCounts_ok (l : List Int) (hl : l.length ≤ 4398046511104) : spec_SuitCounts l = some (countsM l) := by
  have h : ∀ i, i ≤ l.length → spec_SuitCounts_L3 l i (countsM (l.take i)) = some (countsM l) := down (by
      rw [spec_SuitCounts_L3_eq]
      simp (disch := (first | omega | (simp only [List.length_append, List.length_cons, List.length_nil, List.length_take, List.length_drop, List.length_set, List.length_replicate, List.length_singleton]; omega))) only [↓if_dpos, ↓if_dneg, ↓if_epos, ↓if_eneg, ↓if_npos, ↓if_nneg, ↓if_pos, ↓if_neg, Int.toNat_natCast, List.nil_append, Nat.zero_add, List.length_singleton, Option.bind_some, List.drop_zero, List.take_length, if_true, if_false, ]) fun i hi ih => by
    have hk := countsM_length (l.take i)
    have hil : (i : Int) < (l.length : Int) := by omega
    have hw : IntKind.i64.wrap ((i : Int) + 1) = ((i + 1 : Nat) : Int) := wrap_succ hi (by omega)
    rw [spec_SuitCounts_L3_eq]
    simp (disch := (first | omega | (simp only [List.length_append, List.length_cons, List.length_nil, List.length_take, List.length_drop, List.length_set, List.length_replicate, List.length_singleton]; omega))) only [↓if_dpos, ↓if_dneg, ↓if_epos, ↓if_eneg, ↓if_npos, ↓if_nneg, ↓if_pos, ↓if_neg, hw, Int.toNat_natCast, List.nil_append, Nat.zero_add, List.length_singleton, Option.bind_some, List.drop_zero, List.take_length, if_true, if_false, spec_SuitOf_ok]
    rw [← ih]
    have e : countsM (l.take (i + 1)) = cntStep (countsM (l.take i)) (l.getD i 0) := by unfold countsM; rw [foldl_take (d := 0) hi]
    rw [e, cntStep]
    cases hc : isC (l.getD i 0)
    · have := suitM_no hc
      simp (disch := (first | omega | (simp only [List.length_append, List.length_cons, List.length_nil, List.length_take, List.length_drop, List.length_set, List.length_replicate, List.length_singleton]; omega))) only [↓if_dpos, ↓if_dneg, ↓if_epos, ↓if_eneg, ↓if_npos, ↓if_nneg, ↓if_pos, ↓if_neg, Bool.false_eq_true, if_false]
    · have := suitM_bound hc
      simp (disch := (first | omega | (simp only [List.length_append, List.length_cons, List.length_nil, List.length_take, List.length_drop, List.length_set, List.length_replicate, List.length_singleton]; omega))) only [↓if_dpos, ↓if_dneg, ↓if_epos, ↓if_eneg, ↓if_npos, ↓if_nneg, ↓if_pos, ↓if_neg, if_true]
  rw [spec_SuitCounts_eq]
  simp (disch := (first | omega | (simp only [List.length_append, List.length_cons, List.length_nil, List.length_take, List.length_drop, List.length_set, List.length_replicate, List.length_singleton]; omega))) only [↓if_dpos, ↓if_dneg, ↓if_epos, ↓if_eneg, ↓if_npos, ↓if_nneg, ↓if_pos, ↓if_neg, Int.toNat_natCast, List.nil_append, Nat.zero_add, List.length_singleton, Option.bind_some, List.drop_zero, List.take_length, if_true, if_false]
  exact h 0 (Nat.zero_le _)
theorem impl_SuitCounts_ok (l : List Int) (hl : l.length ≤ 4398046511104) : impl_SuitCounts l = some (countsM l) := by
  have h : ∀ i, i ≤ l.length → impl_SuitCounts_L3 l l.length i (countsM (l.take i)) = some (countsM l) := down (by
      rw [impl_SuitCounts_L3_eq]
      simp (disch := (first | omega | (simp only [List.length_append, List.length_cons, List.length_nil, List.length_take, List.length_drop, List.length_set, List.length_replicate, List.length_singleton]; omega))) only [↓if_dpos, ↓if_dneg, ↓if_epos, ↓if_eneg, ↓if_npos, ↓if_nneg, ↓if_pos, ↓if_neg, Int.toNat_natCast, List.nil_append, Nat.zero_add, List.length_singleton, Option.bind_some, List.drop_zero, List.take_length, if_true, if_false, ]) fun i hi ih => by
    have hk := countsM_length (l.take i)
    have hil : (i : Int) < (l.length : Int) := by omega
    have hw : IntKind.i64.wrap ((i : Int) + 1) = ((i + 1 : Nat) : Int) := wrap_succ hi (by omega)
    rw [impl_SuitCounts_L3_eq]
    simp (disch := (first | omega | (simp only [List.length_append, List.length_cons, List.length_nil, List.length_take, List.length_drop, List.length_set, List.length_replicate, List.length_singleton]; omega))) only [↓if_dpos, ↓if_dneg, ↓if_epos, ↓if_eneg, ↓if_npos, ↓if_nneg, ↓if_pos, ↓if_neg, hw, Int.toNat_natCast, List.nil_append, Nat.zero_add, List.length_singleton, Option.bind_some, List.drop_zero, List.take_length, if_true, if_false, impl_SuitOf_ok, impl_IsCard_ok]
    rw [← ih]
    have e : countsM (l.take (i + 1)) = cntStep (countsM (l.take i)) (l.getD i 0) := by unfold countsM; rw [foldl_take (d := 0) hi]
    rw [e, cntStep]
    cases hc : isC (l.getD i 0)
    · rfl
    · have := suitM_bound hc
      simp (disch := (first | omega | (simp only [List.length_append, List.length_cons, List.length_nil, List.length_take, List.length_drop, List.length_set, List.length_replicate, List.length_singleton]; omega))) only [↓if_dpos, ↓if_dneg, ↓if_epos, ↓if_eneg, ↓if_npos, ↓if_nneg, ↓if_pos, ↓if_neg, if_true]
  rw [impl_SuitCounts_eq]
  simp (disch := (first | omega | (simp only [List.length_append, List.length_cons, List.length_nil, List.length_take, List.length_drop, List.length_set, List.length_replicate, List.length_singleton]; omega))) only [↓if_dpos, ↓if_dneg, ↓if_epos, ↓if_eneg, ↓if_npos, ↓if_nneg, ↓if_pos, ↓if_neg, Int.toNat_natCast, List.nil_append, Nat.zero_add, List.length_singleton, Option.bind_some, List.drop_zero, List.take_length, if_true, if_false]
  exact h 0 (Nat.zero_le _)
def bestR (cs : List Int) : List Int → Int → Int
  | [], b => b
  | c :: t, b => if cs.getD (suitM c).toNat 0 > cs.getD (suitM b).toNat 0 then bestR cs t c else bestR cs t b
theorem most_best (cs P : List Int) : ∀ i, i ≤ P.length → ∀ j : Nat, j < P.length →
    ∃ j' : Nat, mostR (P.map fun c => cs.getD (suitM c).toNat 0) ((P.map fun c => cs.getD (suitM c).toNat 0).drop i) j i = (j' : Int) ∧ j' < P.length ∧ P.getD j' 0 = bestR cs (P.drop i) (P.getD j 0) := by
  have hget : ∀ k : Nat, k < P.length → (P.map fun c => cs.getD (suitM c).toNat 0).getD k 0 = cs.getD (suitM (P.getD k 0)).toNat 0 := fun k hk => by
    rw [List.getD_eq_getElem?_getD, List.getElem?_map, List.getElem?_eq_getElem hk]
    rw [show P.getD k 0 = P[k] by rw [List.getD_eq_getElem?_getD, List.getElem?_eq_getElem hk]; rfl]
    rfl
  refine down (by
    intro j hj
    rw [List.drop_of_length_le (by simp), List.drop_of_length_le (Nat.le_refl _)]
    exact ⟨j, rfl, hj, rfl⟩) fun i hi ih j hj => ?_
  rw [getD_drop (xs := P.map fun c => cs.getD (suitM c).toNat 0) (d := 0) (by simpa using hi), getD_drop (xs := P) (d := 0) hi, mostR, bestR, if_neg (by omega), hget i hi, Int.toNat_natCast, hget j hj]
  by_cases c : cs.getD (suitM (P.getD i 0)).toNat 0 > cs.getD (suitM (P.getD j 0)).toNat 0
  · rw [if_pos c, if_pos c]; exact ih i hi
  · rw [if_neg c, if_neg c]; exact ih j hj
theorem playM_cards (a0 a1 : Int) (a2 a3 : Bool) (a4 a5 : List Int) (a6 a7 : Int) (hs : List (List Int)) (st hp : List Int) (tu mo pa : Int) : ∀ c ∈ playM a0 a1 a2 a3 a4 a5 a6 a7 hs st hp tu mo pa, isC c = true := by
  intro c hc
  unfold playM at hc
  split at hc
  · have := (List.mem_filter.1 hc).2
    simp only [fitsM, Bool.and_eq_true] at this
    exact this.2.2.1
  · cases hc
noncomputable def choiceM (a0 a1 : Int) (a2 a3 : Bool) (a4 a5 : List Int) (a6 a7 : Int) (hs : List (List Int)) (st hp : List Int) (tu mo pa : Int) (kind : Int) : Int :=
  if (playM a0 a1 a2 a3 a4 a5 a6 a7 hs st hp tu mo pa).length = 0 then -1 else if kind = 0 then (playM a0 a1 a2 a3 a4 a5 a6 a7 hs st hp tu mo pa).getD 0 0 else if kind = 1 then (playM a0 a1 a2 a3 a4 a5 a6 a7 hs st hp tu mo pa).getD ((playM a0 a1 a2 a3 a4 a5 a6 a7 hs st hp tu mo pa).length - 1) 0 else if kind = 2 then bestR (countsM (hs.getD tu.toNat [])) (playM a0 a1 a2 a3 a4 a5 a6 a7 hs st hp tu mo pa) ((playM a0 a1 a2 a3 a4 a5 a6 a7 hs st hp tu mo pa).getD 0 0) else -1
theorem playM_valid (a0 a1 : Int) (a2 a3 : Bool) (a4 a5 : List Int) (a6 a7 : Int) (hs : List (List Int)) (st hp : List Int) (tu mo pa : Int) (h : ¬ (playM a0 a1 a2 a3 a4 a5 a6 a7 hs st hp tu mo pa).length = 0) : gameM a0 a1 a2 a3 a4 a5 a6 a7 hs st hp tu mo pa = true ∧ overM a0 a7 hs mo pa = false := by
  unfold playM at h
  split at h
  · rename_i hc
    simp only [Bool.and_eq_true, Bool.not_eq_true'] at hc; exact hc
  · exact absurd rfl h
theorem spec_ChoiceOf_ok (a0 a1 : Int) (a2 a3 : Bool) (a4 a5 : List Int) (a6 a7 : Int) (hs : List (List Int)) (st hp : List Int) (tu mo pa : Int) (kind : Int) (h4 : a4.length ≤ 1048576) (h5 : a5.length ≤ 1048576) (hh : G2 hs) (h9 : st.length ≤ 2097152) (h10 : hp.length ≤ 2097152) : spec_ChoiceOf a0 a1 a2 a3 a4 a5 a6 a7 hs st hp tu mo pa kind = some (choiceM a0 a1 a2 a3 a4 a5 a6 a7 hs st hp tu mo pa kind) := by
  have hpl := playM_length a0 a1 a2 a3 a4 a5 a6 a7 hs st hp tu mo pa
  have hcd := playM_cards a0 a1 a2 a3 a4 a5 a6 a7 hs st hp tu mo pa
  rw [spec_ChoiceOf_eq, spec_Playable_ok a0 a1 a2 a3 a4 a5 a6 a7 hs st hp tu mo pa h4 h5 hh h9 h10, Option.bind_some, choiceM]
  by_cases c0 : (playM a0 a1 a2 a3 a4 a5 a6 a7 hs st hp tu mo pa).length = 0
  · rw [if_pos (by rw [beq_iff_eq]; omega), if_pos c0]
  · obtain ⟨hg, ho⟩ := playM_valid a0 a1 a2 a3 a4 a5 a6 a7 hs st hp tu mo pa c0
    have v := gameM_valid a0 a1 a2 a3 a4 a5 a6 a7 hs st hp tu mo pa hg
    have v1 := v.t1; have v2 := v.t2; have v3 := v.players; have v4 := v.all
    have hrow := getD_le_flat hs tu.toNat
    generalize playM a0 a1 a2 a3 a4 a5 a6 a7 hs st hp tu mo pa = P at *
    rw [if_neg (by rw [beq_iff_eq]; omega), if_neg c0]
    by_cases k0 : kind = 0
    · simp (disch := (first | omega | (simp only [List.length_append, List.length_cons, List.length_nil, List.length_take, List.length_drop, List.length_set, List.length_replicate, List.length_singleton]; omega))) only [↓if_dpos, ↓if_dneg, ↓if_epos, ↓if_eneg, ↓if_npos, ↓if_nneg, ↓if_pos, ↓if_neg]
    · by_cases k1 : kind = 1
      · have w : IntKind.i64.wrap ((P.length : Int) - 1) = ((P.length - 1 : Nat) : Int) := by rw [wrap_id (by omega) (by omega)]; omega
        simp (disch := (first | omega | (simp only [List.length_append, List.length_cons, List.length_nil, List.length_take, List.length_drop, List.length_set, List.length_replicate, List.length_singleton]; omega))) only [↓if_dpos, ↓if_dneg, ↓if_epos, ↓if_eneg, ↓if_npos, ↓if_nneg, ↓if_pos, ↓if_neg, w, Int.toNat_natCast]
      · by_cases k2 : kind = 2
        · have e := spec_SuitCounts_ok (hs.getD tu.toNat []) (by omega)
          have hk := countsM_length (hs.getD tu.toNat [])
          simp (disch := (first | omega | (simp only [List.length_append, List.length_cons, List.length_nil, List.length_take, List.length_drop, List.length_set, List.length_replicate, List.length_singleton]; omega))) only [↓if_dpos, ↓if_dneg, ↓if_epos, ↓if_eneg, ↓if_npos, ↓if_nneg, ↓if_pos, ↓if_neg, e, Int.toNat_natCast, List.nil_append, Nat.zero_add, List.length_singleton, Option.bind_some, List.drop_zero, List.take_length, if_true, if_false]
          generalize countsM (hs.getD tu.toNat []) = cs at *
          obtain ⟨j', m1, m2, m3⟩ := most_best cs P 1 (by omega) 0 (by omega)
          have e0 : P = P.getD 0 0 :: P.drop 1 := by have := getD_drop (xs := P) (i := 0) (d := 0) (by omega); rwa [List.drop_zero] at this
          have eb : bestR cs P (P.getD 0 0) = bestR cs (P.drop 1) (P.getD 0 0) := by
            conv => lhs; arg 2; rw [e0]
            rw [bestR, if_neg (by omega)]
          have em : mostR (P.map fun c => cs.getD (suitM c).toNat 0) (P.map fun c => cs.getD (suitM c).toNat 0) (-1) 0 = (j' : Int) := by
            have e1 : (P.map fun c => cs.getD (suitM c).toNat 0) = cs.getD (suitM (P.getD 0 0)).toNat 0 :: (P.map fun c => cs.getD (suitM c).toNat 0).drop 1 := by
              conv => lhs; rw [e0]
              rw [List.map_cons, ← List.map_drop]
            conv => lhs; arg 2; rw [e1]
            rw [mostR, if_pos (by omega)]
            exact m1
          have h : ∀ i, i ≤ P.length → spec_ChoiceOf_L13 i P cs ((P.take i).map fun c => cs.getD (suitM c).toNat 0) = some (P.getD j' 0) := down (by
              have e2 := spec_MostOf_ok (P.map fun c => cs.getD (suitM c).toNat 0) (by simp; omega)
              rw [em] at e2
              rw [spec_ChoiceOf_L13_eq]
              simp (disch := (first | omega | (simp only [List.length_append, List.length_cons, List.length_nil, List.length_take, List.length_drop, List.length_set, List.length_replicate, List.length_singleton]; omega))) only [↓if_dpos, ↓if_dneg, ↓if_epos, ↓if_eneg, ↓if_npos, ↓if_nneg, ↓if_pos, ↓if_neg, Int.toNat_natCast, List.nil_append, Nat.zero_add, List.length_singleton, Option.bind_some, List.drop_zero, List.take_length, if_true, if_false, e2]) fun i hi ih => by
            have hs1 := suitM_bound (hcd _ (getD_mem (d := 0) hi))
            have hlen : ((P.take i).map fun c => cs.getD (suitM c).toNat 0).length ≤ i := by simp; omega
            have hil : (i : Int) < (P.length : Int) := by omega
            have hw : IntKind.i64.wrap ((i : Int) + 1) = ((i + 1 : Nat) : Int) := wrap_succ hi (by omega)
            rw [spec_ChoiceOf_L13_eq]
            simp (disch := (first | omega | (simp only [List.length_append, List.length_cons, List.length_nil, List.length_take, List.length_drop, List.length_set, List.length_replicate, List.length_singleton]; omega))) only [↓if_dpos, ↓if_dneg, ↓if_epos, ↓if_eneg, ↓if_npos, ↓if_nneg, ↓if_pos, ↓if_neg, hw, Int.toNat_natCast, List.nil_append, Nat.zero_add, List.length_singleton, Option.bind_some, List.drop_zero, List.take_length, if_true, if_false, spec_SuitOf_ok]
            rw [← ih, map_take (d := 0) hi]
          have h0 := h 0 (Nat.zero_le _)
          rw [eb, ← m3]
          exact h0
        · simp (disch := (first | omega | (simp only [List.length_append, List.length_cons, List.length_nil, List.length_take, List.length_drop, List.length_set, List.length_replicate, List.length_singleton]; omega))) only [↓if_dpos, ↓if_dneg, ↓if_epos, ↓if_eneg, ↓if_npos, ↓if_nneg, ↓if_pos, ↓if_neg]
theorem impl_ChoiceOf_ok (a0 a1 : Int) (a2 a3 : Bool) (a4 a5 : List Int) (a6 a7 : Int) (hs : List (List Int)) (st hp : List Int) (tu mo pa : Int) (kind : Int) (h4 : a4.length ≤ 1048576) (h5 : a5.length ≤ 1048576) (hh : G2 hs) (h9 : st.length ≤ 2097152) (h10 : hp.length ≤ 2097152) : impl_ChoiceOf a0 a1 a2 a3 a4 a5 a6 a7 hs st hp tu mo pa kind = some (choiceM a0 a1 a2 a3 a4 a5 a6 a7 hs st hp tu mo pa kind) := by
  have hpl := playM_length a0 a1 a2 a3 a4 a5 a6 a7 hs st hp tu mo pa
  have hcd := playM_cards a0 a1 a2 a3 a4 a5 a6 a7 hs st hp tu mo pa
  rw [impl_ChoiceOf_eq, impl_Playable_ok a0 a1 a2 a3 a4 a5 a6 a7 hs st hp tu mo pa h4 h5 hh h9 h10, Option.bind_some, choiceM]
  by_cases c0 : (playM a0 a1 a2 a3 a4 a5 a6 a7 hs st hp tu mo pa).length = 0
  · rw [if_pos (by rw [beq_iff_eq]; omega), if_pos c0]
  · obtain ⟨hg, ho⟩ := playM_valid a0 a1 a2 a3 a4 a5 a6 a7 hs st hp tu mo pa c0
    have v := gameM_valid a0 a1 a2 a3 a4 a5 a6 a7 hs st hp tu mo pa hg
    have v1 := v.t1; have v2 := v.t2; have v3 := v.players; have v4 := v.all
    have hrow := getD_le_flat hs tu.toNat
    generalize playM a0 a1 a2 a3 a4 a5 a6 a7 hs st hp tu mo pa = P at *
    rw [if_neg (by rw [beq_iff_eq]; omega), if_neg c0]
    by_cases k0 : kind = 0
    · simp (disch := (first | omega | (simp only [List.length_append, List.length_cons, List.length_nil, List.length_take, List.length_drop, List.length_set, List.length_replicate, List.length_singleton]; omega))) only [↓if_dpos, ↓if_dneg, ↓if_epos, ↓if_eneg, ↓if_npos, ↓if_nneg, ↓if_pos, ↓if_neg]
    · by_cases k1 : kind = 1
      · have w : IntKind.i64.wrap ((P.length : Int) - 1) = ((P.length - 1 : Nat) : Int) := by rw [wrap_id (by omega) (by omega)]; omega
        simp (disch := (first | omega | (simp only [List.length_append, List.length_cons, List.length_nil, List.length_take, List.length_drop, List.length_set, List.length_replicate, List.length_singleton]; omega))) only [↓if_dpos, ↓if_dneg, ↓if_epos, ↓if_eneg, ↓if_npos, ↓if_nneg, ↓if_pos, ↓if_neg, w, Int.toNat_natCast]
      · by_cases k2 : kind = 2
        · have e := impl_SuitCounts_ok (hs.getD tu.toNat []) (by omega)
          have hk := countsM_length (hs.getD tu.toNat [])
          simp (disch := (first | omega | (simp only [List.length_append, List.length_cons, List.length_nil, List.length_take, List.length_drop, List.length_set, List.length_replicate, List.length_singleton]; omega))) only [↓if_dpos, ↓if_dneg, ↓if_epos, ↓if_eneg, ↓if_npos, ↓if_nneg, ↓if_pos, ↓if_neg, e, Int.toNat_natCast, List.nil_append, Nat.zero_add, List.length_singleton, Option.bind_some, List.drop_zero, List.take_length, if_true, if_false]
          generalize countsM (hs.getD tu.toNat []) = cs at *
          have h : ∀ i, i ≤ P.length → ∀ b, isC b = true → impl_ChoiceOf_L12 b P.length i cs P = some (bestR cs (P.drop i) b) := down (by
              intro b hb
              rw [impl_ChoiceOf_L12_eq]
              simp (disch := (first | omega | (simp only [List.length_append, List.length_cons, List.length_nil, List.length_take, List.length_drop, List.length_set, List.length_replicate, List.length_singleton]; omega))) only [↓if_dpos, ↓if_dneg, ↓if_epos, ↓if_eneg, ↓if_npos, ↓if_nneg, ↓if_pos, ↓if_neg, Int.toNat_natCast, List.nil_append, Nat.zero_add, List.length_singleton, Option.bind_some, List.drop_zero, List.take_length, if_true, if_false, ]
              rw [List.drop_of_length_le (Nat.le_refl _)]; rfl) fun i hi ih b hb => by
            have hcc := hcd _ (getD_mem (d := 0) hi)
            have hs1 := suitM_bound hcc
            have hs2 := suitM_bound hb
            have hil : (i : Int) < (P.length : Int) := by omega
            have hw : IntKind.i64.wrap ((i : Int) + 1) = ((i + 1 : Nat) : Int) := wrap_succ hi (by omega)
            rw [impl_ChoiceOf_L12_eq]
            simp (disch := (first | omega | (simp only [List.length_append, List.length_cons, List.length_nil, List.length_take, List.length_drop, List.length_set, List.length_replicate, List.length_singleton]; omega))) only [↓if_dpos, ↓if_dneg, ↓if_epos, ↓if_eneg, ↓if_npos, ↓if_nneg, ↓if_pos, ↓if_neg, hw, Int.toNat_natCast, List.nil_append, Nat.zero_add, List.length_singleton, Option.bind_some, List.drop_zero, List.take_length, if_true, if_false, impl_SuitOf_ok]
            rw [getD_drop (d := 0) hi, bestR, ih _ hcc, ih _ hb]
            by_cases c : cs.getD (suitM (P.getD i 0)).toNat 0 > cs.getD (suitM b).toNat 0
            · rw [if_pos (decide_eq_true c), if_pos c]
            · rw [if_neg (by rw [decide_eq_true_eq]; exact c), if_neg c]
          exact h 0 (Nat.zero_le _) _ (hcd _ (getD_mem (by omega)))
        · simp (disch := (first | omega | (simp only [List.length_append, List.length_cons, List.length_nil, List.length_take, List.length_drop, List.length_set, List.length_replicate, List.length_singleton]; omega))) only [↓if_dpos, ↓if_dneg, ↓if_epos, ↓if_eneg, ↓if_npos, ↓if_nneg, ↓if_pos, ↓if_neg]
theorem bestR_mem (cs : List Int) : ∀ (t : List Int) (b : Int), bestR cs t b = b ∨ bestR cs t b ∈ t := by
  intro t
  induction t with
  | nil => intro b; exact .inl rfl
  | cons c t ih =>
    intro b
    rw [bestR]
    split
    · rcases ih c with e | e
      · exact .inr (by rw [e]; simp)
      · exact .inr (List.mem_cons_of_mem _ e)
    · rcases ih b with e | e
      · exact .inl e
      · exact .inr (List.mem_cons_of_mem _ e)
theorem choiceM_mem (a0 a1 : Int) (a2 a3 : Bool) (a4 a5 : List Int) (a6 a7 : Int) (hs : List (List Int)) (st hp : List Int) (tu mo pa : Int) (kind : Int) : choiceM a0 a1 a2 a3 a4 a5 a6 a7 hs st hp tu mo pa kind = -1 ∨ choiceM a0 a1 a2 a3 a4 a5 a6 a7 hs st hp tu mo pa kind ∈ playM a0 a1 a2 a3 a4 a5 a6 a7 hs st hp tu mo pa := by
  unfold choiceM
  by_cases c0 : (playM a0 a1 a2 a3 a4 a5 a6 a7 hs st hp tu mo pa).length = 0
  · rw [if_pos c0]; exact .inl rfl
  · rw [if_neg c0]
    have h0 : (playM a0 a1 a2 a3 a4 a5 a6 a7 hs st hp tu mo pa).getD 0 0 ∈ playM a0 a1 a2 a3 a4 a5 a6 a7 hs st hp tu mo pa := getD_mem (by omega)
    split
    · exact .inr h0
    · split
      · exact .inr (getD_mem (by omega))
      · split
        · rcases bestR_mem (countsM (hs.getD tu.toNat [])) (playM a0 a1 a2 a3 a4 a5 a6 a7 hs st hp tu mo pa) ((playM a0 a1 a2 a3 a4 a5 a6 a7 hs st hp tu mo pa).getD 0 0) with e | e
          · rw [e]; exact .inr h0
          · exact .inr e
        · exact .inl rfl
theorem spec_AutoMove_ok (a0 a1 : Int) (a2 a3 : Bool) (a4 a5 : List Int) (a6 a7 : Int) (hs : List (List Int)) (st hp : List Int) (tu mo pa : Int) (kind : Int) (h4 : a4.length ≤ 1048576) (h5 : a5.length ≤ 1048576) (hh : G2 hs) (h9 : st.length ≤ 2097152) (h10 : hp.length ≤ 2097152) : spec_AutoMove a0 a1 a2 a3 a4 a5 a6 a7 hs st hp tu mo pa kind = some (moveM a0 a1 a2 a3 a4 a5 a6 a7 hs st hp tu mo pa (choiceM a0 a1 a2 a3 a4 a5 a6 a7 hs st hp tu mo pa kind)) := by
  rw [spec_AutoMove_eq, spec_ChoiceOf_ok a0 a1 a2 a3 a4 a5 a6 a7 hs st hp tu mo pa kind h4 h5 hh h9 h10, Option.bind_some, spec_TakeCards_ok a0 a1 a2 a3 a4 a5 a6 a7 hs st hp tu mo pa h4 h5 hh h9 h10, spec_PlayOn_ok a0 a1 a2 a3 a4 a5 a6 a7 hs st hp tu mo pa _ h4 h5 hh h9 h10, moveM]
  rcases choiceM_mem a0 a1 a2 a3 a4 a5 a6 a7 hs st hp tu mo pa kind with e | e
  · rw [e]; rfl
  · have := (isC_iff.1 (playM_cards a0 a1 a2 a3 a4 a5 a6 a7 hs st hp tu mo pa _ e)).1
    rw [if_neg (by rw [decide_eq_true_eq]; omega), if_neg (by omega)]; rfl
theorem impl_AutoMove_ok (a0 a1 : Int) (a2 a3 : Bool) (a4 a5 : List Int) (a6 a7 : Int) (hs : List (List Int)) (st hp : List Int) (tu mo pa : Int) (kind : Int) (h4 : a4.length ≤ 1048576) (h5 : a5.length ≤ 1048576) (hh : G2 hs) (h9 : st.length ≤ 2097152) (h10 : hp.length ≤ 2097152) : impl_AutoMove a0 a1 a2 a3 a4 a5 a6 a7 hs st hp tu mo pa kind = some (moveM a0 a1 a2 a3 a4 a5 a6 a7 hs st hp tu mo pa (choiceM a0 a1 a2 a3 a4 a5 a6 a7 hs st hp tu mo pa kind)) := by
  rw [impl_AutoMove_eq, impl_ChoiceOf_ok a0 a1 a2 a3 a4 a5 a6 a7 hs st hp tu mo pa kind h4 h5 hh h9 h10, Option.bind_some, impl_ReplayMove_ok a0 a1 a2 a3 a4 a5 a6 a7 hs st hp tu mo pa _ h4 h5 hh h9 h10]; rfl
/-- The move of a kind of player is made just where the game goes on. -/
theorem auto_flag (a0 a1 : Int) (a2 a3 : Bool) (a4 a5 : List Int) (a6 a7 : Int) (hs : List (List Int)) (st hp : List Int) (tu mo pa : Int) (kind : Int) : (moveM a0 a1 a2 a3 a4 a5 a6 a7 hs st hp tu mo pa (choiceM a0 a1 a2 a3 a4 a5 a6 a7 hs st hp tu mo pa kind)).2.2.2.2.2.2.2.2.2.2.2.2.2.2 = (gameM a0 a1 a2 a3 a4 a5 a6 a7 hs st hp tu mo pa && !overM a0 a7 hs mo pa) := by
  rw [moveM]
  rcases choiceM_mem a0 a1 a2 a3 a4 a5 a6 a7 hs st hp tu mo pa kind with e | e
  · rw [if_pos e, takeM]
    cases gameM a0 a1 a2 a3 a4 a5 a6 a7 hs st hp tu mo pa && !overM a0 a7 hs mo pa <;> rfl
  · have hc := (isC_iff.1 (playM_cards a0 a1 a2 a3 a4 a5 a6 a7 hs st hp tu mo pa _ e)).1
    obtain ⟨g1, g2⟩ := playM_valid a0 a1 a2 a3 a4 a5 a6 a7 hs st hp tu mo pa (fun h => by rw [List.length_eq_zero_iff.1 h] at e; cases e)
    have hm : hasM (playM a0 a1 a2 a3 a4 a5 a6 a7 hs st hp tu mo pa) (choiceM a0 a1 a2 a3 a4 a5 a6 a7 hs st hp tu mo pa kind) = true := by simp [hasM, e]
    rw [if_neg (by omega), playOnM, if_pos hm, g1, g2]; rfl
end Go.Proofs.Ytdkhomhdapoeoaa.V
