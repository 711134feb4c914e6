/- Plain laws over the shapes. -/
import Derived.Test.YtoioaijpdiglfaaPDrawG
import Derived.Test.YtoioaijpdiglfaaFTakeCards
import Derived.Test.YtoioaijpdiglfaaS1
import Derived.Test.YtoioaijpdiglfaaS4
import Derived.Test.YtoioaijpdiglfaaS5
import Derived.Test.YtoioaijpdiglfaaS7
import Derived.Test.YtoioaijpdiglfaaS8
import Derived.Test.YtoioaijpdiglfaaS9
set_option linter.unusedVariables false
set_option linter.unusedSimpArgs false
set_option maxRecDepth 10000
namespace Go.Proofs.Ytoioaijpdiglfaa.V
open Go
noncomputable def moveM (a0 a1 : Int) (a2 a3 : Bool) (a4 a5 : List Int) (a6 a7 : Int) (hs : List (List Int)) (st hp : List Int) (tu mo pa : Int) (c : Int) : Int × Int × Bool × Bool × List Int × List Int × Int × Int × List (List Int) × List Int × List Int × Int × Int × Int × Bool :=
  if c = -1 then takeM a0 a1 a2 a3 a4 a5 a6 a7 hs st hp tu mo pa else playOnM a0 a1 a2 a3 a4 a5 a6 a7 hs st hp tu mo pa c
theorem move_good (a0 a1 : Int) (a2 a3 : Bool) (a4 a5 : List Int) (a6 a7 : Int) (hs : List (List Int)) (st hp : List Int) (tu mo pa : Int) (c : Int) (h4 : a4.length ≤ 1048576) (h5 : a5.length ≤ 1048576) (hh : G2 hs) (h9 : st.length ≤ 2097152) (h10 : hp.length ≤ 2097152) : ∃ r8 r9 r10 r11 r12 r13 r14, moveM a0 a1 a2 a3 a4 a5 a6 a7 hs st hp tu mo pa c = (a0, a1, a2, a3, a4, a5, a6, a7, r8, r9, r10, r11, r12, r13, r14) ∧ G2 r8 ∧ r9.length ≤ 2097152 ∧ r10.length ≤ 2097152 ∧ r8.length = hs.length ∧ (r14 = true → gameM a0 a1 a2 a3 a4 a5 a6 a7 hs st hp tu mo pa = true) := by
  rw [moveM]
  by_cases e : c = -1
  · rw [if_pos e, takeM]
    by_cases hc : (gameM a0 a1 a2 a3 a4 a5 a6 a7 hs st hp tu mo pa && !overM a0 a7 hs mo pa) = true
    · rw [if_pos hc]
      simp only [Bool.and_eq_true] at hc
      have v := gameM_valid a0 a1 a2 a3 a4 a5 a6 a7 hs st hp tu mo pa hc.1
      obtain ⟨k1, k2, k3⟩ := takeR_size a0 a1 a2 a3 a4 a5 a6 a7 hs st hp tu mo pa v
      have k4 := (takeR_sum tu.toNat a6.toNat 0 hs st hp (by have := v.t1; have := v.t2; have := v.players; omega) v.heap).1
      exact ⟨_, _, _, _, _, _, _, rfl, k1, by omega, by omega, k4, fun _ => hc.1⟩
    · rw [if_neg hc]
      exact ⟨_, _, _, _, _, _, _, rfl, hh, h9, h10, rfl, fun h => by cases h⟩
  · rw [if_neg e, playOnM]
    by_cases hc : hasM (playM a0 a1 a2 a3 a4 a5 a6 a7 hs st hp tu mo pa) c = true
    · rw [if_pos hc]
      obtain ⟨hg, _, _⟩ := playM_has a0 a1 a2 a3 a4 a5 a6 a7 hs st hp tu mo pa hc
      have ve := (gameM_valid a0 a1 a2 a3 a4 a5 a6 a7 hs st hp tu mo pa hg).all
      exact ⟨_, _, _, _, _, _, _, rfl, G2.set hh (Nat.le_trans (withoutM_length _ _) hh.at'), h9, by simp only [List.length_append, List.length_singleton]; omega, by simp, fun _ => hg⟩
    · rw [if_neg hc]
      exact ⟨_, _, _, _, _, _, _, rfl, hh, h9, h10, rfl, fun h => by cases h⟩
def mostR (full : List Int) : List Int → Int → Int → Int
  | [], k, _ => k
  | x :: t, k, i => if k < 0 then mostR full t i (i + 1) else if x > full.getD k.toNat 0 then mostR full t i (i + 1) else mostR full t k (i + 1)
theorem spec_MostOf_ok (l : List Int) (hl : l.length ≤ 4398046511104) : spec_MostOf l = some (mostR l l (-1) 0) := by
  have h : ∀ i, i ≤ l.length → ∀ k : Int, k < i → spec_MostOf_L3 l k i = some (mostR l (l.drop i) k i) := down (by
      intro k hk
      rw [spec_MostOf_L3_eq]
      simp (disch := (first | omega | (simp only [List.length_append, List.length_cons, List.length_nil, List.length_take, List.length_drop, List.length_set, List.length_replicate, List.length_singleton]; omega))) only [↓if_dpos, ↓if_dneg, ↓if_epos, ↓if_eneg, ↓if_npos, ↓if_nneg, ↓if_pos, ↓if_neg, Int.toNat_natCast, List.nil_append, Nat.zero_add, List.length_singleton, Option.bind_some, List.drop_zero, List.take_length, if_true, if_false, ]
      rw [List.drop_of_length_le (Nat.le_refl _)]; rfl) fun i hi ih k hk => by
    have hil : (i : Int) < (l.length : Int) := by omega
    have hw : IntKind.i64.wrap ((i : Int) + 1) = ((i + 1 : Nat) : Int) := wrap_succ hi (by omega)
    have i1 := ih i (by omega)
    have i2 := ih k (by omega)
    rw [spec_MostOf_L3_eq, getD_drop (d := 0) hi, mostR]
    by_cases hk0 : k < 0
    · simp (disch := (first | omega | (simp only [List.length_append, List.length_cons, List.length_nil, List.length_take, List.length_drop, List.length_set, List.length_replicate, List.length_singleton]; omega))) only [↓if_dpos, ↓if_dneg, ↓if_epos, ↓if_eneg, ↓if_npos, ↓if_nneg, ↓if_pos, ↓if_neg, hw, Int.toNat_natCast, List.nil_append, Nat.zero_add, List.length_singleton, Option.bind_some, List.drop_zero, List.take_length, if_true, if_false, i1]; rfl
    · simp (disch := (first | omega | (simp only [List.length_append, List.length_cons, List.length_nil, List.length_take, List.length_drop, List.length_set, List.length_replicate, List.length_singleton]; omega))) only [↓if_dpos, ↓if_dneg, ↓if_epos, ↓if_eneg, ↓if_npos, ↓if_nneg, ↓if_pos, ↓if_neg, hw, Int.toNat_natCast, List.nil_append, Nat.zero_add, List.length_singleton, Option.bind_some, List.drop_zero, List.take_length, if_true, if_false, i1, i2]
      by_cases c : l.getD i 0 > l.getD k.toNat 0
      · rw [if_pos (decide_eq_true c), if_pos c]; rfl
      · rw [if_neg (by simpa using c), if_neg c]; rfl
  rw [spec_MostOf_eq]
  exact h 0 (Nat.zero_le _) (-1) (by omega)
theorem impl_MostOf_ok (l : List Int) (hl : l.length ≤ 4398046511104) : impl_MostOf l = some (mostR l l (-1) 0) := by
  have h : ∀ i, i ≤ l.length → ∀ k : Int, k < i → impl_MostOf_L3 l k l l.length i = some (mostR l (l.drop i) k i) := down (by
      intro k hk
      rw [impl_MostOf_L3_eq]
      simp (disch := (first | omega | (simp only [List.length_append, List.length_cons, List.length_nil, List.length_take, List.length_drop, List.length_set, List.length_replicate, List.length_singleton]; omega))) only [↓if_dpos, ↓if_dneg, ↓if_epos, ↓if_eneg, ↓if_npos, ↓if_nneg, ↓if_pos, ↓if_neg, Int.toNat_natCast, List.nil_append, Nat.zero_add, List.length_singleton, Option.bind_some, List.drop_zero, List.take_length, if_true, if_false, ]
      rw [List.drop_of_length_le (Nat.le_refl _)]; rfl) fun i hi ih k hk => by
    have hil : (i : Int) < (l.length : Int) := by omega
    have hw : IntKind.i64.wrap ((i : Int) + 1) = ((i + 1 : Nat) : Int) := wrap_succ hi (by omega)
    have i1 := ih i (by omega)
    have i2 := ih k (by omega)
    rw [impl_MostOf_L3_eq, getD_drop (d := 0) hi, mostR]
    by_cases hk0 : k < 0
    · simp (disch := (first | omega | (simp only [List.length_append, List.length_cons, List.length_nil, List.length_take, List.length_drop, List.length_set, List.length_replicate, List.length_singleton]; omega))) only [↓if_dpos, ↓if_dneg, ↓if_epos, ↓if_eneg, ↓if_npos, ↓if_nneg, ↓if_pos, ↓if_neg, hw, Int.toNat_natCast, List.nil_append, Nat.zero_add, List.length_singleton, Option.bind_some, List.drop_zero, List.take_length, if_true, if_false, i1]; rfl
    · simp (disch := (first | omega | (simp only [List.length_append, List.length_cons, List.length_nil, List.length_take, List.length_drop, List.length_set, List.length_replicate, List.length_singleton]; omega))) only [↓if_dpos, ↓if_dneg, ↓if_epos, ↓if_eneg, ↓if_npos, ↓if_nneg, ↓if_pos, ↓if_neg, hw, Int.toNat_natCast, List.nil_append, Nat.zero_add, List.length_singleton, Option.bind_some, List.drop_zero, List.take_length, if_true, if_false, i1, i2]
      by_cases c : l.getD i 0 > l.getD k.toNat 0
      · rw [if_pos (decide_eq_true c), if_pos c]; rfl
      · rw [if_neg (by simpa using c), if_neg c]; rfl
  rw [impl_MostOf_eq]
  exact h 0 (Nat.zero_le _) (-1) (by omega)
def cntStep (r : List Int) (c : Int) : List Int := if isC c = true then r.set (suitM c).toNat (IntKind.i64.wrap (r.getD (suitM c).toNat 0 + 1)) else r
def countsM (l : List Int) : List Int := l.foldl cntStep (List.replicate 4 0)
theorem cnt_foldl_len (l : List Int) : ∀ r : List Int, (l.foldl cntStep r).length = r.length := by
  induction l with
  | nil => intro r; rfl
  | cons c l ih =>
    intro r
    rw [List.foldl_cons, ih, cntStep]
    split <;> simp
theorem countsM_length (l : List Int) : (countsM l).length = 4 := by rw [countsM, cnt_foldl_len]; rfl
theorem suitM_bound {c : Int} (h : isC c = true) : 0 ≤ suitM c ∧ suitM c ≤ 3 := by
  obtain ⟨h1, h2⟩ := isC_iff.1 h
  unfold suitM
  have e := Int.tdiv_eq_ediv_of_nonneg (b := 13) h1
  rw [if_pos h, wrap_id (by omega) (by omega), e]
  omega
theorem suitM_no {c : Int} (h : isC c = false) : suitM c = -1 := by unfold suitM; rw [h]; rfl
theorem spec_SuitCounts_ok (l : List Int) (hl : l.length ≤ 4398046511104) : spec_SuitCounts l = some (countsM l) := by
  have h : ∀ i, i ≤ l.length → spec_SuitCounts_L3 l i (countsM (l.take i)) = some (countsM l) := down (by
      rw [spec_SuitCounts_L3_eq]
      simp (disch := (first | omega | (simp only [List.length_append, List.length_cons, List.length_nil, List.length_take, List.length_drop, List.length_set, List.length_replicate, List.length_singleton]; omega))) only [↓if_dpos, ↓if_dneg, ↓if_epos, ↓if_eneg, ↓if_npos, ↓if_nneg, ↓if_pos, ↓if_neg, Int.toNat_natCast, List.nil_append, Nat.zero_add, List.length_singleton, Option.bind_some, List.drop_zero, List.take_length, if_true, if_false, ]) fun i hi ih => by
    have hk := countsM_length (l.take i)
    have hil : (i : Int) < (l.length : Int) := by omega
    have hw : IntKind.i64.wrap ((i : Int) + 1) = ((i + 1 : Nat) : Int) := wrap_succ hi (by omega)
    rw [spec_SuitCounts_L3_eq]
    simp (disch := (first | omega | (simp only [List.length_append, List.length_cons, List.length_nil, List.length_take, List.length_drop, List.length_set, List.length_replicate, List.length_singleton]; omega))) only [↓if_dpos, ↓if_dneg, ↓if_epos, ↓if_eneg, ↓if_npos, ↓if_nneg, ↓if_pos, ↓if_neg, hw, Int.toNat_natCast, List.nil_append, Nat.zero_add, List.length_singleton, Option.bind_some, List.drop_zero, List.take_length, if_true, if_false, spec_SuitOf_ok]
    rw [← ih]
    have e : countsM (l.take (i + 1)) = cntStep (countsM (l.take i)) (l.getD i 0) := by unfold countsM; rw [foldl_take (d := 0) hi]
    rw [e, cntStep]
    cases hc : isC (l.getD i 0)
    · have := suitM_no hc
      simp (disch := (first | omega | (simp only [List.length_append, List.length_cons, List.length_nil, List.length_take, List.length_drop, List.length_set, List.length_replicate, List.length_singleton]; omega))) only [↓if_dpos, ↓if_dneg, ↓if_epos, ↓if_eneg, ↓if_npos, ↓if_nneg, ↓if_pos, ↓if_neg, Bool.false_eq_true, if_false]
    · have := suitM_bound hc
      simp (disch := (first | omega | (simp only [List.length_append, List.length_cons, List.length_nil, List.length_take, List.length_drop, List.length_set, List.length_replicate, List.length_singleton]; omega))) only [↓if_dpos, ↓if_dneg, ↓if_epos, ↓if_eneg, ↓if_npos, ↓if_nneg, ↓if_pos, ↓if_neg, if_true]
  rw [spec_SuitCounts_eq]
  simp (disch := (first | omega | (simp only [List.length_append, List.length_cons, List.length_nil, List.length_take, List.length_drop, List.length_set, List.length_replicate, List.length_singleton]; omega))) only [↓if_dpos, ↓if_dneg, ↓if_epos, ↓if_eneg, ↓if_npos, ↓if_nneg, ↓if_pos, ↓if_neg, Int.toNat_natCast, List.nil_append, Nat.zero_add, List.length_singleton, Option.bind_some, List.drop_zero, List.take_length, if_true, if_false]
  exact h 0 (Nat.zero_le _)
def bestR (cs : List Int) : List Int → Int → Int
  | [], b => b
  | c :: t, b => if cs.getD (suitM c).toNat 0 > cs.getD (suitM b).toNat 0 then bestR cs t c else bestR cs t b
theorem most_best (cs P : List Int) : ∀ i, i ≤ P.length → ∀ j : Nat, j < P.length →
    ∃ j' : Nat, mostR (P.map fun c => cs.getD (suitM c).toNat 0) ((P.map fun c => cs.getD (suitM c).toNat 0).drop i) j i = (j' : Int) ∧ j' < P.length ∧ P.getD j' 0 = bestR cs (P.drop i) (P.getD j 0) := by
  have hget : ∀ k : Nat, k < P.length → (P.map fun c => cs.getD (suitM c).toNat 0).getD k 0 = cs.getD (suitM (P.getD k 0)).toNat 0 := fun k hk => by
    rw [List.getD_eq_getElem?_getD, List.getElem?_map, List.getElem?_eq_getElem hk]
    rw [show P.getD k 0 = P[k] by rw [List.getD_eq_getElem?_getD, List.getElem?_eq_getElem hk]; rfl]
    rfl
  refine down (by
    intro j hj
    rw [List.drop_of_length_le (by simp), List.drop_of_length_le (Nat.le_refl _)]
    exact ⟨j, rfl, hj, rfl⟩) fun i hi ih j hj => ?_
  rw [getD_drop (xs := P.map fun c => cs.getD (suitM c).toNat 0) (d := 0) (by simpa using hi), getD_drop (xs := P) (d := 0) hi, mostR, bestR, if_neg (by omega), hget i hi, Int.toNat_natCast, hget j hj]
  by_cases c : cs.getD (suitM (P.getD i 0)).toNat 0 > cs.getD (suitM (P.getD j 0)).toNat 0
  · rw [if_pos c, if_pos c]; exact ih i hi
  · rw [if_neg c, if_neg c]; exact ih j hj
theorem playM_cards (a0 a1 : Int) (a2 a3 : Bool) (a4 a5 : List Int) (a6 a7 : Int) (hs : List (List Int)) (st hp : List Int) (tu mo pa : Int) : ∀ c ∈ playM a0 a1 a2 a3 a4 a5 a6 a7 hs st hp tu mo pa, isC c = true := by
  intro c hc
  unfold playM at hc
  split at hc
  · have := (List.mem_filter.1 hc).2
    simp only [fitsM, Bool.and_eq_true] at this
    exact this.2.2.1
  · cases hc
noncomputable def choiceM (a0 a1 : Int) (a2 a3 : Bool) (a4 a5 : List Int) (a6 a7 : Int) (hs : List (List Int)) (st hp : List Int) (tu mo pa : Int) (kind : Int) : Int :=
  if (playM a0 a1 a2 a3 a4 a5 a6 a7 hs st hp tu mo pa).length = 0 then -1 else if kind = 0 then (playM a0 a1 a2 a3 a4 a5 a6 a7 hs st hp tu mo pa).getD 0 0 else if kind = 1 then (playM a0 a1 a2 a3 a4 a5 a6 a7 hs st hp tu mo pa).getD ((playM a0 a1 a2 a3 a4 a5 a6 a7 hs st hp tu mo pa).length - 1) 0 else if kind = 2 then bestR (countsM (hs.getD tu.toNat [])) (playM a0 a1 a2 a3 a4 a5 a6 a7 hs st hp tu mo pa) ((playM a0 a1 a2 a3 a4 a5 a6 a7 hs st hp tu mo pa).getD 0 0) else -1
theorem playM_valid (a0 a1 : Int) (a2 a3 : Bool) (a4 a5 : List Int) (a6 a7 : Int) (hs : List (List Int)) (st hp : List Int) (tu mo pa : Int) (h : ¬ (playM a0 a1 a2 a3 a4 a5 a6 a7 hs st hp tu mo pa).length = 0) : gameM a0 a1 a2 a3 a4 a5 a6 a7 hs st hp tu mo pa = true ∧ overM a0 a7 hs mo pa = false := by
  unfold playM at h
  split at h
  · rename_i hc
    simp only [Bool.and_eq_true, Bool.not_eq_true'] at hc; exact hc
  · exact absurd rfl h
theorem spec_ChoiceOf_ok (a0 a1 : Int) (a2 a3 : Bool) (a4 a5 : List Int) (a6 a7 : Int) (hs : List (List Int)) (st hp : List Int) (tu mo pa : Int) (kind : Int) (h4 : a4.length ≤ 1048576) (h5 : a5.length ≤ 1048576) (hh : G2 hs) (h9 : st.length ≤ 2097152) (h10 : hp.length ≤ 2097152) : spec_ChoiceOf a0 a1 a2 a3 a4 a5 a6 a7 hs st hp tu mo pa kind = some (choiceM a0 a1 a2 a3 a4 a5 a6 a7 hs st hp tu mo pa kind) := by
  have hpl := playM_length a0 a1 a2 a3 a4 a5 a6 a7 hs st hp tu mo pa
  have hcd := playM_cards a0 a1 a2 a3 a4 a5 a6 a7 hs st hp tu mo pa
  rw [spec_ChoiceOf_eq, spec_Playable_ok a0 a1 a2 a3 a4 a5 a6 a7 hs st hp tu mo pa h4 h5 hh h9 h10, Option.bind_some, choiceM]
  by_cases c0 : (playM a0 a1 a2 a3 a4 a5 a6 a7 hs st hp tu mo pa).length = 0
  · rw [if_pos (by rw [beq_iff_eq]; omega), if_pos c0]
  · obtain ⟨hg, ho⟩ := playM_valid a0 a1 a2 a3 a4 a5 a6 a7 hs st hp tu mo pa c0
    have v := gameM_valid a0 a1 a2 a3 a4 a5 a6 a7 hs st hp tu mo pa hg
    have v1 := v.t1; have v2 := v.t2; have v3 := v.players; have v4 := v.all
    have hrow := getD_le_flat hs tu.toNat
    generalize playM a0 a1 a2 a3 a4 a5 a6 a7 hs st hp tu mo pa = P at *
    rw [if_neg (by rw [beq_iff_eq]; omega), if_neg c0]
    by_cases k0 : kind = 0
    · simp (disch := (first | omega | (simp only [List.length_append, List.length_cons, List.length_nil, List.length_take, List.length_drop, List.length_set, List.length_replicate, List.length_singleton]; omega))) only [↓if_dpos, ↓if_dneg, ↓if_epos, ↓if_eneg, ↓if_npos, ↓if_nneg, ↓if_pos, ↓if_neg]
    · by_cases k1 : kind = 1
      · have w : IntKind.i64.wrap ((P.length : Int) - 1) = ((P.length - 1 : Nat) : Int) := by rw [wrap_id (by omega) (by omega)]; omega
        simp (disch := (first | omega | (simp only [List.length_append, List.length_cons, List.length_nil, List.length_take, List.length_drop, List.length_set, List.length_replicate, List.length_singleton]; omega))) only [↓if_dpos, ↓if_dneg, ↓if_epos, ↓if_eneg, ↓if_npos, ↓if_nneg, ↓if_pos, ↓if_neg, w, Int.toNat_natCast]
      · by_cases k2 : kind = 2
        · have e := spec_SuitCounts_ok (hs.getD tu.toNat []) (by omega)
          have hk := countsM_length (hs.getD tu.toNat [])
          simp (disch := (first | omega | (simp only [List.length_append, List.length_cons, List.length_nil, List.length_take, List.length_drop, List.length_set, List.length_replicate, List.length_singleton]; omega))) only [↓if_dpos, ↓if_dneg, ↓if_epos, ↓if_eneg, ↓if_npos, ↓if_nneg, ↓if_pos, ↓if_neg, e, Int.toNat_natCast, List.nil_append, Nat.zero_add, List.length_singleton, Option.bind_some, List.drop_zero, List.take_length, if_true, if_false]
          generalize countsM (hs.getD tu.toNat []) = cs at *
          obtain ⟨j', m1, m2, m3⟩ := most_best cs P 1 (by omega) 0 (by omega)
          have e0 : P = P.getD 0 0 :: P.drop 1 := by have := getD_drop (xs := P) (i := 0) (d := 0) (by omega); rwa [List.drop_zero] at this
          have eb : bestR cs P (P.getD 0 0) = bestR cs (P.drop 1) (P.getD 0 0) := by
            conv => lhs; arg 2; rw [e0]
            rw [bestR, if_neg (by omega)]
          have em : mostR (P.map fun c => cs.getD (suitM c).toNat 0) (P.map fun c => cs.getD (suitM c).toNat 0) (-1) 0 = (j' : Int) := by
            have e1 : (P.map fun c => cs.getD (suitM c).toNat 0) = cs.getD (suitM (P.getD 0 0)).toNat 0 :: (P.map fun c => cs.getD (suitM c).toNat 0).drop 1 := by
              conv => lhs; rw [e0]
              rw [List.map_cons, ← List.map_drop]
            conv => lhs; arg 2; rw [e1]
            rw [mostR, if_pos (by omega)]
            exact m1
          have h : ∀ i, i ≤ P.length → spec_ChoiceOf_L13 i P cs ((P.take i).map fun c => cs.getD (suitM c).toNat 0) = some (P.getD j' 0) := down (by
              have e2 := spec_MostOf_ok (P.map fun c => cs.getD (suitM c).toNat 0) (by simp; omega)
              rw [em] at e2
              rw [spec_ChoiceOf_L13_eq]
              simp (disch := (first | omega | (simp only [List.length_append, List.length_cons, List.length_nil, List.length_take, List.length_drop, List.length_set, List.length_replicate, List.length_singleton]; omega))) only [↓if_dpos, ↓if_dneg, ↓if_epos, ↓if_eneg, ↓if_npos, ↓if_nneg, ↓if_pos, ↓if_neg, Int.toNat_natCast, List.nil_append, Nat.zero_add, List.length_singleton, Option.bind_some, List.drop_zero, List.take_length, if_true, if_false, e2]) fun i hi ih => by
            have hs1 := suitM_bound (hcd _ (getD_mem (d := 0) hi))
            have hlen : ((P.take i).map fun c => cs.getD (suitM c).toNat 0).length ≤ i := by simp; omega
            have hil : (i : Int) < (P.length : Int) := by omega
            have hw : IntKind.i64.wrap ((i : Int) + 1) = ((i + 1 : Nat) : Int) := wrap_succ hi (by omega)
            rw [spec_ChoiceOf_L13_eq]
            simp (disch := (first | omega | (simp only [List.length_append, List.length_cons, List.length_nil, List.length_take, List.length_drop, List.length_set, List.length_replicate, List.length_singleton]; omega))) only [↓if_dpos, ↓if_dneg, ↓if_epos, ↓if_eneg, ↓if_npos, ↓if_nneg, ↓if_pos, ↓if_neg, hw, Int.toNat_natCast, List.nil_append, Nat.zero_add, List.length_singleton, Option.bind_some, List.drop_zero, List.take_length, if_true, if_false, spec_SuitOf_ok]
            rw [← ih, map_take (d := 0) hi]
          have h0 := h 0 (Nat.zero_le _)
          rw [eb, ← m3]
          exact h0
        · simp (disch := (first | omega | (simp only [List.length_append, List.length_cons, List.length_nil, List.length_take, List.length_drop, List.length_set, List.length_replicate, List.length_singleton]; omega))) only [↓if_dpos, ↓if_dneg, ↓if_epos, ↓if_eneg, ↓if_npos, ↓if_nneg, ↓if_pos, ↓if_neg]
theorem bestR_mem (cs : List Int) : ∀ (t : List Int) (b : Int), bestR cs t b = b ∨ bestR cs t b ∈ t := by
  intro t
  induction t with
  | nil => intro b; exact .inl rfl
  | cons c t ih =>
    intro b
    rw [bestR]
    split
    · rcases ih c with e | e
      · exact .inr (by rw [e]; simp)
      · exact .inr (List.mem_cons_of_mem _ e)
    · rcases ih b with e | e
      · exact .inl e
      · exact .inr (List.mem_cons_of_mem _ e)
theorem choiceM_mem (a0 a1 : Int) (a2 a3 : Bool) (a4 a5 : List Int) (a6 a7 : Int) (hs : List (List Int)) (st hp : List Int) (tu mo pa : Int) (kind : Int) : choiceM a0 a1 a2 a3 a4 a5 a6 a7 hs st hp tu mo pa kind = -1 ∨ choiceM a0 a1 a2 a3 a4 a5 a6 a7 hs st hp tu mo pa kind ∈ playM a0 a1 a2 a3 a4 a5 a6 a7 hs st hp tu mo pa := by
  unfold choiceM
  by_cases c0 : (playM a0 a1 a2 a3 a4 a5 a6 a7 hs st hp tu mo pa).length = 0
  · rw [if_pos c0]; exact .inl rfl
  · rw [if_neg c0]
    have h0 : (playM a0 a1 a2 a3 a4 a5 a6 a7 hs st hp tu mo pa).getD 0 0 ∈ playM a0 a1 a2 a3 a4 a5 a6 a7 hs st hp tu mo pa := getD_mem (by omega)
    split
    · exact .inr h0
    · split
      · exact .inr (getD_mem (by omega))
      · split
        · rcases bestR_mem (countsM (hs.getD tu.toNat [])) (playM a0 a1 a2 a3 a4 a5 a6 a7 hs st hp tu mo pa) ((playM a0 a1 a2 a3 a4 a5 a6 a7 hs st hp tu mo pa).getD 0 0) with e | e
          · rw [e]; exact .inr h0
          · exact .inr e
        · exact .inl rfl
theorem spec_AutoMove_ok (a0 a1 : Int) (a2 a3 : Bool) (a4 a5 : List Int) (a6 a7 : Int) (hs : List (List Int)) (st hp : List Int) (tu mo pa : Int) (kind : Int) (h4 : a4.length ≤ 1048576) (h5 : a5.length ≤ 1048576) (hh : G2 hs) (h9 : st.length ≤ 2097152) (h10 : hp.length ≤ 2097152) : spec_AutoMove a0 a1 a2 a3 a4 a5 a6 a7 hs st hp tu mo pa kind = some (moveM a0 a1 a2 a3 a4 a5 a6 a7 hs st hp tu mo pa (choiceM a0 a1 a2 a3 a4 a5 a6 a7 hs st hp tu mo pa kind)) := by
  rw [spec_AutoMove_eq, spec_ChoiceOf_ok a0 a1 a2 a3 a4 a5 a6 a7 hs st hp tu mo pa kind h4 h5 hh h9 h10, Option.bind_some, spec_TakeCards_ok a0 a1 a2 a3 a4 a5 a6 a7 hs st hp tu mo pa h4 h5 hh h9 h10, spec_PlayOn_ok a0 a1 a2 a3 a4 a5 a6 a7 hs st hp tu mo pa _ h4 h5 hh h9 h10, moveM]
  rcases choiceM_mem a0 a1 a2 a3 a4 a5 a6 a7 hs st hp tu mo pa kind with e | e
  · rw [e]; rfl
  · have := (isC_iff.1 (playM_cards a0 a1 a2 a3 a4 a5 a6 a7 hs st hp tu mo pa _ e)).1
    rw [if_neg (by rw [decide_eq_true_eq]; omega), if_neg (by omega)]; rfl
/-- The move of a kind of player is made just where the game goes on. -/
theorem auto_flag (a0 a1 : Int) (a2 a3 : Bool) (a4 a5 : List Int) (a6 a7 : Int) (hs : List (List Int)) (st hp : List Int) (tu mo pa : Int) (kind : Int) : (moveM a0 a1 a2 a3 a4 a5 a6 a7 hs st hp tu mo pa (choiceM a0 a1 a2 a3 a4 a5 a6 a7 hs st hp tu mo pa kind)).2.2.2.2.2.2.2.2.2.2.2.2.2.2 = (gameM a0 a1 a2 a3 a4 a5 a6 a7 hs st hp tu mo pa && !overM a0 a7 hs mo pa) := by
  rw [moveM]
  rcases choiceM_mem a0 a1 a2 a3 a4 a5 a6 a7 hs st hp tu mo pa kind with e | e
  · rw [if_pos e, takeM]
    cases gameM a0 a1 a2 a3 a4 a5 a6 a7 hs st hp tu mo pa && !overM a0 a7 hs mo pa <;> rfl
  · have hc := (isC_iff.1 (playM_cards a0 a1 a2 a3 a4 a5 a6 a7 hs st hp tu mo pa _ e)).1
    obtain ⟨g1, g2⟩ := playM_valid a0 a1 a2 a3 a4 a5 a6 a7 hs st hp tu mo pa (fun h => by rw [List.length_eq_zero_iff.1 h] at e; cases e)
    have hm : hasM (playM a0 a1 a2 a3 a4 a5 a6 a7 hs st hp tu mo pa) (choiceM a0 a1 a2 a3 a4 a5 a6 a7 hs st hp tu mo pa kind) = true := by simp [hasM, e]
    rw [if_neg (by omega), playOnM, if_pos hm, g1, g2]; rfl
def leftM (hs : List (List Int)) : List Int := hs.map valsM
theorem leftM_length (hs : List (List Int)) : (leftM hs).length = hs.length := by simp [leftM]
theorem impl_LeftPoints_ok (a0 a1 : Int) (a2 a3 : Bool) (a4 a5 : List Int) (a6 a7 : Int) (hs : List (List Int)) (st hp : List Int) (tu mo pa : Int) (hh : G2 hs) : impl_LeftPoints a0 a1 a2 a3 a4 a5 a6 a7 hs st hp tu mo pa = some (leftM hs) := by
  have hl := hh.len
  have h : ∀ i, i ≤ hs.length → impl_LeftPoints_L3 hs hs.length i (leftM (hs.take i)) = some (leftM hs) := down (by
      rw [impl_LeftPoints_L3_eq]
      simp (disch := (first | omega | (simp only [List.length_append, List.length_cons, List.length_nil, List.length_take, List.length_drop, List.length_set, List.length_replicate, List.length_singleton]; omega))) only [↓if_dpos, ↓if_dneg, ↓if_epos, ↓if_eneg, ↓if_npos, ↓if_nneg, ↓if_pos, ↓if_neg, Int.toNat_natCast, List.nil_append, Nat.zero_add, List.length_singleton, Option.bind_some, List.drop_zero, List.take_length, if_true, if_false, ]) fun i hi ih => by
    have hk : (leftM (hs.take i)).length ≤ i := by rw [leftM_length]; simp; omega
    have e := impl_values_ok (hs.getD i []) (Nat.le_trans (hh.row _ (getD_mem hi)) (by omega))
    have hil : (i : Int) < (hs.length : Int) := by omega
    have hw : IntKind.i64.wrap ((i : Int) + 1) = ((i + 1 : Nat) : Int) := wrap_succ hi (by omega)
    rw [impl_LeftPoints_L3_eq]
    simp (disch := (first | omega | (simp only [List.length_append, List.length_cons, List.length_nil, List.length_take, List.length_drop, List.length_set, List.length_replicate, List.length_singleton]; omega))) only [↓if_dpos, ↓if_dneg, ↓if_epos, ↓if_eneg, ↓if_npos, ↓if_nneg, ↓if_pos, ↓if_neg, hw, Int.toNat_natCast, List.nil_append, Nat.zero_add, List.length_singleton, Option.bind_some, List.drop_zero, List.take_length, if_true, if_false, e]
    rw [← ih]
    unfold leftM
    rw [map_take (d := []) hi]
  rw [impl_LeftPoints_eq]
  exact h 0 (Nat.zero_le _)
def negL (l : List Int) : List Int := l.map fun x => IntKind.i64.wrap (0 - x)
theorem negL_get {l : List Int} {i : Nat} (hi : i < l.length) : (negL l).getD i 0 = IntKind.i64.wrap (0 - l.getD i 0) := by
  rw [negL, List.getD_eq_getElem?_getD, List.getElem?_map, List.getElem?_eq_getElem hi, List.getD_eq_getElem?_getD, List.getElem?_eq_getElem hi]; rfl
def settledM (a0 a1 : Int) (a2 a3 : Bool) (a4 a5 : List Int) (a6 a7 : Int) (hs : List (List Int)) (st hp : List Int) (tu mo pa : Int) : List Int := if gameM a0 a1 a2 a3 a4 a5 a6 a7 hs st hp tu mo pa = true then (if fstM hs 0 < 0 then List.replicate hs.length 0 else (negL (leftM hs)).set (fstM hs 0).toNat (sumW (leftM hs))) else []
theorem fstM_lt : ∀ (l : List (List Int)) (i : Int), 0 ≤ i → fstM l i = -1 ∨ (i ≤ fstM l i ∧ fstM l i < i + (l.length : Int))
  | [], _, _ => .inl rfl
  | x :: l, i, hi => by
    rw [fstM]
    split
    · right; simp only [List.length_cons]; omega
    · have := fstM_lt l (i + 1) (by omega)
      simp only [List.length_cons]; omega
theorem impl_Settled_ok (a0 a1 : Int) (a2 a3 : Bool) (a4 a5 : List Int) (a6 a7 : Int) (hs : List (List Int)) (st hp : List Int) (tu mo pa : Int) (h4 : a4.length ≤ 1048576) (h5 : a5.length ≤ 1048576) (hh : G2 hs) (h9 : st.length ≤ 2097152) (h10 : hp.length ≤ 2097152) : impl_Settled a0 a1 a2 a3 a4 a5 a6 a7 hs st hp tu mo pa = some (settledM a0 a1 a2 a3 a4 a5 a6 a7 hs st hp tu mo pa) := by
  have hl := hh.len
  have hq := leftM_length hs
  rw [impl_Settled_eq, impl_IsGame_ok a0 a1 a2 a3 a4 a5 a6 a7 hs st hp tu mo pa h4 h5 hh h9 h10, Option.bind_some, settledM]
  cases hg : gameM a0 a1 a2 a3 a4 a5 a6 a7 hs st hp tu mo pa
  · rfl
  · rw [if_neg (by simp), impl_Winner_ok a0 a1 a2 a3 a4 a5 a6 a7 hs st hp tu mo pa h4 h5 hh h9 h10, Option.bind_some, impl_LeftPoints_ok a0 a1 a2 a3 a4 a5 a6 a7 hs st hp tu mo pa hh, Option.bind_some, winM, hg, if_pos rfl, if_pos rfl]
    by_cases hw0 : fstM hs 0 < 0
    · simp (disch := (first | omega | (simp only [List.length_append, List.length_cons, List.length_nil, List.length_take, List.length_drop, List.length_set, List.length_replicate, List.length_singleton]; omega))) only [↓if_dpos, ↓if_dneg, ↓if_epos, ↓if_eneg, ↓if_npos, ↓if_nneg, ↓if_pos, ↓if_neg, Int.toNat_natCast, List.nil_append, Nat.zero_add, List.length_singleton, Option.bind_some, List.drop_zero, List.take_length, if_true, if_false, hq, if_true]
    · have hf := (fstM_lt hs 0 (Int.le_refl _)).resolve_left (by omega)
      have h : ∀ i, i ≤ (leftM hs).length → impl_Settled_L8 (fstM hs 0) (leftM hs).length i (leftM hs) ((negL (leftM hs)).take i ++ List.replicate ((leftM hs).length - i) 0) = some ((negL (leftM hs)).set (fstM hs 0).toNat (sumW (leftM hs))) := down (by
          have hk : ((negL (leftM hs)).take (leftM hs).length ++ List.replicate ((leftM hs).length - (leftM hs).length) 0) = negL (leftM hs) := by
            rw [Nat.sub_self, List.take_of_length_le (by simp [negL])]; simp
          have hk2 : (negL (leftM hs)).length = hs.length := by simp [negL, hq]
          rw [hk]
          rw [impl_Settled_L8_eq]
          simp (disch := (first | omega | (simp only [List.length_append, List.length_cons, List.length_nil, List.length_take, List.length_drop, List.length_set, List.length_replicate, List.length_singleton]; omega))) only [↓if_dpos, ↓if_dneg, ↓if_epos, ↓if_eneg, ↓if_npos, ↓if_nneg, ↓if_pos, ↓if_neg, Int.toNat_natCast, List.nil_append, Nat.zero_add, List.length_singleton, Option.bind_some, List.drop_zero, List.take_length, if_true, if_false, impl_sum_ok _ (by omega : (leftM hs).length ≤ 4398046511104), hk2]) fun i hi ih => by
        have hk2 : (negL (leftM hs)).length = (leftM hs).length := by simp [negL]
        have hk : ((negL (leftM hs)).take i ++ List.replicate ((leftM hs).length - i) 0).length = (leftM hs).length := by simp [negL]; omega
        have hil : (i : Int) < ((leftM hs).length : Int) := by omega
        have hw : IntKind.i64.wrap ((i : Int) + 1) = ((i + 1 : Nat) : Int) := wrap_succ hi (by omega)
        rw [impl_Settled_L8_eq]
        simp (disch := (first | omega | (simp only [List.length_append, List.length_cons, List.length_nil, List.length_take, List.length_drop, List.length_set, List.length_replicate, List.length_singleton]; omega))) only [↓if_dpos, ↓if_dneg, ↓if_epos, ↓if_eneg, ↓if_npos, ↓if_nneg, ↓if_pos, ↓if_neg, hw, Int.toNat_natCast, List.nil_append, Nat.zero_add, List.length_singleton, Option.bind_some, List.drop_zero, List.take_length, if_true, if_false, hk]
        rw [← ih]
        congr 1
        have h1 : ((negL (leftM hs)).take i).length = i := by simp [negL]; omega
        have h2 : List.replicate ((leftM hs).length - i) (0 : Int) = 0 :: List.replicate ((leftM hs).length - (i + 1)) 0 := by
          rw [show (leftM hs).length - i = ((leftM hs).length - (i + 1)) + 1 by omega]; rfl
        rw [List.set_append_right _ _ (by omega), h1, Nat.sub_self, h2, List.set_cons_zero, take_succ_getD (d := 0) (by omega : i < (negL (leftM hs)).length), List.append_assoc]
        rw [negL_get hi]; rfl
      have h0 := h 0 (Nat.zero_le _)
      rw [List.take_zero, List.nil_append, Nat.sub_zero] at h0
      simp (disch := (first | omega | (simp only [List.length_append, List.length_cons, List.length_nil, List.length_take, List.length_drop, List.length_set, List.length_replicate, List.length_singleton]; omega))) only [↓if_dpos, ↓if_dneg, ↓if_epos, ↓if_eneg, ↓if_npos, ↓if_nneg, ↓if_pos, ↓if_neg, Int.toNat_natCast, List.nil_append, Nat.zero_add, List.length_singleton, Option.bind_some, List.drop_zero, List.take_length, if_true, if_false]
      exact h0
theorem settledM_length (a0 a1 : Int) (a2 a3 : Bool) (a4 a5 : List Int) (a6 a7 : Int) (hs : List (List Int)) (st hp : List Int) (tu mo pa : Int) (hh : G2 hs) : (settledM a0 a1 a2 a3 a4 a5 a6 a7 hs st hp tu mo pa).length ≤ 2097152 := by
  have := hh.len
  have hq := leftM_length hs
  unfold settledM negL; split
  · split
    · simp; omega
    · simp; omega
  · exact Nat.zero_le _
def insP (pts : List Int) (out : List Int) (i : Int) : List Int := insG (fun j => decide (pts.getD j.toNat 0 > pts.getD i.toNat 0)) out i
def ordL (pts : List Int) (n : Nat) : List Int := ((List.range n).map fun (i : Nat) => (i : Int)).foldl (insP pts) []
theorem ordL_succ (pts : List Int) (n : Nat) : ordL pts (n + 1) = insP pts (ordL pts n) (n : Int) := by
  unfold ordL
  rw [List.range_succ, List.map_append, List.foldl_append]; rfl
theorem ordL_length (pts : List Int) : ∀ n, (ordL pts n).length = n
  | 0 => rfl
  | n + 1 => by rw [ordL_succ, insP, insG_length, ordL_length pts n]
theorem ordL_mem (pts : List Int) : ∀ n, ∀ x ∈ ordL pts n, 0 ≤ x ∧ x < (n : Int)
  | 0 => fun x hx => by cases hx
  | n + 1 => fun x hx => by
    rw [ordL_succ] at hx
    rcases List.mem_cons.1 ((insG_perm _ _ _).mem_iff.1 hx) with e | e
    · subst e; omega
    · have := ordL_mem pts n x e; omega
theorem impl_OrderOf_in (pts : List Int) (i : Nat) (hi : i < pts.length) (hl : pts.length ≤ 4398046511104) (r : List Int) (hr : r.length ≤ 4398046511104) (hm : ∀ x ∈ r, 0 ≤ x ∧ x < (pts.length : Int)) : ∀ k, k ≤ r.length → impl_OrderOf_L8 i (pts.getD i 0) k pts.length i pts r = impl_OrderOf_L5 pts.length ((i + 1 : Nat) : Int) pts (r.take (kG (fun j => decide (pts.getD j.toNat 0 > pts.getD ((i : Nat) : Int).toNat 0)) r k) ++ (i : Int) :: r.drop (kG (fun j => decide (pts.getD j.toNat 0 > pts.getD ((i : Nat) : Int).toNat 0)) r k)) := by
  intro k
  induction k with
  | zero =>
    intro hk
    have hil : (i : Int) < (pts.length : Int) := by omega
    have hw : IntKind.i64.wrap ((i : Int) + 1) = ((i + 1 : Nat) : Int) := wrap_succ hi (by omega)
    have h0 : IntKind.i64.wrap (((0 : Nat) : Int) + 1) = ((0 + 1 : Nat) : Int) := by rw [wrap_id (by omega) (by omega)]; rfl
    rw [impl_OrderOf_L8_eq]
    have e := ins_copy r i 0 (Nat.zero_le _)
    simp (disch := (first | omega | (simp only [List.length_append, List.length_cons, List.length_nil, List.length_take, List.length_drop, List.length_set, List.length_replicate, List.length_singleton]; omega))) only [↓if_dpos, ↓if_dneg, ↓if_epos, ↓if_eneg, ↓if_npos, ↓if_nneg, ↓if_pos, ↓if_neg, hw, h0, Int.toNat_natCast, e, kG]
  | succ k ih =>
    intro hk
    have hil : (i : Int) < (pts.length : Int) := by omega
    have hw : IntKind.i64.wrap ((i : Int) + 1) = ((i + 1 : Nat) : Int) := wrap_succ hi (by omega)
    have hk1 : IntKind.i64.wrap (((k + 1 : Nat) : Int) - 1) = (k : Int) := by rw [wrap_id (by omega) (by omega)]; omega
    have hk2 : IntKind.i64.wrap (((k + 1 : Nat) : Int) + 1) = ((k + 1 + 1 : Nat) : Int) := by rw [wrap_id (by omega) (by omega)]; omega
    obtain ⟨m1, m2⟩ := hm _ (getD_mem (d := 0) (by omega : k < r.length))
    have e := ins_copy r i (k + 1) hk
    rw [impl_OrderOf_L8_eq]
    simp (disch := (first | omega | (simp only [List.length_append, List.length_cons, List.length_nil, List.length_take, List.length_drop, List.length_set, List.length_replicate, List.length_singleton]; omega))) only [↓if_dpos, ↓if_dneg, ↓if_epos, ↓if_eneg, ↓if_npos, ↓if_nneg, ↓if_pos, ↓if_neg, hw, hk1, hk2, Int.toNat_natCast, e, kG, ih (by omega)]
    split <;> simp
def orderM (a0 a1 : Int) (a2 a3 : Bool) (a4 a5 : List Int) (a6 a7 : Int) (hs : List (List Int)) (st hp : List Int) (tu mo pa : Int) : List Int := if gameM a0 a1 a2 a3 a4 a5 a6 a7 hs st hp tu mo pa = true then ordL (leftM hs) hs.length else []
theorem impl_OrderOf_ok (a0 a1 : Int) (a2 a3 : Bool) (a4 a5 : List Int) (a6 a7 : Int) (hs : List (List Int)) (st hp : List Int) (tu mo pa : Int) (h4 : a4.length ≤ 1048576) (h5 : a5.length ≤ 1048576) (hh : G2 hs) (h9 : st.length ≤ 2097152) (h10 : hp.length ≤ 2097152) : impl_OrderOf a0 a1 a2 a3 a4 a5 a6 a7 hs st hp tu mo pa = some (orderM a0 a1 a2 a3 a4 a5 a6 a7 hs st hp tu mo pa) := by
  have hl := hh.len
  have hq := leftM_length hs
  rw [impl_OrderOf_eq, impl_IsGame_ok a0 a1 a2 a3 a4 a5 a6 a7 hs st hp tu mo pa h4 h5 hh h9 h10, Option.bind_some, orderM]
  cases hg : gameM a0 a1 a2 a3 a4 a5 a6 a7 hs st hp tu mo pa
  · rfl
  · rw [impl_LeftPoints_ok a0 a1 a2 a3 a4 a5 a6 a7 hs st hp tu mo pa hh]
    have h : ∀ i, i ≤ (leftM hs).length → impl_OrderOf_L5 (leftM hs).length i (leftM hs) (ordL (leftM hs) i) = some (ordL (leftM hs) hs.length) := down (by
        rw [impl_OrderOf_L5_eq]
        simp (disch := (first | omega | (simp only [List.length_append, List.length_cons, List.length_nil, List.length_take, List.length_drop, List.length_set, List.length_replicate, List.length_singleton]; omega))) only [↓if_dpos, ↓if_dneg, ↓if_epos, ↓if_eneg, ↓if_npos, ↓if_nneg, ↓if_pos, ↓if_neg, Int.toNat_natCast, List.nil_append, Nat.zero_add, List.length_singleton, Option.bind_some, List.drop_zero, List.take_length, if_true, if_false, hq]) fun i hi ih => by
      have e := impl_OrderOf_in (leftM hs) i hi (by omega) (ordL (leftM hs) i) (by rw [ordL_length]; omega) (fun x hx => by have := ordL_mem _ _ x hx; omega) _ (Nat.le_refl _)
      have hil : (i : Int) < ((leftM hs).length : Int) := by omega
      have hw : IntKind.i64.wrap ((i : Int) + 1) = ((i + 1 : Nat) : Int) := wrap_succ hi (by omega)
      rw [impl_OrderOf_L5_eq]
      simp (disch := (first | omega | (simp only [List.length_append, List.length_cons, List.length_nil, List.length_take, List.length_drop, List.length_set, List.length_replicate, List.length_singleton]; omega))) only [↓if_dpos, ↓if_dneg, ↓if_epos, ↓if_eneg, ↓if_npos, ↓if_nneg, ↓if_pos, ↓if_neg, hw, Int.toNat_natCast, List.nil_append, Nat.zero_add, List.length_singleton, Option.bind_some, List.drop_zero, List.take_length, if_true, if_false, e]
      rw [← ih, ordL_succ]
      rfl
    exact h 0 (Nat.zero_le _)
theorem orderM_length (a0 a1 : Int) (a2 a3 : Bool) (a4 a5 : List Int) (a6 a7 : Int) (hs : List (List Int)) (st hp : List Int) (tu mo pa : Int) (hh : G2 hs) : (orderM a0 a1 a2 a3 a4 a5 a6 a7 hs st hp tu mo pa).length ≤ 2097152 := by
  have := hh.len
  unfold orderM; split
  · rw [ordL_length]; omega
  · exact Nat.zero_le _
/-- What is known of a game behind a player's own move. -/
theorem auto_game (a0 a1 : Int) (a2 a3 : Bool) (a4 a5 : List Int) (a6 a7 : Int) (hs : List (List Int)) (st hp : List Int) (tu mo pa : Int) (kind : Int) (hg : gameM a0 a1 a2 a3 a4 a5 a6 a7 hs st hp tu mo pa = true) (ho : overM a0 a7 hs mo pa = false) : gameM (moveM a0 a1 a2 a3 a4 a5 a6 a7 hs st hp tu mo pa (choiceM a0 a1 a2 a3 a4 a5 a6 a7 hs st hp tu mo pa kind)).1 (moveM a0 a1 a2 a3 a4 a5 a6 a7 hs st hp tu mo pa (choiceM a0 a1 a2 a3 a4 a5 a6 a7 hs st hp tu mo pa kind)).2.1 (moveM a0 a1 a2 a3 a4 a5 a6 a7 hs st hp tu mo pa (choiceM a0 a1 a2 a3 a4 a5 a6 a7 hs st hp tu mo pa kind)).2.2.1 (moveM a0 a1 a2 a3 a4 a5 a6 a7 hs st hp tu mo pa (choiceM a0 a1 a2 a3 a4 a5 a6 a7 hs st hp tu mo pa kind)).2.2.2.1 (moveM a0 a1 a2 a3 a4 a5 a6 a7 hs st hp tu mo pa (choiceM a0 a1 a2 a3 a4 a5 a6 a7 hs st hp tu mo pa kind)).2.2.2.2.1 (moveM a0 a1 a2 a3 a4 a5 a6 a7 hs st hp tu mo pa (choiceM a0 a1 a2 a3 a4 a5 a6 a7 hs st hp tu mo pa kind)).2.2.2.2.2.1 (moveM a0 a1 a2 a3 a4 a5 a6 a7 hs st hp tu mo pa (choiceM a0 a1 a2 a3 a4 a5 a6 a7 hs st hp tu mo pa kind)).2.2.2.2.2.2.1 (moveM a0 a1 a2 a3 a4 a5 a6 a7 hs st hp tu mo pa (choiceM a0 a1 a2 a3 a4 a5 a6 a7 hs st hp tu mo pa kind)).2.2.2.2.2.2.2.1 (moveM a0 a1 a2 a3 a4 a5 a6 a7 hs st hp tu mo pa (choiceM a0 a1 a2 a3 a4 a5 a6 a7 hs st hp tu mo pa kind)).2.2.2.2.2.2.2.2.1 (moveM a0 a1 a2 a3 a4 a5 a6 a7 hs st hp tu mo pa (choiceM a0 a1 a2 a3 a4 a5 a6 a7 hs st hp tu mo pa kind)).2.2.2.2.2.2.2.2.2.1 (moveM a0 a1 a2 a3 a4 a5 a6 a7 hs st hp tu mo pa (choiceM a0 a1 a2 a3 a4 a5 a6 a7 hs st hp tu mo pa kind)).2.2.2.2.2.2.2.2.2.2.1 (moveM a0 a1 a2 a3 a4 a5 a6 a7 hs st hp tu mo pa (choiceM a0 a1 a2 a3 a4 a5 a6 a7 hs st hp tu mo pa kind)).2.2.2.2.2.2.2.2.2.2.2.1 (moveM a0 a1 a2 a3 a4 a5 a6 a7 hs st hp tu mo pa (choiceM a0 a1 a2 a3 a4 a5 a6 a7 hs st hp tu mo pa kind)).2.2.2.2.2.2.2.2.2.2.2.2.1 (moveM a0 a1 a2 a3 a4 a5 a6 a7 hs st hp tu mo pa (choiceM a0 a1 a2 a3 a4 a5 a6 a7 hs st hp tu mo pa kind)).2.2.2.2.2.2.2.2.2.2.2.2.2.1 = true ∧ (moveM a0 a1 a2 a3 a4 a5 a6 a7 hs st hp tu mo pa (choiceM a0 a1 a2 a3 a4 a5 a6 a7 hs st hp tu mo pa kind)).2.2.2.2.2.2.2.2.2.2.2.2.1 = mo + 1 ∧ (moveM a0 a1 a2 a3 a4 a5 a6 a7 hs st hp tu mo pa (choiceM a0 a1 a2 a3 a4 a5 a6 a7 hs st hp tu mo pa kind)).2.2.2.2.2.2.2.1 = a7 ∧ (moveM a0 a1 a2 a3 a4 a5 a6 a7 hs st hp tu mo pa (choiceM a0 a1 a2 a3 a4 a5 a6 a7 hs st hp tu mo pa kind)).2.2.2.2.1 = a4 ∧ (moveM a0 a1 a2 a3 a4 a5 a6 a7 hs st hp tu mo pa (choiceM a0 a1 a2 a3 a4 a5 a6 a7 hs st hp tu mo pa kind)).2.2.2.2.2.1 = a5 := by
  unfold moveM
  rcases choiceM_mem a0 a1 a2 a3 a4 a5 a6 a7 hs st hp tu mo pa kind with e | e
  · rw [if_pos e]
    obtain ⟨f1, f2, _⟩ := take_facts a0 a1 a2 a3 a4 a5 a6 a7 hs st hp tu mo pa hg ho
    refine ⟨f1, f2, ?_, ?_, ?_⟩ <;> · unfold takeM; split <;> rfl
  · have hc := (isC_iff.1 (playM_cards a0 a1 a2 a3 a4 a5 a6 a7 hs st hp tu mo pa _ e)).1
    have hm : hasM (playM a0 a1 a2 a3 a4 a5 a6 a7 hs st hp tu mo pa) (choiceM a0 a1 a2 a3 a4 a5 a6 a7 hs st hp tu mo pa kind) = true := by simp [hasM, e]
    rw [if_neg (by omega)]
    obtain ⟨f1, f2, _⟩ := play_facts a0 a1 a2 a3 a4 a5 a6 a7 hs st hp tu mo pa hm
    refine ⟨f1, f2, ?_, ?_, ?_⟩ <;> · unfold playOnM; split <;> rfl
theorem spec_PlayOut_tot (a0 a1 : Int) (a2 a3 : Bool) (a4 a5 : List Int) (a6 a7 : Int) (hs : List (List Int)) (st hp : List Int) (tu mo pa : Int) (k : List Int) (sm : Sm 60 a4 a5 hs st hp) : Tot (spec_PlayOut a0 a1 a2 a3 a4 a5 a6 a7 hs st hp tu mo pa k) (fun r => Sm 60 r.2.2.2.2.1 r.2.2.2.2.2.1 r.2.2.2.2.2.2.2.2.1 r.2.2.2.2.2.2.2.2.2.1 r.2.2.2.2.2.2.2.2.2.2.1) := by
  have key : ∀ d : Nat, ∀ (a0 a1 : Int) (a2 a3 : Bool) (a4 a5 : List Int) (a6 a7 : Int) (hs : List (List Int)) (st hp : List Int) (tu mo pa : Int), gameM a0 a1 a2 a3 a4 a5 a6 a7 hs st hp tu mo pa = true → a4.length ≤ 1000 → a5.length ≤ 1000 → a7 - mo ≤ (d : Int) → Tot (spec_PlayOut_L2 k 0 0 false false 0 0 0 0 0 a0 a1 a2 a3 a6 a7 tu mo pa a4 a5 hs st hp) (fun r => Sm 60 r.2.2.2.2.1 r.2.2.2.2.2.1 r.2.2.2.2.2.2.2.2.1 r.2.2.2.2.2.2.2.2.2.1 r.2.2.2.2.2.2.2.2.2.2.1) := by
    intro d
    induction d with
    | zero =>
      intro a0 a1 a2 a3 a4 a5 a6 a7 hs st hp tu mo pa hg h4 h5 hd
      have sm := game_small a0 a1 a2 a3 a4 a5 a6 a7 hs st hp tu mo pa hg h4 h5
      obtain ⟨_, _, _, _, k5, _⟩ := (gameM_iff a0 a1 a2 a3 a4 a5 a6 a7 hs st hp tu mo pa).1 hg
      have ho : overM a0 a7 hs mo pa = true := by rw [overM, show (mo == a7) = true by rw [beq_iff_eq]; omega]; simp
      rw [spec_PlayOut_L2_eq, spec_IsGame_ok a0 a1 a2 a3 a4 a5 a6 a7 hs st hp tu mo pa (by have := sm.1; omega) (by have := sm.2.1; omega) (sm.g2 (by omega)) (by have := sm.2.2.2; omega) (by have := sm.2.2.2; omega), Option.bind_some, hg, if_pos rfl, spec_l24Over_ok a0 a1 a2 a3 a4 a5 a6 a7 hs st hp tu mo pa (sm.g2 (by omega)).len, Option.bind_some, ho, if_neg (by decide)]
      exact Tot.ret (sm.mono (by omega))
    | succ d ih =>
      intro a0 a1 a2 a3 a4 a5 a6 a7 hs st hp tu mo pa hg h4 h5 hd
      have sm := game_small a0 a1 a2 a3 a4 a5 a6 a7 hs st hp tu mo pa hg h4 h5
      obtain ⟨_, _, _, k4, k5, _⟩ := (gameM_iff a0 a1 a2 a3 a4 a5 a6 a7 hs st hp tu mo pa).1 hg
      rw [spec_PlayOut_L2_eq, spec_IsGame_ok a0 a1 a2 a3 a4 a5 a6 a7 hs st hp tu mo pa (by have := sm.1; omega) (by have := sm.2.1; omega) (sm.g2 (by omega)) (by have := sm.2.2.2; omega) (by have := sm.2.2.2; omega), Option.bind_some, hg, if_pos rfl, spec_l24Over_ok a0 a1 a2 a3 a4 a5 a6 a7 hs st hp tu mo pa (sm.g2 (by omega)).len, Option.bind_some]
      cases ho : overM a0 a7 hs mo pa with
      | true => rw [if_neg (by decide)]; exact Tot.ret (sm.mono (by omega))
      | false =>
        rw [if_pos (by decide)]
        have go : ∀ kind : Int, Tot ((spec_AutoMove a0 a1 a2 a3 a4 a5 a6 a7 hs st hp tu mo pa kind).bind fun c4 => (spec_PlayOut_L2 k 0 0 false false 0 0 0 0 0 c4.1 c4.2.1 c4.2.2.1 c4.2.2.2.1 c4.2.2.2.2.2.2.1 c4.2.2.2.2.2.2.2.1 c4.2.2.2.2.2.2.2.2.2.2.2.1 c4.2.2.2.2.2.2.2.2.2.2.2.2.1 c4.2.2.2.2.2.2.2.2.2.2.2.2.2.1 c4.2.2.2.2.1 c4.2.2.2.2.2.1 c4.2.2.2.2.2.2.2.2.1 c4.2.2.2.2.2.2.2.2.2.1 c4.2.2.2.2.2.2.2.2.2.2.1)) (fun r => Sm 60 r.2.2.2.2.1 r.2.2.2.2.2.1 r.2.2.2.2.2.2.2.2.1 r.2.2.2.2.2.2.2.2.2.1 r.2.2.2.2.2.2.2.2.2.2.1) := fun kind => by
          obtain ⟨g1, g2, g3, g4, g5⟩ := auto_game a0 a1 a2 a3 a4 a5 a6 a7 hs st hp tu mo pa kind hg ho
          rw [spec_AutoMove_ok a0 a1 a2 a3 a4 a5 a6 a7 hs st hp tu mo pa kind (by have := sm.1; omega) (by have := sm.2.1; omega) (sm.g2 (by omega)) (by have := sm.2.2.2; omega) (by have := sm.2.2.2; omega), Option.bind_some]
          exact ih _ _ _ _ _ _ _ _ _ _ _ _ _ _ g1 (by rw [g4]; exact h4) (by rw [g5]; exact h5) (by rw [g2, g3]; omega)
        exact Tot.dite (fun ht => Tot.guard k4.1 (Tot.guard ht (go _))) fun _ => go 3
  have hh := sm.g2 (by omega)
  rw [spec_PlayOut_eq, spec_l24Copy_ok a0 a1 a2 a3 a4 a5 a6 a7 hs st hp tu mo pa (by have := sm.1; omega) (by have := sm.2.1; omega) (sm.g2 (by omega)) (by have := sm.2.2.2; omega) (by have := sm.2.2.2; omega), Option.bind_some]
  show Tot (spec_PlayOut_L2 k 0 0 false false 0 0 0 0 0 a0 a1 a2 a3 a6 a7 tu mo pa a4 a5 hs st hp) _
  cases hg : gameM a0 a1 a2 a3 a4 a5 a6 a7 hs st hp tu mo pa with
  | true =>
    obtain ⟨_, _, _, _, k5, _⟩ := (gameM_iff a0 a1 a2 a3 a4 a5 a6 a7 hs st hp tu mo pa).1 hg
    exact key (a7 - mo).toNat _ _ _ _ _ _ _ _ _ _ _ _ _ _ hg sm.1 sm.2.1 (by omega)
  | false =>
    rw [spec_PlayOut_L2_eq, spec_IsGame_ok a0 a1 a2 a3 a4 a5 a6 a7 hs st hp tu mo pa (by have := sm.1; omega) (by have := sm.2.1; omega) (sm.g2 (by omega)) (by have := sm.2.2.2; omega) (by have := sm.2.2.2; omega), Option.bind_some, hg, if_neg (by decide)]
    exact Tot.ret sm
theorem l26Kinds_tot {c : List Int × Int × Int} (hc : Cur c) : Tot (spec_l26Kinds c) (fun r => Cur r.2 ∧ r.1.length ≤ 10) := by
  rw [spec_l26Kinds_eq]
  refine Tot.bind (l1Below_tot hc _) fun t ⟨ht, t1, t2, _⟩ => ?_
  have t2 := t2 (by decide)
  have key : ∀ i : Nat, i ≤ 7 → ∀ (b0 : List Int) (b1 b2 : Int) (r : List Int), Cur (b0, b1, b2) → r.length + i ≤ 10 → Tot (spec_l26Kinds_L3 (i : Int) b0 b1 b2 r) (fun r => Cur r.2 ∧ r.1.length ≤ 10) := by
    intro i
    induction i with
    | zero =>
      intro _ b0 b1 b2 r hb hr
      rw [spec_l26Kinds_L3_eq, if_dneg (by omega)]
      exact Tot.ret ⟨hb, by show r.length ≤ 10; omega⟩
    | succ i ih =>
      intro hi b0 b1 b2 r hb hr
      rw [spec_l26Kinds_L3_eq, if_dpos (by omega)]
      refine Tot.bind (l1Below_tot hb _) fun s ⟨hs, _⟩ => Tot.guard (by rw [List.length_singleton]; omega) ?_
      rw [wrap_id (by omega) (by omega), show ((i + 1 : Nat) : Int) - 1 = (i : Int) by omega]
      exact ih (by omega) _ _ _ _ hs (by rw [List.length_append, List.length_singleton]; omega)
  have := key t.1.toNat (by omega) t.2.1 t.2.2.1 t.2.2.2 [] ht (by rw [List.length_nil]; omega)
  rw [show ((t.1.toNat : Nat) : Int) = t.1 by omega] at this
  exact this
theorem DrawPlayOut_tot {a : List Int} (ha : a.length ≤ 1048576) : Tot (spec_DrawPlayOut a) (fun r => Sm 60 r.2.2.2.2.1 r.2.2.2.2.2.1 r.2.2.2.2.2.2.2.2.1 r.2.2.2.2.2.2.2.2.2.1 r.2.2.2.2.2.2.2.2.2.2.1 ∧ r.2.2.2.2.2.2.2.2.2.2.2.2.2.2.length ≤ 10) := by
  rw [spec_DrawPlayOut_eq]
  refine Tot.bind (l1New_tot ha) fun c hc => Tot.bind (l24Start_tot hc) fun g ⟨hg, gs⟩ => Tot.bind (l1Once_tot hg _) fun o ho => Tot.ite (fun _ => ?_) fun _ => ?_
  · exact Tot.bind (l24Draw_tot ho) fun p ⟨hp, ps⟩ => Tot.bind (l26Kinds_tot hp) fun k hk => Tot.ret ⟨ps, hk.2⟩
  · exact Tot.bind (l26Kinds_tot ho) fun k hk => Tot.ret ⟨gs.mono (by omega), hk.2⟩
theorem l27Draw_tot {a : List Int} (ha : a.length ≤ 1048576) : Tot (spec_l27Draw a) (fun r => Sm 60 r.2.2.2.2.1 r.2.2.2.2.2.1 r.2.2.2.2.2.2.2.2.1 r.2.2.2.2.2.2.2.2.2.1 r.2.2.2.2.2.2.2.2.2.2.1) := by
  rw [spec_l27Draw_eq]
  refine Tot.bind (DrawPlayOut_tot ha) fun g ⟨gs, _⟩ => Tot.bind (l1New_tot ha) fun c hc => Tot.bind (l1Once_tot hc _) fun o _ => Tot.ite (fun _ => Tot.ret gs) fun _ => ?_
  exact Tot.bind (spec_PlayOut_tot g.1 g.2.1 g.2.2.1 g.2.2.2.1 g.2.2.2.2.1 g.2.2.2.2.2.1 g.2.2.2.2.2.2.1 g.2.2.2.2.2.2.2.1 g.2.2.2.2.2.2.2.2.1 g.2.2.2.2.2.2.2.2.2.1 g.2.2.2.2.2.2.2.2.2.2.1 g.2.2.2.2.2.2.2.2.2.2.2.1 g.2.2.2.2.2.2.2.2.2.2.2.2.1 g.2.2.2.2.2.2.2.2.2.2.2.2.2.1 g.2.2.2.2.2.2.2.2.2.2.2.2.2.2 gs) fun r hr => Tot.ret hr
theorem DrawSettled_tot {a : List Int} (ha : a.length ≤ 1048576) : Tot (spec_DrawSettled a) (fun r => Sm 60 r.2.2.2.2.1 r.2.2.2.2.2.1 r.2.2.2.2.2.2.2.2.1 r.2.2.2.2.2.2.2.2.2.1 r.2.2.2.2.2.2.2.2.2.2.1) := by
  rw [spec_DrawSettled_eq]
  exact Tot.bind (l27Draw_tot ha) fun p hp => Tot.ret hp
theorem insG_sorted (key : Int → Int) {out : List Int} {c : Int} (h : out.Pairwise fun a b => key a ≤ key b) : (insG (fun x => decide (key x > key c)) out c).Pairwise fun a b => key a ≤ key b := by
  have hk := kG_le (fun x => decide (key x > key c)) out out.length
  obtain ⟨h1, h2⟩ := kG_spec (fun x => decide (key x > key c)) out out.length
  unfold insG
  generalize kG (fun x => decide (key x > key c)) out out.length = k at *
  have hd : ∀ x ∈ out.drop k, key c < key x := fun x hx => by
    obtain ⟨i, hi, rfl⟩ := List.mem_iff_getElem.1 hx
    rw [List.length_drop] at hi
    have := h1 (k + i) (by omega) (by omega)
    rw [List.getElem_drop]
    rw [List.getD_eq_getElem?_getD, List.getElem?_eq_getElem (by omega)] at this
    simpa using this
  have ht : ∀ x ∈ out.take k, key x ≤ key c := fun x hx => by
    obtain ⟨i, hi, rfl⟩ := List.mem_iff_getElem.1 hx
    rw [List.length_take] at hi
    have h2 := h2 (by omega)
    rw [List.getD_eq_getElem?_getD, List.getElem?_eq_getElem (by omega)] at h2
    have h2 : ¬ key (out[k - 1]'(by omega)) > key c := by simpa using h2
    rw [List.getElem_take]
    by_cases e : i = k - 1
    · subst e; omega
    · have := List.pairwise_iff_getElem.1 h i (k - 1) (by omega) (by omega) (by omega)
      omega
  rw [List.pairwise_append, List.pairwise_cons]
  refine ⟨h.sublist (List.take_sublist _ _), ⟨fun x hx => by have := hd x hx; omega, h.sublist (List.drop_sublist _ _)⟩, fun x hx y hy => ?_⟩
  have hx := ht x hx
  rcases List.mem_cons.1 hy with e | e
  · rw [e]; exact hx
  · have := hd y e; omega
theorem ordL_sorted (pts : List Int) : ∀ n, (ordL pts n).Pairwise fun a b => pts.getD a.toNat 0 ≤ pts.getD b.toNat 0
  | 0 => List.Pairwise.nil
  | n + 1 => by
    rw [ordL_succ]
    exact insG_sorted (fun j => pts.getD j.toNat 0) (ordL_sorted pts n)
theorem ordL_all (pts : List Int) : ∀ n, ∀ i : Nat, i < n → (i : Int) ∈ ordL pts n
  | 0, i, h => by omega
  | n + 1, i, h => by
    rw [ordL_succ]
    refine (insG_perm _ _ _).mem_iff.2 ?_
    by_cases e : i = n
    · subst e; exact List.mem_cons_self
    · exact List.mem_cons_of_mem _ (ordL_all pts n i (by omega))
theorem mostR_max (full : List Int) : ∀ (t : List Int) (k : Int) (i : Nat), full.drop i = t → (k < 0 → i = 0) → k < (full.length : Int) → (0 ≤ k → ∀ j : Nat, j < i → full.getD j 0 ≤ full.getD k.toNat 0) → 0 < full.length →
    0 ≤ mostR full t k (i : Int) ∧ mostR full t k (i : Int) < (full.length : Int) ∧ ∀ j : Nat, j < full.length → full.getD j 0 ≤ full.getD (mostR full t k (i : Int)).toNat 0
  | [], k, i, hd, hk, hl, hm, h0 => by
    have hi : full.length ≤ i := by have := congrArg List.length hd; rw [List.length_drop, List.length_nil] at this; omega
    rw [mostR]
    have k0 : 0 ≤ k := by
      by_cases c : k < 0
      · have := hk c; omega
      · omega
    exact ⟨k0, hl, fun j hj => hm k0 j (by omega)⟩
  | x :: t, k, i, hd, hk, hl, hm, h0 => by
    have hi : i < full.length := by
      have := congrArg List.length hd; rw [List.length_drop, List.length_cons] at this; omega
    have hx : full.getD i 0 = x ∧ full.drop (i + 1) = t := by
      have := getD_drop (d := 0) hi
      rw [hd] at this
      exact ⟨(List.cons.inj this).1.symm, (List.cons.inj this).2.symm⟩
    have e1 : ((i : Int) + 1) = ((i + 1 : Nat) : Int) := by omega
    have step : (0 ≤ k → full.getD k.toNat 0 ≤ x) → 0 ≤ mostR full t (i : Int) ((i : Int) + 1) ∧ mostR full t (i : Int) ((i : Int) + 1) < (full.length : Int) ∧ ∀ j : Nat, j < full.length → full.getD j 0 ≤ full.getD (mostR full t (i : Int) ((i : Int) + 1)).toNat 0 := fun hkx => by
      rw [e1]
      refine mostR_max full t (i : Int) (i + 1) hx.2 (fun h => by omega) (by omega) (fun _ j hj => ?_) h0
      rw [Int.toNat_natCast, hx.1]
      by_cases c : j = i
      · subst c; rw [hx.1]; omega
      · by_cases c2 : k < 0
        · have := hk c2; omega
        · have := hm (by omega) j (by omega)
          have := hkx (by omega)
          omega
    rw [mostR]
    by_cases c : k < 0
    · rw [if_pos c]; exact step fun h => by omega
    · rw [if_neg c]
      by_cases c2 : x > full.getD k.toNat 0
      · rw [if_pos c2]; exact step fun _ => by omega
      · rw [if_neg c2, e1]
        refine mostR_max full t k (i + 1) hx.2 (fun h => by omega) hl (fun _ j hj => ?_) h0
        by_cases c3 : j = i
        · subst c3; rw [hx.1]; omega
        · exact hm (by omega) j (by omega)
theorem valM_small (c : Int) : 0 ≤ valM c ∧ valM c ≤ 10 := by
  unfold valM
  split
  · omega
  · split
    · rw [wrap_id (by omega) (by omega)]; omega
    · split <;> omega
theorem valsM_small (l : List Int) (hl : l.length ≤ 1000) : 0 ≤ valsM l ∧ valsM l ≤ 10 * (l.length : Int) := by
  have key : ∀ (l : List Int) (n : Int), 0 ≤ n → n + 10 * (l.length : Int) ≤ 1000000 → 0 ≤ l.foldl (fun n c => IntKind.i64.wrap (n + valM c)) n ∧ l.foldl (fun n c => IntKind.i64.wrap (n + valM c)) n ≤ n + 10 * (l.length : Int) := by
    intro l
    induction l with
    | nil => intro n h1 h2; simp; exact h1
    | cons c l ih =>
      intro n h1 h2
      have hv := valM_small c
      rw [List.length_cons] at h2 ⊢
      rw [List.foldl_cons, wrap_id (by omega) (by omega)]
      have := ih (n + valM c) (by omega) (by omega)
      omega
  have := key l 0 (by omega) (by omega)
  rw [valsM]; omega
/-- The sum of few small numbers. -/
theorem sumW_sum (l : List Int) (hl : l.length ≤ 1000) (hb : ∀ x ∈ l, -1000000 ≤ x ∧ x ≤ 1000000) : sumW l = l.sum ∧ -(1000000 * (l.length : Int)) ≤ l.sum ∧ l.sum ≤ 1000000 * (l.length : Int) := by
  have key : ∀ (l : List Int) (n : Int) (k : Nat), (∀ x ∈ l, -1000000 ≤ x ∧ x ≤ 1000000) → -(1000000 * (k : Int)) ≤ n ∧ n ≤ 1000000 * (k : Int) → k + l.length ≤ 1000 → l.foldl (fun n x => IntKind.i64.wrap (n + x)) n = n + l.sum ∧ -(1000000 * ((k + l.length : Nat) : Int)) ≤ n + l.sum ∧ n + l.sum ≤ 1000000 * ((k + l.length : Nat) : Int) := by
    intro l
    induction l with
    | nil => intro n k _ h _; simp; exact h
    | cons c l ih =>
      intro n k h1 h2 h3
      have hc := h1 c List.mem_cons_self
      rw [List.length_cons] at h3 ⊢
      rw [List.foldl_cons, wrap_id (by omega) (by omega), List.sum_cons]
      have := ih (n + c) (k + 1) (fun x hx => h1 x (List.mem_cons_of_mem _ hx)) (by omega) (by omega)
      rw [show k + 1 + l.length = k + (l.length + 1) by omega] at this
      refine ⟨by rw [this.1]; omega, by omega, by omega⟩
  have := key l 0 0 hb (by omega) (by omega)
  rw [sumW]
  simp only [Int.zero_add, Nat.zero_add] at this
  exact this
theorem sum_setI : ∀ (l : List Int) (i : Nat) (v : Int), i < l.length → (l.set i v).sum + l.getD i 0 = l.sum + v
  | [], i, v, h => by simp at h
  | x :: l, 0, v, h => by rw [List.set_cons_zero, List.sum_cons, List.sum_cons, List.getD_cons_zero]; omega
  | x :: l, i + 1, v, h => by
    have := sum_setI l i v (by simpa using h)
    rw [List.set_cons_succ, List.sum_cons, List.sum_cons, List.getD_cons_succ]; omega
theorem negL_sum : ∀ (l : List Int), (∀ x ∈ l, -1000000 ≤ x ∧ x ≤ 1000000) → (negL l).sum = - l.sum ∧ ∀ x ∈ negL l, -1000000 ≤ x ∧ x ≤ 1000000
  | [], _ => ⟨rfl, fun x hx => by cases hx⟩
  | x :: l, h => by
    have hx := h x List.mem_cons_self
    obtain ⟨h1, h2⟩ := negL_sum l fun y hy => h y (List.mem_cons_of_mem _ hy)
    have e : negL (x :: l) = (0 - x) :: negL l := by
      show IntKind.i64.wrap (0 - x) :: negL l = _
      rw [wrap_id (by omega) (by omega)]
    rw [e, List.sum_cons, List.sum_cons, h1]
    refine ⟨by omega, fun y hy => ?_⟩
    rcases List.mem_cons.1 hy with e2 | e2
    · omega
    · exact h2 y e2
theorem sum_nonneg : ∀ (l : List Int), (∀ x ∈ l, 0 ≤ x) → 0 ≤ l.sum
  | [], _ => Int.le_refl _
  | x :: l, h => by
    have := h x List.mem_cons_self
    have := sum_nonneg l fun y hy => h y (List.mem_cons_of_mem _ hy)
    rw [List.sum_cons]; omega
theorem negL_len (l : List Int) : (negL l).length = l.length := by simp [negL]
theorem leftM_small {n : Nat} {a4 a5 : List Int} {hs : List (List Int)} {st hp : List Int} (h : Sm n a4 a5 hs st hp) (hn : n ≤ 1000) : ∀ x ∈ leftM hs, 0 ≤ x ∧ x ≤ 10000 := fun x hx => by
  obtain ⟨r, hr, rfl⟩ := List.mem_map.1 hx
  have h1 := row_le_flat hr
  have h2 := h.2.2.2
  have := valsM_small r (by omega)
  omega
theorem leftM_get (hs : List (List Int)) (i : Nat) : (leftM hs).getD i 0 = valsM (hs.getD i []) := by
  unfold leftM
  by_cases h : i < hs.length
  · rw [List.getD_eq_getElem?_getD, List.getElem?_map, List.getElem?_eq_getElem h, List.getD_eq_getElem?_getD, List.getElem?_eq_getElem h]; rfl
  · rw [List.getD_eq_getElem?_getD, List.getElem?_map, List.getElem?_eq_none (by omega), List.getD_eq_getElem?_getD, List.getElem?_eq_none (by omega)]; rfl
/-- What all get adds up to nothing; who wins gets something. -/
theorem settled_facts (a0 a1 : Int) (a2 a3 : Bool) (a4 a5 : List Int) (a6 a7 : Int) (hs : List (List Int)) (st hp : List Int) (tu mo pa : Int) (sm : Sm 60 a4 a5 hs st hp) : sumW (settledM a0 a1 a2 a3 a4 a5 a6 a7 hs st hp tu mo pa) = 0 ∧ (settledM a0 a1 a2 a3 a4 a5 a6 a7 hs st hp tu mo pa).length = (if gameM a0 a1 a2 a3 a4 a5 a6 a7 hs st hp tu mo pa = true then hs.length else 0) ∧ (0 ≤ winM a0 a1 a2 a3 a4 a5 a6 a7 hs st hp tu mo pa → 0 ≤ (settledM a0 a1 a2 a3 a4 a5 a6 a7 hs st hp tu mo pa).getD (winM a0 a1 a2 a3 a4 a5 a6 a7 hs st hp tu mo pa).toNat 0 ∧ (leftM hs).getD (winM a0 a1 a2 a3 a4 a5 a6 a7 hs st hp tu mo pa).toNat 0 = 0) := by
  have hl := leftM_length hs
  have hsm := leftM_small sm (by omega)
  have h6 := sm.2.2.1
  have hb : ∀ x ∈ leftM hs, -1000000 ≤ x ∧ x ≤ 1000000 := fun x hx => by have := hsm x hx; omega
  unfold settledM
  cases hg : gameM a0 a1 a2 a3 a4 a5 a6 a7 hs st hp tu mo pa with
  | false =>
    rw [if_neg (by decide), if_neg (by decide)]
    refine ⟨rfl, rfl, fun h => ?_⟩
    rw [winM, hg, if_neg (by decide)] at h; omega
  | true =>
    rw [if_pos rfl, if_pos rfl]
    have hw : winM a0 a1 a2 a3 a4 a5 a6 a7 hs st hp tu mo pa = fstM hs 0 := by rw [winM, hg, if_pos rfl]
    rw [hw]
    by_cases c : fstM hs 0 < 0
    · rw [if_pos c]
      have hz : ∀ x ∈ List.replicate hs.length (0 : Int), -1000000 ≤ x ∧ x ≤ 1000000 := fun x hx => by have := (List.mem_replicate.1 hx).2; omega
      obtain ⟨s1, _⟩ := sumW_sum (List.replicate hs.length 0) (by rw [List.length_replicate]; omega) hz
      refine ⟨?_, List.length_replicate, fun h => by omega⟩
      rw [s1]
      have : ∀ n : Nat, (List.replicate n (0 : Int)).sum = 0 := by
        intro n
        induction n with
        | zero => rfl
        | succ n ih => rw [List.replicate_succ, List.sum_cons, ih]; rfl
      exact this _
    · rw [if_neg c]
      obtain ⟨w1, w2, w3, w4⟩ := win_facts a0 a1 a2 a3 a4 a5 a6 a7 hs st hp tu mo pa (by rw [hw]; omega)
      rw [hw] at w2 w3
      have hi : (fstM hs 0).toNat < (negL (leftM hs)).length := by rw [negL_len, hl]; omega
      obtain ⟨s1, s2, s3⟩ := sumW_sum (leftM hs) (by omega) hb
      obtain ⟨n1, n2⟩ := negL_sum (leftM hs) hb
      have hz : (leftM hs).getD (fstM hs 0).toNat 0 = 0 := by
        rw [leftM_get, List.length_eq_zero_iff.1 w3]; rfl
      have hn0 := sum_nonneg (leftM hs) fun x hx => (hsm x hx).1
      have hup : (leftM hs).sum ≤ 1000000 := by
        have : ∀ l : List Int, (∀ x ∈ l, x ≤ 10000) → l.sum ≤ 10000 * (l.length : Int) := by
          intro l
          induction l with
          | nil => intro _; simp
          | cons y l ih =>
            intro h
            have := h y List.mem_cons_self
            have := ih fun z hz => h z (List.mem_cons_of_mem _ hz)
            rw [List.sum_cons, List.length_cons]; omega
        have := this (leftM hs) fun x hx => (hsm x hx).2
        omega
      have hset := sum_setI (negL (leftM hs)) (fstM hs 0).toNat (sumW (leftM hs)) hi
      have hz2 : (negL (leftM hs)).getD (fstM hs 0).toNat 0 = 0 := by
        rw [negL_get (by rw [hl]; omega), hz]; rfl
      have hb2 : ∀ x ∈ (negL (leftM hs)).set (fstM hs 0).toNat (sumW (leftM hs)), -1000000 ≤ x ∧ x ≤ 1000000 := fun x hx => by
        rcases List.mem_or_eq_of_mem_set hx with e | e
        · exact n2 x e
        · omega
      obtain ⟨t1, _⟩ := sumW_sum _ (by rw [List.length_set, negL_len]; omega) hb2
      refine ⟨by rw [t1]; omega, by rw [List.length_set, negL_len, hl], fun _ => ⟨?_, hz⟩⟩
      rw [List.getD_eq_getElem?_getD, List.getElem?_set_self hi]
      show 0 ≤ sumW (leftM hs)
      omega
end Go.Proofs.Ytoioaijpdiglfaa.V
