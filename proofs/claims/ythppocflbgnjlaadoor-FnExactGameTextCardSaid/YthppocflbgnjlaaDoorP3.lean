/- Plain laws over the shapes. -/
import Derived.Test.YthppocflbgnjlaaDoorP2
import Derived.Test.YthppocflbgnjlaaDoorFIsGame
import Derived.Test.YthppocflbgnjlaaDoorS1
import Derived.Test.YthppocflbgnjlaaDoorS3
set_option linter.unusedVariables false
set_option linter.unusedSimpArgs false
set_option maxRecDepth 10000
namespace Go.Proofs.YthppocflbgnjlaaDoor.V
open Go
def allM (hs : List (List Int)) (st hp : List Int) : List Int := st ++ hp ++ hs.flatten
def gameM (a0 a1 : Int) (a2 a3 : Bool) (a4 a5 : List Int) (a6 a7 : Int) (hs : List (List Int)) (st hp : List Int) (tu mo pa : Int) : Bool := rulesM a0 a1 a2 a3 a4 a5 a6 a7 && (decide ((hs.length : Int) = a0) && (decide (0 < hp.length) && (inR tu 0 (a0 - 1) && (inR mo 0 a7 && (inR pa 0 mo && wholeL (allM hs st hp))))))
theorem rulesM_players (a0 a1 : Int) (a2 a3 : Bool) (a4 a5 : List Int) (a6 a7 : Int) (hs : List (List Int)) (st hp : List Int) (tu mo pa : Int) (h : rulesM a0 a1 a2 a3 a4 a5 a6 a7 = true) : 2 ≤ a0 ∧ a0 ≤ 6 := by
  simp only [rulesM, Bool.and_eq_true] at h
  simpa [inR] using h.1
theorem spec_IsGame_ok (a0 a1 : Int) (a2 a3 : Bool) (a4 a5 : List Int) (a6 a7 : Int) (hs : List (List Int)) (st hp : List Int) (tu mo pa : Int) (h4 : a4.length ≤ 1048576) (h5 : a5.length ≤ 1048576) (hh : G2 hs) (h9 : st.length ≤ 2097152) (h10 : hp.length ≤ 2097152) : spec_IsGame a0 a1 a2 a3 a4 a5 a6 a7 hs st hp tu mo pa = some (gameM a0 a1 a2 a3 a4 a5 a6 a7 hs st hp tu mo pa) := by
  have hf := hh.flat
  have hl := hh.len
  have hloop : ∀ i, i ≤ hs.length → spec_IsGame_L5 i a0 a1 a2 a3 a4 a5 a6 a7 hs st hp tu mo pa (st ++ hp ++ (hs.take i).flatten) = some (wholeL (allM hs st hp)) := down (by
      have e := spec_IsHand_ok (st ++ hp ++ hs.flatten) (by simp only [List.length_append]; omega)
      rw [spec_IsGame_L5_eq]
      simp (disch := (first | omega | (simp only [List.length_append, List.length_cons, List.length_nil, List.length_take, List.length_drop, List.length_set, List.length_replicate, List.length_singleton]; omega))) only [↓if_dpos, ↓if_dneg, ↓if_epos, ↓if_eneg, ↓if_npos, ↓if_nneg, ↓if_pos, ↓if_neg, Int.toNat_natCast, List.nil_append, Nat.zero_add, List.length_singleton, Option.bind_some, List.drop_zero, List.take_length, if_true, if_false, e]
      rw [wholeL, allM]
      by_cases hc : (st ++ hp ++ hs.flatten).length = 52
      · rw [if_pos (by simp only [beq_iff_eq]; omega), decide_eq_true hc, Bool.true_and]
      · rw [if_neg (by simp only [beq_iff_eq]; omega), decide_eq_false hc, Bool.false_and]) fun i hi ih => by
    have h1 := flat_take_le hs (i + 1)
    rw [flat_take hi, List.length_append] at h1
    have hil : (i : Int) < (hs.length : Int) := by omega
    have hw : IntKind.i64.wrap ((i : Int) + 1) = ((i + 1 : Nat) : Int) := wrap_succ hi (by omega)
    rw [spec_IsGame_L5_eq]
    simp (disch := (first | omega | (simp only [List.length_append, List.length_cons, List.length_nil, List.length_take, List.length_drop, List.length_set, List.length_replicate, List.length_singleton]; omega))) only [↓if_dpos, ↓if_dneg, ↓if_epos, ↓if_eneg, ↓if_npos, ↓if_nneg, ↓if_pos, ↓if_neg, hw, Int.toNat_natCast, List.nil_append, Nat.zero_add, List.length_singleton, Option.bind_some, List.drop_zero, List.take_length, if_true, if_false, ]
    rw [← ih, flat_take hi, List.append_assoc (st ++ hp)]
  have h0 : spec_IsGame_L5 0 a0 a1 a2 a3 a4 a5 a6 a7 hs st hp tu mo pa (st ++ hp) = some (wholeL (allM hs st hp)) := by simpa using hloop 0 (Nat.zero_le _)
  rw [spec_IsGame_eq, spec_IsRules_ok _ _ _ _ _ _ _ _ h4 h5, Option.bind_some, gameM]
  cases hr : rulesM a0 a1 a2 a3 a4 a5 a6 a7
  · rfl
  · have hp0 := rulesM_players a0 a1 a2 a3 a4 a5 a6 a7 hs st hp tu mo pa hr
    have hw : IntKind.i64.wrap (a0 - 1) = a0 - 1 := wrap_id (by omega) (by omega)
    simp only [Bool.not_true, Bool.false_eq_true, if_false, Bool.true_and, hw, spec_l1In_ok, Option.bind_some]
    by_cases c1 : (hs.length : Int) = a0
    · by_cases c2 : 0 < hp.length
      · simp (disch := (first | omega | (simp only [List.length_append, List.length_cons, List.length_nil, List.length_take, List.length_drop, List.length_set, List.length_replicate, List.length_singleton]; omega))) only [↓if_dpos, ↓if_dneg, ↓if_epos, ↓if_eneg, ↓if_npos, ↓if_nneg, ↓if_pos, ↓if_neg, h0, Int.toNat_natCast, List.nil_append, Nat.zero_add, List.length_singleton, Option.bind_some, List.drop_zero, List.take_length, if_true, if_false, decide_eq_true c1, decide_eq_true c2, Bool.true_and]
        cases inR tu 0 (a0 - 1) <;> cases inR mo 0 a7 <;> cases inR pa 0 mo <;> rfl
      · simp (disch := (first | omega | (simp only [List.length_append, List.length_cons, List.length_nil, List.length_take, List.length_drop, List.length_set, List.length_replicate, List.length_singleton]; omega))) only [↓if_dpos, ↓if_dneg, ↓if_epos, ↓if_eneg, ↓if_npos, ↓if_nneg, ↓if_pos, ↓if_neg, decide_eq_false c2, Bool.false_and, Bool.and_false]
    · simp (disch := (first | omega | (simp only [List.length_append, List.length_cons, List.length_nil, List.length_take, List.length_drop, List.length_set, List.length_replicate, List.length_singleton]; omega))) only [↓if_dpos, ↓if_dneg, ↓if_epos, ↓if_eneg, ↓if_npos, ↓if_nneg, ↓if_pos, ↓if_neg, decide_eq_false c1, Bool.false_and]
theorem impl_IsGame_ok (a0 a1 : Int) (a2 a3 : Bool) (a4 a5 : List Int) (a6 a7 : Int) (hs : List (List Int)) (st hp : List Int) (tu mo pa : Int) (h4 : a4.length ≤ 1048576) (h5 : a5.length ≤ 1048576) (hh : G2 hs) (h9 : st.length ≤ 2097152) (h10 : hp.length ≤ 2097152) : impl_IsGame a0 a1 a2 a3 a4 a5 a6 a7 hs st hp tu mo pa = some (gameM a0 a1 a2 a3 a4 a5 a6 a7 hs st hp tu mo pa) := by
  have hf := hh.flat
  have hl := hh.len
  have e1 := impl_copyRows_ok _ hh.len (fun r hr => Nat.le_trans (hh.row r hr) (by omega))
  have ef : (hs ++ [st, hp]).flatten = hs.flatten ++ (st ++ hp) := by simp
  have e2 := impl_isWhole_ok (hs ++ [st, hp]) (by simp only [List.length_append, List.length_cons, List.length_nil]; omega) (by rw [ef]; simp only [List.length_append]; omega)
  rw [ef, wholeL_perm (b := allM hs st hp) List.perm_append_comm] at e2
  rw [impl_IsGame_eq, impl_IsRules_ok _ _ _ _ _ _ _ _ h4 h5, Option.bind_some, gameM]
  cases hr : rulesM a0 a1 a2 a3 a4 a5 a6 a7
  · rfl
  · have hp0 := rulesM_players a0 a1 a2 a3 a4 a5 a6 a7 hs st hp tu mo pa hr
    rw [if_pos rfl]
    by_cases c1 : (hs.length : Int) = a0
    · have hw : IntKind.i64.wrap ((hs.length : Int) - 1) = a0 - 1 := by rw [wrap_id (by omega) (by omega)]; omega
      simp (disch := (first | omega | (simp only [List.length_append, List.length_cons, List.length_nil, List.length_take, List.length_drop, List.length_set, List.length_replicate, List.length_singleton]; omega))) only [↓if_dpos, ↓if_dneg, ↓if_epos, ↓if_eneg, ↓if_npos, ↓if_nneg, ↓if_pos, ↓if_neg, e1, Int.toNat_natCast, List.nil_append, Nat.zero_add, List.length_singleton, Option.bind_some, List.drop_zero, List.take_length, if_true, if_false, e2, hw, impl_InRange_ok]
      rw [decide_eq_true c1]
      by_cases c2 : 0 < hp.length
      · simp (disch := (first | omega | (simp only [List.length_append, List.length_cons, List.length_nil, List.length_take, List.length_drop, List.length_set, List.length_replicate, List.length_singleton]; omega))) only [↓if_dpos, ↓if_dneg, ↓if_epos, ↓if_eneg, ↓if_npos, ↓if_nneg, ↓if_pos, ↓if_neg, decide_eq_true c2, Bool.true_and]
        cases wholeL (allM hs st hp) <;> cases inR tu 0 (a0 - 1) <;> cases inR mo 0 a7 <;> cases inR pa 0 mo <;> rfl
      · simp (disch := (first | omega | (simp only [List.length_append, List.length_cons, List.length_nil, List.length_take, List.length_drop, List.length_set, List.length_replicate, List.length_singleton]; omega))) only [↓if_dpos, ↓if_dneg, ↓if_epos, ↓if_eneg, ↓if_npos, ↓if_nneg, ↓if_pos, ↓if_neg, decide_eq_false c2, Bool.false_and, Bool.and_false, if_false]
        cases wholeL (allM hs st hp) <;> rfl
    · simp (disch := (first | omega | (simp only [List.length_append, List.length_cons, List.length_nil, List.length_take, List.length_drop, List.length_set, List.length_replicate, List.length_singleton]; omega))) only [↓if_dpos, ↓if_dneg, ↓if_epos, ↓if_eneg, ↓if_npos, ↓if_nneg, ↓if_pos, ↓if_neg, decide_eq_false c1, Bool.false_and, Bool.and_false]
/-- What a valid game is. -/
structure Valid (a0 a1 : Int) (a2 a3 : Bool) (a4 a5 : List Int) (a6 a7 : Int) (hs : List (List Int)) (st hp : List Int) (tu mo pa : Int) : Prop where
  rules : rulesM a0 a1 a2 a3 a4 a5 a6 a7 = true
  p1 : 2 ≤ a0
  p2 : a0 ≤ 6
  players : (hs.length : Int) = a0
  heap : 0 < hp.length
  t1 : 0 ≤ tu
  t2 : tu ≤ a0 - 1
  m1 : 0 ≤ mo
  m2 : mo ≤ a7
  s1 : 0 ≤ pa
  s2 : pa ≤ mo
  lim : a7 ≤ 400
  take1 : 1 ≤ a6
  take2 : a6 ≤ 4
  each1 : 1 ≤ a1
  each2 : a1 ≤ 8
  all : st.length + hp.length + hs.flatten.length = 52
  hand : handM (allM hs st hp) = true
theorem gameM_valid (a0 a1 : Int) (a2 a3 : Bool) (a4 a5 : List Int) (a6 a7 : Int) (hs : List (List Int)) (st hp : List Int) (tu mo pa : Int) (h : gameM a0 a1 a2 a3 a4 a5 a6 a7 hs st hp tu mo pa = true) : Valid a0 a1 a2 a3 a4 a5 a6 a7 hs st hp tu mo pa := by
  simp only [gameM, wholeL, Bool.and_eq_true, decide_eq_true_eq] at h
  obtain ⟨h1, h2, h3, h4, h5, h6, h7, h8⟩ := h
  have k := h1
  simp only [rulesM, Bool.and_eq_true] at k
  simp [inR] at k h4 h5 h6
  simp only [allM, List.length_append] at h7
  exact ⟨h1, by omega, by omega, h2, h3, by omega, by omega, by omega, by omega, by omega, by omega, by omega, by omega, by omega, by omega, by omega, h7, h8⟩
theorem row_le_flat {l : List (List Int)} {r : List Int} (h : r ∈ l) : r.length ≤ l.flatten.length := by
  induction l with
  | nil => cases h
  | cons x l ih =>
    rw [List.flatten_cons, List.length_append]
    rcases List.mem_cons.1 h with e | e
    · subst e; omega
    · have := ih e; omega
theorem getD_le_flat (l : List (List Int)) (i : Nat) : (l.getD i []).length ≤ l.flatten.length := by
  by_cases hi : i < l.length
  · exact row_le_flat (getD_mem hi)
  · rw [List.getD_eq_getElem?_getD, List.getElem?_eq_none (by omega)]; exact Nat.zero_le _
def fstM : List (List Int) → Int → Int
  | [], _ => -1
  | h :: t, i => if h.length = 0 then i else fstM t (i + 1)
def overM (a0 a7 : Int) (hs : List (List Int)) (mo pa : Int) : Bool := decide (fstM hs 0 ≥ 0) || ((mo == a7) || decide (pa ≥ a0))
def winM (a0 a1 : Int) (a2 a3 : Bool) (a4 a5 : List Int) (a6 a7 : Int) (hs : List (List Int)) (st hp : List Int) (tu mo pa : Int) : Int := if gameM a0 a1 a2 a3 a4 a5 a6 a7 hs st hp tu mo pa = true then fstM hs 0 else -1
def endM (a0 a1 : Int) (a2 a3 : Bool) (a4 a5 : List Int) (a6 a7 : Int) (hs : List (List Int)) (st hp : List Int) (tu mo pa : Int) : Bool := gameM a0 a1 a2 a3 a4 a5 a6 a7 hs st hp tu mo pa && overM a0 a7 hs mo pa
theorem filter_take' {l : List Int} {i : Nat} (p : Int → Bool) (hi : i < l.length) : (l.take (i + 1)).filter p = if p (l.getD i 0) = true then (l.take i).filter p ++ [l.getD i 0] else (l.take i).filter p := by
  rw [take_succ_getD (d := 0) hi, List.filter_append, List.filter_cons]
  split <;> simp
end Go.Proofs.YthppocflbgnjlaaDoor.V
