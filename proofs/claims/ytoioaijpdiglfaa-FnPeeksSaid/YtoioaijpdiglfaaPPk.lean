/- Plain laws over the shapes. -/
import Derived.Test.YtoioaijpdiglfaaPDrawG
import Derived.Test.YtoioaijpdiglfaaFStirHidden
import Derived.Test.YtoioaijpdiglfaaS1
import Derived.Test.YtoioaijpdiglfaaS2
import Derived.Test.YtoioaijpdiglfaaS3
import Derived.Test.YtoioaijpdiglfaaS4
set_option linter.unusedVariables false
set_option linter.unusedSimpArgs false
set_option maxRecDepth 10000
namespace Go.Proofs.Ytoioaijpdiglfaa.V
open Go
def remT (me : Int) : List (List Int) → Int → Nat
  | [], _ => 0
  | h :: t, i => (if i = me then 0 else h.length) + remT me t (i + 1)
def colR (me : Int) : List (List Int) → Int → List Int → List Int
  | [], _, acc => acc
  | h :: t, i, acc => colR me t (i + 1) (if i = me then acc else acc ++ h)
theorem remT_le (me : Int) : ∀ (l : List (List Int)) (i : Int), remT me l i ≤ l.flatten.length := by
  intro l
  induction l with
  | nil => intro i; exact Nat.le_refl _
  | cons h t ih =>
    intro i
    have := ih (i + 1)
    rw [remT, List.flatten_cons, List.length_append]
    split <;> omega
theorem spec_CardsHeld_ok (a0 a1 : Int) (a2 a3 : Bool) (a4 a5 : List Int) (a6 a7 : Int) (hs : List (List Int)) (st hp : List Int) (tu mo pa : Int) (hl : hs.length ≤ 2097152) : spec_CardsHeld a0 a1 a2 a3 a4 a5 a6 a7 hs st hp tu mo pa = some (lensM hs) := by
  have h : ∀ i, i ≤ hs.length → spec_CardsHeld_L3 i a0 a1 a2 a3 a4 a5 a6 a7 hs st hp tu mo pa (lensM (hs.take i)) = some (lensM hs) := down (by
      rw [spec_CardsHeld_L3_eq]
      simp (disch := (first | omega | (simp only [List.length_append, List.length_cons, List.length_nil, List.length_take, List.length_drop, List.length_set, List.length_replicate, List.length_singleton]; omega))) only [↓if_dpos, ↓if_dneg, ↓if_epos, ↓if_eneg, ↓if_npos, ↓if_nneg, ↓if_pos, ↓if_neg, Int.toNat_natCast, List.nil_append, Nat.zero_add, List.length_singleton, Option.bind_some, List.drop_zero, List.take_length, if_true, if_false, ]) fun i hi ih => by
    have hk : (lensM (hs.take i)).length ≤ i := by unfold lensM; simp; omega
    have hil : (i : Int) < (hs.length : Int) := by omega
    have hw : IntKind.i64.wrap ((i : Int) + 1) = ((i + 1 : Nat) : Int) := wrap_succ hi (by omega)
    rw [spec_CardsHeld_L3_eq]
    simp (disch := (first | omega | (simp only [List.length_append, List.length_cons, List.length_nil, List.length_take, List.length_drop, List.length_set, List.length_replicate, List.length_singleton]; omega))) only [↓if_dpos, ↓if_dneg, ↓if_epos, ↓if_eneg, ↓if_npos, ↓if_nneg, ↓if_pos, ↓if_neg, hw, Int.toNat_natCast, List.nil_append, Nat.zero_add, List.length_singleton, Option.bind_some, List.drop_zero, List.take_length, if_true, if_false, ]
    rw [← ih]
    unfold lensM
    rw [map_take (d := []) hi]
  rw [spec_CardsHeld_eq]
  exact h 0 (Nat.zero_le _)
def peekM (a0 a1 : Int) (a2 a3 : Bool) (a4 a5 : List Int) (a6 a7 : Int) (hs : List (List Int)) (st hp : List Int) (tu mo pa : Int) (me : Int) : Int × List Int × Int × Int × Int × List Int × Int × Int × Bool :=
  if (gameM a0 a1 a2 a3 a4 a5 a6 a7 hs st hp tu mo pa && inR me 0 ((hs.length : Int) - 1)) = true then (me, sortM (hs.getD me.toNat []), hp.getD (hp.length - 1) 0, (hp.length : Int), (st.length : Int), lensM hs, tu, mo, true) else (0, [], 0, 0, 0, [], 0, 0, false)
theorem spec_PeekOf_ok (a0 a1 : Int) (a2 a3 : Bool) (a4 a5 : List Int) (a6 a7 : Int) (hs : List (List Int)) (st hp : List Int) (tu mo pa : Int) (me : Int) (h4 : a4.length ≤ 1048576) (h5 : a5.length ≤ 1048576) (hh : G2 hs) (h9 : st.length ≤ 2097152) (h10 : hp.length ≤ 2097152) : spec_PeekOf a0 a1 a2 a3 a4 a5 a6 a7 hs st hp tu mo pa me = some (peekM a0 a1 a2 a3 a4 a5 a6 a7 hs st hp tu mo pa me) := by
  have hl := hh.len
  have hw : IntKind.i64.wrap ((hs.length : Int) - 1) = (hs.length : Int) - 1 := wrap_id (by omega) (by omega)
  rw [spec_PeekOf_eq, spec_IsGame_ok a0 a1 a2 a3 a4 a5 a6 a7 hs st hp tu mo pa h4 h5 hh h9 h10, Option.bind_some, hw, spec_l1In_ok, peekM]
  cases hg : gameM a0 a1 a2 a3 a4 a5 a6 a7 hs st hp tu mo pa
  · rfl
  · have v := (gameM_valid a0 a1 a2 a3 a4 a5 a6 a7 hs st hp tu mo pa hg).heap
    cases hm : inR me 0 ((hs.length : Int) - 1)
    · rfl
    · have hm := hm; simp [inR] at hm
      have hrow := hh.at' (i := me.toNat)
      have hw2 : IntKind.i64.wrap ((hp.length : Int) - 1) = ((hp.length - 1 : Nat) : Int) := by rw [wrap_id (by omega) (by omega)]; omega
      simp only [Bool.and_self, if_true]
      simp (disch := (first | omega | (simp only [List.length_append, List.length_cons, List.length_nil, List.length_take, List.length_drop, List.length_set, List.length_replicate, List.length_singleton]; omega))) only [↓if_dpos, ↓if_dneg, ↓if_epos, ↓if_eneg, ↓if_npos, ↓if_nneg, ↓if_pos, ↓if_neg, Int.toNat_natCast, List.nil_append, Nat.zero_add, List.length_singleton, Option.bind_some, List.drop_zero, List.take_length, if_true, if_false, Bool.not_true, Bool.false_eq_true, hw2, spec_Sorted_ok, spec_CardsHeld_ok, if_false]
theorem impl_PeekOf_ok (a0 a1 : Int) (a2 a3 : Bool) (a4 a5 : List Int) (a6 a7 : Int) (hs : List (List Int)) (st hp : List Int) (tu mo pa : Int) (me : Int) (h4 : a4.length ≤ 1048576) (h5 : a5.length ≤ 1048576) (hh : G2 hs) (h9 : st.length ≤ 2097152) (h10 : hp.length ≤ 2097152) : impl_PeekOf a0 a1 a2 a3 a4 a5 a6 a7 hs st hp tu mo pa me = some (peekM a0 a1 a2 a3 a4 a5 a6 a7 hs st hp tu mo pa me) := by
  have hl := hh.len
  have hw : IntKind.i64.wrap ((hs.length : Int) - 1) = (hs.length : Int) - 1 := wrap_id (by omega) (by omega)
  rw [impl_PeekOf_eq, impl_IsGame_ok a0 a1 a2 a3 a4 a5 a6 a7 hs st hp tu mo pa h4 h5 hh h9 h10, Option.bind_some, hw, impl_InRange_ok, peekM]
  cases hg : gameM a0 a1 a2 a3 a4 a5 a6 a7 hs st hp tu mo pa
  · rfl
  · have v := (gameM_valid a0 a1 a2 a3 a4 a5 a6 a7 hs st hp tu mo pa hg).heap
    cases hm : inR me 0 ((hs.length : Int) - 1)
    · rfl
    · have hm := hm; simp [inR] at hm
      have hrow := hh.at' (i := me.toNat)
      have hw2 : IntKind.i64.wrap ((hp.length : Int) - 1) = ((hp.length - 1 : Nat) : Int) := by rw [wrap_id (by omega) (by omega)]; omega
      simp only [Bool.and_self, if_true]
      simp (disch := (first | omega | (simp only [List.length_append, List.length_cons, List.length_nil, List.length_take, List.length_drop, List.length_set, List.length_replicate, List.length_singleton]; omega))) only [↓if_dpos, ↓if_dneg, ↓if_epos, ↓if_eneg, ↓if_npos, ↓if_nneg, ↓if_pos, ↓if_neg, Int.toNat_natCast, List.nil_append, Nat.zero_add, List.length_singleton, Option.bind_some, List.drop_zero, List.take_length, if_true, if_false, Bool.not_true, Bool.false_eq_true, hw2, impl_Sorted_ok, impl_sizes_ok, if_false]
theorem getD_setG {α : Type} {l : List α} {i j : Nat} {x d : α} (hi : i < l.length) : (l.set i x).getD j d = if i = j then x else l.getD j d := by
  rw [List.getD_eq_getElem?_getD, List.getElem?_set]
  by_cases e : i = j
  · rw [if_pos e, if_pos e, if_pos hi]; rfl
  · rw [if_neg e, if_neg e, List.getD_eq_getElem?_getD]
theorem colR_acc (me : Int) : ∀ (l : List (List Int)) (i : Int) (acc : List Int), colR me l i acc = acc ++ colR me l i [] := by
  intro l
  induction l with
  | nil => intro i acc; rw [colR, colR, List.append_nil]
  | cons h t ih =>
    intro i acc
    rw [colR, colR]
    by_cases c : i = me
    · rw [if_pos c, if_pos c]; exact ih _ _
    · rw [if_neg c, if_neg c, ih _ (acc ++ h), ih _ ([] ++ h), List.nil_append, List.append_assoc]
theorem colR_after (me : Int) : ∀ (l : List (List Int)) (i : Int), me < i → colR me l i [] = l.flatten := by
  intro l
  induction l with
  | nil => intro i _; rfl
  | cons h t ih => intro i hi; rw [colR, if_neg (by omega), colR_acc, List.nil_append, ih _ (by omega), List.flatten_cons]
theorem colR_perm (me : Int) : ∀ (l : List (List Int)) (i : Int) (m : Nat), m < l.length → me = i + (m : Int) → l.flatten.Perm (l.getD m [] ++ colR me l i []) := by
  intro l
  induction l with
  | nil => intro i m h; exact absurd h (Nat.not_lt_zero m)
  | cons h t ih =>
    intro i m hm e
    rw [colR, List.flatten_cons]
    cases m with
    | zero => rw [if_pos (by omega), List.getD_cons_zero, colR_after me t _ (by omega)]
    | succ m =>
      rw [if_neg (by omega), colR_acc, List.nil_append, List.getD_cons_succ]
      rw [List.length_cons] at hm
      have := ih (i + 1) m (by omega) (by omega)
      refine (this.append_left h).trans ?_
      rw [← List.append_assoc, ← List.append_assoc]
      exact List.perm_append_comm.append_right _
theorem colR_mem (me : Int) {x : Int} : ∀ (l : List (List Int)) (i : Int) (j : Nat), j < l.length → i + (j : Int) ≠ me → x ∈ l.getD j [] → x ∈ colR me l i [] := by
  intro l
  induction l with
  | nil => intro i j h; exact absurd h (Nat.not_lt_zero j)
  | cons h t ih =>
    intro i j hj e hx
    rw [colR, colR_acc]
    cases j with
    | zero =>
      rw [List.getD_cons_zero] at hx
      rw [if_neg (by omega), List.nil_append]
      exact List.mem_append_left _ hx
    | succ j =>
      rw [List.getD_cons_succ] at hx
      rw [List.length_cons] at hj
      exact List.mem_append_right _ (ih (i + 1) j (by omega) (by omega) hx)
theorem stir_dealP (me : Int) (a0 a1 : Int) (a2 a3 : Bool) (a4 a5 : List Int) (a6 a7 : Int) (hs : List (List Int)) (st hp : List Int) (tu mo pa : Int) (all : List Int) (hl : hs.length ≤ 6) (ha : all.length ≤ 52) : ∀ i, i ≤ hs.length → ∀ (at' : Nat) (out : List (List Int)), out.length = hs.length → (∀ j : Nat, (j : Int) = me → out.getD j [] = hs.getD j []) → (∀ j : Nat, (out.getD j []).length = (hs.getD j []).length) → at' + remT me (hs.drop i) i ≤ all.length →
    ∃ r8 r9, impl_StirHidden_L13v1 me at' all.length hs hs.length i 0 0 false false 0 0 0 0 0 a0 a1 a2 a3 a6 a7 tu mo pa all a4 a5 out st hp = some (a0, a1, a2, a3, a4, a5, a6, a7, r8, r9, hp, tu, mo, pa) ∧
      (at' = 0 → impl_StirHidden_L13 me hs hs.length i 0 0 false false 0 0 0 0 0 a0 a1 a2 a3 a6 a7 tu mo pa all a4 a5 out st hp = some (a0, a1, a2, a3, a4, a5, a6, a7, r8, r9, hp, tu, mo, pa)) ∧
      r8.length = hs.length ∧ (∀ j : Nat, (j : Int) = me → r8.getD j [] = hs.getD j []) ∧ (∀ j : Nat, (r8.getD j []).length = (hs.getD j []).length) ∧ r9.length + (at' + remT me (hs.drop i) i) = all.length ∧ (∀ j, j < i → r8.getD j [] = out.getD j []) ∧ colR me (r8.drop i) i [] ++ r9 = all.drop at' := down (by
    intro at' out ho hm hln hat
    have e := impl_copyOf_ok (all.drop at') (by simp; omega)
    have e2 := impl_copyOf_ok all (by omega)
    rw [List.drop_of_length_le (Nat.le_refl _), remT] at hat
    rw [impl_StirHidden_L13v1_eq]
    simp (disch := (first | omega | (simp only [List.length_append, List.length_cons, List.length_nil, List.length_take, List.length_drop, List.length_set, List.length_replicate, List.length_singleton]; omega))) only [↓if_dpos, ↓if_dneg, ↓if_epos, ↓if_eneg, ↓if_npos, ↓if_nneg, ↓if_pos, ↓if_neg, Int.toNat_natCast, List.nil_append, Nat.zero_add, List.length_singleton, Option.bind_some, List.drop_zero, List.take_length, if_true, if_false, e]
    refine ⟨_, _, rfl, fun h0 => ?_, ho, hm, hln, by rw [List.drop_of_length_le (Nat.le_refl _), remT, List.length_drop]; omega, fun _ _ => rfl, ?_⟩
    · rw [impl_StirHidden_L13_eq]
      simp (disch := (first | omega | (simp only [List.length_append, List.length_cons, List.length_nil, List.length_take, List.length_drop, List.length_set, List.length_replicate, List.length_singleton]; omega))) only [↓if_dpos, ↓if_dneg, ↓if_epos, ↓if_eneg, ↓if_npos, ↓if_nneg, ↓if_pos, ↓if_neg, Int.toNat_natCast, List.nil_append, Nat.zero_add, List.length_singleton, Option.bind_some, List.drop_zero, List.take_length, if_true, if_false, e2]
      rw [h0, List.drop_zero]
    · rw [List.drop_of_length_le (by omega)]; rfl) fun i hi ih at' out ho hm hln hat => by
  have hil : (i : Int) < (hs.length : Int) := by omega
  have hw : IntKind.i64.wrap ((i : Int) + 1) = ((i + 1 : Nat) : Int) := wrap_succ hi (by omega)
  have hdr : hs.drop i = hs.getD i [] :: hs.drop (i + 1) := getD_drop hi
  rw [hdr, remT] at hat ⊢
  have hcast : ((i + 1 : Nat) : Int) = (i : Int) + 1 := rfl
  rw [impl_StirHidden_L13v1_eq]
  by_cases hme : (i : Int) = me
  · rw [if_pos hme] at hat ⊢
    simp (disch := (first | omega | (simp only [List.length_append, List.length_cons, List.length_nil, List.length_take, List.length_drop, List.length_set, List.length_replicate, List.length_singleton]; omega))) only [↓if_dpos, ↓if_dneg, ↓if_epos, ↓if_eneg, ↓if_npos, ↓if_nneg, ↓if_pos, ↓if_neg, hw, Int.toNat_natCast, List.nil_append, Nat.zero_add, List.length_singleton, Option.bind_some, List.drop_zero, List.take_length, if_true, if_false]
    obtain ⟨r8, r9, x2, x3, y1, y2, y3, y4, y5, y6⟩ := ih at' out ho hm hln (by rw [hcast]; omega)
    rw [hcast] at y4 y6
    refine ⟨r8, r9, x2, fun h0 => ?_, y1, y2, y3, by omega, fun j hj => y5 j (by omega), ?_⟩
    · rw [impl_StirHidden_L13_eq]
      simp (disch := (first | omega | (simp only [List.length_append, List.length_cons, List.length_nil, List.length_take, List.length_drop, List.length_set, List.length_replicate, List.length_singleton]; omega))) only [↓if_dpos, ↓if_dneg, ↓if_epos, ↓if_eneg, ↓if_npos, ↓if_nneg, ↓if_pos, ↓if_neg, hw, Int.toNat_natCast, List.nil_append, Nat.zero_add, List.length_singleton, Option.bind_some, List.drop_zero, List.take_length, if_true, if_false]
      exact x3 h0
    · rw [getD_drop (d := []) (by omega : i < r8.length), colR, if_pos hme]; exact y6
  · rw [if_neg hme] at hat ⊢
    have hrow : (hs.getD i []).length ≤ all.length := by omega
    have e := impl_copyOf_ok ((all.take (at' + (hs.getD i []).length)).drop at') (by simp; omega)
    have hsub : at' + (all.length - at') = all.length := by omega
    have hcl : ((all.take (at' + (hs.getD i []).length)).drop at').length = (hs.getD i []).length := by rw [List.length_drop, List.length_take]; omega
    simp (disch := (first | omega | (simp only [List.length_append, List.length_cons, List.length_nil, List.length_take, List.length_drop, List.length_set, List.length_replicate, List.length_singleton]; omega))) only [↓if_dpos, ↓if_dneg, ↓if_epos, ↓if_eneg, ↓if_npos, ↓if_nneg, ↓if_pos, ↓if_neg, hw, Int.toNat_natCast, List.nil_append, Nat.zero_add, List.length_singleton, Option.bind_some, List.drop_zero, List.take_length, if_true, if_false, e, hsub]
    obtain ⟨r8, r9, x2, x3, y1, y2, y3, y4, y5, y6⟩ := ih (at' + (hs.getD i []).length) (out.set i ((all.take (at' + (hs.getD i []).length)).drop at')) (by rw [List.length_set]; exact ho) (fun j hj => by rw [getD_setG (by omega), if_neg (fun e => hme (by rw [e]; exact hj))]; exact hm j hj) (fun j => by
      rw [getD_setG (by omega)]
      by_cases c : i = j
      · rw [if_pos c, hcl, c]
      · rw [if_neg c]; exact hln j) (by rw [hcast]; omega)
    rw [hcast] at y4 y6
    refine ⟨r8, r9, x2, fun h0 => ?_, y1, y2, y3, by omega, fun j hj => by rw [y5 j (by omega), getD_setG (by omega), if_neg (by omega)], ?_⟩
    · subst h0
      rw [Nat.zero_add, List.drop_zero] at e x2
      rw [impl_StirHidden_L13_eq]
      simp (disch := (first | omega | (simp only [List.length_append, List.length_cons, List.length_nil, List.length_take, List.length_drop, List.length_set, List.length_replicate, List.length_singleton]; omega))) only [↓if_dpos, ↓if_dneg, ↓if_epos, ↓if_eneg, ↓if_npos, ↓if_nneg, ↓if_pos, ↓if_neg, hw, Int.toNat_natCast, List.nil_append, Nat.zero_add, List.length_singleton, Option.bind_some, List.drop_zero, List.take_length, if_true, if_false, e]
      exact x2
    · rw [getD_drop (d := []) (by omega : i < r8.length), colR, if_neg hme, colR_acc, List.nil_append, y5 i (by omega), getD_setG (by omega), if_pos rfl, List.append_assoc, y6, List.drop_take, Nat.add_sub_cancel_left, ← List.drop_drop, List.take_append_drop]
theorem stir_colP (me seed : Int) (a0 a1 : Int) (a2 a3 : Bool) (a4 a5 : List Int) (a6 a7 : Int) (hs : List (List Int)) (st hp : List Int) (tu mo pa : Int) (hl : hs.length ≤ 6) (hf : hs.flatten.length + st.length ≤ 52) : ∀ i, i ≤ hs.length → ∀ acc : List Int, acc.length + remT me (hs.drop i) i = remT me hs 0 → acc ++ colR me (hs.drop i) i [] = colR me hs 0 [] →
    ∃ r8 r9, impl_StirHidden_L6 me seed hs hs.length i a0 a1 a2 a3 a4 a5 a6 a7 hs st hp tu mo pa 0 0 false false 0 0 0 0 0 a0 a1 a2 a3 a6 a7 tu mo pa acc a4 a5 hs st hp = some (a0, a1, a2, a3, a4, a5, a6, a7, r8, r9, hp, tu, mo, pa) ∧ r8.length = hs.length ∧ (∀ j : Nat, (j : Int) = me → r8.getD j [] = hs.getD j []) ∧ (∀ j : Nat, (r8.getD j []).length = (hs.getD j []).length) ∧ r9.length = st.length ∧ (colR me r8 0 [] ++ r9).Perm (colR me hs 0 [] ++ st) := down (by
    intro acc hacc hcol
    have hr := remT_le me hs 0
    rw [List.drop_of_length_le (Nat.le_refl _), remT, Nat.add_zero] at hacc
    rw [List.drop_of_length_le (Nat.le_refl _), colR, List.append_nil] at hcol
    have e2 := impl_Shuffled_ok (acc ++ st) seed (by simp only [List.length_append]; omega)
    have hsp := shuffledM_perm seed (l := acc ++ st) (by simp only [List.length_append]; omega)
    have hsl : (shuffledM (acc ++ st) seed).length = acc.length + st.length := by rw [hsp.length_eq, List.length_append]
    rw [impl_StirHidden_L6_eq]
    simp (disch := (first | omega | (simp only [List.length_append, List.length_cons, List.length_nil, List.length_take, List.length_drop, List.length_set, List.length_replicate, List.length_singleton]; omega))) only [↓if_dpos, ↓if_dneg, ↓if_epos, ↓if_eneg, ↓if_npos, ↓if_nneg, ↓if_pos, ↓if_neg, Int.toNat_natCast, List.nil_append, Nat.zero_add, List.length_singleton, Option.bind_some, List.drop_zero, List.take_length, if_true, if_false, e2]
    obtain ⟨r8, r9, x1, x3, y1, y2, y3, y4, y5, y6⟩ := stir_dealP me a0 a1 a2 a3 a4 a5 a6 a7 hs st hp tu mo pa (shuffledM (acc ++ st) seed) hl (by omega) 0 (Nat.zero_le _) 0 hs rfl (fun _ _ => rfl) (fun _ => rfl) (by rw [List.drop_zero, Int.natCast_zero]; omega)
    rw [List.drop_zero, Int.natCast_zero] at y4 y6
    rw [List.drop_zero] at y6
    refine ⟨r8, r9, x3 rfl, y1, y2, y3, by omega, ?_⟩
    rw [y6, ← hcol]
    exact hsp) fun i hi ih acc hacc hcol => by
  have hil : (i : Int) < (hs.length : Int) := by omega
  have hw : IntKind.i64.wrap ((i : Int) + 1) = ((i + 1 : Nat) : Int) := wrap_succ hi (by omega)
  have hr := remT_le me hs 0
  have hrow := getD_le_flat hs i
  have hcast : ((i + 1 : Nat) : Int) = (i : Int) + 1 := rfl
  rw [getD_drop (d := []) hi, remT] at hacc
  rw [getD_drop (d := []) hi, colR] at hcol
  rw [impl_StirHidden_L6_eq]
  by_cases hm : (i : Int) = me
  · rw [if_pos hm] at hacc hcol
    simp (disch := (first | omega | (simp only [List.length_append, List.length_cons, List.length_nil, List.length_take, List.length_drop, List.length_set, List.length_replicate, List.length_singleton]; omega))) only [↓if_dpos, ↓if_dneg, ↓if_epos, ↓if_eneg, ↓if_npos, ↓if_nneg, ↓if_pos, ↓if_neg, hw, Int.toNat_natCast, List.nil_append, Nat.zero_add, List.length_singleton, Option.bind_some, List.drop_zero, List.take_length, if_true, if_false]
    exact ih acc (by rw [hcast]; omega) hcol
  · rw [if_neg hm] at hacc hcol
    simp (disch := (first | omega | (simp only [List.length_append, List.length_cons, List.length_nil, List.length_take, List.length_drop, List.length_set, List.length_replicate, List.length_singleton]; omega))) only [↓if_dpos, ↓if_dneg, ↓if_epos, ↓if_eneg, ↓if_npos, ↓if_nneg, ↓if_pos, ↓if_neg, hw, Int.toNat_natCast, List.nil_append, Nat.zero_add, List.length_singleton, Option.bind_some, List.drop_zero, List.take_length, if_true, if_false]
    exact ih _ (by rw [hcast, List.length_append]; omega) (by rw [hcast, List.append_assoc, ← hcol, colR_acc me _ _ ([] ++ _), List.nil_append])
/-- What is mixed stays a game, and looks the same to one. -/
theorem stir_is (a0 a1 : Int) (a2 a3 : Bool) (a4 a5 : List Int) (a6 a7 : Int) (hs : List (List Int)) (st hp : List Int) (tu mo pa : Int) (sm : Sm 60 a4 a5 hs st hp) (me seed : Int) : ∃ r8 r9, impl_StirHidden a0 a1 a2 a3 a4 a5 a6 a7 hs st hp tu mo pa me seed = some (a0, a1, a2, a3, a4, a5, a6, a7, r8, r9, hp, tu, mo, pa) ∧ peekM a0 a1 a2 a3 a4 a5 a6 a7 r8 r9 hp tu mo pa me = peekM a0 a1 a2 a3 a4 a5 a6 a7 hs st hp tu mo pa me ∧ gameM a0 a1 a2 a3 a4 a5 a6 a7 r8 r9 hp tu mo pa = gameM a0 a1 a2 a3 a4 a5 a6 a7 hs st hp tu mo pa ∧ Sm 60 a4 a5 r8 r9 hp := by
  have hl := sm.2.2.1
  have w : IntKind.i64.wrap ((hs.length : Int) - 1) = (hs.length : Int) - 1 := wrap_id (by omega) (by omega)
  have h4 : a4.length ≤ 2097152 := by have := sm.1; omega
  have h5 : a5.length ≤ 2097152 := by have := sm.2.1; omega
  rw [impl_StirHidden_eq, impl_Game_copied_ok a0 a1 a2 a3 a4 a5 a6 a7 hs st hp tu mo pa (by have := sm.1; omega) (by have := sm.2.1; omega) (sm.g2 (by omega)) (by have := sm.2.2.2; omega) (by have := sm.2.2.2; omega), Option.bind_some, impl_IsGame_ok a0 a1 a2 a3 a4 a5 a6 a7 hs st hp tu mo pa (by have := sm.1; omega) (by have := sm.2.1; omega) (sm.g2 (by omega)) (by have := sm.2.2.2; omega) (by have := sm.2.2.2; omega), Option.bind_some, w]
  cases hg : gameM a0 a1 a2 a3 a4 a5 a6 a7 hs st hp tu mo pa with
  | false => exact ⟨hs, st, rfl, rfl, hg, sm⟩
  | true =>
    rw [if_neg (by decide), impl_InRange_ok, Option.bind_some]
    cases hi : inR me 0 ((hs.length : Int) - 1) with
    | false => exact ⟨hs, st, rfl, rfl, hg, sm⟩
    | true =>
      rw [if_neg (by decide)]
      have hi := inR_iff.1 hi
      have v := gameM_valid a0 a1 a2 a3 a4 a5 a6 a7 hs st hp tu mo pa hg
      have v1 := v.all
      obtain ⟨m, rfl⟩ : ∃ q : Nat, me = (q : Int) := ⟨me.toNat, by omega⟩
      obtain ⟨r8, r9, x1, y1, y2, y3, y4, y5⟩ := stir_colP (m : Int) seed a0 a1 a2 a3 a4 a5 a6 a7 hs st hp tu mo pa hl (by omega) 0 (Nat.zero_le _) [] (by rw [List.drop_zero, Int.natCast_zero]; simp) (by rw [List.drop_zero, Int.natCast_zero]; rfl)
      have hme : r8.getD m [] = hs.getD m [] := y2 m rfl
      have p1 := colR_perm (m : Int) r8 0 m (by omega) (by omega)
      have p2 := colR_perm (m : Int) hs 0 m (by omega) (by omega)
      rw [hme] at p1
      have hperm : (allM r8 r9 hp).Perm (allM hs st hp) := by
        refine List.perm_iff_count.2 fun a => ?_
        have c1 := p1.count_eq a
        have c2 := p2.count_eq a
        have c3 := y5.count_eq a
        simp only [List.count_append] at c1 c2 c3
        simp only [allM, List.count_append]
        omega
      have hflat : r8.flatten.length = hs.flatten.length := by
        have := hperm.length_eq
        simp only [allM, List.length_append] at this
        omega
      have hgm : gameM a0 a1 a2 a3 a4 a5 a6 a7 r8 r9 hp tu mo pa = true := by
        have hg' := hg
        rw [gameM, ← wholeL_perm hperm, ← y1] at hg'
        exact hg'
      have hlens : lensM r8 = lensM hs := by
        refine List.ext_getElem? fun j => ?_
        rw [lensM, lensM, List.getElem?_map, List.getElem?_map]
        have := y3 j
        by_cases c : j < hs.length
        · rw [List.getD_eq_getElem?_getD, List.getD_eq_getElem?_getD, List.getElem?_eq_getElem c, List.getElem?_eq_getElem (by omega : j < r8.length)] at this
          rw [List.getElem?_eq_getElem c, List.getElem?_eq_getElem (by omega : j < r8.length)]
          simp only [Option.getD_some] at this
          simp only [Option.map_some, this]
        · rw [List.getElem?_eq_none (by omega), List.getElem?_eq_none (by omega)]
      refine ⟨r8, r9, x1, ?_, hgm, sm.1, sm.2.1, by omega, by have := sm.2.2.2; omega⟩
      rw [peekM, peekM, hgm, hg, hlens, y1, y4, Int.toNat_natCast, hme]
/-- Who sees a game may think that others hold what they hold. -/
theorem may_hold (a0 a1 : Int) (a2 a3 : Bool) (a4 a5 : List Int) (a6 a7 : Int) (hs : List (List Int)) (st hp : List Int) (tu mo pa : Int) (hg : gameM a0 a1 a2 a3 a4 a5 a6 a7 hs st hp tu mo pa = true) (me : Int) (hi : inR me 0 ((hs.length : Int) - 1) = true) (i k : Nat) (h1 : i < hs.length) (h2 : k < (hs.getD i []).length) (h3 : (i : Int) ≠ me) (b0 b3 b4 b6 b7 : Int) (b5 : List Int) : impl_MayHold b0 (sortM (hs.getD me.toNat [])) (hp.getD (hp.length - 1) 0) b3 b4 b5 b6 b7 ((hs.getD i []).getD k 0) = some true := by
  have hi := inR_iff.1 hi
  have v := gameM_valid a0 a1 a2 a3 a4 a5 a6 a7 hs st hp tu mo pa hg
  have v1 := v.all
  have vh := v.heap
  obtain ⟨m, rfl⟩ : ∃ q : Nat, me = (q : Int) := ⟨me.toNat, by omega⟩
  have hc := getD_mem (d := (0 : Int)) h2
  generalize (hs.getD i []).getD k 0 = x at hc ⊢
  have hx : x ∈ colR (m : Int) hs 0 [] := colR_mem (m : Int) hs 0 i h1 (by omega) hc
  have p2 := colR_perm (m : Int) hs 0 m (by omega) (by omega)
  have hnd : (allM hs st hp).Nodup ∧ ∀ y ∈ allM hs st hp, isC y = true := by
    have := v.hand
    rw [handM, Bool.and_eq_true, decide_eq_true_eq, List.all_eq_true] at this
    exact ⟨this.2, this.1⟩
  have hperm : (allM hs st hp).Perm (hp ++ (hs.getD m [] ++ (colR (m : Int) hs 0 [] ++ st))) := by
    refine List.perm_iff_count.2 fun a => ?_
    have c2 := p2.count_eq a
    simp only [List.count_append] at c2
    simp only [allM, List.count_append]
    omega
  have hn2 := hperm.nodup_iff.1 hnd.1
  have hmem : x ∈ allM hs st hp := hperm.mem_iff.2 (List.mem_append_right _ (List.mem_append_right _ (List.mem_append_left _ hx)))
  rw [List.nodup_append] at hn2
  obtain ⟨_, n2, n3⟩ := hn2
  rw [List.nodup_append] at n2
  have hs1 : hasM (sortM (hs.getD m [])) x = false := by
    cases e : hasM (sortM (hs.getD m [])) x with
    | false => rfl
    | true =>
      have e : x ∈ sortM (hs.getD m []) := by simpa [hasM] using e
      exact absurd rfl (n2.2.2 x (sortM_mem.1 e) x (List.mem_append_left _ hx))
  have ht : hp.getD (hp.length - 1) 0 ∈ hp := getD_mem (by omega)
  have hne : ¬ x = hp.getD (hp.length - 1) 0 := fun e => n3 _ ht x (List.mem_append_right _ (List.mem_append_left _ hx)) e.symm
  have hlen : (hs.getD m []).length ≤ 52 := by
    have := row_le_flat (getD_mem (d := []) (by omega : m < hs.length)); omega
  rw [Int.toNat_natCast, impl_MayHold_eq, impl_IsCard_ok, Option.bind_some, hnd.2 x hmem, if_pos rfl, impl_HasCard_ok _ _ (by rw [sortM_length]; omega), Option.bind_some, hs1, if_pos (by decide), show (x != hp.getD (hp.length - 1) 0) = true by rw [bne_iff_ne]; exact hne]
theorem same_peek (p0 : Int) (p1 : List Int) (p2 p3 p4 : Int) (p5 : List Int) (p6 p7 q0 : Int) (q1 : List Int) (q2 q3 q4 : Int) (q5 : List Int) (q6 q7 : Int) (h1 : p1.length ≤ 1000) (h5 : p5.length ≤ 1000) : impl_SamePeek p0 p1 p2 p3 p4 p5 p6 p7 q0 q1 q2 q3 q4 q5 q6 q7 = some (decide (p0 = q0) && (decide (p1 = q1) && (decide (p2 = q2) && (decide (p3 = q3) && (decide (p4 = q4) && (decide (p5 = q5) && (decide (p6 = q6) && decide (p7 = q7)))))))) := by
  rw [impl_SamePeek_eq, impl_EqualInts_ok p1 q1 (by omega), impl_EqualInts_ok p5 q5 (by omega)]
  by_cases e0 : p0 = q0 <;> by_cases e1 : p1 = q1 <;> by_cases e2 : p2 = q2 <;> by_cases e3 : p3 = q3 <;> by_cases e4 : p4 = q4 <;> by_cases e5 : p5 = q5 <;> by_cases e6 : p6 = q6 <;> by_cases e7 : p7 = q7 <;> simp [e0, e1, e2, e3, e4, e5, e6, e7]
theorem peek_small (a0 a1 : Int) (a2 a3 : Bool) (a4 a5 : List Int) (a6 a7 : Int) (hs : List (List Int)) (st hp : List Int) (tu mo pa : Int) (sm : Sm 60 a4 a5 hs st hp) (me : Int) : (peekM a0 a1 a2 a3 a4 a5 a6 a7 hs st hp tu mo pa me).2.1.length ≤ 60 ∧ (peekM a0 a1 a2 a3 a4 a5 a6 a7 hs st hp tu mo pa me).2.2.2.2.2.1.length ≤ 60 := by
  unfold peekM
  split
  · rename_i h
    rw [Bool.and_eq_true] at h
    have hi := inR_iff.1 h.2
    refine ⟨?_, ?_⟩
    · show (sortM (hs.getD me.toNat [])).length ≤ 60
      have := row_le_flat (getD_mem (d := []) (by omega : me.toNat < hs.length))
      have := sm.2.2.2
      rw [sortM_length]; omega
    · show (lensM hs).length ≤ 60
      have := sm.2.2.1
      rw [lensM_length]; omega
  · exact ⟨Nat.zero_le _, Nat.zero_le _⟩
def DPk (r : Int × Int × Bool × Bool × List Int × List Int × Int × Int × List (List Int) × List Int × List Int × Int × Int × Int × Int) : Prop := Sm 60 r.2.2.2.2.1 r.2.2.2.2.2.1 r.2.2.2.2.2.2.2.2.1 r.2.2.2.2.2.2.2.2.2.1 r.2.2.2.2.2.2.2.2.2.2.1
theorem DrawPeekOf_tot {a : List Int} (ha : a.length ≤ 1048576) : Tot (spec_DrawPeekOf a) DPk := by
  rw [spec_DrawPeekOf_eq]
  exact Tot.bind (l1New_tot ha) fun c hc => Tot.bind (l24Draw_tot hc) fun p hp => Tot.bind (l1Below_tot hp.1 _) fun s hs => Tot.ret hp.2
theorem DrawStirHidden_tot {a : List Int} (ha : a.length ≤ 1048576) : Tot (spec_DrawStirHidden a) (fun r => Sm 60 r.2.2.2.2.1 r.2.2.2.2.2.1 r.2.2.2.2.2.2.2.2.1 r.2.2.2.2.2.2.2.2.2.1 r.2.2.2.2.2.2.2.2.2.2.1) := by
  rw [spec_DrawStirHidden_eq]
  exact Tot.bind (DrawPeekOf_tot ha) fun p hp => Tot.bind (l1New_tot ha) fun c hc => Tot.bind (l1Below_tot hc _) fun s hs => Tot.ret hp

theorem DrawSamePeek_tot {a : List Int} (ha : a.length ≤ 1048576) : Tot (spec_DrawSamePeek a) (fun r => r.2.1.length ≤ 1000 ∧ r.2.2.2.2.2.1.length ≤ 1000 ∧ r.2.2.2.2.2.2.2.2.2.1.length ≤ 1000 ∧ r.2.2.2.2.2.2.2.2.2.2.2.2.2.1.length ≤ 1000) := by
  rw [spec_DrawSamePeek_eq]
  refine Tot.bind (DrawPeekOf_tot ha) fun q hq => ?_
  have hps := peek_small q.1 q.2.1 q.2.2.1 q.2.2.2.1 q.2.2.2.2.1 q.2.2.2.2.2.1 q.2.2.2.2.2.2.1 q.2.2.2.2.2.2.2.1 q.2.2.2.2.2.2.2.2.1 q.2.2.2.2.2.2.2.2.2.1 q.2.2.2.2.2.2.2.2.2.2.1 q.2.2.2.2.2.2.2.2.2.2.2.1 q.2.2.2.2.2.2.2.2.2.2.2.2.1 q.2.2.2.2.2.2.2.2.2.2.2.2.2.1 hq q.2.2.2.2.2.2.2.2.2.2.2.2.2.2
  rw [spec_PeekOf_ok q.1 q.2.1 q.2.2.1 q.2.2.2.1 q.2.2.2.2.1 q.2.2.2.2.2.1 q.2.2.2.2.2.2.1 q.2.2.2.2.2.2.2.1 q.2.2.2.2.2.2.2.2.1 q.2.2.2.2.2.2.2.2.2.1 q.2.2.2.2.2.2.2.2.2.2.1 q.2.2.2.2.2.2.2.2.2.2.2.1 q.2.2.2.2.2.2.2.2.2.2.2.2.1 q.2.2.2.2.2.2.2.2.2.2.2.2.2.1 q.2.2.2.2.2.2.2.2.2.2.2.2.2.2 (by have := hq.1; omega) (by have := hq.2.1; omega) (Sm.g2 hq (by omega)) (by have := hq.2.2.2; omega) (by have := hq.2.2.2; omega), Option.bind_some, Option.bind_some]
  generalize peekM q.1 q.2.1 q.2.2.1 q.2.2.2.1 q.2.2.2.2.1 q.2.2.2.2.2.1 q.2.2.2.2.2.2.1 q.2.2.2.2.2.2.2.1 q.2.2.2.2.2.2.2.2.1 q.2.2.2.2.2.2.2.2.2.1 q.2.2.2.2.2.2.2.2.2.2.1 q.2.2.2.2.2.2.2.2.2.2.2.1 q.2.2.2.2.2.2.2.2.2.2.2.2.1 q.2.2.2.2.2.2.2.2.2.2.2.2.2.1 q.2.2.2.2.2.2.2.2.2.2.2.2.2.2 = p at hps ⊢
  obtain ⟨s1, s2⟩ := hps
  refine Tot.bind (l1New_tot ha) fun c hc => Tot.bind (l1Below_tot hc _) fun s hs => Tot.ite (fun _ => Tot.ret ⟨?_, ?_, ?_, ?_⟩) fun _ => Tot.ite (fun _ => Tot.guard (by rw [List.length_singleton]; omega) (Tot.ret ⟨?_, ?_, ?_, ?_⟩)) fun _ => Tot.ret ⟨?_, ?_, ?_, ?_⟩
  · show p.2.1.length ≤ 1000; omega
  · show p.2.2.2.2.2.1.length ≤ 1000; omega
  · show p.2.1.length ≤ 1000; omega
  · show p.2.2.2.2.2.1.length ≤ 1000; omega
  · show p.2.1.length ≤ 1000; omega
  · show p.2.2.2.2.2.1.length ≤ 1000; omega
  · show p.2.1.length ≤ 1000; omega
  · show (p.2.2.2.2.2.1 ++ [(1 : Int)]).length ≤ 1000; rw [List.length_append, List.length_singleton]; omega
  · show p.2.1.length ≤ 1000; omega
  · show p.2.2.2.2.2.1.length ≤ 1000; omega
  · show p.2.1.length ≤ 1000; omega
  · show p.2.2.2.2.2.1.length ≤ 1000; omega
theorem DrawHiddenCount_tot {a : List Int} (ha : a.length ≤ 1048576) : Tot (spec_DrawHiddenCount a) (fun r => r.2.1.length ≤ 1000) := by
  rw [spec_DrawHiddenCount_eq, spec_DrawMayHold_eq]
  refine Tot.bind (Q := fun r => r.2.1.length ≤ 1000) (Tot.bind (DrawPeekOf_tot ha) fun q hq => ?_) fun r hr => Tot.ret hr
  have hps := peek_small q.1 q.2.1 q.2.2.1 q.2.2.2.1 q.2.2.2.2.1 q.2.2.2.2.2.1 q.2.2.2.2.2.2.1 q.2.2.2.2.2.2.2.1 q.2.2.2.2.2.2.2.2.1 q.2.2.2.2.2.2.2.2.2.1 q.2.2.2.2.2.2.2.2.2.2.1 q.2.2.2.2.2.2.2.2.2.2.2.1 q.2.2.2.2.2.2.2.2.2.2.2.2.1 q.2.2.2.2.2.2.2.2.2.2.2.2.2.1 hq q.2.2.2.2.2.2.2.2.2.2.2.2.2.2
  rw [spec_PeekOf_ok q.1 q.2.1 q.2.2.1 q.2.2.2.1 q.2.2.2.2.1 q.2.2.2.2.2.1 q.2.2.2.2.2.2.1 q.2.2.2.2.2.2.2.1 q.2.2.2.2.2.2.2.2.1 q.2.2.2.2.2.2.2.2.2.1 q.2.2.2.2.2.2.2.2.2.2.1 q.2.2.2.2.2.2.2.2.2.2.2.1 q.2.2.2.2.2.2.2.2.2.2.2.2.1 q.2.2.2.2.2.2.2.2.2.2.2.2.2.1 q.2.2.2.2.2.2.2.2.2.2.2.2.2.2 (by have := hq.1; omega) (by have := hq.2.1; omega) (Sm.g2 hq (by omega)) (by have := hq.2.2.2; omega) (by have := hq.2.2.2; omega), Option.bind_some]
  generalize peekM q.1 q.2.1 q.2.2.1 q.2.2.2.1 q.2.2.2.2.1 q.2.2.2.2.2.1 q.2.2.2.2.2.2.1 q.2.2.2.2.2.2.2.1 q.2.2.2.2.2.2.2.2.1 q.2.2.2.2.2.2.2.2.2.1 q.2.2.2.2.2.2.2.2.2.2.1 q.2.2.2.2.2.2.2.2.2.2.2.1 q.2.2.2.2.2.2.2.2.2.2.2.2.1 q.2.2.2.2.2.2.2.2.2.2.2.2.2.1 q.2.2.2.2.2.2.2.2.2.2.2.2.2.2 = p at hps ⊢
  exact Tot.bind (l1New_tot ha) fun c hc => Tot.bind (l4Card_tot hc) fun s hs => Tot.ret (by show p.2.1.length ≤ 1000; have := hps.1; omega)
end Go.Proofs.Ytoioaijpdiglfaa.V
