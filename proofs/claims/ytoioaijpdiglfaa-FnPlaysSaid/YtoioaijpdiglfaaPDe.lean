/- Plain laws over the shapes. -/
import Derived.Test.YtoioaijpdiglfaaP1
import Derived.Test.YtoioaijpdiglfaaFIsDeal
import Derived.Test.YtoioaijpdiglfaaFMayPlay
import Derived.Test.YtoioaijpdiglfaaFPlayCard
import Derived.Test.YtoioaijpdiglfaaFTrickPoints
import Derived.Test.YtoioaijpdiglfaaFWinnerOf
import Derived.Test.YtoioaijpdiglfaaS1
import Derived.Test.YtoioaijpdiglfaaS2
import Derived.Test.YtoioaijpdiglfaaS3
import Derived.Test.YtoioaijpdiglfaaS5
import Derived.Test.YtoioaijpdiglfaaS6
set_option linter.unusedVariables false
set_option linter.unusedSimpArgs false
set_option maxRecDepth 10000
namespace Go.Proofs.Ytoioaijpdiglfaa.V
open Go
theorem spec_TotalCards_ok (l : List (List Int)) (hl : l.length ≤ 4194304) (hf : l.flatten.length ≤ 8796093022208) : spec_TotalCards l = some (l.flatten.length : Int) := by
  have h : ∀ i, i ≤ l.length → spec_TotalCards_L3 l ((l.take i).flatten.length : Int) i = some (l.flatten.length : Int) := down (by
      rw [spec_TotalCards_L3_eq]
      simp (disch := (first | omega | (simp only [List.length_append, List.length_cons, List.length_nil, List.length_take, List.length_drop, List.length_set, List.length_replicate, List.length_singleton]; omega))) only [↓if_dpos, ↓if_dneg, ↓if_epos, ↓if_eneg, ↓if_npos, ↓if_nneg, ↓if_pos, ↓if_neg, Int.toNat_natCast, List.nil_append, Nat.zero_add, List.length_singleton, Option.bind_some, List.drop_zero, List.take_length, if_true, if_false, ]) fun i hi ih => by
    have h1 := flat_take_le l (i + 1)
    rw [flat_take hi, List.length_append] at h1
    have hw2 : IntKind.i64.wrap (((l.take i).flatten.length : Int) + ((l.getD i []).length : Int)) = ((l.take (i + 1)).flatten.length : Int) := by
      rw [wrap_id (by omega) (by omega), flat_take hi, List.length_append]; omega
    have hil : (i : Int) < (l.length : Int) := by omega
    have hw : IntKind.i64.wrap ((i : Int) + 1) = ((i + 1 : Nat) : Int) := wrap_succ hi (by omega)
    rw [spec_TotalCards_L3_eq]
    simp (disch := (first | omega | (simp only [List.length_append, List.length_cons, List.length_nil, List.length_take, List.length_drop, List.length_set, List.length_replicate, List.length_singleton]; omega))) only [↓if_dpos, ↓if_dneg, ↓if_epos, ↓if_eneg, ↓if_npos, ↓if_nneg, ↓if_pos, ↓if_neg, hw, Int.toNat_natCast, List.nil_append, Nat.zero_add, List.length_singleton, Option.bind_some, List.drop_zero, List.take_length, if_true, if_false, hw2]
    exact ih
  rw [spec_TotalCards_eq]
  exact h 0 (Nat.zero_le _)
theorem spec_AllApart_ok (l : List (List Int)) (hl : l.length ≤ 4194304) (hf : l.flatten.length ≤ 8796093022208) : spec_AllApart l = some (handM l.flatten) := by
  have h : ∀ i, i ≤ l.length → spec_AllApart_L3 l i (l.take i).flatten = some (handM l.flatten) := down (by
      rw [spec_AllApart_L3_eq]
      simp (disch := (first | omega | (simp only [List.length_append, List.length_cons, List.length_nil, List.length_take, List.length_drop, List.length_set, List.length_replicate, List.length_singleton]; omega))) only [↓if_dpos, ↓if_dneg, ↓if_epos, ↓if_eneg, ↓if_npos, ↓if_nneg, ↓if_pos, ↓if_neg, Int.toNat_natCast, List.nil_append, Nat.zero_add, List.length_singleton, Option.bind_some, List.drop_zero, List.take_length, if_true, if_false, spec_IsHand_ok _ (by omega : l.flatten.length ≤ 17592186044416)]) fun i hi ih => by
    have h1 := flat_take_le l (i + 1)
    rw [flat_take hi, List.length_append] at h1
    have hil : (i : Int) < (l.length : Int) := by omega
    have hw : IntKind.i64.wrap ((i : Int) + 1) = ((i + 1 : Nat) : Int) := wrap_succ hi (by omega)
    rw [spec_AllApart_L3_eq]
    simp (disch := (first | omega | (simp only [List.length_append, List.length_cons, List.length_nil, List.length_take, List.length_drop, List.length_set, List.length_replicate, List.length_singleton]; omega))) only [↓if_dpos, ↓if_dneg, ↓if_epos, ↓if_eneg, ↓if_npos, ↓if_nneg, ↓if_pos, ↓if_neg, hw, Int.toNat_natCast, List.nil_append, Nat.zero_add, List.length_singleton, Option.bind_some, List.drop_zero, List.take_length, if_true, if_false, ]
    rw [← ih, flat_take hi]
  rw [spec_AllApart_eq]
  exact h 0 (Nat.zero_le _)
theorem spec_l12Copy_ok (hs : List (List Int)) (le tr : Int) (tk wo po : List Int) (lf : Int) (hh : G2 hs) (h3 : tk.length ≤ 2097152) (hwo : wo.length ≤ 2097152) (hpo : po.length ≤ 2097152) : spec_l12Copy hs le tr tk wo po lf = some (hs, le, tr, tk, wo, po, lf) := by
  have hl := hh.len
  have h : ∀ i, i ≤ hs.length → spec_l12Copy_L3 i hs le tr tk wo po lf 0 0 0 (hs.take i) = some (hs, le, tr, tk, wo, po, lf) := down (by
      rw [spec_l12Copy_L3_eq]
      simp (disch := (first | omega | (simp only [List.length_append, List.length_cons, List.length_nil, List.length_take, List.length_drop, List.length_set, List.length_replicate, List.length_singleton]; omega))) only [↓if_dpos, ↓if_dneg, ↓if_epos, ↓if_eneg, ↓if_npos, ↓if_nneg, ↓if_pos, ↓if_neg, Int.toNat_natCast, List.nil_append, Nat.zero_add, List.length_singleton, Option.bind_some, List.drop_zero, List.take_length, if_true, if_false, ]) fun i hi ih => by
    have e := hh.row _ (getD_mem (d := []) hi)
    have hil : (i : Int) < (hs.length : Int) := by omega
    have hw : IntKind.i64.wrap ((i : Int) + 1) = ((i + 1 : Nat) : Int) := wrap_succ hi (by omega)
    rw [spec_l12Copy_L3_eq]
    simp (disch := (first | omega | (simp only [List.length_append, List.length_cons, List.length_nil, List.length_take, List.length_drop, List.length_set, List.length_replicate, List.length_singleton]; omega))) only [↓if_dpos, ↓if_dneg, ↓if_epos, ↓if_eneg, ↓if_npos, ↓if_nneg, ↓if_pos, ↓if_neg, hw, Int.toNat_natCast, List.nil_append, Nat.zero_add, List.length_singleton, Option.bind_some, List.drop_zero, List.take_length, if_true, if_false, ]
    rw [← ih, take_succ_getD (d := []) hi]
  rw [spec_l12Copy_eq]
  exact h 0 (Nat.zero_le _)
theorem impl_Deal_copied_ok (hs : List (List Int)) (le tr : Int) (tk wo po : List Int) (lf : Int) (hh : G2 hs) (h3 : tk.length ≤ 2097152) (hwo : wo.length ≤ 2097152) (hpo : po.length ≤ 2097152) : impl_Deal_copied hs le tr tk wo po lf = some (hs, le, tr, tk, wo, po, lf) := by
  rw [impl_Deal_copied_eq, impl_copyRows_ok _ hh.len (fun r hr => Nat.le_trans (hh.row r hr) (by omega)), Option.bind_some, impl_copyOf_ok _ (by omega), Option.bind_some, impl_copyOf_ok _ (by omega), Option.bind_some, impl_copyOf_ok _ (by omega), Option.bind_some]
def whoM (hs : List (List Int)) (le tr : Int) (tk wo po : List Int) (lf : Int) : Int := if hs.length = 0 then -1 else if hs.flatten.length = 0 then -1 else if inR le 0 ((hs.length : Int) - 1) = true then (le + (tk.length : Int)).tmod (hs.length : Int) else -1
theorem spec_TurnOf_ok (hs : List (List Int)) (le tr : Int) (tk wo po : List Int) (lf : Int) (hh : G2 hs) (h3 : tk.length ≤ 2097152) (hwo : wo.length ≤ 2097152) (hpo : po.length ≤ 2097152) : spec_TurnOf hs le tr tk wo po lf = some (whoM hs le tr tk wo po lf) := by
  have hl := hh.len
  have hf := hh.flat
  rw [spec_TurnOf_eq, spec_TotalCards_ok _ (by omega) (by omega), Option.bind_some, whoM]
  by_cases c1 : hs.length = 0
  · simp (disch := (first | omega | (simp only [List.length_append, List.length_cons, List.length_nil, List.length_take, List.length_drop, List.length_set, List.length_replicate, List.length_singleton]; omega))) only [↓if_dpos, ↓if_dneg, ↓if_epos, ↓if_eneg, ↓if_npos, ↓if_nneg, ↓if_pos, ↓if_neg]
  · have w : IntKind.i64.wrap ((hs.length : Int) - 1) = (hs.length : Int) - 1 := wrap_id (by omega) (by omega)
    by_cases c2 : hs.flatten.length = 0
    · simp (disch := (first | omega | (simp only [List.length_append, List.length_cons, List.length_nil, List.length_take, List.length_drop, List.length_set, List.length_replicate, List.length_singleton]; omega))) only [↓if_dpos, ↓if_dneg, ↓if_epos, ↓if_eneg, ↓if_npos, ↓if_nneg, ↓if_pos, ↓if_neg]
    · simp (disch := (first | omega | (simp only [List.length_append, List.length_cons, List.length_nil, List.length_take, List.length_drop, List.length_set, List.length_replicate, List.length_singleton]; omega))) only [↓if_dpos, ↓if_dneg, ↓if_epos, ↓if_eneg, ↓if_npos, ↓if_nneg, ↓if_pos, ↓if_neg, w, spec_l1In_ok, Option.bind_some]
      cases hr : inR le 0 ((hs.length : Int) - 1)
      · rfl
      · simp [inR] at hr
        have w2 : IntKind.i64.wrap (le + (tk.length : Int)) = le + (tk.length : Int) := wrap_id (by omega) (by omega)
        simp (disch := (first | omega | (simp only [List.length_append, List.length_cons, List.length_nil, List.length_take, List.length_drop, List.length_set, List.length_replicate, List.length_singleton]; omega))) only [↓if_dpos, ↓if_dneg, ↓if_epos, ↓if_eneg, ↓if_npos, ↓if_nneg, ↓if_pos, ↓if_neg, w2, Bool.not_true, Bool.false_eq_true, if_true, if_false]
theorem impl_TurnOf_ok (hs : List (List Int)) (le tr : Int) (tk wo po : List Int) (lf : Int) (hh : G2 hs) (h3 : tk.length ≤ 2097152) (hwo : wo.length ≤ 2097152) (hpo : po.length ≤ 2097152) : impl_TurnOf hs le tr tk wo po lf = some (whoM hs le tr tk wo po lf) := by
  have hl := hh.len
  have hf := hh.flat
  rw [impl_TurnOf_eq, impl_TotalCards_ok _ (by omega) (by omega), Option.bind_some, whoM]
  by_cases c1 : hs.length = 0
  · simp (disch := (first | omega | (simp only [List.length_append, List.length_cons, List.length_nil, List.length_take, List.length_drop, List.length_set, List.length_replicate, List.length_singleton]; omega))) only [↓if_dpos, ↓if_dneg, ↓if_epos, ↓if_eneg, ↓if_npos, ↓if_nneg, ↓if_pos, ↓if_neg]
  · have w : IntKind.i64.wrap ((hs.length : Int) - 1) = (hs.length : Int) - 1 := wrap_id (by omega) (by omega)
    by_cases c2 : hs.flatten.length = 0
    · simp (disch := (first | omega | (simp only [List.length_append, List.length_cons, List.length_nil, List.length_take, List.length_drop, List.length_set, List.length_replicate, List.length_singleton]; omega))) only [↓if_dpos, ↓if_dneg, ↓if_epos, ↓if_eneg, ↓if_npos, ↓if_nneg, ↓if_pos, ↓if_neg]
    · simp (disch := (first | omega | (simp only [List.length_append, List.length_cons, List.length_nil, List.length_take, List.length_drop, List.length_set, List.length_replicate, List.length_singleton]; omega))) only [↓if_dpos, ↓if_dneg, ↓if_epos, ↓if_eneg, ↓if_npos, ↓if_nneg, ↓if_pos, ↓if_neg, w, impl_InRange_ok, Option.bind_some]
      cases hr : inR le 0 ((hs.length : Int) - 1)
      · rfl
      · simp [inR] at hr
        have w2 : IntKind.i64.wrap (le + (tk.length : Int)) = le + (tk.length : Int) := wrap_id (by omega) (by omega)
        simp (disch := (first | omega | (simp only [List.length_append, List.length_cons, List.length_nil, List.length_take, List.length_drop, List.length_set, List.length_replicate, List.length_singleton]; omega))) only [↓if_dpos, ↓if_dneg, ↓if_epos, ↓if_eneg, ↓if_npos, ↓if_nneg, ↓if_pos, ↓if_neg, w2, Bool.not_true, Bool.false_eq_true, if_true, if_false]
def clampM (x : Int) : Int := if (if x < 1000 then x else 1000) > 0 then (if x < 1000 then x else 1000) else 0
theorem clampM_b (x : Int) : 0 ≤ clampM x ∧ clampM x ≤ 1000 := by unfold clampM; split <;> split <;> omega
def sumC (l : List Int) : Int := l.foldl (fun n x => IntKind.i64.wrap (n + clampM x)) 0
theorem spec_l12Sum_ok (l : List Int) (hl : l.length ≤ 4398046511104) : spec_l12Sum l = some (sumC l) := by
  have hc : ∀ x, (spec_Min 1000 x).bind (fun c1 => spec_Max 0 c1) = some (clampM x) := fun x => by
    rw [spec_Min_eq, clampM]
    by_cases c : x < 1000
    · rw [if_pos (decide_eq_true c), if_pos c, Option.bind_some, spec_Max_eq]
      by_cases c2 : x > 0
      · rw [if_pos (decide_eq_true c2), if_pos c2]
      · rw [if_neg (by rw [decide_eq_true_eq]; exact c2), if_neg c2]
    · rw [if_neg (by rw [decide_eq_true_eq]; exact c), if_neg c, Option.bind_some, spec_Max_eq]; rfl
  have h : ∀ i, i ≤ l.length → spec_l12Sum_L3 l (sumC (l.take i)) i = some (sumC l) := down (by
      rw [spec_l12Sum_L3_eq]
      simp (disch := (first | omega | (simp only [List.length_append, List.length_cons, List.length_nil, List.length_take, List.length_drop, List.length_set, List.length_replicate, List.length_singleton]; omega))) only [↓if_dpos, ↓if_dneg, ↓if_epos, ↓if_eneg, ↓if_npos, ↓if_nneg, ↓if_pos, ↓if_neg, Int.toNat_natCast, List.nil_append, Nat.zero_add, List.length_singleton, Option.bind_some, List.drop_zero, List.take_length, if_true, if_false, ]) fun i hi ih => by
    have hb : ∀ k : Int → Option Int, ((spec_Min 1000 (l.getD i 0)).bind fun c1 => (spec_Max 0 c1).bind k) = k (clampM (l.getD i 0)) := fun k => by
      have := hc (l.getD i 0)
      cases e : spec_Min 1000 (l.getD i 0) with
      | none => rw [e] at this; cases this
      | some y => rw [e, Option.bind_some] at this; rw [Option.bind_some, this, Option.bind_some]
    have hil : (i : Int) < (l.length : Int) := by omega
    have hw : IntKind.i64.wrap ((i : Int) + 1) = ((i + 1 : Nat) : Int) := wrap_succ hi (by omega)
    rw [spec_l12Sum_L3_eq]
    simp (disch := (first | omega | (simp only [List.length_append, List.length_cons, List.length_nil, List.length_take, List.length_drop, List.length_set, List.length_replicate, List.length_singleton]; omega))) only [↓if_dpos, ↓if_dneg, ↓if_epos, ↓if_eneg, ↓if_npos, ↓if_nneg, ↓if_pos, ↓if_neg, hw, Int.toNat_natCast, List.nil_append, Nat.zero_add, List.length_singleton, Option.bind_some, List.drop_zero, List.take_length, if_true, if_false, hb]
    rw [← ih]
    unfold sumC
    rw [foldl_take (d := 0) hi]
  rw [spec_l12Sum_eq]
  exact h 0 (Nat.zero_le _)
theorem sumC_ge (l : List Int) : ∀ n : Int, 0 ≤ n → n + 1000 * (l.length : Int) ≤ 9000000000000000 → n ≤ l.foldl (fun n x => IntKind.i64.wrap (n + clampM x)) n ∧ ∀ x ∈ l, n + clampM x ≤ l.foldl (fun n x => IntKind.i64.wrap (n + clampM x)) n := by
  induction l with
  | nil => intro n _ _; exact ⟨Int.le_refl _, fun x hx => by cases hx⟩
  | cons y l ih =>
    intro n h0 h1
    have hb := clampM_b y
    simp only [List.length_cons] at h1
    have w : IntKind.i64.wrap (n + clampM y) = n + clampM y := wrap_id (by omega) (by omega)
    obtain ⟨k1, k2⟩ := ih (n + clampM y) (by omega) (by omega)
    simp only [List.foldl_cons, w]
    refine ⟨by omega, fun x hx => ?_⟩
    rcases List.mem_cons.1 hx with e | e
    · rw [e]; omega
    · have := k2 x e; omega
theorem sumC_eq {l : List Int} (h : l.all (fun x => inR x 0 26) = true) : sumC l = sumW l := by
  unfold sumC sumW
  have : ∀ n, l.foldl (fun n x => IntKind.i64.wrap (n + clampM x)) n = l.foldl (fun n x => IntKind.i64.wrap (n + x)) n := by

    induction l with
    | nil => intro n; rfl
    | cons y l ih =>
      intro n
      rw [List.all_cons, Bool.and_eq_true] at h
      have hy : clampM y = y := by
        have := h.1; simp [inR] at this
        unfold clampM; rw [if_pos (by omega : y < 1000)]; split <;> omega
      simp only [List.foldl_cons, hy]
      exact ih h.2 _
  exact this 0
theorem sumC_le (l : List Int) (hb : ∀ x ∈ l, clampM x ≤ 26) : ∀ n : Int, 0 ≤ n → n + 26 * (l.length : Int) ≤ 9000000000000000 → l.foldl (fun n x => IntKind.i64.wrap (n + clampM x)) n ≤ n + 26 * (l.length : Int) := by
  induction l with
  | nil => intro n _ _; simp
  | cons y l ih =>
    intro n h0 h1
    have hb1 := clampM_b y
    have hb2 := hb y (by simp)
    simp only [List.length_cons] at h1
    have w : IntKind.i64.wrap (n + clampM y) = n + clampM y := wrap_id (by omega) (by omega)
    simp only [List.foldl_cons, w, List.length_cons]
    have := ih (fun x hx => hb x (by simp [hx])) (n + clampM y) (by omega) (by omega)
    omega
theorem sumC_26 {l : List Int} (h : l.all (fun x => inR x 0 26) = true) (hl : l.length ≤ 4) : 0 ≤ sumC l ∧ sumC l ≤ 104 := by
  have k1 := (sumC_ge l 0 (Int.le_refl _) (by omega)).1
  have k2 := sumC_le l (fun x hx => by
    have := (List.all_eq_true.1 h) x hx
    simp [inR] at this
    unfold clampM; rw [if_pos (by omega : x < 1000)]; split <;> omega) 0 (Int.le_refl _) (by omega)
  unfold sumC; omega
/-- Is the hand at place i as great as it should be, if s tricks are won? -/
def sizeM (hs : List (List Int)) (le tr : Int) (tk wo po : List Int) (lf : Int) (s : Int) (i : Nat) : Bool := decide (((hs.getD i []).length : Int) = lf - s - (if ((i : Int) - le + (hs.length : Int)).tmod (hs.length : Int) < (tk.length : Int) then 1 else 0))
def dealM (hs : List (List Int)) (le tr : Int) (tk wo po : List Int) (lf : Int) : Bool :=
  inR (hs.length : Int) 2 4 && (decide (wo.length = hs.length) && (decide (po.length = hs.length) && (inR le 0 ((hs.length : Int) - 1) && (inR tr (-1) 3 && (inR lf 0 26 && (decide (tk.length < hs.length) &&
    (handM (hs.flatten ++ tk) && (wo.all (fun x => inR x 0 26) && (po.all (fun x => decide (0 ≤ x)) && (List.range hs.length).all (sizeM hs le tr tk wo po lf (sumW wo)))))))))))
theorem all_range_drop (p : Nat → Bool) (n i : Nat) (hi : i < n) : ((List.range n).drop i).all p = (p i && ((List.range n).drop (i + 1)).all p) := by
  rw [List.drop_eq_getElem_cons (by simpa using hi), List.all_cons, List.getElem_range]
theorem spec_IsDeal_ok (hs : List (List Int)) (le tr : Int) (tk wo po : List Int) (lf : Int) (hh : G2 hs) (h3 : tk.length ≤ 2097152) (hwo : wo.length ≤ 2097152) (hpo : po.length ≤ 2097152) : spec_IsDeal hs le tr tk wo po lf = some (dealM hs le tr tk wo po lf) := by
  have hl := hh.len
  have hf := hh.flat
  have efl : (hs ++ [tk]).flatten = hs.flatten ++ tk := by simp
  have w : IntKind.i64.wrap ((hs.length : Int) - 1) = (hs.length : Int) - 1 := wrap_id (by omega) (by omega)
  have eap := spec_AllApart_ok (hs ++ [tk]) (by simp; omega) (by rw [efl]; simp only [List.length_append]; omega)
  rw [efl] at eap
  rw [spec_IsDeal_eq, spec_l1In_ok, Option.bind_some, w, spec_l1In_ok, Option.bind_some, spec_l1In_ok, Option.bind_some, spec_l1In_ok, Option.bind_some, dealM]
  cases hn : inR (hs.length : Int) 2 4
  · rfl
  simp [inR] at hn
  by_cases c1 : wo.length = hs.length
  · by_cases c2 : po.length = hs.length
    · cases h3' : inR le 0 ((hs.length : Int) - 1)
      · simp (disch := (first | omega | (simp only [List.length_append, List.length_cons, List.length_nil, List.length_take, List.length_drop, List.length_set, List.length_replicate, List.length_singleton]; omega))) only [↓if_dpos, ↓if_dneg, ↓if_epos, ↓if_eneg, ↓if_npos, ↓if_nneg, ↓if_pos, ↓if_neg, decide_eq_true c1, decide_eq_true c2, Bool.not_true, Bool.false_eq_true, if_false]; rfl
      · cases h4' : inR tr (-1) 3
        · simp (disch := (first | omega | (simp only [List.length_append, List.length_cons, List.length_nil, List.length_take, List.length_drop, List.length_set, List.length_replicate, List.length_singleton]; omega))) only [↓if_dpos, ↓if_dneg, ↓if_epos, ↓if_eneg, ↓if_npos, ↓if_nneg, ↓if_pos, ↓if_neg, decide_eq_true c1, decide_eq_true c2, Bool.not_true, Bool.false_eq_true, if_false]; rfl
        · cases h5' : inR lf 0 26
          · simp (disch := (first | omega | (simp only [List.length_append, List.length_cons, List.length_nil, List.length_take, List.length_drop, List.length_set, List.length_replicate, List.length_singleton]; omega))) only [↓if_dpos, ↓if_dneg, ↓if_epos, ↓if_eneg, ↓if_npos, ↓if_nneg, ↓if_pos, ↓if_neg, decide_eq_true c1, decide_eq_true c2, Bool.not_true, Bool.false_eq_true, if_false]; rfl
          · by_cases c3 : tk.length < hs.length
            · simp (disch := (first | omega | (simp only [List.length_append, List.length_cons, List.length_nil, List.length_take, List.length_drop, List.length_set, List.length_replicate, List.length_singleton]; omega))) only [↓if_dpos, ↓if_dneg, ↓if_epos, ↓if_eneg, ↓if_npos, ↓if_nneg, ↓if_pos, ↓if_neg, Int.toNat_natCast, List.nil_append, Nat.zero_add, List.length_singleton, Option.bind_some, List.drop_zero, List.take_length, if_true, if_false, decide_eq_true c1, decide_eq_true c2, decide_eq_true c3, Bool.not_true, Bool.false_eq_true, if_false, Bool.true_and, eap]
              cases hand : handM (hs.flatten ++ tk)
              · rfl
              · simp only [Bool.not_true, Bool.false_eq_true, if_false, Bool.true_and]
                simp [inR] at h3' h5'
                obtain ⟨s1, s2⟩ := sumC_ge wo 0 (Int.le_refl _) (by omega)
                have s3 : sumC wo ≤ 4000 := by
                  have : ∀ (l : List Int) (n : Int), 0 ≤ n → n + 1000 * (l.length : Int) ≤ 9000000000000000 → l.foldl (fun n x => IntKind.i64.wrap (n + clampM x)) n ≤ n + 1000 * (l.length : Int) := by
                    intro l
                    induction l with
                    | nil => intro n _ _; simp
                    | cons y l ih =>
                      intro n h0 h1
                      have hb := clampM_b y
                      simp only [List.length_cons] at h1
                      have w : IntKind.i64.wrap (n + clampM y) = n + clampM y := wrap_id (by omega) (by omega)
                      simp only [List.foldl_cons, w, List.length_cons]
                      have := ih (n + clampM y) (by omega) (by omega)
                      omega
                  have := this wo 0 (Int.le_refl _) (by omega)
                  unfold sumC; omega
                have s0 : 0 ≤ sumC wo := s1
                have hloop : ∀ i, i ≤ hs.length → spec_IsDeal_L7 hs.length i hs le tr tk wo po lf = some (((List.range hs.length).drop i).all fun i => decide (0 ≤ wo.getD i 0) && (decide (0 ≤ po.getD i 0) && sizeM hs le tr tk wo po lf (sumC wo) i)) := down (by
                    rw [spec_IsDeal_L7_eq, if_neg (by rw [decide_eq_true_eq]; omega), List.drop_of_length_le (by simp)]; rfl) fun i hi ih => by
                  have hil : (i : Int) < (hs.length : Int) := by omega
                  have hw : IntKind.i64.wrap ((i : Int) + 1) = ((i + 1 : Nat) : Int) := wrap_succ hi (by omega)
                  have x1 : IntKind.i64.wrap ((i : Int) - le) = (i : Int) - le := wrap_id (by omega) (by omega)
                  have x2 : IntKind.i64.wrap ((i : Int) - le + (hs.length : Int)) = (i : Int) - le + (hs.length : Int) := wrap_id (by omega) (by omega)
                  have x3 : IntKind.i64.wrap (lf - sumC wo) = lf - sumC wo := wrap_id (by omega) (by omega)
                  have x4 : IntKind.i64.wrap (lf - sumC wo - 1) = lf - sumC wo - 1 := wrap_id (by omega) (by omega)
                  rw [spec_IsDeal_L7_eq, all_range_drop _ _ _ hi]
                  simp (disch := (first | omega | (simp only [List.length_append, List.length_cons, List.length_nil, List.length_take, List.length_drop, List.length_set, List.length_replicate, List.length_singleton]; omega))) only [↓if_dpos, ↓if_dneg, ↓if_epos, ↓if_eneg, ↓if_npos, ↓if_nneg, ↓if_pos, ↓if_neg, hw, Int.toNat_natCast, List.nil_append, Nat.zero_add, List.length_singleton, Option.bind_some, List.drop_zero, List.take_length, if_true, if_false, spec_l12Sum_ok, x1, x2, x3, x4, ih]
                  by_cases d1 : wo.getD i 0 < 0
                  · rw [if_pos (decide_eq_true d1), decide_eq_false (by omega)]; rfl
                  · rw [if_neg (by rw [decide_eq_true_eq]; exact d1), decide_eq_true (by omega : 0 ≤ wo.getD i 0), Bool.true_and]
                    by_cases d2 : po.getD i 0 < 0
                    · rw [if_pos (decide_eq_true d2), decide_eq_false (by omega)]; rfl
                    · rw [if_neg (by rw [decide_eq_true_eq]; exact d2), decide_eq_true (by omega : 0 ≤ po.getD i 0), Bool.true_and, sizeM]
                      by_cases d3 : ((i : Int) - le + (hs.length : Int)).tmod (hs.length : Int) < (tk.length : Int)
                      · rw [if_pos (decide_eq_true d3), if_pos d3]
                        by_cases d4 : ((hs.getD i []).length : Int) = lf - sumC wo - 1
                        · rw [if_neg (by rw [d4]; simp), decide_eq_true d4, Bool.true_and]
                        · rw [if_pos (by simpa using d4), decide_eq_false d4, Bool.false_and]
                      · rw [if_neg (by rw [decide_eq_true_eq]; exact d3), if_neg d3, Int.sub_zero]
                        by_cases d4 : ((hs.getD i []).length : Int) = lf - sumC wo
                        · rw [if_neg (by rw [d4]; simp), decide_eq_true d4, Bool.true_and]
                        · rw [if_pos (by simpa using d4), decide_eq_false d4, Bool.false_and]
                have h0 := hloop 0 (Nat.zero_le _)
                rw [List.drop_zero] at h0
                refine h0.trans ?_
                congr 1
                have get_mem : ∀ (l : List Int) (x : Int), x ∈ l → ∃ i, i < l.length ∧ l.getD i 0 = x := fun l x hx => by
                  obtain ⟨i, hi, e⟩ := List.getElem_of_mem hx
                  exact ⟨i, hi, by rw [List.getD_eq_getElem?_getD, List.getElem?_eq_getElem hi]; exact e⟩
                cases hall : wo.all (fun x => inR x 0 26)
                · rw [Bool.false_and]
                  apply Bool.eq_false_iff.2
                  intro hA
                  rw [List.all_eq_true] at hA
                  have : wo.all (fun x => inR x 0 26) = true := by
                    rw [List.all_eq_true]
                    intro x hx
                    obtain ⟨i, hi, e⟩ := get_mem wo x hx
                    have q := hA i (List.mem_range.2 (by omega))
                    have q0 := hA 0 (List.mem_range.2 (by omega))
                    simp only [Bool.and_eq_true, decide_eq_true_eq, sizeM] at q q0
                    have hx2 := s2 x hx
                    have q2 : clampM x ≤ 26 := by
                      have := q0.2.2
                      have hx3 : clampM x ≤ sumC wo := by unfold sumC; omega
                      split at this <;> omega
                    have q3 : 0 ≤ x := by rw [← e]; exact q.1
                    have q4 : x ≤ 26 := by
                      unfold clampM at q2
                      by_cases z : x < 1000
                      · rw [if_pos z] at q2; split at q2 <;> omega
                      · rw [if_neg z] at q2; omega
                    simp [inR, q3, q4]
                  rw [hall] at this; cases this
                · rw [Bool.true_and, sumC_eq hall]
                  rw [Bool.eq_iff_iff]
                  simp only [Bool.and_eq_true, List.all_eq_true, List.mem_range, decide_eq_true_eq]
                  constructor
                  · intro k
                    refine ⟨fun x hx => ?_, fun i hi => (k i hi).2.2⟩
                    obtain ⟨i, hi, e⟩ := get_mem po x hx
                    rw [← e]; exact (k i (by omega)).2.1
                  · intro ⟨k1, k2⟩ i hi
                    refine ⟨?_, k1 _ (getD_mem (by omega)), k2 i hi⟩
                    have := (List.all_eq_true.1 hall) _ (getD_mem (d := 0) (by omega : i < wo.length))
                    simp [inR] at this
                    rw [List.getD_eq_getElem?_getD]; exact this.1
            · simp (disch := (first | omega | (simp only [List.length_append, List.length_cons, List.length_nil, List.length_take, List.length_drop, List.length_set, List.length_replicate, List.length_singleton]; omega))) only [↓if_dpos, ↓if_dneg, ↓if_epos, ↓if_eneg, ↓if_npos, ↓if_nneg, ↓if_pos, ↓if_neg, decide_eq_true c1, decide_eq_true c2, decide_eq_false c3, Bool.not_true, Bool.false_eq_true, if_false]; rfl
    · simp (disch := (first | omega | (simp only [List.length_append, List.length_cons, List.length_nil, List.length_take, List.length_drop, List.length_set, List.length_replicate, List.length_singleton]; omega))) only [↓if_dpos, ↓if_dneg, ↓if_epos, ↓if_eneg, ↓if_npos, ↓if_nneg, ↓if_pos, ↓if_neg, decide_eq_true c1, decide_eq_false c2, Bool.not_true, Bool.false_eq_true, if_false]; rfl
  · simp (disch := (first | omega | (simp only [List.length_append, List.length_cons, List.length_nil, List.length_take, List.length_drop, List.length_set, List.length_replicate, List.length_singleton]; omega))) only [↓if_dpos, ↓if_dneg, ↓if_epos, ↓if_eneg, ↓if_npos, ↓if_nneg, ↓if_pos, ↓if_neg, decide_eq_false c1, Bool.not_true, Bool.false_eq_true, if_false]; rfl
theorem impl_IsDeal_ok (hs : List (List Int)) (le tr : Int) (tk wo po : List Int) (lf : Int) (hh : G2 hs) (h3 : tk.length ≤ 2097152) (hwo : wo.length ≤ 2097152) (hpo : po.length ≤ 2097152) : impl_IsDeal hs le tr tk wo po lf = some (dealM hs le tr tk wo po lf) := by
  have hl := hh.len
  have hf := hh.flat
  have efl : (hs ++ [tk]).flatten = hs.flatten ++ tk := by simp
  have eap := impl_AllApart_ok (hs ++ [tk]) (by simp; omega) (by rw [efl]; simp only [List.length_append]; omega)
  rw [efl] at eap
  have ecp := impl_copyRows_ok hs hh.len (fun r hr => Nat.le_trans (hh.row r hr) (by omega))
  rw [impl_IsDeal_eq, impl_InRange_ok, Option.bind_some, impl_allIn_ok wo 0 26 (by omega), Option.bind_some, dealM]
  cases hn : inR (hs.length : Int) 2 4
  · rfl
  simp [inR] at hn
  by_cases c1 : wo.length = hs.length
  · by_cases c2 : po.length = hs.length
    · simp (disch := (first | omega | (simp only [List.length_append, List.length_cons, List.length_nil, List.length_take, List.length_drop, List.length_set, List.length_replicate, List.length_singleton]; omega))) only [↓if_dpos, ↓if_dneg, ↓if_epos, ↓if_eneg, ↓if_npos, ↓if_nneg, ↓if_pos, ↓if_neg, decide_eq_true c1, decide_eq_true c2, Bool.not_true, Bool.false_eq_true, if_false, Bool.true_and]
      cases hall : wo.all (fun x => inR x 0 26)
      · simp only [Bool.not_false, if_true, Bool.false_and, Bool.and_false]
      · simp only [Bool.not_true, Bool.false_eq_true, if_false, Bool.true_and]
        have w : IntKind.i64.wrap ((hs.length : Int) - 1) = (hs.length : Int) - 1 := wrap_id (by omega) (by omega)
        have hloop : ∀ i, i ≤ po.length → impl_IsDeal_L5 hs.length po po.length i hs le tr tk wo po lf = some (inR le 0 ((hs.length : Int) - 1) && (inR tr (-1) 3 && (inR lf 0 26 && (decide (tk.length < hs.length) && (handM (hs.flatten ++ tk) && ((po.drop i).all (fun x => decide (0 ≤ x)) && (List.range hs.length).all (sizeM hs le tr tk wo po lf (sumW wo)))))))) := down (by
            rw [impl_IsDeal_L5_eq, if_neg (by rw [decide_eq_true_eq]; omega), ecp, Option.bind_some, if_pos (by simp only [List.length_singleton]; omega), eap, Option.bind_some, impl_InRange_ok, Option.bind_some, w, impl_InRange_ok, Option.bind_some, impl_InRange_ok, Option.bind_some, List.drop_of_length_le (Nat.le_refl _), List.all_nil, Bool.true_and]
            cases hand : handM (hs.flatten ++ tk)
            · simp only [Bool.not_false, if_true, Bool.false_and, Bool.and_false]
            cases h3' : inR le 0 ((hs.length : Int) - 1)
            · simp only [Bool.not_true, Bool.not_false, Bool.false_eq_true, if_true, if_false, Bool.false_and]
            cases h4' : inR tr (-1) 3
            · simp only [Bool.not_true, Bool.not_false, Bool.false_eq_true, if_true, if_false, Bool.false_and, Bool.true_and]
            cases h5' : inR lf 0 26
            · simp only [Bool.not_true, Bool.not_false, Bool.false_eq_true, if_true, if_false, Bool.false_and, Bool.true_and]
            simp only [Bool.not_true, Bool.false_eq_true, if_false, Bool.true_and]
            by_cases c3 : tk.length < hs.length
            · rw [if_neg (by rw [decide_eq_true_eq]; omega), decide_eq_true c3, Bool.true_and]
              simp [inR] at h3' h5'
              have s3 : 0 ≤ sumW wo ∧ sumW wo ≤ 104 := by
                rw [← sumC_eq hall]
                exact sumC_26 hall (by omega)
              have hin2 : ∀ i, i ≤ hs.length → impl_IsDeal_L13 hs.length hs.length i hs le tr tk wo po lf = some (((List.range hs.length).drop i).all (sizeM hs le tr tk wo po lf (sumW wo))) := down (by
                  rw [impl_IsDeal_L13_eq, if_neg (by rw [decide_eq_true_eq]; omega), List.drop_of_length_le (by simp)]; rfl) fun i hi ih => by
                have hil : (i : Int) < (hs.length : Int) := by omega
                have hw : IntKind.i64.wrap ((i : Int) + 1) = ((i + 1 : Nat) : Int) := wrap_succ hi (by omega)
                have x1 : IntKind.i64.wrap ((i : Int) - le) = (i : Int) - le := wrap_id (by omega) (by omega)
                have x2 : IntKind.i64.wrap ((i : Int) - le + (hs.length : Int)) = (i : Int) - le + (hs.length : Int) := wrap_id (by omega) (by omega)
                have x3 : IntKind.i64.wrap (lf - sumW wo) = lf - sumW wo := wrap_id (by omega) (by omega)
                have x4 : IntKind.i64.wrap (lf - sumW wo - 1) = lf - sumW wo - 1 := wrap_id (by omega) (by omega)
                rw [impl_IsDeal_L13_eq, all_range_drop _ _ _ hi]
                simp (disch := (first | omega | (simp only [List.length_append, List.length_cons, List.length_nil, List.length_take, List.length_drop, List.length_set, List.length_replicate, List.length_singleton]; omega))) only [↓if_dpos, ↓if_dneg, ↓if_epos, ↓if_eneg, ↓if_npos, ↓if_nneg, ↓if_pos, ↓if_neg, hw, Int.toNat_natCast, List.nil_append, Nat.zero_add, List.length_singleton, Option.bind_some, List.drop_zero, List.take_length, if_true, if_false, impl_sum_ok, x1, x2, x3, x4, ih]
                rw [sizeM]
                by_cases d3 : ((i : Int) - le + (hs.length : Int)).tmod (hs.length : Int) < (tk.length : Int)
                · rw [if_pos (decide_eq_true d3), if_pos d3]
                  by_cases d4 : ((hs.getD i []).length : Int) = lf - sumW wo - 1
                  · rw [if_neg (by rw [d4]; simp), decide_eq_true d4, Bool.true_and]
                  · rw [if_pos (by simpa using d4), decide_eq_false d4, Bool.false_and]
                · rw [if_neg (by rw [decide_eq_true_eq]; exact d3), if_neg d3, Int.sub_zero]
                  by_cases d4 : ((hs.getD i []).length : Int) = lf - sumW wo
                  · rw [if_neg (by rw [d4]; simp), decide_eq_true d4, Bool.true_and]
                  · rw [if_pos (by simpa using d4), decide_eq_false d4, Bool.false_and]
              exact hin2 0 (Nat.zero_le _)
            · rw [if_pos (by rw [decide_eq_true_eq]; omega), decide_eq_false c3, Bool.false_and]) fun i hi ih => by
          have hil : (i : Int) < (po.length : Int) := by omega
          have hw : IntKind.i64.wrap ((i : Int) + 1) = ((i + 1 : Nat) : Int) := wrap_succ hi (by omega)
          rw [impl_IsDeal_L5_eq]
          simp (disch := (first | omega | (simp only [List.length_append, List.length_cons, List.length_nil, List.length_take, List.length_drop, List.length_set, List.length_replicate, List.length_singleton]; omega))) only [↓if_dpos, ↓if_dneg, ↓if_epos, ↓if_eneg, ↓if_npos, ↓if_nneg, ↓if_pos, ↓if_neg, hw, Int.toNat_natCast, List.nil_append, Nat.zero_add, List.length_singleton, Option.bind_some, List.drop_zero, List.take_length, if_true, if_false, ih]
          rw [getD_drop (d := 0) hi, List.all_cons]
          by_cases d1 : po.getD i 0 < 0
          · rw [if_pos (decide_eq_true d1), decide_eq_false (by omega : ¬ 0 ≤ po.getD i 0)]; simp
          · rw [if_neg (by rw [decide_eq_true_eq]; exact d1), decide_eq_true (by omega : 0 ≤ po.getD i 0), Bool.true_and]
        have h0 := hloop 0 (Nat.zero_le _)
        rw [List.drop_zero] at h0
        exact h0
    · simp (disch := (first | omega | (simp only [List.length_append, List.length_cons, List.length_nil, List.length_take, List.length_drop, List.length_set, List.length_replicate, List.length_singleton]; omega))) only [↓if_dpos, ↓if_dneg, ↓if_epos, ↓if_eneg, ↓if_npos, ↓if_nneg, ↓if_pos, ↓if_neg, decide_eq_true c1, decide_eq_false c2, Bool.not_true, Bool.false_eq_true, if_false]; rfl
  · simp (disch := (first | omega | (simp only [List.length_append, List.length_cons, List.length_nil, List.length_take, List.length_drop, List.length_set, List.length_replicate, List.length_singleton]; omega))) only [↓if_dpos, ↓if_dneg, ↓if_epos, ↓if_eneg, ↓if_npos, ↓if_nneg, ↓if_pos, ↓if_neg, decide_eq_false c1, Bool.not_true, Bool.false_eq_true, if_false]; rfl
/-- What a valid deal is. -/
structure ValidD (hs : List (List Int)) (le tr : Int) (tk wo po : List Int) (lf : Int) : Prop where
  n1 : 2 ≤ hs.length
  n2 : hs.length ≤ 4
  won : wo.length = hs.length
  pts : po.length = hs.length
  l1 : 0 ≤ le
  l2 : le ≤ (hs.length : Int) - 1
  f1 : 0 ≤ lf
  f2 : lf ≤ 26
  trick : tk.length < hs.length
  hand : handM (hs.flatten ++ tk) = true
  wons : ∀ x ∈ wo, 0 ≤ x ∧ x ≤ 26
  ptss : ∀ x ∈ po, 0 ≤ x
theorem dealM_valid (hs : List (List Int)) (le tr : Int) (tk wo po : List Int) (lf : Int) (h : dealM hs le tr tk wo po lf = true) : ValidD hs le tr tk wo po lf := by
  simp only [dealM, Bool.and_eq_true, decide_eq_true_eq, List.all_eq_true] at h
  obtain ⟨h1, h2, h3, h4, h5, h6, h7, h8, h9, h10, h11⟩ := h
  simp [inR] at h1 h4 h6
  exact ⟨by omega, by omega, h2, h3, by omega, by omega, by omega, by omega, h7, h8, fun x hx => by have := h9 x hx; simpa [inR] using this, h10⟩
def mayPM (hand trick : List Int) (c : Int) : Bool := handM hand && (hasM hand c && (decide (trick.length = 0) || ((suitM c == suitM (trick.getD 0 0)) || hand.all (fun x => !(suitM x == suitM (trick.getD 0 0))))))
theorem spec_MayPlay_ok (hand trick : List Int) (c : Int) (hl : hand.length ≤ 4398046511104) (ht : trick.length ≤ 4398046511104) : spec_MayPlay hand trick c = some (mayPM hand trick c) := by
  rw [spec_MayPlay_eq, spec_IsHand_ok _ (by omega), Option.bind_some, spec_HasCard_ok _ _ (by omega), Option.bind_some, mayPM]
  cases handM hand
  · rfl
  · cases hasM hand c
    · rfl
    · simp only [Bool.not_true, Bool.false_eq_true, if_false, Bool.true_and]
      by_cases c1 : trick.length = 0
      · rw [if_pos (by rw [beq_iff_eq]; omega), decide_eq_true c1, Bool.true_or]
      · have h : ∀ i, i ≤ hand.length → spec_MayPlay_L6 hand trick i = some ((hand.drop i).all (fun x => !(suitM x == suitM (trick.getD 0 0)))) := down (by
            rw [spec_MayPlay_L6_eq]
            simp (disch := (first | omega | (simp only [List.length_append, List.length_cons, List.length_nil, List.length_take, List.length_drop, List.length_set, List.length_replicate, List.length_singleton]; omega))) only [↓if_dpos, ↓if_dneg, ↓if_epos, ↓if_eneg, ↓if_npos, ↓if_nneg, ↓if_pos, ↓if_neg, Int.toNat_natCast, List.nil_append, Nat.zero_add, List.length_singleton, Option.bind_some, List.drop_zero, List.take_length, if_true, if_false, ]
            rw [List.drop_of_length_le (Nat.le_refl _), List.all_nil]) fun i hi ih => by
          have hil : (i : Int) < (hand.length : Int) := by omega
          have hw : IntKind.i64.wrap ((i : Int) + 1) = ((i + 1 : Nat) : Int) := wrap_succ hi (by omega)
          rw [spec_MayPlay_L6_eq]
          simp (disch := (first | omega | (simp only [List.length_append, List.length_cons, List.length_nil, List.length_take, List.length_drop, List.length_set, List.length_replicate, List.length_singleton]; omega))) only [↓if_dpos, ↓if_dneg, ↓if_epos, ↓if_eneg, ↓if_npos, ↓if_nneg, ↓if_pos, ↓if_neg, hw, Int.toNat_natCast, List.nil_append, Nat.zero_add, List.length_singleton, Option.bind_some, List.drop_zero, List.take_length, if_true, if_false, spec_SuitOf_ok, ih]
          rw [getD_drop (d := 0) hi, List.all_cons]
          cases (suitM (hand.getD i 0) == suitM (trick.getD 0 0)) <;> rfl
        rw [if_neg (by rw [beq_iff_eq]; omega), decide_eq_false c1, Bool.false_or, spec_SuitOf_ok, Option.bind_some, if_pos (by omega), spec_SuitOf_ok, Option.bind_some]
        have h0 := h 0 (Nat.zero_le _)
        rw [List.drop_zero] at h0
        cases (suitM c == suitM (trick.getD 0 0))
        · exact h0
        · rfl
theorem impl_MayPlay_ok (hand trick : List Int) (c : Int) (hl : hand.length ≤ 4398046511104) (ht : trick.length ≤ 4398046511104) : impl_MayPlay hand trick c = some (mayPM hand trick c) := by
  rw [impl_MayPlay_eq, impl_IsHand_ok _ (by omega), Option.bind_some, impl_HasCard_ok _ _ (by omega), Option.bind_some, mayPM]
  cases handM hand
  · rfl
  · cases hasM hand c
    · rfl
    · simp only [Bool.not_true, Bool.false_eq_true, if_false, Bool.true_and]
      by_cases c1 : trick.length = 0
      · rw [if_pos (by rw [beq_iff_eq]; omega), decide_eq_true c1, Bool.true_or]
      · have h : ∀ i, i ≤ hand.length → impl_MayPlay_L6 trick hand hand.length i = some ((hand.drop i).all (fun x => !(suitM x == suitM (trick.getD 0 0)))) := down (by
            rw [impl_MayPlay_L6_eq]
            simp (disch := (first | omega | (simp only [List.length_append, List.length_cons, List.length_nil, List.length_take, List.length_drop, List.length_set, List.length_replicate, List.length_singleton]; omega))) only [↓if_dpos, ↓if_dneg, ↓if_epos, ↓if_eneg, ↓if_npos, ↓if_nneg, ↓if_pos, ↓if_neg, Int.toNat_natCast, List.nil_append, Nat.zero_add, List.length_singleton, Option.bind_some, List.drop_zero, List.take_length, if_true, if_false, ]
            rw [List.drop_of_length_le (Nat.le_refl _), List.all_nil]) fun i hi ih => by
          have hil : (i : Int) < (hand.length : Int) := by omega
          have hw : IntKind.i64.wrap ((i : Int) + 1) = ((i + 1 : Nat) : Int) := wrap_succ hi (by omega)
          rw [impl_MayPlay_L6_eq]
          simp (disch := (first | omega | (simp only [List.length_append, List.length_cons, List.length_nil, List.length_take, List.length_drop, List.length_set, List.length_replicate, List.length_singleton]; omega))) only [↓if_dpos, ↓if_dneg, ↓if_epos, ↓if_eneg, ↓if_npos, ↓if_nneg, ↓if_pos, ↓if_neg, hw, Int.toNat_natCast, List.nil_append, Nat.zero_add, List.length_singleton, Option.bind_some, List.drop_zero, List.take_length, if_true, if_false, impl_SuitOf_ok, ih]
          rw [getD_drop (d := 0) hi, List.all_cons]
          cases (suitM (hand.getD i 0) == suitM (trick.getD 0 0)) <;> rfl
        rw [if_neg (by rw [beq_iff_eq]; omega), decide_eq_false c1, Bool.false_or, impl_SuitOf_ok, Option.bind_some, if_pos (by omega), impl_SuitOf_ok, Option.bind_some]
        have h0 := h 0 (Nat.zero_le _)
        rw [List.drop_zero] at h0
        cases (suitM c == suitM (trick.getD 0 0))
        · exact h0
        · rfl
def beatsM (a b tr : Int) : Bool := isC a && (isC b && (if suitM a = suitM b then decide (a > b) else (suitM a == tr)))
theorem card_parts {c : Int} (h : isC c = true) : c = 13 * suitM c + rankM c ∧ 0 ≤ rankM c ∧ rankM c < 13 := by
  obtain ⟨h1, h2⟩ := isC_iff.1 h
  unfold suitM rankM
  have e := Int.tdiv_eq_ediv_of_nonneg (b := 13) h1
  rw [if_pos h, if_pos h, wrap_id (by omega) (by omega), e, Int.tmod_eq_emod_of_nonneg h1]
  omega
theorem spec_Beats_ok (a b tr : Int) : spec_Beats a b tr = some (beatsM a b tr) := by
  rw [spec_Beats_eq]
  simp only [spec_IsCard_ok, spec_SuitOf_ok, Option.bind_some, beatsM]
  cases isC a <;> cases isC b <;> try rfl
  simp only [Bool.not_true, Bool.false_eq_true, if_false, Bool.true_and]
  by_cases e : suitM a = suitM b
  · rw [if_pos (by rw [beq_iff_eq]; exact e), if_pos e]
  · rw [if_neg (by rw [beq_iff_eq]; exact e), if_neg e]
theorem impl_Beats_ok (a b tr : Int) : impl_Beats a b tr = some (beatsM a b tr) := by
  rw [impl_Beats_eq]
  simp only [impl_IsCard_ok, impl_SuitOf_ok, impl_RankOf_ok, Option.bind_some, beatsM]
  cases ha : isC a <;> cases hb : isC b <;> try rfl
  simp only [Bool.not_true, Bool.false_eq_true, if_false, Bool.true_and]
  by_cases e : suitM a = suitM b
  · rw [if_pos (by rw [beq_iff_eq]; exact e), if_pos e]
    obtain ⟨p1, p2, p3⟩ := card_parts ha
    obtain ⟨q1, q2, q3⟩ := card_parts hb
    congr 1
    rw [Bool.eq_iff_iff]; simp only [decide_eq_true_eq]; omega
  · rw [if_neg (by rw [beq_iff_eq]; exact e), if_neg e]
def winR (full : List Int) (tr : Int) : List Int → Int → Int → Int
  | [], k, _ => k
  | x :: t, k, i => if beatsM x (full.getD k.toNat 0) tr = true then winR full tr t i (i + 1) else winR full tr t k (i + 1)
def winOf (l : List Int) (tr : Int) : Int := if l.length = 0 then -1 else if handM l = true then winR l tr l 0 0 else -1
theorem winR_bound (full : List Int) (tr : Int) : ∀ (t : List Int) (k i : Int), 0 ≤ k → k ≤ i → k < i + t.length → 0 ≤ winR full tr t k i ∧ winR full tr t k i < i + t.length := by
  intro t
  induction t with
  | nil => intro k i h0 h1 h2; simp only [winR, List.length_nil] at *; omega
  | cons x t ih =>
    intro k i h0 h1 h2
    simp only [winR, List.length_cons] at *
    split
    · have := ih i (i + 1) (by omega) (by omega) (by omega); omega
    · have := ih k (i + 1) h0 (by omega) (by omega); omega
theorem winOf_bound {l : List Int} {tr : Int} (h : handM l = true) (hl : 0 < l.length) : 0 ≤ winOf l tr ∧ winOf l tr < l.length := by
  unfold winOf
  rw [if_neg (by omega), if_pos h]
  have := winR_bound l tr l 0 0 (Int.le_refl _) (Int.le_refl _) (by omega)
  omega
theorem spec_WinnerOf_ok (l : List Int) (tr : Int) (hl : l.length ≤ 4398046511104) : spec_WinnerOf l tr = some (winOf l tr) := by
  have h : ∀ i, i ≤ l.length → ∀ k : Int, 0 ≤ k → k < (l.length : Int) → spec_WinnerOf_L5 l tr k i = some (winR l tr (l.drop i) k i) := down (by
      intro k h0 h1
      rw [spec_WinnerOf_L5_eq]
      simp (disch := (first | omega | (simp only [List.length_append, List.length_cons, List.length_nil, List.length_take, List.length_drop, List.length_set, List.length_replicate, List.length_singleton]; omega))) only [↓if_dpos, ↓if_dneg, ↓if_epos, ↓if_eneg, ↓if_npos, ↓if_nneg, ↓if_pos, ↓if_neg, Int.toNat_natCast, List.nil_append, Nat.zero_add, List.length_singleton, Option.bind_some, List.drop_zero, List.take_length, if_true, if_false, ]
      rw [List.drop_of_length_le (Nat.le_refl _)]; rfl) fun i hi ih k h0 h1 => by
    have hil : (i : Int) < (l.length : Int) := by omega
    have hw : IntKind.i64.wrap ((i : Int) + 1) = ((i + 1 : Nat) : Int) := wrap_succ hi (by omega)
    rw [spec_WinnerOf_L5_eq]
    simp (disch := (first | omega | (simp only [List.length_append, List.length_cons, List.length_nil, List.length_take, List.length_drop, List.length_set, List.length_replicate, List.length_singleton]; omega))) only [↓if_dpos, ↓if_dneg, ↓if_epos, ↓if_eneg, ↓if_npos, ↓if_nneg, ↓if_pos, ↓if_neg, hw, Int.toNat_natCast, List.nil_append, Nat.zero_add, List.length_singleton, Option.bind_some, List.drop_zero, List.take_length, if_true, if_false, spec_Beats_ok]
    rw [getD_drop (d := 0) hi, winR]
    cases beatsM (l.getD i 0) (l.getD k.toNat 0) tr
    · exact ih k h0 h1
    · exact ih i (by omega) (by omega)
  rw [spec_WinnerOf_eq, spec_IsHand_ok _ (by omega), Option.bind_some, winOf]
  by_cases c : l.length = 0
  · rw [if_pos (by rw [beq_iff_eq]; omega), if_pos c]
  · rw [if_neg (by rw [beq_iff_eq]; omega), if_neg c]
    cases hh : handM l
    · rfl
    · have e := h 1 (by omega) 0 (Int.le_refl _) (by omega)
      have e0 : l = l.getD 0 0 :: l.drop 1 := by have := getD_drop (xs := l) (i := 0) (d := 0) (by omega); rwa [List.drop_zero] at this
      have eb : beatsM (l.getD 0 0) (l.getD (0 : Int).toNat 0) tr = false := by
        unfold beatsM
        rw [show (0 : Int).toNat = 0 from rfl, if_pos rfl]
        cases isC (l.getD 0 0) <;> simp
      simp only [Bool.not_true, Bool.false_eq_true, if_false, if_true]
      rw [show ((1 : Nat) : Int) = 1 from rfl] at e
      rw [e]
      congr 1
      conv => rhs; arg 3; rw [e0]
      rw [winR, eb]; rfl
theorem impl_WinnerOf_ok (l : List Int) (tr : Int) (hl : l.length ≤ 4398046511104) : impl_WinnerOf l tr = some (winOf l tr) := by
  have h : ∀ i, i ≤ l.length → ∀ k : Int, 0 ≤ k → k < (l.length : Int) → impl_WinnerOf_L5 l tr k l l.length i = some (winR l tr (l.drop i) k i) := down (by
      intro k h0 h1
      rw [impl_WinnerOf_L5_eq]
      simp (disch := (first | omega | (simp only [List.length_append, List.length_cons, List.length_nil, List.length_take, List.length_drop, List.length_set, List.length_replicate, List.length_singleton]; omega))) only [↓if_dpos, ↓if_dneg, ↓if_epos, ↓if_eneg, ↓if_npos, ↓if_nneg, ↓if_pos, ↓if_neg, Int.toNat_natCast, List.nil_append, Nat.zero_add, List.length_singleton, Option.bind_some, List.drop_zero, List.take_length, if_true, if_false, ]
      rw [List.drop_of_length_le (Nat.le_refl _)]; rfl) fun i hi ih k h0 h1 => by
    have hil : (i : Int) < (l.length : Int) := by omega
    have hw : IntKind.i64.wrap ((i : Int) + 1) = ((i + 1 : Nat) : Int) := wrap_succ hi (by omega)
    rw [impl_WinnerOf_L5_eq]
    simp (disch := (first | omega | (simp only [List.length_append, List.length_cons, List.length_nil, List.length_take, List.length_drop, List.length_set, List.length_replicate, List.length_singleton]; omega))) only [↓if_dpos, ↓if_dneg, ↓if_epos, ↓if_eneg, ↓if_npos, ↓if_nneg, ↓if_pos, ↓if_neg, hw, Int.toNat_natCast, List.nil_append, Nat.zero_add, List.length_singleton, Option.bind_some, List.drop_zero, List.take_length, if_true, if_false, impl_Beats_ok]
    rw [getD_drop (d := 0) hi, winR]
    cases beatsM (l.getD i 0) (l.getD k.toNat 0) tr
    · exact ih k h0 h1
    · exact ih i (by omega) (by omega)
  rw [impl_WinnerOf_eq, impl_IsHand_ok _ (by omega), Option.bind_some, winOf]
  by_cases c : l.length = 0
  · rw [if_pos (by rw [beq_iff_eq]; omega), if_pos c]
  · rw [if_neg (by rw [beq_iff_eq]; omega), if_neg c]
    cases hh : handM l
    · rfl
    · exact h 0 (Nat.zero_le _) 0 (Int.le_refl _) (by omega)
def ptStep (n c : Int) : Int := if rankM c = 12 then IntKind.i64.wrap (n + 11) else if rankM c = 8 then IntKind.i64.wrap (n + 10) else if rankM c = 11 then IntKind.i64.wrap (n + 4) else if rankM c = 10 then IntKind.i64.wrap (n + 3) else if rankM c = 9 then IntKind.i64.wrap (n + 2) else n
def ptsM (l : List Int) : Int := l.foldl ptStep 0
theorem spec_TrickPoints_ok (l : List Int) (hl : l.length ≤ 4398046511104) : spec_TrickPoints l = some (ptsM l) := by
  have h : ∀ i, i ≤ l.length → spec_TrickPoints_L3 l (ptsM (l.take i)) i = some (ptsM l) := down (by
      rw [spec_TrickPoints_L3_eq]
      simp (disch := (first | omega | (simp only [List.length_append, List.length_cons, List.length_nil, List.length_take, List.length_drop, List.length_set, List.length_replicate, List.length_singleton]; omega))) only [↓if_dpos, ↓if_dneg, ↓if_epos, ↓if_eneg, ↓if_npos, ↓if_nneg, ↓if_pos, ↓if_neg, Int.toNat_natCast, List.nil_append, Nat.zero_add, List.length_singleton, Option.bind_some, List.drop_zero, List.take_length, if_true, if_false, ]) fun i hi ih => by
    have hil : (i : Int) < (l.length : Int) := by omega
    have hw : IntKind.i64.wrap ((i : Int) + 1) = ((i + 1 : Nat) : Int) := wrap_succ hi (by omega)
    rw [spec_TrickPoints_L3_eq]
    simp (disch := (first | omega | (simp only [List.length_append, List.length_cons, List.length_nil, List.length_take, List.length_drop, List.length_set, List.length_replicate, List.length_singleton]; omega))) only [↓if_dpos, ↓if_dneg, ↓if_epos, ↓if_eneg, ↓if_npos, ↓if_nneg, ↓if_pos, ↓if_neg, hw, Int.toNat_natCast, List.nil_append, Nat.zero_add, List.length_singleton, Option.bind_some, List.drop_zero, List.take_length, if_true, if_false, spec_RankOf_ok]
    rw [← ih]
    unfold ptsM
    rw [foldl_take (d := 0) hi]
    generalize List.foldl ptStep 0 (List.take i l) = n
    rw [ptStep]
    by_cases e1 : rankM (l.getD i 0) = 12
    · simp (disch := (first | omega | (simp only [List.length_append, List.length_cons, List.length_nil, List.length_take, List.length_drop, List.length_set, List.length_replicate, List.length_singleton]; omega))) only [↓if_dpos, ↓if_dneg, ↓if_epos, ↓if_eneg, ↓if_npos, ↓if_nneg, ↓if_pos, ↓if_neg]
    by_cases e2 : rankM (l.getD i 0) = 8
    · simp (disch := (first | omega | (simp only [List.length_append, List.length_cons, List.length_nil, List.length_take, List.length_drop, List.length_set, List.length_replicate, List.length_singleton]; omega))) only [↓if_dpos, ↓if_dneg, ↓if_epos, ↓if_eneg, ↓if_npos, ↓if_nneg, ↓if_pos, ↓if_neg]
    by_cases e3 : rankM (l.getD i 0) = 11
    · simp (disch := (first | omega | (simp only [List.length_append, List.length_cons, List.length_nil, List.length_take, List.length_drop, List.length_set, List.length_replicate, List.length_singleton]; omega))) only [↓if_dpos, ↓if_dneg, ↓if_epos, ↓if_eneg, ↓if_npos, ↓if_nneg, ↓if_pos, ↓if_neg]
    by_cases e4 : rankM (l.getD i 0) = 10
    · simp (disch := (first | omega | (simp only [List.length_append, List.length_cons, List.length_nil, List.length_take, List.length_drop, List.length_set, List.length_replicate, List.length_singleton]; omega))) only [↓if_dpos, ↓if_dneg, ↓if_epos, ↓if_eneg, ↓if_npos, ↓if_nneg, ↓if_pos, ↓if_neg]
    by_cases e5 : rankM (l.getD i 0) = 9
    · simp (disch := (first | omega | (simp only [List.length_append, List.length_cons, List.length_nil, List.length_take, List.length_drop, List.length_set, List.length_replicate, List.length_singleton]; omega))) only [↓if_dpos, ↓if_dneg, ↓if_epos, ↓if_eneg, ↓if_npos, ↓if_nneg, ↓if_pos, ↓if_neg]
    · simp (disch := (first | omega | (simp only [List.length_append, List.length_cons, List.length_nil, List.length_take, List.length_drop, List.length_set, List.length_replicate, List.length_singleton]; omega))) only [↓if_dpos, ↓if_dneg, ↓if_epos, ↓if_eneg, ↓if_npos, ↓if_nneg, ↓if_pos, ↓if_neg]
  rw [spec_TrickPoints_eq]
  exact h 0 (Nat.zero_le _)
theorem impl_TrickPoints_ok (l : List Int) (hl : l.length ≤ 4398046511104) : impl_TrickPoints l = some (ptsM l) := by
  have h : ∀ i, i ≤ l.length → impl_TrickPoints_L3 (ptsM (l.take i)) l l.length i = some (ptsM l) := down (by
      rw [impl_TrickPoints_L3_eq]
      simp (disch := (first | omega | (simp only [List.length_append, List.length_cons, List.length_nil, List.length_take, List.length_drop, List.length_set, List.length_replicate, List.length_singleton]; omega))) only [↓if_dpos, ↓if_dneg, ↓if_epos, ↓if_eneg, ↓if_npos, ↓if_nneg, ↓if_pos, ↓if_neg, Int.toNat_natCast, List.nil_append, Nat.zero_add, List.length_singleton, Option.bind_some, List.drop_zero, List.take_length, if_true, if_false, ]) fun i hi ih => by
    have hil : (i : Int) < (l.length : Int) := by omega
    have hw : IntKind.i64.wrap ((i : Int) + 1) = ((i + 1 : Nat) : Int) := wrap_succ hi (by omega)
    rw [impl_TrickPoints_L3_eq]
    simp (disch := (first | omega | (simp only [List.length_append, List.length_cons, List.length_nil, List.length_take, List.length_drop, List.length_set, List.length_replicate, List.length_singleton]; omega))) only [↓if_dpos, ↓if_dneg, ↓if_epos, ↓if_eneg, ↓if_npos, ↓if_nneg, ↓if_pos, ↓if_neg, hw, Int.toNat_natCast, List.nil_append, Nat.zero_add, List.length_singleton, Option.bind_some, List.drop_zero, List.take_length, if_true, if_false, impl_RankOf_ok]
    rw [← ih]
    unfold ptsM
    rw [foldl_take (d := 0) hi]
    generalize List.foldl ptStep 0 (List.take i l) = n
    rw [ptStep]
    by_cases e1 : rankM (l.getD i 0) = 12
    · simp (disch := (first | omega | (simp only [List.length_append, List.length_cons, List.length_nil, List.length_take, List.length_drop, List.length_set, List.length_replicate, List.length_singleton]; omega))) only [↓if_dpos, ↓if_dneg, ↓if_epos, ↓if_eneg, ↓if_npos, ↓if_nneg, ↓if_pos, ↓if_neg]
    by_cases e2 : rankM (l.getD i 0) = 8
    · simp (disch := (first | omega | (simp only [List.length_append, List.length_cons, List.length_nil, List.length_take, List.length_drop, List.length_set, List.length_replicate, List.length_singleton]; omega))) only [↓if_dpos, ↓if_dneg, ↓if_epos, ↓if_eneg, ↓if_npos, ↓if_nneg, ↓if_pos, ↓if_neg]
    by_cases e3 : rankM (l.getD i 0) = 11
    · simp (disch := (first | omega | (simp only [List.length_append, List.length_cons, List.length_nil, List.length_take, List.length_drop, List.length_set, List.length_replicate, List.length_singleton]; omega))) only [↓if_dpos, ↓if_dneg, ↓if_epos, ↓if_eneg, ↓if_npos, ↓if_nneg, ↓if_pos, ↓if_neg]
    by_cases e4 : rankM (l.getD i 0) = 10
    · simp (disch := (first | omega | (simp only [List.length_append, List.length_cons, List.length_nil, List.length_take, List.length_drop, List.length_set, List.length_replicate, List.length_singleton]; omega))) only [↓if_dpos, ↓if_dneg, ↓if_epos, ↓if_eneg, ↓if_npos, ↓if_nneg, ↓if_pos, ↓if_neg]
    by_cases e5 : rankM (l.getD i 0) = 9
    · simp (disch := (first | omega | (simp only [List.length_append, List.length_cons, List.length_nil, List.length_take, List.length_drop, List.length_set, List.length_replicate, List.length_singleton]; omega))) only [↓if_dpos, ↓if_dneg, ↓if_epos, ↓if_eneg, ↓if_npos, ↓if_nneg, ↓if_pos, ↓if_neg]
    · simp (disch := (first | omega | (simp only [List.length_append, List.length_cons, List.length_nil, List.length_take, List.length_drop, List.length_set, List.length_replicate, List.length_singleton]; omega))) only [↓if_dpos, ↓if_dneg, ↓if_epos, ↓if_eneg, ↓if_npos, ↓if_nneg, ↓if_pos, ↓if_neg]
  rw [impl_TrickPoints_eq]
  exact h 0 (Nat.zero_le _)
theorem handM_parts {l : List Int} (h : handM l = true) : (∀ x ∈ l, isC x = true) ∧ l.Nodup := by
  simp only [handM, Bool.and_eq_true, List.all_eq_true, decide_eq_true_eq] at h; exact h
theorem handM_of {l : List Int} (h1 : ∀ x ∈ l, isC x = true) (h2 : l.Nodup) : handM l = true := by
  simp only [handM, Bool.and_eq_true, List.all_eq_true, decide_eq_true_eq]; exact ⟨h1, h2⟩
theorem hasM_iff {l : List Int} {c : Int} : hasM l c = true ↔ c ∈ l := by simp [hasM]
theorem mem_flat_getD {l : List (List Int)} {i : Nat} {c : Int} (h : c ∈ l.getD i []) : c ∈ l.flatten := by
  by_cases hi : i < l.length
  · exact List.mem_flatten.2 ⟨_, getD_mem (d := []) hi, h⟩
  · rw [List.getD_eq_getElem?_getD, List.getElem?_eq_none (by omega)] at h; cases h
theorem trick_hand (hs : List (List Int)) (le tr : Int) (tk wo po : List Int) (lf : Int) {c : Int} {i : Nat} (h : handM (hs.flatten ++ tk) = true) (hc : c ∈ hs.getD i []) : handM (tk ++ [c]) = true := by
  obtain ⟨h1, h2⟩ := handM_parts h
  have hf := mem_flat_getD hc
  rw [List.nodup_append] at h2
  refine handM_of (fun x hx => ?_) ?_
  · rcases List.mem_append.1 hx with e | e
    · exact h1 x (List.mem_append.2 (.inr e))
    · rw [List.mem_singleton.1 e]; exact h1 c (List.mem_append.2 (.inl hf))
  · rw [List.nodup_append]
    refine ⟨h2.2.1, by simp, fun a ha b hb e => ?_⟩
    rw [List.mem_singleton.1 hb] at e
    exact h2.2.2 c hf a ha e.symm
def cardW (hs : List (List Int)) (le tr : Int) (tk wo po : List Int) (lf : Int) (c : Int) : Int := (le + winOf (tk ++ [c]) tr).tmod (hs.length : Int)
def cardM (hs : List (List Int)) (le tr : Int) (tk wo po : List Int) (lf : Int) (c : Int) : List (List Int) × Int × Int × List Int × List Int × List Int × Int × Bool :=
  if (dealM hs le tr tk wo po lf && (!decide (whoM hs le tr tk wo po lf < 0) && mayPM (hs.getD (whoM hs le tr tk wo po lf).toNat []) tk c)) = true then
    (if tk.length + 1 = hs.length then (hs.set (whoM hs le tr tk wo po lf).toNat (withoutM (hs.getD (whoM hs le tr tk wo po lf).toNat []) c), cardW hs le tr tk wo po lf c, tr, [], wo.set (cardW hs le tr tk wo po lf c).toNat (wo.getD (cardW hs le tr tk wo po lf c).toNat 0 + 1), po.set (cardW hs le tr tk wo po lf c).toNat (IntKind.i64.wrap (po.getD (cardW hs le tr tk wo po lf c).toNat 0 + ptsM (tk ++ [c]))), lf, true)
     else (hs.set (whoM hs le tr tk wo po lf).toNat (withoutM (hs.getD (whoM hs le tr tk wo po lf).toNat []) c), le, tr, tk ++ [c], wo, po, lf, true))
  else (hs, le, tr, tk, wo, po, lf, false)
theorem whoM_bound (hs : List (List Int)) (le tr : Int) (tk wo po : List Int) (lf : Int) (v : ValidD hs le tr tk wo po lf) (h : ¬ whoM hs le tr tk wo po lf < 0) : 0 ≤ whoM hs le tr tk wo po lf ∧ whoM hs le tr tk wo po lf < (hs.length : Int) := by
  have v1 := v.n1; have v2 := v.l1; have v3 := v.l2; have v4 := v.trick
  unfold whoM at h ⊢
  rw [if_neg (by omega : ¬ hs.length = 0)] at h ⊢
  by_cases c2 : hs.flatten.length = 0
  · rw [if_pos c2] at h; omega
  · rw [if_neg c2] at h ⊢
    cases hr : inR le 0 ((hs.length : Int) - 1)
    · rw [hr] at h; simp at h
    · rw [if_pos rfl]
      exact ⟨Int.tmod_nonneg _ (by omega), Int.tmod_lt_of_pos _ (by omega)⟩
theorem mayPM_has {hand trick : List Int} {c : Int} (h : mayPM hand trick c = true) : c ∈ hand := by
  simp only [mayPM, Bool.and_eq_true] at h; exact hasM_iff.1 h.2.1
theorem spec_PlayCard_ok (hs : List (List Int)) (le tr : Int) (tk wo po : List Int) (lf : Int) (c : Int) (hh : G2 hs) (h3 : tk.length ≤ 2097152) (hwo : wo.length ≤ 2097152) (hpo : po.length ≤ 2097152) : spec_PlayCard hs le tr tk wo po lf c = some (cardM hs le tr tk wo po lf c) := by
  have hl := hh.len
  have hq := hh.at' (i := (whoM hs le tr tk wo po lf).toNat)
  rw [spec_PlayCard_eq, spec_l12Copy_ok hs le tr tk wo po lf hh h3 hwo hpo, Option.bind_some, spec_TurnOf_ok hs le tr tk wo po lf hh h3 hwo hpo, Option.bind_some, spec_IsDeal_ok hs le tr tk wo po lf hh h3 hwo hpo, Option.bind_some, cardM]
  cases hd : dealM hs le tr tk wo po lf
  · rfl
  · have v := dealM_valid hs le tr tk wo po lf hd
    have v1 := v.n1; have v2 := v.n2; have v3 := v.won; have v4 := v.pts; have v5 := v.l1; have v6 := v.l2; have v7 := v.trick; have v8 := v.wons
    simp only [Bool.not_true, Bool.false_eq_true, if_false, Bool.true_and]
    by_cases hw0 : whoM hs le tr tk wo po lf < 0
    · rw [if_pos (decide_eq_true hw0), decide_eq_true hw0]; rfl
    · obtain ⟨b1, b2⟩ := whoM_bound hs le tr tk wo po lf v hw0
      rw [if_neg (by rw [decide_eq_true_eq]; exact hw0), decide_eq_false hw0, if_pos b1, if_pos b2, spec_MayPlay_ok _ _ _ (by omega) (by omega), Option.bind_some]
      cases hm : mayPM (hs.getD (whoM hs le tr tk wo po lf).toNat []) tk c
      · rfl
      · have hth := trick_hand hs le tr tk wo po lf v.hand (mayPM_has hm)
        obtain ⟨q1, q2⟩ := winOf_bound (tr := tr) hth (by simp)
        simp only [List.length_append, List.length_singleton] at q2
        have x1 : IntKind.i64.wrap (le + winOf (tk ++ [c]) tr) = le + winOf (tk ++ [c]) tr := wrap_id (by omega) (by omega)
        have hw : 0 ≤ cardW hs le tr tk wo po lf c ∧ cardW hs le tr tk wo po lf c < (hs.length : Int) := ⟨Int.tmod_nonneg _ (by omega), Int.tmod_lt_of_pos _ (by omega)⟩
        have hg := v8 _ (getD_mem (d := 0) (by omega : (cardW hs le tr tk wo po lf c).toNat < wo.length))
        have x2 : IntKind.i64.wrap (wo.getD (cardW hs le tr tk wo po lf c).toNat 0 + 1) = wo.getD (cardW hs le tr tk wo po lf c).toNat 0 + 1 := wrap_id (by omega) (by omega)
        have e1 := spec_Without_ok (hs.getD (whoM hs le tr tk wo po lf).toNat []) c (by omega)
        have e2 := spec_WinnerOf_ok (tk ++ [c]) tr (by simp only [List.length_append, List.length_singleton]; omega)
        have e3 := spec_TrickPoints_ok (tk ++ [c]) (by simp only [List.length_append, List.length_singleton]; omega)
        have ew : (le + winOf (tk ++ [c]) tr).tmod (hs.length : Int) = cardW hs le tr tk wo po lf c := rfl
        simp only [Bool.not_true, Bool.not_false, Bool.false_eq_true, if_false, if_true, Bool.true_and]
        by_cases cl : tk.length + 1 = hs.length
        · simp (disch := (first | omega | (simp only [List.length_append, List.length_cons, List.length_nil, List.length_take, List.length_drop, List.length_set, List.length_replicate, List.length_singleton]; omega))) only [↓if_dpos, ↓if_dneg, ↓if_epos, ↓if_eneg, ↓if_npos, ↓if_nneg, ↓if_pos, ↓if_neg, Int.toNat_natCast, List.nil_append, Nat.zero_add, List.length_singleton, Option.bind_some, List.drop_zero, List.take_length, if_true, if_false, e1, e2, e3, x1, x2, List.length_set, List.length_append, ew]
        · simp (disch := (first | omega | (simp only [List.length_append, List.length_cons, List.length_nil, List.length_take, List.length_drop, List.length_set, List.length_replicate, List.length_singleton]; omega))) only [↓if_dpos, ↓if_dneg, ↓if_epos, ↓if_eneg, ↓if_npos, ↓if_nneg, ↓if_pos, ↓if_neg, Int.toNat_natCast, List.nil_append, Nat.zero_add, List.length_singleton, Option.bind_some, List.drop_zero, List.take_length, if_true, if_false, e1, List.length_set, List.length_append]
theorem impl_PlayCard_ok (hs : List (List Int)) (le tr : Int) (tk wo po : List Int) (lf : Int) (c : Int) (hh : G2 hs) (h3 : tk.length ≤ 2097152) (hwo : wo.length ≤ 2097152) (hpo : po.length ≤ 2097152) : impl_PlayCard hs le tr tk wo po lf c = some (cardM hs le tr tk wo po lf c) := by
  have hl := hh.len
  have hq := hh.at' (i := (whoM hs le tr tk wo po lf).toNat)
  rw [impl_PlayCard_eq, impl_Deal_copied_ok hs le tr tk wo po lf hh h3 hwo hpo, Option.bind_some, impl_TurnOf_ok hs le tr tk wo po lf hh h3 hwo hpo, Option.bind_some, impl_IsDeal_ok hs le tr tk wo po lf hh h3 hwo hpo, Option.bind_some, cardM]
  cases hd : dealM hs le tr tk wo po lf
  · rfl
  · have v := dealM_valid hs le tr tk wo po lf hd
    have v1 := v.n1; have v2 := v.n2; have v3 := v.won; have v4 := v.pts; have v5 := v.l1; have v6 := v.l2; have v7 := v.trick; have v8 := v.wons
    simp only [Bool.not_true, Bool.false_eq_true, if_false, Bool.true_and]
    by_cases hw0 : whoM hs le tr tk wo po lf < 0
    · rw [if_pos (decide_eq_true hw0), decide_eq_true hw0]; rfl
    · obtain ⟨b1, b2⟩ := whoM_bound hs le tr tk wo po lf v hw0
      rw [if_neg (by rw [decide_eq_true_eq]; exact hw0), decide_eq_false hw0, if_pos b1, if_pos b2, impl_MayPlay_ok _ _ _ (by omega) (by omega), Option.bind_some]
      cases hm : mayPM (hs.getD (whoM hs le tr tk wo po lf).toNat []) tk c
      · rfl
      · have hth := trick_hand hs le tr tk wo po lf v.hand (mayPM_has hm)
        obtain ⟨q1, q2⟩ := winOf_bound (tr := tr) hth (by simp)
        simp only [List.length_append, List.length_singleton] at q2
        have x1 : IntKind.i64.wrap (le + winOf (tk ++ [c]) tr) = le + winOf (tk ++ [c]) tr := wrap_id (by omega) (by omega)
        have hw : 0 ≤ cardW hs le tr tk wo po lf c ∧ cardW hs le tr tk wo po lf c < (hs.length : Int) := ⟨Int.tmod_nonneg _ (by omega), Int.tmod_lt_of_pos _ (by omega)⟩
        have hg := v8 _ (getD_mem (d := 0) (by omega : (cardW hs le tr tk wo po lf c).toNat < wo.length))
        have x2 : IntKind.i64.wrap (wo.getD (cardW hs le tr tk wo po lf c).toNat 0 + 1) = wo.getD (cardW hs le tr tk wo po lf c).toNat 0 + 1 := wrap_id (by omega) (by omega)
        have e1 := impl_Without_ok (hs.getD (whoM hs le tr tk wo po lf).toNat []) c (by omega)
        have e2 := impl_WinnerOf_ok (tk ++ [c]) tr (by simp only [List.length_append, List.length_singleton]; omega)
        have e3 := impl_TrickPoints_ok (tk ++ [c]) (by simp only [List.length_append, List.length_singleton]; omega)
        have ew : (le + winOf (tk ++ [c]) tr).tmod (hs.length : Int) = cardW hs le tr tk wo po lf c := rfl
        simp only [Bool.not_true, Bool.not_false, Bool.false_eq_true, if_false, if_true, Bool.true_and]
        by_cases cl : tk.length + 1 = hs.length
        · simp (disch := (first | omega | (simp only [List.length_append, List.length_cons, List.length_nil, List.length_take, List.length_drop, List.length_set, List.length_replicate, List.length_singleton]; omega))) only [↓if_dpos, ↓if_dneg, ↓if_epos, ↓if_eneg, ↓if_npos, ↓if_nneg, ↓if_pos, ↓if_neg, Int.toNat_natCast, List.nil_append, Nat.zero_add, List.length_singleton, Option.bind_some, List.drop_zero, List.take_length, if_true, if_false, e1, e2, e3, x1, x2, List.length_set, List.length_append, ew]
        · simp (disch := (first | omega | (simp only [List.length_append, List.length_cons, List.length_nil, List.length_take, List.length_drop, List.length_set, List.length_replicate, List.length_singleton]; omega))) only [↓if_dpos, ↓if_dneg, ↓if_epos, ↓if_eneg, ↓if_npos, ↓if_nneg, ↓if_pos, ↓if_neg, Int.toNat_natCast, List.nil_append, Nat.zero_add, List.length_singleton, Option.bind_some, List.drop_zero, List.take_length, if_true, if_false, e1, List.length_set, List.length_append]
theorem card_good (hs : List (List Int)) (le tr : Int) (tk wo po : List Int) (lf : Int) (c : Int) (hh : G2 hs) (h3 : tk.length ≤ 2097152) (hwo : wo.length ≤ 2097152) (hpo : po.length ≤ 2097152) : ∃ r0 r1 r2 r3 r4 r5 r6 r7, cardM hs le tr tk wo po lf c = (r0, r1, r2, r3, r4, r5, r6, r7) ∧ G2 r0 ∧ r3.length ≤ 2097152 ∧ r4.length ≤ 2097152 ∧ r5.length ≤ 2097152 := by
  have hq := hh.at' (i := (whoM hs le tr tk wo po lf).toNat)
  rw [cardM]
  by_cases hc : (dealM hs le tr tk wo po lf && (!decide (whoM hs le tr tk wo po lf < 0) && mayPM (hs.getD (whoM hs le tr tk wo po lf).toNat []) tk c)) = true
  · rw [if_pos hc]
    simp only [Bool.and_eq_true] at hc
    have v := dealM_valid hs le tr tk wo po lf hc.1
    have v2 := v.n2; have v7 := v.trick
    have hs1 : G2 (hs.set (whoM hs le tr tk wo po lf).toNat (withoutM (hs.getD (whoM hs le tr tk wo po lf).toNat []) c)) := G2.set hh (Nat.le_trans (withoutM_length _ _) hq)
    by_cases cl : tk.length + 1 = hs.length
    · rw [if_pos cl]; exact ⟨_, _, _, _, _, _, _, _, rfl, hs1, Nat.zero_le _, by simpa using hwo, by simpa using hpo⟩
    · rw [if_neg cl]; exact ⟨_, _, _, _, _, _, _, _, rfl, hs1, by simp only [List.length_append, List.length_singleton]; omega, hwo, hpo⟩
  · rw [if_neg hc]; exact ⟨_, _, _, _, _, _, _, _, rfl, hh, h3, hwo, hpo⟩
theorem sum_set : ∀ (l : List Int) (k : Nat) (v : Int), k < l.length → (l.set k v).sum = l.sum - l.getD k 0 + v
  | [], k, v, h => absurd h (Nat.not_lt_zero k)
  | x :: l, 0, v, h => by rw [List.set_cons_zero, List.sum_cons, List.sum_cons, List.getD_cons_zero]; omega
  | x :: l, k + 1, v, h => by
    have := sum_set l k v (by rw [List.length_cons] at h; omega)
    rw [List.set_cons_succ, List.sum_cons, List.sum_cons, List.getD_cons_succ, this]; omega
theorem getD_setI {l : List Int} {i j : Nat} {x : Int} (hi : i < l.length) : (l.set i x).getD j 0 = if i = j then x else l.getD j 0 := by
  rw [List.getD_eq_getElem?_getD, List.getElem?_set]
  by_cases e : i = j
  · rw [if_pos e, if_pos e, if_pos hi]; rfl
  · rw [if_neg e, if_neg e, List.getD_eq_getElem?_getD]
theorem getD_setL {l : List (List Int)} {i j : Nat} {x : List Int} (hi : i < l.length) : (l.set i x).getD j [] = if i = j then x else l.getD j [] := by
  rw [List.getD_eq_getElem?_getD, List.getElem?_set]
  by_cases e : i = j
  · rw [if_pos e, if_pos e, if_pos hi]; rfl
  · rw [if_neg e, if_neg e, List.getD_eq_getElem?_getD]
theorem sum_nn : ∀ (l : List Int), (∀ x ∈ l, 0 ≤ x) → 0 ≤ l.sum ∧ ∀ k, l.getD k 0 ≤ l.sum
  | [], h => ⟨Int.le_refl _, fun k => Int.le_refl _⟩
  | x :: l, h => by
    have h1 := h x List.mem_cons_self
    obtain ⟨h2, h3⟩ := sum_nn l fun y hy => h y (List.mem_cons_of_mem _ hy)
    rw [List.sum_cons]
    refine ⟨by omega, fun k => ?_⟩
    cases k with
    | zero => rw [List.getD_cons_zero]; omega
    | succ k => rw [List.getD_cons_succ]; have := h3 k; omega
theorem sumW_at (l : List Int) (h : ∀ x ∈ l, 0 ≤ x ∧ x ≤ 1000000000) : ∀ n : Int, 0 ≤ n → n + 1000000000 * (l.length : Int) ≤ 9000000000000000000 → l.foldl (fun n x => IntKind.i64.wrap (n + x)) n = n + l.sum := by
  induction l with
  | nil => intro n _ _; simp
  | cons y l ih =>
    intro n h0 h1
    have hy := h y List.mem_cons_self
    rw [List.length_cons] at h1
    rw [List.foldl_cons, wrap_id (by omega) (by omega), ih (fun x hx => h x (List.mem_cons_of_mem _ hx)) _ (by omega) (by omega), List.sum_cons]
    omega
theorem sumW_sum {l : List Int} (h : ∀ x ∈ l, 0 ≤ x ∧ x ≤ 1000000000) (hl : l.length ≤ 1000000) : sumW l = l.sum := by
  unfold sumW
  rw [sumW_at l h 0 (Int.le_refl _) (by omega), Int.zero_add]
/-- What cards are worth, with no bound. -/
def ptOf (c : Int) : Int := if rankM c = 12 then 11 else if rankM c = 8 then 10 else if rankM c = 11 then 4 else if rankM c = 10 then 3 else if rankM c = 9 then 2 else 0
def ptS (l : List Int) : Int := (l.map ptOf).sum
theorem ptOf_b (c : Int) : 0 ≤ ptOf c ∧ ptOf c ≤ 11 := by
  unfold ptOf
  repeat' split
  all_goals omega
theorem ptS_app (a b : List Int) : ptS (a ++ b) = ptS a + ptS b := by unfold ptS; rw [List.map_append, List.sum_append]
theorem ptS_nil : ptS [] = 0 := rfl
theorem ptS_one (c : Int) : ptS [c] = ptOf c := by unfold ptS; simp
theorem ptS_b (l : List Int) : 0 ≤ ptS l ∧ ptS l ≤ 11 * (l.length : Int) := by
  induction l with
  | nil => exact ⟨Int.le_refl _, Int.le_refl _⟩
  | cons c l ih =>
    have := ptOf_b c
    have e : ptS (c :: l) = ptOf c + ptS l := by unfold ptS; rw [List.map_cons, List.sum_cons]
    rw [e, List.length_cons]; omega
theorem ptsM_at (l : List Int) : ∀ n : Int, 0 ≤ n → n + 11 * (l.length : Int) ≤ 9000000000000000000 → l.foldl ptStep n = n + ptS l := by
  induction l with
  | nil => intro n _ _; simp [ptS]
  | cons c l ih =>
    intro n h0 h1
    have hb := ptOf_b c
    rw [List.length_cons] at h1
    have e : ptS (c :: l) = ptOf c + ptS l := by unfold ptS; rw [List.map_cons, List.sum_cons]
    have s : ptStep n c = n + ptOf c := by
      unfold ptStep ptOf
      repeat' split
      all_goals first | rw [wrap_id (by omega) (by omega)] | omega
    rw [List.foldl_cons, s, ih _ (by omega) (by omega), e]
    omega
theorem ptsM_eq (l : List Int) (hl : l.length ≤ 1000000000) : ptsM l = ptS l := by
  unfold ptsM
  rw [ptsM_at l 0 (Int.le_refl _) (by omega), Int.zero_add]
theorem turn_of {n : Nat} (h1 : 2 ≤ n) (h2 : n ≤ 4) {le : Int} {t i : Nat} (hl : 0 ≤ le) (hl2 : le ≤ (n : Int) - 1) (ht : t < n) (hi : i < n) :
    (((i : Int) - le + (n : Int)).tmod (n : Int) < ((t + 1 : Nat) : Int) ↔ (((i : Int) - le + (n : Int)).tmod (n : Int) < (t : Int) ∨ i = ((le + (t : Int)).tmod (n : Int)).toNat)) ∧ ¬ ((((le + (t : Int)).tmod (n : Int)).toNat : Int) - le + (n : Int)).tmod (n : Int) < (t : Int) ∧ ((i : Int) - le + (n : Int)).tmod (n : Int) < (n : Int) ∧ 0 ≤ ((i : Int) - le + (n : Int)).tmod (n : Int) := by
  have p : 0 ≤ (le + (t : Int)).tmod (n : Int) := Int.tmod_nonneg _ (by omega)
  rw [Int.toNat_of_nonneg p]
  rw [Int.tmod_eq_emod_of_nonneg (by omega), Int.tmod_eq_emod_of_nonneg (by omega)] at *
  have p2 : 0 ≤ (le + (t : Int)) % (n : Int) := Int.emod_nonneg _ (by omega)
  rw [Int.tmod_eq_emod_of_nonneg (by omega)]
  rcases (show n = 2 ∨ n = 3 ∨ n = 4 by omega) with e | e | e <;> subst e <;> refine ⟨⟨fun h => ?_, fun h => ?_⟩, ?_, ?_, ?_⟩ <;> omega
theorem dealM_sizes (hs : List (List Int)) (le tr : Int) (tk wo po : List Int) (lf : Int) (h : dealM hs le tr tk wo po lf = true) : ∀ i, i < hs.length → ((hs.getD i []).length : Int) = lf - sumW wo - (if ((i : Int) - le + (hs.length : Int)).tmod (hs.length : Int) < (tk.length : Int) then 1 else 0) := fun i hi => by
  simp only [dealM, Bool.and_eq_true, List.all_eq_true] at h
  have := h.2.2.2.2.2.2.2.2.2.2 i (List.mem_range.2 hi)
  simpa [sizeM] using this
theorem dealM_tr (hs : List (List Int)) (le tr : Int) (tk wo po : List Int) (lf : Int) (h : dealM hs le tr tk wo po lf = true) : inR tr (-1) 3 = true := by
  simp only [dealM, Bool.and_eq_true] at h
  exact h.2.2.2.2.1
theorem dealM_of (hs : List (List Int)) (le tr : Int) (tk wo po : List Int) (lf : Int) (h1 : 2 ≤ hs.length) (h2 : hs.length ≤ 4) (h3 : wo.length = hs.length) (h4 : po.length = hs.length) (h5 : 0 ≤ le ∧ le ≤ (hs.length : Int) - 1) (h6 : inR tr (-1) 3 = true) (h7 : 0 ≤ lf ∧ lf ≤ 26) (h8 : tk.length < hs.length) (h9 : handM (hs.flatten ++ tk) = true) (h10 : ∀ x ∈ wo, 0 ≤ x ∧ x ≤ 26) (h11 : ∀ x ∈ po, 0 ≤ x)
    (h12 : ∀ i, i < hs.length → ((hs.getD i []).length : Int) = lf - sumW wo - (if ((i : Int) - le + (hs.length : Int)).tmod (hs.length : Int) < (tk.length : Int) then 1 else 0)) : dealM hs le tr tk wo po lf = true := by
  simp only [dealM, Bool.and_eq_true, decide_eq_true_eq, List.all_eq_true]
  exact ⟨inR_iff.2 (by omega), h3, h4, inR_iff.2 h5, h6, inR_iff.2 h7, h8, h9, fun x hx => inR_iff.2 (h10 x hx), h11, fun i hi => by
    have := h12 i (List.mem_range.1 hi)
    simpa [sizeM] using this⟩
theorem handM_left {a b : List Int} (h : handM (a ++ b) = true) : handM a = true := by
  obtain ⟨h1, h2⟩ := handM_parts h
  exact handM_of (fun x hx => h1 x (List.mem_append_left _ hx)) (List.nodup_append.1 h2).1
theorem mem_set {α : Type} {l : List α} {i : Nat} {v x : α} (h : x ∈ l.set i v) : x ∈ l ∨ x = v := List.mem_or_eq_of_mem_set h
/-- A card that is well played leaves a deal behind. -/
theorem card_deal (hs : List (List Int)) (le tr : Int) (tk wo po : List Int) (lf : Int) (c k : Int) (hk : 0 ≤ k) (hk2 : k ≤ 1000000) (hp : ∀ x ∈ po, x ≤ k) (hok : (dealM hs le tr tk wo po lf && (!decide (whoM hs le tr tk wo po lf < 0) && mayPM (hs.getD (whoM hs le tr tk wo po lf).toNat []) tk c)) = true) :
    ∃ le' tk' wo' po', cardM hs le tr tk wo po lf c = (hs.set (whoM hs le tr tk wo po lf).toNat (withoutM (hs.getD (whoM hs le tr tk wo po lf).toNat []) c), le', tr, tk', wo', po', lf, true) ∧ dealM (hs.set (whoM hs le tr tk wo po lf).toNat (withoutM (hs.getD (whoM hs le tr tk wo po lf).toNat []) c)) le' tr tk' wo' po' lf = true ∧ (∀ x ∈ po', x ≤ k + 44) ∧ po'.sum + ptS tk' = po.sum + ptS tk + ptOf c ∧ 0 ≤ whoM hs le tr tk wo po lf ∧ whoM hs le tr tk wo po lf < (hs.length : Int) ∧ (hs.set (whoM hs le tr tk wo po lf).toNat (withoutM (hs.getD (whoM hs le tr tk wo po lf).toNat []) c)).flatten.length + 1 = hs.flatten.length := by
  have hok' := hok
  simp only [Bool.and_eq_true, Bool.not_eq_true', decide_eq_false_iff_not] at hok'
  obtain ⟨hd, hw0, hm⟩ := hok'
  have v := dealM_valid hs le tr tk wo po lf hd
  have n1 := v.n1; have n2 := v.n2; have vw := v.won; have vp := v.pts; have l1 := v.l1; have l2 := v.l2; have vt := v.trick; have f1 := v.f1; have f2 := v.f2
  have hsz := dealM_sizes hs le tr tk wo po lf hd
  have htr := dealM_tr hs le tr tk wo po lf hd
  obtain ⟨b1, b2⟩ := whoM_bound hs le tr tk wo po lf v hw0
  have hwho : whoM hs le tr tk wo po lf = (le + (tk.length : Int)).tmod (hs.length : Int) := by
    unfold whoM at hw0 ⊢
    rw [if_neg (by omega : ¬ hs.length = 0)] at hw0 ⊢
    by_cases e : hs.flatten.length = 0
    · rw [if_pos e] at hw0; omega
    · rw [if_neg e] at hw0 ⊢
      by_cases e2 : inR le 0 ((hs.length : Int) - 1) = true
      · rw [if_pos e2]
      · rw [if_neg e2] at hw0; omega
  obtain ⟨w, hw⟩ : ∃ w : Nat, (whoM hs le tr tk wo po lf).toNat = w := ⟨_, rfl⟩
  have hwl : w < hs.length := by omega
  have hwt : ((le + (tk.length : Int)).tmod (hs.length : Int)).toNat = w := by rw [← hwho]; exact hw
  have hcm := mayPM_has hm
  rw [hw] at hcm hm ⊢
  have hnd : (hs.getD w []).Nodup := ((handM_parts v.hand).2.sublist ((row_sub hwl).trans (List.sublist_append_left _ _)))
  have hwlen := without_length hnd hcm
  have hcnt : ∀ x, (hs.set w (withoutM (hs.getD w []) c)).flatten.count x + [c].count x = hs.flatten.count x := fun x => by
    have e1 := flat_set x hs w (withoutM (hs.getD w []) c) hwl
    have e2 := without_count hnd hcm x
    omega
  have hflat : (hs.set w (withoutM (hs.getD w []) c)).flatten.length + 1 = hs.flatten.length := by
    have : ((hs.set w (withoutM (hs.getD w []) c)).flatten ++ [c]).Perm hs.flatten := perm_of_count fun x => by rw [List.count_append]; exact hcnt x
    have := this.length_eq
    rwa [List.length_append, List.length_singleton] at this
  have hhand : handM ((hs.set w (withoutM (hs.getD w []) c)).flatten ++ (tk ++ [c])) = true := by
    rw [← v.hand]
    refine handM_perm (perm_of_count fun x => ?_)
    have := hcnt x
    simp only [List.count_append] at this ⊢
    omega
  have hlen : (hs.set w (withoutM (hs.getD w []) c)).length = hs.length := List.length_set
  have hrow : ∀ i, ((hs.set w (withoutM (hs.getD w []) c)).getD i []).length + (if w = i then 1 else 0) = (hs.getD i []).length := fun i => by
    rw [getD_setL hwl]
    by_cases e : w = i
    · subst e; rw [if_pos rfl, if_pos rfl]; exact hwlen
    · rw [if_neg e, if_neg e]; rfl
  have hsw : sumW wo = wo.sum := sumW_sum (fun x hx => by have := v.wons x hx; omega) (by omega)
  have hs0 := sum_nn wo fun x hx => (v.wons x hx).1
  have hwsz := hsz w hwl
  have hturn := fun i (hi : i < hs.length) => turn_of n1 n2 (t := tk.length) (i := i) l1 l2 vt hi
  have htw := (hturn w hwl).2.1
  rw [hwt] at htw
  rw [if_neg htw] at hwsz
  have hok2 : (dealM hs le tr tk wo po lf && (!decide (whoM hs le tr tk wo po lf < 0) && mayPM (hs.getD (whoM hs le tr tk wo po lf).toNat []) tk c)) = true := hok
  rw [cardM, if_pos hok2, hw]
  by_cases cl : tk.length + 1 = hs.length
  · rw [if_pos cl]
    have hth := trick_hand hs le tr tk wo po lf v.hand hcm
    obtain ⟨q1, q2⟩ := winOf_bound (tr := tr) hth (by simp)
    simp only [List.length_append, List.length_singleton] at q2
    have hcw : 0 ≤ cardW hs le tr tk wo po lf c ∧ cardW hs le tr tk wo po lf c < (hs.length : Int) := ⟨Int.tmod_nonneg _ (by omega), Int.tmod_lt_of_pos _ (by omega)⟩
    obtain ⟨u, hu⟩ : ∃ u : Nat, (cardW hs le tr tk wo po lf c).toNat = u := ⟨_, rfl⟩
    have hul : u < hs.length := by omega
    rw [hu]
    have hpt := ptS_b (tk ++ [c])
    rw [List.length_append, List.length_singleton] at hpt
    have hpm := ptsM_eq (tk ++ [c]) (by rw [List.length_append, List.length_singleton]; omega)
    have hpu1 := v.ptss _ (getD_mem (d := 0) (by omega : u < po.length))
    have hpu2 := hp _ (getD_mem (d := 0) (by omega : u < po.length))
    have hwu := hs0.2 u
    have hwu2 := (v.wons _ (getD_mem (d := 0) (by omega : u < wo.length))).1
    have hsum1 : (wo.set u (wo.getD u 0 + 1)).sum = wo.sum + 1 := by rw [sum_set _ _ _ (by omega)]; omega
    have hpw : IntKind.i64.wrap (po.getD u 0 + ptsM (tk ++ [c])) = po.getD u 0 + ptS (tk ++ [c]) := by rw [hpm, wrap_id (by omega) (by omega)]
    have hwons : ∀ x ∈ wo.set u (wo.getD u 0 + 1), 0 ≤ x ∧ x ≤ 26 := fun x hx => by
      rcases mem_set hx with e | e
      · exact v.wons x e
      · have : (1 : Int) ≤ ((hs.getD w []).length : Int) := by have := hwlen; omega
        omega
    rw [hpw]
    refine ⟨_, _, _, _, rfl, ?_, fun x hx => ?_, ?_, b1, b2, hflat⟩
    · refine dealM_of _ _ _ _ _ _ _ (by omega) (by omega) (by rw [List.length_set]; omega) (by rw [List.length_set]; omega) ⟨hcw.1, by omega⟩ htr ⟨f1, f2⟩ (by show 0 < _; omega) ?_ hwons (fun x hx => ?_) (fun i hi => ?_)
      · rw [List.append_nil]; exact handM_left hhand
      · rcases mem_set hx with e | e
        · exact v.ptss x e
        · omega
      · rw [hlen] at hi
        have hr := hrow i
        have ht := hturn i hi
        have hz := hsz i hi
        have e1 : sumW (wo.set u (wo.getD u 0 + 1)) = wo.sum + 1 := by rw [sumW_sum (fun x hx => by have := hwons x hx; omega) (by rw [List.length_set]; omega), hsum1]
        have hg := Int.tmod_nonneg (a := (i : Int) - cardW hs le tr tk wo po lf c + (hs.length : Int)) (hs.length : Int) (by omega)
        rw [hlen, e1, if_neg (by show ¬ _ < ((([] : List Int).length : Nat) : Int); rw [List.length_nil]; omega)]
        have ht1 := ht.1
        rw [hwt] at ht1
        have hin : ((i : Int) - le + (hs.length : Int)).tmod (hs.length : Int) < ((tk.length + 1 : Nat) : Int) := by have := ht.2.2.1; omega
        rw [hsw] at hz
        rcases ht1.1 hin with h1 | h1
        · rw [if_pos h1] at hz
          have hne : ¬ w = i := fun e => htw (by rw [e]; exact h1)
          rw [if_neg hne] at hr
          omega
        · rw [if_pos h1.symm] at hr
          have hz2 := hwsz
          rw [← h1, hsw] at hz2
          omega
    · rcases mem_set hx with e | e
      · have := hp x e; omega
      · omega
    · rw [sum_set _ _ _ (by omega), ptS_nil, ptS_app, ptS_one]; omega
  · rw [if_neg cl]
    refine ⟨_, _, _, _, rfl, ?_, fun x hx => by have := hp x hx; omega, by rw [ptS_app, ptS_one]; omega, b1, b2, hflat⟩
    refine dealM_of _ _ _ _ _ _ _ (by omega) (by omega) (by omega) (by omega) ⟨l1, by omega⟩ htr ⟨f1, f2⟩ (by rw [List.length_append, List.length_singleton]; omega) hhand v.wons v.ptss fun i hi => ?_
    rw [hlen] at hi
    have hr := hrow i
    have ht := (hturn i hi).1
    rw [hwt] at ht
    have hz := hsz i hi
    rw [hlen, List.length_append, List.length_singleton]
    by_cases e : w = i
    · rw [if_pos e] at hr
      rw [if_pos (ht.2 (.inr e.symm))]
      subst e
      omega
    · rw [if_neg e] at hr
      by_cases e2 : ((i : Int) - le + (hs.length : Int)).tmod (hs.length : Int) < (tk.length : Int)
      · rw [if_pos e2] at hz
        rw [if_pos (ht.2 (.inl e2))]; omega
      · rw [if_neg e2] at hz
        rw [if_neg (fun h => by rcases ht.1 h with h | h; exact e2 h; exact e h.symm)]; omega
end Go.Proofs.Ytoioaijpdiglfaa.V
