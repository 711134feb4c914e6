/- Plain laws over the shapes. -/
import Derived.Test.YtdkhomhdapoeoaaP1
import Derived.Test.YtdkhomhdapoeoaaFIsDeal
import Derived.Test.YtdkhomhdapoeoaaS1
import Derived.Test.YtdkhomhdapoeoaaS2
import Derived.Test.YtdkhomhdapoeoaaS3
set_option linter.unusedVariables false
set_option linter.unusedSimpArgs false
set_option maxRecDepth 10000
namespace Go.Proofs.Ytdkhomhdapoeoaa.V
open Go
theorem spec_TotalCards_ok (l : List (List Int)) (hl : l.length ≤ 4194304) (hf : l.flatten.length ≤ 8796093022208) : spec_TotalCards l = some (l.flatten.length : Int) := by
  have h : ∀ i, i ≤ l.length → spec_TotalCards_L3 l ((l.take i).flatten.length : Int) i = some (l.flatten.length : Int) := down (by
      rw [spec_TotalCards_L3_eq]
      simp (disch := (first | omega | (simp only [List.length_append, List.length_cons, List.length_nil, List.length_take, List.length_drop, List.length_set, List.length_replicate, List.length_singleton]; omega))) only [↓if_dpos, ↓if_dneg, ↓if_epos, ↓if_eneg, ↓if_npos, ↓if_nneg, ↓if_pos, ↓if_neg, Int.toNat_natCast, List.nil_append, Nat.zero_add, List.length_singleton, Option.bind_some, List.drop_zero, List.take_length, if_true, if_false, ]) fun i hi ih => by
    have h1 := flat_take_le l (i + 1)
    rw [flat_take hi, List.length_append] at h1
    have hw2 : IntKind.i64.wrap (((l.take i).flatten.length : Int) + ((l.getD i []).length : Int)) = ((l.take (i + 1)).flatten.length : Int) := by
      rw [wrap_id (by omega) (by omega), flat_take hi, List.length_append]; omega
    have hil : (i : Int) < (l.length : Int) := by omega
    have hw : IntKind.i64.wrap ((i : Int) + 1) = ((i + 1 : Nat) : Int) := wrap_succ hi (by omega)
    rw [spec_TotalCards_L3_eq]
    simp (disch := (first | omega | (simp only [List.length_append, List.length_cons, List.length_nil, List.length_take, List.length_drop, List.length_set, List.length_replicate, List.length_singleton]; omega))) only [↓if_dpos, ↓if_dneg, ↓if_epos, ↓if_eneg, ↓if_npos, ↓if_nneg, ↓if_pos, ↓if_neg, hw, Int.toNat_natCast, List.nil_append, Nat.zero_add, List.length_singleton, Option.bind_some, List.drop_zero, List.take_length, if_true, if_false, hw2]
    exact ih
  rw [spec_TotalCards_eq]
  exact h 0 (Nat.zero_le _)
theorem spec_AllApart_ok (l : List (List Int)) (hl : l.length ≤ 4194304) (hf : l.flatten.length ≤ 8796093022208) : spec_AllApart l = some (handM l.flatten) := by
  have h : ∀ i, i ≤ l.length → spec_AllApart_L3 l i (l.take i).flatten = some (handM l.flatten) := down (by
      rw [spec_AllApart_L3_eq]
      simp (disch := (first | omega | (simp only [List.length_append, List.length_cons, List.length_nil, List.length_take, List.length_drop, List.length_set, List.length_replicate, List.length_singleton]; omega))) only [↓if_dpos, ↓if_dneg, ↓if_epos, ↓if_eneg, ↓if_npos, ↓if_nneg, ↓if_pos, ↓if_neg, Int.toNat_natCast, List.nil_append, Nat.zero_add, List.length_singleton, Option.bind_some, List.drop_zero, List.take_length, if_true, if_false, spec_IsHand_ok _ (by omega : l.flatten.length ≤ 17592186044416)]) fun i hi ih => by
    have h1 := flat_take_le l (i + 1)
    rw [flat_take hi, List.length_append] at h1
    have hil : (i : Int) < (l.length : Int) := by omega
    have hw : IntKind.i64.wrap ((i : Int) + 1) = ((i + 1 : Nat) : Int) := wrap_succ hi (by omega)
    rw [spec_AllApart_L3_eq]
    simp (disch := (first | omega | (simp only [List.length_append, List.length_cons, List.length_nil, List.length_take, List.length_drop, List.length_set, List.length_replicate, List.length_singleton]; omega))) only [↓if_dpos, ↓if_dneg, ↓if_epos, ↓if_eneg, ↓if_npos, ↓if_nneg, ↓if_pos, ↓if_neg, hw, Int.toNat_natCast, List.nil_append, Nat.zero_add, List.length_singleton, Option.bind_some, List.drop_zero, List.take_length, if_true, if_false, ]
    rw [← ih, flat_take hi]
  rw [spec_AllApart_eq]
  exact h 0 (Nat.zero_le _)
theorem spec_l12Copy_ok (hs : List (List Int)) (le tr : Int) (tk wo po : List Int) (lf : Int) (hh : G2 hs) (h3 : tk.length ≤ 2097152) (hwo : wo.length ≤ 2097152) (hpo : po.length ≤ 2097152) : spec_l12Copy hs le tr tk wo po lf = some (hs, le, tr, tk, wo, po, lf) := by
  have hl := hh.len
  have h : ∀ i, i ≤ hs.length → spec_l12Copy_L3 i hs le tr tk wo po lf 0 0 0 (hs.take i) = some (hs, le, tr, tk, wo, po, lf) := down (by
      rw [spec_l12Copy_L3_eq]
      simp (disch := (first | omega | (simp only [List.length_append, List.length_cons, List.length_nil, List.length_take, List.length_drop, List.length_set, List.length_replicate, List.length_singleton]; omega))) only [↓if_dpos, ↓if_dneg, ↓if_epos, ↓if_eneg, ↓if_npos, ↓if_nneg, ↓if_pos, ↓if_neg, Int.toNat_natCast, List.nil_append, Nat.zero_add, List.length_singleton, Option.bind_some, List.drop_zero, List.take_length, if_true, if_false, ]) fun i hi ih => by
    have e := hh.row _ (getD_mem (d := []) hi)
    have hil : (i : Int) < (hs.length : Int) := by omega
    have hw : IntKind.i64.wrap ((i : Int) + 1) = ((i + 1 : Nat) : Int) := wrap_succ hi (by omega)
    rw [spec_l12Copy_L3_eq]
    simp (disch := (first | omega | (simp only [List.length_append, List.length_cons, List.length_nil, List.length_take, List.length_drop, List.length_set, List.length_replicate, List.length_singleton]; omega))) only [↓if_dpos, ↓if_dneg, ↓if_epos, ↓if_eneg, ↓if_npos, ↓if_nneg, ↓if_pos, ↓if_neg, hw, Int.toNat_natCast, List.nil_append, Nat.zero_add, List.length_singleton, Option.bind_some, List.drop_zero, List.take_length, if_true, if_false, ]
    rw [← ih, take_succ_getD (d := []) hi]
  rw [spec_l12Copy_eq]
  exact h 0 (Nat.zero_le _)
theorem impl_Deal_copied_ok (hs : List (List Int)) (le tr : Int) (tk wo po : List Int) (lf : Int) (hh : G2 hs) (h3 : tk.length ≤ 2097152) (hwo : wo.length ≤ 2097152) (hpo : po.length ≤ 2097152) : impl_Deal_copied hs le tr tk wo po lf = some (hs, le, tr, tk, wo, po, lf) := by
  rw [impl_Deal_copied_eq, impl_copyRows_ok _ hh.len (fun r hr => Nat.le_trans (hh.row r hr) (by omega)), Option.bind_some, impl_copyOf_ok _ (by omega), Option.bind_some, impl_copyOf_ok _ (by omega), Option.bind_some, impl_copyOf_ok _ (by omega), Option.bind_some]
def whoM (hs : List (List Int)) (le tr : Int) (tk wo po : List Int) (lf : Int) : Int := if hs.length = 0 then -1 else if hs.flatten.length = 0 then -1 else if inR le 0 ((hs.length : Int) - 1) = true then (le + (tk.length : Int)).tmod (hs.length : Int) else -1
theorem spec_TurnOf_ok (hs : List (List Int)) (le tr : Int) (tk wo po : List Int) (lf : Int) (hh : G2 hs) (h3 : tk.length ≤ 2097152) (hwo : wo.length ≤ 2097152) (hpo : po.length ≤ 2097152) : spec_TurnOf hs le tr tk wo po lf = some (whoM hs le tr tk wo po lf) := by
  have hl := hh.len
  have hf := hh.flat
  rw [spec_TurnOf_eq, spec_TotalCards_ok _ (by omega) (by omega), Option.bind_some, whoM]
  by_cases c1 : hs.length = 0
  · simp (disch := (first | omega | (simp only [List.length_append, List.length_cons, List.length_nil, List.length_take, List.length_drop, List.length_set, List.length_replicate, List.length_singleton]; omega))) only [↓if_dpos, ↓if_dneg, ↓if_epos, ↓if_eneg, ↓if_npos, ↓if_nneg, ↓if_pos, ↓if_neg]
  · have w : IntKind.i64.wrap ((hs.length : Int) - 1) = (hs.length : Int) - 1 := wrap_id (by omega) (by omega)
    by_cases c2 : hs.flatten.length = 0
    · simp (disch := (first | omega | (simp only [List.length_append, List.length_cons, List.length_nil, List.length_take, List.length_drop, List.length_set, List.length_replicate, List.length_singleton]; omega))) only [↓if_dpos, ↓if_dneg, ↓if_epos, ↓if_eneg, ↓if_npos, ↓if_nneg, ↓if_pos, ↓if_neg]
    · simp (disch := (first | omega | (simp only [List.length_append, List.length_cons, List.length_nil, List.length_take, List.length_drop, List.length_set, List.length_replicate, List.length_singleton]; omega))) only [↓if_dpos, ↓if_dneg, ↓if_epos, ↓if_eneg, ↓if_npos, ↓if_nneg, ↓if_pos, ↓if_neg, w, spec_l1In_ok, Option.bind_some]
      cases hr : inR le 0 ((hs.length : Int) - 1)
      · rfl
      · simp [inR] at hr
        have w2 : IntKind.i64.wrap (le + (tk.length : Int)) = le + (tk.length : Int) := wrap_id (by omega) (by omega)
        simp (disch := (first | omega | (simp only [List.length_append, List.length_cons, List.length_nil, List.length_take, List.length_drop, List.length_set, List.length_replicate, List.length_singleton]; omega))) only [↓if_dpos, ↓if_dneg, ↓if_epos, ↓if_eneg, ↓if_npos, ↓if_nneg, ↓if_pos, ↓if_neg, w2, Bool.not_true, Bool.false_eq_true, if_true, if_false]
theorem impl_TurnOf_ok (hs : List (List Int)) (le tr : Int) (tk wo po : List Int) (lf : Int) (hh : G2 hs) (h3 : tk.length ≤ 2097152) (hwo : wo.length ≤ 2097152) (hpo : po.length ≤ 2097152) : impl_TurnOf hs le tr tk wo po lf = some (whoM hs le tr tk wo po lf) := by
  have hl := hh.len
  have hf := hh.flat
  rw [impl_TurnOf_eq, impl_TotalCards_ok _ (by omega) (by omega), Option.bind_some, whoM]
  by_cases c1 : hs.length = 0
  · simp (disch := (first | omega | (simp only [List.length_append, List.length_cons, List.length_nil, List.length_take, List.length_drop, List.length_set, List.length_replicate, List.length_singleton]; omega))) only [↓if_dpos, ↓if_dneg, ↓if_epos, ↓if_eneg, ↓if_npos, ↓if_nneg, ↓if_pos, ↓if_neg]
  · have w : IntKind.i64.wrap ((hs.length : Int) - 1) = (hs.length : Int) - 1 := wrap_id (by omega) (by omega)
    by_cases c2 : hs.flatten.length = 0
    · simp (disch := (first | omega | (simp only [List.length_append, List.length_cons, List.length_nil, List.length_take, List.length_drop, List.length_set, List.length_replicate, List.length_singleton]; omega))) only [↓if_dpos, ↓if_dneg, ↓if_epos, ↓if_eneg, ↓if_npos, ↓if_nneg, ↓if_pos, ↓if_neg]
    · simp (disch := (first | omega | (simp only [List.length_append, List.length_cons, List.length_nil, List.length_take, List.length_drop, List.length_set, List.length_replicate, List.length_singleton]; omega))) only [↓if_dpos, ↓if_dneg, ↓if_epos, ↓if_eneg, ↓if_npos, ↓if_nneg, ↓if_pos, ↓if_neg, w, impl_InRange_ok, Option.bind_some]
      cases hr : inR le 0 ((hs.length : Int) - 1)
      · rfl
      · simp [inR] at hr
        have w2 : IntKind.i64.wrap (le + (tk.length : Int)) = le + (tk.length : Int) := wrap_id (by omega) (by omega)
        simp (disch := (first | omega | (simp only [List.length_append, List.length_cons, List.length_nil, List.length_take, List.length_drop, List.length_set, List.length_replicate, List.length_singleton]; omega))) only [↓if_dpos, ↓if_dneg, ↓if_epos, ↓if_eneg, ↓if_npos, ↓if_nneg, ↓if_pos, ↓if_neg, w2, Bool.not_true, Bool.false_eq_true, if_true, if_false]
def clampM (x : Int) : Int := if (if x < 1000 then x else 1000) > 0 then (if x < 1000 then x else 1000) else 0
theorem clampM_b (x : Int) : 0 ≤ clampM x ∧ clampM x ≤ 1000 := by unfold clampM; split <;> split <;> omega
def sumC (l : List Int) : Int := l.foldl (fun n x => IntKind.i64.wrap (n + clampM x)) 0
theorem spec_l12Sum_ok (l : List Int) (hl : l.length ≤ 4398046511104) : spec_l12Sum l = some (sumC l) := by
  have hc : ∀ x, (spec_Min 1000 x).bind (fun c1 => spec_Max 0 c1) = some (clampM x) := fun x => by
    rw [spec_Min_eq, clampM]
    by_cases c : x < 1000
    · rw [if_pos (decide_eq_true c), if_pos c, Option.bind_some, spec_Max_eq]
      by_cases c2 : x > 0
      · rw [if_pos (decide_eq_true c2), if_pos c2]
      · rw [if_neg (by rw [decide_eq_true_eq]; exact c2), if_neg c2]
    · rw [if_neg (by rw [decide_eq_true_eq]; exact c), if_neg c, Option.bind_some, spec_Max_eq]; rfl
  have h : ∀ i, i ≤ l.length → spec_l12Sum_L3 l (sumC (l.take i)) i = some (sumC l) := down (by
      rw [spec_l12Sum_L3_eq]
      simp (disch := (first | omega | (simp only [List.length_append, List.length_cons, List.length_nil, List.length_take, List.length_drop, List.length_set, List.length_replicate, List.length_singleton]; omega))) only [↓if_dpos, ↓if_dneg, ↓if_epos, ↓if_eneg, ↓if_npos, ↓if_nneg, ↓if_pos, ↓if_neg, Int.toNat_natCast, List.nil_append, Nat.zero_add, List.length_singleton, Option.bind_some, List.drop_zero, List.take_length, if_true, if_false, ]) fun i hi ih => by
    have hb : ∀ k : Int → Option Int, ((spec_Min 1000 (l.getD i 0)).bind fun c1 => (spec_Max 0 c1).bind k) = k (clampM (l.getD i 0)) := fun k => by
      have := hc (l.getD i 0)
      cases e : spec_Min 1000 (l.getD i 0) with
      | none => rw [e] at this; cases this
      | some y => rw [e, Option.bind_some] at this; rw [Option.bind_some, this, Option.bind_some]
    have hil : (i : Int) < (l.length : Int) := by omega
    have hw : IntKind.i64.wrap ((i : Int) + 1) = ((i + 1 : Nat) : Int) := wrap_succ hi (by omega)
    rw [spec_l12Sum_L3_eq]
    simp (disch := (first | omega | (simp only [List.length_append, List.length_cons, List.length_nil, List.length_take, List.length_drop, List.length_set, List.length_replicate, List.length_singleton]; omega))) only [↓if_dpos, ↓if_dneg, ↓if_epos, ↓if_eneg, ↓if_npos, ↓if_nneg, ↓if_pos, ↓if_neg, hw, Int.toNat_natCast, List.nil_append, Nat.zero_add, List.length_singleton, Option.bind_some, List.drop_zero, List.take_length, if_true, if_false, hb]
    rw [← ih]
    unfold sumC
    rw [foldl_take (d := 0) hi]
  rw [spec_l12Sum_eq]
  exact h 0 (Nat.zero_le _)
theorem sumC_ge (l : List Int) : ∀ n : Int, 0 ≤ n → n + 1000 * (l.length : Int) ≤ 9000000000000000 → n ≤ l.foldl (fun n x => IntKind.i64.wrap (n + clampM x)) n ∧ ∀ x ∈ l, n + clampM x ≤ l.foldl (fun n x => IntKind.i64.wrap (n + clampM x)) n := by
  induction l with
  | nil => intro n _ _; exact ⟨Int.le_refl _, fun x hx => by cases hx⟩
  | cons y l ih =>
    intro n h0 h1
    have hb := clampM_b y
    simp only [List.length_cons] at h1
    have w : IntKind.i64.wrap (n + clampM y) = n + clampM y := wrap_id (by omega) (by omega)
    obtain ⟨k1, k2⟩ := ih (n + clampM y) (by omega) (by omega)
    simp only [List.foldl_cons, w]
    refine ⟨by omega, fun x hx => ?_⟩
    rcases List.mem_cons.1 hx with e | e
    · rw [e]; omega
    · have := k2 x e; omega
theorem sumC_eq {l : List Int} (h : l.all (fun x => inR x 0 26) = true) : sumC l = sumW l := by
  unfold sumC sumW
  have : ∀ n, l.foldl (fun n x => IntKind.i64.wrap (n + clampM x)) n = l.foldl (fun n x => IntKind.i64.wrap (n + x)) n := by

    induction l with
    | nil => intro n; rfl
    | cons y l ih =>
      intro n
      rw [List.all_cons, Bool.and_eq_true] at h
      have hy : clampM y = y := by
        have := h.1; simp [inR] at this
        unfold clampM; rw [if_pos (by omega : y < 1000)]; split <;> omega
      simp only [List.foldl_cons, hy]
      exact ih h.2 _
  exact this 0
theorem sumC_le (l : List Int) (hb : ∀ x ∈ l, clampM x ≤ 26) : ∀ n : Int, 0 ≤ n → n + 26 * (l.length : Int) ≤ 9000000000000000 → l.foldl (fun n x => IntKind.i64.wrap (n + clampM x)) n ≤ n + 26 * (l.length : Int) := by
  induction l with
  | nil => intro n _ _; simp
  | cons y l ih =>
    intro n h0 h1
    have hb1 := clampM_b y
    have hb2 := hb y (by simp)
    simp only [List.length_cons] at h1
    have w : IntKind.i64.wrap (n + clampM y) = n + clampM y := wrap_id (by omega) (by omega)
    simp only [List.foldl_cons, w, List.length_cons]
    have := ih (fun x hx => hb x (by simp [hx])) (n + clampM y) (by omega) (by omega)
    omega
theorem sumC_26 {l : List Int} (h : l.all (fun x => inR x 0 26) = true) (hl : l.length ≤ 4) : 0 ≤ sumC l ∧ sumC l ≤ 104 := by
  have k1 := (sumC_ge l 0 (Int.le_refl _) (by omega)).1
  have k2 := sumC_le l (fun x hx => by
    have := (List.all_eq_true.1 h) x hx
    simp [inR] at this
    unfold clampM; rw [if_pos (by omega : x < 1000)]; split <;> omega) 0 (Int.le_refl _) (by omega)
  unfold sumC; omega
/-- Is the hand at place i as great as it should be, if s tricks are won? -/
def sizeM (hs : List (List Int)) (le tr : Int) (tk wo po : List Int) (lf : Int) (s : Int) (i : Nat) : Bool := decide (((hs.getD i []).length : Int) = lf - s - (if ((i : Int) - le + (hs.length : Int)).tmod (hs.length : Int) < (tk.length : Int) then 1 else 0))
def dealM (hs : List (List Int)) (le tr : Int) (tk wo po : List Int) (lf : Int) : Bool :=
  inR (hs.length : Int) 2 4 && (decide (wo.length = hs.length) && (decide (po.length = hs.length) && (inR le 0 ((hs.length : Int) - 1) && (inR tr (-1) 3 && (inR lf 0 26 && (decide (tk.length < hs.length) &&
    (handM (hs.flatten ++ tk) && (wo.all (fun x => inR x 0 26) && (po.all (fun x => decide (0 ≤ x)) && (List.range hs.length).all (sizeM hs le tr tk wo po lf (sumW wo)))))))))))
theorem all_range_drop (p : Nat → Bool) (n i : Nat) (hi : i < n) : ((List.range n).drop i).all p = (p i && ((List.range n).drop (i + 1)).all p) := by
  rw [List.drop_eq_getElem_cons (by simpa using hi), List.all_cons, List.getElem_range]
theorem spec_IsDeal_ok (hs : List (List Int)) (le tr : Int) (tk wo po : List Int) (lf : Int) (hh : G2 hs) (h3 : tk.length ≤ 2097152) (hwo : wo.length ≤ 2097152) (hpo : po.length ≤ 2097152) : spec_IsDeal hs le tr tk wo po lf = some (dealM hs le tr tk wo po lf) := by
  have hl := hh.len
  have hf := hh.flat
  have efl : (hs ++ [tk]).flatten = hs.flatten ++ tk := by simp
  have w : IntKind.i64.wrap ((hs.length : Int) - 1) = (hs.length : Int) - 1 := wrap_id (by omega) (by omega)
  have eap := spec_AllApart_ok (hs ++ [tk]) (by simp; omega) (by rw [efl]; simp only [List.length_append]; omega)
  rw [efl] at eap
  rw [spec_IsDeal_eq, spec_l1In_ok, Option.bind_some, w, spec_l1In_ok, Option.bind_some, spec_l1In_ok, Option.bind_some, spec_l1In_ok, Option.bind_some, dealM]
  cases hn : inR (hs.length : Int) 2 4
  · rfl
  simp [inR] at hn
  by_cases c1 : wo.length = hs.length
  · by_cases c2 : po.length = hs.length
    · cases h3' : inR le 0 ((hs.length : Int) - 1)
      · simp (disch := (first | omega | (simp only [List.length_append, List.length_cons, List.length_nil, List.length_take, List.length_drop, List.length_set, List.length_replicate, List.length_singleton]; omega))) only [↓if_dpos, ↓if_dneg, ↓if_epos, ↓if_eneg, ↓if_npos, ↓if_nneg, ↓if_pos, ↓if_neg, decide_eq_true c1, decide_eq_true c2, Bool.not_true, Bool.false_eq_true, if_false]; rfl
      · cases h4' : inR tr (-1) 3
        · simp (disch := (first | omega | (simp only [List.length_append, List.length_cons, List.length_nil, List.length_take, List.length_drop, List.length_set, List.length_replicate, List.length_singleton]; omega))) only [↓if_dpos, ↓if_dneg, ↓if_epos, ↓if_eneg, ↓if_npos, ↓if_nneg, ↓if_pos, ↓if_neg, decide_eq_true c1, decide_eq_true c2, Bool.not_true, Bool.false_eq_true, if_false]; rfl
        · cases h5' : inR lf 0 26
          · simp (disch := (first | omega | (simp only [List.length_append, List.length_cons, List.length_nil, List.length_take, List.length_drop, List.length_set, List.length_replicate, List.length_singleton]; omega))) only [↓if_dpos, ↓if_dneg, ↓if_epos, ↓if_eneg, ↓if_npos, ↓if_nneg, ↓if_pos, ↓if_neg, decide_eq_true c1, decide_eq_true c2, Bool.not_true, Bool.false_eq_true, if_false]; rfl
          · by_cases c3 : tk.length < hs.length
            · simp (disch := (first | omega | (simp only [List.length_append, List.length_cons, List.length_nil, List.length_take, List.length_drop, List.length_set, List.length_replicate, List.length_singleton]; omega))) only [↓if_dpos, ↓if_dneg, ↓if_epos, ↓if_eneg, ↓if_npos, ↓if_nneg, ↓if_pos, ↓if_neg, Int.toNat_natCast, List.nil_append, Nat.zero_add, List.length_singleton, Option.bind_some, List.drop_zero, List.take_length, if_true, if_false, decide_eq_true c1, decide_eq_true c2, decide_eq_true c3, Bool.not_true, Bool.false_eq_true, if_false, Bool.true_and, eap]
              cases hand : handM (hs.flatten ++ tk)
              · rfl
              · simp only [Bool.not_true, Bool.false_eq_true, if_false, Bool.true_and]
                simp [inR] at h3' h5'
                obtain ⟨s1, s2⟩ := sumC_ge wo 0 (Int.le_refl _) (by omega)
                have s3 : sumC wo ≤ 4000 := by
                  have : ∀ (l : List Int) (n : Int), 0 ≤ n → n + 1000 * (l.length : Int) ≤ 9000000000000000 → l.foldl (fun n x => IntKind.i64.wrap (n + clampM x)) n ≤ n + 1000 * (l.length : Int) := by
                    intro l
                    induction l with
                    | nil => intro n _ _; simp
                    | cons y l ih =>
                      intro n h0 h1
                      have hb := clampM_b y
                      simp only [List.length_cons] at h1
                      have w : IntKind.i64.wrap (n + clampM y) = n + clampM y := wrap_id (by omega) (by omega)
                      simp only [List.foldl_cons, w, List.length_cons]
                      have := ih (n + clampM y) (by omega) (by omega)
                      omega
                  have := this wo 0 (Int.le_refl _) (by omega)
                  unfold sumC; omega
                have s0 : 0 ≤ sumC wo := s1
                have hloop : ∀ i, i ≤ hs.length → spec_IsDeal_L7 hs.length i hs le tr tk wo po lf = some (((List.range hs.length).drop i).all fun i => decide (0 ≤ wo.getD i 0) && (decide (0 ≤ po.getD i 0) && sizeM hs le tr tk wo po lf (sumC wo) i)) := down (by
                    rw [spec_IsDeal_L7_eq, if_neg (by rw [decide_eq_true_eq]; omega), List.drop_of_length_le (by simp)]; rfl) fun i hi ih => by
                  have hil : (i : Int) < (hs.length : Int) := by omega
                  have hw : IntKind.i64.wrap ((i : Int) + 1) = ((i + 1 : Nat) : Int) := wrap_succ hi (by omega)
                  have x1 : IntKind.i64.wrap ((i : Int) - le) = (i : Int) - le := wrap_id (by omega) (by omega)
                  have x2 : IntKind.i64.wrap ((i : Int) - le + (hs.length : Int)) = (i : Int) - le + (hs.length : Int) := wrap_id (by omega) (by omega)
                  have x3 : IntKind.i64.wrap (lf - sumC wo) = lf - sumC wo := wrap_id (by omega) (by omega)
                  have x4 : IntKind.i64.wrap (lf - sumC wo - 1) = lf - sumC wo - 1 := wrap_id (by omega) (by omega)
                  rw [spec_IsDeal_L7_eq, all_range_drop _ _ _ hi]
                  simp (disch := (first | omega | (simp only [List.length_append, List.length_cons, List.length_nil, List.length_take, List.length_drop, List.length_set, List.length_replicate, List.length_singleton]; omega))) only [↓if_dpos, ↓if_dneg, ↓if_epos, ↓if_eneg, ↓if_npos, ↓if_nneg, ↓if_pos, ↓if_neg, hw, Int.toNat_natCast, List.nil_append, Nat.zero_add, List.length_singleton, Option.bind_some, List.drop_zero, List.take_length, if_true, if_false, spec_l12Sum_ok, x1, x2, x3, x4, ih]
                  by_cases d1 : wo.getD i 0 < 0
                  · rw [if_pos (decide_eq_true d1), decide_eq_false (by omega)]; rfl
                  · rw [if_neg (by rw [decide_eq_true_eq]; exact d1), decide_eq_true (by omega : 0 ≤ wo.getD i 0), Bool.true_and]
                    by_cases d2 : po.getD i 0 < 0
                    · rw [if_pos (decide_eq_true d2), decide_eq_false (by omega)]; rfl
                    · rw [if_neg (by rw [decide_eq_true_eq]; exact d2), decide_eq_true (by omega : 0 ≤ po.getD i 0), Bool.true_and, sizeM]
                      by_cases d3 : ((i : Int) - le + (hs.length : Int)).tmod (hs.length : Int) < (tk.length : Int)
                      · rw [if_pos (decide_eq_true d3), if_pos d3]
                        by_cases d4 : ((hs.getD i []).length : Int) = lf - sumC wo - 1
                        · rw [if_neg (by rw [d4]; simp), decide_eq_true d4, Bool.true_and]
                        · rw [if_pos (by simpa using d4), decide_eq_false d4, Bool.false_and]
                      · rw [if_neg (by rw [decide_eq_true_eq]; exact d3), if_neg d3, Int.sub_zero]
                        by_cases d4 : ((hs.getD i []).length : Int) = lf - sumC wo
                        · rw [if_neg (by rw [d4]; simp), decide_eq_true d4, Bool.true_and]
                        · rw [if_pos (by simpa using d4), decide_eq_false d4, Bool.false_and]
                have h0 := hloop 0 (Nat.zero_le _)
                rw [List.drop_zero] at h0
                refine h0.trans ?_
                congr 1
                have get_mem : ∀ (l : List Int) (x : Int), x ∈ l → ∃ i, i < l.length ∧ l.getD i 0 = x := fun l x hx => by
                  obtain ⟨i, hi, e⟩ := List.getElem_of_mem hx
                  exact ⟨i, hi, by rw [List.getD_eq_getElem?_getD, List.getElem?_eq_getElem hi]; exact e⟩
                cases hall : wo.all (fun x => inR x 0 26)
                · rw [Bool.false_and]
                  apply Bool.eq_false_iff.2
                  intro hA
                  rw [List.all_eq_true] at hA
                  have : wo.all (fun x => inR x 0 26) = true := by
                    rw [List.all_eq_true]
                    intro x hx
                    obtain ⟨i, hi, e⟩ := get_mem wo x hx
                    have q := hA i (List.mem_range.2 (by omega))
                    have q0 := hA 0 (List.mem_range.2 (by omega))
                    simp only [Bool.and_eq_true, decide_eq_true_eq, sizeM] at q q0
                    have hx2 := s2 x hx
                    have q2 : clampM x ≤ 26 := by
                      have := q0.2.2
                      have hx3 : clampM x ≤ sumC wo := by unfold sumC; omega
                      split at this <;> omega
                    have q3 : 0 ≤ x := by rw [← e]; exact q.1
                    have q4 : x ≤ 26 := by
                      unfold clampM at q2
                      by_cases z : x < 1000
                      · rw [if_pos z] at q2; split at q2 <;> omega
                      · rw [if_neg z] at q2; omega
                    simp [inR, q3, q4]
                  rw [hall] at this; cases this
                · rw [Bool.true_and, sumC_eq hall]
                  rw [Bool.eq_iff_iff]
                  simp only [Bool.and_eq_true, List.all_eq_true, List.mem_range, decide_eq_true_eq]
                  constructor
                  · intro k
                    refine ⟨fun x hx => ?_, fun i hi => (k i hi).2.2⟩
                    obtain ⟨i, hi, e⟩ := get_mem po x hx
                    rw [← e]; exact (k i (by omega)).2.1
                  · intro ⟨k1, k2⟩ i hi
                    refine ⟨?_, k1 _ (getD_mem (by omega)), k2 i hi⟩
                    have := (List.all_eq_true.1 hall) _ (getD_mem (d := 0) (by omega : i < wo.length))
                    simp [inR] at this
                    rw [List.getD_eq_getElem?_getD]; exact this.1
            · simp (disch := (first | omega | (simp only [List.length_append, List.length_cons, List.length_nil, List.length_take, List.length_drop, List.length_set, List.length_replicate, List.length_singleton]; omega))) only [↓if_dpos, ↓if_dneg, ↓if_epos, ↓if_eneg, ↓if_npos, ↓if_nneg, ↓if_pos, ↓if_neg, decide_eq_true c1, decide_eq_true c2, decide_eq_false c3, Bool.not_true, Bool.false_eq_true, if_false]; rfl
    · simp (disch := (first | omega | (simp only [List.length_append, List.length_cons, List.length_nil, List.length_take, List.length_drop, List.length_set, List.length_replicate, List.length_singleton]; omega))) only [↓if_dpos, ↓if_dneg, ↓if_epos, ↓if_eneg, ↓if_npos, ↓if_nneg, ↓if_pos, ↓if_neg, decide_eq_true c1, decide_eq_false c2, Bool.not_true, Bool.false_eq_true, if_false]; rfl
  · simp (disch := (first | omega | (simp only [List.length_append, List.length_cons, List.length_nil, List.length_take, List.length_drop, List.length_set, List.length_replicate, List.length_singleton]; omega))) only [↓if_dpos, ↓if_dneg, ↓if_epos, ↓if_eneg, ↓if_npos, ↓if_nneg, ↓if_pos, ↓if_neg, decide_eq_false c1, Bool.not_true, Bool.false_eq_true, if_false]; rfl
theorem impl_IsDeal_ok (hs : List (List Int)) (le tr : Int) (tk wo po : List Int) (lf : Int) (hh : G2 hs) (h3 : tk.length ≤ 2097152) (hwo : wo.length ≤ 2097152) (hpo : po.length ≤ 2097152) : impl_IsDeal hs le tr tk wo po lf = some (dealM hs le tr tk wo po lf) := by
  have hl := hh.len
  have hf := hh.flat
  have efl : (hs ++ [tk]).flatten = hs.flatten ++ tk := by simp
  have eap := impl_AllApart_ok (hs ++ [tk]) (by simp; omega) (by rw [efl]; simp only [List.length_append]; omega)
  rw [efl] at eap
  have ecp := impl_copyRows_ok hs hh.len (fun r hr => Nat.le_trans (hh.row r hr) (by omega))
  rw [impl_IsDeal_eq, impl_InRange_ok, Option.bind_some, impl_allIn_ok wo 0 26 (by omega), Option.bind_some, dealM]
  cases hn : inR (hs.length : Int) 2 4
  · rfl
  simp [inR] at hn
  by_cases c1 : wo.length = hs.length
  · by_cases c2 : po.length = hs.length
    · simp (disch := (first | omega | (simp only [List.length_append, List.length_cons, List.length_nil, List.length_take, List.length_drop, List.length_set, List.length_replicate, List.length_singleton]; omega))) only [↓if_dpos, ↓if_dneg, ↓if_epos, ↓if_eneg, ↓if_npos, ↓if_nneg, ↓if_pos, ↓if_neg, decide_eq_true c1, decide_eq_true c2, Bool.not_true, Bool.false_eq_true, if_false, Bool.true_and]
      cases hall : wo.all (fun x => inR x 0 26)
      · simp only [Bool.not_false, if_true, Bool.false_and, Bool.and_false]
      · simp only [Bool.not_true, Bool.false_eq_true, if_false, Bool.true_and]
        have w : IntKind.i64.wrap ((hs.length : Int) - 1) = (hs.length : Int) - 1 := wrap_id (by omega) (by omega)
        have hloop : ∀ i, i ≤ po.length → impl_IsDeal_L5 hs.length po po.length i hs le tr tk wo po lf = some (inR le 0 ((hs.length : Int) - 1) && (inR tr (-1) 3 && (inR lf 0 26 && (decide (tk.length < hs.length) && (handM (hs.flatten ++ tk) && ((po.drop i).all (fun x => decide (0 ≤ x)) && (List.range hs.length).all (sizeM hs le tr tk wo po lf (sumW wo)))))))) := down (by
            rw [impl_IsDeal_L5_eq, if_neg (by rw [decide_eq_true_eq]; omega), ecp, Option.bind_some, if_pos (by simp only [List.length_singleton]; omega), eap, Option.bind_some, impl_InRange_ok, Option.bind_some, w, impl_InRange_ok, Option.bind_some, impl_InRange_ok, Option.bind_some, List.drop_of_length_le (Nat.le_refl _), List.all_nil, Bool.true_and]
            cases hand : handM (hs.flatten ++ tk)
            · simp only [Bool.not_false, if_true, Bool.false_and, Bool.and_false]
            cases h3' : inR le 0 ((hs.length : Int) - 1)
            · simp only [Bool.not_true, Bool.not_false, Bool.false_eq_true, if_true, if_false, Bool.false_and]
            cases h4' : inR tr (-1) 3
            · simp only [Bool.not_true, Bool.not_false, Bool.false_eq_true, if_true, if_false, Bool.false_and, Bool.true_and]
            cases h5' : inR lf 0 26
            · simp only [Bool.not_true, Bool.not_false, Bool.false_eq_true, if_true, if_false, Bool.false_and, Bool.true_and]
            simp only [Bool.not_true, Bool.false_eq_true, if_false, Bool.true_and]
            by_cases c3 : tk.length < hs.length
            · rw [if_neg (by rw [decide_eq_true_eq]; omega), decide_eq_true c3, Bool.true_and]
              simp [inR] at h3' h5'
              have s3 : 0 ≤ sumW wo ∧ sumW wo ≤ 104 := by
                rw [← sumC_eq hall]
                exact sumC_26 hall (by omega)
              have hin2 : ∀ i, i ≤ hs.length → impl_IsDeal_L13 hs.length hs.length i hs le tr tk wo po lf = some (((List.range hs.length).drop i).all (sizeM hs le tr tk wo po lf (sumW wo))) := down (by
                  rw [impl_IsDeal_L13_eq, if_neg (by rw [decide_eq_true_eq]; omega), List.drop_of_length_le (by simp)]; rfl) fun i hi ih => by
                have hil : (i : Int) < (hs.length : Int) := by omega
                have hw : IntKind.i64.wrap ((i : Int) + 1) = ((i + 1 : Nat) : Int) := wrap_succ hi (by omega)
                have x1 : IntKind.i64.wrap ((i : Int) - le) = (i : Int) - le := wrap_id (by omega) (by omega)
                have x2 : IntKind.i64.wrap ((i : Int) - le + (hs.length : Int)) = (i : Int) - le + (hs.length : Int) := wrap_id (by omega) (by omega)
                have x3 : IntKind.i64.wrap (lf - sumW wo) = lf - sumW wo := wrap_id (by omega) (by omega)
                have x4 : IntKind.i64.wrap (lf - sumW wo - 1) = lf - sumW wo - 1 := wrap_id (by omega) (by omega)
                rw [impl_IsDeal_L13_eq, all_range_drop _ _ _ hi]
                simp (disch := (first | omega | (simp only [List.length_append, List.length_cons, List.length_nil, List.length_take, List.length_drop, List.length_set, List.length_replicate, List.length_singleton]; omega))) only [↓if_dpos, ↓if_dneg, ↓if_epos, ↓if_eneg, ↓if_npos, ↓if_nneg, ↓if_pos, ↓if_neg, hw, Int.toNat_natCast, List.nil_append, Nat.zero_add, List.length_singleton, Option.bind_some, List.drop_zero, List.take_length, if_true, if_false, impl_sum_ok, x1, x2, x3, x4, ih]
                rw [sizeM]
                by_cases d3 : ((i : Int) - le + (hs.length : Int)).tmod (hs.length : Int) < (tk.length : Int)
                · rw [if_pos (decide_eq_true d3), if_pos d3]
                  by_cases d4 : ((hs.getD i []).length : Int) = lf - sumW wo - 1
                  · rw [if_neg (by rw [d4]; simp), decide_eq_true d4, Bool.true_and]
                  · rw [if_pos (by simpa using d4), decide_eq_false d4, Bool.false_and]
                · rw [if_neg (by rw [decide_eq_true_eq]; exact d3), if_neg d3, Int.sub_zero]
                  by_cases d4 : ((hs.getD i []).length : Int) = lf - sumW wo
                  · rw [if_neg (by rw [d4]; simp), decide_eq_true d4, Bool.true_and]
                  · rw [if_pos (by simpa using d4), decide_eq_false d4, Bool.false_and]
              exact hin2 0 (Nat.zero_le _)
            · rw [if_pos (by rw [decide_eq_true_eq]; omega), decide_eq_false c3, Bool.false_and]) fun i hi ih => by
          have hil : (i : Int) < (po.length : Int) := by omega
          have hw : IntKind.i64.wrap ((i : Int) + 1) = ((i + 1 : Nat) : Int) := wrap_succ hi (by omega)
          rw [impl_IsDeal_L5_eq]
          simp (disch := (first | omega | (simp only [List.length_append, List.length_cons, List.length_nil, List.length_take, List.length_drop, List.length_set, List.length_replicate, List.length_singleton]; omega))) only [↓if_dpos, ↓if_dneg, ↓if_epos, ↓if_eneg, ↓if_npos, ↓if_nneg, ↓if_pos, ↓if_neg, hw, Int.toNat_natCast, List.nil_append, Nat.zero_add, List.length_singleton, Option.bind_some, List.drop_zero, List.take_length, if_true, if_false, ih]
          rw [getD_drop (d := 0) hi, List.all_cons]
          by_cases d1 : po.getD i 0 < 0
          · rw [if_pos (decide_eq_true d1), decide_eq_false (by omega : ¬ 0 ≤ po.getD i 0)]; simp
          · rw [if_neg (by rw [decide_eq_true_eq]; exact d1), decide_eq_true (by omega : 0 ≤ po.getD i 0), Bool.true_and]
        have h0 := hloop 0 (Nat.zero_le _)
        rw [List.drop_zero] at h0
        exact h0
    · simp (disch := (first | omega | (simp only [List.length_append, List.length_cons, List.length_nil, List.length_take, List.length_drop, List.length_set, List.length_replicate, List.length_singleton]; omega))) only [↓if_dpos, ↓if_dneg, ↓if_epos, ↓if_eneg, ↓if_npos, ↓if_nneg, ↓if_pos, ↓if_neg, decide_eq_true c1, decide_eq_false c2, Bool.not_true, Bool.false_eq_true, if_false]; rfl
  · simp (disch := (first | omega | (simp only [List.length_append, List.length_cons, List.length_nil, List.length_take, List.length_drop, List.length_set, List.length_replicate, List.length_singleton]; omega))) only [↓if_dpos, ↓if_dneg, ↓if_epos, ↓if_eneg, ↓if_npos, ↓if_nneg, ↓if_pos, ↓if_neg, decide_eq_false c1, Bool.not_true, Bool.false_eq_true, if_false]; rfl
/-- What a valid deal is. -/
structure ValidD (hs : List (List Int)) (le tr : Int) (tk wo po : List Int) (lf : Int) : Prop where
  n1 : 2 ≤ hs.length
  n2 : hs.length ≤ 4
  won : wo.length = hs.length
  pts : po.length = hs.length
  l1 : 0 ≤ le
  l2 : le ≤ (hs.length : Int) - 1
  f1 : 0 ≤ lf
  f2 : lf ≤ 26
  trick : tk.length < hs.length
  hand : handM (hs.flatten ++ tk) = true
  wons : ∀ x ∈ wo, 0 ≤ x ∧ x ≤ 26
  ptss : ∀ x ∈ po, 0 ≤ x
theorem dealM_valid (hs : List (List Int)) (le tr : Int) (tk wo po : List Int) (lf : Int) (h : dealM hs le tr tk wo po lf = true) : ValidD hs le tr tk wo po lf := by
  simp only [dealM, Bool.and_eq_true, decide_eq_true_eq, List.all_eq_true] at h
  obtain ⟨h1, h2, h3, h4, h5, h6, h7, h8, h9, h10, h11⟩ := h
  simp [inR] at h1 h4 h6
  exact ⟨by omega, by omega, h2, h3, by omega, by omega, by omega, by omega, h7, h8, fun x hx => by have := h9 x hx; simpa [inR] using this, h10⟩
end Go.Proofs.Ytdkhomhdapoeoaa.V
