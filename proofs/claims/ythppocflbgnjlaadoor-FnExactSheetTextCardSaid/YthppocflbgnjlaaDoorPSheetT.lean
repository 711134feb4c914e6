/- Plain laws over the shapes. -/
import Derived.Test.YthppocflbgnjlaaDoorPTx
import Derived.Test.YthppocflbgnjlaaDoorFSheetText
import Derived.Test.YthppocflbgnjlaaDoorFTotalOf
import Derived.Test.YthppocflbgnjlaaDoorS1
import Derived.Test.YthppocflbgnjlaaDoorS2
import Derived.Test.YthppocflbgnjlaaDoorS3
set_option linter.unusedVariables false
set_option linter.unusedSimpArgs false
set_option maxRecDepth 10000
namespace Go.Proofs.YthppocflbgnjlaaDoor.V
open Go
/-- A round of a sheet; a sheet. -/
def roundM (p : Int) (l : List Int) : Bool := inR p 2 6 && (decide ((l.length : Int) = p) && (l.all (fun x => inR x (-1000) 1000) && decide (l.sum = 0)))
def sheetM (p : Int) (rs : List (List Int)) : Bool := rs.all (roundM p) && (inR p 2 6 && decide (rs.length ≤ 50))
theorem sum_small (l : List Int) (h : ∀ x ∈ l, -1000 ≤ x ∧ x ≤ 1000) : ∀ i, i ≤ l.length → -(1000 * (i : Int)) ≤ (l.take i).sum ∧ (l.take i).sum ≤ 1000 * (i : Int) := by
  intro i
  induction i with
  | zero => intro _; rw [List.take_zero]; exact ⟨by show -(1000 * 0) ≤ (0 : Int); omega, by show (0 : Int) ≤ 1000 * 0; omega⟩
  | succ i ih =>
    intro hi
    have := ih (by omega)
    have := h _ (getD_mem (d := 0) (by omega : i < l.length))
    rw [take_succ_getD (d := 0) (by omega), List.sum_append, List.sum_singleton]
    omega
theorem in1000 {l : List Int} (h : l.all (fun x => inR x (-1000) 1000) = true) : ∀ x ∈ l, -1000 ≤ x ∧ x ≤ 1000 := fun x hx => by
  have := List.all_eq_true.1 h x hx
  simpa [inR] using this
theorem sumW_is {l : List Int} (hl : l.length ≤ 2097152) (h : ∀ x ∈ l, -1000 ≤ x ∧ x ≤ 1000) : sumW l = l.sum := by
  have key : ∀ i, i ≤ l.length → sumW (l.take i) = (l.take i).sum := by
    intro i
    induction i with
    | zero => intro _; rfl
    | succ i ih =>
      intro hi
      have h1 := ih (by omega)
      have h2 := sum_small l h (i + 1) hi
      rw [take_succ_getD (d := 0) (by omega), List.sum_append, List.sum_singleton] at h2 ⊢
      unfold sumW at h1 ⊢
      rw [List.foldl_append, h1, List.foldl_cons, List.foldl_nil, wrap_id (by omega) (by omega)]
  have := key l.length (Nat.le_refl _)
  rw [List.take_length] at this
  exact this
theorem impl_IsRound_ok (p : Int) (l : List Int) (hl : l.length ≤ 2097152) : impl_IsRound p l = some (roundM p l) := by
  rw [impl_IsRound_eq, impl_InRange_ok, Option.bind_some, roundM]
  cases h1 : inR p 2 6 with
  | false => rw [if_neg (by decide), Bool.false_and]
  | true =>
    rw [if_pos rfl, Bool.true_and]
    by_cases h2 : (l.length : Int) = p
    · rw [if_epos h2, decide_eq_true h2, Bool.true_and, impl_allIn_ok _ _ _ (by omega), Option.bind_some]
      cases h3 : l.all (fun x => inR x (-1000) 1000) with
      | false => rw [if_neg (by decide), Bool.false_and]
      | true =>
        rw [if_pos rfl, Bool.true_and, impl_sum_ok _ (by omega), Option.bind_some, sumW_is hl (in1000 h3)]
        congr 1
    · rw [if_eneg h2, decide_eq_false h2, Bool.false_and]
theorem spec_IsRound_ok (p : Int) (l : List Int) (hl : l.length ≤ 2097152) : spec_IsRound p l = some (roundM p l) := by
  have key : ∀ i, i ≤ l.length → (l.take i).all (fun x => inR x (-1000) 1000) = true → spec_IsRound_L3 p l (l.take i).sum (i : Int) = some (roundM p l) := down (by
      intro ha
      rw [List.take_length] at ha ⊢
      rw [spec_IsRound_L3_eq, if_dneg (by omega), spec_l1In_ok, Option.bind_some, roundM, ha, Bool.true_and]
      cases h1 : inR p 2 6 with
      | false => rw [if_neg (by decide), Bool.false_and]
      | true =>
        rw [if_pos rfl, Bool.true_and]
        by_cases h2 : (l.length : Int) = p
        · rw [if_epos h2, decide_eq_true h2, Bool.true_and]; congr 1
        · rw [if_eneg h2, decide_eq_false h2, Bool.false_and]) fun i hi ih ha => by
    rw [spec_IsRound_L3_eq, if_dpos (by omega), if_pos (by omega), if_pos (by omega), Int.toNat_natCast, spec_l1In_ok, Option.bind_some]
    cases hx : inR (l.getD i 0) (-1000) 1000 with
    | false =>
      have hall : l.all (fun x => inR x (-1000) 1000) = false := by
        rw [List.all_eq_false]
        exact ⟨_, getD_mem (d := 0) hi, by rw [hx]; decide⟩
      rw [if_pos (by decide), roundM, hall, Bool.false_and, Bool.and_false, Bool.and_false]
    | true =>
      have ha2 : (l.take (i + 1)).all (fun x => inR x (-1000) 1000) = true := by
        rw [take_succ_getD (d := 0) hi, List.all_append, ha, List.all_cons, List.all_nil, hx]; rfl
      have hs := sum_small (l.take (i + 1)) (in1000 ha2) (i + 1) (by rw [List.length_take]; omega)
      rw [List.take_take, Nat.min_self, take_succ_getD (d := 0) hi, List.sum_append, List.sum_singleton] at hs
      have ih := ih ha2
      rw [take_succ_getD (d := 0) hi, List.sum_append, List.sum_singleton] at ih
      rw [if_neg (by decide), if_pos (by omega), if_pos (by omega), wrap_succ hi (by omega), wrap_id (by omega) (by omega)]
      exact ih
  rw [spec_IsRound_eq]
  exact key 0 (Nat.zero_le _) rfl
theorem impl_IsSheet_ok (p : Int) (rs : List (List Int)) (hh : G2 rs) : impl_IsSheet p rs = some (sheetM p rs) := by
  have hl := hh.len
  rw [impl_IsSheet_eq, sheetM]
  have key : ∀ i, i ≤ rs.length → impl_IsSheet_L2 p rs rs (rs.length : Int) (i : Int) = some ((rs.drop i).all (roundM p) && (inR p 2 6 && decide (rs.length ≤ 50))) := down (by
      rw [impl_IsSheet_L2_eq, if_dneg (by omega), impl_InRange_ok, Option.bind_some, List.drop_of_length_le (Nat.le_refl _), List.all_nil, Bool.true_and]
      cases h1 : inR p 2 6 with
      | false => rw [if_neg (by decide), Bool.false_and]
      | true =>
        rw [if_pos rfl, Bool.true_and]
        congr 1
        rw [Bool.eq_iff_iff, decide_eq_true_eq, decide_eq_true_eq]; omega) fun i hi ih => by
    have hr := hh.row _ (getD_mem (d := []) hi)
    rw [impl_IsSheet_L2_eq, if_dpos (by omega), if_pos (by omega), if_pos (by omega), Int.toNat_natCast, impl_IsRound_ok _ _ (by omega), Option.bind_some, wrap_succ hi (by omega), getD_drop (d := []) hi, List.all_cons]
    cases roundM p (rs.getD i []) with
    | false => rw [if_pos (by decide), Bool.false_and, Bool.false_and]
    | true => rw [if_neg (by decide), Bool.true_and]; exact ih
  exact key 0 (Nat.zero_le _)
theorem spec_IsSheet_ok (p : Int) (rs : List (List Int)) (hh : G2 rs) : spec_IsSheet p rs = some (sheetM p rs) := by
  have hl := hh.len
  rw [spec_IsSheet_eq, sheetM]
  have key : ∀ i, i ≤ rs.length → spec_IsSheet_L2 p rs (i : Int) = some ((rs.drop i).all (roundM p) && (inR p 2 6 && decide (rs.length ≤ 50))) := down (by
      rw [spec_IsSheet_L2_eq, if_dneg (by omega), spec_l1In_ok, Option.bind_some, List.drop_of_length_le (Nat.le_refl _), List.all_nil, Bool.true_and]
      cases h1 : inR p 2 6 with
      | false => rw [if_neg (by decide), Bool.false_and]
      | true =>
        rw [if_pos rfl, Bool.true_and]
        congr 1
        rw [Bool.eq_iff_iff, decide_eq_true_eq, decide_eq_true_eq]; omega) fun i hi ih => by
    have hr := hh.row _ (getD_mem (d := []) hi)
    rw [spec_IsSheet_L2_eq, if_dpos (by omega), if_pos (by omega), if_pos (by omega), Int.toNat_natCast, spec_IsRound_ok _ _ (by omega), Option.bind_some, wrap_succ hi (by omega), getD_drop (d := []) hi, List.all_cons]
    cases roundM p (rs.getD i []) with
    | false => rw [if_pos (by decide), Bool.false_and, Bool.false_and]
    | true => rw [if_neg (by decide), Bool.true_and]; exact ih
  exact key 0 (Nat.zero_le _)
theorem sheet_row {p : Int} {rs : List (List Int)} (h : sheetM p rs = true) {r : List Int} (hr : r ∈ rs) : (r.length : Int) = p := by
  rw [sheetM, Bool.and_eq_true, List.all_eq_true] at h
  have := h.1 r hr
  rw [roundM, Bool.and_eq_true, Bool.and_eq_true] at this
  exact of_decide_eq_true this.2.1
theorem sheet_p {p : Int} {rs : List (List Int)} (h : sheetM p rs = true) : 2 ≤ p ∧ p ≤ 6 := by
  rw [sheetM, Bool.and_eq_true, Bool.and_eq_true] at h
  simpa [inR] using h.2.1
def colM (rs : List (List Int)) (w : Nat) : List Int := rs.map fun r => r.getD w 0
theorem colM_get {rs : List (List Int)} {w i : Nat} (h : i < rs.length) : (colM rs w).getD i 0 = (rs.getD i []).getD w 0 := by
  rw [colM, List.getD_eq_getElem?_getD (l := rs.map _), List.getElem?_map, List.getElem?_eq_getElem h, List.getD_eq_getElem?_getD (l := rs), List.getElem?_eq_getElem h]; rfl
theorem colM_length (rs : List (List Int)) (w : Nat) : (colM rs w).length = rs.length := by simp [colM]
theorem sumW_take {l : List Int} {i : Nat} (h : i < l.length) : sumW (l.take (i + 1)) = IntKind.i64.wrap (sumW (l.take i) + l.getD i 0) := by
  unfold sumW
  rw [foldl_take (d := 0) h]
theorem impl_TotalOf_ok {p : Int} {rs : List (List Int)} (hh : G2 rs) (h : sheetM p rs = true) {w : Nat} (hw : (w : Int) < p) : impl_TotalOf p rs (w : Int) = some (sumW (colM rs w)) := by
  have hl := hh.len
  have hp := sheet_p h
  have hcl := colM_length rs w
  rw [impl_TotalOf_eq, impl_IsSheet_ok _ _ hh, Option.bind_some, h, if_neg (by decide), wrap_id (by omega) (by omega), impl_InRange_ok, Option.bind_some, show inR (w : Int) 0 (p - 1) = true by simp [inR]; omega, if_neg (by decide)]
  have key : ∀ i, i ≤ rs.length → impl_TotalOf_L5 (w : Int) (sumW ((colM rs w).take i)) rs (rs.length : Int) (i : Int) = some (sumW (colM rs w)) := down (by
      rw [impl_TotalOf_L5_eq, if_dneg (by omega), List.take_of_length_le (by omega)]) fun i hi ih => by
    have hr := sheet_row h (getD_mem (d := []) hi)
    rw [impl_TotalOf_L5_eq, if_dpos (by omega), if_pos (by omega), if_pos (by omega), Int.toNat_natCast, if_pos (by omega), if_pos (by omega), Int.toNat_natCast, wrap_succ hi (by omega), ← colM_get hi, ← sumW_take (by omega)]
    exact ih
  exact key 0 (Nat.zero_le _)
theorem spec_TotalOf_ok {p : Int} {rs : List (List Int)} (hh : G2 rs) (h : sheetM p rs = true) {w : Nat} (hw : (w : Int) < p) : spec_TotalOf p rs (w : Int) = some (sumW (colM rs w)) := by
  have hl := hh.len
  have hp := sheet_p h
  have hcl := colM_length rs w
  have key : ∀ i, i ≤ rs.length → spec_TotalOf_L3 p rs (w : Int) (sumW ((colM rs w).take i)) (i : Int) = some (sumW (colM rs w)) := down (by
      rw [spec_TotalOf_L3_eq, if_dneg (by omega), List.take_of_length_le (by omega)]) fun i hi ih => by
    have hr := sheet_row h (getD_mem (d := []) hi)
    rw [spec_TotalOf_L3_eq, if_dpos (by omega), spec_IsSheet_ok _ _ hh, Option.bind_some, if_pos h, wrap_id (x := p - 1) (by omega) (by omega), spec_l1In_ok, Option.bind_some, if_pos (show inR (w : Int) 0 (p - 1) = true by simp [inR]; omega), if_pos (by omega), if_pos (by omega), Int.toNat_natCast, if_pos (by omega), if_pos (by omega), Int.toNat_natCast, wrap_succ hi (by omega), ← colM_get hi, ← sumW_take (by omega)]
    exact ih
  rw [spec_TotalOf_eq]
  exact key 0 (Nat.zero_le _)
def totalsM (p : Nat) (rs : List (List Int)) : List Int := (List.range p).map fun w => sumW (colM rs w)
theorem totalsM_get {p i : Nat} (rs : List (List Int)) (h : i < p) : (totalsM p rs).getD i 0 = sumW (colM rs i) := by
  rw [totalsM, List.getD_eq_getElem?_getD, List.getElem?_map, List.getElem?_range h]; rfl
theorem totalsM_length (p : Nat) (rs : List (List Int)) : (totalsM p rs).length = p := by simp [totalsM]
theorem sumW_i64 (l : List Int) : I64 (sumW l) := by
  have key : ∀ (l : List Int) (n : Int), I64 n → I64 (l.foldl (fun n x => IntKind.i64.wrap (n + x)) n) := by
    intro l
    induction l with
    | nil => intro n h; exact h
    | cons c l ih => intro n _; refine ih _ ?_; show I64 (IntKind.i64.wrap (n + c)); rw [IntKind.wrap_i64]; exact ⟨by omega, by omega⟩
  exact key l 0 ⟨by omega, by omega⟩
theorem totals_i64 (p : Nat) (rs : List (List Int)) : ∀ x ∈ totalsM p rs, I64 x := fun x hx => by
  obtain ⟨w, _, rfl⟩ := List.mem_map.1 hx
  exact sumW_i64 _
def sheetB (p : Int) (rs : List (List Int)) : ByteArray := if sheetM p rs = true then joinB (numsM (totalsM p.toNat rs)) (ByteArray.mk #[32]) else ByteArray.mk #[]
theorem impl_SheetText_ok (p : Int) (rs : List (List Int)) (hh : G2 rs) : impl_SheetText p rs = some (sheetB p rs) := by
  rw [impl_SheetText_eq, impl_IsSheet_ok _ _ hh, Option.bind_some, sheetB]
  cases h : sheetM p rs with
  | false => rw [if_pos (by decide), if_neg (by decide)]
  | true =>
    have hp := sheet_p h
    obtain ⟨q, rfl⟩ : ∃ q : Nat, p = (q : Int) := ⟨p.toNat, by omega⟩
    have hn := totalsM_length q rs
    rw [if_neg (by decide), if_pos rfl, Int.toNat_natCast]
    have key : ∀ i, i ≤ q → impl_SheetText_L5 (q : Int) rs (q : Int) (i : Int) ((totalsM q rs).take i) = some (joinB (numsM (totalsM q rs)) (ByteArray.mk #[32])) := down (by
        rw [impl_SheetText_L5_eq, if_dneg (by omega), List.take_of_length_le (by omega), impl_numbersText_ok _ (totals_i64 q rs) (by omega) (by decide), Option.bind_some]) fun i hi ih => by
      rw [impl_SheetText_L5_eq, if_dpos (by omega), impl_TotalOf_ok hh h (by omega), Option.bind_some, if_pos (by rw [List.length_take, List.length_singleton]; omega), wrap_succ hi (by omega), ← totalsM_get rs hi, ← take_succ_getD (by omega)]
      exact ih
    exact key 0 (Nat.zero_le _)
theorem spec_SheetText_ok (p : Int) (rs : List (List Int)) (hh : G2 rs) : spec_SheetText p rs = some (sheetB p rs) := by
  rw [spec_SheetText_eq, spec_IsSheet_ok _ _ hh, Option.bind_some, sheetB]
  cases h : sheetM p rs with
  | false => rw [if_pos (by decide), if_neg (by decide)]
  | true =>
    have hp := sheet_p h
    obtain ⟨q, rfl⟩ : ∃ q : Nat, p = (q : Int) := ⟨p.toNat, by omega⟩
    have hn := totalsM_length q rs
    have hn2 := numsM_length (totalsM q rs)
    have z1 : (ByteArray.mk #[32]).size = 1 := rfl
    rw [if_neg (by decide), if_pos rfl, Int.toNat_natCast]
    have key : ∀ i, i ≤ q → spec_SheetText_L5 (q : Int) rs (joinB ((numsM (totalsM q rs)).take i) (ByteArray.mk #[32])) (i : Int) = some (joinB (numsM (totalsM q rs)) (ByteArray.mk #[32])) := down (by
        rw [spec_SheetText_L5_eq, if_dneg (by omega), List.take_of_length_le (by omega)]) fun i hi ih => by
      have hsz := joinB_size 20 (ByteArray.mk #[32]) ((numsM (totalsM q rs)).take i) fun x hx => numsM_small (totals_i64 q rs) x (List.mem_of_mem_take hx)
      rw [List.length_take, z1] at hsz
      have hi64 := sumW_i64 (colM rs i)
      have hit := itoaB_size hi64
      rw [joinB_take (by omega), numsM_get (by omega), totalsM_get rs hi] at ih
      rw [spec_SheetText_L5_eq, if_dpos (by omega), wrap_succ hi (by omega)]
      by_cases ci : i = 0
      · rw [if_pos ci] at ih
        have hnil : joinB ((numsM (totalsM q rs)).take i) (ByteArray.mk #[32]) = ByteArray.mk #[] := by rw [ci]; rfl
        have happ : ∀ s : ByteArray, ByteArray.mk #[] ++ s = s := fun s => by rw [mk_list s]; exact mkB_app [] _
        rw [hnil] at hsz ⊢
        rw [if_dneg (by omega), spec_TotalOf_ok hh h (by omega), Option.bind_some, spec_FormatInt_ok hi64, Option.bind_some, if_pos (by show 0 + _ ≤ _; omega), happ]
        exact ih
      · rw [if_neg ci] at ih
        rw [if_dpos (by omega), if_pos (by rw [z1]; omega), spec_TotalOf_ok hh h (by omega), Option.bind_some, spec_FormatInt_ok hi64, Option.bind_some, if_pos (by rw [ByteArray.size_append, z1]; omega)]
        exact ih
    exact key 0 (Nat.zero_le _)
end Go.Proofs.YthppocflbgnjlaaDoor.V
