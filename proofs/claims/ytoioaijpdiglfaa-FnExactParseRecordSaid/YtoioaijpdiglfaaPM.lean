/- Plain laws over the shapes. -/
import Derived.Test.YtoioaijpdiglfaaP1
import Derived.Test.YtoioaijpdiglfaaM
set_option linter.unusedVariables false
set_option linter.unusedSimpArgs false
set_option maxRecDepth 10000
namespace Go.Proofs.Ytoioaijpdiglfaa.V
open Go
theorem laws_eqIntS_ok (l r : List Int) (hl : l.length ≤ 2097152) : laws_eqIntS l r = some (decide (l = r)) := by
  rw [laws_eqIntS_eq]
  by_cases hlen : l.length = r.length
  · rw [if_neg (by simp [hlen])]
    exact eq_loop (d := 0) (fun i => laws_eqIntS_L4 l r i) hlen (by show laws_eqIntS_L4 l r (l.length : Int) = _; rw [laws_eqIntS_L4_eq, if_neg (by simp)]) fun i hi => by
      show laws_eqIntS_L4 l r (i : Int) = _
      have hil : (i : Int) < (l.length : Int) := by omega
      have hw : IntKind.i64.wrap ((i : Int) + 1) = ((i + 1 : Nat) : Int) := wrap_succ hi (by omega)
      rw [laws_eqIntS_L4_eq]
      simp (disch := (first | omega | (simp only [List.length_append, List.length_cons, List.length_nil, List.length_take, List.length_drop, List.length_set, List.length_replicate, List.length_singleton]; omega))) only [↓if_dpos, ↓if_dneg, ↓if_epos, ↓if_eneg, ↓if_npos, ↓if_nneg, ↓if_pos, ↓if_neg, hw, Int.toNat_natCast, List.nil_append, Nat.zero_add, List.length_singleton, Option.bind_some, List.drop_zero, List.take_length, if_true, if_false, ]
      by_cases e : l.getD i 0 = r.getD i 0
      · rw [if_neg (by simpa using e), if_pos e]
      · rw [if_pos (by simpa using e), if_neg e]
  · rw [if_pos (by simp; omega), decide_eq_false (fun e => hlen (by rw [e]))]
theorem laws_eqIntS_self (l : List Int) (hb : l.length ≤ 2097152) : laws_eqIntS l l = some true := by rw [laws_eqIntS_ok l l hb]; simp
def cnt (k : Int) (n : Nat) : List Int := (List.range n).map fun (i : Nat) => k + (i : Int)
theorem cnt_length (k : Int) (n : Nat) : (cnt k n).length = n := by simp [cnt]
theorem cnt_succ (k : Int) (n : Nat) : cnt k (n + 1) = cnt k n ++ [k + (n : Int)] := by simp [cnt, List.range_succ]
theorem cnt_get {k : Int} {n i : Nat} (h : i < n) : (cnt k n).getD i 0 = k + (i : Int) := by
  rw [List.getD_eq_getElem?_getD, cnt, List.getElem?_map, List.getElem?_range h]; rfl
theorem mark_set {k : Int} {l : List Int} {i : Nat} (hi : i < l.length) : (cnt k i ++ l.drop i).set i (k + (i : Int)) = cnt k (i + 1) ++ l.drop (i + 1) := by
  have e : l.drop i = l.getD i 0 :: l.drop (i + 1) := getD_drop hi
  rw [cnt_succ, List.set_append_right _ _ (by rw [cnt_length]; exact Nat.le_refl _), cnt_length, Nat.sub_self, e, List.set_cons_zero, List.append_assoc]; rfl
theorem laws_markIntS_ok (l : List Int) (hl : l.length ≤ 2097152) (k : Int) (h0 : 0 ≤ k) (h1 : k ≤ 1152921504606846976) : laws_markIntS l k = some (k + (l.length : Int), cnt k l.length) := by
  have hr : ∀ i, i ≤ l.length → (cnt k i ++ l.drop i).length = l.length := fun i hi => by rw [List.length_append, cnt_length, List.length_drop]; omega
  have h : ∀ i, i ≤ l.length → laws_markIntS_L2 (k + (i : Int)) i (cnt k i ++ l.drop i) = some (k + (l.length : Int), cnt k l.length) := down (by
      have := hr l.length (Nat.le_refl _)
      rw [laws_markIntS_L2_eq]
      simp (disch := (first | omega | (simp only [List.length_append, List.length_cons, List.length_nil, List.length_take, List.length_drop, List.length_set, List.length_replicate, List.length_singleton]; omega))) only [↓if_dpos, ↓if_dneg, ↓if_epos, ↓if_eneg, ↓if_npos, ↓if_nneg, ↓if_pos, ↓if_neg, Int.toNat_natCast, List.nil_append, Nat.zero_add, List.length_singleton, Option.bind_some, List.drop_zero, List.take_length, if_true, if_false, ]
      rw [List.drop_of_length_le (Nat.le_refl _), List.append_nil]) fun i hi ih => by
    have := hr i (by omega)
    have hw2 : IntKind.i64.wrap (k + (i : Int) + 1) = k + ((i + 1 : Nat) : Int) := by rw [wrap_id (by omega) (by omega)]; omega
    have hil : (i : Int) < (l.length : Int) := by omega
    have hw : IntKind.i64.wrap ((i : Int) + 1) = ((i + 1 : Nat) : Int) := wrap_succ hi (by omega)
    rw [laws_markIntS_L2_eq]
    simp (disch := (first | omega | (simp only [List.length_append, List.length_cons, List.length_nil, List.length_take, List.length_drop, List.length_set, List.length_replicate, List.length_singleton]; omega))) only [↓if_dpos, ↓if_dneg, ↓if_epos, ↓if_eneg, ↓if_npos, ↓if_nneg, ↓if_pos, ↓if_neg, hw, Int.toNat_natCast, List.nil_append, Nat.zero_add, List.length_singleton, Option.bind_some, List.drop_zero, List.take_length, if_true, if_false, hw2]
    rw [mark_set hi]; exact ih
  rw [laws_markIntS_eq]
  have := h 0 (Nat.zero_le _)
  simpa [cnt] using this
theorem laws_heldIntS_ok (n : Nat) (hl : n ≤ 2097152) (k : Int) (h0 : 0 ≤ k) (h1 : k ≤ 1152921504606846976) : laws_heldIntS (cnt k n) k = some (k + (n : Int)) := by
  have hr := cnt_length k n
  have h : ∀ i, i ≤ n → laws_heldIntS_L2 (cnt k n) (k + (i : Int)) i = some (k + (n : Int)) := down (by
      rw [laws_heldIntS_L2_eq]
      simp (disch := (first | omega | (simp only [List.length_append, List.length_cons, List.length_nil, List.length_take, List.length_drop, List.length_set, List.length_replicate, List.length_singleton]; omega))) only [↓if_dpos, ↓if_dneg, ↓if_epos, ↓if_eneg, ↓if_npos, ↓if_nneg, ↓if_pos, ↓if_neg, Int.toNat_natCast, List.nil_append, Nat.zero_add, List.length_singleton, Option.bind_some, List.drop_zero, List.take_length, if_true, if_false, ]) fun i hi ih => by
    have hw : IntKind.i64.wrap ((i : Int) + 1) = ((i + 1 : Nat) : Int) := wrap_succ hi (by omega)
    have hw2 : IntKind.i64.wrap (k + (i : Int) + 1) = k + ((i + 1 : Nat) : Int) := by rw [wrap_id (by omega) (by omega)]; omega
    rw [laws_heldIntS_L2_eq]
    simp (disch := (first | omega | (simp only [List.length_append, List.length_cons, List.length_nil, List.length_take, List.length_drop, List.length_set, List.length_replicate, List.length_singleton]; omega))) only [↓if_dpos, ↓if_dneg, ↓if_epos, ↓if_eneg, ↓if_npos, ↓if_nneg, ↓if_pos, ↓if_neg, hw, hw2, Int.toNat_natCast, List.nil_append, Nat.zero_add, List.length_singleton, Option.bind_some, List.drop_zero, List.take_length, if_true, if_false, cnt_get hi]
    exact ih
  rw [laws_heldIntS_eq]
  simpa using h 0 (Nat.zero_le _)
def mkSS : List (List Int) → Int → List (List Int)
  | [], _ => []
  | r :: l, k => cnt k r.length :: mkSS l (k + (r.length : Int))
theorem mkSS_length : ∀ (l : List (List Int)) (k : Int), (mkSS l k).length = l.length
  | [], _ => rfl
  | r :: l, k => by rw [mkSS, List.length_cons, List.length_cons, mkSS_length l]
theorem tot_cons (r : List Int) (l : List (List Int)) : tot (r :: l) = r.length + tot l := by simp [tot]
theorem tot_append (a b : List (List Int)) : tot (a ++ b) = tot a + tot b := by simp [tot]
theorem mkSS_append : ∀ (a b : List (List Int)) (k : Int), mkSS (a ++ b) k = mkSS a k ++ mkSS b (k + (tot a : Int))
  | [], b, k => by simp [mkSS, tot]
  | r :: a, b, k => by
    rw [List.cons_append, mkSS, mkSS, mkSS_append a b, List.cons_append, tot_cons]
    congr 3
    omega
theorem mkSS_at {l : List (List Int)} {k : Int} {i : Nat} (hi : i < l.length) : (mkSS l k).getD i [] = cnt (k + (tot (l.take i) : Int)) (l.getD i []).length := by
  have e : l = l.take i ++ l.getD i [] :: l.drop (i + 1) := by rw [← getD_drop hi, List.take_append_drop]
  have hk : (mkSS (l.take i) k).length = i := by rw [mkSS_length]; simp; omega
  conv => lhs; rw [e, mkSS_append, List.getD_eq_getElem?_getD, List.getElem?_append_right (by omega), hk, Nat.sub_self, mkSS]
  rfl
theorem tot_take {l : List (List Int)} {i : Nat} (hi : i < l.length) : tot (l.take (i + 1)) = tot (l.take i) + (l.getD i []).length := by
  rw [take_succ_getD (d := []) hi, tot_append]; simp [tot]
theorem tot_take_le (l : List (List Int)) (i : Nat) : tot (l.take i) ≤ tot l := by
  have : tot l = tot (l.take i) + tot (l.drop i) := by rw [← tot_append, List.take_append_drop]
  omega
theorem markSS_set {k : Int} {l : List (List Int)} {i : Nat} (hi : i < l.length) : (mkSS (l.take i) k ++ l.drop i).set i (cnt (k + (tot (l.take i) : Int)) (l.getD i []).length) = mkSS (l.take (i + 1)) k ++ l.drop (i + 1) := by
  have e : l.drop i = l.getD i [] :: l.drop (i + 1) := getD_drop hi
  have hk : (mkSS (l.take i) k).length = i := by rw [mkSS_length]; simp; omega
  rw [List.set_append_right _ _ (by omega), hk, Nat.sub_self, e, List.set_cons_zero, take_succ_getD (d := []) hi, mkSS_append, List.append_assoc]; rfl
theorem getD_app {l : List (List Int)} {k : Int} {i : Nat} (hi : i < l.length) : (mkSS (l.take i) k ++ l.drop i).getD i [] = l.getD i [] := by
  have hk : (mkSS (l.take i) k).length = i := by rw [mkSS_length]; simp; omega
  rw [List.getD_eq_getElem?_getD, List.getElem?_append_right (by omega), hk, Nat.sub_self, List.getElem?_drop]; rfl
theorem fit1 {e : Nat} {t : Ty} {l : List (den t)} (h : Fit Try.prog (.sl e t) l) (hb : 8 ≤ bytesT Try.prog e) : F1 l := by
  have h : List.length l * bytesT Try.prog e ≤ 140737488351232 := h.1
  have := Nat.le_trans (Nat.mul_le_mul_left l.length hb) h
  unfold F1; omega
theorem fit2 {e e' : Nat} {t : Ty} {l : List (List (den t))} (h : Fit Try.prog (.sl e (.sl e' t)) l) (hb : 8 ≤ bytesT Try.prog e) (hb' : 8 ≤ bytesT Try.prog e') : F2 l :=
  ⟨fit1 (t := .sl e' t) h hb, fun r hr => fit1 (h.2 r hr) hb'⟩
end Go.Proofs.Ytoioaijpdiglfaa.V
