/- Plain laws over the shapes. -/
import Derived.Test.YthppocflbgnjlaaDoorP1
import Derived.Test.YthppocflbgnjlaaDoorM
set_option linter.unusedVariables false
set_option linter.unusedSimpArgs false
set_option maxRecDepth 10000
namespace Go.Proofs.YthppocflbgnjlaaDoor.V
open Go
theorem laws_szIntS_ok (l : List Int) (b : Int) (hl : l.length ≤ 140737488355328) (hb : 0 ≤ b) (hb' : b ≤ 1048576) : laws_szIntS l b = some (if b < l.length then -1 else b - l.length) := by
  rw [laws_szIntS_eq, wrap_id (by omega) (by omega)]
  by_cases h : b < l.length
  · rw [if_pos (by simpa using (by omega : b - (l.length : Int) < 0)), if_pos h]
  · rw [if_neg (by simpa using (by omega : ¬ b - (l.length : Int) < 0)), if_neg h]
theorem laws_szIntS_sp (l : List Int) (b : Int) (hl : F1 l) (hb : 0 ≤ b) (hb' : b ≤ 1048576) : ∃ c, laws_szIntS l b = some c ∧ (c < 0 ∨ (0 ≤ c ∧ c ≤ b ∧ B1 b l)) := by
  unfold F1 at hl
  refine ⟨_, laws_szIntS_ok l b (by omega) hb hb', ?_⟩
  unfold B1
  split <;> omega
theorem laws_toIntS_ok (l : List Int) (hl : l.length ≤ 2097152) : laws_toIntS l = some l := by
  have h : ∀ i, i ≤ l.length → ∀ s : List Int, s.length = l.length → s.take i = l.take i → laws_toIntS_L3 l i s = some l := down (by
      intro s h1 h2
      rw [List.take_of_length_le (by omega), List.take_of_length_le (Nat.le_refl _)] at h2
      rw [laws_toIntS_L3_eq]
      simp (disch := (first | omega | (simp only [List.length_append, List.length_cons, List.length_nil, List.length_take, List.length_drop, List.length_set, List.length_replicate, List.length_singleton]; omega))) only [↓if_dpos, ↓if_dneg, ↓if_epos, ↓if_eneg, ↓if_npos, ↓if_nneg, ↓if_pos, ↓if_neg, Int.toNat_natCast, List.nil_append, Nat.zero_add, List.length_singleton, Option.bind_some, List.drop_zero, List.take_length, if_true, if_false, ]
      rw [h2]) fun i hi ih s h1 h2 => by
    have hil : (i : Int) < (l.length : Int) := by omega
    have hw : IntKind.i64.wrap ((i : Int) + 1) = ((i + 1 : Nat) : Int) := wrap_succ hi (by omega)
    rw [laws_toIntS_L3_eq]
    simp (disch := (first | omega | (simp only [List.length_append, List.length_cons, List.length_nil, List.length_take, List.length_drop, List.length_set, List.length_replicate, List.length_singleton]; omega))) only [↓if_dpos, ↓if_dneg, ↓if_epos, ↓if_eneg, ↓if_npos, ↓if_nneg, ↓if_pos, ↓if_neg, hw, Int.toNat_natCast, List.nil_append, Nat.zero_add, List.length_singleton, Option.bind_some, List.drop_zero, List.take_length, if_true, if_false, ]
    exact ih _ (by simpa using h1) (copy_set hi h1 h2)
  rw [laws_toIntS_eq]
  simp (disch := (first | omega | (simp only [List.length_append, List.length_cons, List.length_nil, List.length_take, List.length_drop, List.length_set, List.length_replicate, List.length_singleton]; omega))) only [↓if_dpos, ↓if_dneg, ↓if_epos, ↓if_eneg, ↓if_npos, ↓if_nneg, ↓if_pos, ↓if_neg, Int.toNat_natCast, List.nil_append, Nat.zero_add, List.length_singleton, Option.bind_some, List.drop_zero, List.take_length, if_true, if_false]
  exact h 0 (Nat.zero_le _) _ (by simp) rfl
theorem laws_eqIntS_ok (l r : List Int) (hl : l.length ≤ 2097152) : laws_eqIntS l r = some (decide (l = r)) := by
  rw [laws_eqIntS_eq]
  by_cases hlen : l.length = r.length
  · rw [if_neg (by simp [hlen])]
    exact eq_loop (d := 0) (fun i => laws_eqIntS_L4 l r i) hlen (by show laws_eqIntS_L4 l r (l.length : Int) = _; rw [laws_eqIntS_L4_eq, if_neg (by simp)]) fun i hi => by
      show laws_eqIntS_L4 l r (i : Int) = _
      have hil : (i : Int) < (l.length : Int) := by omega
      have hw : IntKind.i64.wrap ((i : Int) + 1) = ((i + 1 : Nat) : Int) := wrap_succ hi (by omega)
      rw [laws_eqIntS_L4_eq]
      simp (disch := (first | omega | (simp only [List.length_append, List.length_cons, List.length_nil, List.length_take, List.length_drop, List.length_set, List.length_replicate, List.length_singleton]; omega))) only [↓if_dpos, ↓if_dneg, ↓if_epos, ↓if_eneg, ↓if_npos, ↓if_nneg, ↓if_pos, ↓if_neg, hw, Int.toNat_natCast, List.nil_append, Nat.zero_add, List.length_singleton, Option.bind_some, List.drop_zero, List.take_length, if_true, if_false, ]
      by_cases e : l.getD i 0 = r.getD i 0
      · rw [if_neg (by simpa using e), if_pos e]
      · rw [if_pos (by simpa using e), if_neg e]
  · rw [if_pos (by simp; omega), decide_eq_false (fun e => hlen (by rw [e]))]
theorem laws_eqIntS_self (l : List Int) (hb : l.length ≤ 2097152) : laws_eqIntS l l = some true := by rw [laws_eqIntS_ok l l hb]; simp
theorem laws_szIntSS_sp (l : List (List Int)) (b : Int) (hl : F2 l) (hb : 0 ≤ b) (hb' : b ≤ 1048576) : ∃ c, laws_szIntSS l b = some c ∧ (c < 0 ∨ (0 ≤ c ∧ c ≤ b ∧ B2 b l)) := by
  have hl1 := hl.1
  rw [laws_szIntSS_eq, wrap_id (by omega) (by omega)]
  by_cases h : b - (l.length : Int) < 0
  · exact ⟨-1, by rw [if_pos (decide_eq_true h)], .inl (by decide)⟩
  rw [if_neg (by simpa using h)]
  have key : ∀ i, i ≤ l.length → ∀ c : Int, 0 ≤ c → c ≤ b → ∃ c', laws_szIntSS_L5 l c i = some c' ∧ (c' < 0 ∨ (0 ≤ c' ∧ c' ≤ b ∧ ∀ r ∈ l.drop i, (r.length : Int) ≤ b)) := down (by
      intro c h1 h2
      rw [laws_szIntSS_L5_eq, if_neg (by simp)]
      exact ⟨c, rfl, .inr ⟨h1, h2, by simp⟩⟩) fun i hi ih c h1 h2 => by
    obtain ⟨c1, e1, g⟩ := laws_szIntS_sp (l.getD i []) c (hl.2 _ (getD_mem hi)) h1 (by omega)
    rw [laws_szIntSS_L5_eq, if_pos (by simpa using hi), if_pos (by omega), if_pos (by omega), wrap_succ hi (by omega), Int.toNat_natCast, e1, Option.bind_some]
    rcases g with g | ⟨g1, g2, g3⟩
    · exact ⟨-1, by rw [if_pos (decide_eq_true g)], .inl (by decide)⟩
    rw [if_neg (by simp; omega)]
    obtain ⟨c2, e2, g⟩ := ih c1 g1 (by omega)
    refine ⟨c2, e2, g.imp id fun ⟨k1, k2, k3⟩ => ⟨k1, k2, ?_⟩⟩
    rw [getD_drop (d := []) hi]
    intro r hr
    rcases List.mem_cons.1 hr with e | e
    · rw [e]; exact Int.le_trans g3 h2
    · exact k3 r e
  obtain ⟨c', e, g⟩ := key 0 (Nat.zero_le _) (b - l.length) (by omega) (by omega)
  rw [Int.natCast_zero] at e
  exact ⟨c', e, g.imp id fun ⟨k1, k2, k3⟩ => ⟨k1, k2, by omega, by simpa using k3⟩⟩
theorem laws_toIntSS_ok (l : List (List Int)) (hb : G2 l) : laws_toIntSS l = some l := by
  have hl := hb.len
  have h : ∀ i, i ≤ l.length → ∀ s : List (List Int), s.length = l.length → s.take i = l.take i → laws_toIntSS_L3 l i s = some l := down (by
      intro s h1 h2
      rw [List.take_of_length_le (by omega), List.take_of_length_le (Nat.le_refl _)] at h2
      rw [laws_toIntSS_L3_eq]
      simp (disch := (first | omega | (simp only [List.length_append, List.length_cons, List.length_nil, List.length_take, List.length_drop, List.length_set, List.length_replicate, List.length_singleton]; omega))) only [↓if_dpos, ↓if_dneg, ↓if_epos, ↓if_eneg, ↓if_npos, ↓if_nneg, ↓if_pos, ↓if_neg, Int.toNat_natCast, List.nil_append, Nat.zero_add, List.length_singleton, Option.bind_some, List.drop_zero, List.take_length, if_true, if_false, ]
      rw [h2]) fun i hi ih s h1 h2 => by
    have e := laws_toIntS_ok _ (hb.row _ (getD_mem (d := []) hi))
    have hil : (i : Int) < (l.length : Int) := by omega
    have hw : IntKind.i64.wrap ((i : Int) + 1) = ((i + 1 : Nat) : Int) := wrap_succ hi (by omega)
    rw [laws_toIntSS_L3_eq]
    simp (disch := (first | omega | (simp only [List.length_append, List.length_cons, List.length_nil, List.length_take, List.length_drop, List.length_set, List.length_replicate, List.length_singleton]; omega))) only [↓if_dpos, ↓if_dneg, ↓if_epos, ↓if_eneg, ↓if_npos, ↓if_nneg, ↓if_pos, ↓if_neg, hw, Int.toNat_natCast, List.nil_append, Nat.zero_add, List.length_singleton, Option.bind_some, List.drop_zero, List.take_length, if_true, if_false, e]
    exact ih _ (by simpa using h1) (copy_set hi h1 h2)
  rw [laws_toIntSS_eq]
  simp (disch := (first | omega | (simp only [List.length_append, List.length_cons, List.length_nil, List.length_take, List.length_drop, List.length_set, List.length_replicate, List.length_singleton]; omega))) only [↓if_dpos, ↓if_dneg, ↓if_epos, ↓if_eneg, ↓if_npos, ↓if_nneg, ↓if_pos, ↓if_neg, Int.toNat_natCast, List.nil_append, Nat.zero_add, List.length_singleton, Option.bind_some, List.drop_zero, List.take_length, if_true, if_false]
  exact h 0 (Nat.zero_le _) _ (by simp) rfl
theorem laws_eqIntSS_self (l : List (List Int)) (hb : G2 l) : laws_eqIntSS l l = some true := by
  have hl := hb.len
  rw [laws_eqIntSS_eq, if_neg (by simp)]
  have h : ∀ i, i ≤ l.length → laws_eqIntSS_L4 l l i = some true := down (by
      rw [laws_eqIntSS_L4_eq]
      simp (disch := (first | omega | (simp only [List.length_append, List.length_cons, List.length_nil, List.length_take, List.length_drop, List.length_set, List.length_replicate, List.length_singleton]; omega))) only [↓if_dpos, ↓if_dneg, ↓if_epos, ↓if_eneg, ↓if_npos, ↓if_nneg, ↓if_pos, ↓if_neg, Int.toNat_natCast, List.nil_append, Nat.zero_add, List.length_singleton, Option.bind_some, List.drop_zero, List.take_length, if_true, if_false, ]) fun i hi ih => by
    have e := laws_eqIntS_self _ (hb.row _ (getD_mem (d := []) hi))
    have hil : (i : Int) < (l.length : Int) := by omega
    have hw : IntKind.i64.wrap ((i : Int) + 1) = ((i + 1 : Nat) : Int) := wrap_succ hi (by omega)
    rw [laws_eqIntSS_L4_eq]
    simp (disch := (first | omega | (simp only [List.length_append, List.length_cons, List.length_nil, List.length_take, List.length_drop, List.length_set, List.length_replicate, List.length_singleton]; omega))) only [↓if_dpos, ↓if_dneg, ↓if_epos, ↓if_eneg, ↓if_npos, ↓if_nneg, ↓if_pos, ↓if_neg, hw, Int.toNat_natCast, List.nil_append, Nat.zero_add, List.length_singleton, Option.bind_some, List.drop_zero, List.take_length, if_true, if_false, e]
    rw [if_neg (by simp)]
    exact ih
  exact h 0 (Nat.zero_le _)
def cnt (k : Int) (n : Nat) : List Int := (List.range n).map fun (i : Nat) => k + (i : Int)
theorem cnt_length (k : Int) (n : Nat) : (cnt k n).length = n := by simp [cnt]
theorem cnt_succ (k : Int) (n : Nat) : cnt k (n + 1) = cnt k n ++ [k + (n : Int)] := by simp [cnt, List.range_succ]
theorem cnt_get {k : Int} {n i : Nat} (h : i < n) : (cnt k n).getD i 0 = k + (i : Int) := by
  rw [List.getD_eq_getElem?_getD, cnt, List.getElem?_map, List.getElem?_range h]; rfl
theorem mark_set {k : Int} {l : List Int} {i : Nat} (hi : i < l.length) : (cnt k i ++ l.drop i).set i (k + (i : Int)) = cnt k (i + 1) ++ l.drop (i + 1) := by
  have e : l.drop i = l.getD i 0 :: l.drop (i + 1) := getD_drop hi
  rw [cnt_succ, List.set_append_right _ _ (by rw [cnt_length]; exact Nat.le_refl _), cnt_length, Nat.sub_self, e, List.set_cons_zero, List.append_assoc]; rfl
def mkSS : List (List Int) → Int → List (List Int)
  | [], _ => []
  | r :: l, k => cnt k r.length :: mkSS l (k + (r.length : Int))
theorem mkSS_length : ∀ (l : List (List Int)) (k : Int), (mkSS l k).length = l.length
  | [], _ => rfl
  | r :: l, k => by rw [mkSS, List.length_cons, List.length_cons, mkSS_length l]
theorem tot_cons (r : List Int) (l : List (List Int)) : tot (r :: l) = r.length + tot l := by simp [tot]
theorem tot_append (a b : List (List Int)) : tot (a ++ b) = tot a + tot b := by simp [tot]
theorem mkSS_append : ∀ (a b : List (List Int)) (k : Int), mkSS (a ++ b) k = mkSS a k ++ mkSS b (k + (tot a : Int))
  | [], b, k => by simp [mkSS, tot]
  | r :: a, b, k => by
    rw [List.cons_append, mkSS, mkSS, mkSS_append a b, List.cons_append, tot_cons]
    congr 3
    omega
theorem mkSS_at {l : List (List Int)} {k : Int} {i : Nat} (hi : i < l.length) : (mkSS l k).getD i [] = cnt (k + (tot (l.take i) : Int)) (l.getD i []).length := by
  have e : l = l.take i ++ l.getD i [] :: l.drop (i + 1) := by rw [← getD_drop hi, List.take_append_drop]
  have hk : (mkSS (l.take i) k).length = i := by rw [mkSS_length]; simp; omega
  conv => lhs; rw [e, mkSS_append, List.getD_eq_getElem?_getD, List.getElem?_append_right (by omega), hk, Nat.sub_self, mkSS]
  rfl
theorem tot_take {l : List (List Int)} {i : Nat} (hi : i < l.length) : tot (l.take (i + 1)) = tot (l.take i) + (l.getD i []).length := by
  rw [take_succ_getD (d := []) hi, tot_append]; simp [tot]
theorem tot_take_le (l : List (List Int)) (i : Nat) : tot (l.take i) ≤ tot l := by
  have : tot l = tot (l.take i) + tot (l.drop i) := by rw [← tot_append, List.take_append_drop]
  omega
theorem markSS_set {k : Int} {l : List (List Int)} {i : Nat} (hi : i < l.length) : (mkSS (l.take i) k ++ l.drop i).set i (cnt (k + (tot (l.take i) : Int)) (l.getD i []).length) = mkSS (l.take (i + 1)) k ++ l.drop (i + 1) := by
  have e : l.drop i = l.getD i [] :: l.drop (i + 1) := getD_drop hi
  have hk : (mkSS (l.take i) k).length = i := by rw [mkSS_length]; simp; omega
  rw [List.set_append_right _ _ (by omega), hk, Nat.sub_self, e, List.set_cons_zero, take_succ_getD (d := []) hi, mkSS_append, List.append_assoc]; rfl
theorem getD_app {l : List (List Int)} {k : Int} {i : Nat} (hi : i < l.length) : (mkSS (l.take i) k ++ l.drop i).getD i [] = l.getD i [] := by
  have hk : (mkSS (l.take i) k).length = i := by rw [mkSS_length]; simp; omega
  rw [List.getD_eq_getElem?_getD, List.getElem?_append_right (by omega), hk, Nat.sub_self, List.getElem?_drop]; rfl
theorem fit1 {e : Nat} {t : Ty} {l : List (den t)} (h : Fit Tryd.prog (.sl e t) l) (hb : 8 ≤ bytesT Tryd.prog e) : F1 l := by
  have h : List.length l * bytesT Tryd.prog e ≤ 140737488351232 := h.1
  have := Nat.le_trans (Nat.mul_le_mul_left l.length hb) h
  unfold F1; omega
theorem fit2 {e e' : Nat} {t : Ty} {l : List (List (den t))} (h : Fit Tryd.prog (.sl e (.sl e' t)) l) (hb : 8 ≤ bytesT Tryd.prog e) (hb' : 8 ≤ bytesT Tryd.prog e') : F2 l :=
  ⟨fit1 (t := .sl e' t) h hb, fun r hr => fit1 (h.2 r hr) hb'⟩
theorem laws_szRules_sp (a0_0 : Int) (a0_1 : Int) (a0_2 : Bool) (a0_3 : Bool) (a0_4 : List Int) (a0_5 : List Int) (a0_6 : Int) (a0_7 : Int) (a1 : Int) (fa0_4 : F1 a0_4) (fa0_5 : F1 a0_5) (hb : 0 ≤ a1) (hb' : a1 ≤ 1048576) :
    ∃ c, laws_szRules a0_0 a0_1 a0_2 a0_3 a0_4 a0_5 a0_6 a0_7 a1 = some c ∧ (c < 0 ∨ (0 ≤ c ∧ c ≤ a1 ∧ B1 a1 a0_4 ∧ B1 a1 a0_5)) := by
  rw [laws_szRules_eq]
  obtain ⟨c1, e1, h⟩ := laws_szIntS_sp a0_4 a1 fa0_4 (by omega) (by omega)
  rw [e1, Option.bind_some]
  rcases h with h | ⟨p1, q1, ra0_4⟩
  · exact ⟨-1, by rw [if_pos (decide_eq_true h)], .inl (by decide)⟩
  rw [if_neg (by simp; omega)]
  obtain ⟨c2, e2, h⟩ := laws_szIntS_sp a0_5 c1 fa0_5 (by omega) (by omega)
  rw [e2, Option.bind_some]
  rcases h with h | ⟨p2, q2, ra0_5⟩
  · exact ⟨-1, by rw [if_pos (decide_eq_true h)], .inl (by decide)⟩
  rw [if_neg (by simp; omega)]
  exact ⟨_, rfl, .inr ⟨by omega, by omega, ra0_4.mono (by omega), ra0_5.mono (by omega)⟩⟩

theorem laws_szGame_sp (a0_0 : Int) (a0_1 : Int) (a0_2 : Bool) (a0_3 : Bool) (a0_4 : List Int) (a0_5 : List Int) (a0_6 : Int) (a0_7 : Int) (a0_8 : List (List Int)) (a0_9 : List Int) (a0_10 : List Int) (a0_11 : Int) (a0_12 : Int) (a0_13 : Int) (a1 : Int) (fa0_4 : F1 a0_4) (fa0_5 : F1 a0_5) (fa0_8 : F2 a0_8) (fa0_9 : F1 a0_9) (fa0_10 : F1 a0_10) (hb : 0 ≤ a1) (hb' : a1 ≤ 1048576) :
    ∃ c, laws_szGame a0_0 a0_1 a0_2 a0_3 a0_4 a0_5 a0_6 a0_7 a0_8 a0_9 a0_10 a0_11 a0_12 a0_13 a1 = some c ∧ (c < 0 ∨ (0 ≤ c ∧ c ≤ a1 ∧ B1 a1 a0_4 ∧ B1 a1 a0_5 ∧ B2 a1 a0_8 ∧ B1 a1 a0_9 ∧ B1 a1 a0_10)) := by
  rw [laws_szGame_eq]
  obtain ⟨c1, e1, h⟩ := laws_szRules_sp a0_0 a0_1 a0_2 a0_3 a0_4 a0_5 a0_6 a0_7 a1 fa0_4 fa0_5 (by omega) (by omega)
  rw [e1, Option.bind_some]
  rcases h with h | ⟨p1, q1, ra0_4, ra0_5⟩
  · exact ⟨-1, by rw [if_pos (decide_eq_true h)], .inl (by decide)⟩
  rw [if_neg (by simp; omega)]
  obtain ⟨c2, e2, h⟩ := laws_szIntSS_sp a0_8 c1 fa0_8 (by omega) (by omega)
  rw [e2, Option.bind_some]
  rcases h with h | ⟨p2, q2, ra0_8⟩
  · exact ⟨-1, by rw [if_pos (decide_eq_true h)], .inl (by decide)⟩
  rw [if_neg (by simp; omega)]
  obtain ⟨c3, e3, h⟩ := laws_szIntS_sp a0_9 c2 fa0_9 (by omega) (by omega)
  rw [e3, Option.bind_some]
  rcases h with h | ⟨p3, q3, ra0_9⟩
  · exact ⟨-1, by rw [if_pos (decide_eq_true h)], .inl (by decide)⟩
  rw [if_neg (by simp; omega)]
  obtain ⟨c4, e4, h⟩ := laws_szIntS_sp a0_10 c3 fa0_10 (by omega) (by omega)
  rw [e4, Option.bind_some]
  rcases h with h | ⟨p4, q4, ra0_10⟩
  · exact ⟨-1, by rw [if_pos (decide_eq_true h)], .inl (by decide)⟩
  rw [if_neg (by simp; omega)]
  exact ⟨_, rfl, .inr ⟨by omega, by omega, ra0_4.mono (by omega), ra0_5.mono (by omega), ra0_8.mono (by omega), ra0_9.mono (by omega), ra0_10.mono (by omega)⟩⟩

theorem laws_toRules_ok (a0_0 : Int) (a0_1 : Int) (a0_2 : Bool) (a0_3 : Bool) (a0_4 : List Int) (a0_5 : List Int) (a0_6 : Int) (a0_7 : Int) (ga0_4 : a0_4.length ≤ 2097152) (ga0_5 : a0_5.length ≤ 2097152) : laws_toRules a0_0 a0_1 a0_2 a0_3 a0_4 a0_5 a0_6 a0_7 = some (a0_0, a0_1, a0_2, a0_3, a0_4, a0_5, a0_6, a0_7) := by
  rw [laws_toRules_eq, laws_toIntS_ok a0_4 ga0_4, Option.bind_some, laws_toIntS_ok a0_5 ga0_5, Option.bind_some]
  first | done | rfl

theorem laws_toGame_ok (a0_0 : Int) (a0_1 : Int) (a0_2 : Bool) (a0_3 : Bool) (a0_4 : List Int) (a0_5 : List Int) (a0_6 : Int) (a0_7 : Int) (a0_8 : List (List Int)) (a0_9 : List Int) (a0_10 : List Int) (a0_11 : Int) (a0_12 : Int) (a0_13 : Int) (ga0_4 : a0_4.length ≤ 2097152) (ga0_5 : a0_5.length ≤ 2097152) (ga0_8 : G2 a0_8) (ga0_9 : a0_9.length ≤ 2097152) (ga0_10 : a0_10.length ≤ 2097152) : laws_toGame a0_0 a0_1 a0_2 a0_3 a0_4 a0_5 a0_6 a0_7 a0_8 a0_9 a0_10 a0_11 a0_12 a0_13 = some (a0_0, a0_1, a0_2, a0_3, a0_4, a0_5, a0_6, a0_7, a0_8, a0_9, a0_10, a0_11, a0_12, a0_13) := by
  rw [laws_toGame_eq, laws_toRules_ok a0_0 a0_1 a0_2 a0_3 a0_4 a0_5 a0_6 a0_7 ga0_4 ga0_5, Option.bind_some, laws_toIntSS_ok a0_8 ga0_8, Option.bind_some, laws_toIntS_ok a0_9 ga0_9, Option.bind_some, laws_toIntS_ok a0_10 ga0_10, Option.bind_some]
  first | done | rfl

theorem laws_eqRules_self (a0_0 : Int) (a0_1 : Int) (a0_2 : Bool) (a0_3 : Bool) (a0_4 : List Int) (a0_5 : List Int) (a0_6 : Int) (a0_7 : Int) (ga0_4 : a0_4.length ≤ 2097152) (ga0_5 : a0_5.length ≤ 2097152) : laws_eqRules a0_0 a0_1 a0_2 a0_3 a0_4 a0_5 a0_6 a0_7 a0_0 a0_1 a0_2 a0_3 a0_4 a0_5 a0_6 a0_7 = some true := by
  rw [laws_eqRules_eq, laws_eqIntS_self a0_4 ga0_4, laws_eqIntS_self a0_5 ga0_5]
  simp

theorem laws_eqGame_self (a0_0 : Int) (a0_1 : Int) (a0_2 : Bool) (a0_3 : Bool) (a0_4 : List Int) (a0_5 : List Int) (a0_6 : Int) (a0_7 : Int) (a0_8 : List (List Int)) (a0_9 : List Int) (a0_10 : List Int) (a0_11 : Int) (a0_12 : Int) (a0_13 : Int) (ga0_4 : a0_4.length ≤ 2097152) (ga0_5 : a0_5.length ≤ 2097152) (ga0_8 : G2 a0_8) (ga0_9 : a0_9.length ≤ 2097152) (ga0_10 : a0_10.length ≤ 2097152) : laws_eqGame a0_0 a0_1 a0_2 a0_3 a0_4 a0_5 a0_6 a0_7 a0_8 a0_9 a0_10 a0_11 a0_12 a0_13 a0_0 a0_1 a0_2 a0_3 a0_4 a0_5 a0_6 a0_7 a0_8 a0_9 a0_10 a0_11 a0_12 a0_13 = some true := by
  rw [laws_eqGame_eq, laws_eqRules_self a0_0 a0_1 a0_2 a0_3 a0_4 a0_5 a0_6 a0_7 ga0_4 ga0_5, laws_eqIntSS_self a0_8 ga0_8, laws_eqIntS_self a0_9 ga0_9, laws_eqIntS_self a0_10 ga0_10]
  simp
end Go.Proofs.YthppocflbgnjlaaDoor.V
