/- Plain laws over the shapes. -/
import Derived.Test.YthppocflbgnjlaaDoorPM
import Derived.Test.YthppocflbgnjlaaDoorMQ
import Derived.Test.YthppocflbgnjlaaDoorM
set_option linter.unusedVariables false
set_option linter.unusedSimpArgs false
set_option maxRecDepth 10000
namespace Go.Proofs.YthppocflbgnjlaaDoor.V
open Go
def B3 (b : Int) (l : List (List Int × Int)) : Prop := (l.length : Int) ≤ b ∧ ∀ r ∈ l, (r.1.length : Int) ≤ b
def F3 (l : List (List Int × Int)) : Prop := l.length ≤ 17592186044416 ∧ ∀ r ∈ l, r.1.length ≤ 17592186044416
theorem B3.mono {b b' : Int} {l : List (List Int × Int)} (h : B3 b l) (hb : b ≤ b') : B3 b' l := ⟨by have := h.1; omega, fun r hr => by have := h.2 r hr; omega⟩
theorem B3.g {l : List (List Int × Int)} (h : B3 1048576 l) : G3 l := ⟨by have := h.1; omega, fun r hr => by have := h.2 r hr; omega⟩
theorem fit3 {e e' : Nat} {k : IntKind} {l : List (den (.pair (.sl e' (.int k)) (.int k)))} (h : Fit Tryd.prog (.sl e (.pair (.sl e' (.int k)) (.int k))) l) (hb : 8 ≤ bytesT Tryd.prog e) (hb' : 8 ≤ bytesT Tryd.prog e') : F3 l :=
  ⟨fit1 (t := .pair (.sl e' (.int k)) (.int k)) h hb, fun r hr => fit1 (t := .int k) (h.2 r hr).1 hb'⟩
theorem laws_szPileS_sp (l : List (List Int × Int)) (b : Int) (hl : F3 l) (hb : 0 ≤ b) (hb' : b ≤ 1048576) : ∃ c, laws_szPileS l b = some c ∧ (c < 0 ∨ (0 ≤ c ∧ c ≤ b ∧ B3 b l)) := by
  have hl1 := hl.1
  rw [laws_szPileS_eq, wrap_id (by omega) (by omega)]
  by_cases h : b - (l.length : Int) < 0
  · exact ⟨-1, by rw [if_pos (decide_eq_true h)], .inl (by decide)⟩
  rw [if_neg (by simpa using h)]
  have key : ∀ i, i ≤ l.length → ∀ c : Int, 0 ≤ c → c ≤ b → ∃ c', laws_szPileS_L5 l c i = some c' ∧ (c' < 0 ∨ (0 ≤ c' ∧ c' ≤ b ∧ ∀ r ∈ l.drop i, (r.1.length : Int) ≤ b)) := down (by
      intro c h1 h2
      rw [laws_szPileS_L5_eq, if_neg (by simp)]
      exact ⟨c, rfl, .inr ⟨h1, h2, by simp⟩⟩) fun i hi ih c h1 h2 => by
    obtain ⟨c1, e1, g⟩ := laws_szIntS_sp (l.getD i ([], 0)).1 c (hl.2 _ (getD_mem hi)) h1 (by omega)
    rw [laws_szPileS_L5_eq, if_pos (by simpa using hi), if_pos (by omega), if_pos (by omega), wrap_succ hi (by omega), Int.toNat_natCast, laws_szPile_eq, e1, Option.bind_some]
    rcases g with g | ⟨g1, g2, g3⟩
    · exact ⟨-1, by rw [if_pos (decide_eq_true g)]; rfl, .inl (by decide)⟩
    rw [if_neg (by simp; omega), Option.bind_some, if_neg (by simp; omega)]
    obtain ⟨c2, e2, g⟩ := ih c1 g1 (by omega)
    refine ⟨c2, e2, g.imp id fun ⟨k1, k2, k3⟩ => ⟨k1, k2, ?_⟩⟩
    rw [getD_drop (d := ([], 0)) hi]
    intro r hr
    rcases List.mem_cons.1 hr with e | e
    · rw [e]; exact Int.le_trans g3 h2
    · exact k3 r e
  obtain ⟨c', e, g⟩ := key 0 (Nat.zero_le _) (b - l.length) (by omega) (by omega)
  rw [Int.natCast_zero] at e
  exact ⟨c', e, g.imp id fun ⟨k1, k2, k3⟩ => ⟨k1, k2, by omega, by simpa using k3⟩⟩
theorem laws_toPileS_ok (l : List (List Int × Int)) (hb : G3 l) : laws_toPileS l = some l := by
  have hl := hb.len
  have h : ∀ i, i ≤ l.length → ∀ s : List (List Int × Int), s.length = l.length → s.take i = l.take i → laws_toPileS_L3 l i s = some l := down (by
      intro s h1 h2
      rw [List.take_of_length_le (by omega), List.take_of_length_le (Nat.le_refl _)] at h2
      rw [laws_toPileS_L3_eq]
      simp (disch := (first | omega | (simp only [List.length_append, List.length_cons, List.length_nil, List.length_take, List.length_drop, List.length_set, List.length_replicate, List.length_singleton]; omega))) only [↓if_dpos, ↓if_dneg, ↓if_epos, ↓if_eneg, ↓if_npos, ↓if_nneg, ↓if_pos, ↓if_neg, Int.toNat_natCast, List.nil_append, Nat.zero_add, List.length_singleton, Option.bind_some, List.drop_zero, List.take_length, if_true, if_false, ]
      rw [h2]) fun i hi ih s h1 h2 => by
    have e := laws_toIntS_ok _ (hb.row _ (getD_mem (d := ([], 0)) hi))
    have hil : (i : Int) < (l.length : Int) := by omega
    have hw : IntKind.i64.wrap ((i : Int) + 1) = ((i + 1 : Nat) : Int) := wrap_succ hi (by omega)
    rw [laws_toPileS_L3_eq]
    simp (disch := (first | omega | (simp only [List.length_append, List.length_cons, List.length_nil, List.length_take, List.length_drop, List.length_set, List.length_replicate, List.length_singleton]; omega))) only [↓if_dpos, ↓if_dneg, ↓if_epos, ↓if_eneg, ↓if_npos, ↓if_nneg, ↓if_pos, ↓if_neg, hw, Int.toNat_natCast, List.nil_append, Nat.zero_add, List.length_singleton, Option.bind_some, List.drop_zero, List.take_length, if_true, if_false, laws_toPile_eq, e]
    exact ih _ (by simpa using h1) (copy_set hi h1 h2)
  rw [laws_toPileS_eq]
  simp (disch := (first | omega | (simp only [List.length_append, List.length_cons, List.length_nil, List.length_take, List.length_drop, List.length_set, List.length_replicate, List.length_singleton]; omega))) only [↓if_dpos, ↓if_dneg, ↓if_epos, ↓if_eneg, ↓if_npos, ↓if_nneg, ↓if_pos, ↓if_neg, Int.toNat_natCast, List.nil_append, Nat.zero_add, List.length_singleton, Option.bind_some, List.drop_zero, List.take_length, if_true, if_false]
  exact h 0 (Nat.zero_le _) _ (by simp) rfl
theorem laws_eqPileS_self (l : List (List Int × Int)) (hb : G3 l) : laws_eqPileS l l = some true := by
  have hl := hb.len
  rw [laws_eqPileS_eq, if_neg (by simp)]
  have h : ∀ i, i ≤ l.length → laws_eqPileS_L4 l l i = some true := down (by
      rw [laws_eqPileS_L4_eq]
      simp (disch := (first | omega | (simp only [List.length_append, List.length_cons, List.length_nil, List.length_take, List.length_drop, List.length_set, List.length_replicate, List.length_singleton]; omega))) only [↓if_dpos, ↓if_dneg, ↓if_epos, ↓if_eneg, ↓if_npos, ↓if_nneg, ↓if_pos, ↓if_neg, Int.toNat_natCast, List.nil_append, Nat.zero_add, List.length_singleton, Option.bind_some, List.drop_zero, List.take_length, if_true, if_false, ]) fun i hi ih => by
    have e := laws_eqIntS_self _ (hb.row _ (getD_mem (d := ([], 0)) hi))
    have hil : (i : Int) < (l.length : Int) := by omega
    have hw : IntKind.i64.wrap ((i : Int) + 1) = ((i + 1 : Nat) : Int) := wrap_succ hi (by omega)
    rw [laws_eqPileS_L4_eq]
    simp (disch := (first | omega | (simp only [List.length_append, List.length_cons, List.length_nil, List.length_take, List.length_drop, List.length_set, List.length_replicate, List.length_singleton]; omega))) only [↓if_dpos, ↓if_dneg, ↓if_epos, ↓if_eneg, ↓if_npos, ↓if_nneg, ↓if_pos, ↓if_neg, hw, Int.toNat_natCast, List.nil_append, Nat.zero_add, List.length_singleton, Option.bind_some, List.drop_zero, List.take_length, if_true, if_false, laws_eqPile_eq, e]
    simpa using ih
  exact h 0 (Nat.zero_le _)
def totP : List (List Int × Int) → Nat
  | [] => 0
  | r :: l => r.1.length + 1 + totP l
def mkPS : List (List Int × Int) → Int → List (List Int × Int)
  | [], _ => []
  | r :: l, k => (cnt k r.1.length, k + (r.1.length : Int)) :: mkPS l (k + (r.1.length : Int) + 1)
theorem mkPS_length : ∀ (l : List (List Int × Int)) (k : Int), (mkPS l k).length = l.length
  | [], _ => rfl
  | r :: l, k => by rw [mkPS, List.length_cons, List.length_cons, mkPS_length l]
theorem totP_append : ∀ (a b : List (List Int × Int)), totP (a ++ b) = totP a + totP b
  | [], b => by simp [totP]
  | r :: a, b => by rw [List.cons_append, totP, totP, totP_append a b]; omega
theorem G3.tle {l : List (List Int × Int)} (h : G3 l) : totP l ≤ 4398048608256 := by
  have : totP l ≤ l.length * 2097153 := by
    have hr := h.row
    clear h
    induction l with
    | nil => simp [totP]
    | cons x l ih =>
      have h1 := hr x (by simp); have h2 := ih fun r hr' => hr r (by simp [hr'])
      simp only [totP, List.length_cons, Nat.add_mul]; omega
  have := h.len
  omega
theorem mkPS_append : ∀ (a b : List (List Int × Int)) (k : Int), mkPS (a ++ b) k = mkPS a k ++ mkPS b (k + (totP a : Int))
  | [], b, k => by simp [mkPS, totP]
  | r :: a, b, k => by
    rw [List.cons_append, mkPS, mkPS, mkPS_append a b, List.cons_append, totP]
    congr 3
    omega
theorem mkPS_at {l : List (List Int × Int)} {k : Int} {i : Nat} (hi : i < l.length) : (mkPS l k).getD i ([], 0) = (cnt (k + (totP (l.take i) : Int)) (l.getD i ([], 0)).1.length, k + (totP (l.take i) : Int) + ((l.getD i ([], 0)).1.length : Int)) := by
  have e : l = l.take i ++ l.getD i ([], 0) :: l.drop (i + 1) := by rw [← getD_drop hi, List.take_append_drop]
  have hk : (mkPS (l.take i) k).length = i := by rw [mkPS_length]; simp; omega
  conv => lhs; rw [e, mkPS_append, List.getD_eq_getElem?_getD, List.getElem?_append_right (by omega), hk, Nat.sub_self, mkPS]
  rfl
theorem totP_take {l : List (List Int × Int)} {i : Nat} (hi : i < l.length) : totP (l.take (i + 1)) = totP (l.take i) + ((l.getD i ([], 0)).1.length + 1) := by
  rw [take_succ_getD (d := ([], 0)) hi, totP_append]; simp [totP]
theorem totP_take_le (l : List (List Int × Int)) (i : Nat) : totP (l.take i) ≤ totP l := by
  have : totP l = totP (l.take i) + totP (l.drop i) := by rw [← totP_append, List.take_append_drop]
  omega
theorem markPS_set {k : Int} {l : List (List Int × Int)} {i : Nat} (hi : i < l.length) : (mkPS (l.take i) k ++ l.drop i).set i (cnt (k + (totP (l.take i) : Int)) (l.getD i ([], 0)).1.length, k + (totP (l.take i) : Int) + ((l.getD i ([], 0)).1.length : Int)) = mkPS (l.take (i + 1)) k ++ l.drop (i + 1) := by
  have e : l.drop i = l.getD i ([], 0) :: l.drop (i + 1) := getD_drop hi
  have hk : (mkPS (l.take i) k).length = i := by rw [mkPS_length]; simp; omega
  rw [List.set_append_right _ _ (by omega), hk, Nat.sub_self, e, List.set_cons_zero, take_succ_getD (d := ([], 0)) hi, mkPS_append, List.append_assoc]; rfl
theorem getD_appP {l : List (List Int × Int)} {k : Int} {i : Nat} (hi : i < l.length) : (mkPS (l.take i) k ++ l.drop i).getD i ([], 0) = l.getD i ([], 0) := by
  have hk : (mkPS (l.take i) k).length = i := by rw [mkPS_length]; simp; omega
  rw [List.getD_eq_getElem?_getD, List.getElem?_append_right (by omega), hk, Nat.sub_self, List.getElem?_drop]; rfl
theorem getD_set_self {α : Type} {l : List α} {i : Nat} {x d : α} (hi : i < l.length) : (l.set i x).getD i d = x := by
  rw [List.getD_eq_getElem?_getD, List.getElem?_set_self hi]; rfl
theorem laws_szPatience_sp (a0_0 : List ((List Int) × Int)) (a0_1 : List Int) (a0_2 : List Int) (a0_3 : List Int) (a1 : Int) (fa0_0 : F3 a0_0) (fa0_1 : F1 a0_1) (fa0_2 : F1 a0_2) (fa0_3 : F1 a0_3) (hb : 0 ≤ a1) (hb' : a1 ≤ 1048576) :
    ∃ c, laws_szPatience a0_0 a0_1 a0_2 a0_3 a1 = some c ∧ (c < 0 ∨ (0 ≤ c ∧ c ≤ a1 ∧ B3 a1 a0_0 ∧ B1 a1 a0_1 ∧ B1 a1 a0_2 ∧ B1 a1 a0_3)) := by
  rw [laws_szPatience_eq]
  obtain ⟨c1, e1, h⟩ := laws_szPileS_sp a0_0 a1 fa0_0 (by omega) (by omega)
  rw [e1, Option.bind_some]
  rcases h with h | ⟨p1, q1, ra0_0⟩
  · exact ⟨-1, by rw [if_pos (decide_eq_true h)], .inl (by decide)⟩
  rw [if_neg (by simp; omega)]
  obtain ⟨c2, e2, h⟩ := laws_szIntS_sp a0_1 c1 fa0_1 (by omega) (by omega)
  rw [e2, Option.bind_some]
  rcases h with h | ⟨p2, q2, ra0_1⟩
  · exact ⟨-1, by rw [if_pos (decide_eq_true h)], .inl (by decide)⟩
  rw [if_neg (by simp; omega)]
  obtain ⟨c3, e3, h⟩ := laws_szIntS_sp a0_2 c2 fa0_2 (by omega) (by omega)
  rw [e3, Option.bind_some]
  rcases h with h | ⟨p3, q3, ra0_2⟩
  · exact ⟨-1, by rw [if_pos (decide_eq_true h)], .inl (by decide)⟩
  rw [if_neg (by simp; omega)]
  obtain ⟨c4, e4, h⟩ := laws_szIntS_sp a0_3 c3 fa0_3 (by omega) (by omega)
  rw [e4, Option.bind_some]
  rcases h with h | ⟨p4, q4, ra0_3⟩
  · exact ⟨-1, by rw [if_pos (decide_eq_true h)], .inl (by decide)⟩
  rw [if_neg (by simp; omega)]
  exact ⟨_, rfl, .inr ⟨by omega, by omega, ra0_0.mono (by omega), ra0_1.mono (by omega), ra0_2.mono (by omega), ra0_3.mono (by omega)⟩⟩

theorem laws_szPile_sp (a0_0 : List Int) (a0_1 : Int) (a1 : Int) (fa0_0 : F1 a0_0) (hb : 0 ≤ a1) (hb' : a1 ≤ 1048576) :
    ∃ c, laws_szPile a0_0 a0_1 a1 = some c ∧ (c < 0 ∨ (0 ≤ c ∧ c ≤ a1 ∧ B1 a1 a0_0)) := by
  rw [laws_szPile_eq]
  obtain ⟨c1, e1, h⟩ := laws_szIntS_sp a0_0 a1 fa0_0 (by omega) (by omega)
  rw [e1, Option.bind_some]
  rcases h with h | ⟨p1, q1, ra0_0⟩
  · exact ⟨-1, by rw [if_pos (decide_eq_true h)], .inl (by decide)⟩
  rw [if_neg (by simp; omega)]
  exact ⟨_, rfl, .inr ⟨by omega, by omega, ra0_0.mono (by omega)⟩⟩

theorem laws_toPatience_ok (a0_0 : List ((List Int) × Int)) (a0_1 : List Int) (a0_2 : List Int) (a0_3 : List Int) (ga0_0 : G3 a0_0) (ga0_1 : a0_1.length ≤ 2097152) (ga0_2 : a0_2.length ≤ 2097152) (ga0_3 : a0_3.length ≤ 2097152) : laws_toPatience a0_0 a0_1 a0_2 a0_3 = some (a0_0, a0_1, a0_2, a0_3) := by
  rw [laws_toPatience_eq, laws_toPileS_ok a0_0 ga0_0, Option.bind_some, laws_toIntS_ok a0_1 ga0_1, Option.bind_some, laws_toIntS_ok a0_2 ga0_2, Option.bind_some, laws_toIntS_ok a0_3 ga0_3, Option.bind_some]
  first | done | rfl

theorem laws_toPile_ok (a0_0 : List Int) (a0_1 : Int) (ga0_0 : a0_0.length ≤ 2097152) : laws_toPile a0_0 a0_1 = some (a0_0, a0_1) := by
  rw [laws_toPile_eq, laws_toIntS_ok a0_0 ga0_0, Option.bind_some]
  first | done | rfl

theorem laws_eqPatience_self (a0_0 : List ((List Int) × Int)) (a0_1 : List Int) (a0_2 : List Int) (a0_3 : List Int) (ga0_0 : G3 a0_0) (ga0_1 : a0_1.length ≤ 2097152) (ga0_2 : a0_2.length ≤ 2097152) (ga0_3 : a0_3.length ≤ 2097152) : laws_eqPatience a0_0 a0_1 a0_2 a0_3 a0_0 a0_1 a0_2 a0_3 = some true := by
  rw [laws_eqPatience_eq, laws_eqPileS_self a0_0 ga0_0, laws_eqIntS_self a0_1 ga0_1, laws_eqIntS_self a0_2 ga0_2, laws_eqIntS_self a0_3 ga0_3]
  simp

theorem laws_eqPile_self (a0_0 : List Int) (a0_1 : Int) (ga0_0 : a0_0.length ≤ 2097152) : laws_eqPile a0_0 a0_1 a0_0 a0_1 = some true := by
  rw [laws_eqPile_eq, laws_eqIntS_self a0_0 ga0_0]
  simp
end Go.Proofs.YthppocflbgnjlaaDoor.V
