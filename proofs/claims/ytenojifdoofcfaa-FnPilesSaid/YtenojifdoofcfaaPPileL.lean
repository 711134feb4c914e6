/- Plain laws over the shapes. -/
import Derived.Test.YtenojifdoofcfaaPDrawPile
set_option linter.unusedVariables false
set_option linter.unusedSimpArgs false
set_option maxRecDepth 10000
namespace Go.Proofs.Ytenojifdoofcfaa.V
open Go
theorem handM_append {l : List Int} {c : Int} (h : handM l = true) (hc : isC c = true) (hn : hasM l c = false) : handM (l ++ [c]) = true := by
  simp only [handM, Bool.and_eq_true, decide_eq_true_eq, List.all_eq_true] at *
  refine ⟨fun x hx => ?_, ?_⟩
  · rcases List.mem_append.1 hx with e | e
    · exact h.1 x e
    · rw [List.mem_singleton.1 e]; exact hc
  · rw [List.nodup_append]
    refine ⟨h.2, by simp, fun x hx y hy => ?_⟩
    rw [List.mem_singleton.1 hy]
    intro e
    rw [e] at hx
    simp [hasM, hx] at hn
theorem handM_take {l : List Int} (h : handM l = true) (k : Nat) : handM (l.take k) = true := by
  simp only [handM, Bool.and_eq_true, decide_eq_true_eq, List.all_eq_true] at *
  exact ⟨fun x hx => h.1 x (List.mem_of_mem_take hx), h.2.sublist (List.take_sublist k l)⟩
theorem chainM_iff {l : List Int} {n : Nat} : chainM l n = true ↔ ∀ i, i < l.length → n ≤ i → onM (l.getD (i - 1) 0) (l.getD i 0) = true := by
  unfold chainM
  simp only [List.all_eq_true, List.mem_range, Bool.or_eq_true, Bool.not_eq_true', decide_eq_false_iff_not]
  exact ⟨fun k i hi hn => (k i hi).resolve_left (by omega), fun k i hi => by
    by_cases e : n ≤ i
    · exact .inr (k i hi e)
    · exact .inl e⟩
theorem getD_take {l : List Int} {k i : Nat} (h : i < k) : (l.take k).getD i 0 = l.getD i 0 := by
  rw [List.getD_eq_getElem?_getD, List.getElem?_take, if_pos h, List.getD_eq_getElem?_getD]
theorem getD_left {l r : List Int} {i : Nat} (h : i < l.length) : (l ++ r).getD i 0 = l.getD i 0 := by
  rw [List.getD_eq_getElem?_getD, List.getElem?_append_left h, List.getD_eq_getElem?_getD]
theorem getD_last {l : List Int} {c : Int} : (l ++ [c]).getD l.length 0 = c := by
  rw [List.getD_eq_getElem?_getD, List.getElem?_append_right (Nat.le_refl _), Nat.sub_self]; rfl
theorem pileM_iff {l : List Int} {h : Int} : pileM l h = true ↔ handM l = true ∧ (0 ≤ h ∧ h ≤ (l.length : Int)) ∧ ∀ i, i < l.length → (h + 1).toNat ≤ i → onM (l.getD (i - 1) 0) (l.getD i 0) = true := by
  rw [pileM, Bool.and_eq_true, Bool.and_eq_true, chainM_iff]
  simp [inR]
theorem pile_app {l : List Int} {h c : Int} (hm : mayM l h c = true) : pileM (l ++ [c]) h = true := by
  simp only [mayM, Bool.and_eq_true, Bool.not_eq_true'] at hm
  obtain ⟨h1, h2, h3, h4⟩ := hm
  obtain ⟨p1, p2, p3⟩ := pileM_iff.1 h1
  refine pileM_iff.2 ⟨handM_append p1 h2 h3, ⟨p2.1, by rw [List.length_append, List.length_singleton]; omega⟩, fun i hi hn => ?_⟩
  rw [List.length_append, List.length_singleton] at hi
  by_cases e : i < l.length
  · rw [getD_left e, getD_left (by omega)]; exact p3 i e hn
  · have : i = l.length := by omega
    subst this
    by_cases e0 : l.length = 0
    · omega
    · rw [if_neg e0, Bool.and_eq_true] at h4
      rw [getD_last, getD_left (by omega)]
      have := h4.2
      rw [topM, if_neg e0] at this
      exact this
theorem openM_of {l : List Int} {h : Int} (hp : pileM l h = true) : openM l h = (l.length : Int) - h := by rw [openM, if_pos hp]
theorem stack_facts (l0 : List Int) (h : Int) : ∀ cs l, pileM l h = true → (stackR l0 h cs l).2.2 = true → (stackR l0 h cs l).1 = l ++ cs ∧ (stackR l0 h cs l).2.1 = h ∧ pileM (l ++ cs) h = true := by
  intro cs
  induction cs with
  | nil => intro l hp _; rw [List.append_nil]; exact ⟨rfl, rfl, hp⟩
  | cons c cs ih =>
    intro l hp ho
    rw [stackR] at ho ⊢
    cases hm : mayM l h c with
    | false => rw [hm] at ho; cases ho
    | true =>
      rw [hm, if_pos rfl] at ho
      rw [if_pos rfl]
      have := ih (l ++ [c]) (pile_app hm) ho
      rwa [List.append_assoc] at this
theorem stack_pile {l0 l : List Int} {h c : Int} {cs : List Int} (ho : (stackR l0 h (c :: cs) l).2.2 = true) : pileM l h = true := by
  rw [stackR] at ho
  cases hm : mayM l h c with
  | false => rw [hm] at ho; cases ho
  | true =>
    simp only [mayM, Bool.and_eq_true] at hm
    exact hm.1
/-- What is known of a pile that cards were put on. -/
theorem stackM_facts {l : List Int} {h : Int} {cs : List Int} (hc : 0 < cs.length) (ho : (stackM l h cs).2.2 = true) : pileM (stackM l h cs).1 (stackM l h cs).2.1 = true ∧ topM (stackM l h cs).1 = cs.getD (cs.length - 1) 0 ∧ openM (stackM l h cs).1 (stackM l h cs).2.1 = openM l h + (cs.length : Int) := by
  cases cs with
  | nil => cases hc
  | cons c cs =>
    have hp := stack_pile ho
    obtain ⟨e1, e2, e3⟩ := stack_facts l h (c :: cs) l hp ho
    unfold stackM
    rw [e1, e2]
    refine ⟨e3, ?_, ?_⟩
    · rw [topM, if_neg (by simp), List.length_append, List.getD_eq_getElem?_getD, List.getElem?_append_right (by simp), List.getD_eq_getElem?_getD]
      congr 2
      simp
    · rw [openM_of e3, openM_of hp, List.length_append]; omega
theorem stackM_one (l : List Int) (h c : Int) : (stackM l h [c]).2.2 = mayM l h c := by
  rw [stackM, stackR]
  cases mayM l h c <;> rfl
/-- What is known of a pile that cards were lifted from. -/
theorem liftM_facts {l : List Int} {h n : Int} (ho : (liftM l h n).2.2.2 = true) : pileM (liftM l h n).1 (liftM l h n).2.1 = true ∧ ((liftM l h n).2.2.1.length : Int) = n ∧ ((liftM l h n).1.length : Int) + n = (l.length : Int) ∧ (0 < (liftM l h n).1.length → 1 ≤ openM (liftM l h n).1 (liftM l h n).2.1) ∧ pileM l h = true ∧ 1 ≤ n ∧ n ≤ openM l h := by
  unfold liftM at ho ⊢
  cases hn : inR n 1 (openM l h)
  · rw [hn] at ho; cases ho
  · obtain ⟨k0, k1, k2, k3⟩ := openM_pos hn
    rw [if_pos rfl]
    dsimp only
    obtain ⟨p1, p2, p3⟩ := pileM_iff.1 k0
    have hk : (l.take (l.length - n.toNat)).length = l.length - n.toNat := by rw [List.length_take]; omega
    have hid : 0 ≤ hidM h (l.length - n.toNat) ∧ hidM h (l.length - n.toNat) ≤ ((l.length - n.toNat : Nat) : Int) ∧ (0 < l.length - n.toNat → hidM h (l.length - n.toNat) < ((l.length - n.toNat : Nat) : Int)) ∧ (hidM h (l.length - n.toNat) = h ∨ ((l.length - n.toNat : Nat) : Int) ≤ hidM h (l.length - n.toNat) + 1) := by
      unfold hidM
      split <;> omega
    have hp : pileM (l.take (l.length - n.toNat)) (hidM h (l.length - n.toNat)) = true := by
      refine pileM_iff.2 ⟨handM_take p1 _, ⟨hid.1, by rw [hk]; exact hid.2.1⟩, fun i hi hn => ?_⟩
      rw [hk] at hi
      rw [getD_take hi, getD_take (by omega)]
      rcases hid.2.2.2 with e | e
      · rw [e] at hn; exact p3 i (by omega) hn
      · omega
    refine ⟨hp, by rw [List.length_drop]; omega, by rw [hk]; omega, fun h0 => ?_, k0, k1, by rw [openM_of k0]; exact k2⟩
    rw [hk] at h0
    rw [openM_of hp, hk]
    have := hid.2.2.1 h0
    omega
theorem liftM_not {l : List Int} {h n : Int} (ho : (liftM l h n).2.2.2 = false) : (liftM l h n).1.length = l.length ∧ ¬ (1 ≤ n ∧ n ≤ openM l h) := by
  unfold liftM at ho ⊢
  cases hn : inR n 1 (openM l h)
  · refine ⟨rfl, fun k => ?_⟩
    simp [inR] at hn
    omega
  · rw [hn] at ho; cases ho
end Go.Proofs.Ytenojifdoofcfaa.V
