/- Plain laws over the shapes. -/
import Derived.Test.YtoioaijpdiglfaaPL12
import Derived.Test.YtoioaijpdiglfaaFIsDeal
import Derived.Test.YtoioaijpdiglfaaFSightOf
import Derived.Test.YtoioaijpdiglfaaS1
import Derived.Test.YtoioaijpdiglfaaS2
import Derived.Test.YtoioaijpdiglfaaS6
import Derived.Test.YtoioaijpdiglfaaS7
import Derived.Test.YtoioaijpdiglfaaS8
set_option linter.unusedVariables false
set_option linter.unusedSimpArgs false
set_option maxRecDepth 10000
namespace Go.Proofs.Ytoioaijpdiglfaa.V
open Go
def lensM (l : List (List Int)) : List Int := l.map fun r => (r.length : Int)
theorem map_take {α β : Type} {f : α → β} {l : List α} {i : Nat} {d : α} (hi : i < l.length) : (l.take (i + 1)).map f = (l.take i).map f ++ [f (l.getD i d)] := by
  have : l.take (i + 1) = l.take i ++ [l.getD i d] := by
    rw [List.take_succ_eq_append_getElem hi, List.getD_eq_getElem?_getD, List.getElem?_eq_getElem hi]; rfl
  rw [this, List.map_append]; rfl
theorem impl_sizes_ok (l : List (List Int)) (hl : l.length ≤ 4194304) : impl_sizes l = some (lensM l) := by
  have h : ∀ i, i ≤ l.length → impl_sizes_L3 l l.length i (lensM (l.take i)) = some (lensM l) := down (by
      rw [impl_sizes_L3_eq]
      simp (disch := (first | omega | (simp only [List.length_append, List.length_cons, List.length_nil, List.length_take, List.length_drop, List.length_set, List.length_replicate, List.length_singleton]; omega))) only [↓if_dpos, ↓if_dneg, ↓if_epos, ↓if_eneg, ↓if_npos, ↓if_nneg, ↓if_pos, ↓if_neg, Int.toNat_natCast, List.nil_append, Nat.zero_add, List.length_singleton, Option.bind_some, List.drop_zero, List.take_length, if_true, if_false, ]) fun i hi ih => by
    have hk : (lensM (l.take i)).length ≤ i := by unfold lensM; simp; omega
    have hil : (i : Int) < (l.length : Int) := by omega
    have hw : IntKind.i64.wrap ((i : Int) + 1) = ((i + 1 : Nat) : Int) := wrap_succ hi (by omega)
    rw [impl_sizes_L3_eq]
    simp (disch := (first | omega | (simp only [List.length_append, List.length_cons, List.length_nil, List.length_take, List.length_drop, List.length_set, List.length_replicate, List.length_singleton]; omega))) only [↓if_dpos, ↓if_dneg, ↓if_epos, ↓if_eneg, ↓if_npos, ↓if_nneg, ↓if_pos, ↓if_neg, hw, Int.toNat_natCast, List.nil_append, Nat.zero_add, List.length_singleton, Option.bind_some, List.drop_zero, List.take_length, if_true, if_false, ]
    rw [← ih]
    unfold lensM
    rw [map_take (d := []) hi]
  rw [impl_sizes_eq]
  exact h 0 (Nat.zero_le _)
theorem lensM_length (l : List (List Int)) : (lensM l).length = l.length := by simp [lensM]
def swapM (hs : List (List Int)) (le tr : Int) (tk wo po : List Int) (lf : Int) (a b i j : Int) : List (List Int) × Int × Int × List Int × List Int × List Int × Int × Bool :=
  if dealM hs le tr tk wo po lf = true then (if (a == b) = true then (hs, le, tr, tk, wo, po, lf, false) else if inR a 0 ((hs.length : Int) - 1) = true then (if inR b 0 ((hs.length : Int) - 1) = true then (if inR i 0 (((hs.getD a.toNat []).length : Int) - 1) = true then (if inR j 0 (((hs.getD b.toNat []).length : Int) - 1) = true then
    ((hs.set a.toNat ((hs.getD a.toNat []).set i.toNat ((hs.getD b.toNat []).getD j.toNat 0))).set b.toNat ((hs.getD b.toNat []).set j.toNat ((hs.getD a.toNat []).getD i.toNat 0)), le, tr, tk, wo, po, lf, true)
    else (hs, le, tr, tk, wo, po, lf, false)) else (hs, le, tr, tk, wo, po, lf, false)) else (hs, le, tr, tk, wo, po, lf, false)) else (hs, le, tr, tk, wo, po, lf, false)) else (hs, le, tr, tk, wo, po, lf, false)
theorem swap_good (hs : List (List Int)) (le tr : Int) (tk wo po : List Int) (lf : Int) (a b i j : Int) (hh : G2 hs) (h3 : tk.length ≤ 2097152) (hwo : wo.length ≤ 2097152) (hpo : po.length ≤ 2097152) : ∃ r0 r7, swapM hs le tr tk wo po lf a b i j = (r0, le, tr, tk, wo, po, lf, r7) ∧ G2 r0 := by
  have q1 := hh.at' (i := a.toNat)
  have q2 := hh.at' (i := b.toNat)
  unfold swapM
  repeat' split
  all_goals first | exact ⟨_, _, rfl, hh⟩ | exact ⟨_, _, rfl, (hh.set (by rw [List.length_set]; exact q1)).set (by rw [List.length_set]; exact q2)⟩
theorem impl_SwapHidden_ok (hs : List (List Int)) (le tr : Int) (tk wo po : List Int) (lf : Int) (a b i j : Int) (hh : G2 hs) (h3 : tk.length ≤ 2097152) (hwo : wo.length ≤ 2097152) (hpo : po.length ≤ 2097152) : impl_SwapHidden hs le tr tk wo po lf a b i j = some (swapM hs le tr tk wo po lf a b i j) := by
  have hl := hh.len
  have q1 := hh.at' (i := a.toNat)
  have q2 := hh.at' (i := b.toNat)
  have w : IntKind.i64.wrap ((hs.length : Int) - 1) = (hs.length : Int) - 1 := wrap_id (by omega) (by omega)
  have w1 : IntKind.i64.wrap (((hs.getD a.toNat []).length : Int) - 1) = ((hs.getD a.toNat []).length : Int) - 1 := wrap_id (by omega) (by omega)
  have w2 : IntKind.i64.wrap (((hs.getD b.toNat []).length : Int) - 1) = ((hs.getD b.toNat []).length : Int) - 1 := wrap_id (by omega) (by omega)
  rw [impl_SwapHidden_eq, impl_Deal_copied_ok hs le tr tk wo po lf hh h3 hwo hpo, Option.bind_some, impl_IsDeal_ok hs le tr tk wo po lf hh h3 hwo hpo, Option.bind_some, swapM]
  simp only [w, w1, w2, impl_InRange_ok, Option.bind_some]
  cases dealM hs le tr tk wo po lf
  · rfl
  simp only [Bool.not_true, Bool.false_eq_true, if_false, if_true]
  by_cases heq : a = b
  · have hb : (a == b) = true := by rw [beq_iff_eq]; exact heq
    rw [hb]
    cases inR a 0 ((hs.length : Int) - 1) <;> cases inR b 0 ((hs.length : Int) - 1) <;> rfl
  have hb : (a == b) = false := by rw [beq_eq_false_iff_ne]; exact heq
  rw [hb]
  cases hr1 : inR a 0 ((hs.length : Int) - 1)
  · rfl
  cases hr2 : inR b 0 ((hs.length : Int) - 1)
  · rfl
  have h1 : 0 ≤ a ∧ a ≤ (hs.length : Int) - 1 := by unfold inR at hr1; simpa only [Bool.and_eq_true, decide_eq_true_eq] using hr1
  have h2 : 0 ≤ b ∧ b ≤ (hs.length : Int) - 1 := by unfold inR at hr2; simpa only [Bool.and_eq_true, decide_eq_true_eq] using hr2
  simp only [Bool.not_true, Bool.false_eq_true, if_false, if_true, Bool.not_false]
  rw [if_pos h1.1, if_pos (by omega)]
  cases hr3 : inR i 0 (((hs.getD a.toNat []).length : Int) - 1)
  · rfl
  simp only [Bool.not_true, Bool.false_eq_true, if_false, if_true]
  rw [if_pos h2.1, if_pos (by omega)]
  cases hr4 : inR j 0 (((hs.getD b.toNat []).length : Int) - 1)
  · rfl
  have h3' : 0 ≤ i ∧ i ≤ ((hs.getD a.toNat []).length : Int) - 1 := by unfold inR at hr3; simpa only [Bool.and_eq_true, decide_eq_true_eq] using hr3
  have h4' : 0 ≤ j ∧ j ≤ ((hs.getD b.toNat []).length : Int) - 1 := by unfold inR at hr4; simpa only [Bool.and_eq_true, decide_eq_true_eq] using hr4
  simp only [Bool.not_true, Bool.false_eq_true, if_false, if_true]
  have hne : a.toNat ≠ b.toNat := by omega
  have hset : ∀ x, (hs.set a.toNat x).getD b.toNat [] = hs.getD b.toNat [] := fun x => by
    rw [List.getD_eq_getElem?_getD, List.getElem?_set_ne hne, ← List.getD_eq_getElem?_getD]
  have g1 : a < (hs.length : Int) := by omega
  have g2 : b < (hs.length : Int) := by omega
  have g3 : i < ((hs.getD a.toNat []).length : Int) := by omega
  have g4 : j < ((hs.getD b.toNat []).length : Int) := by omega
  have g5 : i.toNat < (hs.getD a.toNat []).length := by omega
  have g6 : j.toNat < (hs.getD b.toNat []).length := by omega
  simp only [if_pos h1.1, if_pos h2.1, if_pos h3'.1, if_pos h4'.1, if_pos g1, if_pos g2, if_pos g3, if_pos g4, if_pos g5, if_pos g6, hset, List.length_set]
def sightM (hs : List (List Int)) (le tr : Int) (tk wo po : List Int) (lf : Int) (me : Int) : Int × List Int × List Int × Int × Int × List Int × List Int × Bool :=
  if (dealM hs le tr tk wo po lf && inR me 0 ((hs.length : Int) - 1)) = true then (me, sortM (hs.getD me.toNat []), tk, le, tr, lensM hs, wo, true) else (0, [], [], 0, 0, [], [], false)
theorem impl_SightOf_ok (hs : List (List Int)) (le tr : Int) (tk wo po : List Int) (lf : Int) (me : Int) (hh : G2 hs) (h3 : tk.length ≤ 2097152) (hwo : wo.length ≤ 2097152) (hpo : po.length ≤ 2097152) : impl_SightOf hs le tr tk wo po lf me = some (sightM hs le tr tk wo po lf me) := by
  have hl := hh.len
  have hw : IntKind.i64.wrap ((hs.length : Int) - 1) = (hs.length : Int) - 1 := wrap_id (by omega) (by omega)
  rw [impl_SightOf_eq, impl_IsDeal_ok hs le tr tk wo po lf hh h3 hwo hpo, Option.bind_some, hw, impl_InRange_ok, Option.bind_some, sightM]
  cases hg : dealM hs le tr tk wo po lf
  · rfl
  · cases hm : inR me 0 ((hs.length : Int) - 1)
    · rfl
    · have hm := inR_iff.1 hm
      have hrow := hh.at' (i := me.toNat)
      rw [if_neg (by decide), if_neg (by decide), if_pos hm.1, if_pos (by omega), impl_Sorted_ok _ (by omega), Option.bind_some, impl_copyOf_ok _ (by omega), Option.bind_some, impl_sizes_ok _ (by omega), Option.bind_some, impl_copyOf_ok _ (by omega), Option.bind_some]; rfl
theorem spec_SightOf_ok (hs : List (List Int)) (le tr : Int) (tk wo po : List Int) (lf : Int) (me : Int) (hh : G2 hs) (h3 : tk.length ≤ 2097152) (hwo : wo.length ≤ 2097152) (hpo : po.length ≤ 2097152) : spec_SightOf hs le tr tk wo po lf me = some (sightM hs le tr tk wo po lf me) := by
  have hl := hh.len
  have hw : IntKind.i64.wrap ((hs.length : Int) - 1) = (hs.length : Int) - 1 := wrap_id (by omega) (by omega)
  rw [spec_SightOf_eq, spec_IsDeal_ok hs le tr tk wo po lf hh h3 hwo hpo, Option.bind_some, hw, spec_l1In_ok, Option.bind_some, sightM]
  cases hg : dealM hs le tr tk wo po lf
  · rfl
  · have v := dealM_valid hs le tr tk wo po lf hg
    have n1 := v.n1
    cases hm : inR me 0 ((hs.length : Int) - 1)
    · rfl
    · have hm := inR_iff.1 hm
      have hrow := hh.at' (i := me.toNat)
      have key : ∀ i, i ≤ hs.length → spec_SightOf_L5v1 (i : Int) hs le tr tk wo po lf 0 0 0 me le tr (sortM (hs.getD me.toNat [])) tk (lensM (hs.take i)) wo = some (me, sortM (hs.getD me.toNat []), tk, le, tr, lensM hs, wo, true) := down (by
          rw [spec_SightOf_L5v1_eq, if_dneg (by omega), List.take_length]) fun i hi ih => by
        have hk : (lensM (hs.take i)).length ≤ i := by rw [lensM_length, List.length_take]; omega
        have hm1 : lensM (hs.take (i + 1)) = lensM (hs.take i) ++ [((hs.getD i []).length : Int)] := by
          rw [take_succ_getD (d := ([] : List Int)) hi]; unfold lensM; rw [List.map_append]; rfl
        rw [hm1] at ih
        rw [spec_SightOf_L5v1_eq, if_dpos (by omega), if_pos (by omega), if_pos (by omega), Int.toNat_natCast, if_pos (by rw [List.length_singleton]; omega), wrap_succ hi (by omega)]
        exact ih
      have k1 := key 1 (by omega)
      have e1 : lensM (hs.take 1) = [((hs.getD 0 []).length : Int)] := by
        rw [take_succ_getD (d := ([] : List Int)) (by omega : 0 < hs.length), List.take_zero]; rfl
      rw [e1] at k1
      rw [if_neg (by decide), if_neg (by decide), if_pos hm.1, if_pos (by omega), spec_Sorted_ok _ (by omega), Option.bind_some, if_pos (by omega), if_pos (by omega), List.nil_append, List.nil_append, spec_SightOf_L5_eq, if_dpos (by omega), if_pos (by decide), if_pos (by omega), if_pos (by rw [List.length_singleton]; omega), wrap_id (by omega) (by omega)]
      exact k1
theorem same_sight (p0 : Int) (p1 p2 : List Int) (p3 p4 : Int) (p5 p6 : List Int) (q0 : Int) (q1 q2 : List Int) (q3 q4 : Int) (q5 q6 : List Int) (h1 : p1.length ≤ 1000) (h2 : p2.length ≤ 1000) (h5 : p5.length ≤ 1000) (h6 : p6.length ≤ 1000) : impl_SameSight p0 p1 p2 p3 p4 p5 p6 q0 q1 q2 q3 q4 q5 q6 = some (decide (p0 = q0) && (decide (p3 = q3) && (decide (p4 = q4) && (decide (p1 = q1) && (decide (p2 = q2) && (decide (p5 = q5) && decide (p6 = q6))))))) := by
  rw [impl_SameSight_eq, impl_EqualInts_ok p1 q1 (by omega), impl_EqualInts_ok p2 q2 (by omega), impl_EqualInts_ok p5 q5 (by omega), impl_EqualInts_ok p6 q6 (by omega)]
  by_cases e0 : p0 = q0 <;> by_cases e3 : p3 = q3 <;> by_cases e4 : p4 = q4 <;> by_cases e1 : p1 = q1 <;> by_cases e2 : p2 = q2 <;> by_cases e5 : p5 = q5 <;> by_cases e6 : p6 = q6 <;> simp [e0, e1, e2, e3, e4, e5, e6]
def missM (l : List Int) : List Int := (cards52 52).filter fun c => !hasM l c
theorem impl_Missing_ok (l : List Int) (hl : l.length ≤ 1000000) : impl_Missing l = some (missM l) := by
  have h : ∀ i : Nat, i ≤ 52 → impl_Missing_L3 l (i : Int) ((cards52 i).filter fun c => !hasM l c) = some (missM l) := down (by
      rw [impl_Missing_L3_eq, if_dneg (by omega)]; rfl) fun i hi ih => by
    have hk : ((cards52 i).filter fun c => !hasM l c).length ≤ i := Nat.le_trans (List.length_filter_le _ _) (by rw [cards52_length]; omega)
    rw [cards52_succ, List.filter_append] at ih
    rw [impl_Missing_L3_eq, if_dpos (by omega), impl_HasCard_ok _ _ (by omega), Option.bind_some, wrap_succ hi (by omega)]
    cases c : hasM l (i : Int) with
    | true =>
      rw [if_neg (by decide)]
      rw [List.filter_cons_of_neg (by rw [c]; decide), List.filter_nil, List.append_nil] at ih
      exact ih
    | false =>
      rw [if_pos (by decide), if_pos (by rw [List.length_singleton]; omega)]
      rw [List.filter_cons_of_pos (by rw [c]; decide), List.filter_nil] at ih
      exact ih
  rw [impl_Missing_eq]
  exact h 0 (Nat.zero_le _)
theorem miss_asc (l : List Int) : (missM l).Pairwise (· < ·) := by
  refine List.Pairwise.filter _ ?_
  unfold cards52
  rw [List.pairwise_map]
  exact List.Pairwise.imp (fun h => by omega) List.pairwise_lt_range
theorem miss_length (l : List Int) : (missM l).length ≤ 52 := Nat.le_trans (List.length_filter_le _ _) (by rw [cards52_length]; omega)
theorem miss_not {l : List Int} {x : Int} (h : x ∈ missM l) : x ∉ l := fun e => by
  have := (List.mem_filter.1 h).2
  rw [hasM_iff.2 e] at this
  cases this
theorem suit_b (c : Int) : -1 ≤ suitM c ∧ suitM c < 4 := by
  unfold suitM
  split
  · rename_i h
    obtain ⟨h1, h2⟩ := isC_iff.1 h
    have e := Int.tdiv_eq_ediv_of_nonneg (b := 13) h1
    rw [wrap_id (by omega) (by omega)]; omega
  · omega
theorem void_tot (hs : List (List Int)) (le tr : Int) (tk wo po : List Int) (lf : Int) (p : Int) (hh : G2 hs) (h3 : tk.length ≤ 2097152) (hwo : wo.length ≤ 2097152) (hpo : po.length ≤ 2097152) : ∃ v, impl_VoidIn hs le tr tk wo po lf p = some v ∧ -1 ≤ v ∧ v < 4 := by
  have hl := hh.len
  have hw : IntKind.i64.wrap ((hs.length : Int) - 1) = (hs.length : Int) - 1 := wrap_id (by omega) (by omega)
  rw [impl_VoidIn_eq, impl_IsDeal_ok hs le tr tk wo po lf hh h3 hwo hpo, Option.bind_some, hw, impl_InRange_ok, Option.bind_some]
  cases hg : dealM hs le tr tk wo po lf
  · exact ⟨-1, rfl, by omega, by omega⟩
  · have v := dealM_valid hs le tr tk wo po lf hg
    have n1 := v.n1; have n2 := v.n2; have l1 := v.l1; have l2 := v.l2
    cases hm : inR p 0 ((hs.length : Int) - 1)
    · exact ⟨-1, rfl, by omega, by omega⟩
    · have hm := inR_iff.1 hm
      have w1 : IntKind.i64.wrap (IntKind.i64.wrap (p - le) + (hs.length : Int)) = p - le + (hs.length : Int) := by rw [wrap_id (x := p - le) (by omega) (by omega), wrap_id (by omega) (by omega)]
      have hg := Int.tmod_nonneg (a := p - le + (hs.length : Int)) (hs.length : Int) (by omega)
      rw [if_neg (by decide), if_neg (by decide), if_neg (by omega), w1]
      by_cases c : (p - le + (hs.length : Int)).tmod (hs.length : Int) ≥ (tk.length : Int)
      · rw [if_dpos c]; exact ⟨-1, rfl, by omega, by omega⟩
      · rw [if_dneg c, if_pos hg, if_pos (by omega), impl_SuitOf_ok, Option.bind_some, if_pos (by omega), impl_SuitOf_ok, Option.bind_some]
        split
        · exact ⟨-1, rfl, by omega, by omega⟩
        · rw [if_pos (by omega), Option.bind_some]; exact ⟨_, rfl, suit_b _⟩
theorem count_set (z : Int) : ∀ (l : List Int) (i : Nat) (y : Int), i < l.length → (l.set i y).count z + [l.getD i 0].count z = l.count z + [y].count z
  | [], i, y, h => absurd h (Nat.not_lt_zero i)
  | x :: l, 0, y, h => by
    rw [List.set_cons_zero, List.getD_cons_zero]
    simp only [List.count_cons, List.count_nil]; omega
  | x :: l, i + 1, y, h => by
    have := count_set z l i y (by rw [List.length_cons] at h; omega)
    rw [List.set_cons_succ, List.getD_cons_succ]
    simp only [List.count_cons, List.count_nil] at this ⊢; omega
theorem lens_eq {a b : List (List Int)} (hl : a.length = b.length) (h : ∀ j : Nat, (a.getD j []).length = (b.getD j []).length) : lensM a = lensM b := by
  refine List.ext_getElem? fun j => ?_
  rw [lensM, lensM, List.getElem?_map, List.getElem?_map]
  have := h j
  by_cases c : j < b.length
  · rw [List.getD_eq_getElem?_getD, List.getD_eq_getElem?_getD, List.getElem?_eq_getElem c, List.getElem?_eq_getElem (by omega : j < a.length)] at this
    rw [List.getElem?_eq_getElem c, List.getElem?_eq_getElem (by omega : j < a.length)]
    simp only [Option.getD_some] at this
    simp only [Option.map_some, this]
  · rw [List.getElem?_eq_none (by omega), List.getElem?_eq_none (by omega)]
/-- What is known of two hands of which two cards changed places. -/
structure Swapped (hs r0 : List (List Int)) (le tr : Int) (tk wo po : List Int) (lf a b : Int) : Prop where
  old : dealM hs le tr tk wo po lf = true
  new : dealM r0 le tr tk wo po lf = true
  len : r0.length = hs.length
  all : r0.flatten.length = hs.flatten.length
  same : ∀ m : Nat, (m : Int) ≠ a → (m : Int) ≠ b → r0.getD m [] = hs.getD m []
  lens : lensM r0 = lensM hs
theorem swap_is (hs : List (List Int)) (le tr : Int) (tk wo po : List Int) (lf : Int) (a b i j : Int) : ∃ r0 r7, swapM hs le tr tk wo po lf a b i j = (r0, le, tr, tk, wo, po, lf, r7) ∧ (r7 = true → Swapped hs r0 le tr tk wo po lf a b) ∧ (r7 = false → r0 = hs) := by
  unfold swapM
  by_cases hd : dealM hs le tr tk wo po lf = true
  · rw [if_pos hd]
    by_cases hab : (a == b) = true
    · rw [if_pos hab]; exact ⟨_, _, rfl, (fun h => by cases h), fun _ => rfl⟩
    rw [if_neg hab]
    by_cases h1 : inR a 0 ((hs.length : Int) - 1) = true
    · rw [if_pos h1]
      by_cases h2 : inR b 0 ((hs.length : Int) - 1) = true
      · rw [if_pos h2]
        by_cases h3 : inR i 0 (((hs.getD a.toNat []).length : Int) - 1) = true
        · rw [if_pos h3]
          by_cases h4 : inR j 0 (((hs.getD b.toNat []).length : Int) - 1) = true
          · rw [if_pos h4]
            refine ⟨_, _, rfl, fun _ => ?_, fun h => by cases h⟩
            have h1 := inR_iff.1 h1
            have h2 := inR_iff.1 h2
            have h3 := inR_iff.1 h3
            have h4 := inR_iff.1 h4
            have hne : ¬ a = b := by simpa using hab
            obtain ⟨a, rfl⟩ : ∃ q : Nat, a = (q : Int) := ⟨a.toNat, by omega⟩
            obtain ⟨b, rfl⟩ : ∃ q : Nat, b = (q : Int) := ⟨b.toNat, by omega⟩
            obtain ⟨i, rfl⟩ : ∃ q : Nat, i = (q : Int) := ⟨i.toNat, by omega⟩
            obtain ⟨j, rfl⟩ : ∃ q : Nat, j = (q : Int) := ⟨j.toNat, by omega⟩
            simp only [Int.toNat_natCast] at h3 h4 ⊢
            have hne : ¬ a = b := by omega
            have hset : (hs.set a ((hs.getD a []).set i ((hs.getD b []).getD j 0))).getD b [] = hs.getD b [] := by rw [getD_setL (by omega), if_neg hne]
            have hlen : ((hs.set a ((hs.getD a []).set i ((hs.getD b []).getD j 0))).set b ((hs.getD b []).set j ((hs.getD a []).getD i 0))).length = hs.length := by rw [List.length_set, List.length_set]
            have hget : ∀ m, ((hs.set a ((hs.getD a []).set i ((hs.getD b []).getD j 0))).set b ((hs.getD b []).set j ((hs.getD a []).getD i 0))).getD m [] = if b = m then (hs.getD b []).set j ((hs.getD a []).getD i 0) else if a = m then (hs.getD a []).set i ((hs.getD b []).getD j 0) else hs.getD m [] := fun m => by
              rw [getD_setL (by rw [List.length_set]; omega)]
              by_cases e : b = m
              · rw [if_pos e, if_pos e]
              · rw [if_neg e, if_neg e, getD_setL (by omega)]
            have hrow : ∀ m, (((hs.set a ((hs.getD a []).set i ((hs.getD b []).getD j 0))).set b ((hs.getD b []).set j ((hs.getD a []).getD i 0))).getD m []).length = (hs.getD m []).length := fun m => by
              rw [hget]
              by_cases e : b = m
              · rw [if_pos e, List.length_set, e]
              · rw [if_neg e]
                by_cases e2 : a = m
                · rw [if_pos e2, List.length_set, e2]
                · rw [if_neg e2]
            have hperm : ((hs.set a ((hs.getD a []).set i ((hs.getD b []).getD j 0))).set b ((hs.getD b []).set j ((hs.getD a []).getD i 0))).flatten.Perm hs.flatten := perm_of_count fun z => by
              have c1 := flat_set z hs a ((hs.getD a []).set i ((hs.getD b []).getD j 0)) (by omega)
              have c2 := flat_set z (hs.set a ((hs.getD a []).set i ((hs.getD b []).getD j 0))) b ((hs.getD b []).set j ((hs.getD a []).getD i 0)) (by rw [List.length_set]; omega)
              rw [hset] at c2
              have c3 := count_set z (hs.getD a []) i ((hs.getD b []).getD j 0) (by omega)
              have c4 := count_set z (hs.getD b []) j ((hs.getD a []).getD i 0) (by omega)
              omega
            have v := dealM_valid hs le tr tk wo po lf hd
            generalize (hs.set a ((hs.getD a []).set i ((hs.getD b []).getD j 0))).set b ((hs.getD b []).set j ((hs.getD a []).getD i 0)) = r0 at hlen hget hrow hperm ⊢
            refine ⟨hd, ?_, hlen, hperm.length_eq, fun m q1 q2 => by rw [hget, if_neg (by omega), if_neg (by omega)], lens_eq hlen hrow⟩
            refine dealM_of _ _ _ _ _ _ _ (by have := v.n1; omega) (by have := v.n2; omega) (by have := v.won; omega) (by have := v.pts; omega) ⟨v.l1, by have := v.l2; omega⟩ (dealM_tr hs le tr tk wo po lf hd) ⟨v.f1, v.f2⟩ (by have := v.trick; omega) ?_ v.wons v.ptss fun m hm => ?_
            · rw [← v.hand]; exact handM_perm (hperm.append_right _)
            · rw [hlen] at hm
              rw [hrow, hlen]; exact dealM_sizes hs le tr tk wo po lf hd m hm
          · rw [if_neg h4]; exact ⟨_, _, rfl, (fun h => by cases h), fun _ => rfl⟩
        · rw [if_neg h3]; exact ⟨_, _, rfl, (fun h => by cases h), fun _ => rfl⟩
      · rw [if_neg h2]; exact ⟨_, _, rfl, (fun h => by cases h), fun _ => rfl⟩
    · rw [if_neg h1]; exact ⟨_, _, rfl, (fun h => by cases h), fun _ => rfl⟩
  · rw [if_neg hd]; exact ⟨_, _, rfl, (fun h => by cases h), fun _ => rfl⟩
/-! draws -/
theorem l5Any_tot {c : List Int × Int × Int} (hc : Cur c) : Tot (spec_l5Any c) (fun r => r.1.length ≤ 100 ∧ Cur r.2) := by
  rw [spec_l5Any_eq]
  refine Tot.bind (l1Below_tot hc 9) fun n ⟨hn, n1, n2, _⟩ => ?_
  have n2 := n2 (by decide)
  refine Tot.bind (l5Some_tot hn n.1 (by omega)) fun s ⟨hs, s1⟩ => ?_
  have s2 : s.1.length ≤ 9 := by omega
  refine Tot.dite (fun h0 => Tot.bind (l1Once_tot hs 10) fun t ht => Tot.ite (fun _ => ?_) fun _ => Tot.ret ⟨by show s.1.length ≤ 100; omega, ht⟩) fun _ => Tot.ret ⟨by show s.1.length ≤ 100; omega, hs⟩
  have w : IntKind.i64.wrap ((s.1.length : Int) - 1) = (s.1.length : Int) - 1 := wrap_id (by omega) (by omega)
  refine Tot.guard (by omega) (Tot.guard (by omega) (Tot.bind (l1Int_tot ht (Nat.zero_lt_succ _)) fun q hq => Tot.guard (by omega) (Tot.ret ⟨by show (s.1.set 0 _).length ≤ 100; rw [List.length_set]; omega, hq.1⟩)))
theorem DrawSightOf_tot {a : List Int} (ha : a.length ≤ 1048576) : Tot (spec_DrawSightOf a) (fun r => DrawnD r.1 r.2.2.2.1 r.2.2.2.2.1 r.2.2.2.2.2.1) := by
  rw [spec_DrawSightOf_eq]
  exact Tot.bind (l1New_tot ha) fun c hc => Tot.bind (l12Draw_tot hc) fun d hd => Tot.bind (l1Below_tot hd.2 6) fun m hm => Tot.ret hd.1
theorem DrawSwapHidden_tot {a : List Int} (ha : a.length ≤ 1048576) : Tot (spec_DrawSwapHidden a) (fun r => DrawnD r.1 r.2.2.2.1 r.2.2.2.2.1 r.2.2.2.2.2.1) := by
  rw [spec_DrawSwapHidden_eq]
  exact Tot.bind (DrawSightOf_tot ha) fun d hd => Tot.bind (l1New_tot ha) fun c hc => Tot.bind (l1Below_tot hc 4) fun p hp => Tot.bind (l1Below_tot hp.1 4) fun q hq => Tot.bind (l1Below_tot hq.1 4) fun r hr => Tot.ret hd
theorem DrawVoidIn_tot {a : List Int} (ha : a.length ≤ 1048576) : Tot (spec_DrawVoidIn a) (fun r => DrawnD r.1 r.2.2.2.1 r.2.2.2.2.1 r.2.2.2.2.2.1) := by
  rw [spec_DrawVoidIn_eq]
  exact Tot.bind (DrawSightOf_tot ha) fun d hd => Tot.ret hd
theorem sight_small (hs : List (List Int)) (le tr : Int) (tk wo po : List Int) (lf : Int) (me : Int) (hd : DrawnD hs tk wo po) : (sightM hs le tr tk wo po lf me).2.1.length ≤ 100 ∧ (sightM hs le tr tk wo po lf me).2.2.1.length ≤ 100 ∧ (sightM hs le tr tk wo po lf me).2.2.2.2.2.1.length ≤ 100 ∧ (sightM hs le tr tk wo po lf me).2.2.2.2.2.2.1.length ≤ 100 := by
  obtain ⟨h1, h2, h3, h4, h5, h6, h7⟩ := hd
  unfold sightM
  split
  · refine ⟨?_, by show tk.length ≤ 100; omega, by show (lensM hs).length ≤ 100; rw [lensM_length]; omega, by show wo.length ≤ 100; omega⟩
    show (sortM (hs.getD me.toNat [])).length ≤ 100
    have := getD_le_flat hs me.toNat
    rw [sortM_length]; omega
  · exact ⟨Nat.zero_le _, Nat.zero_le _, Nat.zero_le _, Nat.zero_le _⟩
theorem DrawUnseen_tot {a : List Int} (ha : a.length ≤ 1048576) : Tot (spec_DrawUnseen a) (fun r => r.2.1.length ≤ 100 ∧ r.2.2.1.length ≤ 100 ∧ r.2.2.2.2.2.2.2.length ≤ 100) := by
  rw [spec_DrawUnseen_eq]
  refine Tot.bind (DrawSightOf_tot ha) fun d hd => ?_
  have hsm := sight_small d.1 d.2.1 d.2.2.1 d.2.2.2.1 d.2.2.2.2.1 d.2.2.2.2.2.1 d.2.2.2.2.2.2.1 d.2.2.2.2.2.2.2 hd
  rw [spec_SightOf_ok d.1 d.2.1 d.2.2.1 d.2.2.2.1 d.2.2.2.2.1 d.2.2.2.2.2.1 d.2.2.2.2.2.2.1 d.2.2.2.2.2.2.2 hd.2.2.2.2.2.2 (by have := hd.2.2.1; omega) (by have := hd.2.2.2.1; omega) (by have := hd.2.2.2.2.1; omega), Option.bind_some]
  generalize sightM d.1 d.2.1 d.2.2.1 d.2.2.2.1 d.2.2.2.2.1 d.2.2.2.2.2.1 d.2.2.2.2.2.2.1 d.2.2.2.2.2.2.2 = p at hsm ⊢
  exact Tot.bind (l1New_tot ha) fun c hc => Tot.bind (l5Any_tot hc) fun g hg => Tot.ret ⟨hsm.1, hsm.2.1, hg.1⟩
theorem DrawSameSight_tot {a : List Int} (ha : a.length ≤ 1048576) : Tot (spec_DrawSameSight a) (fun r => (r.2.1.length ≤ 1000 ∧ r.2.2.1.length ≤ 1000 ∧ r.2.2.2.2.2.1.length ≤ 1000 ∧ r.2.2.2.2.2.2.1.length ≤ 1000) ∧ r.2.2.2.2.2.2.2.2.1.length ≤ 1000 ∧ r.2.2.2.2.2.2.2.2.2.1.length ≤ 1000 ∧ r.2.2.2.2.2.2.2.2.2.2.2.2.1.length ≤ 1000 ∧ r.2.2.2.2.2.2.2.2.2.2.2.2.2.length ≤ 1000) := by
  rw [spec_DrawSameSight_eq]
  refine Tot.bind (DrawSightOf_tot ha) fun d hd => ?_
  have hsm := sight_small d.1 d.2.1 d.2.2.1 d.2.2.2.1 d.2.2.2.2.1 d.2.2.2.2.2.1 d.2.2.2.2.2.2.1 d.2.2.2.2.2.2.2 hd
  rw [spec_SightOf_ok d.1 d.2.1 d.2.2.1 d.2.2.2.1 d.2.2.2.2.1 d.2.2.2.2.2.1 d.2.2.2.2.2.2.1 d.2.2.2.2.2.2.2 hd.2.2.2.2.2.2 (by have := hd.2.2.1; omega) (by have := hd.2.2.2.1; omega) (by have := hd.2.2.2.2.1; omega), Option.bind_some]
  generalize sightM d.1 d.2.1 d.2.2.1 d.2.2.2.1 d.2.2.2.2.1 d.2.2.2.2.2.1 d.2.2.2.2.2.2.1 d.2.2.2.2.2.2.2 = p at hsm ⊢
  obtain ⟨q1, q2, q3, q4⟩ := hsm
  have base : p.2.1.length ≤ 1000 ∧ p.2.2.1.length ≤ 1000 ∧ p.2.2.2.2.2.1.length ≤ 1000 ∧ p.2.2.2.2.2.2.1.length ≤ 1000 := ⟨by omega, by omega, by omega, by omega⟩
  refine Tot.bind (l1New_tot ha) fun c hc => ?_
  rw [Option.bind_some]
  refine Tot.bind (l1Below_tot hc 4) fun s hs => Tot.ite (fun _ => Tot.guard (by rw [List.length_singleton]; omega) (Tot.ret ⟨base, ?_, base.2.1, base.2.2.1, base.2.2.2⟩)) fun _ => Tot.ite (fun _ => Tot.ret ⟨base, base⟩) fun _ => Tot.ret ⟨base, base⟩
  show (p.2.1 ++ [(3 : Int)]).length ≤ 1000
  rw [List.length_append, List.length_singleton]; omega
end Go.Proofs.Ytoioaijpdiglfaa.V
