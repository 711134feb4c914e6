/- Plain laws over the shapes. -/
import Derived.Test.YtenojifdoofcfaaPDraws
import Derived.Test.YtenojifdoofcfaaLFnPatience
import Derived.Test.YtenojifdoofcfaaFIsPatience
import Derived.Test.YtenojifdoofcfaaFMovePile
import Derived.Test.YtenojifdoofcfaaFMoveWaste
import Derived.Test.YtenojifdoofcfaaFNewPatience
import Derived.Test.YtenojifdoofcfaaS1
import Derived.Test.YtenojifdoofcfaaS4
import Derived.Test.YtenojifdoofcfaaS6
import Derived.Test.YtenojifdoofcfaaS7
set_option linter.unusedVariables false
set_option linter.unusedSimpArgs false
set_option maxRecDepth 10000
namespace Go.Proofs.Ytenojifdoofcfaa.V
open Go
theorem laws_sum_ok (l : List Int) (hl : l.length ≤ 4398046511104) : laws_sum l = some (sumW l) := by
  have h : ∀ i, i ≤ l.length → laws_sum_L3 l (sumW (l.take i)) i = some (sumW l) := down (by
      rw [laws_sum_L3_eq]
      simp (disch := (first | omega | (simp only [List.length_append, List.length_cons, List.length_nil, List.length_take, List.length_drop, List.length_set, List.length_replicate, List.length_singleton]; omega))) only [↓if_dpos, ↓if_dneg, ↓if_epos, ↓if_eneg, ↓if_npos, ↓if_nneg, ↓if_pos, ↓if_neg, Int.toNat_natCast, List.nil_append, Nat.zero_add, List.length_singleton, Option.bind_some, List.drop_zero, List.take_length, if_true, if_false, ]) fun i hi ih => by
    have hil : (i : Int) < (l.length : Int) := by omega
    have hw : IntKind.i64.wrap ((i : Int) + 1) = ((i + 1 : Nat) : Int) := wrap_succ hi (by omega)
    rw [laws_sum_L3_eq]
    simp (disch := (first | omega | (simp only [List.length_append, List.length_cons, List.length_nil, List.length_take, List.length_drop, List.length_set, List.length_replicate, List.length_singleton]; omega))) only [↓if_dpos, ↓if_dneg, ↓if_epos, ↓if_eneg, ↓if_npos, ↓if_nneg, ↓if_pos, ↓if_neg, hw, Int.toNat_natCast, List.nil_append, Nat.zero_add, List.length_singleton, Option.bind_some, List.drop_zero, List.take_length, if_true, if_false, ]
    rw [← ih]
    unfold sumW
    rw [foldl_take (d := 0) hi]
  rw [laws_sum_eq]
  exact h 0 (Nat.zero_le _)
theorem base_four {b : List Int} (h : baseM b = true) : ∃ x y z w : Int, b = [x, y, z, w] ∧ (0 ≤ x ∧ x ≤ 13) ∧ (0 ≤ y ∧ y ≤ 13) ∧ (0 ≤ z ∧ z ≤ 13) ∧ 0 ≤ w ∧ w ≤ 13 := by
  have hl := baseM_len h
  have h0 := baseM_get h (i := 0) (by omega)
  have h1 := baseM_get h (i := 1) (by omega)
  have h2 := baseM_get h (i := 2) (by omega)
  have h3 := baseM_get h (i := 3) (by omega)
  match b, hl with
  | [x, y, z, w], _ => exact ⟨x, y, z, w, rfl, h0, h1, h2, h3⟩
theorem sum_four {x y z w : Int} (h0 : 0 ≤ x ∧ x ≤ 14) (h1 : 0 ≤ y ∧ y ≤ 14) (h2 : 0 ≤ z ∧ z ≤ 14) (h3 : 0 ≤ w ∧ w ≤ 14) : sumW [x, y, z, w] = x + y + z + w := by
  show IntKind.i64.wrap (IntKind.i64.wrap (IntKind.i64.wrap (IntKind.i64.wrap (0 + x) + y) + z) + w) = _
  rw [wrap_id (x := 0 + x) (by omega) (by omega), wrap_id (x := 0 + x + y) (by omega) (by omega), wrap_id (x := 0 + x + y + z) (by omega) (by omega), wrap_id (by omega) (by omega)]
  omega
theorem sum_up {b : List Int} (h : baseM b = true) {i : Nat} (hi : i < 4) : sumW (b.set i (b.getD i 0 + 1)) = IntKind.i64.wrap (sumW b + 1) := by
  obtain ⟨x, y, z, w, rfl, h0, h1, h2, h3⟩ := base_four h
  rw [sum_four (by omega) (by omega) (by omega) (by omega), wrap_id (by omega) (by omega)]
  match i, hi with
  | 0, _ => show sumW [x + 1, y, z, w] = _; rw [sum_four (by omega) (by omega) (by omega) (by omega)]; omega
  | 1, _ => show sumW [x, y + 1, z, w] = _; rw [sum_four (by omega) (by omega) (by omega) (by omega)]; omega
  | 2, _ => show sumW [x, y, z + 1, w] = _; rw [sum_four (by omega) (by omega) (by omega) (by omega)]; omega
  | 3, _ => show sumW [x, y, z, w + 1] = _; rw [sum_four (by omega) (by omega) (by omega) (by omega)]; omega
def wonM (ps : List (List Int × Int)) (b st wa : List Int) : Bool := patM ps b st wa && decide ((baseCM b).length = 52)
theorem impl_IsWon_ok (ps : List (List Int × Int)) (b st wa : List Int) (hp : PH ps b st wa) : impl_IsWon ps b st wa = some (wonM ps b st wa) := by
  obtain ⟨q1, q2, q3, q4⟩ := hp
  rw [impl_IsWon_eq, impl_IsPatience_ok ps b st wa q1 (by omega) (by omega) (by omega), Option.bind_some, impl_BaseCards_ok _ (by omega), Option.bind_some, wonM]
  cases patM ps b st wa
  · rfl
  · rw [if_pos rfl, Bool.true_and]
    congr 1
    rw [Bool.eq_iff_iff, beq_iff_eq, decide_eq_true_eq]; omega
theorem won_sum (ps : List (List Int × Int)) (b st wa : List Int) (h : wonM ps b st wa = true) : sumW b = 52 := by
  rw [wonM, Bool.and_eq_true, decide_eq_true_eq] at h
  obtain ⟨h1, h2⟩ := h
  have hb := ((patM_iff ps b st wa).1 h1).2.1
  rw [baseCM, if_pos hb] at h2
  have hall := List.length_filter_eq_length_iff.1 (h2.trans (cards52_length 52).symm)
  have at' : ∀ n : Nat, n < 52 → stepM (n : Int) ≤ b.getD (suitM (n : Int)).toNat 0 := fun n hn => by
    have := hall (n : Int) (List.mem_map.2 ⟨n, List.mem_range.2 hn, rfl⟩)
    simpa [baseP] using this
  have e0 := at' 11 (by omega)
  have e1 := at' 24 (by omega)
  have e2 := at' 37 (by omega)
  have e3 := at' 50 (by omega)
  obtain ⟨x, y, z, w, rfl, k0, k1, k2, k3⟩ := base_four hb
  have e0 : 13 ≤ x := e0
  have e1 : 13 ≤ y := e1
  have e2 : 13 ≤ z := e2
  have e3 : 13 ≤ w := e3
  rw [sum_four (by omega) (by omega) (by omega) (by omega)]; omega
theorem isP_of (ps : List (List Int × Int)) (b st wa : List Int) (h : patM ps b st wa = true) : impl_IsPatience ps b st wa = some true := by
  obtain ⟨q1, q2, q3, q4⟩ := patM_ph ps b st wa h
  rw [impl_IsPatience_ok ps b st wa q1 (by omega) (by omega) (by omega), h]
theorem patience_t1 (a0 : List Int) (ha : a0.length ≤ 1048576) : ((spec_DrawNewPatience a0).bind fun c16 => ((impl_NewPatience c16.1 c16.2).bind fun c17 => ((spec_NewPatience c16.1 c16.2).bind fun c18 => (if (c17.2.2.2.2 != c18.2.2.2.2) = true then (some false) else ((spec_DrawIsWon a0).bind fun c19 => (if (!c17.2.2.2.2) = true then ((impl_IsWon c19.1 c19.2.1 c19.2.2.1 c19.2.2.2).bind fun c20 => (if (!c20) = true then (some true) else ((laws_sum c19.2.1).bind fun c21 => (some (c21 == 52))))) else ((impl_IsPatience c17.1 c17.2.1 c17.2.2.1 c17.2.2.2.1).bind fun c22 => (if c22 = true then ((impl_IsWon c17.1 c17.2.1 c17.2.2.1 c17.2.2.2.1).bind fun c23 => (if (!c23) = true then ((impl_IsWon c19.1 c19.2.1 c19.2.2.1 c19.2.2.2).bind fun c24 => (if (!c24) = true then (some true) else ((laws_sum c19.2.1).bind fun c25 => (some (c25 == 52))))) else (some false))) else (some false))))))))) = some true := by
  obtain ⟨⟨deck, n⟩, e1, b1⟩ := DrawNewPatience_tot ha
  obtain ⟨⟨ps, b, st, wa⟩, e2, b2⟩ := DrawIsWon_tot ha
  dsimp only at b1 b2
  have w := impl_IsWon_ok ps b st wa b2
  have hs := laws_sum_ok b (by have := b2.b; omega)
  rw [e1, Option.bind_some]
  dsimp only
  rw [bindF (impl_NewPatience_ok deck n (by omega)), bindF (spec_NewPatience_ok deck n (by omega)), e2, bne_self_eq_false, if_neg (by decide), Option.bind_some]
  dsimp only
  have fin : ((impl_IsWon ps b st wa).bind fun c20 => (if (!c20) = true then (some true) else ((laws_sum b).bind fun c21 => (some (c21 == 52))))) = some true := by
    rw [w, Option.bind_some]
    cases hw : wonM ps b st wa
    · rfl
    · rw [if_neg (by decide), hs, Option.bind_some, won_sum ps b st wa hw]; rfl
  cases ho : (newPM deck n).2.2.2.2 with
  | false => rw [if_pos (by decide)]; exact fin
  | true =>
    obtain ⟨k1, k2, k3⟩ := newPM_pat ho
    have w2 := impl_IsWon_ok _ _ _ _ (patM_ph _ _ _ _ k1)
    rw [if_neg (by decide), bindF (isP_of _ _ _ _ k1), if_pos rfl, bindF w2, wonM, k2, if_pos (by cases patM (newPM deck n).1 (newPM deck n).2.1 (newPM deck n).2.2.1 (newPM deck n).2.2.2.1 <;> rfl)]
    exact fin
theorem laws_FnPatience_ok (a0 : List Int) : laws_FnPatience a0 = some true := by
  rw [laws_FnPatience_eq, laws_big_eq, Option.bind_some]
  by_cases hb : (a0.length : Int) > 1048576
  · rw [if_dpos hb]
  rw [if_dneg hb]
  have ha : a0.length ≤ 1048576 := by omega
  have t1 := patience_t1 a0 ha
  obtain ⟨⟨ps1, b1, st1, wa1⟩, e1, q1⟩ := DrawTurn_tot ha
  obtain ⟨⟨ps2, b2, st2, wa2, fr, to, n⟩, e2, q2⟩ := DrawMovePile_tot ha
  obtain ⟨⟨ps3, b3, st3, wa3, k⟩, e3, q3⟩ := DrawMoveWaste_tot ha
  obtain ⟨⟨ps4, b4, st4, wa4, m⟩, e4, q4⟩ := DrawMoveUp_tot ha
  dsimp only at q1 q2 q3 q4
  have m1 := impl_Turn_ok ps1 b1 st1 wa1 q1.p (by have := q1.b; omega) (by have := q1.s; omega) (by have := q1.w; omega)
  have m2 := impl_MovePile_ok ps2 b2 st2 wa2 fr to n q2.p (by have := q2.b; omega) (by have := q2.s; omega) (by have := q2.w; omega)
  have m3 := impl_MoveWaste_ok ps3 b3 st3 wa3 k q3.p (by have := q3.b; omega) (by have := q3.s; omega) (by have := q3.w; omega)
  have m4 := impl_MoveUp_ok ps4 b4 st4 wa4 m q4.p (by have := q4.b; omega) (by have := q4.s; omega) (by have := q4.w; omega)
  rw [e1, Option.bind_some]
  dsimp only
  rw [bindF m1, e2, Option.bind_some]
  dsimp only
  rw [bindF m2, e3, Option.bind_some]
  dsimp only
  rw [bindF m3, e4, Option.bind_some]
  dsimp only
  rw [bindF m4]
  have f1 : (turnM ps1 b1 st1 wa1).2.2.2.2 = true → patM (turnM ps1 b1 st1 wa1).1 (turnM ps1 b1 st1 wa1).2.1 (turnM ps1 b1 st1 wa1).2.2.1 (turnM ps1 b1 st1 wa1).2.2.2.1 = true := fun ho => by
    cases hp : patM ps1 b1 st1 wa1 with
    | false => rw [turnM_no _ _ _ _ hp] at ho; cases ho
    | true => exact turnM_pat _ _ _ _ hp
  have f2 : (movePileM ps2 b2 st2 wa2 fr to n).2.2.2.2 = true → patM (movePileM ps2 b2 st2 wa2 fr to n).1 (movePileM ps2 b2 st2 wa2 fr to n).2.1 (movePileM ps2 b2 st2 wa2 fr to n).2.2.1 (movePileM ps2 b2 st2 wa2 fr to n).2.2.2.1 = true := fun ho => by
    cases hp : patM ps2 b2 st2 wa2 with
    | false => rw [movePileM_no _ _ _ _ _ _ _ hp] at ho; cases ho
    | true => exact movePileM_pat _ _ _ _ _ _ _ hp
  have f3 : (moveWasteM ps3 b3 st3 wa3 k).2.2.2.2 = true → patM (moveWasteM ps3 b3 st3 wa3 k).1 (moveWasteM ps3 b3 st3 wa3 k).2.1 (moveWasteM ps3 b3 st3 wa3 k).2.2.1 (moveWasteM ps3 b3 st3 wa3 k).2.2.2.1 = true := fun ho => by
    cases hp : patM ps3 b3 st3 wa3 with
    | false => rw [moveWasteM_no _ _ _ _ _ hp] at ho; cases ho
    | true => exact moveWasteM_pat _ _ _ _ _ hp
  have f4 : (moveUpM ps4 b4 st4 wa4 m).2.2.2.2 = true → patM (moveUpM ps4 b4 st4 wa4 m).1 (moveUpM ps4 b4 st4 wa4 m).2.1 (moveUpM ps4 b4 st4 wa4 m).2.2.1 (moveUpM ps4 b4 st4 wa4 m).2.2.2.1 = true ∧ sumW (moveUpM ps4 b4 st4 wa4 m).2.1 = IntKind.i64.wrap (sumW b4 + 1) ∧ (moveUpM ps4 b4 st4 wa4 m).2.1.length ≤ 1000000 := fun ho => by
    cases hp : patM ps4 b4 st4 wa4 with
    | false => rw [moveUpM_no _ _ _ _ _ hp] at ho; cases ho
    | true =>
      obtain ⟨g1, g2⟩ := moveUpM_pat _ _ _ _ m hp
      obtain ⟨i, hi, g3⟩ := g2 ho
      exact ⟨g1, by rw [g3]; exact sum_up ((patM_iff ..).1 hp).2.1 hi, (patM_ph _ _ _ _ g1).b⟩
  have s4 := laws_sum_ok b4 (by have := q4.b; omega)
  generalize turnM ps1 b1 st1 wa1 = r1 at f1 ⊢
  generalize movePileM ps2 b2 st2 wa2 fr to n = r2 at f2 ⊢
  generalize moveWasteM ps3 b3 st3 wa3 k = r3 at f3 ⊢
  generalize moveUpM ps4 b4 st4 wa4 m = r4 at f4 ⊢
  have i1 : r1.2.2.2.2 = true → impl_IsPatience r1.1 r1.2.1 r1.2.2.1 r1.2.2.2.1 = some true := fun h => isP_of _ _ _ _ (f1 h)
  have i2 : r2.2.2.2.2 = true → impl_IsPatience r2.1 r2.2.1 r2.2.2.1 r2.2.2.2.1 = some true := fun h => isP_of _ _ _ _ (f2 h)
  have i3 : r3.2.2.2.2 = true → impl_IsPatience r3.1 r3.2.1 r3.2.2.1 r3.2.2.2.1 = some true := fun h => isP_of _ _ _ _ (f3 h)
  have i4 : r4.2.2.2.2 = true → impl_IsPatience r4.1 r4.2.1 r4.2.2.1 r4.2.2.2.1 = some true := fun h => isP_of _ _ _ _ (f4 h).1
  have i5 : r4.2.2.2.2 = true → laws_sum r4.2.1 = some (IntKind.i64.wrap (sumW b4 + 1)) := fun h => by rw [laws_sum_ok _ (by have := (f4 h).2.2; omega), (f4 h).2.1]
  clear f1 f2 f3 f4
  generalize r1.2.2.2.2 = o1 at i1 ⊢
  generalize r2.2.2.2.2 = o2 at i2 ⊢
  generalize r3.2.2.2.2 = o3 at i3 ⊢
  generalize r4.2.2.2.2 = o4 at i4 i5 ⊢
  have j1 := fun (h : o1 = true) (k : Bool → Option Bool) => bindF (i1 h) k
  have j2 := fun (h : o2 = true) (k : Bool → Option Bool) => bindF (i2 h) k
  have j3 := fun (h : o3 = true) (k : Bool → Option Bool) => bindF (i3 h) k
  have j4 := fun (h : o4 = true) (k : Bool → Option Bool) => bindF (i4 h) k
  have j5 := fun (h : o4 = true) (k : Int → Option Bool) => bindF (i5 h) k
  cases o1 <;> cases o2 <;> cases o3 <;> cases o4 <;> simp only [↓if_true, ↓if_false, Bool.false_eq_true, Bool.not_true, ↓j1, ↓j2, ↓j3, ↓j4, ↓j5, ↓bindF s4, bne_self_eq_false, ↓t1]
theorem law_FnPatience (x : den (parTy HH 10)) (hx : Fit Try.prog (parTy HH 10) x) : ∃ n, frun Try.prog HH n 10 x = some true := run_some (laws_FnPatience_ok x)
end Go.Proofs.Ytenojifdoofcfaa.V
