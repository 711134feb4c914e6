/- Operations that make rows and boxes. -/
import Derived.Test.YtoioaijpdiglfaaVOps5
import Derived.Great.BuildSlice
import Derived.Deep.OwnRows
import Derived.Maps.AppendAt
set_option linter.unusedVariables false
set_option linter.unusedSimpArgs false
namespace Go.Proofs.Ytoioaijpdiglfaa.V
open Go Go.RowKit
/-- Of flat data, what is read is as good as owned. -/
theorem flat_Own {w w' : World} {ok : Nat → Prop} {χ : Nat → List Nat} : ∀ {t : Ty} {p : List Nat} {x : den t} {cs : List Value}, flat t = true → Rd w ok t x cs → Own w' χ t p x cs
  | .int _, _, _, _, _, h => h
  | .bool, _, _, _, _, h => h
  | .str, _, _, _, _, h => h
  | .pair a b, p, x, cs, hf, ⟨c0, c1, h, h0, h1⟩ => by
    simp only [flat, Bool.and_eq_true] at hf
    exact ⟨c0, c1, h, flat_Own hf.1 h0, flat_Own hf.2 h1⟩
  | .sl _ _, _, _, _, hf, _ => by cases hf
  | .unit, _, _, _, _, h => h
  | .ptr _ _, _, _, _, hf, _ => by cases hf
theorem flat_Rd {w w' : World} {ok ok' : Nat → Prop} : ∀ {t : Ty} {x : den t} {cs : List Value}, flat t = true → Rd w ok t x cs → Rd w' ok' t x cs
  | .int _, _, _, _, h => h
  | .bool, _, _, _, h => h
  | .str, _, _, _, h => h
  | .pair a b, x, cs, hf, ⟨c0, c1, h, h0, h1⟩ => by
    simp only [flat, Bool.and_eq_true] at hf
    exact ⟨c0, c1, h, flat_Rd hf.1 h0, flat_Rd hf.2 h1⟩
  | .sl _ _, _, _, hf, _ => by cases hf
  | .unit, _, _, _, h => h
  | .ptr _ _, _, _, hf, _ => by cases hf
theorem flat_El {w w' : World} {ok : Nat → Prop} {χ : Nat → List Nat} {d : Bool} {t : Ty} {p : List Nat} {x : den t} {cs : List Value} (hf : flat t = true) (h : Rd w ok t x cs) : El w' χ d t p x cs := by
  cases d with
  | true => exact flat_Own hf h
  | false => exact flat_Rd hf h
theorem El_any {w : World} {χ : Nat → List Nat} {d : Bool} {t : Ty} {p : List Nat} {x : den t} {cs : List Value} (h : El w χ d t p x cs) : Rd w (fun _ => True) t x cs := El_Rd (fun _ _ _ => trivial) (fun _ _ => trivial) h
/-- An element in other colours, perhaps no longer owned. -/
theorem El_to {w w' : World} {χ χ' : Nat → List Nat} {d d' : Bool} {t : Ty} {p p' : List Nat} {x : den t} {cs : List Value} (hp : noP t = true) (hd : d' = true → d = true)
    (hm : ∀ k r, χ k = p ++ r → k < w.heap.size → (d' = true → χ' k = p' ++ r) ∧ (d' = false → χ' k = []) ∧ w'.heap[k]? = w.heap[k]?) (he : ∀ k, χ k = [] → k < w.heap.size → χ' k = [] ∧ w'.heap[k]? = w.heap[k]?) (h : El w χ d t p x cs) : El w' χ' d' t p' x cs := by
  cases d' with
  | true =>
    have hd := hd rfl
    subst hd
    exact Own_step hp (fun k r hk hl => ⟨(hm k r hk hl).1 rfl, (hm k r hk hl).2.2⟩) h
  | false =>
    cases d with
    | true => exact Rd_step (fun k ⟨r, hk⟩ hl => ⟨(hm k r hk hl).2.1 rfl, (hm k r hk hl).2.2⟩) (Own_Rd (ok := fun k => ∃ r, χ k = p ++ r) (fun k r hk => ⟨r, hk⟩) h)
    | false => exact Rd_step he h
theorem zero_Own {w : World} {χ : Nat → List Nat} {t : Ty} {p : List Nat} {z : Value} (hz : zeroIs t z = true) : Own w χ t p (dflt t) [z] := by
  unfold zeroIs at hz
  split at hz
  · simp only [Bool.and_eq_true, decide_eq_true_eq] at hz
    rw [hz.1, hz.2]; rfl
  · rename_i b
    have hz : b = false := by simpa using hz
    rw [hz]; rfl
  · rename_i s
    have hz := Nat.eq_of_beq_eq_true hz
    have : s = ByteArray.empty := by
      apply ByteArray.ext
      exact Array.eq_empty_of_size_eq_zero hz
    rw [this]; rfl
  · exact ⟨.slice none 0 0, [], rfl, World.ownsRow_nil _ _ _ _, fun k hk => by simp [Value.ownBlock] at hk, fun j x hx => by simp [dflt] at hx⟩
  · cases hz
theorem zerosAre_app : ∀ {ts us : List Ty} {zs : List Value}, zerosAre (ts ++ us) zs = true → ∃ z1 z2, zs = z1 ++ z2 ∧ zerosAre ts z1 = true ∧ zerosAre us z2 = true
  | [], us, zs, h => ⟨[], zs, rfl, rfl, h⟩
  | t :: ts, us, [], h => by cases h
  | t :: ts, us, z :: zs, h => by
    simp only [List.cons_append, zerosAre, Bool.and_eq_true] at h
    obtain ⟨z1, z2, h1, h2, h3⟩ := zerosAre_app h.2
    exact ⟨z :: z1, z2, by rw [h1]; rfl, by simp only [zerosAre, h.1, h2, Bool.and_self], h3⟩
theorem zeros_Own {w : World} {χ : Nat → List Nat} : ∀ {t : Ty} {p : List Nat} {zs : List Value}, zerosAre (leafTys t) zs = true → Own w χ t p (dflt t) zs := by
  have one : ∀ {t : Ty} {p : List Nat} {zs : List Value}, zerosAre [t] zs = true → Own w χ t p (dflt t) zs := fun {t p zs} h => by
    cases zs with
    | nil => cases h
    | cons z r =>
      cases r with
      | cons _ _ => simp [zerosAre] at h
      | nil =>
        simp only [zerosAre, Bool.and_true] at h
        exact zero_Own h
  intro t
  induction t with
  | pair a b iha ihb =>
    intro p zs h
    obtain ⟨z1, z2, h1, h2, h3⟩ := zerosAre_app (show zerosAre (leafTys a ++ leafTys b) zs = true from h)
    exact ⟨z1, z2, h1, iha h2, ihb h3⟩
  | unit => intro p zs h; cases zs with
    | nil => rfl
    | cons _ _ => cases h
  | _ => intro p zs h; exact one h
section
variable {P : Program} {o : Oper} {M M' : Nat → Prop} {N key κ : Nat} {w0 w w' : World} {keep : Kp} {f : Nat → Val} {c : Ctx} {a : Act} {R : Type} {k : Wr → Option R} {r : R}
/-- A root that is whole: its row, owned. -/
theorem root_Own (h : Rel M N w0 keep f c a w) {κ : Nat} {rt : Root} (er : f (rl κ) = .root rt) (hh : rt.hole = none) (hd : (rt.deep || flat rt.t) = true) : Own w c.χ (.sl rt.e rt.t) [κ + 1] rt.xs [c.hdr κ] := by
  obtain ⟨hwid, hpos, hnop, hgen, hhole, v, inner, hv, ho, hc, hel⟩ := (h.roots κ rt er).1
  rw [hh] at hel
  refine ⟨v, inner, by rw [hv], ho, hc, fun j x hx => ?_⟩
  have := hel j x hx
  cases hdp : rt.deep with
  | true => rw [hdp] at this; exact this
  | false =>
    rw [hdp, Bool.false_or] at hd
    exact flat_Own hd (El_any this)
theorem moveOk_own {κ : Nat} (h : moveOk f (.own κ) = true) : ∃ rt, f (rl κ) = .root rt ∧ rt.hole = none ∧ rt.deep = true := by
  simp only [moveOk] at h
  split at h
  · rename_i rt er
    simp only [Bool.and_eq_true, Option.isNone_iff_eq_none] at h
    exact ⟨rt, er, h.2, h.1⟩
  · cases h
/-- A leaf that is moved into its place. -/
theorem leaf_into (h : Rel M N w0 keep f c a w) {χ' : Nat → List Nat} {s : Ty} {v : V} {d : Value} {y : den s} {p : List Nat} (hs : noP s = true) (hv : VR w c v d) (ho : moveOk f v = true)
    (hp : ∀ κ, v = .own κ → ∀ k q, c.χ k = (κ + 1) :: q → k < w.heap.size → χ' k = p ++ q ∧ w'.heap[k]? = w.heap[k]?) (hy : packV f s v = some y) : Own w' χ' s p y [d] := by
  have hrd := packV_ok h hv hy
  cases s with
  | int _ => exact hrd
  | bool => exact hrd
  | str => exact hrd
  | pair _ _ => cases v <;> cases hy
  | unit => cases v <;> cases hy
  | ptr _ _ => cases hs
  | sl e t =>
    have hy : readL f e t v = some y := hy
    cases v with
    | nil =>
      have hy : y = [] := by simpa [readL] using hy.symm
      subst hy
      exact ⟨.slice none 0 0, [], by rw [show d = _ from hv], World.ownsRow_nil _ _ _ _, fun k hk => by simp [Value.ownBlock] at hk, fun j x hx => by simp at hx⟩
    | own κ =>
      have hv : d = c.hdr κ := hv
      obtain ⟨rt, er, hh, hdp⟩ := moveOk_own ho
      simp only [readL, er, hh] at hy
      cases he : Nat.beq rt.e e with
      | false => rw [he] at hy; cases hy
      | true =>
        rw [he, cond_true] at hy
        have he := Nat.eq_of_beq_eq_true he
        obtain ⟨hts, hxs⟩ := castTo_some hy
        have hown := root_Own h er hh (by rw [hdp]; rfl)
        obtain ⟨re, rt', rxs, rd, rg, rh⟩ := rt
        simp only at he hts hxs hown
        injection hts with _ hts
        subst hts
        subst he
        have hxs : y = rxs := hxs
        subst hxs
        rw [hv]
        exact Own_step hs (fun k q hq hl => hp κ rfl k q hq hl) hown
    | _ => first | (cases ho; done) | cases hy
theorem lp_app_fst {a b : Ty} {o : Nat} (h : o < width a) : lp (.pair a b) o = 0 :: lp a o := by
  have : Nat.blt o (width a) = true := by simpa [Nat.blt_eq] using h
  simp only [lp, this, cond_true]
theorem lp_app_snd {a b : Ty} {o : Nat} : lp (.pair a b) (width a + o) = 1 :: lp b o := by
  have : Nat.blt (width a + o) (width a) = false := by
    cases e : Nat.blt (width a + o) (width a) with
    | false => rfl
    | true => have : width a + o < width a := by simpa [Nat.blt_eq] using e
              omega
  simp only [lp, this, cond_false, Nat.add_sub_cancel_left]
/-- An element made of leaves that are moved into their places. -/
theorem leaves_into (h : Rel M N w0 keep f c a w) {χ' : Nat → List Nat} : ∀ {t : Ty} {p : List Nat} {vs : List V} {cs : List Value} {x : den t}, noP t = true → All2 (VR w c) vs cs → vs.all (moveOk f) = true →
    (∀ o κ, vs[o]? = some (.own κ) → ∀ k q, c.χ k = (κ + 1) :: q → k < w.heap.size → χ' k = p ++ (lp t o ++ q) ∧ w'.heap[k]? = w.heap[k]?) → packs f t vs = some x → Own w' χ' t p x cs := by
  have one : ∀ {t : Ty} {p : List Nat} {vs : List V} {cs : List Value} {x : den t}, noP t = true → (∀ o, lp t o = []) → (∀ us, packs f t us = some x → ∃ v, us = [v] ∧ packV f t v = some x) → All2 (VR w c) vs cs → vs.all (moveOk f) = true →
    (∀ o κ, vs[o]? = some (.own κ) → ∀ k q, c.χ k = (κ + 1) :: q → k < w.heap.size → χ' k = p ++ (lp t o ++ q) ∧ w'.heap[k]? = w.heap[k]?) → packs f t vs = some x → Own w' χ' t p x cs := fun {t p vs cs x} hp hlp hone hall hok hcol hx => by
    obtain ⟨v, rfl, hv⟩ := hone vs hx
    cases cs with
    | nil => exact hall.elim
    | cons d r => cases r with
      | cons _ _ => exact hall.2.elim
      | nil =>
        simp only [List.all_cons, List.all_nil, Bool.and_true] at hok
        refine leaf_into h hp hall.1 hok (fun κ e k q hk hl => ?_) hv
        have := hcol 0 κ (by rw [e]; rfl) k q hk hl
        rw [hlp] at this; exact this
  intro t
  induction t with
  | pair a b iha ihb =>
    intro p vs cs x hp hall hok hcol hx
    simp only [noP, Bool.and_eq_true] at hp
    simp only [packs] at hx
    split at hx
    · rename_i x1 x2 e1 e2
      injection hx with hx; subst hx
      have hl1 : (vs.take (width a)).length = width a := by
        have := Rd_len (packs_ok h (hall.take (width a)) e1)
        rw [← (hall.take (width a)).len] at this; exact this
      refine ⟨cs.take (width a), cs.drop (width a), (List.take_append_drop _ _).symm, iha hp.1 (hall.take _) (List.all_eq_true.2 fun v hv => List.all_eq_true.1 hok v (List.mem_of_mem_take hv)) (fun o κ ho k q hk hl => ?_) e1, ihb hp.2 (hall.drop _) (List.all_eq_true.2 fun v hv => List.all_eq_true.1 hok v (List.mem_of_mem_drop hv)) (fun o κ ho k q hk hl => ?_) e2⟩
      · have hol : o < width a := by have := (List.getElem?_eq_some_iff.1 ho).1; omega
        rw [List.getElem?_take, if_pos hol] at ho
        have := hcol o κ ho k q hk hl
        rw [lp_app_fst hol] at this
        rw [List.append_assoc]; exact this
      · rw [List.getElem?_drop] at ho
        have := hcol _ κ ho k q hk hl
        rw [lp_app_snd] at this
        rw [List.append_assoc]; exact this
    · cases hx
  | unit =>
    intro p vs cs x _ hall _ _ hx
    cases vs with
    | cons _ _ => cases hx
    | nil => cases cs with
      | nil => rfl
      | cons _ _ => exact hall.elim
  | ptr _ _ _ => intro p vs cs x hp; cases hp
  | int k => intro p vs cs x hp hall hok hcol hx; exact one hp (fun _ => rfl) (fun us h => by
      cases us with
      | nil => cases h
      | cons v r => cases r with
        | nil => exact ⟨v, rfl, h⟩
        | cons _ _ => cases h) hall hok hcol hx
  | bool => intro p vs cs x hp hall hok hcol hx; exact one hp (fun _ => rfl) (fun us h => by
      cases us with
      | nil => cases h
      | cons v r => cases r with
        | nil => exact ⟨v, rfl, h⟩
        | cons _ _ => cases h) hall hok hcol hx
  | str => intro p vs cs x hp hall hok hcol hx; exact one hp (fun _ => rfl) (fun us h => by
      cases us with
      | nil => cases h
      | cons v r => cases r with
        | nil => exact ⟨v, rfl, h⟩
        | cons _ _ => cases h) hall hok hcol hx
  | sl e t _ => intro p vs cs x hp hall hok hcol hx; exact one hp (fun _ => rfl) (fun us h => by
      cases us with
      | nil => cases h
      | cons v r => cases r with
        | nil => exact ⟨v, rfl, h⟩
        | cons _ _ => cases h) hall hok hcol hx
/-! roots that are used up -/
theorem upds_drop {ks : List Nat} {l : Nat} : upds f (dropKeys ks) l = if ∃ κ ∈ ks, l = rl κ then .none else f l := by
  unfold dropKeys
  induction ks generalizing f with
  | nil => rw [if_neg (by rintro ⟨κ, h, _⟩; cases h)]; rfl
  | cons κ ks ih =>
    show upds (upd1 f (rl κ) .none) (ks.map fun κ => (rl κ, Val.none)) l = _
    rw [ih, upd1_eq]
    by_cases h1 : ∃ κ ∈ ks, l = rl κ
    · rw [if_pos h1, if_pos]
      obtain ⟨j, hj, e⟩ := h1
      exact ⟨j, List.mem_cons_of_mem _ hj, e⟩
    · rw [if_neg h1]
      by_cases h2 : l = rl κ
      · rw [if_pos h2, if_pos ⟨κ, List.mem_cons_self, h2⟩]
      · rw [if_neg h2, if_neg]
        rintro ⟨j, hj, e⟩
        rcases List.mem_cons.1 hj with e' | e'
        · exact h2 (by rw [e, e'])
        · exact h1 ⟨j, e', e⟩
theorem fzX_root {x : Val} {r : Root} (h : fzX x = .root r) : False := by cases x <;> cases h
theorem upds_fz {g : Nat → Val} {ks : List Nat} {l : Nat} : upds f (fzW g ks) l = if ∃ κ ∈ ks, l = rl κ then fzX (g l) else f l := by
  unfold fzW
  induction ks generalizing f with
  | nil => rw [if_neg (by rintro ⟨κ, h, _⟩; cases h)]; rfl
  | cons κ ks ih =>
    show upds (upd1 f (rl κ) (fzX (g (rl κ)))) (ks.map fun κ => (rl κ, fzX (g (rl κ)))) l = _
    rw [ih, upd1_eq]
    by_cases h1 : ∃ κ ∈ ks, l = rl κ
    · rw [if_pos h1, if_pos]
      obtain ⟨j, hj, e⟩ := h1
      exact ⟨j, List.mem_cons_of_mem _ hj, e⟩
    · rw [if_neg h1]
      by_cases h2 : l = rl κ
      · rw [if_pos h2, if_pos ⟨κ, List.mem_cons_self, h2⟩, h2]
      · rw [if_neg h2, if_neg]
        rintro ⟨j, hj, e⟩
        rcases List.mem_cons.1 hj with e' | e'
        · exact h2 (by rw [e, e'])
        · exact h1 ⟨j, e', e⟩
/-- A new root: its row was made, or grown, just now. ks: the roots that it took the place of, ρ: the new colours of their blocks. -/
theorem Rel.newRoot (h : Rel M N w0 keep f c a w) (hκ : ¬ M κ) (hLe : Le M M') (hM' : M' κ) (ks : List Nat) (ρ : List Nat → List Nat) {e : Nat} {t : Ty} {xs : List (den t)} {v : Value} {inner : List Value} {row : Option Nat} {d : Bool} (hg : w.grownBy w' row)
    (hρ : ∀ q, (∀ κ0 r, q = (κ0 + 1) :: r → κ0 ∉ ks) → ρ q = q)
    (hX : ∀ b, row = some b → ∃ κ0 ∈ ks, c.χ b = [κ0 + 1]) (hb : ∀ b, v.ownBlock = some b → row = some b ∨ w.heap.size ≤ b) (hpos : 0 < width t) (hnop : noP t = true)
    (hown : w'.ownsRow 0 e (width t) v xs.length inner)
    (hel : ∀ χ' : Nat → List Nat, (∀ b q, b < w.heap.size → c.χ b = q → row ≠ some b → χ' b = ρ q ∧ w'.heap[b]? = w.heap[b]?) → ∀ (j : Nat) (x : den t), xs[j]? = some x → El w' χ' d t [κ + 1, j] x ((inner.drop (j * width t)).take (width t))) :
    ∃ c', Rel M' N w0 keep (upd1 (upds f (dropKeys ks)) (rl κ) (.root ⟨e, t, xs, d, 0, none⟩)) c' a w' ∧ c'.hdr κ = v ∧ (∀ j, M j → c'.hdr j = c.hdr j) := by
  obtain ⟨A, cp, hv, _, _⟩ := ownsRow_slice hown
  let c' : Ctx := { χ := fun b => if v.ownBlock = some b then [κ + 1] else ρ (c.χ b), hdr := fun j => if j = κ then v else c.hdr j, wid := fun j => if j = κ then width t else c.wid j, blk := c.blk, gens := fun j => if j = κ then some 0 else if j ∈ ks then none else c.gens j }
  have hold : ∀ b, b < w.heap.size → v.ownBlock = some b → ∃ κ0 ∈ ks, c.χ b = [κ0 + 1] := fun b hl hv => by
    rcases hb b hv with h1 | h1
    · exact hX b h1
    · omega
  have hf : ∀ l, l ≠ rl κ → (∀ κ0 ∈ ks, l ≠ rl κ0) → upd1 (upds f (dropKeys ks)) (rl κ) (.root ⟨e, t, xs, d, 0, none⟩) l = f l := fun l h1 h2 => by
    rw [upd1_eq, if_neg h1, upds_drop, if_neg]
    rintro ⟨j, hj, e⟩; exact h2 j hj e
  have hsame : upd1 (upds f (dropKeys ks)) (rl κ) (.root ⟨e, t, xs, d, 0, none⟩) (rl κ) = .root ⟨e, t, xs, d, 0, none⟩ := by rw [upd1_eq, if_pos rfl]
  have hgone : ∀ κ0, κ0 ∈ ks → κ0 ≠ κ → upd1 (upds f (dropKeys ks)) (rl κ) (.root ⟨e, t, xs, d, 0, none⟩) (rl κ0) = .none := fun κ0 hx hne => by
    rw [upd1_eq, if_neg (by simp only [rl]; omega), upds_drop, if_pos ⟨κ0, hx, rfl⟩]
  refine ⟨c', h.reroot hLe (fun j => j ∈ ks) hg.size hg.os hg.tape hg.output (fun b hl hq => ⟨?_, hg.block b hl (fun e => ?_)⟩) (fun j hj => ?_) rfl (fun j hj hXj g hgj => ?_) (fun j hj hXj => ?_) (fun l hl => hf l (fun e => by rw [e] at hl; simp only [rl] at hl; omega) (fun κ0 _ e => by rw [e] at hl; simp only [rl] at hl; omega)) (fun j r' hr => ?_) (fun j g hg' => ?_) (fun j => ?_) (fun j => ?_), if_pos rfl, fun j hj => if_neg (fun (e : j = κ) => hκ (e ▸ hj))⟩
  · show (if v.ownBlock = some b then [κ + 1] else ρ (c.χ b)) = c.χ b
    rw [if_neg]
    · exact hρ _ (fun κ0 r e hm => hq κ0 r e hm)
    · intro hv
      obtain ⟨κ0, h1, h2⟩ := hold b hl hv
      exact hq κ0 [] h2 h1
  · obtain ⟨κ0, h2, h3⟩ := hX b e.symm
    exact hq κ0 [] h3 h2
  · have : j ≠ κ := fun (e : j = κ) => hκ (e ▸ hj)
    exact ⟨if_neg this, if_neg this⟩
  · have : j ≠ κ := fun (e : j = κ) => hκ (e ▸ hj)
    have e : c'.gens j = none := by show (if j = κ then _ else _) = _; rw [if_neg this, if_pos hXj]
    rw [e] at hgj; cases hgj
  · have : j ≠ κ := fun (e : j = κ) => hκ (e ▸ hj)
    show (if j = κ then _ else _) = _; rw [if_neg this, if_neg hXj]
  · by_cases e1 : j = κ
    · subst e1
      rw [hsame] at hr
      injection hr with hr
      subst hr
      right
      refine ⟨⟨if_pos rfl, hpos, hnop, .inr (if_pos rfl), fun h e => (by cases e), v, inner, if_pos rfl, hown, fun b hb' => if_pos hb', fun i x hx => ?_⟩, hM'⟩
      refine hel c'.χ (fun b q hl hq hne => ⟨?_, hg.block b hl (fun e => ?_)⟩) i x hx
      · show (if v.ownBlock = some b then [j + 1] else ρ (c.χ b)) = _
        rw [if_neg, hq]
        intro hv
        rcases hb b hv with h1 | h1
        · exact hne h1
        · omega
      · exact hne e.symm
    · by_cases e2 : j ∈ ks
      · rw [hgone j e2 e1] at hr; cases hr
      · left
        rw [hf _ (by simp only [rl]; omega) (fun κ0 h1 e => e2 (by simp only [rl] at e; have : j = κ0 := by omega
                                                                   rw [this]; exact h1))] at hr
        exact ⟨hr, e2⟩
  · by_cases e1 : j = κ
    · subst e1; exact ⟨_, hsame⟩
    · have hg2 : (if j ∈ ks then none else c.gens j) = some g := by
        have : c'.gens j = if j ∈ ks then none else c.gens j := if_neg e1
        rw [← this]; exact hg'
      by_cases e2 : j ∈ ks
      · rw [if_pos e2] at hg2; cases hg2
      · rw [if_neg e2] at hg2
        obtain ⟨r', hr'⟩ := h.live j g hg2
        exact ⟨r', by rw [hf _ (by simp only [rl]; omega) (fun κ0 h1 e => e2 (by simp only [rl] at e; have : j = κ0 := by omega
                                                                                 rw [this]; exact h1))]; exact hr'⟩
  · by_cases e1 : j = κ
    · right; left; rw [e1, hsame]; trivial
    · by_cases e2 : j ∈ ks
      · right; left; rw [hgone j e2 e1]; trivial
      · left; exact hf _ (by simp only [rl]; omega) (fun κ0 h1 e => e2 (by simp only [rl] at e; have : j = κ0 := by omega
                                                                           rw [this]; exact h1))
  · by_cases e1 : j = κ
    · right; exact ⟨A, _, cp, by show (if j = κ then v else c.hdr j) = _; rw [if_pos e1]; exact hv⟩
    · left; exact if_neg e1
/-- A new box. -/
theorem Rel.newBox (h : Rel M N w0 keep f c a w) (hκ : ¬ M κ) (hLe : Le M M') (hM' : M' κ) {cs : List Value} {T : Nat} {b : Box} (hbx : (∃ vs, b = .flds vs ∧ All2 (VR w c) vs cs ∧ (∀ v ∈ vs, vB M v) ∧ ∀ u ∈ cs, u.oneCell' = true) ∨ ∃ t xs, b = .arr t xs ∧ scal t = true ∧ cs = xs.map (encF t)) :
    ∃ c', Rel M' N w0 keep (upd1 f (bl κ) (.box b)) c' a (w.alloc (.cells cs.toArray T)) ∧ c'.blk κ = w.heap.size := by
  let c' : Ctx := { χ := fun b => if b = w.heap.size then [0, κ] else c.χ b, hdr := c.hdr, wid := c.wid, blk := fun j => if j = κ then w.heap.size else c.blk j, gens := c.gens }
  have hne : ∀ b, b < w.heap.size → c'.χ b = c.χ b := fun b hl => if_neg (by omega)
  have hblk : ∀ b, b < w.heap.size → (w.alloc (.cells cs.toArray T)).heap[b]? = w.heap[b]? := fun b hl => Below.heap_alloc w _ b hl
  have hst : Stays M w c (w.alloc (.cells cs.toArray T)) c' := h.stays (fun _ => False) (fun _ => False) (by simp) (fun b hl hq => hne b hl) (fun b hl _ _ => hblk b hl) (fun _ _ => ⟨rfl, rfl⟩)
    (fun j hj => if_neg (fun (e : j = κ) => hκ (e ▸ hj))) (fun _ _ hf => hf.elim) (fun _ _ _ => rfl)
  have hsame : upd1 f (bl κ) (.box b) (bl κ) = .box b := by rw [upd1_eq, if_pos rfl]
  have hf : ∀ l, l ≠ bl κ → upd1 f (bl κ) (.box b) l = f l := fun l hl => by rw [upd1_eq, if_neg hl]
  refine ⟨c', h.next hLe hst h.size h.defers (fun _ _ _ => rfl) rfl rfl rfl (fun t' x hx => .inl ⟨?_, rfl⟩) (fun β b' hx => ?_) (fun j r' hr => .inl ⟨?_, rfl, fun b q hbq hl => ⟨(hne b hl).trans hbq, hblk b hl⟩⟩) (fun j g hg' => ?_) (fun l => ?_) (fun j => .inl rfl) (fun j x hx => .inl (by rwa [hf _ (by simp only [rl, bl]; omega)] at hx)), if_pos rfl⟩
  · rwa [hf _ (by simp only [sl, bl]; omega)] at hx
  · by_cases e : β = κ
    · subst e
      rw [hsame] at hx
      injection hx with hx
      subst hx
      right
      refine ⟨?_, hM'⟩
      have hb1 : c'.blk β = w.heap.size := if_pos rfl
      have hb2 : c'.χ (c'.blk β) = [0, β] := by rw [hb1]; exact if_pos rfl
      rcases hbx with ⟨vs, rfl, h1, h2, h3⟩ | ⟨t, xs, rfl, h1, h2⟩
      · exact ⟨cs, T, by rw [hb1]; exact heap_alloc_new w _, hb2, h1.imp fun v u hv => VR_stays hst (h2 v hv), h3⟩
      · exact ⟨T, by rw [hb1, ← h2]; exact heap_alloc_new w _, hb2, h1⟩
    · left
      rw [hf _ (by simp only [bl]; omega)] at hx
      exact ⟨hx, fun b q hl => ⟨(hne b hl).trans q, hblk b hl⟩⟩
  · rwa [hf _ (by simp only [rl, bl]; omega)] at hr
  · obtain ⟨r', hr'⟩ := h.live j g hg'
    exact ⟨r', by rw [hf _ (by simp only [rl, bl]; omega)]; exact hr'⟩
  · by_cases e : l = bl κ
    · right
      rw [e, hsame]
      rcases hbx with ⟨vs, rfl, _, h2, _⟩ | ⟨t, xs, rfl, _⟩
      · exact fun v hv => vB_mono hLe (h2 v hv)
      · trivial
    · exact .inl (hf l e)
end
end Go.Proofs.Ytoioaijpdiglfaa.V
