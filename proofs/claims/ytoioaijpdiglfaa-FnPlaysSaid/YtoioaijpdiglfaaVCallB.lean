/- A call: the caller's state behind it. -/
import Derived.Test.YtoioaijpdiglfaaVCall
set_option linter.unusedVariables false
set_option linter.unusedSimpArgs false
namespace Go.Proofs.Ytoioaijpdiglfaa.V
open Go Go.RowKit
theorem upds_cases {l : Nat} : ∀ {W : Wr} {f : Nat → Val}, (∃ p ∈ W, p.1 = l ∧ upds f W l = p.2) ∨ ((∀ p ∈ W, p.1 ≠ l) ∧ upds f W l = f l)
  | [], f => .inr ⟨fun p hp => absurd hp List.not_mem_nil, rfl⟩
  | (m, x) :: W, f => by
    rcases upds_cases (l := l) (W := W) (f := upd1 f m x) with ⟨p, hp, h1, h2⟩ | ⟨h1, h2⟩
    · exact .inl ⟨p, List.mem_cons_of_mem _ hp, h1, h2⟩
    · by_cases e : m = l
      · exact .inl ⟨(m, x), List.mem_cons_self, e, by
          show upds (upd1 f m x) W l = x
          rw [h2, upd1_eq, if_pos e.symm]⟩
      · refine .inr ⟨fun p hp => ?_, ?_⟩
        · rcases List.mem_cons.1 hp with e' | e'
          · rw [e']; exact e
          · exact h1 p e'
        · show upds (upd1 f m x) W l = f l
          rw [h2, upd1_eq, if_neg (fun e' => e e'.symm)]
section
variable {P : Program} {H : Hints} {o : Oper} {M M' : Nat → Prop} {N key κ : Nat} {w0 w w' : World} {keep : Kp} {f : Nat → Val} {c : Ctx} {a : Act} {R : Type} {k : Wr → Option R} {r : R}
/-- Many roots and boxes told anew at once; those of X, Y were touched. -/
theorem Rel.many (h : Rel M N w0 keep f c a w) (hLe : Le M M') {W : Wr} (X Y : Nat → Prop) {c' : Ctx} (hsl : ∀ p ∈ W, p.1 % 3 ≠ 0) (hle : w.heap.size ≤ w'.heap.size) (hos : w'.os = w.os) (htape : w'.tape = w.tape) (hout : w'.output = w.output)
    (hb : ∀ k, k < w.heap.size → (∀ κ q, c.χ k = (κ + 1) :: q → ¬ X κ) → (∀ β, c.χ k = [0, β] → ¬ Y β) → c'.χ k = c.χ k ∧ w'.heap[k]? = w.heap[k]?)
    (hh : ∀ κ, M κ → c'.hdr κ = c.hdr κ ∧ c'.wid κ = c.wid κ) (hk : ∀ β, M β → c'.blk β = c.blk β)
    (hgX : ∀ κ, M κ → X κ → ∀ g', c'.gens κ = some g' → ∃ g0, c.gens κ = some g0 ∧ g0 < g') (hg2 : ∀ κ, M κ → ¬ X κ → c'.gens κ = c.gens κ)
    (hWr : ∀ κ v, (rl κ, v) ∈ W → ∃ r, v = .root r ∧ RootR w' c' κ r ∧ M' κ) (hWb : ∀ β v, (bl β, v) ∈ W → ∃ b, v = .box b ∧ BoxR w' c' β b ∧ M' β ∧ xB M' (.box b))
    (hX : ∀ κ, X κ → ∃ v, (rl κ, v) ∈ W) (hY : ∀ β, Y β → ∃ v, (bl β, v) ∈ W)
    (hlive : ∀ κ g, c'.gens κ = some g → (∃ v, (rl κ, v) ∈ W) ∨ c.gens κ = some g) (hhdr : ∀ κ, c'.hdr κ = c.hdr κ ∨ ∃ A n cp, c'.hdr κ = .slice A n cp) : Rel M' N w0 keep (upds f W) c' a w' := by
  have st : Stays M w c w' c' := h.stays X Y hle
    (fun k hl hs => (hb k hl (fun κ q e => by rw [e] at hs; rcases hs with h | h <;> cases h) (fun β e => by rw [e] at hs; rcases hs with h | h <;> cases h)).1)
    (fun k hl h1 h2 => (hb k hl h1 (fun β e => h2 β [] e)).2) hh hk
    (fun κ hκ hx g' hg' => by
      obtain ⟨g0, g1, g2⟩ := hgX κ hκ hx g' hg'
      exact ⟨g0, g1, by omega, fun e => by omega⟩) hg2
  refine h.next hLe st h.size h.defers (fun _ _ _ => rfl) hos htape hout (fun t x hx => .inl ⟨?_, rfl⟩) (fun β b hx => ?_) (fun κ r hr => ?_) (fun κ g hg => ?_) (fun l => ?_) hhdr (fun κ x hx => .inl (by
    rcases upds_cases (l := rl κ) (W := W) (f := f) with ⟨p, hp, h1, h2⟩ | ⟨_, h2⟩
    · obtain ⟨r', e, _⟩ := hWr κ p.2 (by rw [← h1]; exact hp)
      rw [h2, e] at hx; cases hx
    · rw [← h2]; exact hx))
  · rcases upds_cases (l := sl t) (W := W) (f := f) with ⟨p, hp, h1, h2⟩ | ⟨_, h2⟩
    · exact absurd (by rw [h1]; simp only [sl]; omega) (hsl p hp)
    · rw [← h2]; exact hx
  · rcases upds_cases (l := bl β) (W := W) (f := f) with ⟨p, hp, h1, h2⟩ | ⟨h1, h2⟩
    · right
      have hp' : (bl β, p.2) ∈ W := by rw [← h1]; exact hp
      obtain ⟨b', e, g1, g2, _⟩ := hWb β _ hp'
      rw [h2, e] at hx
      injection hx with hx
      subst hx
      exact ⟨g1, g2⟩
    · left
      refine ⟨by rw [← h2]; exact hx, fun k hk' hl => ?_⟩
      have := hb k hl (fun κ q e => by rw [hk'] at e; injection e with e _; omega) (fun β' e hy => by
        rw [hk'] at e
        injection e with _ e
        injection e with e _
        obtain ⟨v, hv⟩ := hY β' hy
        exact h1 _ hv (by rw [e]))
      exact ⟨this.1.trans hk', this.2⟩
  · rcases upds_cases (l := rl κ) (W := W) (f := f) with ⟨p, hp, h1, h2⟩ | ⟨h1, h2⟩
    · right
      have hp' : (rl κ, p.2) ∈ W := by rw [← h1]; exact hp
      obtain ⟨r', e, g1, g2⟩ := hWr κ _ hp'
      rw [h2, e] at hr
      injection hr with hr
      subst hr
      exact ⟨g1, g2⟩
    · left
      have hr' : f (rl κ) = .root r := by rw [← h2]; exact hr
      have hnX : ¬ X κ := fun hx => by
        obtain ⟨v, hv⟩ := hX κ hx
        exact h1 _ hv rfl
      refine ⟨hr', hg2 κ (h.roots κ r hr').2 hnX, fun k q hq hl => ?_⟩
      have := hb k hl (fun κ' q' e => by
        rw [hq] at e
        injection e with e _
        have : κ' = κ := by omega
        rw [this]; exact hnX) (fun β e => by rw [hq] at e; injection e with e _; omega)
      exact ⟨this.1.trans hq, this.2⟩
  · rcases upds_cases (l := rl κ) (W := W) (f := f) with ⟨p, hp, h1, h2⟩ | ⟨h1, h2⟩
    · have hp' : (rl κ, p.2) ∈ W := by rw [← h1]; exact hp
      obtain ⟨r', e, _⟩ := hWr κ _ hp'
      exact ⟨r', by rw [h2, e]⟩
    · rcases hlive κ g hg with ⟨v, hv⟩ | hg'
      · exact absurd rfl (h1 _ hv)
      · obtain ⟨r', hr'⟩ := h.live κ g hg'
        exact ⟨r', by rw [h2]; exact hr'⟩
  · rcases upds_cases (l := l) (W := W) (f := f) with ⟨p, hp, h1, h2⟩ | ⟨h1, h2⟩
    · right
      have h3 := hsl p hp
      rcases (by omega : l % 3 = 0 ∨ l % 3 = 1 ∨ l % 3 = 2) with e | e | e
      · exact absurd (by rw [h1]; exact e) h3
      · have hl : l = bl (l / 3) := by simp only [bl]; omega
        obtain ⟨b', e', _, _, g3⟩ := hWb (l / 3) p.2 (by rw [← hl, ← h1]; exact hp)
        rw [h2, e']; exact g3
      · have hl : l = rl (l / 3) := by simp only [rl]; omega
        obtain ⟨r', e', _⟩ := hWr (l / 3) p.2 (by rw [← hl, ← h1]; exact hp)
        rw [h2, e']; trivial
    · left; exact h2
/-- A callee's colours, told as the caller's. -/
def tr (f : Nat → Val) (K : Nat) (ms : List OM) : List Nat → List Nat
  | [] => []
  | [0, p] => match ms.getD p .new with
    | .back (.bptr β _) => [0, β]
    | .back _ => [0]
    | _ => [0, K + p]
  | (p + 1) :: q => match ms.getD p .new with
    | .back v => ioPath f v ++ q
    | _ => (K + p + 1) :: q
  | _ => [0]
theorem goodTy_nop {t : Ty} (h : goodTy t = true) (hp : isPtr t = false) : noP t = true := by
  cases t with
  | ptr _ _ => cases hp
  | sl e t => simp only [goodTy, Bool.and_eq_true] at h; exact h.2
  | pair _ _ => cases h
  | unit => cases h
  | _ => rfl
theorem boxLeaves_ok {w : World} {c : Ctx} {t : Ty} {x : den t} {cs : List Value} (h : Rd w (fun k => c.χ k = []) t x cs) : All2 (VR w c) (boxLeaves t x) cs := by
  have hl := Rd_len h
  refine All2.mk (by simp [boxLeaves, hl]) fun i v u hv hu => ?_
  have hi : i < width t := by rw [← hl]; exact (List.getElem?_eq_some_iff.1 hu).1
  simp only [boxLeaves, List.getElem?_map, List.getElem?_range hi, Option.map_some, Option.some.injEq] at hv
  rw [← hv]; exact leaf_ok h hu
theorem boxLeaves_b (M : Nat → Prop) {t : Ty} {x : den t} : ∀ v ∈ boxLeaves t x, vB M v := fun v hv => by
  obtain ⟨j, _, rfl⟩ := List.mem_map.1 hv
  exact leafV_b _ _ _ _
theorem Ty.same_refl : ∀ t : Ty, Ty.same t t = true := by
  intro t
  induction t with
  | int k => simp [Ty.same]
  | sl e t ih => simp only [Ty.same, ih, Bool.and_true]; simp
  | pair a b iha ihb => simp only [Ty.same, iha, ihb, Bool.and_self]
  | ptr e t ih => simp only [Ty.same, ih, Bool.and_true]; simp
  | _ => rfl
theorem castTo_self {t : Ty} (x : den t) : castTo t x = some x := by
  unfold castTo
  rw [dif_pos (Ty.same_refl t)]
  rfl
theorem setLeaf_dat {e : Nat} {s : Ty} {ys zs : List (den s)} : ∀ {t : Ty} {x : den t} {o : Nat}, leafV t x o = .dat e s ys → ∃ z, setLeaf f t x o (.dat e s zs) = some z := by
  intro t
  induction t with
  | sl e' t' _ =>
    intro x o h
    injection h with h1 h2 h3
    subst h1 h2
    refine ⟨zs, ?_⟩
    show (cond (Nat.beq e' e') (castTo (.sl e' t') (a := .sl e' t') zs) none) = some zs
    have : Nat.beq e' e' = true := by simp
    rw [this, cond_true]; exact castTo_self (t := .sl e' t') zs
  | pair a b iha ihb =>
    intro x o h
    have h : cond (Nat.blt o (width a)) (leafV a x.1 o) (leafV b x.2 (o - width a)) = .dat e s ys := h
    simp only [setLeaf]
    cases hb : Nat.blt o (width a) with
    | true =>
      rw [hb, cond_true] at h
      obtain ⟨z, hz⟩ := iha h
      exact ⟨_, by rw [cond_true, hz]⟩
    | false =>
      rw [hb, cond_false] at h
      obtain ⟨z, hz⟩ := ihb h
      exact ⟨_, by rw [cond_false, hz]⟩
  | _ => intro x o h; cases h
/-- What is known of an argument that is written. -/
def IoFact (f : Nat → Val) : V → Ty → Prop
  | .own κ, .sl e t => ∃ rt, f (rl κ) = .root rt ∧ rt.hole = none ∧ rt.deep = true ∧ rt.e = e ∧ rt.t = t
  | .row κ g i o, .sl e t => ∃ (rt : Root) (xs : List (den t)), f (rl κ) = .root rt ∧ rt.hole = none ∧ rt.deep = true ∧ rt.gen = g ∧ leafV rt.t (rt.xs.getD i (dflt rt.t)) o = .dat e t xs
  | .bptr β 0, .ptr _ t => ∃ us, f (bl β) = .box (.flds us)
  | _, _ => False
theorem packL_io {t : Ty} {v : V} {x : den t} (hp : packL f true t v = some x) : IoFact f v t := by
  cases t with
  | sl e t =>
    cases v with
    | own κ =>
      simp only [packL] at hp
      split at hp
      · rename_i rt er
        obtain ⟨hd, hp⟩ := cond_some' hp
        simp only [readL, er] at hp
        split at hp
        · rename_i hh
          obtain ⟨he, hp⟩ := cond_some' hp
          obtain ⟨hts, _⟩ := castTo_some hp
          injection hts with _ hts
          exact ⟨rt, er, hh, hd, Nat.eq_of_beq_eq_true he, hts⟩
        · cases hp
      · cases hp
    | row κ g i o =>
      simp only [packL, readL] at hp
      split at hp
      · rename_i rt er
        split at hp
        · rename_i hh
          obtain ⟨hg, hp⟩ := cond_some' hp
          simp only [Bool.and_eq_true] at hg
          split at hp
          · rename_i e' t' xs el
            obtain ⟨he, hp⟩ := cond_some' hp
            obtain ⟨hts, _⟩ := castTo_some hp
            have he := Nat.eq_of_beq_eq_true he
            injection hts with _ hts
            subst hts
            subst he
            exact ⟨rt, xs, er, hh, hg.2, Nat.eq_of_beq_eq_true hg.1, el⟩
          · cases hp
        · cases hp
      · cases hp
    | _ => cases hp
  | ptr T t =>
    cases v with
    | bptr β off =>
      cases off with
      | succ _ => cases hp
      | zero =>
        simp only [packL] at hp
        split at hp
        · rename_i us eb; exact ⟨us, eb⟩
        · cases hp
    | _ => cases hp
  | _ => cases v <;> cases hp
theorem ioFact_v {v : V} {t : Ty} (h : IoFact f v t) : ioV v := by
  cases v with
  | own _ => trivial
  | row _ _ _ _ => trivial
  | bptr β off =>
    cases off with
    | zero => trivial
    | succ n => cases t <;> exact h.elim
  | _ => cases t <;> exact h.elim
theorem packA_each {io : Nat → Bool} : ∀ {ts : List Ty} {i : Nat} {vs : List V} {x : den (tupTy ts)}, packA f io ts i vs = some x → vs.length = ts.length ∧ ∀ j v t, vs[j]? = some v → ts[j]? = some t → io (i + j) = true → IoFact f v t := by
  intro ts
  induction ts with
  | nil =>
    intro i vs x hp
    cases vs with
    | nil => exact ⟨rfl, fun j v t h => by simp at h⟩
    | cons _ _ =>
      have hp : none = some x := hp
      cases hp
  | cons t ts ih =>
    intro i vs x hp
    cases vs with
    | nil =>
      have hp : none = some x := by cases ts <;> exact hp
      cases hp
    | cons v vs =>
      have first : ∀ {x : den t}, packL f (io i) t v = some x → io i = true → IoFact f v t := fun hp hb => by rw [hb] at hp; exact packL_io hp
      cases ts with
      | nil =>
        cases vs with
        | cons _ _ =>
          have hp : none = some x := hp
          cases hp
        | nil =>
          have hp : packL f (io i) t v = some x := hp
          refine ⟨rfl, fun j v' t' hv ht hb => ?_⟩
          cases j with
          | zero =>
            have hv : v = v' := by simpa using hv
            have ht : t = t' := by simpa using ht
            subst hv ht
            exact first hp hb
          | succ j => simp at hv
      | cons u ts =>
        have hp : (match packL f (io i) t v, packA f io (u :: ts) (i + 1) vs with
          | some x, some y => some (x, y)
          | _, _ => none) = some x := hp
        split at hp
        · rename_i x1 x2 e1 e2
          obtain ⟨h1, h2⟩ := ih e2
          refine ⟨by simp only [List.length_cons] at h1 ⊢; omega, fun j v' t' hv ht hb => ?_⟩
          cases j with
          | zero =>
            have hv : v = v' := by simpa using hv
            have ht : t = t' := by simpa using ht
            subst hv ht
            exact first e1 hb
          | succ j => exact h2 j v' t' (by simpa using hv) (by simpa using ht) (by rw [show i + 1 + j = i + (j + 1) by omega]; exact hb)
        · cases hp
theorem col0_strict {ios : List (Nat × V)} {q : List Nat} (h : col0 f true ios q = []) : q = [] := by
  induction ios with
  | nil =>
    simp only [col0] at h
    by_cases e : q = []
    · exact e
    · rw [if_neg e] at h; cases h
  | cons p ios ih =>
    obtain ⟨i, v⟩ := p
    cases v <;> simp only [col0] at h
    case bptr β off =>
      by_cases e : q = [0, β]
      · rw [if_pos e] at h; cases h
      · rw [if_neg e] at h; exact ih h
    all_goals
      split at h
      · cases h
      · exact ih h
/-- Colours that lead to nothing that is written: told by the ways. -/
theorem col0_away {strict : Bool} : ∀ {ios : List (Nat × V)} {q : List Nat}, (∀ p ∈ ios, ioV p.2) → (∀ p ∈ ios, strip (ioPath f p.2) q = none) → (∀ β, q ≠ [0, β]) → stable (col0 f strict ios q)
  | [], q, _, _, _ => by
    simp only [col0]
    by_cases e : q = []
    · rw [if_pos e]; exact .inl rfl
    · rw [if_neg e]
      cases strict
      · exact .inl rfl
      · exact .inr rfl
  | (i, u) :: ios, q, hv, h1, h2 => by
    have ih := col0_away (strict := strict) (q := q) (fun p hp => hv p (List.mem_cons_of_mem _ hp)) (fun p hp => h1 p (List.mem_cons_of_mem _ hp)) h2
    have hu := hv _ List.mem_cons_self
    have hs := h1 _ List.mem_cons_self
    cases u with
    | own κ' => simp only [col0]; simp only [hs]; exact ih
    | row κ' g i' o => simp only [col0]; simp only [hs]; exact ih
    | bptr β' off =>
      simp only [col0]
      rw [if_neg (h2 β')]; exact ih
    | _ => exact hu.elim
theorem ascN_lt : ∀ {is : List Nat} {lo n : Nat}, ascN is lo n = true → ∀ i ∈ is, i < n
  | [], _, _, _, i, h => absurd h List.not_mem_nil
  | j :: is, lo, n, h, i, hi => by
    simp only [ascN, Bool.and_eq_true] at h
    rcases List.mem_cons.1 hi with e | e
    · subst e; simpa [Nat.blt_eq] using h.1.2
    · exact ascN_lt h.2 i e
theorem modes_get {fn' : Nat} (hout : outOk H fn' = true) {vs : List V} {p : Nat} (hp : p < (H.res fn').length) :
    (p < nres H fn' ∧ (((modesOf H fn' vs).getD p .new = .new ∧ (rmsOf H fn').getD p .own = .own) ∨ ((modesOf H fn' vs).getD p .new = .dat ∧ (rmsOf H fn').getD p .own = .dat ∧ (H.dats fn').isEmpty = false))) ∨
      ∃ j i, p = nres H fn' + j ∧ (H.out fn')[j]? = some i ∧ (modesOf H fn' vs).getD p .new = .back (vs.getD i .undef) ∧ (rmsOf H fn').getD p .own = .io := by
  unfold outOk at hout
  simp only [Bool.and_eq_true] at hout
  have hle := Nat.le_of_ble_eq_true hout.2.1
  have hn : nres H fn' + (H.out fn').length = (H.res fn').length := by unfold nres; omega
  by_cases hlt : p < nres H fn'
  · left
    refine ⟨hlt, ?_⟩
    have e1 : (modesOf H fn' vs).getD p .new = cond (memN p (H.dats fn')) .dat .new := by
      unfold modesOf
      rw [List.getD_eq_getElem?_getD, List.getElem?_append_left (by simpa using hlt), List.getElem?_map, List.getElem?_range hlt]; rfl
    have e2 : (rmsOf H fn').getD p .own = cond (memN p (H.dats fn')) .dat .own := by
      unfold rmsOf
      rw [List.getD_eq_getElem?_getD, List.getElem?_append_left (by simpa using hlt), List.getElem?_map, List.getElem?_range hlt]; rfl
    rw [e1, e2]
    cases hb : memN p (H.dats fn') with
    | false => exact .inl ⟨rfl, rfl⟩
    | true =>
      refine .inr ⟨rfl, rfl, ?_⟩
      have := memN_mem.1 hb
      cases hd : H.dats fn' with
      | nil => rw [hd] at this; cases this
      | cons _ _ => rfl
  · right
    have hj : p - nres H fn' < (H.out fn').length := by omega
    refine ⟨p - nres H fn', _, by omega, List.getElem?_eq_getElem hj, ?_, ?_⟩
    · unfold modesOf ioVs
      rw [List.getD_eq_getElem?_getD, List.getElem?_append_right (by simp; omega), List.length_map, List.length_range, List.map_map, List.getElem?_map, List.getElem?_eq_getElem hj]; rfl
    · unfold rmsOf
      rw [List.getD_eq_getElem?_getD, List.getElem?_append_right (by simp; omega), List.length_map, List.length_range, List.getElem?_map, List.getElem?_eq_getElem hj]; rfl
end
end Go.Proofs.Ytoioaijpdiglfaa.V
