/- A function: how it is entered and left; and the theorem: what the interpreter answers, the program answers. -/
import Derived.Test.YtlkjkhmifhmjbaaVExec
set_option linter.unusedVariables false
set_option linter.unusedSimpArgs false
namespace Go.Proofs.Ytlkjkhmifhmjbaa.V
open Go Go.RowKit
theorem parSlots_mem : ∀ (l : List (Bool × List V)) (i : Nat) {p : Nat × Val}, p ∈ parSlots l i → ∃ j q, l[j]? = some q ∧ p = (sl (i + j), .s (mkS q.1 q.2))
  | q :: l, i, p, h => by
    obtain ⟨ag, vs⟩ := q
    simp only [parSlots] at h
    rcases List.mem_cons.1 h with e | e
    · exact ⟨0, _, rfl, e⟩
    · obtain ⟨j, q, h1, h2⟩ := parSlots_mem l (i + 1) e
      exact ⟨j + 1, q, by simpa using h1, by rw [h2, show i + 1 + j = i + (j + 1) by omega]⟩
section
variable {P : Program} {H : Hints} {M : Nat → Prop} {N : Nat} {w0 w : World} {keep : Nat → Prop} {f : Nat → Val} {c : Ctx} {a : Act}
theorem one_leaf {w : World} {ok : Nat → Prop} {t : Ty} {x : den t} {cs : List Value} (hg : goodTy t = true) (h : Rd w ok t x cs) : ∃ d, cs = [d] := by
  have hl := Rd_len h
  have : width t = 1 := by cases t <;> first | rfl | cases hg
  rw [this] at hl
  cases cs with
  | nil => cases hl
  | cons d r => cases r with
    | nil => exact ⟨d, rfl⟩
    | cons _ _ => simp at hl
theorem inLeaves_ok {c : Ctx} (hc : ∀ k, c.χ k = []) : ∀ {ts : List Ty} {x : den (tupTy ts)} {cs : List Value}, ts.all goodTy = true → Rd w (fun _ => True) (tupTy ts) x cs → All2 (VR w c) (inLeaves ts x) cs
  | [], x, cs, _, h => by rw [show cs = _ from h]; trivial
  | [t], x, cs, hg, h => by
    simp only [List.all_cons, List.all_nil, Bool.and_true] at hg
    have h : Rd w (fun _ => True) t x cs := h
    obtain ⟨d, rfl⟩ := one_leaf hg h
    exact ⟨leaf_ok (c := c) (Rd_step (fun k _ _ => ⟨hc k, rfl⟩) h) rfl, trivial⟩
  | t :: u :: ts, x, cs, hg, ⟨c0, c1, e, h0, h1⟩ => by
    rw [List.all_cons, Bool.and_eq_true] at hg
    obtain ⟨d, rfl⟩ := one_leaf hg.1 h0
    subst e
    exact ⟨leaf_ok (c := c) (Rd_step (fun k _ _ => ⟨hc k, rfl⟩) h0) rfl, inLeaves_ok hc hg.2 h1⟩
theorem inLeaves_b (M : Nat → Prop) : ∀ {ts : List Ty} {x : den (tupTy ts)}, ∀ v ∈ inLeaves ts x, vB M v
  | [], x, v, hv => absurd hv List.not_mem_nil
  | [t], x, v, hv => by rw [List.mem_singleton.1 hv]; exact leafV_b M t x 0
  | t :: u :: ts, x, v, hv => by
    rcases List.mem_cons.1 hv with e | e
    · rw [e]; exact leafV_b M t _ 0
    · exact inLeaves_b M v e
/-- The frame as a function is entered. -/
theorem entry {fn : Func} {Ts : List Nat} {ls : List V} {cs : List Value} {c : Ctx} (hc : c = { χ := fun _ => [], hdr := fun _ => .slice none 0 0, wid := fun _ => 0, blk := fun _ => 0, gens := fun _ => none }) (hall : All2 (VR w0 c) ls cs) (hb : ∀ v ∈ ls, vB (Bel 0) v) (n : Nat) :
    Rel (Bel 0) ((grp P Ts cs).toArray.size + n) w0 (fun _ => True) (ofList (parSlots (cutLeaves P Ts ls) 0)) c { tmps := (grp P Ts cs).toArray ++ Array.replicate n undef, defers := [] } w0 where
  size := by simp
  defers := rfl
  os := rfl
  tape := rfl
  output := rfl
  hsize := Nat.le_refl _
  kept := fun k _ _ => ⟨by rw [hc], rfl⟩
  slots := fun t x hx => by
    rcases ofList_mem _ hx with e | e
    · cases e
    · obtain ⟨j, q, hj, e⟩ := parSlots_mem _ 0 e
      injection e with e1 e2
      have : j = t := by simp only [sl] at e1; omega
      subst this
      injection e2 with e2
      subst e2
      obtain ⟨y, hy, ls', h1, h2, h3⟩ := (cut_ok (P := P) Ts hall).get hj
      have hlt : j < (grp P Ts cs).length := (List.getElem?_eq_some_iff.1 hy).1
      have hget : ((grp P Ts cs).toArray ++ Array.replicate n undef).getD j undef = y := by
        rw [Array.getD_eq_getD_getElem?, Array.getElem?_append_left (by simpa using hlt)]
        simp [hy]
      show SR w0 c _ (((grp P Ts cs).toArray ++ Array.replicate n undef).getD j undef)
      rw [hget]
      obtain ⟨ag, vs⟩ := q
      cases ag with
      | true => exact ⟨ls', h2 rfl, h1⟩
      | false =>
        show SR w0 c (mkS false vs) y
        cases vs with
        | nil => trivial
        | cons v vs => cases vs with
          | cons _ _ => trivial
          | nil => cases ls' with
            | nil => exact h1.elim
            | cons u us => cases us with
              | cons _ _ => exact h1.2.elim
              | nil =>
                have := h3 rfl u rfl
                subst this
                exact h1.1
  boxes := fun β b hb => by
    rcases ofList_mem _ hb with e | e
    · cases e
    · obtain ⟨j, q, hj, e⟩ := parSlots_mem _ 0 e
      injection e with _ e2; cases e2
  roots := fun β b hb => by
    rcases ofList_mem _ hb with e | e
    · cases e
    · obtain ⟨j, q, hj, e⟩ := parSlots_mem _ 0 e
      injection e with _ e2; cases e2
  live := fun κ g hg => by rw [hc] at hg; cases hg
  fresh := fun l => by
    have key : ∀ x, ofList (parSlots (cutLeaves P Ts ls) 0) l = x → xB (Bel 0) x := fun x hx => by
      rcases ofList_mem _ hx with e | e
      · rw [e]; trivial
      · obtain ⟨j, q, hj, e⟩ := parSlots_mem _ 0 e
        injection e with _ e2
        rw [e2]
        exact mkS_b fun v hv => hb v (cut_mem (ls := ls) Ts q (List.mem_of_getElem? hj) v hv)
    exact key _ rfl
  hdrs := fun κ => ⟨none, 0, 0, by rw [hc]⟩

/-! ### the end -/
theorem argLeaves_all : ∀ {Ts : List Nat} {ss : List S} {ys : List Value} {vs : List V}, All2 (SR w c) ss ys → argLeaves P Ts ss = some vs → ∃ cs, All2 (VR w c) vs cs ∧ grp P Ts cs = ys ∧ Ts.length = ss.length
  | [], [], [], vs, _, he => by
    injection he with he; subst he
    exact ⟨[], trivial, rfl, rfl⟩
  | T :: Ts, s :: ss, y :: ys, vs, h, he => by
    simp only [argLeaves] at he
    split at he
    · rename_i ts r e1 e2
      obtain ⟨cs, hcs, hg, hln⟩ := argLeaves_all h.2 e2
      have hX := h.1
      split at he
      · rename_i v
        cases hag : aggT P T with
        | true => rw [hag] at he; cases he
        | false =>
          rw [hag, cond_false] at he
          cases hl : Nat.beq ts.length 1 with
          | false => rw [hl] at he; cases he
          | true =>
            rw [hl, cond_true] at he
            injection he with he; subst he
            have hl := Nat.eq_of_beq_eq_true hl
            refine ⟨y :: cs, ⟨hX, hcs⟩, ?_, by simp [hln]⟩
            simp only [grp, e1, hag, cond_false, hl, List.headD_cons, List.drop_succ_cons, List.drop_zero, hg]
      · rename_i us
        obtain ⟨zs, hy, hall⟩ := hX
        cases hag : aggT P T with
        | false => rw [hag] at he; cases he
        | true =>
          rw [hag, cond_true] at he
          cases hl : Nat.beq us.length ts.length with
          | false => rw [hl] at he; cases he
          | true =>
            rw [hl, cond_true] at he
            injection he with he; subst he
            have hl := Nat.eq_of_beq_eq_true hl
            have hyl : zs.length = ts.length := by rw [← hall.len, hl]
            refine ⟨zs ++ cs, hall.app hcs, ?_, by simp [hln]⟩
            simp only [grp, e1, hag, cond_true]
            rw [← hyl, List.take_left, List.drop_left, hg, hy]
      · cases he
    · cases he
  | [], _ :: _, _, vs, _, he => by cases he
  | _ :: _, [], _, vs, _, he => by cases he
  | _, [], _ :: _, vs, h, _ => h.elim
  | _, _ :: _, [], vs, h, _ => h.elim
theorem resS_ok (h : Rel M N w0 keep f c a w) (nx : Nat) : ∀ {rs : List ResultVar} {ss : List S}, resS P ⟨f, nx⟩ rs = some ss → ∃ ys : List Value, All2 (SR w c) ss ys ∧
      (rs.mapM (m := Sem) fun
        | .tmp t => pure (a.tmps.getD t undef)
        | .cell p t => do loadVar t (← asAddr (a.tmps.getD p undef))).run P w = .ok ys w
  | [], ss, he => by
    injection he with he; subst he
    exact ⟨[], trivial, rfl⟩
  | .tmp t :: rs, ss, he => by
    simp only [resS] at he
    split at he
    · rename_i xs e
      injection he with he; subst he
      obtain ⟨ys, h1, h2⟩ := resS_ok h nx e
      exact ⟨a.tmps.getD t undef :: ys, ⟨h.ev nx (.tmp t), h1⟩, by rw [List.mapM_cons]; simp only [Sem.run_bind, Sem.run_pure, Result.andThen_ok, h2]⟩
    · cases he
  | .cell p T :: rs, ss, he => by
    simp only [resS] at he
    split at he
    · rename_i β off xs ep e
      obtain ⟨ys, h1, h2⟩ := resS_ok h nx e
      split at he
      · rename_i ws eb
        cases hc : (ldOk P T && Nat.ble (off + sizeT P T) ws.length) with
        | false => rw [hc] at he; cases he
        | true =>
          rw [hc, cond_true] at he
          injection he with he; subst he
          simp only [Bool.and_eq_true] at hc
          have hle := Nat.le_of_ble_eq_true hc.2
          have hp := h.evv nx (.tmp p)
          rw [ep] at hp
          have hp : a.tmps.getD p undef = .pointer (some ⟨c.blk β, off, none⟩) := hp
          obtain ⟨⟨cs, T', hh, hχ, hall, h1'⟩, hβ⟩ := h.boxes β _ eb
          have hlen := hall.len
          have hcl : ((cs.drop off).take (sizeT P T)).length = sizeT P T := by rw [List.length_take, List.length_drop]; omega
          obtain ⟨v, hv, g1, g2⟩ := run_load (P := P) (w := w) hc.1 (ad := ⟨c.blk β, off, none⟩) hcl (fun j u hu => by
            rw [add_plain', cell_of_row w _ _ cs.toArray T' (0, 0) hh]
            have := drop_take_get cs off _ j u hu
            simpa using this)
          refine ⟨v :: ys, ⟨load_val ((hall.drop off).take _) g1 g2, h1⟩, ?_⟩
          have hv' : (loadVar T ⟨c.blk β, off, none⟩).run P w = .ok v w := by
            have := hv
            simpa [Instr.loadAt, Instr.sureAddr] using this
          rw [List.mapM_cons]
          have ha : (asAddr (a.tmps.getD p undef)).run P w = .ok ⟨c.blk β, off, none⟩ w := by rw [hp]; rfl
          simp only [Sem.run_bind, Sem.run_pure, Result.andThen_ok, ha, hv', h2]
      · cases he
    · cases he
/-- A result's row by its place. -/
def rowAt (κ : Nat) : List V → Nat → Option Nat
  | [], _ => none
  | .own κ' :: vs, j => cond (Nat.beq κ' κ) (some j) (rowAt κ vs (j + 1))
  | .cut κ' _ _ :: vs, j => cond (Nat.beq κ' κ) (some j) (rowAt κ vs (j + 1))
  | _ :: vs, j => rowAt κ vs (j + 1)
def endColour (vs : List V) : List Nat → List Nat
  | (κ + 1) :: q => match rowAt κ vs 0 with
    | some j => (j + 1) :: q
    | none => []
  | _ => []
/-- Of each leaf: its row (if it is one) is the one at its place. -/
def Placed (χ χ' : Nat → List Nat) : List V → Nat → Prop
  | [], _ => True
  | v :: vs, j => (∀ κ ∈ rootKey v, ∀ k q, χ k = (κ + 1) :: q → χ' k = (j + 1) :: q) ∧ Placed χ χ' vs (j + 1)
theorem ownsAll_not : ∀ {vs : List V} {ks : List Nat}, ownsAll vs ks = true → ∀ κ ∈ ks, ∀ j, rowAt κ vs j = none
  | [], ks, _, κ, _, j => rfl
  | v :: vs, ks, h, κ, hκ, j => by
    cases v with
    | own κ' =>
      simp only [ownsAll, Bool.and_eq_true] at h
      have hne : Nat.beq κ' κ = false := by
        cases e : Nat.beq κ' κ with
        | false => rfl
        | true =>
          have := Nat.eq_of_beq_eq_true e
          subst this
          have : ks.any (fun y => Nat.beq y κ') = true := List.any_eq_true.2 ⟨κ', hκ, by simp⟩
          rw [this] at h; simp at h
      show cond _ _ _ = _
      rw [hne, cond_false]
      exact ownsAll_not h.2 κ (List.mem_cons_of_mem _ hκ) (j + 1)
    | cut κ' lo hi =>
      cases lo with
      | succ lo => cases h
      | zero =>
        simp only [ownsAll, Bool.and_eq_true] at h
        have hne : Nat.beq κ' κ = false := by
          cases e : Nat.beq κ' κ with
          | false => rfl
          | true =>
            have := Nat.eq_of_beq_eq_true e
            subst this
            have : ks.any (fun y => Nat.beq y κ') = true := List.any_eq_true.2 ⟨κ', hκ, by simp⟩
            rw [this] at h; simp at h
        show cond _ _ _ = _
        rw [hne, cond_false]
        exact ownsAll_not h.2 κ (List.mem_cons_of_mem _ hκ) (j + 1)
    | nil => exact ownsAll_not (vs := vs) h κ hκ (j + 1)
    | int _ _ => exact ownsAll_not (vs := vs) h κ hκ (j + 1)
    | bool _ => exact ownsAll_not (vs := vs) h κ hκ (j + 1)
    | str _ => exact ownsAll_not (vs := vs) h κ hκ (j + 1)
    | _ => cases h
theorem ownsAll_get : ∀ {vs : List V} {ks : List Nat} {i κ : Nat} {v : V}, ownsAll vs ks = true → vs[i]? = some v → κ ∈ rootKey v → ∀ j, rowAt κ vs j = some (j + i)
  | u :: vs, ks, 0, κ, v, h, hi, hκ, j => by
    have hi : u = v := by simpa using hi
    subst hi
    cases u with
    | own κ' =>
      have : κ = κ' := List.mem_singleton.1 hκ
      subst this
      show cond (Nat.beq κ κ) _ _ = _
      have : Nat.beq κ κ = true := by simp
      rw [this]; rfl
    | cut κ' _ _ =>
      have : κ = κ' := List.mem_singleton.1 hκ
      subst this
      show cond (Nat.beq κ κ) _ _ = _
      have : Nat.beq κ κ = true := by simp
      rw [this]; rfl
    | _ => cases hκ
  | u :: vs, ks, i + 1, κ, v, h, hi, hκ, j => by
    have hi : vs[i]? = some v := by simpa using hi
    have e : j + (i + 1) = j + 1 + i := by omega
    have other : ∀ κ', ownsAll vs (κ' :: ks) = true → (cond (Nat.beq κ' κ) (some j) (rowAt κ vs (j + 1)) : Option Nat) = some (j + (i + 1)) := fun κ' h' => by
      have hr := ownsAll_get h' hi hκ (j + 1)
      cases e' : Nat.beq κ' κ with
      | false => rw [cond_false, hr, e]
      | true =>
        have := Nat.eq_of_beq_eq_true e'
        subst this
        rw [ownsAll_not h' κ' List.mem_cons_self (j + 1)] at hr; cases hr
    cases u with
    | own κ' =>
      simp only [ownsAll, Bool.and_eq_true] at h
      exact other κ' h.2
    | cut κ' lo hi' =>
      cases lo with
      | succ lo => cases h
      | zero =>
        simp only [ownsAll, Bool.and_eq_true] at h
        exact other κ' h.2
    | nil => rw [e]; exact ownsAll_get (vs := vs) (ks := ks) h hi hκ (j + 1)
    | int _ _ => rw [e]; exact ownsAll_get (vs := vs) (ks := ks) h hi hκ (j + 1)
    | bool _ => rw [e]; exact ownsAll_get (vs := vs) (ks := ks) h hi hκ (j + 1)
    | str _ => rw [e]; exact ownsAll_get (vs := vs) (ks := ks) h hi hκ (j + 1)
    | _ => cases h
def okRes : V → Bool
  | .own _ => true
  | .cut _ 0 _ => true
  | .nil => true
  | .int _ _ => true
  | .bool _ => true
  | .str _ => true
  | _ => false
theorem ownsAll_ok : ∀ {vs : List V} {ks : List Nat}, ownsAll vs ks = true → ∀ v ∈ vs, okRes v = true
  | u :: vs, ks, h, v, hv => by
    have step : ∀ ks', ownsAll vs ks' = true → okRes u = true → okRes v = true := fun ks' h' hu => by
      rcases List.mem_cons.1 hv with e | e
      · rw [e]; exact hu
      · exact ownsAll_ok h' v e
    cases u with
    | own κ => simp only [ownsAll, Bool.and_eq_true] at h; exact step _ h.2 rfl
    | cut κ lo hi => cases lo with
      | succ _ => cases h
      | zero => simp only [ownsAll, Bool.and_eq_true] at h; exact step _ h.2 rfl
    | nil => exact step ks h rfl
    | int _ _ => exact step ks h rfl
    | bool _ => exact step ks h rfl
    | str _ => exact step ks h rfl
    | _ => cases h
theorem leaf_own (h : Rel M N w0 keep f c a w) {χ' : Nat → List Nat} {t : Ty} {v : V} {d : Value} {y : den t} {j : Nat} (hg : goodTy t = true) (hv : VR w c v d) (ho : okRes v = true) (hp : ∀ κ ∈ rootKey v, ∀ k q, c.χ k = (κ + 1) :: q → χ' k = (j + 1) :: q) (hy : packs f t [v] = some y) : Own w χ' t [j + 1] y [d] := by
  have hrd := packs_ok h (vs := [v]) (cs := [d]) ⟨hv, trivial⟩ hy
  cases t with
  | int _ => exact hrd
  | bool => exact hrd
  | str => exact hrd
  | pair _ _ => cases hg
  | unit => cases hg
  | sl e t =>
    have hy : readL f e t v = some y := hy
    cases v with
    | nil =>
      have hy : y = [] := by simpa [readL] using hy.symm
      subst hy
      exact ⟨.slice none 0 0, [], by rw [show d = _ from hv], World.ownsRow_nil _ _ _ _, fun k hk => by simp [Value.ownBlock] at hk, fun j x hx => by simp at hx⟩
    | own κ =>
      have hv : d = c.hdr κ := hv
      simp only [readL] at hy
      split at hy
      · rename_i rt er
        split at hy
        · cases he : Nat.beq rt.e e with
          | false => rw [he] at hy; cases hy
          | true =>
            rw [he, cond_true] at hy
            have he := Nat.eq_of_beq_eq_true he
            obtain ⟨hts, hxs⟩ := castTo_some hy
            obtain ⟨⟨hdeep, hhole, hwid, hpos', hgen, hown⟩, hκ⟩ := h.roots κ rt er
            obtain ⟨re, rt', rxs, rd, rg, rh⟩ := rt
            simp only at he hts hxs hown
            injection hts with _ hts
            subst hts
            subst he
            have hxs : y = rxs := hxs
            subst hxs
            rw [hv]
            exact Own_step (fun k q hq _ => ⟨hp κ List.mem_cons_self k q hq, rfl⟩) hown
        · cases hy
      · cases hy
    | cut κ lo hi =>
      cases lo with
      | succ _ => cases ho
      | zero =>
        obtain ⟨A, n, cp, A', hh1, hh2, hh3, hh4, hh5, hh6⟩ := hv
        have hA := hh5 rfl
        subst hA
        simp only [readL] at hy
        split at hy
        · rename_i rt er
          split at hy
          · cases he : Nat.beq rt.e e with
            | false => rw [he] at hy; cases hy
            | true =>
              rw [he, cond_true] at hy
              have he := Nat.eq_of_beq_eq_true he
              obtain ⟨hts, hxs⟩ := castTo_some hy
              obtain ⟨⟨hdeep, hhole, hwid, hpos', hgen, v, inner, hv, hown, hcol, hel⟩, hκ⟩ := h.roots κ rt er
              have hv : c.hdr κ = v := by simpa using hv
              obtain ⟨re, rt', rxs, rd, rg, rh⟩ := rt
              simp only at he hts hxs hown hel hwid
              injection hts with _ hts
              subst hts
              subst he
              have hxs : y = rxs.take hi := by rw [List.drop_zero] at hxs; exact hxs
              have hvv : v = .slice A' n cp := by rw [← hv]; exact hh1
              subst hvv
              have hn : n = rxs.length := by obtain ⟨_, _, he, _⟩ := ownsRow_slice hown; injection he
              subst hn
              have hown' := ownsRow_take hown hh3
              have hyl : y.length = hi := by rw [hxs, List.length_take]; omega
              have hob : (Value.slice A' hi cp).ownBlock = (Value.slice A' rxs.length cp).ownBlock := by cases A' <;> rfl
              rw [hh4, Nat.sub_zero, Nat.sub_zero]
              refine ⟨.slice A' hi cp, inner.take (hi * width rt'), rfl, by rw [hyl]; exact hown', fun k hk => ?_, fun i x hx => ?_⟩
              · exact hp κ List.mem_cons_self k [] (hcol k (by rw [← hob]; exact hk))
              · have hj : i < hi := by rw [← hyl]; exact (List.getElem?_eq_some_iff.1 hx).1
                rw [hxs, List.getElem?_take, if_pos hj] at hx
                have := chunk_cut inner 0 hi (width rt') i (by omega)
                rw [Nat.zero_mul, List.drop_zero, Nat.zero_add] at this
                rw [this]
                refine Own_step (fun k q hq _ => ⟨?_, rfl⟩) (hel i x hx)
                have := hp κ List.mem_cons_self k (i :: q) (by rw [hq]; rfl)
                rw [this]; rfl
          · cases hy
        · cases hy
    | _ => first | (cases ho; done) | cases hy
theorem res_own (h : Rel M N w0 keep f c a w) {χ' : Nat → List Nat} : ∀ {ts : List Ty} {y : den (tupTy ts)} {vs : List V} {ds : List Value} {j : Nat}, ts.all goodTy = true → All2 (VR w c) vs ds → (∀ v ∈ vs, okRes v = true) →
    (∀ (i : Nat) (v : V), vs[i]? = some v → ∀ κ ∈ rootKey v, ∀ k q, c.χ k = (κ + 1) :: q → χ' k = (j + i + 1) :: q) → packs f (tupTy ts) vs = some y → OwnL w χ' 0 ts y j ds
  | [], y, vs, ds, j, _, hall, _, _, hp => by
    cases vs with
    | cons _ _ => cases hp
    | nil => cases ds with
      | nil => rfl
      | cons _ _ => exact hall.elim
  | [t], y, vs, ds, j, hg, hall, hok, hpl, hp => by
    simp only [List.all_cons, List.all_nil, Bool.and_true] at hg
    have one : ∃ v, vs = [v] := by
      cases vs with
      | nil => cases t <;> first | cases hg; done | cases hp
      | cons v vs => cases vs with
        | nil => exact ⟨v, rfl⟩
        | cons _ _ => cases t <;> first | cases hg; done | cases hp
    obtain ⟨v, rfl⟩ := one
    cases ds with
    | nil => exact hall.elim
    | cons d ds => cases ds with
      | cons _ _ => exact hall.2.elim
      | nil =>
        refine ⟨d, rfl, ?_⟩
        rw [Nat.zero_add]
        exact leaf_own h hg hall.1 (hok v List.mem_cons_self) (hpl 0 v rfl) hp
  | t :: u :: ts, y, vs, ds, j, hg, hall, hok, hpl, hp => by
    rw [List.all_cons, Bool.and_eq_true] at hg
    have hw : width t = 1 := by cases t <;> first | rfl | cases hg.1
    have hp : packs f (.pair t (tupTy (u :: ts))) vs = some y := hp
    simp only [packs, hw] at hp
    split at hp
    · rename_i y0 y1 e0 e1
      injection hp with hp; subst hp
      cases vs with
      | nil => simp only [List.take_nil] at e0; cases t <;> first | (simp [goodTy] at hg; done) | cases e0
      | cons v vs => cases ds with
        | nil => exact hall.elim
        | cons d ds =>
          simp only [List.take_succ_cons, List.take_zero, List.drop_succ_cons, List.drop_zero] at e0 e1
          refine ⟨d, ds, rfl, ?_, res_own h hg.2 hall.2 (fun v hv => hok v (List.mem_cons_of_mem _ hv)) (fun i v hi κ hκ k q hq => ?_) e1⟩
          · rw [Nat.zero_add]
            exact leaf_own h hg.1 hall.1 (hok v List.mem_cons_self) (hpl 0 v rfl) e0
          · have := hpl (i + 1) v (by simpa using hi) κ hκ k q hq
            rw [this]; congr 1; omega
    · cases hp
theorem dsts_mono {n m : Nat} (h : n ≤ m) : ∀ {cd : Code}, dsts n cd = true → dsts m cd = true := by
  intro cd
  induction cd with
  | region id ops dr =>
    intro hd
    refine List.all_eq_true.2 fun o ho => ?_
    have := List.all_eq_true.1 hd o ho
    cases e : o.dst with
    | none => rfl
    | some d =>
      rw [e] at this
      have h1 : d < n := by simpa [Nat.blt_eq] using this
      have h2 : d < m := Nat.lt_of_lt_of_le h1 h
      simpa [Nat.blt_eq] using h2
  | seq x y ihx ihy => intro hd; simp only [dsts, Bool.and_eq_true] at hd ⊢; exact ⟨ihx hd.1, ihy hd.2⟩
  | cond x y z ihy ihz => intro hd; simp only [dsts, Bool.and_eq_true] at hd ⊢; exact ⟨ihy hd.1, ihz hd.2⟩
  | block id b ih => exact ih
  | loop b ih => exact ih
  | skip => exact fun _ => rfl
  | exit _ => exact fun _ => rfl
  | ret => exact fun _ => rfl
  | _ => intro hd; cases hd
theorem frun_sound (hn : Nice P) : ∀ (n : Nat) (fn : Nat) (x : den (parTy H fn)) (y : den (resTy H fn)), frun P H n fn x = some y → Meets P H fn x y
  | 0, fn, x, y, hy => by cases hy
  | n + 1, fn, x, y, hy => by
    simp only [frun] at hy
    split at hy
    · cases hy
    rename_i F hF
    split at hy
    · cases hy
    rename_i cd hb
    cases hc : (fits P F.params.toList (H.par fn) && (fits P F.resultTypes.toList (H.res fn) && ((H.par fn).all goodTy && ((H.res fn).all goodTy && dsts F.ntmps cd)))) with
    | false => rw [hc] at hy; cases hy
    | true =>
      rw [hc, cond_true] at hy
      simp only [Bool.and_eq_true] at hc
      obtain ⟨h1, h2, h3, h4, h5⟩ := hc
      refine ⟨F, cd, hF, hb, fun w cs hrd => ?_⟩
      have hall := inLeaves_ok (c := { χ := fun _ => [], hdr := fun _ => .slice none 0 0, wid := fun _ => 0, blk := fun _ => 0, gens := fun _ => none }) (fun _ => rfl) h3 hrd
      have hent := entry (P := P) (fn := F) (Ts := F.params.toList) rfl hall (inLeaves_b _) (F.ntmps - (grp P F.params.toList cs).toArray.size)
      refine calls_of_wp hF hb (exec_ok (nx := 0) (frun P H n) hn (frun_sound hn n) n (H.live fn) cd (dsts_mono (by omega) h5) hent hy ?_)
      intro e f nx c a w' he hrel
      cases e with
      | normal => cases he
      | exit j => cases he
      | ret =>
        simp only [retC] at he
        split at he
        · rename_i ss hss
          split at he
          · rename_i vs hvs
            cases hoa : ownsAll vs [] with
            | false => rw [hoa] at he; cases he
            | true =>
              rw [hoa, cond_true] at he
              obtain ⟨ys, hys, hrun⟩ := resS_ok hrel nx hss
              obtain ⟨ds, hds, hgrp, hlen⟩ := argLeaves_all hys hvs
              have hown : OwnL w' (fun k => endColour vs (c.χ k)) 0 (H.res fn) y 0 ds := res_own hrel h4 hds (ownsAll_ok hoa) (fun i v hi κ hκ k q hq => by
                show endColour vs (c.χ k) = _
                rw [hq]
                simp only [endColour, ownsAll_get hoa hi hκ 0]) he
              refine ⟨hrel.defers, retV P F.resultTypes.toList ds, ?_, ds, _, rfl, hown, fun k hk => ?_, ⟨hrel.hsize, fun k hk => (hrel.kept k trivial hk).2, hrel.os, hrel.tape, hrel.output⟩⟩
              · have hl : ys.length = F.resultTypes.toList.length := by rw [hlen, hys.len]
                have hm : (F.results.mapM (m := Sem) fun
                    | .tmp t => pure (a.tmps.getD t undef)
                    | .cell p t => do loadVar t (← asAddr (a.tmps.getD p undef))).run P w' = .ok ys.toArray w' := by
                  rw [Array.mapM_eq_mapM_toList]
                  simp only [Sem.run_map, hrun]
                  rfl
                unfold results
                rw [Sem.run_bind]
                refine (congrArg (fun z => Result.andThen z fun (vs : Array Value) w' => Sem.run P (pure (if h : vs.size = 1 then vs[0] else .tuple vs)) w') hm).trans ?_
                simp only [Result.andThen_ok, Sem.run_pure]
                have hgl : (grp P F.resultTypes.toList ds) = ys := hgrp
                unfold retV
                split
                · rename_i h1
                  split
                  · rename_i T e
                    rw [e] at hgl
                    rw [hgl]
                    cases ys with
                    | nil => simp at h1
                    | cons y ys => rfl
                  · rename_i Ts hne
                    exfalso
                    simp only [List.size_toArray] at h1
                    rw [hl] at h1
                    cases hT : F.resultTypes.toList with
                    | nil => rw [hT] at h1; cases h1
                    | cons T Ts' => cases Ts' with
                      | nil => exact hne T hT
                      | cons _ _ => rw [hT] at h1; simp at h1
                · rename_i h1
                  split
                  · rename_i T e
                    rw [e] at hl
                    simp [hl] at h1
                  · rw [hgl]
              · show endColour vs (c.χ k) = []
                rw [(hrel.kept k trivial hk).1]; rfl
          · cases he
        · cases he
end
end Go.Proofs.Ytlkjkhmifhmjbaa.V
