/- A call: the machine does what the interpreter does. -/
import Derived.Test.YtoioaijpdiglfaaVCallB
set_option linter.unusedVariables false
set_option linter.unusedSimpArgs false
namespace Go.Proofs.Ytoioaijpdiglfaa.V
open Go Go.RowKit
section
variable {P : Program} {H : Hints} {o : Oper} {M M' : Nat → Prop} {N key κ : Nat} {w0 w w' : World} {keep : Kp} {f : Nat → Val} {c : Ctx} {a : Act} {R : Type} {k : Wr → Option R} {r : R}
/-- What the caller knows behind a call. -/
structure Behind (w w' : World) (c : Ctx) (f : Nat → Val) (K : Nat) (ms : List OM) (c' : Ctx) (χ' : Nat → List Nat) : Prop where
  tr : ∀ b, ¬ stable (χ' b) → c'.χ b = tr f K ms (χ' b)
  away : ∀ b, b < w.heap.size → c'.χ b = c.χ b → True
/-- A leaf's root, its box, its value. -/
structure LeafOk (w' : World) (c' : Ctx) (M' : Nat → Prop) (u : V × Wr) (d : Value) : Prop where
  sl : ∀ p ∈ u.2, p.1 % 3 ≠ 0
  rt : ∀ κ v, (rl κ, v) ∈ u.2 → ∃ r, v = .root r ∧ RootR w' c' κ r ∧ M' κ
  bx : ∀ β v, (bl β, v) ∈ u.2 → ∃ b, v = .box b ∧ BoxR w' c' β b ∧ M' β ∧ xB M' (.box b)
  vr : VR w' c' u.1 d
  vb : vB M' u.1
theorem leafOk_none {c' : Ctx} {v : V} {d : Value} (h1 : VR w' c' v d) (h2 : vB M' v) : LeafOk w' c' M' (v, []) d :=
  ⟨fun p hp => absurd hp List.not_mem_nil, fun κ v hp => absurd hp List.not_mem_nil, fun β v hp => absurd hp List.not_mem_nil, h1, h2⟩
theorem rl_inj {i j : Nat} (h : rl i = rl j) : i = j := by simp only [rl] at h; omega
theorem bl_inj {i j : Nat} (h : bl i = bl j) : i = j := by simp only [bl] at h; omega
theorem leafOk_root {c' : Ctx} {κ : Nat} {r : Root} {v : V} {d : Value} (hr : RootR w' c' κ r) (hM : M' κ) (h1 : VR w' c' v d) (h2 : vB M' v) : LeafOk w' c' M' (v, [(rl κ, .root r)]) d :=
  ⟨fun p hp => by rw [List.mem_singleton.1 hp]; simp only [rl]; omega, fun κ' v' hp => by
    have := List.mem_singleton.1 hp
    injection this with e1 e2
    rw [rl_inj e1]
    exact ⟨r, e2, hr, hM⟩, fun β v' hp => by
    have := List.mem_singleton.1 hp
    injection this with e1 _
    simp only [rl, bl] at e1; omega, h1, h2⟩
theorem leafOk_box {c' : Ctx} {β : Nat} {b : Box} {v : V} {d : Value} (hr : BoxR w' c' β b) (hM : M' β) (hx : xB M' (.box b)) (h1 : VR w' c' v d) (h2 : vB M' v) : LeafOk w' c' M' (v, [(bl β, .box b)]) d :=
  ⟨fun p hp => by rw [List.mem_singleton.1 hp]; simp only [bl]; omega, fun κ' v' hp => by
    have := List.mem_singleton.1 hp
    injection this with e1 _
    simp only [rl, bl] at e1; omega, fun β' v' hp => by
    have := List.mem_singleton.1 hp
    injection this with e1 e2
    rw [bl_inj e1]
    exact ⟨b, e2, hr, hM, hx⟩, h1, h2⟩
/-- A result's leaf, new. -/
theorem leafOk_new {c' : Ctx} {χ' : Nat → List Nat} {K p : Nat} {ms : List OM} {m : OM} {rm : RM} {t : Ty} {x : den t} {d : Value} (hm : (m = .new ∧ rm = .own) ∨ (m = .dat ∧ rm = .dat)) (hms : ms.getD p .new = m) (hg : goodTy t = true)
    (htr : ∀ b, ¬ stable (χ' b) → c'.χ b = tr f K ms (χ' b)) (hemp : rm = .dat ∨ isPtr t = true → ∀ b, χ' b = [] → c'.χ b = [])
    (hhdr : ∀ A n cp, d = .slice A n cp → c'.hdr (K + p) = d) (hwid : ∀ e s, t = .sl e s → c'.wid (K + p) = width s) (hblk : ∀ ad, d = .pointer (some ad) → c'.blk (K + p) = ad.block) (hgen : ∀ e s, t = .sl e s → rm = .own → c'.gens (K + p) = some 0) (hM : M' (K + p))
    (h : LeafM w' χ' rm t x p d) : LeafOk w' c' M' (outLeaf f m t x (K + p)) d := by
  have ptr : ∀ {T : Nat} {s : Ty} {x : den s}, isPtr (.ptr T s) = true → (∀ b, χ' b = [] → c'.χ b = []) → Own w' χ' (.ptr T s) [p + 1] x [d] → LeafOk w' c' M' (.bptr (K + p) 0, [(bl (K + p), .box (.flds (boxLeaves s x)))]) d := fun {T s x} _ hemp h => by
    obtain ⟨b, z, inner, n, h1, h2, h3, h4, h5⟩ := h
    have hn : n = p := by injection h1 with h1 _; omega
    subst hn
    have hd : d = .pointer (some ⟨b, 0, none⟩) := by simpa using h2
    have hbk := hblk _ hd
    have hrd : Rd w' (fun k => c'.χ k = []) s x inner := Rd_step (fun k hk _ => ⟨hemp k hk, rfl⟩) h5
    refine leafOk_box ⟨inner, z, by rw [hbk]; exact h3, ?_, boxLeaves_ok hrd, Rd_one h5⟩ hM (boxLeaves_b _) (by show d = _; rw [hbk, hd]) hM
    rw [hbk]
    show c'.χ b = _
    rw [htr b (by rw [h4]; rintro (e | e) <;> cases e), h4]
    rcases hm with ⟨rfl, _⟩ | ⟨rfl, _⟩ <;> simp only [tr, hms]
  have scalar : ∀ {v : V}, VR w' c' v d → vB M' v → LeafOk w' c' M' (v, []) d := fun h1 h2 => leafOk_none h1 h2
  cases t with
  | pair _ _ => cases hg
  | unit => cases hg
  | int kk =>
    have h : Own w' χ' (.int kk) [p + 1] x [d] := by rcases hm with ⟨rfl, rfl⟩ | ⟨rfl, rfl⟩ <;> exact h
    have hd : d = .int kk x := by injection (show [d] = _ from h)
    rcases hm with ⟨rfl, rfl⟩ | ⟨rfl, rfl⟩ <;> exact scalar (v := .int kk x) hd trivial
  | bool =>
    have h : Own w' χ' .bool [p + 1] x [d] := by rcases hm with ⟨rfl, rfl⟩ | ⟨rfl, rfl⟩ <;> exact h
    have hd : d = .bool x := by injection (show [d] = _ from h)
    rcases hm with ⟨rfl, rfl⟩ | ⟨rfl, rfl⟩ <;> exact scalar (v := .bool x) hd trivial
  | str =>
    have h : Own w' χ' .str [p + 1] x [d] := by rcases hm with ⟨rfl, rfl⟩ | ⟨rfl, rfl⟩ <;> exact h
    have hd : d = .string x := by injection (show [d] = _ from h)
    rcases hm with ⟨rfl, rfl⟩ | ⟨rfl, rfl⟩ <;> exact scalar (v := .str x) hd trivial
  | ptr T s => rcases hm with ⟨rfl, rfl⟩ | ⟨rfl, rfl⟩ <;> exact ptr (T := T) rfl (hemp (.inr rfl)) h
  | sl e s =>
    rcases hm with ⟨rfl, rfl⟩ | ⟨rfl, rfl⟩
    · have h : Own w' χ' (.sl e s) [p + 1] x [d] := h
      simp only [goodTy, Bool.and_eq_true, Nat.blt_eq] at hg
      have h2 := Own_step (χ' := c'.χ) (w' := w') (p' := [K + p + 1]) (show noP (.sl e s) = true from hg.2) (fun b q hq _ => ⟨by
        rw [htr b (by rw [hq]; rintro (e | e) <;> simp at e), hq]
        show (match ms.getD p .new with | .back v => ioPath f v ++ q | _ => (K + p + 1) :: q) = _
        rw [hms]; rfl, rfl⟩) h
      obtain ⟨v, inner, e1, e2, e3, e4⟩ := h2
      have hdv : d = v := by simpa using e1
      subst hdv
      obtain ⟨A, cp, hs, _⟩ := ownsRow_slice e2
      have hh := hhdr _ _ _ hs
      exact leafOk_root ⟨hwid e s rfl, hg.1, hg.2, .inr (hgen e s rfl rfl), (fun _ e => by cases e), d, inner, hh, e2, e3, e4⟩ hM hh.symm hM
    · have h : Rd w' (fun k => χ' k = []) (.sl e s) x [d] := h
      exact scalar (v := .dat e s x) (Rd_step (fun k hk _ => ⟨hemp (.inl rfl) k hk, rfl⟩) h) trivial
theorem ioFact_ty {v : V} {t : Ty} (h : IoFact f v t) : ioTy t = true := by
  cases v with
  | bptr β off => cases off <;> cases t <;> first | rfl | exact h.elim
  | _ => cases t <;> first | rfl | exact h.elim
/-- What is left of an argument. -/
theorem leafOk_back (h : Rel M N w0 keep f c a w) {c' : Ctx} {χ' : Nat → List Nat} {K p : Nat} {ms : List OM} {v : V} {t : Ty} {x : den t} {d : Value} (hms : ms.getD p .new = .back v) (hg : goodTy t = true) (hLe : Le M M')
    (htr : ∀ b, ¬ stable (χ' b) → c'.χ b = tr f K ms (χ' b)) (hemp : isPtr t = true → ∀ b, χ' b = [] → c'.χ b = [])
    (hh : ∀ κ, M κ → c'.hdr κ = c.hdr κ ∧ c'.wid κ = c.wid κ) (hk : ∀ β, M β → c'.blk β = c.blk β) (hgX : ∀ κ, M κ → κ ∈ keysV v → c'.gens κ = (c.gens κ).map (· + 1))
    (haway : ∀ κ g i o, v = .row κ g i o → ∀ b s, b < w.heap.size → c.χ b = (κ + 1) :: s → strip (ioPath f v) (c.χ b) = none → c'.χ b = c.χ b ∧ w'.heap[b]? = w.heap[b]?)
    (hv : VR w c v d) (hio : IoFact f v t) (hl : LeafM w' χ' .io t x p d) : LeafOk w' c' M' (outLeaf f (.back v) t x (K + p)) d := by
  cases t with
  | pair _ _ => cases hg
  | unit => cases hg
  | int _ => exact absurd (ioFact_ty hio) (by simp [ioTy])
  | bool => exact absurd (ioFact_ty hio) (by simp [ioTy])
  | str => exact absurd (ioFact_ty hio) (by simp [ioTy])
  | ptr T s =>
    cases v with
    | bptr β off =>
      cases off with
      | succ n => exact hio.elim
      | zero =>
        obtain ⟨b, z, inner, n, h1, h2, h3, h4, h5⟩ := (hl : Own w' χ' (.ptr T s) [p + 1] x [d])
        have hn : n = p := by injection h1 with h1 _; omega
        subst hn
        obtain ⟨us, eb⟩ := hio
        have hβ := (h.boxes β _ eb).2
        have hd : d = .pointer (some ⟨b, 0, none⟩) := by simpa using h2
        have hv : d = .pointer (some ⟨c.blk β, 0, none⟩) := hv
        rw [hd] at hv
        injection hv with hv
        injection hv with hv
        injection hv with hv _ _
        have hrd : Rd w' (fun k => c'.χ k = []) s x inner := Rd_step (fun k hk _ => ⟨hemp rfl k hk, rfl⟩) h5
        refine leafOk_box ⟨inner, z, by rw [hk β hβ, ← hv]; exact h3, ?_, boxLeaves_ok hrd, Rd_one h5⟩ (hLe _ hβ) (boxLeaves_b _) trivial trivial
        rw [hk β hβ, ← hv]
        rw [htr b (by rw [h4]; rintro (e | e) <;> cases e), h4]
        simp only [tr, hms]
    | _ => exact hio.elim
  | sl e s =>
    have hl : Own w' χ' (.sl e s) [p + 1] x [d] := hl
    simp only [goodTy, Bool.and_eq_true, Nat.blt_eq] at hg
    have hnop : noP (.sl e s) = true := hg.2
    have hown : Own w' c'.χ (.sl e s) (ioPath f v) x [d] := by
      have := Own_step (χ' := c'.χ) (w' := w') (p' := ioPath f v) hnop (fun b q hq _ => ⟨by
        rw [htr b (by rw [hq]; rintro (e | e) <;> simp at e), hq]
        show (match ms.getD p .new with | .back v => ioPath f v ++ q | _ => (K + p + 1) :: q) = _
        rw [hms], rfl⟩) hl
      exact this
    cases v with
    | own κ =>
      obtain ⟨rt, er, hhole, hd, he, ht⟩ := hio
      obtain ⟨hR, hκ⟩ := h.roots κ rt er
      have hv : d = c.hdr κ := hv
      obtain ⟨v, inner, e1, e2, e3, e4⟩ := hown
      have hdv : d = v := by simpa using e1
      subst hdv
      have hge : genOf f κ = rt.gen := by unfold genOf; rw [er]
      refine leafOk_root ⟨by rw [(hh κ hκ).2, hR.wid, ht], hg.1, hg.2, ?_, (fun _ e => by cases e), d, inner, by rw [(hh κ hκ).1, hv], e2, e3, e4⟩ (hLe _ hκ) trivial trivial
      rcases hR.gen with hfl | hgn
      · exact .inl (show flat s = true by rw [← ht]; exact hfl)
      · right
        rw [hgX κ hκ (List.mem_singleton_self _), hgn, hge]; rfl
    | row κ g i oo =>
      obtain ⟨rt, xs, er, hhole, hd, hgen, el⟩ := hio
      obtain ⟨hR, hκ⟩ := h.roots κ rt er
      have hgk := gens_ok h er el
      obtain ⟨b, n, cp, hhd, hin, hoo, hcl⟩ := (hv _ hgk).2 hgen.symm
      obtain ⟨z, hz⟩ := setLeaf_dat (f := f) (zs := x) el
      have hpath : ioPath f (.row κ g i oo) = [κ + 1, i] ++ lp rt.t oo := by simp only [ioPath, er]
      rw [hpath] at hown
      have haway := haway κ g i oo rfl
      rw [hpath] at haway
      obtain ⟨hwid, hpos, hnopr, hgenr, hholer, vr, innr, hvr, hownr, hcolr, helr⟩ := hR
      rw [hhole, hd] at helr
      rw [hhd] at hvr
      subst hvr
      rw [hwid] at hoo hcl
      have hnx : n = rt.xs.length := by obtain ⟨_, _, he, _⟩ := ownsRow_slice hownr; injection he
      have hbl : b < w.heap.size := (hownr.lt b rfl).2
      have nost : ∀ q, q ≠ [κ + 1, i] ++ lp rt.t oo ++ (q.drop ([κ + 1, i] ++ lp rt.t oo).length) → strip ([κ + 1, i] ++ lp rt.t oo) q = none := fun q hq => by
        cases hst : strip ([κ + 1, i] ++ lp rt.t oo) q with
        | none => rfl
        | some s' =>
          have := strip_some.1 hst
          exact absurd (by rw [this, List.drop_left]) hq
      have nost2 : ∀ q, (∀ s', q ≠ [κ + 1, i] ++ lp rt.t oo ++ s') → strip ([κ + 1, i] ++ lp rt.t oo) q = none := fun q hq => by
        cases hst : strip ([κ + 1, i] ++ lp rt.t oo) q with
        | none => rfl
        | some s' => exact absurd (strip_some.1 hst) (hq s')
      have e0 : outLeaf f (.back (.row κ g i oo)) (.sl e s) x (K + p) = (.undef, [(rl κ, .root { rt with xs := rt.xs.set i z, gen := rt.gen + 1 })]) := by
        simp only [outLeaf, er, hz]
      rw [e0]
      refine leafOk_root ⟨by rw [(hh κ hκ).2]; exact hwid, hpos, hnopr, ?_, hholer, .slice (some ⟨b, 0, none⟩) n cp, innr, by rw [(hh κ hκ).1]; exact hhd, ?_, fun q hq => ?_, fun j y hy => ?_⟩ (hLe _ hκ) trivial trivial
      · right
        rw [hgX κ hκ (List.mem_singleton_self _), hgk]; rfl
      · show w'.ownsRow 0 rt.e (width rt.t) _ (rt.xs.set i z).length innr
        rw [List.length_set]
        refine ownsRow_move hownr (fun q hq hl => ?_)
        have hq := hcolr q hq
        exact (haway q [] hl hq (nost2 _ (fun s' e => by rw [hq] at e; simp at e))).2
      · have hq2 := hcolr q hq
        have hql : q < w.heap.size := (hownr.lt q hq).2
        rw [(haway q [] hql hq2 (nost2 _ (fun s' e => by rw [hq2] at e; simp at e))).1]; exact hq2
      · show El w' c'.χ rt.deep rt.t [κ + 1, j] y (((holed innr rt.hole).drop (j * width rt.t)).take (width rt.t))
        rw [hd, hhole]
        show Own w' c'.χ rt.t [κ + 1, j] y ((innr.drop (j * width rt.t)).take (width rt.t))
        have hy : (rt.xs.set i z)[j]? = some y := hy
        have hjl : j < rt.xs.length := by have := (List.getElem?_eq_some_iff.1 hy).1; rwa [List.length_set] at this
        by_cases e3 : j = i
        · subst e3
          rw [List.getElem?_set, if_pos rfl, if_pos hjl] at hy
          injection hy with hy; subst hy
          have hxi : rt.xs[j]? = some (rt.xs.getD j (dflt rt.t)) := by rw [List.getD_eq_getElem?_getD, List.getElem?_eq_getElem hjl]; rfl
          have hE := helr j _ hxi
          have hEl : ((innr.drop (j * width rt.t)).take (width rt.t)).length = width rt.t := Own_len hE
          have hcu : ((innr.drop (j * width rt.t)).take (width rt.t))[oo]? = some d := by
            obtain ⟨u2, hu2⟩ : ∃ u2, ((innr.drop (j * width rt.t)).take (width rt.t))[oo]? = some u2 := ⟨_, List.getElem?_eq_getElem (by omega)⟩
            have := hownr.cells (g := b) rfl _ u2 (drop_take_get innr _ _ oo u2 hu2)
            rw [add_plain', Nat.zero_add, hcl] at this
            rw [hu2, this]
          have hsp : splice ((innr.drop (j * width rt.t)).take (width rt.t)) oo [d] = (innr.drop (j * width rt.t)).take (width rt.t) := by
            apply List.ext_getElem?
            intro k
            rw [splice_get (by rw [List.length_singleton]; omega), List.length_singleton]
            by_cases hk : oo ≤ k ∧ k < oo + 1
            · have : k = oo := by omega
              subst this
              rw [if_pos hk, hcu, Nat.sub_self]; rfl
            · rw [if_neg hk]
          rw [← hsp]
          refine Own_put (χ := c.χ) (w := w) hnopr hoo (fun q r' hq hnr hl => ?_) hE (fun s' y' hs' hp => ?_) hz
          · have := haway q (j :: r') hl hq (nost2 _ (fun s' e => by
              rw [hq, List.append_assoc] at e
              exact hnr s' (List.append_cancel_left e)))
            exact ⟨this.1.trans hq, this.2⟩
          · cases s' <;> first | (cases hp; done) | skip
            rename_i e2 t2
            simp only [packV, readL] at hp
            obtain ⟨he2', hp⟩ := cond_some' hp
            have he2' := Nat.eq_of_beq_eq_true he2'
            subst he2'
            obtain ⟨hty, hyy⟩ := castTo_some hp
            injection hty with _ hty
            subst hty
            have hyy : y' = x := hyy
            subst hyy
            exact hown
        · rw [List.getElem?_set, if_neg (fun e' => e3 e'.symm)] at hy
          refine Own_step hnopr (fun q r' hq hl => ?_) (helr j y hy)
          have := haway q (j :: r') hl hq (nost2 _ (fun s' e => by
            rw [hq] at e
            simp at e
            exact e3 e.1))
          exact ⟨this.1.trans hq, this.2⟩
    | bptr β off => cases off <;> exact hio.elim
    | _ => exact hio.elim
/-- The same root is not handed over twice. -/
theorem same_of_key : ∀ {ios : List (Nat × V)} {p q : Nat × V} {κ : Nat}, nodupN (ios.map fun p => keysV p.2).flatten = true → p ∈ ios → q ∈ ios → κ ∈ keysV p.2 → κ ∈ keysV q.2 → p.2 = q.2
  | u :: ios, p, q, κ, hn, hp, hq, hkp, hkq => by
    simp only [List.map_cons, List.flatten_cons] at hn
    obtain ⟨hn1, hn2⟩ := nodup_app hn
    have inR : ∀ {z : Nat × V}, z ∈ ios → κ ∈ keysV z.2 → κ ∈ (ios.map fun p => keysV p.2).flatten := fun hz hk => List.mem_flatten.2 ⟨_, List.mem_map.2 ⟨_, hz, rfl⟩, hk⟩
    rcases List.mem_cons.1 hp with e1 | e1 <;> rcases List.mem_cons.1 hq with e2 | e2
    · rw [e1, e2]
    · rw [e1] at hkp; exact absurd (inR e2 hkq) (hn2 κ hkp)
    · rw [e2] at hkq; exact absurd (inR e1 hkp) (hn2 κ hkq)
    · exact same_of_key hn1 e1 e2 hkp hkq
  | [], _, _, _, _, hp, _, _, _ => by cases hp
theorem back_touch {v : V} {t : Ty} {x : den t} {K κ : Nat} (h : IoFact f v t) (hκ : κ ∈ keysV v) : ∃ u, (rl κ, u) ∈ (outLeaf f (.back v) t x K).2 := by
  have ht := ioFact_ty h
  cases t with
  | sl e s =>
    cases v with
    | own κ' =>
      rw [show κ = κ' from List.mem_singleton.1 hκ]
      exact ⟨_, List.mem_singleton_self _⟩
    | row κ' g i o =>
      obtain ⟨rt, xs, er, _, _, _, el⟩ := h
      obtain ⟨z, hz⟩ := setLeaf_dat (f := f) (zs := x) el
      rw [show κ = κ' from List.mem_singleton.1 hκ]
      refine ⟨.root { rt with xs := rt.xs.set i z, gen := rt.gen + 1 }, ?_⟩
      simp only [outLeaf, er, hz]
      exact List.mem_singleton_self _
    | bptr _ _ => cases hκ
    | _ => exact h.elim
  | ptr T s =>
    cases v with
    | bptr _ _ => cases hκ
    | _ => exact h.elim
  | _ => cases ht
theorem back_touchB {v : V} {t : Ty} {x : den t} {K β : Nat} (h : IoFact f v t) (hβ : β ∈ boxV v) : ∃ u, (bl β, u) ∈ (outLeaf f (.back v) t x K).2 := by
  have ht := ioFact_ty h
  cases t with
  | sl e s =>
    cases v with
    | bptr β' off => cases off <;> exact h.elim
    | own _ => cases hβ
    | row _ _ _ _ => cases hβ
    | _ => exact h.elim
  | ptr T s =>
    cases v with
    | bptr β' off =>
      rw [show β = β' from List.mem_singleton.1 hβ]
      exact ⟨_, List.mem_singleton_self _⟩
    | _ => exact h.elim
  | _ => cases ht
theorem take_map {α β : Type} (g : α → β) (n : Nat) (l : List α) : (l.map g).take n = (l.take n).map g := by simp
open Classical in
theorem does_callS (call : CallR H) (hn : NiceG P H w0 keep) (hcall : ∀ fn x y, call fn x = some y → Meets P H fn x y) (h : Rel M N w0 keep f c a w) (hM : Fr M key) (hd : DstP N keep o.dst) {fn : Nat} {ca : Call} (ho : o.op = .call ca) (hcal : ca.callee = .value (.func fn)) {ss : List S} (hss : All2 (SR w c) ss (ca.args.toList.map a.eval))
    (hk : callC P H call fn ss f (64 * key) o.dst k = some r) : Does P o M N w0 keep f key a w k r := by
  unfold callC at hk
  split at hk
  · cases hk
  rename_i F hF
  split at hk
  · cases hk
  rename_i vs hvs
  split at hk
  · cases hk
  rename_i x hx
  obtain ⟨hc, hk⟩ := cond_some' hk
  simp only [Bool.and_eq_true] at hc
  obtain ⟨hc1, hc2, hpg, hc3, hc4⟩ := hc
  have hc1 := Nat.le_of_ble_eq_true hc1
  unfold callOk at hc4
  simp only [Bool.and_eq_true] at hc4
  obtain ⟨hout, hnk, hnb, hpl⟩ := hc4
  cases hy : call fn x with
  | none => rw [hy] at hk; cases hk
  | some y =>
    rw [hy] at hk
    have hk : k ((outLeaves f (modesOf H fn vs) (H.res fn) y (64 * key)).2 ++ putS o.dst (outS P F.resultTypes.toList ((outLeaves f (modesOf H fn vs) (H.res fn) y (64 * key)).1.take (nres H fn)))) = some r := hk
    generalize hms : modesOf H fn vs = ms at hk
    generalize hou : outLeaves f ms (H.res fn) y (64 * key) = ou at hk
    obtain ⟨F', cd, hF', hb, hmeets⟩ := hcall fn x y hy
    rw [hF] at hF'
    injection hF' with hF'; subst hF'
    obtain ⟨cs, hcs, hgrp⟩ := argLeaves_gen hss hvs
    obtain ⟨hvl, heach⟩ := packA_each hx
    have hlt : ∀ i ∈ H.out fn, i < (H.par fn).length := fun i hi => by
      have := hout
      unfold outOk at this
      simp only [Bool.and_eq_true] at this
      have := ascN_lt this.1 i hi
      omega
    let ios : List (Nat × V) := (H.out fn).map fun i => (i, vs.getD i .undef)
    have hios : ioVs H fn vs = ios.map (·.2) := by simp only [ios, ioVs, List.map_map, Function.comp_def]
    have hfact : ∀ i ∈ H.out fn, ∃ v t, vs[i]? = some v ∧ (H.par fn)[i]? = some t ∧ IoFact f v t := fun i hi => by
      have h1 := hlt i hi
      have h2 : i < vs.length := by omega
      refine ⟨_, _, List.getElem?_eq_getElem h2, List.getElem?_eq_getElem h1, ?_⟩
      exact heach i _ _ (List.getElem?_eq_getElem h2) (List.getElem?_eq_getElem h1) (by rw [Nat.zero_add]; exact memN_mem.2 hi)
    have hiv : ∀ p ∈ ios, ioV p.2 := fun p hp => by
      obtain ⟨i, hi, rfl⟩ := List.mem_map.1 hp
      obtain ⟨v, t, h1, h2, h3⟩ := hfact i hi
      simp only [List.getD_eq_getElem?_getD, h1, Option.getD_some]
      exact ioFact_v h3
    have hn1 : nodupN (ios.map fun p => keysV p.2).flatten = true := by
      rw [hios, List.map_map] at hnk; exact hnk
    have hn2 : nodupN (ios.map fun p => boxV p.2).flatten = true := by
      rw [hios, List.map_map] at hnb; exact hnb
    have hpl' : plainOk (ioB H fn) (ios.map fun p => keysV p.2).flatten (strictF H fn) 0 vs = true := by
      rw [hios, List.map_map] at hpl; exact hpl
    have harg : ArgM w (fun b => col0 f (strictF H fn) ios (c.χ b)) (ioB H fn) (H.par fn) 0 x cs := by
      exact args_ok h hiv hn1 hn2 hpg hcs hpl' (fun j v hj hb => by
        have hm := memN_mem.1 hb
        rw [Nat.zero_add] at hm ⊢
        exact List.mem_map.2 ⟨j, hm, by rw [List.getD_eq_getElem?_getD, hj]; rfl⟩) hx
    have hglob : Glob P H w (fun b => col0 f (strictF H fn) ios (c.χ b)) := fun nm kd zs e => by
      obtain ⟨g1, g2⟩ := h.glob hn.glob nm kd zs e
      refine ⟨g1, fun g hg => ?_⟩
      have hs := g2 g hg
      show stable (col0 f (strictF H fn) ios (c.χ g))
      rw [col0_free hiv (fun κ s e => by rw [e] at hs; rcases hs with hs | hs <;> cases hs) (fun β e => by rw [e] at hs; rcases hs with hs | hs <;> cases hs)]
      by_cases e : c.χ g = []
      · rw [if_pos e]; exact .inl rfl
      · rw [if_neg e]
        cases strictF H fn
        · exact .inl rfl
        · exact .inr rfl
    generalize hχ0 : (fun b => col0 f (strictF H fn) ios (c.χ b)) = χ0 at harg hglob
    intro next Q hnext
    show o.upon P a next Q _
    have hrun : (execOp a.eval o).run P w = .ok (.enter fn (grp P F.params.toList cs).toArray) w := by
      have he : (grp P F.params.toList cs).toArray = ca.args.map a.eval := by rw [hgrp]; apply Array.ext'; simp
      rw [he]
      simp [execOp, ho, resolve, hcal, invoke, Act.eval, Deferred.ofValue, run_callFunc hn.nice hF hb]
    rw [hrun]
    refine (hmeets w cs χ0 hglob harg).mono fun e w' he => ?_
    obtain ⟨ds, χ', rfl, hown, hdr, haft⟩ := he
    show next _ w'
    obtain ⟨L, hLt, hLd, hLm, hLo⟩ := ownM_each hown
    have hLlen : L.length = (H.res fn).length := by rw [hLt, List.length_map]
    let K := 64 * key
    let inK : Nat → Prop := fun j => K ≤ j ∧ j < K + 60
    have hnK : ∀ j, M j → ¬ inK j := fun j hj hi => hM j hj ⟨hi.1, by have := hi.2; show j < 64 * key + 64; have : K = 64 * key := rfl; omega⟩
    let X : Nat → Prop := fun κ => ∃ p ∈ ios, κ ∈ keysV p.2
    let Y : Nat → Prop := fun β => ∃ p ∈ ios, β ∈ boxV p.2
    let c' : Ctx := { χ := fun b => if b < w.heap.size ∧ stable (χ0 b) then c.χ b else tr f K ms (χ' b)
                      hdr := fun j => if inK j then (match L[j - K]? with | some l => (match l.d with | .slice A n cp => .slice A n cp | _ => .slice none 0 0) | none => .slice none 0 0) else c.hdr j
                      wid := fun j => if inK j then (match L[j - K]? with | some l => (match l.t with | .sl _ s => width s | _ => 0) | none => 0) else c.wid j
                      blk := fun j => if inK j then (match L[j - K]? with | some l => (match l.d with | .pointer (some ad) => ad.block | _ => 0) | none => 0) else c.blk j
                      gens := fun j => if inK j then (match L[j - K]?, ms.getD (j - K) .new with | some l, .new => (match l.t with | .sl _ _ => some 0 | _ => none) | _, _ => none) else if X j then (c.gens j).map (· + 1) else c.gens j }
    have hcolFree : ∀ b, b < w.heap.size → stable (χ0 b) → c'.χ b = c.χ b ∧ w'.heap[b]? = w.heap[b]? := fun b hl hs => ⟨if_pos ⟨hl, hs⟩, (haft.old b hs hl).2⟩
    have htr : ∀ b, ¬ stable (χ' b) → c'.χ b = tr f K ms (χ' b) := fun b hb => if_neg (fun ⟨hl, hs⟩ => hb (by rw [(haft.old b hs hl).1]; exact hs))
    have hemp : strictF H fn = true → ∀ b, χ' b = [] → c'.χ b = [] := fun hst b hb => by
      by_cases e : b < w.heap.size ∧ stable (χ0 b)
      · have h1 : c'.χ b = c.χ b := if_pos e
        rw [h1]
        have h2 := (haft.old b e.2 e.1).1
        rw [hb, ← hχ0] at h2
        have h2 : [] = col0 f (strictF H fn) ios (c.χ b) := h2
        rw [hst] at h2
        exact col0_strict h2.symm
      · have h1 : c'.χ b = tr f K ms (χ' b) := if_neg e
        rw [h1, hb]; rfl
    have hhM : ∀ κ, M κ → c'.hdr κ = c.hdr κ ∧ c'.wid κ = c.wid κ := fun κ hκ => ⟨if_neg (hnK κ hκ), if_neg (hnK κ hκ)⟩
    have hkM : ∀ β, M β → c'.blk β = c.blk β := fun β hβ => if_neg (hnK β hβ)
    -- each leaf
    have leaf : ∀ p l, L[p]? = some l → LeafOk w' c' (Un M key) (outLeaf f (ms.getD p .new) l.t l.x (K + p)) l.d ∧ ∀ κ ∈ keysV (match ms.getD p .new with | .back v => v | _ => .undef), ∃ u, (rl κ, u) ∈ (outLeaf f (ms.getD p .new) l.t l.x (K + p)).2 := fun p l hl => by
      have hp : p < (H.res fn).length := by rw [← hLlen]; exact (List.getElem?_eq_some_iff.1 hl).1
      have hlm := hLm p l hl
      rw [Nat.zero_add] at hlm
      have htl : (H.res fn)[p]? = some l.t := by rw [hLt, List.getElem?_map, hl]; rfl
      have hg : goodTy l.t = true := List.all_eq_true.1 hc2 _ (List.mem_of_getElem? htl)
      have hin : inK (K + p) := ⟨by omega, by omega⟩
      have hsub : K + p - K = p := by omega
      have hst : (rmsOf H fn).getD p .own = .dat ∧ (H.dats fn).isEmpty = false ∨ isPtr l.t = true → strictF H fn = true := fun hor => by
        unfold strictF
        rcases hor with ⟨_, he⟩ | he
        · rw [he]; simp
        · have : (H.res fn).any isPtr = true := List.any_eq_true.2 ⟨_, List.mem_of_getElem? htl, he⟩
          rw [this]; simp
      rcases modes_get hout (vs := vs) hp with ⟨hlt', hmode⟩ | ⟨j, i, hpj, hj, hm1, hm2⟩
      · rw [hms] at hmode
        refine ⟨?_, fun κ hκ => ?_⟩
        · refine leafOk_new (χ' := χ') (rm := (rmsOf H fn).getD p .own) (ms := ms) (by
            rcases hmode with ⟨e1, e2⟩ | ⟨e1, e2, _⟩
            · exact .inl ⟨e1, e2⟩
            · exact .inr ⟨e1, e2⟩) rfl hg htr (fun hor => hemp (hst (hor.elim (fun e => .inl ⟨e, by
              rcases hmode with ⟨_, e2⟩ | ⟨_, _, e3⟩
              · rw [e2] at e; cases e
              · exact e3⟩) .inr))) (fun A n cp e => ?_) (fun e s e' => ?_) (fun ad e => ?_) (fun e s e' er => ?_) (.inr ⟨by show 64 * key ≤ K + p; show 64 * key ≤ 64 * key + p; omega, by show 64 * key + p < 64 * key + 64; omega⟩) hlm
          · show (if inK (K + p) then _ else _) = _
            rw [if_pos hin, hsub, hl]
            simp only [e]
          · show (if inK (K + p) then _ else _) = _
            rw [if_pos hin, hsub, hl]
            simp only [e']
          · show (if inK (K + p) then _ else _) = _
            rw [if_pos hin, hsub, hl]
            simp only [e]
          · show (if inK (K + p) then _ else _) = _
            have : ms.getD p .new = .new := by
              rcases hmode with ⟨e1, _⟩ | ⟨_, e2, _⟩
              · exact e1
              · rw [e2] at er; cases er
            rw [if_pos hin, hsub, hl, this]
            simp only [e']
        · rcases hmode with ⟨e1, _⟩ | ⟨e1, _⟩ <;> · rw [e1] at hκ; cases hκ
      · rw [hms] at hm1
        rw [hm2] at hlm
        have hiO : i ∈ H.out fn := List.mem_of_getElem? hj
        obtain ⟨v, t, hv1, hv2, hv3⟩ := hfact i hiO
        have hvv : vs.getD i .undef = v := by rw [List.getD_eq_getElem?_getD, hv1]; rfl
        rw [hvv] at hm1
        have hmem : (i, v) ∈ ios := List.mem_map.2 ⟨i, hiO, by rw [hvv]⟩
        -- the leaf's type is the parameter's
        have htt : l.t = t := by
          have hto := hout
          unfold outOk at hto
          simp only [Bool.and_eq_true] at hto
          have := sameTys_eq hto.2.2.1
          have h1 : ((H.res fn).drop (nres H fn))[j]? = some l.t := by rw [List.getElem?_drop, ← hpj]; exact htl
          rw [this] at h1
          unfold tysAt at h1
          rw [List.getElem?_map, hj] at h1
          have h1 : (H.par fn).getD i .unit = l.t := by simpa using h1
          rw [← h1, List.getD_eq_getElem?_getD, hv2]; rfl
        -- its value is the argument's
        obtain ⟨dv, hdv, hvr⟩ := hcs.get hv1
        have hld : l.d = dv := by
          have h1 : (ds.drop (nres H fn))[j]? = some l.d := by rw [List.getElem?_drop, ← hpj, hLd, List.getElem?_map, hl]; rfl
          rw [hdr, List.getElem?_map, hj] at h1
          have h1 : cs.getD i undef = l.d := by simpa using h1
          rw [← h1, List.getD_eq_getElem?_getD, hdv]; rfl
        rw [← htt] at hv3
        rw [← hld] at hvr
        rw [hm1]
        refine ⟨leafOk_back h (χ' := χ') (ms := ms) hm1 hg Le.un htr (fun hpt => hemp (hst (.inr hpt))) hhM hkM (fun κ hκ hkv => ?_) (fun κ g i' o' hvr' b s hl' hcb hst' => ?_) hvr hv3 hlm, fun κ hκ => ?_⟩
        · show (if inK κ then _ else if X κ then _ else _) = _
          rw [if_neg (hnK κ hκ), if_pos ⟨(i, v), hmem, hkv⟩]
        · refine hcolFree b hl' ?_
          rw [← hχ0]
          refine col0_away hiv (fun p' hp' => ?_) (fun β e => by rw [hcb] at e; injection e with e _; omega)
          by_cases e : κ ∈ keysV p'.2
          · -- the same root: the same argument
            obtain ⟨i2, hi2, rfl⟩ := List.mem_map.1 hp'
            have hsame : vs.getD i2 .undef = v := same_of_key hn1 hp' hmem e (by rw [hvr']; exact List.mem_singleton_self _)
            show strip (ioPath f (vs.getD i2 .undef)) (c.χ b) = none
            rw [hsame]; exact hst'
          · cases hst2 : strip (ioPath f p'.2) (c.χ b) with
            | none => rfl
            | some s2 =>
              exfalso
              have h2 := strip_some.1 hst2
              have hr := hiv p' hp'
              cases hpv : p'.2 with
              | own κ2 =>
                rw [hpv, hcb] at h2
                simp only [ioPath, List.cons_append, List.cons.injEq] at h2
                have : κ = κ2 := by omega
                exact e (by rw [hpv, this]; exact List.mem_singleton_self _)
              | row κ2 g2 i2 o2 =>
                obtain ⟨sp, hsp⟩ := keysV_path (f := f) (v := .row κ2 g2 i2 o2) (κ := κ2) (List.mem_singleton_self _) (.inr ⟨κ2, g2, i2, o2, rfl⟩)
                rw [hpv, hsp, hcb] at h2
                simp only [List.cons_append, List.cons.injEq] at h2
                have : κ = κ2 := by omega
                exact e (by rw [hpv, this]; exact List.mem_singleton_self _)
              | bptr β2 off2 =>
                rw [hpv, hcb] at h2
                simp only [ioPath, List.cons_append, List.cons.injEq] at h2
                omega
              | _ => rw [hpv] at hr; exact hr.elim
        · have hκ : κ ∈ keysV v := hκ
          exact back_touch hv3 hκ
    have hW1 : ou.2 = ((L.zipIdx 0).map (fun q => (outLeaf f (ms.getD q.2 .new) q.1.t q.1.x (K + q.2)).2)).flatten := by rw [← hou, hLo]
    have hW2 : ou.1 = (L.zipIdx 0).map (fun q => (outLeaf f (ms.getD q.2 .new) q.1.t q.1.x (K + q.2)).1) := by rw [← hou, hLo]
    have hmemW : ∀ p, p ∈ ou.2 ↔ ∃ i l, L[i]? = some l ∧ p ∈ (outLeaf f (ms.getD i .new) l.t l.x (K + i)).2 := fun p => by
      rw [hW1, List.mem_flatten]
      constructor
      · rintro ⟨u, hu, hp⟩
        obtain ⟨⟨l, i⟩, hq, rfl⟩ := List.mem_map.1 hu
        exact ⟨i, l, by simpa using List.mem_zipIdx_iff_getElem?.1 hq, hp⟩
      · rintro ⟨i, l, hl, hp⟩
        exact ⟨_, List.mem_map.2 ⟨(l, i), List.mem_zipIdx_iff_getElem?.2 (by simpa using hl), rfl⟩, hp⟩
    have hback : ∀ p ∈ ios, ∃ i l, L[i]? = some l ∧ ms.getD i .new = .back p.2 ∧ IoFact f p.2 l.t := fun p hp => by
      obtain ⟨i, hi, rfl⟩ := List.mem_map.1 hp
      obtain ⟨j, hj⟩ := List.getElem?_of_mem hi
      have hto := hout
      unfold outOk at hto
      simp only [Bool.and_eq_true] at hto
      have hle2 := Nat.le_of_ble_eq_true hto.2.1
      have hjl := (List.getElem?_eq_some_iff.1 hj).1
      have hpl2 : nres H fn + j < (H.res fn).length := by unfold nres; omega
      have hlL : nres H fn + j < L.length := by rw [hLlen]; exact hpl2
      rcases modes_get hout (vs := vs) hpl2 with ⟨hlt', _⟩ | ⟨j', i', e1, e2, e3, _⟩
      · omega
      · have : j' = j := by omega
        subst this
        rw [hj] at e2
        injection e2 with e2
        subst e2
        rw [hms] at e3
        refine ⟨_, _, List.getElem?_eq_getElem hlL, e3, ?_⟩
        obtain ⟨v, t, hv1, hv2, hv3⟩ := hfact i hi
        have hvv : vs.getD i .undef = v := by rw [List.getD_eq_getElem?_getD, hv1]; rfl
        have htt : L[nres H fn + j'].t = t := by
          have := sameTys_eq hto.2.2.1
          have h1 : ((H.res fn).drop (nres H fn))[j']? = some L[nres H fn + j'].t := by rw [List.getElem?_drop, hLt, List.getElem?_map, List.getElem?_eq_getElem hlL]; rfl
          rw [this] at h1
          unfold tysAt at h1
          rw [List.getElem?_map, hj] at h1
          have h1 : (H.par fn).getD i .unit = L[nres H fn + j'].t := by simpa using h1
          rw [← h1, List.getD_eq_getElem?_getD, hv2]; rfl
        show IoFact f (vs.getD i .undef) _
        rw [hvv, htt]; exact hv3
    have hrel : Rel (Un M key) N w0 keep (upds f ou.2) c' a w' := by
      refine h.many Le.un X Y (fun p hp => ?_) haft.size haft.os haft.tape haft.output (fun b hl h1 h2 => hcolFree b hl ?_) hhM hkM (fun κ hκ hx g' hg' => ?_) (fun κ hκ hx => ?_) (fun κ v hv => ?_) (fun β v hv => ?_) (fun κ hx => ?_) (fun β hx => ?_) (fun κ g hg => ?_) (fun j => ?_)
      · obtain ⟨i, l, hl, hp⟩ := (hmemW p).1 hp
        exact (leaf i l hl).1.sl p hp
      · rw [← hχ0]
        show stable (col0 f (strictF H fn) ios (c.χ b))
        rw [col0_free hiv (fun κ s e p hp hk' => h1 κ s e ⟨p, hp, hk'⟩) (fun β e p hp hk' => h2 β e ⟨p, hp, hk'⟩)]
        by_cases e : c.χ b = []
        · rw [if_pos e]; exact .inl rfl
        · rw [if_neg e]
          cases strictF H fn
          · exact .inl rfl
          · exact .inr rfl
      · have hg' : (if inK κ then _ else if X κ then (c.gens κ).map (· + 1) else c.gens κ) = some g' := hg'
        rw [if_neg (hnK κ hκ), if_pos hx] at hg'
        cases hc' : c.gens κ with
        | none => rw [hc'] at hg'; cases hg'
        | some g0 =>
          rw [hc'] at hg'
          have hg' : g0 + 1 = g' := by simpa using hg'
          exact ⟨g0, rfl, by omega⟩
      · show (if inK κ then _ else if X κ then (c.gens κ).map (· + 1) else c.gens κ) = _
        rw [if_neg (hnK κ hκ), if_neg hx]
      · obtain ⟨i, l, hl, hp⟩ := (hmemW _).1 hv
        exact (leaf i l hl).1.rt κ v hp
      · obtain ⟨i, l, hl, hp⟩ := (hmemW _).1 hv
        exact (leaf i l hl).1.bx β v hp
      · obtain ⟨p, hp, hkp⟩ := hx
        obtain ⟨i, l, hl, hm, hf⟩ := hback p hp
        have := (leaf i l hl).2
        rw [hm] at this
        obtain ⟨u, hu⟩ := this κ hkp
        exact ⟨u, (hmemW _).2 ⟨i, l, hl, by rw [hm]; exact hu⟩⟩
      · obtain ⟨p, hp, hkp⟩ := hx
        obtain ⟨i, l, hl, hm, hf⟩ := hback p hp
        obtain ⟨u, hu⟩ := back_touchB (x := l.x) (K := K + i) hf hkp
        exact ⟨u, (hmemW _).2 ⟨i, l, hl, by rw [hm]; exact hu⟩⟩
      · have hg : (if inK κ then (match L[κ - K]?, ms.getD (κ - K) .new with | some l, .new => (match l.t with | .sl _ _ => some 0 | _ => none) | _, _ => none) else if X κ then (c.gens κ).map (· + 1) else c.gens κ) = some g := hg
        by_cases hi : inK κ
        · left
          rw [if_pos hi] at hg
          cases hl : L[κ - K]? with
          | none => rw [hl] at hg; cases hg
          | some l =>
            rw [hl] at hg
            cases hm : ms.getD (κ - K) .new with
            | dat => rw [hm] at hg; cases hg
            | back _ => rw [hm] at hg; cases hg
            | new =>
              rw [hm] at hg
              obtain ⟨t, lx, ld⟩ := l
              cases t <;> first | (cases hg; done) | skip
              rename_i e s
              refine ⟨.root ⟨e, s, lx, true, 0, none⟩, (hmemW _).2 ⟨κ - K, ⟨.sl e s, lx, ld⟩, hl, ?_⟩⟩
              rw [hm]
              show (rl κ, _) ∈ [(rl (K + (κ - K)), _)]
              rw [show K + (κ - K) = κ by have := hi.1; omega]
              exact List.mem_singleton_self _
        · rw [if_neg hi] at hg
          by_cases hx : X κ
          · left
            obtain ⟨p, hp, hkp⟩ := hx
            obtain ⟨i, l, hl, hm, hf⟩ := hback p hp
            have := (leaf i l hl).2
            rw [hm] at this
            obtain ⟨u, hu⟩ := this κ hkp
            exact ⟨u, (hmemW _).2 ⟨i, l, hl, by rw [hm]; exact hu⟩⟩
          · right
            rw [if_neg hx] at hg; exact hg
      · by_cases hi : inK j
        · right
          show ∃ A n cp, (if inK j then _ else _) = _
          rw [if_pos hi]
          split
          · split
            · exact ⟨_, _, _, rfl⟩
            · exact ⟨_, _, _, rfl⟩
          · exact ⟨_, _, _, rfl⟩
        · left; exact if_neg hi
    refine hnext _ c' _ w' hk ?_
    rw [upds_app]
    have hall : All2 (VR w' c') ou.1 ds := by
      rw [hW2, hLd]
      refine All2.mk (by simp) fun i v d hv hd' => ?_
      rw [List.getElem?_map] at hv hd'
      cases hl : L[i]? with
      | none => rw [hl] at hd'; cases hd'
      | some l =>
        rw [hl] at hd'
        rw [List.getElem?_zipIdx, hl] at hv
        have hv : (outLeaf f (ms.getD (0 + i) .new) l.t l.x (K + (0 + i))).1 = v := by simpa using hv
        have hd' : l.d = d := by simpa using hd'
        rw [Nat.zero_add] at hv
        rw [← hv, ← hd']
        exact (leaf i l hl).1.vr
    have hvb : ∀ v ∈ ou.1, vB (Un M key) v := fun v hv => by
      rw [hW2] at hv
      obtain ⟨⟨l, i⟩, hq, rfl⟩ := List.mem_map.1 hv
      exact (leaf i l (by simpa using List.mem_zipIdx_iff_getElem?.1 hq)).1.vb
    have hdl : (ds.take (nres H fn)).length = ((H.res fn).take (nres H fn)).length := by rw [hLd, hLt, List.length_take, List.length_take, List.length_map, List.length_map]
    exact hrel.put Le.rfl' hd (outS_ok (fits_eq hc3) hdl (hall.take _)) (outS_b (fun v hv => hvb v (List.mem_of_mem_take hv)))
theorem fzK_mem {v : V} {κ : Nat} (h : κ ∈ fzK f v) : v = .own κ ∧ ∃ rt, f (rl κ) = .root rt ∧ rt.hole = none := by
  cases v <;> first | (cases h; done) | skip
  rename_i κ'
  simp only [fzK] at h
  split at h
  · rename_i rt e
    cases hh : rt.hole with
    | some _ => rw [hh] at h; cases h
    | none =>
      rw [hh] at h
      have : κ = κ' := List.mem_singleton.1 h
      subst this
      exact ⟨rfl, rt, e, hh⟩
  · cases h
theorem fzL_mem {io : Nat → Bool} {κ : Nat} : ∀ {vs : List V} {i : Nat}, κ ∈ fzL f io i vs → .own κ ∈ vs ∧ ∃ rt, f (rl κ) = .root rt ∧ rt.hole = none
  | [], i, h => by cases h
  | v :: vs, i, h => by
    simp only [fzL, List.mem_append] at h
    rcases h with h | h
    · cases hio : io i with
      | true => rw [hio] at h; cases h
      | false =>
        rw [hio] at h
        obtain ⟨e, h2⟩ := fzK_mem h
        exact ⟨by rw [e]; exact List.mem_cons_self, h2⟩
    · have := fzL_mem h
      exact ⟨List.mem_cons_of_mem _ this.1, this.2⟩
theorem fzKeys_mem {fn : Nat} {ss : List S} {κ : Nat} (h : κ ∈ fzKeys H fn f ss) : .own κ ∈ (ss.map leavesS).flatten ∧ ∃ rt, f (rl κ) = .root rt ∧ rt.hole = none := by
  unfold fzKeys at h
  cases hs : strictF H fn with
  | false => rw [hs] at h; cases h
  | true => rw [hs] at h; exact fzL_mem h
open Classical in
/-- Roots that are frozen: they are data from now on. -/
theorem Rel.freeze (h : Rel M N w0 keep f c a w) {ks : List Nat} (hks : ∀ κ ∈ ks, ∃ rt, f (rl κ) = .root rt ∧ rt.hole = none) :
    ∃ c', Rel M N w0 keep (upds f (fzW f ks)) c' a w ∧ (∀ κ ∈ ks, ∀ rt, f (rl κ) = .root rt → VR w c' (.dat rt.e rt.t rt.xs) (c.hdr κ)) ∧ (∀ κ, c'.hdr κ = c.hdr κ) := by
  let c' : Ctx := { χ := fun b => if ∃ κ ∈ ks, ∃ q, c.χ b = (κ + 1) :: q then [] else c.χ b, hdr := c.hdr, wid := c.wid, blk := c.blk, gens := fun j => if j ∈ ks then none else c.gens j }
  have rt_mem : ∀ {κ κ0 : Nat}, κ0 ∈ ks → rl κ = rl κ0 → κ ∈ ks := fun {κ κ0} h1 e => by
    have : κ = κ0 := rl_inj e
    rw [this]; exact h1
  have hdat : ∀ κ ∈ ks, ∀ rt, f (rl κ) = .root rt → VR w c' (.dat rt.e rt.t rt.xs) (c.hdr κ) := fun κ hκ rt hr => by
    obtain ⟨rt', hr', hh⟩ := hks κ hκ
    rw [hr] at hr'
    injection hr' with hr'
    subst hr'
    have hrd : packV f (.sl rt.e rt.t) (.own κ) = some rt.xs := by
      show readL f rt.e rt.t (.own κ) = some rt.xs
      simp only [readL, hr, hh]
      rw [show Nat.beq rt.e rt.e = true by simp, cond_true]
      exact castTo_self _
    refine Rd_step (fun k hk _ => ⟨?_, rfl⟩) (leaf_rd (v := .own κ) (d := c.hdr κ) h rfl hrd)
    show (if _ then _ else _) = _
    rcases hk with e | ⟨κ', hκ', q, e⟩
    · split
      · rfl
      · exact e
    · rw [if_pos]
      rw [List.mem_singleton.1 hκ'] at e
      exact ⟨κ, hκ, q, e⟩
  refine ⟨c', h.reroot Le.rfl' (fun j => j ∈ ks) (Nat.le_refl _) rfl rfl rfl (fun b hl hq => ⟨?_, rfl⟩) (fun _ _ => ⟨rfl, rfl⟩) rfl (fun κ _ hx g' hg' => ?_) (fun κ _ hx => if_neg hx) (fun l hl => ?_) (fun κ rt hr => ?_) (fun κ g hg => ?_) (fun κ => ?_) (fun κ => .inl rfl), hdat, fun _ => rfl⟩
  · show (if _ then _ else _) = _
    rw [if_neg]
    rintro ⟨κ, hκ, q, e⟩
    exact hq κ q e hκ
  · have hg' : (if κ ∈ ks then none else c.gens κ) = some g' := hg'
    rw [if_pos hx] at hg'; cases hg'
  · rw [upds_fz, if_neg]
    rintro ⟨κ, _, e⟩
    rw [e] at hl; simp only [rl] at hl; omega
  · rw [upds_fz] at hr
    by_cases e : ∃ κ0 ∈ ks, rl κ = rl κ0
    · rw [if_pos e] at hr; exact (fzX_root hr).elim
    · rw [if_neg e] at hr
      exact .inl ⟨hr, fun hx => e ⟨κ, hx, rfl⟩⟩
  · have hg : (if κ ∈ ks then none else c.gens κ) = some g := hg
    by_cases e : κ ∈ ks
    · rw [if_pos e] at hg; cases hg
    · rw [if_neg e] at hg
      obtain ⟨rt, hr⟩ := h.live κ g hg
      refine ⟨rt, ?_⟩
      rw [upds_fz, if_neg]
      · exact hr
      · rintro ⟨κ0, h1, e1⟩; exact e (rt_mem h1 e1)
  · rw [upds_fz]
    by_cases e : ∃ κ0 ∈ ks, rl κ = rl κ0
    · rw [if_pos e]
      obtain ⟨κ0, h1, e1⟩ := e
      have hκ := rt_mem h1 e1
      obtain ⟨rt, hr, _⟩ := hks κ hκ
      rw [hr]
      exact .inr (.inr ⟨_, rfl, trivial, hdat κ hκ rt hr, (h.roots κ rt hr).2⟩)
    · rw [if_neg e]; exact .inl rfl
theorem fz_ok {c' : Ctx} {ks : List Nat} (hv : ∀ κ ∈ ks, ∀ rt, f (rl κ) = .root rt → VR w c' (.dat rt.e rt.t rt.xs) (c'.hdr κ)) (hz : ∀ κ x, f (rl κ) = .s x → SR w c' x (c'.hdr κ)) : ∀ {v : V} {d : Value}, VR w c' v d → VR w c' (fzV f ks v) d := fun {v d} h => by
  cases v <;> first | exact h | skip
  rename_i κ
  have h' : d = c'.hdr κ := h
  simp only [fzV]
  split
  · rename_i rt e
    cases hm : memN κ ks with
    | false => exact h
    | true => rw [cond_true, h']; exact hv κ (memN_mem.1 hm) rt e
  · rename_i e t xs er
    rw [h']; exact hz κ _ er
  · exact h
theorem fzS_ok {c' : Ctx} {ks : List Nat} (hv : ∀ κ ∈ ks, ∀ rt, f (rl κ) = .root rt → VR w c' (.dat rt.e rt.t rt.xs) (c'.hdr κ)) (hz : ∀ κ x, f (rl κ) = .s x → SR w c' x (c'.hdr κ)) : ∀ {s : S} {d : Value}, SR w c' s d → SR w c' (fzS f ks s) d
  | .one v, d, h => fz_ok hv hz h
  | .agg vs, d, ⟨cs, e, h⟩ => ⟨cs, e, by
    show All2 _ (vs.map _) _
    clear e
    induction vs generalizing cs with
    | nil => exact h
    | cons v vs ih => cases cs with
      | nil => exact h.elim
      | cons u cs => exact ⟨fz_ok hv hz h.1, ih cs h.2⟩⟩
  | .arr _ _, _, h => h
  | .tup _, _, h => h
theorem evS_fz (ks : List Nat) (nx : Nat) (x : Operand) : evS ⟨upds f (fzW f ks), nx⟩ x = evS ⟨f, nx⟩ x := by
  unfold evS
  cases x <;> first | rfl | skip
  rename_i t
  simp only
  rw [upds_fz, if_neg]
  rintro ⟨κ, _, e⟩
  simp only [sl, rl] at e; omega
theorem does_call (call : CallR H) (hn : NiceG P H w0 keep) (hcall : ∀ fn x y, call fn x = some y → Meets P H fn x y) (h : Rel M N w0 keep f c a w) (hM : Fr M key) (hd : DstP N keep o.dst) {fn : Nat} {ca : Call} (ho : o.op = .call ca) (hcal : ca.callee = .value (.func fn)) (nx : Nat)
    (hk : callZ P H call fn (ca.args.toList.map (evS ⟨f, nx⟩)) f (64 * key) o.dst k = some r) : Does P o M N w0 keep f key a w k r := by
  unfold callZ at hk
  have hk : (callC P H call fn ((ca.args.toList.map (evS ⟨f, nx⟩)).map (fzS f (fzKeys H fn f (ca.args.toList.map (evS ⟨f, nx⟩))))) (upds f (fzW f (fzKeys H fn f (ca.args.toList.map (evS ⟨f, nx⟩))))) (64 * key) o.dst fun u => k (fzW f (fzKeys H fn f (ca.args.toList.map (evS ⟨f, nx⟩))) ++ u)) = some r := hk
  generalize hks : fzKeys H fn f (ca.args.toList.map (evS ⟨f, nx⟩)) = ks at hk
  have hroot : ∀ κ ∈ ks, ∃ rt, f (rl κ) = .root rt ∧ rt.hole = none := fun κ hκ => (fzKeys_mem (by rw [hks]; exact hκ)).2
  obtain ⟨c', hr, hv, hh⟩ := h.freeze (ks := ks) hroot
  have hz : ∀ κ x, f (rl κ) = .s x → SR w c' x (c'.hdr κ) := fun κ x hx => by
    refine (hr.froz κ x ?_).1
    rw [upds_fz, if_neg]
    · exact hx
    · rintro ⟨κ0, h1, e1⟩
      have : κ = κ0 := rl_inj e1
      obtain ⟨rt, h2, _⟩ := hroot κ0 h1
      rw [← this, hx] at h2; cases h2
  have hss : All2 (SR w c') ((ca.args.toList.map (evS ⟨f, nx⟩)).map (fzS f ks)) (ca.args.toList.map a.eval) := by
    have h1 := evs_ok hr nx ca.args.toList
    rw [show evS ⟨upds f (fzW f ks), nx⟩ = evS ⟨f, nx⟩ from funext fun x => evS_fz ks nx x] at h1
    generalize ca.args.toList.map (evS ⟨f, nx⟩) = ss at h1
    generalize ca.args.toList.map a.eval = dv at h1
    induction ss generalizing dv with
    | nil => exact h1
    | cons s ss ih => cases dv with
      | nil => exact h1.elim
      | cons d dv => exact ⟨fzS_ok (fun κ hκ rt e => by rw [hh]; exact hv κ hκ rt e) hz h1.1, ih dv h1.2⟩
  intro next Q hnext
  refine does_callS call hn hcall hr hM hd ho hcal hss hk next Q fun u c2 a2 w2 hk2 hrel => hnext _ c2 a2 w2 hk2 ?_
  rw [upds_app]; exact hrel
theorem does_idx (hn : Nice P H) (h : Rel M N w0 keep f c a w) (hM : Fr M key) (hd : DstP N keep o.dst) {fn : Nat} {ca : Call} (ho : o.op = .call ca) (hcal : ca.callee = .value (.func fn)) (nx : Nat) (hx : isIdx H fn = true)
    (hk : idxC (ca.args.toList.map (evS ⟨f, nx⟩)) (fun v => k (putV o.dst v)) = some r) : Does P o M N w0 keep f key a w k r := by
  unfold isIdx at hx
  split at hx
  · rename_i j hj
    have e := Nat.eq_of_beq_eq_true hx
    subst e
    have hrun := hn.2 _ hj
    have hss := evs_ok h nx ca.args.toList
    unfold idxC at hk
    split at hk
    · rename_i s n es
      rw [es] at hss
      cases ed : ca.args.toList.map a.eval with
      | nil => rw [ed] at hss; exact hss.elim
      | cons d1 dv =>
        rw [ed] at hss
        cases dv with
        | nil => exact hss.2.elim
        | cons d2 dv =>
          cases dv with
          | cons _ _ => exact hss.2.2.elim
          | nil =>
            have e1 : d1 = .string s := hss.1
            have e2 : d2 = .int .u8 n := hss.2.1
            subst e1 e2
            have he : ca.args.map a.eval = #[.string s, .int .u8 n] := by apply Array.ext'; simpa using ed
            refine does_plain h hM hd (v := .int .i64 (firstIdx s n.toNat.toUInt8)) ?_ rfl hk
            have hrun2 := hrun #[.string s, .int .u8 n] w
            rw [run_indexByte_string] at hrun2
            have hrun2 : (callFunc j #[.string s, .int .u8 n]).run P w = .ok (.value (.int .i64 (firstIdx s n.toNat.toUInt8))) w := hrun2
            have he' : ca.args.map a.eval = ca.args.map a.eval := rfl
            simp [execOp, ho, resolve, hcal, invoke, Act.eval, Deferred.ofValue]
            have he : Array.map (fun x => a.eval x) ca.args = #[.string s, .int .u8 n] := he
            first | (rw [he]; exact hrun2) | (simp only [Act.eval] at he; rw [he]; exact hrun2)
    · cases hk
  · cases hx
end
end Go.Proofs.Ytoioaijpdiglfaa.V
