/- A function: how it is left; and the theorem: what the interpreter answers, the program answers. -/
import Derived.Test.YtoioaijpdiglfaaVEnter
set_option linter.unusedVariables false
set_option linter.unusedSimpArgs false
namespace Go.Proofs.Ytoioaijpdiglfaa.V
open Go Go.RowKit
section
variable {P : Program} {H : Hints} {M : Nat → Prop} {N : Nat} {w0 w : World} {keep : Kp} {f : Nat → Val} {c : Ctx} {a : Act}
/-! ### the end -/
theorem argLeaves_all : ∀ {Ts : List Nat} {ss : List S} {ys : List Value} {vs : List V}, All2 (SR w c) ss ys → argLeaves P Ts ss = some vs → ∃ cs, All2 (VR w c) vs cs ∧ grp P Ts cs = ys ∧ Ts.length = ss.length
  | [], [], [], vs, _, he => by
    injection he with he; subst he
    exact ⟨[], trivial, rfl, rfl⟩
  | T :: Ts, s :: ss, y :: ys, vs, h, he => by
    simp only [argLeaves] at he
    split at he
    · rename_i ts r e1 e2
      obtain ⟨cs, hcs, hg, hln⟩ := argLeaves_all h.2 e2
      have hX := h.1
      split at he
      · rename_i v
        cases hag : aggT P T with
        | true => rw [hag] at he; cases he
        | false =>
          rw [hag, cond_false] at he
          cases hl : Nat.beq ts.length 1 with
          | false => rw [hl] at he; cases he
          | true =>
            rw [hl, cond_true] at he
            injection he with he; subst he
            have hl := Nat.eq_of_beq_eq_true hl
            refine ⟨y :: cs, ⟨hX, hcs⟩, ?_, by simp [hln]⟩
            simp only [grp, e1, hag, cond_false, hl, List.headD_cons, List.drop_succ_cons, List.drop_zero, hg]
      · rename_i us
        obtain ⟨zs, hy, hall⟩ := hX
        cases hag : aggT P T with
        | false => rw [hag] at he; cases he
        | true =>
          rw [hag, cond_true] at he
          cases hl : Nat.beq us.length ts.length with
          | false => rw [hl] at he; cases he
          | true =>
            rw [hl, cond_true] at he
            injection he with he; subst he
            have hl := Nat.eq_of_beq_eq_true hl
            have hyl : zs.length = ts.length := by rw [← hall.len, hl]
            refine ⟨zs ++ cs, hall.app hcs, ?_, by simp [hln]⟩
            simp only [grp, e1, hag, cond_true]
            rw [← hyl, List.take_left, List.drop_left, hg, hy]
      · cases he
    · cases he
  | [], _ :: _, _, vs, _, he => by cases he
  | _ :: _, [], _, vs, _, he => by cases he
  | _, [], _ :: _, vs, h, _ => h.elim
  | _, _ :: _, [], vs, h, _ => h.elim
theorem resS_ok (h : Rel M N w0 keep f c a w) (nx : Nat) : ∀ {rs : List ResultVar} {ss : List S}, resS P ⟨f, nx⟩ rs = some ss → ∃ ys : List Value, All2 (SR w c) ss ys ∧
      (rs.mapM (m := Sem) fun
        | .tmp t => pure (a.tmps.getD t undef)
        | .cell p t => do loadVar t (← asAddr (a.tmps.getD p undef))).run P w = .ok ys w
  | [], ss, he => by
    injection he with he; subst he
    exact ⟨[], trivial, rfl⟩
  | .tmp t :: rs, ss, he => by
    simp only [resS] at he
    split at he
    · rename_i xs e
      injection he with he; subst he
      obtain ⟨ys, h1, h2⟩ := resS_ok h nx e
      exact ⟨a.tmps.getD t undef :: ys, ⟨h.ev nx (.tmp t), h1⟩, by rw [List.mapM_cons]; simp only [Sem.run_bind, Sem.run_pure, Result.andThen_ok, h2]⟩
    · cases he
  | .cell p T :: rs, ss, he => by
    simp only [resS] at he
    split at he
    · rename_i β off xs ep e
      obtain ⟨ys, h1, h2⟩ := resS_ok h nx e
      split at he
      · rename_i ws eb
        cases hc : (ldOk P T && Nat.ble (off + sizeT P T) ws.length) with
        | false => rw [hc] at he; cases he
        | true =>
          rw [hc, cond_true] at he
          injection he with he; subst he
          simp only [Bool.and_eq_true] at hc
          have hle := Nat.le_of_ble_eq_true hc.2
          have hp := h.evv nx (.tmp p)
          rw [ep] at hp
          have hp : a.tmps.getD p undef = .pointer (some ⟨c.blk β, off, none⟩) := hp
          obtain ⟨⟨cs, T', hh, hχ, hall, h1'⟩, hβ⟩ := h.boxes β _ eb
          have hlen := hall.len
          have hcl : ((cs.drop off).take (sizeT P T)).length = sizeT P T := by rw [List.length_take, List.length_drop]; omega
          obtain ⟨v, hv, g1, g2⟩ := run_load (P := P) (w := w) hc.1 (ad := ⟨c.blk β, off, none⟩) hcl (fun j u hu => by
            rw [add_plain', cell_of_row w _ _ cs.toArray T' (0, 0) hh]
            have := drop_take_get cs off _ j u hu
            simpa using this)
          refine ⟨v :: ys, ⟨load_val ((hall.drop off).take _) g1 g2, h1⟩, ?_⟩
          have hv' : (loadVar T ⟨c.blk β, off, none⟩).run P w = .ok v w := by
            have := hv
            simpa [Instr.loadAt, Instr.sureAddr] using this
          rw [List.mapM_cons]
          have ha : (asAddr (a.tmps.getD p undef)).run P w = .ok ⟨c.blk β, off, none⟩ w := by rw [hp]; rfl
          simp only [Sem.run_bind, Sem.run_pure, Result.andThen_ok, ha, hv', h2]
      · cases he
    · cases he
/-- The place of a root, of a box, among what is left. -/
def posKey (κ : Nat) : List RM → List V → Nat → Option Nat
  | .dat :: ms, _ :: vs, j => posKey κ ms vs (j + 1)
  | _ :: ms, v :: vs, j => if κ ∈ keysV v then some j else posKey κ ms vs (j + 1)
  | _, _, _ => none
def posBox (β : Nat) : List V → Nat → Option Nat
  | [], _ => none
  | v :: vs, j => if β ∈ boxV v then some j else posBox β vs (j + 1)
def endCol (ms : List RM) (vs : List V) : List Nat → List Nat
  | [] => []
  | [0] => [0]
  | [0, β] => match posBox β vs 0 with
    | some p => [0, p]
    | none => [0, 0, 0]
  | (κ + 1) :: q => match posKey κ ms vs 0 with
    | some p => (p + 1) :: q
    | none => if κ ∈ datKeys ms vs then [] else [0, 0, 0]
  | _ => [0, 0, 0]
theorem posKey_none {κ : Nat} : ∀ {ms : List RM} {vs : List V} {j : Nat}, κ ∉ endKeys ms vs → posKey κ ms vs j = none
  | [], vs, j, _ => by cases vs <;> rfl
  | m :: ms, [], j, _ => by cases m <;> rfl
  | m :: ms, v :: vs, j, h => by
    cases m with
    | dat => exact posKey_none (ms := ms) (vs := vs) h
    | own =>
      simp only [endKeys, List.mem_append, not_or] at h
      show (if κ ∈ keysV v then _ else _) = _
      rw [if_neg h.1]; exact posKey_none h.2
    | io =>
      simp only [endKeys, List.mem_append, not_or] at h
      show (if κ ∈ keysV v then _ else _) = _
      rw [if_neg h.1]; exact posKey_none h.2
theorem endKeys_get {κ : Nat} : ∀ {ms : List RM} {vs : List V} {p : Nat} {v : V} {m : RM}, ms[p]? = some m → vs[p]? = some v → m ≠ .dat → κ ∈ keysV v → κ ∈ endKeys ms vs
  | m0 :: ms, v0 :: vs, 0, v, m, hm, hv, hd, hk => by
    have hm : m0 = m := by simpa using hm
    have hv : v0 = v := by simpa using hv
    subst hm hv
    cases m0 with
    | dat => exact absurd rfl hd
    | own => exact List.mem_append_left _ hk
    | io => exact List.mem_append_left _ hk
  | m0 :: ms, v0 :: vs, p + 1, v, m, hm, hv, hd, hk => by
    have := endKeys_get (ms := ms) (vs := vs) (p := p) (by simpa using hm) (by simpa using hv) hd hk
    cases m0 with
    | dat => exact this
    | own => exact List.mem_append_right _ this
    | io => exact List.mem_append_right _ this
  | [], _, _, _, _, hm, _, _, _ => by simp at hm
  | _ :: _, [], _, _, _, _, hv, _, _ => by simp at hv
theorem posKey_get {κ : Nat} : ∀ {ms : List RM} {vs : List V} {p j : Nat} {v : V} {m : RM}, nodupN (endKeys ms vs) = true → ms[p]? = some m → vs[p]? = some v → m ≠ .dat → κ ∈ keysV v → posKey κ ms vs j = some (j + p)
  | m0 :: ms, v0 :: vs, 0, j, v, m, _, hm, hv, hd, hk => by
    have hm : m0 = m := by simpa using hm
    have hv : v0 = v := by simpa using hv
    subst hm hv
    cases m0 with
    | dat => exact absurd rfl hd
    | own => show (if κ ∈ keysV v0 then _ else _) = _; rw [if_pos hk]; rfl
    | io => show (if κ ∈ keysV v0 then _ else _) = _; rw [if_pos hk]; rfl
  | m0 :: ms, v0 :: vs, p + 1, j, v, m, hn, hm, hv, hd, hk => by
    have hm : ms[p]? = some m := by simpa using hm
    have hv : vs[p]? = some v := by simpa using hv
    have e : j + (p + 1) = j + 1 + p := by omega
    rw [e]
    cases m0 with
    | dat => exact posKey_get (ms := ms) (vs := vs) hn hm hv hd hk
    | own =>
      obtain ⟨h1, h2⟩ := nodup_app (xs := keysV v0) (ys := endKeys ms vs) hn
      show (if κ ∈ keysV v0 then _ else _) = _
      rw [if_neg (fun h' => h2 κ h' (endKeys_get hm hv hd hk))]
      exact posKey_get h1 hm hv hd hk
    | io =>
      obtain ⟨h1, h2⟩ := nodup_app (xs := keysV v0) (ys := endKeys ms vs) hn
      show (if κ ∈ keysV v0 then _ else _) = _
      rw [if_neg (fun h' => h2 κ h' (endKeys_get hm hv hd hk))]
      exact posKey_get h1 hm hv hd hk
  | [], _, _, _, _, _, _, hm, _, _, _ => by simp at hm
  | _ :: _, [], _, _, _, _, _, _, hv, _, _ => by simp at hv
theorem posBox_get {β : Nat} : ∀ {vs : List V} {p j : Nat} {v : V}, nodupN (vs.map boxV).flatten = true → vs[p]? = some v → β ∈ boxV v → posBox β vs j = some (j + p)
  | v0 :: vs, 0, j, v, _, hv, hk => by
    have hv : v0 = v := by simpa using hv
    subst hv
    show (if β ∈ boxV v0 then _ else _) = _; rw [if_pos hk]; rfl
  | v0 :: vs, p + 1, j, v, hn, hv, hk => by
    have hv : vs[p]? = some v := by simpa using hv
    have e : j + (p + 1) = j + 1 + p := by omega
    rw [e]
    simp only [List.map_cons, List.flatten_cons] at hn
    obtain ⟨h1, h2⟩ := nodup_app hn
    show (if β ∈ boxV v0 then _ else _) = _
    rw [if_neg (fun h' => h2 β h' (List.mem_flatten.2 ⟨_, List.mem_map.2 ⟨_, List.mem_of_getElem? hv, rfl⟩, hk⟩))]
    exact posBox_get h1 hv hk
  | [], _, _, _, _, hv, _ => by simp at hv
theorem datKeys_get {κ : Nat} : ∀ {ms : List RM} {vs : List V} {p : Nat} {v : V}, ms[p]? = some .dat → vs[p]? = some v → κ ∈ keysV v → κ ∈ datKeys ms vs
  | m0 :: ms, v0 :: vs, 0, v, hm, hv, hk => by
    have hm : m0 = .dat := by simpa using hm
    have hv : v0 = v := by simpa using hv
    subst hm hv
    exact List.mem_append_left _ hk
  | m0 :: ms, v0 :: vs, p + 1, v, hm, hv, hk => by
    have := datKeys_get (ms := ms) (vs := vs) (p := p) (by simpa using hm) (by simpa using hv) hk
    cases m0 with
    | dat => exact List.mem_append_right _ this
    | own => exact this
    | io => exact this
  | [], _, _, _, hm, _, _ => by simp at hm
  | _ :: _, [], _, _, _, hv, _ => by simp at hv
/-- A leaf that is left as a row of its own. -/
theorem end_own (h : Rel M N w0 keep f c a w) {χ' : Nat → List Nat} {t : Ty} {v : V} {d : Value} {x : den t} {p : Nat} (hg : goodTy t = true) (hv : VR w c v d) (ho : endOk f .own v = true)
    (hk : ∀ κ ∈ keysV v, ∀ b q, c.χ b = (κ + 1) :: q → χ' b = (p + 1) :: q) (hb : ∀ β ∈ boxV v, ∀ b, c.χ b = [0, β] → χ' b = [0, p]) (he : ∀ b, c.χ b = [] → χ' b = []) (hx : packL f (isPtr t) t v = some x) : Own w χ' t [p + 1] x [d] := by
  cases t with
  | pair _ _ => cases hg
  | unit => cases hg
  | int _ => exact packV_ok h hv hx
  | bool => exact packV_ok h hv hx
  | str => exact packV_ok h hv hx
  | ptr T s =>
    cases v with
    | bptr β off =>
      cases off with
      | succ _ => cases hx
      | zero =>
        have hx : packL f true (.ptr T s) (.bptr β 0) = some x := hx
        simp only [packL] at hx
        split at hx
        · rename_i us eb
          obtain ⟨hdo, hx⟩ := cond_some' hx
          obtain ⟨⟨cs', T', hh, hχ, hall, h1⟩, hβ⟩ := h.boxes β _ eb
          have hv : d = .pointer (some ⟨c.blk β, 0, none⟩) := hv
          exact ⟨c.blk β, T', cs', p, rfl, by rw [hv], hh, hb β (List.mem_singleton_self _) _ hχ, Rd_step (fun k hk _ => ⟨he k hk, rfl⟩) (box_rd h hall hdo hx)⟩
        · cases hx
    | _ => cases hx
  | sl e s =>
    have hx : readL f e s v = some x := hx
    simp only [goodTy, Bool.and_eq_true] at hg
    have hnop : noP (.sl e s) = true := hg.2
    have deep : ∀ {κ rt}, f (rl κ) = .root rt → deepR f κ = true → rt.hole = none ∧ (rt.deep || flat rt.t) = true := fun {κ rt} er hd => by
      unfold deepR at hd
      rw [er] at hd
      simp only [Bool.and_eq_true, Option.isNone_iff_eq_none] at hd
      exact ⟨hd.2, hd.1⟩
    cases v with
    | nil =>
      have hx : x = [] := by simpa [readL] using hx.symm
      subst hx
      exact ⟨.slice none 0 0, [], by rw [show d = _ from hv], World.ownsRow_nil _ _ _ _, fun k hk => by simp [Value.ownBlock] at hk, fun j x hx => by simp at hx⟩
    | own κ =>
      have hv : d = c.hdr κ := hv
      simp only [readL] at hx
      split at hx
      · rename_i rt er
        obtain ⟨hh, hd⟩ := deep er ho
        rw [hh] at hx
        obtain ⟨he', hx⟩ := cond_some' hx
        have he' := Nat.eq_of_beq_eq_true he'
        obtain ⟨hts, hxs⟩ := castTo_some hx
        have hown := root_Own h er hh hd
        obtain ⟨re, rt', rxs, rd, rg, rh⟩ := rt
        simp only at he' hts hxs hown
        injection hts with _ hts
        subst hts
        subst he'
        have hxs : x = rxs := hxs
        subst hxs
        rw [hv]
        exact Own_step hnop (fun k q hq _ => ⟨hk κ (List.mem_singleton_self _) k q hq, rfl⟩) hown
      · cases hx
    | cut κ lo hi =>
      cases lo with
      | succ _ => cases ho
      | zero =>
        obtain ⟨A, n, cp, A', hh1, hh2, hh3, hh4, hh5, hh6⟩ := hv
        have hA := hh5 rfl
        subst hA
        simp only [readL] at hx
        split at hx
        · rename_i rt er
          obtain ⟨hh, hd⟩ := deep er ho
          rw [hh] at hx
          obtain ⟨he', hx⟩ := cond_some' hx
          have he' := Nat.eq_of_beq_eq_true he'
          obtain ⟨hts, hxs⟩ := castTo_some hx
          have hown := root_Own h er hh hd
          obtain ⟨re, rt', rxs, rd, rg, rh⟩ := rt
          simp only at he' hts hxs hown
          injection hts with _ hts
          subst hts
          subst he'
          have hxs : x = rxs.take hi := by rw [List.drop_zero] at hxs; exact hxs
          obtain ⟨v, inner, hv, hown, hcol, hel⟩ := hown
          have hvv : v = .slice A' n cp := by rw [← hh1]; simpa using hv.symm
          subst hvv
          have hn : n = rxs.length := by obtain ⟨_, _, he, _⟩ := ownsRow_slice hown; injection he
          subst hn
          have hown' := ownsRow_take hown hh3
          have hyl : x.length = hi := by rw [hxs, List.length_take]; omega
          have hob : (Value.slice A' hi cp).ownBlock = (Value.slice A' rxs.length cp).ownBlock := by cases A' <;> rfl
          rw [hh4, Nat.sub_zero, Nat.sub_zero]
          refine ⟨.slice A' hi cp, inner.take (hi * width rt'), rfl, by rw [hyl]; exact hown', fun k hk' => ?_, fun i y hy => ?_⟩
          · exact hk κ (List.mem_singleton_self _) k [] (hcol k (by rw [← hob]; exact hk'))
          · have hj : i < hi := by rw [← hyl]; exact (List.getElem?_eq_some_iff.1 hy).1
            rw [hxs, List.getElem?_take, if_pos hj] at hy
            have := chunk_cut inner 0 hi (width rt') i (by omega)
            rw [Nat.zero_mul, List.drop_zero, Nat.zero_add] at this
            rw [this]
            exact Own_step hnop (fun k q hq _ => ⟨hk κ (List.mem_singleton_self _) k (i :: q) hq, rfl⟩) (hel i y hy)
        · cases hx
    | bptr β off => cases hx
    | _ => first | (cases ho; done) | cases hx
theorem end_leaf (h : Rel M N w0 keep f c a w) {χ' : Nat → List Nat} {m : RM} {t : Ty} {v : V} {d : Value} {x : den t} {p : Nat} {b : Bool} (hg : goodTy t = true) (hv : VR w c v d) (ho : endOk f m v = true) (hbm : b = true → m = .io)
    (hk : m ≠ .dat → ∀ κ ∈ keysV v, ∀ b q, c.χ b = (κ + 1) :: q → χ' b = (p + 1) :: q) (hkd : m = .dat → ∀ κ ∈ keysV v, ∀ b q, c.χ b = (κ + 1) :: q → χ' b = []) (hb : ∀ β ∈ boxV v, ∀ b, c.χ b = [0, β] → χ' b = [0, p]) (he : ∀ b, c.χ b = [] → χ' b = []) (hx : packL f (isPtr t || b) t v = some x) : LeafM w χ' m t x p d := by
  cases m with
  | own =>
    have : b = false := by cases b with
      | false => rfl
      | true => cases hbm rfl
    subst this
    rw [Bool.or_false] at hx
    have := end_own h hg hv ho (hk (by intro e; cases e)) hb he hx
    cases t <;> exact this
  | dat =>
    have : b = false := by cases b with
      | false => rfl
      | true => cases hbm rfl
    subst this
    rw [Bool.or_false] at hx
    cases t with
    | pair _ _ => cases hg
    | unit => cases hg
    | int _ => exact packV_ok h hv hx
    | bool => exact packV_ok h hv hx
    | str => exact packV_ok h hv hx
    | ptr T s =>
      cases v with
      | bptr β off => cases off <;> cases ho
      | _ => cases hx
    | sl e s =>
      refine Rd_step (fun k hk' _ => ⟨?_, rfl⟩) (leaf_rd h hv hx)
      rcases hk' with e' | ⟨κ, hκ, q, e'⟩
      · exact he k e'
      · exact hkd rfl κ hκ k q e'
  | io =>
    have hk := hk (by intro e; cases e)
    cases v with
    | own κ =>
      have hx' : packL f (isPtr t) t (.own κ) = some x := by
        cases t with
        | sl e s =>
          cases b with
          | false => exact hx
          | true =>
            have hx : packL f true (.sl e s) (.own κ) = some x := hx
            simp only [packL] at hx
            split at hx
            · exact (cond_some' hx).2
            · cases hx
        | ptr T s => cases hx
        | _ => cases b <;> cases hx
      have := end_own h hg hv (show endOk f .own (.own κ) = true from ho) hk hb he hx'
      cases t <;> exact this
    | bptr β off =>
      cases off with
      | succ _ => cases ho
      | zero =>
        have hx' : packL f (isPtr t) t (.bptr β 0) = some x := by
          cases t with
          | ptr T s => exact hx
          | _ => cases b <;> cases hx
        have := end_own h hg hv (show endOk f .own (.bptr β 0) = true from rfl) hk hb he hx'
        cases t <;> exact this
    | int kk n =>
      have hx' : packL f (isPtr t) t (.int kk n) = some x := by cases b <;> cases t <;> first | exact hx | cases hx
      have := end_own h hg hv (show endOk f .own (.int kk n) = true from rfl) hk hb he hx'
      cases t <;> exact this
    | bool bb =>
      have hx' : packL f (isPtr t) t (.bool bb) = some x := by cases b <;> cases t <;> first | exact hx | cases hx
      have := end_own h hg hv (show endOk f .own (.bool bb) = true from rfl) hk hb he hx'
      cases t <;> exact this
    | str ss =>
      have hx' : packL f (isPtr t) t (.str ss) = some x := by cases b <;> cases t <;> first | exact hx | cases hx
      have := end_own h hg hv (show endOk f .own (.str ss) = true from rfl) hk hb he hx'
      cases t <;> exact this
    | cut κ lo hi => cases lo <;> cases ho
    | _ => cases ho
theorem ends_own (h : Rel M N w0 keep f c a w) {χ' : Nat → List Nat} {io : Nat → Bool} : ∀ {ts : List Ty} {rms : List RM} {vs : List V} {ds : List Value} {x : den (tupTy ts)} {p : Nat}, ts.all goodTy = true → All2 (VR w c) vs ds → endsOk f rms vs = true → (∀ j m, rms[j]? = some m → io (p + j) = true → m = .io) →
    (∀ j v m, vs[j]? = some v → rms[j]? = some m → (m ≠ .dat → ∀ κ ∈ keysV v, ∀ b q, c.χ b = (κ + 1) :: q → χ' b = (p + j + 1) :: q) ∧ (m = .dat → ∀ κ ∈ keysV v, ∀ b q, c.χ b = (κ + 1) :: q → χ' b = []) ∧ (∀ β ∈ boxV v, ∀ b, c.χ b = [0, β] → χ' b = [0, p + j])) →
    (∀ b, c.χ b = [] → χ' b = []) → packE f io ts p vs = some x → OwnM w χ' rms ts x p ds := by
  intro ts
  induction ts with
  | nil =>
    intro rms vs ds x p _ hall _ _ _ _ hx
    cases vs with
    | cons _ _ =>
      have hx : none = some x := hx
      cases hx
    | nil => cases ds with
      | nil => cases rms <;> rfl
      | cons _ _ => exact hall.elim
  | cons t ts ih =>
    intro rms vs ds x p hg hall hok hio hkk he hx
    rw [List.all_cons, Bool.and_eq_true] at hg
    cases vs with
    | nil =>
      have hx : none = some x := by cases ts <;> exact hx
      cases hx
    | cons v vs =>
      cases rms with
      | nil => cases hok
      | cons m rms =>
        simp only [endsOk, Bool.and_eq_true] at hok
        cases ds with
        | nil => exact hall.elim
        | cons d ds =>
          have hk0 := hkk 0 v m rfl rfl
          rw [Nat.add_zero] at hk0
          have leaf : ∀ {x : den t}, packL f (isPtr t || io p) t v = some x → LeafM w χ' m t x p d := fun hx => end_leaf h hg.1 hall.1 hok.1 (fun hb => hio 0 m rfl hb) hk0.1 hk0.2.1 hk0.2.2 he hx
          cases ts with
          | nil =>
            cases vs with
            | cons _ _ =>
              have hx : none = some x := hx
              cases hx
            | nil =>
              have hx : packL f (isPtr t || io p) t v = some x := hx
              cases ds with
              | cons _ _ => exact hall.2.elim
              | nil => exact ⟨d, rfl, leaf hx⟩
          | cons u ts =>
            have hx : (match packL f (isPtr t || io p) t v, packE f io (u :: ts) (p + 1) vs with
              | some x, some y => some (x, y)
              | _, _ => none) = some x := hx
            split at hx
            · rename_i x1 x2 e1 e2
              injection hx with hx
              subst hx
              refine ⟨d, ds, rfl, leaf e1, ih hg.2 hall.2 hok.2 (fun j m' hj hb => hio (j + 1) m' (by simpa using hj) (by rw [show p + (j + 1) = p + 1 + j by omega]; exact hb)) (fun j v' m' hv' hm' => ?_) he e2⟩
              have := hkk (j + 1) v' m' (by simpa using hv') (by simpa using hm')
              rw [show p + (j + 1) = p + 1 + j by omega] at this
              exact this
            · cases hx
end
end Go.Proofs.Ytoioaijpdiglfaa.V
