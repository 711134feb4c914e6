/- build, min, max. -/
import Derived.Test.YtoioaijpdiglfaaVOps9
import Derived.Laws.Tables
import Derived.Laws.IdiomCopy
set_option linter.unusedVariables false
set_option linter.unusedSimpArgs false
namespace Go.Proofs.Ytoioaijpdiglfaa.V
open Go Go.RowKit
theorem fold_set : ∀ (vs : List Value) (i off : Nat) (cs : Array Value), off + i + vs.length ≤ cs.size → ((vs.zipIdx i).foldl (fun cs (p : Value × Nat) => cs.setIfInBounds (off + p.2) p.1) cs).toList = splice cs.toList (off + i) vs
  | [], i, off, cs, _ => by simp [splice]
  | v :: vs, i, off, cs, h => by
    simp only [List.length_cons] at h
    rw [List.zipIdx_cons, List.foldl_cons, fold_set vs (i + 1) off _ (by simp; omega)]
    have hcl : cs.toList.length = cs.size := Array.length_toList
    apply List.ext_getElem?
    intro k
    rw [Array.toList_setIfInBounds, splice_get (by rw [List.length_set]; omega), splice_get (by rw [List.length_cons]; omega), List.getElem?_set, List.length_cons]
    by_cases hk : k = off + i
    · subst hk
      rw [if_neg (by omega), if_pos rfl, if_pos (by omega), if_pos (by omega), Nat.sub_self]; rfl
    · by_cases h2 : off + i < k ∧ k < off + i + (vs.length + 1)
      · rw [if_pos (by omega), if_pos (by omega), show k - (off + i) = (k - (off + (i + 1))) + 1 by omega]; rfl
      · rw [if_neg (by omega), if_neg (by omega), if_neg (by omega)]
theorem fill_cons {place : Nat → Option (Nat × Nat)} {cells : Array Value} {i off sz : Nat} {v : Value} {rest : List (Nat × Value)} (hp : place i = some (off, sz)) (hs : v.cells.size = sz) (hf : off + sz ≤ cells.size) :
    Instr.fill place cells ((i, v) :: rest) = Instr.fill place (splice cells.toList off v.cells.toList).toArray rest := by
  subst hs
  have h1 : Instr.fill place cells ((i, v) :: rest) = Instr.fill place (v.cells.zipIdx.foldl (fun cs (c, j) => cs.setIfInBounds (off + j) c) cells) rest := by
    simp only [Instr.fill, hp, ne_eq, not_true_eq_false, decide_false, Bool.false_or, decide_eq_true_eq, gt_iff_lt]
    rw [if_neg (by omega)]
  rw [h1]
  congr 1
  apply Array.ext'
  rw [List.toList_toArray, ← Array.foldl_toList, Array.toList_zipIdx]
  have := fold_set v.cells.toList 0 off cells (by rw [Array.length_toList]; omega)
  simpa using this
theorem places_map (P : Program) : ∀ {fs : List Field} {pl : List (Nat × Nat)}, placesOf P fs = some pl → fs.mapM (fun f => (P.info? f.type).map fun i => (f.offset, i.size)) = some pl
  | [], pl, h => by injection h with h; subst h; rfl
  | f :: fs, pl, h => by
    simp only [placesOf] at h
    split at h
    · rename_i i r e1 e2
      injection h with h; subst h
      have := places_map P e2
      simp only [List.mapM_cons, Option.bind_eq_bind, Option.pure_def]
      rw [e1, this]; rfl
    · cases h
section
variable {P : Program} {o : Oper} {M M' : Nat → Prop} {N key κ : Nat} {w0 w w' : World} {keep : Kp} {f : Nat → Val} {c : Ctx} {a : Act} {R : Type} {k : Wr → Option R} {r : R}
theorem leaves_b (h : Rel M N w0 keep f c a w) (nx : Nat) (x : Operand) : ∀ v ∈ leavesS (evS ⟨f, nx⟩ x), vB M v := by
  have hB := h.evb nx x
  intro v hv
  cases e : evS ⟨f, nx⟩ x with
  | one q => rw [e] at hv hB; rw [show leavesS (.one q) = [q] from rfl, List.mem_singleton] at hv; rw [hv]; exact hB
  | agg qs => rw [e] at hv hB; exact hB v hv
  | arr t xs => rw [e] at hv; simp [leavesS] at hv
  | tup cs => rw [e] at hv; simp [leavesS] at hv
theorem fillC_ok (h : Rel M N w0 keep f c a w) (nx : Nat) {pl : List (Nat × Nat)} : ∀ {parts : List (Nat × Operand)} {vs us : List V} {cs : List Value}, All2 (VR w c) vs cs → (∀ v ∈ vs, vB M v) → fillC pl vs (parts.map fun p => (p.1, leavesS (evS ⟨f, nx⟩ p.2))) = some us →
    ∃ ds : List Value, Instr.fill (pl.toArray[·]?) cs.toArray (parts.map fun p => (p.1, a.eval p.2)) = some ds.toArray ∧ All2 (VR w c) us ds ∧ ∀ v ∈ us, vB M v
  | [], vs, us, cs, ha, hb, hf => by
    injection hf with hf; subst hf
    exact ⟨cs, rfl, ha, hb⟩
  | p :: parts, vs, us, cs, ha, hb, hf => by
    simp only [List.map_cons, fillC] at hf
    split at hf
    · rename_i off sz hp
      cases hc : (Nat.beq (leavesS (evS ⟨f, nx⟩ p.2)).length sz && (Nat.ble (off + sz) vs.length && ((leavesS (evS ⟨f, nx⟩ p.2)).all okLeaf && !(leavesS (evS ⟨f, nx⟩ p.2)).isEmpty))) with
      | false => rw [hc] at hf; cases hf
      | true =>
        rw [hc, cond_true] at hf
        simp only [Bool.and_eq_true] at hc
        obtain ⟨hc1, hc2, hc3, hc4⟩ := hc
        have hc1 := Nat.eq_of_beq_eq_true hc1
        have hc2 := Nat.le_of_ble_eq_true hc2
        obtain ⟨ys, hy, hall, _⟩ := leaves_cells h (h.ev nx p.2) hc3 (by intro e; rw [e] at hc4; simp at hc4)
        obtain ⟨ds, h1, h2, h3⟩ := fillC_ok h nx (parts := parts) (splice_All2 (p := off) ha hall) (fun v hv => (splice_mem hv).elim (hb v) (leaves_b h nx p.2 v)) hf
        refine ⟨ds, ?_, h2, h3⟩
        rw [List.map_cons, fill_cons (off := off) (sz := sz) (by simpa using hp) (by rw [← Array.length_toList, hy, ← hall.len, hc1]) (by have := ha.len; simp; omega), List.toList_toArray, hy]
        exact h1
    · cases hf
theorem zerosT_spec {T : Nat} {ts : List Ty} (h : zerosT P T ts = true) : ∃ i z, P.info? T = some i ∧ i.zero = some z ∧ zerosAre ts z.cells.toList = true := by
  unfold zerosT at h
  split at h
  · rename_i i hi
    split at h
    · rename_i z hz; exact ⟨i, z, hi, hz, h⟩
    · cases h
  · cases h
theorem does_build (h : Rel M N w0 keep f c a w) (hM : Fr M key) (hd : DstP N keep o.dst) {T : Nat} {parts : Array (Nat × Operand)} {fs : Array Field} {ts : List Ty} {pl : List (Nat × Nat)} {vs : List V} (ho : o.op = .build T parts) (nx : Nat) (hu : P.underlying T = some (.struct fs)) (hp : placesOf P fs.toList = some pl) (hz : zerosT P T ts = true)
    (hf : fillC pl (ts.map zeroV) (parts.toList.map fun p => (p.1, leavesS (evS ⟨f, nx⟩ p.2))) = some vs) (hk : k (putS o.dst (.agg vs)) = some r) : Does P o M N w0 keep f key a w k r := by
  obtain ⟨i, z, hi, hz', hzs⟩ := zerosT_spec hz
  obtain ⟨hall, h1⟩ := zeros_All2 (w := w) (c := c) hzs
  obtain ⟨ds, h2, h3, h4⟩ := fillC_ok h nx hall (fun v hv => by
    simp only [List.mem_map] at hv
    obtain ⟨t, _, rfl⟩ := hv
    exact zeroV_b M t) hf
  have hb : P.built T (parts.map fun (i, x) => (i, a.eval x)).toList = some ds.toArray := by
    unfold Program.built
    simp only [hi, hu, hz', places_map P hp, Array.toList_map]
    rw [Array.toArray_toList] at h2
    exact h2
  exact does_value h hM hd (v := .agg ds.toArray) (by simp [execOp, ho, run_build w T _ _ hb]) (x := .agg vs) ⟨ds, rfl, h3⟩ (fun v hv => vB_mono Le.un (h4 v hv)) hk
theorem zeros_arr {t : Ty} (hsc : scal t = true) : ∀ (n : Nat) {zs : List Value}, zerosAre (List.replicate n t) zs = true → zs = (List.replicate n (dflt t)).map (encF t)
  | 0, [], _ => rfl
  | 0, _ :: _, h => by cases h
  | n + 1, [], h => by cases h
  | n + 1, u :: zs, h => by
    simp only [List.replicate_succ, zerosAre, Bool.and_eq_true] at h
    rw [List.replicate_succ, List.map_cons, zeros_arr hsc n h.2]
    congr 1
    have hz := h.1
    have := zero_Own (w := default) (χ := fun _ => []) (p := []) hz
    cases t <;> simp [scal] at hsc <;> · have : [u] = [_] := this; simpa [encF] using this
theorem does_buildArr (h : Rel M N w0 keep f c a w) (hM : Fr M key) (hd : DstP N keep o.dst) {T n e : Nat} {parts : Array (Nat × Operand)} {t : Ty} (ho : o.op = .build T parts) (hu : P.underlying T = some (.array n e)) (hsc : scal t = true) (hp : parts.size = 0) (hz : zerosT P T (List.replicate n t) = true) (he : 0 < sizeT P e)
    (hk : k (putS o.dst (.arr t (List.replicate n (dflt t)))) = some r) : Does P o M N w0 keep f key a w k r := by
  obtain ⟨i, z, hi, hz', hzs⟩ := zerosT_spec hz
  obtain ⟨ie, hie⟩ := size_info he
  have hcs := zeros_arr hsc n hzs
  have hp0 : parts = #[] := Array.eq_empty_of_size_eq_zero hp
  have hb : P.built T (parts.map fun (i, x) => (i, a.eval x)).toList = some z.cells := by
    unfold Program.built
    simp only [hi, hu, hz', hie, hp0]
    simp [Instr.fill]
  exact does_value h hM hd (v := .agg z.cells) (by simp [execOp, ho, run_build w T _ _ hb]) (x := .arr t (List.replicate n (dflt t))) ⟨hsc, by rw [← hcs, Array.toArray_toList]⟩ trivial hk
theorem does_minmax (h : Rel M N w0 keep f c a w) (hM : Fr M key) (hd : DstP N keep o.dst) {x y : Operand} {ca : Call} (mx : Bool) (ho : o.op = .call ca) (hcal : ca.callee = .builtin (cond mx .max .min)) (hargs : ca.args = #[x, y]) (nx : Nat)
    (hk : minmaxC mx (evV ⟨f, nx⟩ x) (evV ⟨f, nx⟩ y) (fun v => k (putV o.dst v)) = some r) : Does P o M N w0 keep f key a w k r := by
  have hX := h.evv nx x
  have hY := h.evv nx y
  unfold minmaxC at hk
  split at hk
  · rename_i kd p kd' q e1 e2
    rw [e1] at hX
    rw [e2] at hY
    have hX : a.eval x = .int kd p := hX
    have hY : a.eval y = .int kd' q := hY
    cases hc : decide (kd = kd') with
    | false => rw [hc] at hk; cases hk
    | true =>
      rw [hc, cond_true] at hk
      cases mx with
      | true => exact does_plain h hM hd (v := .int kd (if q > p then q else p)) (by simp [execOp, ho, resolve, hcal, hargs, invoke, builtin, hX, hY, Builtin.max_, Builtin.max2]) rfl hk
      | false => exact does_plain h hM hd (v := .int kd (if q < p then q else p)) (by simp [execOp, ho, resolve, hcal, hargs, invoke, builtin, hX, hY, Builtin.min_, Builtin.min2]) rfl hk
  · cases hk
theorem copy_core (h : Rel M N w0 keep f c a w) {T ty e κ lo hi n cp : Nat} {A A' : Option Addr} {Y : Value} {rt : Root} {ys : List (den rt.t)} (hT : elemOf? P T = some e) (hse : sizeT P e = 1) (er : f (rl κ) = .root rt) (hfl : flat rt.t = true) (hh : rt.hole = none) (hw1 : width rt.t = 1)
    (hhd : c.hdr κ = .slice A n cp) (hlo : lo ≤ hi) (hhi : hi ≤ n) (hA : lo < hi → A' = A.map (·.add (lo * c.wid κ))) (hy : Rd w (fun _ => True) (.sl e rt.t) ys [Y]) :
    ∃ w', (Builtin.copy_ #[T, T] ty #[.slice A' (hi - lo) (cp - lo), Y]).run P w = .ok (goInt (min (hi - lo) ys.length : Nat)) w' ∧ ∃ c', Rel M N w0 keep (upd1 f (rl κ) (.root { rt with xs := rt.xs.take lo ++ ys.take (hi - lo) ++ rt.xs.drop (lo + min (hi - lo) ys.length) })) c' a w' := by
  have hu := elem_info hT
  obtain ⟨ie, hie⟩ := size_info (P := P) (T := e) (by omega)
  have hs : (P.info? e).map (·.size) = some 1 := by
    unfold sizeT at hse; rw [hie] at hse ⊢; simpa using hse
  obtain ⟨B, cq, iy, hY, hl, hmax, hil, hcell, hel⟩ := hy
  have hY : Y = .slice B ys.length cq := by simpa using hY
  subst hY
  rw [hw1, Nat.mul_one] at hil
  obtain ⟨⟨hwid, hpos, hnop, hgenr, hholer, v, inner, hv, hown, hcol, helr⟩, hκ⟩ := h.roots κ rt er
  have hnx : n = rt.xs.length := by
    obtain ⟨A2, c2, he, _⟩ := ownsRow_slice hown
    rw [← hv, hhd] at he; injection he
  by_cases hm : min (hi - lo) ys.length = 0
  · refine ⟨w, ?_, c, ?_⟩
    · have hr := run_copy_none (P := P) w T T ty e A' B (hi - lo) (cp - lo) ys.length cq hu hs (by rw [Nat.min_comm] at hm; exact hm)
      rw [hm]; exact hr
    · have he : rt.xs.take lo ++ ys.take (hi - lo) ++ rt.xs.drop (lo + min (hi - lo) ys.length) = rt.xs := by
        have : ys.take (hi - lo) = [] := by
          apply List.eq_nil_of_length_eq_zero
          rw [List.length_take]; exact hm
        rw [this, hm, List.append_nil, Nat.add_zero, List.take_append_drop]
      rw [he]
      have : upd1 f (rl κ) (.root rt) = f := by
        funext j
        rw [upd1_eq]
        by_cases e : j = rl κ
        · rw [if_pos e, e, er]
        · rw [if_neg e]
      rw [this]; exact h
  · have hlt : lo < hi := by omega
    have hyp : 0 < ys.length := by omega
    obtain ⟨b, hAb⟩ : ∃ b, A = some ⟨b, 0, none⟩ := by
      rcases hown.2 with ⟨he, hz⟩ | ⟨g, cap, cur, he, _⟩
      · omega
      · rw [← hv, hhd] at he
        injection he with he _ _
        exact ⟨g, he⟩
    subst hAb
    have hA := hA hlt
    rw [Option.map_some, add_plain', hwid, hw1, Nat.mul_one, Nat.zero_add] at hA
    subst hA
    obtain ⟨ad, hB, _, _⟩ := hcell 0 _ (List.getElem?_eq_getElem (by omega))
    subst hB
    have hcl : (iy.take (min (hi - lo) ys.length)).length = min (hi - lo) ys.length := by rw [List.length_take]; omega
    have hone : ∀ u ∈ iy.take (min (hi - lo) ys.length), u.oneCell' = true := fun u hu' => cells_one hpos (by rw [hw1, Nat.mul_one]; exact hil) hel u (List.mem_of_mem_take hu')
    have hiy : ∀ (j : Nat) (u : Value), (iy.take (min (hi - lo) ys.length))[j]? = some u → iy[j]? = some u := fun j u hu' => by
      rw [List.getElem?_take] at hu'
      split at hu'
      · exact hu'
      · cases hu'
    obtain ⟨cur, T', hcu, hfit, c', h'⟩ := h.setRow er hhd (p := lo) (us := iy.take (min (hi - lo) ys.length)) (by rw [hw1, Nat.mul_one]; omega) (xs' := rt.xs.take lo ++ ys.take (hi - lo) ++ rt.xs.drop (lo + min (hi - lo) ys.length)) (by
        rw [List.length_append, List.length_append, List.length_take, List.length_take, List.length_drop]; omega) rt.gen none (.inl hfl) (fun _ e => by cases e) [] id (by simp) (fun _ _ => rfl) (fun inner w' χ' hil2 helr2 _ _ j x hx => by
      rw [hh] at helr2
      show El w' χ' rt.deep rt.t [κ + 1, j] x (((splice inner lo (iy.take (min (hi - lo) ys.length))).drop (j * width rt.t)).take (width rt.t))
      have one : ∀ (l : List Value) (q : Nat), (l.drop q).take 1 = (l[q]?).toList := fun l q => by
        cases hq : l[q]? with
        | none => rw [List.drop_eq_nil_of_le (by rw [List.getElem?_eq_none_iff] at hq; exact hq)]; rfl
        | some u =>
          obtain ⟨hql, hqe⟩ := List.getElem?_eq_some_iff.1 hq
          rw [List.drop_eq_getElem_cons hql, hqe]; rfl
      rw [hw1, Nat.mul_one, one, splice_get (by rw [hcl]; rw [hw1, Nat.mul_one] at hil2; omega), hcl]
      have hjl : j < rt.xs.length := by
        have := (List.getElem?_eq_some_iff.1 hx).1
        rw [List.length_append, List.length_append, List.length_take, List.length_take, List.length_drop] at this; omega
      have ht1 : (rt.xs.take lo).length = lo := by rw [List.length_take]; omega
      have ht2 : (ys.take (hi - lo)).length = min (hi - lo) ys.length := List.length_take
      have old : ∀ x, rt.xs[j]? = some x → El w' χ' rt.deep rt.t [κ + 1, j] x (inner[j]?).toList := fun x hx => by
        have := helr2 j x hx
        rw [show holed inner none = inner from rfl, hw1, Nat.mul_one, one] at this
        exact flat_El hfl (El_any this)
      by_cases h1 : lo ≤ j ∧ j < lo + min (hi - lo) ys.length
      · rw [if_pos h1]
        rw [List.append_assoc, List.getElem?_append_right (by omega), ht1, List.getElem?_append_left (by omega), List.getElem?_take, if_pos (by omega)] at hx
        have := hel (j - lo) x hx
        rw [hw1, Nat.mul_one, one] at this
        rw [List.getElem?_take, if_pos (by omega)]
        exact flat_El hfl this
      · rw [if_neg h1]
        by_cases h2 : j < lo
        · rw [List.append_assoc, List.getElem?_append_left (by omega), List.getElem?_take, if_pos h2] at hx
          exact old x hx
        · rw [List.getElem?_append_right (by rw [List.length_append]; omega), List.length_append, ht1, ht2, List.getElem?_drop, show lo + min (hi - lo) ys.length + (j - (lo + min (hi - lo) ys.length)) = j by omega] at hx
          exact old x hx)
    have hr := run_copy_row (P := P) w T T ty e b lo (hi - lo) (cp - lo) ad ys.length cq cur.toArray T' (iy.take (min (hi - lo) ys.length)) hu hs hcu (by rw [hcl, Nat.min_comm]) (fun j u hu' => by
      obtain ⟨ad', hA', _, hc⟩ := hcell j u (hiy j u hu')
      injection hA' with hA'; subst hA'; exact hc) (by simpa using hfit) hone
    rw [hcl] at hr
    refine ⟨_, hr, c', ?_⟩
    have e2 : ({ rt with xs := rt.xs.take lo ++ ys.take (hi - lo) ++ rt.xs.drop (lo + min (hi - lo) ys.length) } : Root) = { rt with xs := rt.xs.take lo ++ ys.take (hi - lo) ++ rt.xs.drop (lo + min (hi - lo) ys.length), gen := rt.gen, hole := none } := by rw [← hh]
    rw [e2]
    have e3 : cur.toArray.toList.take lo ++ iy.take (min (hi - lo) ys.length) ++ cur.toArray.toList.drop (lo + min (hi - lo) ys.length) = splice cur lo (iy.take (min (hi - lo) ys.length)) := by
      unfold splice; rw [hcl]
    rw [e3]
    exact h'
theorem does_copy (h : Rel M N w0 keep f c a w) (hM : Fr M key) (hd : DstP N keep o.dst) {T e : Nat} {t : Ty} {x y : Operand} {ca : Call} (ho : o.op = .call ca) (hcal : ca.callee = .builtin .copy) (hargs : ca.args = #[x, y]) (hty : ca.argTypes = #[T, T]) (nx : Nat) (hT : elemOf? P T = some e) (hrow : rowOk P e t = true) (hwt : width t = 1)
    (hk : copyC f e (evV ⟨f, nx⟩ x) (evV ⟨f, nx⟩ y) o.dst k = some r) : Does P o M N w0 keep f key a w k r := by
  have hX := h.evv nx x
  have hXb := h.evvb nx x
  have hY := h.evv nx y
  -- the element type's size
  have run : ∀ {v' : Value} {w' : World}, (Builtin.copy_ #[T, T] o.type #[a.eval x, a.eval y]).run P w = .ok v' w' → (execOp a.eval o).run P w = .ok (.value v') w' := by
    intro v' w' hr
    simp [execOp, ho, resolve, hcal, hargs, hty, invoke, builtin, hr]
  have hz : sizeT P e = width t := by
    unfold rowOk at hrow
    simp only [Bool.and_eq_true] at hrow
    exact Nat.eq_of_beq_eq_true hrow.1.1.1.1
  unfold copyC at hk
  split at hk
  · rename_i κ ex
    rw [ex] at hX hXb
    have hX : a.eval x = c.hdr κ := hX
    split at hk
    · rename_i rt er
      obtain ⟨hc, hk⟩ := cond_some' hk
      simp only [Bool.and_eq_true] at hc
      obtain ⟨⟨⟨hfl, he⟩, hh⟩, hw1⟩ := hc
      have he := Nat.eq_of_beq_eq_true he
      have hw1 := Nat.eq_of_beq_eq_true hw1
      have hh : rt.hole = none := by simpa using hh
      split at hk
      · rename_i ys ey
        have hRy := readL_ok h hY ey
        obtain ⟨A, n, cp, hhd⟩ := h.hdrs κ
        have hn : n = rt.xs.length := by
          obtain ⟨v, inner, hv, hown, _⟩ := (h.roots κ rt er).1.body
          obtain ⟨A2, c2, he', _⟩ := ownsRow_slice hown
          rw [← hv, hhd] at he'; injection he'
        have hse : sizeT P e = 1 := by rw [hz, hwt]
        · obtain ⟨w', hr, c', h'⟩ := copy_core (P := P) (ty := o.type) (A' := A) (lo := 0) (hi := rt.xs.length) h hT hse er hfl hh hw1 hhd (Nat.zero_le _) (by omega) (fun _ => by cases A <;> simp [Addr.add]) hRy
          rw [Nat.sub_zero, Nat.sub_zero] at hr
          refine does_named Le.un hd h' (run (by rw [hX, hhd, hn]; exact hr)) (x := .int .i64 (min rt.xs.length ys.length : Nat)) rfl trivial ?_ hk
          simp only [Nat.sub_zero, List.take_zero, List.nil_append, Nat.zero_add]
          first | done | rfl
      · cases hk
    · cases hk
  · rename_i κ lo hi ex
    rw [ex] at hX hXb
    split at hk
    · rename_i rt er
      obtain ⟨hc, hk⟩ := cond_some' hk
      simp only [Bool.and_eq_true] at hc
      obtain ⟨⟨⟨hfl, he⟩, hh⟩, hw1⟩ := hc
      have he := Nat.eq_of_beq_eq_true he
      have hw1 := Nat.eq_of_beq_eq_true hw1
      have hh : rt.hole = none := by simpa using hh
      split at hk
      · rename_i ys ey
        have hRy := readL_ok h hY ey
        obtain ⟨A, n, cp, A', hhd, h2, h3, h4, h5, h6⟩ := hX
        have hse : sizeT P e = 1 := by rw [hz, hwt]
        · obtain ⟨w', hr, c', h'⟩ := copy_core (P := P) (ty := o.type) h hT hse er hfl hh hw1 hhd h2 h3 h6 hRy
          exact does_named Le.un hd h' (run (by rw [h4]; exact hr)) (x := .int .i64 (min (hi - lo) ys.length : Nat)) rfl trivial rfl hk
      · cases hk
    · cases hk
  · cases hk
end
end Go.Proofs.Ytoioaijpdiglfaa.V
