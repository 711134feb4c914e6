/- A call: what a function's contract says, and what a caller gets from it. -/
import Derived.Test.YtlkjkhmifhmjbaaVOpsA
set_option linter.unusedVariables false
set_option linter.unusedSimpArgs false
namespace Go.Proofs.Ytlkjkhmifhmjbaa.V
open Go Go.RowKit
def OwnL (w : World) (χ : Nat → List Nat) (b : Nat) : (ts : List Ty) → den (tupTy ts) → Nat → List Value → Prop
  | [], _, _, ds => ds = []
  | [t], x, j, ds => ∃ d, ds = [d] ∧ Own w χ t [b + j + 1] x [d]
  | t :: u :: ts, x, j, ds => ∃ d r, ds = d :: r ∧ Own w χ t [b + j + 1] (x : den t × den (tupTy (u :: ts))).1 [d] ∧ OwnL w χ b (u :: ts) (x : den t × den (tupTy (u :: ts))).2 (j + 1) r
/-- Cells, told as values of the types. -/
def grp (P : Program) : List Nat → List Value → List Value
  | [], _ => []
  | T :: Ts, cs => match tysOf P 6 T with
    | some ts => cond (aggT P T) (.agg (cs.take ts.length).toArray) (cs.headD undef) :: grp P Ts (cs.drop ts.length)
    | none => []
def retV (P : Program) (Ts : List Nat) (ds : List Value) : Value := match Ts with
  | [T] => (grp P [T] ds).headD undef
  | Ts => .tuple (grp P Ts ds).toArray
/-- What is new in the world behind a call, and what stays. -/
structure After (w w' : World) : Prop where
  size : w.heap.size ≤ w'.heap.size
  old : ∀ k, k < w.heap.size → w'.heap[k]? = w.heap[k]?
  os : w'.os = w.os
  tape : w'.tape = w.tape
  output : w'.output = w.output
def Meets (P : Program) (H : Hints) (fn : Nat) (x : den (parTy H fn)) (y : den (resTy H fn)) : Prop :=
  ∃ F c, P.funcs[fn]? = some F ∧ F.body = some c ∧ ∀ (w : World) (cs : List Value), Rd w (fun _ => True) (parTy H fn) x cs →
    Calls P fn (grp P F.params.toList cs).toArray w fun e w' => ∃ ds χ, e = .returned (retV P F.resultTypes.toList ds) ∧ OwnL w' χ 0 (H.res fn) y 0 ds ∧ (∀ k, k < w.heap.size → χ k = []) ∧ After w w'
def Nice (P : Program) : Prop := P.funcs.toList.all (fun fn => !(fn.name == "runtime.NumGoroutine")) = true
theorem sameTys_eq : ∀ {as bs : List Ty}, sameTys as bs = true → as = bs
  | [], [], _ => rfl
  | a :: as, b :: bs, h => by
    simp only [sameTys, Bool.and_eq_true] at h
    rw [Ty.same_eq h.1, sameTys_eq h.2]
  | [], _ :: _, h => by cases h
  | _ :: _, [], h => by cases h
theorem fits_eq {P : Program} {Ts : List Nat} {ts : List Ty} (h : fits P Ts ts = true) : tysL P Ts = some ts := by
  unfold fits at h
  split at h
  · rename_i us e; rw [e, sameTys_eq h]
  · cases h
theorem OwnL_len {w : World} {χ : Nat → List Nat} {b : Nat} : ∀ {ts : List Ty} {x : den (tupTy ts)} {j : Nat} {ds : List Value}, OwnL w χ b ts x j ds → ds.length = ts.length
  | [], _, _, _, h => by rw [show _ = _ from h]; rfl
  | [_], _, _, _, ⟨_, h, _⟩ => by rw [h]; rfl
  | _ :: _ :: _, _, _, _, ⟨_, _, h, _, h2⟩ => by rw [h, List.length_cons, OwnL_len h2]; rfl
theorem OwnL_step {w w' : World} {χ χ' : Nat → List Nat} {b b' : Nat} (hm : ∀ k j r, χ k = (b + j + 1) :: r → k < w.heap.size → χ' k = (b' + j + 1) :: r ∧ w'.heap[k]? = w.heap[k]?) : ∀ {ts : List Ty} {x : den (tupTy ts)} {j : Nat} {ds : List Value}, OwnL w χ b ts x j ds → OwnL w' χ' b' ts x j ds
  | [], _, _, _, h => h
  | [_], _, j, _, ⟨d, h, h1⟩ => ⟨d, h, Own_step (fun k r hk hl => hm k j r hk hl) h1⟩
  | _ :: _ :: _, _, j, _, ⟨d, r, h, h1, h2⟩ => ⟨d, r, h, Own_step (fun k r hk hl => hm k j r hk hl) h1, OwnL_step hm h2⟩
section
variable {P : Program} {H : Hints} {o : Oper} {M M' : Nat → Prop} {N key κ : Nat} {w0 w w' : World} {keep : Nat → Prop} {f : Nat → Val} {c : Ctx} {a : Act} {R : Type} {k : Wr → Option R} {r : R}
/-- A later world, in which the old blocks are as they were; the new ones get colours. -/
theorem Rel.advance (h : Rel M N w0 keep f c a w) (ha : After w w') (g : Nat → List Nat) : Rel M N w0 keep f { c with χ := fun k => if k < w.heap.size then c.χ k else g k } a w' := by
  have hst : Stays M w c w' { c with χ := fun k => if k < w.heap.size then c.χ k else g k } := h.stays (fun _ => False) (fun _ => False) ha.size (fun k hl hk => (if_pos hl).trans hk) (fun k hl _ _ => ha.old k hl) (fun _ _ => ⟨rfl, rfl⟩) (fun _ _ => rfl) (fun _ _ hf => hf.elim) (fun _ _ _ => rfl)
  exact h.next Le.rfl' hst h.size h.defers ha.os ha.tape ha.output (fun t x hx => .inl ⟨hx, rfl⟩) (fun β b hb => .inl ⟨hb, fun k hk hl => ⟨(if_pos hl).trans hk, ha.old k hl⟩⟩) (fun κ r hr => .inl ⟨hr, rfl, fun k q hk hl => ⟨(if_pos hl).trans hk, ha.old k hl⟩⟩) h.live (fun l => .inl rfl) (fun κ => .inl rfl)
/-- A row that is there already gets a name. -/
theorem Rel.addRoot (h : Rel M N w0 keep f c a w) (hκ : ¬ M κ) (hLe : Le M M') (hM' : M' κ) {e : Nat} {t : Ty} {xs : List (den t)} {v : Value} (hpos : 0 < width t) (hown : Own w c.χ (.sl e t) [κ + 1] xs [v]) :
    Rel M' N w0 keep (upd1 f (rl κ) (.root ⟨e, t, xs, true, 0, none⟩)) { c with hdr := fun j => if j = κ then v else c.hdr j, wid := fun j => if j = κ then width t else c.wid j, gens := fun j => if j = κ then some 0 else c.gens j } a w := by
  have hv : ∃ A n cp, v = .slice A n cp := by
    obtain ⟨v', inner, e', ho, _⟩ := hown
    obtain ⟨A, cp, hs, _⟩ := ownsRow_slice ho
    injection e' with e' _
    exact ⟨A, _, cp, e'.trans hs⟩
  have hne : ∀ j, M j → j ≠ κ := fun j hj e => hκ (e ▸ hj)
  have hst : Stays M w c w { c with hdr := fun j => if j = κ then v else c.hdr j, wid := fun j => if j = κ then width t else c.wid j, gens := fun j => if j = κ then some 0 else c.gens j } := h.stays (fun _ => False) (fun _ => False) (Nat.le_refl _) (fun k hl hk => hk) (fun k hl _ _ => rfl) (fun j hj => ⟨if_neg (hne j hj), if_neg (hne j hj)⟩) (fun _ _ => rfl) (fun _ _ hf => hf.elim) (fun j hj _ => if_neg (hne j hj))
  refine h.next hLe hst h.size h.defers rfl rfl rfl (fun t' x hx => .inl ⟨?_, rfl⟩) (fun β b hb => .inl ⟨?_, fun k hk hl => ⟨hk, rfl⟩⟩) (fun j r' hr => ?_) (fun j g hg => ?_) (fun l => ?_) (fun j => ?_)
  · rwa [upd1_eq, if_neg (by simp only [sl, rl]; omega)] at hx
  · rwa [upd1_eq, if_neg (by simp only [bl, rl]; omega)] at hb
  · by_cases ej : j = κ
    · subst ej
      rw [upd1_eq, if_pos rfl] at hr
      injection hr with hr; subst hr
      right
      refine ⟨⟨rfl, rfl, if_pos rfl, hpos, .inr ⟨0, if_pos rfl, Nat.le_refl _⟩, ?_⟩, hM'⟩
      show Own w c.χ (.sl e t) [j + 1] xs [if j = j then v else c.hdr j]
      rw [if_pos rfl]; exact hown
    · left
      rw [upd1_eq, if_neg (by simp only [rl]; omega)] at hr
      exact ⟨hr, if_neg ej, fun k q hk hl => ⟨hk, rfl⟩⟩
  · by_cases ej : j = κ
    · subst ej; exact ⟨_, by rw [upd1_eq, if_pos rfl]⟩
    · have hg : (if j = κ then some 0 else c.gens j) = some g := hg
      rw [if_neg ej] at hg
      obtain ⟨r', hr'⟩ := h.live j g hg
      exact ⟨r', by rw [upd1_eq, if_neg (by simp only [rl]; omega)]; exact hr'⟩
  · rw [upd1_eq]
    by_cases el : l = rl κ
    · right; rw [if_pos el]; trivial
    · left; rw [if_neg el]
  · by_cases ej : j = κ
    · right
      obtain ⟨A, n, cp, hv⟩ := hv
      exact ⟨A, n, cp, by show (if j = κ then v else c.hdr j) = _; rw [if_pos ej]; exact hv⟩
    · left; exact if_neg ej
def Up (M : Nat → Prop) (κ n : Nat) : Nat → Prop := fun i => M i ∨ (κ ≤ i ∧ i < κ + n)
theorem Le.up {M : Nat → Prop} {κ n : Nat} : Le M (Up M κ n) := fun _ h => .inl h
theorem outLeaf_ok (h : Rel M N w0 keep f c a w) (hκ : ¬ M κ) {t : Ty} {x : den t} {d : Value} (hg : goodTy t = true) (hown : Own w c.χ t [κ + 1] x [d]) :
    ∃ c', Rel (Up M κ 1) N w0 keep (upds f (outLeaf t x κ).2) c' a w ∧ VR w c' (outLeaf t x κ).1 d ∧ vB (Up M κ 1) (outLeaf t x κ).1 ∧ c'.χ = c.χ ∧ ∀ j, j ≠ κ → c'.hdr j = c.hdr j := by
  have plain : ∀ v : V, VR w c v d → vB (Up M κ 1) v → ∃ c', Rel (Up M κ 1) N w0 keep (upds f []) c' a w ∧ VR w c' v d ∧ vB (Up M κ 1) v ∧ c'.χ = c.χ ∧ ∀ j, j ≠ κ → c'.hdr j = c.hdr j := fun v h1 h2 => ⟨c, h.mono Le.up, h1, h2, rfl, fun _ _ => rfl⟩
  cases t with
  | int k' => exact plain (.int k' x) (by injection (show [d] = _ from hown)) trivial
  | bool => exact plain (.bool x) (by injection (show [d] = _ from hown)) trivial
  | str => exact plain (.str x) (by injection (show [d] = _ from hown)) trivial
  | sl e t =>
    have hpos : 0 < width t := by simpa [goodTy, Nat.blt_eq] using hg
    have hself : Up M κ 1 κ := .inr ⟨Nat.le_refl _, by omega⟩
    exact ⟨_, h.addRoot (M' := Up M κ 1) hκ Le.up hself hpos hown, (if_pos rfl).symm, hself, rfl, fun j hj => if_neg hj⟩
  | pair _ _ => cases hg
  | unit => cases hg
theorem outLeaves_ok (b : Nat) : ∀ (ts : List Ty) (x : den (tupTy ts)) (j : Nat) (ds : List Value) {M : Nat → Prop} {f : Nat → Val} {c : Ctx}, Rel M N w0 keep f c a w → (∀ i, i < ts.length → ¬ M (b + j + i)) → ts.all goodTy = true → OwnL w c.χ b ts x j ds →
    ∃ c', Rel (Up M (b + j) ts.length) N w0 keep (upds f (outLeaves ts x (b + j)).2) c' a w ∧ All2 (VR w c') (outLeaves ts x (b + j)).1 ds ∧ (∀ v ∈ (outLeaves ts x (b + j)).1, vB (Up M (b + j) ts.length) v) ∧ c'.χ = c.χ ∧ ∀ i, i < b + j → c'.hdr i = c.hdr i
  | [], x, j, ds, M, f, c, h, hM, _, hown => by
    rw [show ds = [] from hown]
    exact ⟨c, h.mono Le.up, trivial, fun v hv => absurd hv (List.not_mem_nil), rfl, fun _ _ => rfl⟩
  | [t], x, j, ds, M, f, c, h, hM, hg, ⟨d, e, hown⟩ => by
    subst e
    simp only [List.all_cons, List.all_nil, Bool.and_true] at hg
    obtain ⟨c', h1, h2, h3, h4, h5⟩ := outLeaf_ok h (hM 0 (by simp)) hg hown
    exact ⟨c', h1, ⟨h2, trivial⟩, fun v hv => by
      have hv : v = (outLeaf t x (b + j)).1 := List.mem_singleton.1 hv
      rw [hv]; exact h3, h4, fun i hi => h5 i (by omega)⟩
  | t :: u :: ts, x, j, ds, M, f, c, h, hM, hg, ⟨d, r, e, hown, hrest⟩ => by
    subst e
    simp only [List.all_cons] at hg
    rw [Bool.and_eq_true] at hg
    obtain ⟨c1, h1, h2, h3, h4, h5⟩ := outLeaf_ok h (hM 0 (by simp)) hg.1 hown
    obtain ⟨c2, g1, g2, g3, g4, g5⟩ := outLeaves_ok b (u :: ts) _ (j + 1) r h1 (fun i hi hm => by
      rcases hm with hm | hm
      · exact hM (i + 1) (by simp only [List.length_cons] at hi ⊢; omega) (by rw [show b + j + (i + 1) = b + (j + 1) + i by omega]; exact hm)
      · omega) (by simpa using hg.2) (by rw [h4]; exact hrest)
    have hle : Le (Up (Up M (b + j) 1) (b + (j + 1)) (u :: ts).length) (Up M (b + j) (t :: u :: ts).length) := fun i hi => by
      rcases hi with (hi | hi) | hi
      · exact .inl hi
      · exact .inr ⟨hi.1, by simp only [List.length_cons]; omega⟩
      · exact .inr ⟨by omega, by simp only [List.length_cons] at hi ⊢; omega⟩
    refine ⟨c2, by rw [show outLeaves (t :: u :: ts) x (b + j) = _ from rfl]; simp only [outLeaves]; rw [upds_app]; exact g1.mono hle, ⟨?_, g2⟩, fun v hv => ?_, g4.trans h4, fun i hi => (g5 i (by omega)).trans (h5 i (by omega))⟩
    · revert h2 h3
      show VR w c1 (outLeaf t (x : den t × den (tupTy (u :: ts))).1 (b + j)).1 d → vB _ (outLeaf t (x : den t × den (tupTy (u :: ts))).1 (b + j)).1 → VR w c2 (outLeaf t (x : den t × den (tupTy (u :: ts))).1 (b + j)).1 d
      cases t with
      | int _ => exact fun h _ => h
      | bool => exact fun h _ => h
      | str => exact fun h _ => h
      | sl e t => intro h _; show d = c2.hdr (b + j); rw [g5 _ (by omega)]; exact h
      | pair _ _ => simp [goodTy] at hg
      | unit => simp [goodTy] at hg
    · rcases List.mem_cons.1 hv with e | e
      · rw [e]; exact vB_mono (fun i hi => hle i (.inl hi)) h3
      · exact vB_mono hle (g3 v e)
theorem argLeaves_ok (h : Rel M N w0 keep f c a w) (nx : Nat) : ∀ {Ts : List Nat} {xs : List Operand} {vs : List V}, argLeaves P Ts (xs.map (evS ⟨f, nx⟩)) = some vs → ∃ cs, All2 (VR w c) vs cs ∧ grp P Ts cs = xs.map a.eval
  | [], [], vs, he => by
    injection he with he; subst he
    exact ⟨[], trivial, rfl⟩
  | T :: Ts, x :: xs, vs, he => by
    simp only [List.map_cons, argLeaves] at he
    split at he
    · rename_i ts r e1 e2
      obtain ⟨cs, hcs, hg⟩ := argLeaves_ok h nx e2
      have hX := h.ev nx x
      split at he
      · rename_i v es
        rw [es] at hX
        cases hag : aggT P T with
        | true => rw [hag] at he; cases he
        | false =>
          rw [hag, cond_false] at he
          cases hl : Nat.beq ts.length 1 with
          | false => rw [hl] at he; cases he
          | true =>
            rw [hl, cond_true] at he
            injection he with he; subst he
            have hl := Nat.eq_of_beq_eq_true hl
            refine ⟨a.eval x :: cs, ⟨hX, hcs⟩, ?_⟩
            simp only [grp, e1, hag, cond_false, hl, List.map_cons, List.headD_cons, List.drop_succ_cons, List.drop_zero, hg]
      · rename_i us es
        rw [es] at hX
        obtain ⟨ys, hy, hall⟩ := hX
        cases hag : aggT P T with
        | false => rw [hag] at he; cases he
        | true =>
          rw [hag, cond_true] at he
          cases hl : Nat.beq us.length ts.length with
          | false => rw [hl] at he; cases he
          | true =>
            rw [hl, cond_true] at he
            injection he with he; subst he
            have hl := Nat.eq_of_beq_eq_true hl
            have hyl : ys.length = ts.length := by rw [← hall.len, hl]
            refine ⟨ys ++ cs, hall.app hcs, ?_⟩
            simp only [grp, e1, hag, cond_true, List.map_cons]
            rw [← hyl, List.take_left, List.drop_left, hg, hy]
      · cases he
    · cases he
  | [], _ :: _, vs, he => by cases he
  | _ :: _, [], vs, he => by cases he
theorem cut_ok : ∀ (Ts : List Nat) {ls : List V} {ds : List Value}, All2 (VR w c) ls ds → All2 (fun (p : Bool × List V) y => ∃ ls' : List Value, All2 (VR w c) p.2 ls' ∧ (p.1 = true → y = .agg ls'.toArray) ∧ (p.1 = false → ∀ u, ls' = [u] → y = u)) (cutLeaves P Ts ls) (grp P Ts ds)
  | [], _, _, _ => trivial
  | T :: Ts, ls, ds, h => by
    simp only [cutLeaves, grp]
    cases e : tysOf P 6 T with
    | none => trivial
    | some ts =>
      refine ⟨⟨ds.take ts.length, h.take _, fun hag => ?_, fun hag u hu => ?_⟩, cut_ok Ts (h.drop _)⟩
      · have hag : aggT P T = true := hag
        rw [hag]; rfl
      · have hag : aggT P T = false := hag
        rw [hag, cond_false]
        cases ds with
        | nil => simp at hu
        | cons d ds =>
          cases hn : ts.length with
          | zero => rw [hn] at hu; simp at hu
          | succ n => rw [hn, List.take_succ_cons] at hu; injection hu
theorem cut_mem {ls : List V} : ∀ (Ts : List Nat) {ls : List V}, ∀ p ∈ cutLeaves P Ts ls, ∀ v ∈ p.2, v ∈ ls
  | [], ls, p, hp, v, hv => by cases hp
  | T :: Ts, ls, p, hp, v, hv => by
    simp only [cutLeaves] at hp
    split at hp
    · rcases List.mem_cons.1 hp with e | e
      · rw [e] at hv; exact List.mem_of_mem_take hv
      · exact List.mem_of_mem_drop (cut_mem (ls := ls) Ts p e v hv)
    · cases hp
theorem outS_ok {Ts : List Nat} {ts : List Ty} (hf : tysL P Ts = some ts) {ls : List V} {ds : List Value} (hl : ds.length = ts.length) (h : All2 (VR w c) ls ds) : SR w c (outS P Ts ls) (retV P Ts ds) := by
  have many : SR w c (.tup (cutLeaves P Ts ls)) (.tuple (grp P Ts ds).toArray) := ⟨_, rfl, cut_ok Ts h⟩
  cases Ts with
  | nil => exact many
  | cons T Ts =>
    cases Ts with
    | cons _ _ => exact many
    | nil =>
      simp only [tysL] at hf
      cases e : tysOf P 6 T with
      | none => rw [e] at hf; cases hf
      | some us =>
        rw [e] at hf
        have hf : us = ts := by simpa using hf
        subst hf
        show SR w c (mkS (aggT P T) ls) ((grp P [T] ds).headD undef)
        simp only [grp, e, List.headD_cons]
        cases hag : aggT P T with
        | true => exact ⟨ds, by rw [cond_true, ← hl, List.take_length], h⟩
        | false =>
          rw [cond_false]
          cases ls with
          | nil => trivial
          | cons v ls => cases ls with
            | cons _ _ => trivial
            | nil => cases ds with
              | nil => exact h.elim
              | cons d ds => exact h.1
theorem outS_b {Ts : List Nat} {ls : List V} (h : ∀ v ∈ ls, vB M v) : sB M (outS P Ts ls) := by
  have many : sB M (.tup (cutLeaves P Ts ls)) := fun p hp v hv => h v (cut_mem (ls := ls) Ts p hp v hv)
  cases Ts with
  | nil => exact many
  | cons T Ts => cases Ts with
    | cons _ _ => exact many
    | nil => exact mkS_b h
theorem run_callFunc {fn : Nat} {F : Func} {cd : Code} {args : Array Value} (hn : Nice P) (hf : P.funcs[fn]? = some F) (hb : F.body = some cd) : (callFunc fn args).run P w = .ok (.enter fn args) w := by
  have hname : (F.name == "runtime.NumGoroutine") = false := by
    have := List.all_eq_true.1 hn F (by rw [Array.mem_toList_iff]; exact Array.mem_of_getElem? hf)
    simpa using this
  unfold callFunc
  have hname' : F.name ≠ "runtime.NumGoroutine" := by simpa using hname
  simp [hf, hb, hname']
theorem does_call (call : CallR H) (hn : Nice P) (hcall : ∀ fn x y, call fn x = some y → Meets P H fn x y) (h : Rel M N w0 keep f c a w) (hM : Fr M key) (hd : ∀ d, o.dst = some d → d < N) {fn : Nat} {ca : Call} (ho : o.op = .call ca) (hcal : ca.callee = .value (.func fn)) (nx : Nat)
    (hk : callC P H call fn (ca.args.toList.map (evS ⟨f, nx⟩)) f (64 * key) o.dst k = some r) : Does P o M N w0 keep f key a w k r := by
  unfold callC at hk
  split at hk
  · cases hk
  rename_i F hF
  split at hk
  · cases hk
  rename_i vs hvs
  split at hk
  · cases hk
  rename_i x hx
  cases hc : (Nat.ble (H.res fn).length 64 && ((H.res fn).all goodTy && fits P F.resultTypes.toList (H.res fn))) with
  | false => rw [hc] at hk; cases hk
  | true =>
    rw [hc, cond_true] at hk
    simp only [Bool.and_eq_true] at hc
    obtain ⟨hc1, hc2, hc3⟩ := hc
    have hc1 := Nat.le_of_ble_eq_true hc1
    cases hy : call fn x with
    | none => rw [hy] at hk; cases hk
    | some y =>
      rw [hy] at hk
      have hk : k ((outLeaves (H.res fn) y (64 * key)).2 ++ putS o.dst (outS P F.resultTypes.toList (outLeaves (H.res fn) y (64 * key)).1)) = some r := hk
      obtain ⟨F', cd, hF', hb, hmeets⟩ := hcall fn x y hy
      rw [hF] at hF'
      injection hF' with hF'; subst hF'
      obtain ⟨cs, hcs, hgrp⟩ := argLeaves_ok h nx hvs
      have hrd := packs_ok h hcs hx
      intro next Q hnext
      show o.upon P a next Q _
      have hrun : (execOp a.eval o).run P w = .ok (.enter fn (grp P F.params.toList cs).toArray) w := by
        have he : (grp P F.params.toList cs).toArray = ca.args.map a.eval := by rw [hgrp]; apply Array.ext'; simp
        rw [he]
        simp [execOp, ho, resolve, hcal, invoke, Act.eval, Deferred.ofValue, run_callFunc hn hF hb]
      rw [hrun]
      refine (hmeets w cs hrd).mono fun e w' he => ?_
      obtain ⟨ds, χ, rfl, hown, hnew, haft⟩ := he
      show next _ w'
      have h1 := h.advance haft (fun b => match χ b with
        | (j + 1) :: q => (64 * key + j + 1) :: q
        | _ => [])
      have hown' := OwnL_step (w' := w') (χ' := fun b => if b < w.heap.size then c.χ b else (match χ b with
        | (j + 1) :: q => (64 * key + j + 1) :: q
        | _ => [])) (b' := 64 * key) (fun b j q hq hl => ⟨by
          have : ¬ b < w.heap.size := fun hlt => by rw [hnew b hlt] at hq; cases hq
          show (if b < w.heap.size then _ else _) = _
          rw [if_neg this, hq, Nat.zero_add], rfl⟩) hown
      obtain ⟨c', g1, g2, g3, _, _⟩ := outLeaves_ok (64 * key) (H.res fn) y 0 ds h1 (fun i hi hm => hM _ hm (kn_self key i (by omega))) hc2 hown'
      rw [Nat.add_zero] at g1 g2 g3
      refine hnext _ c' _ w' hk ?_
      rw [upds_app]
      have hle : Le (Up M (64 * key) (H.res fn).length) (Un M key) := fun i hi => hi.elim .inl fun h => .inr ⟨h.1, by omega⟩
      exact g1.put hle hd (outS_ok (fits_eq hc3) (OwnL_len hown) g2) (sB_mono hle (outS_b g3))
end
end Go.Proofs.Ytlkjkhmifhmjbaa.V
