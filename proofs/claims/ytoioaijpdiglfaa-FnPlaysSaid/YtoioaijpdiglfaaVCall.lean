/- A call: what a function's contract says, and what a caller gets from it. -/
import Derived.Test.YtoioaijpdiglfaaVOpsA
set_option linter.unusedVariables false
set_option linter.unusedSimpArgs false
namespace Go.Proofs.Ytoioaijpdiglfaa.V
open Go Go.RowKit
/-- Cells, told as values of the types. -/
def grp (P : Program) : List Nat → List Value → List Value
  | [], _ => []
  | T :: Ts, cs => match tysOf P 6 T with
    | some ts => cond (aggT P T) (.agg (cs.take ts.length).toArray) (cs.headD undef) :: grp P Ts (cs.drop ts.length)
    | none => []
def retV (P : Program) (Ts : List Nat) (ds : List Value) : Value := match Ts with
  | [T] => (grp P [T] ds).headD undef
  | Ts => .tuple (grp P Ts ds).toArray
/-- A result's leaf: owned anew, in the colour of its place; or data that only is read. -/
def LeafM (w : World) (χ : Nat → List Nat) : RM → (t : Ty) → den t → Nat → Value → Prop
  | .dat, .sl e t, x, _, d => Rd w (fun k => χ k = []) (.sl e t) x [d]
  | _, t, x, p, d => Own w χ t [p + 1] x [d]
def OwnM (w : World) (χ : Nat → List Nat) : List RM → (ts : List Ty) → den (tupTy ts) → Nat → List Value → Prop
  | _, [], _, _, ds => ds = []
  | ms, [t], x, p, ds => ∃ d, ds = [d] ∧ LeafM w χ (ms.headD .own) t x p d
  | ms, t :: u :: ts, x, p, ds => ∃ d r, ds = d :: r ∧ LeafM w χ (ms.headD .own) t (x : den t × den (tupTy (u :: ts))).1 p d ∧ OwnM w χ ms.tail (u :: ts) (x : den t × den (tupTy (u :: ts))).2 (p + 1) r
/-- An argument's leaf: read, or owned in the colour of its place. -/
def LeafA (w : World) (χ : Nat → List Nat) : Bool → (t : Ty) → Nat → den t → Value → Prop
  | true, t, i, x, d => Own w χ t [i + 1] x [d]
  | false, t, _, x, d => Rd w (fun k => χ k = []) t x [d]
def ArgM (w : World) (χ : Nat → List Nat) (io : Nat → Bool) : (ts : List Ty) → Nat → den (tupTy ts) → List Value → Prop
  | [], _, _, ds => ds = []
  | [t], i, x, ds => ∃ d, ds = [d] ∧ LeafA w χ (io i) t i x d
  | t :: u :: ts, i, x, ds => ∃ d r, ds = d :: r ∧ LeafA w χ (io i) t i (x : den t × den (tupTy (u :: ts))).1 d ∧ ArgM w χ io (u :: ts) (i + 1) (x : den t × den (tupTy (u :: ts))).2 r
/-- What is new in the world behind a call, and what stays: the blocks whose colour says so. -/
structure After (w w' : World) (χ χ' : Nat → List Nat) : Prop where
  size : w.heap.size ≤ w'.heap.size
  old : ∀ k, stable (χ k) → k < w.heap.size → χ' k = χ k ∧ w'.heap[k]? = w.heap[k]?
  os : w'.os = w.os
  tape : w'.tape = w.tape
  output : w'.output = w.output
abbrev ioB (H : Hints) (fn : Nat) : Nat → Bool := fun i => memN i (H.out fn)
/-- What a function may lean on: the table that the program laid, in a block that stays as it is. -/
def Glob (P : Program) (H : Hints) (w : World) (χ : Nat → List Nat) : Prop := ∀ nm k zs, H.tab = some (nm, k, zs) → w.var? P nm = some (zs.map fun z => Value.int k z).toArray ∧ ∀ g, P.globalNamed nm = some g → stable (χ g)
theorem Glob.none {P : Program} {H : Hints} {w : World} {χ : Nat → List Nat} (h : H.tab = none) : Glob P H w χ := fun nm k zs e => by rw [h] at e; cases e
def Meets (P : Program) (H : Hints) (fn : Nat) (x : den (parTy H fn)) (y : den (resTy H fn)) : Prop :=
  ∃ F c, P.funcs[fn]? = some F ∧ F.body = some c ∧ ∀ (w : World) (cs : List Value) (χ : Nat → List Nat), Glob P H w χ → ArgM w χ (ioB H fn) (H.par fn) 0 x cs →
    Calls P fn (grp P F.params.toList cs).toArray w fun e w' => ∃ ds χ', e = .returned (retV P F.resultTypes.toList (ds.take (nres H fn))) ∧ OwnM w' χ' (rmsOf H fn) (H.res fn) y 0 ds ∧ ds.drop (nres H fn) = (H.out fn).map (fun i => cs.getD i undef) ∧ After w w' χ χ'
def Nice (P : Program) (H : Hints) : Prop := P.funcs.toList.all (fun fn => !(fn.name == "runtime.NumGoroutine")) = true ∧ ∀ fn, H.idx = some fn → ∀ (args : Array Value) (w : World), (callFunc fn args).run P w = ((Extern.BytealgIndexByte.indexByte args).run P w).andThen fun v w' => .ok (.value v) w'
/-- What is known behind a call's start. -/
structure NiceG (P : Program) (H : Hints) (w0 : World) (keep : Kp) : Prop where
  nice : Nice P H
  glob : Glob P H w0 keep.col
theorem Rel.glob {P : Program} {H : Hints} {M : Nat → Prop} {N : Nat} {w0 w : World} {keep : Kp} {f : Nat → Val} {c : Ctx} {a : Act} (h : Rel M N w0 keep f c a w) (hG : Glob P H w0 keep.col) : Glob P H w c.χ := fun nm k zs e => by
  obtain ⟨h1, h2⟩ := hG nm k zs e
  unfold World.var? at h1 ⊢
  cases hg : P.globalNamed nm with
  | none => rw [hg] at h1; cases h1
  | some g =>
    rw [hg] at h1
    simp only [Option.bind_some] at h1 ⊢
    have hs := h2 g hg
    cases ho : w0.heap[g]? with
    | none => rw [ho] at h1; cases h1
    | some o =>
      obtain ⟨h3, h4⟩ := h.kept g hs (Array.getElem?_eq_some_iff.1 ho).1
      rw [h4]
      exact ⟨h1, fun g' hg' => by
        injection hg' with hg'
        rw [← hg', h3]; exact hs⟩
theorem sameTys_eq : ∀ {as bs : List Ty}, sameTys as bs = true → as = bs
  | [], [], _ => rfl
  | a :: as, b :: bs, h => by
    simp only [sameTys, Bool.and_eq_true] at h
    rw [Ty.same_eq h.1, sameTys_eq h.2]
  | [], _ :: _, h => by cases h
  | _ :: _, [], h => by cases h
theorem fits_eq {P : Program} {Ts : List Nat} {ts : List Ty} (h : fits P Ts ts = true) : tysL P Ts = some ts := by
  unfold fits at h
  split at h
  · rename_i us e; rw [e, sameTys_eq h]
  · cases h
/-- A leaf, with its data and its value. -/
structure Lf where
  t : Ty
  x : den t
  d : Value
theorem ownM_each {w : World} {χ : Nat → List Nat} : ∀ {rms : List RM} {ts : List Ty} {x : den (tupTy ts)} {j : Nat} {ds : List Value}, OwnM w χ rms ts x j ds →
    ∃ L : List Lf, ts = L.map (·.t) ∧ ds = L.map (·.d) ∧ (∀ (p : Nat) (l : Lf), L[p]? = some l → LeafM w χ (rms.getD p .own) l.t l.x (j + p) l.d) ∧
      ∀ (f : Nat → Val) (ms : List OM) (key : Nat), outLeaves f ms ts x key = ((L.zipIdx 0).map (fun q => (outLeaf f (ms.getD q.2 .new) q.1.t q.1.x (key + q.2)).1), ((L.zipIdx 0).map (fun q => (outLeaf f (ms.getD q.2 .new) q.1.t q.1.x (key + q.2)).2)).flatten)
  | rms, [], x, j, ds, h => ⟨[], rfl, by rw [show ds = _ from h]; rfl, fun p l hl => by simp at hl, fun f ms key => by cases ms <;> rfl⟩
  | rms, [t], x, j, ds, ⟨d, e, h⟩ => by
    refine ⟨[⟨t, x, d⟩], rfl, e, fun p l hl => ?_, fun f ms key => ?_⟩
    · cases p with
      | zero =>
        have hl : (⟨t, x, d⟩ : Lf) = l := by simpa using hl
        subst hl
        cases rms <;> exact h
      | succ p => simp at hl
    · cases ms <;> simp [outLeaves]
  | rms, t :: u :: ts, x, j, ds, ⟨d, r, e, h, hr⟩ => by
    obtain ⟨L, h1, h2, h3, h4⟩ := ownM_each hr
    refine ⟨⟨t, (x : den t × den (tupTy (u :: ts))).1, d⟩ :: L, by rw [List.map_cons, ← h1], by rw [List.map_cons, ← h2, e], fun p l hl => ?_, fun f ms key => ?_⟩
    · cases p with
      | zero =>
        have hl : (⟨t, (x : den t × den (tupTy (u :: ts))).1, d⟩ : Lf) = l := by simpa using hl
        subst hl
        cases rms <;> exact h
      | succ p =>
        have := h3 p l (by simpa using hl)
        rw [show j + 1 + p = j + (p + 1) by omega] at this
        cases rms with
        | nil => exact this
        | cons m rms => exact this
    · have hz : ∀ (L : List Lf) (k : Nat), L.zipIdx (k + 1) = (L.zipIdx k).map (fun q => (q.1, q.2 + 1)) := fun L => by
        induction L with
        | nil => intro k; rfl
        | cons l L ih => intro k; simp only [List.zipIdx_cons, List.map_cons, ih (k + 1)]
      have h4 := h4 f ms.tail (key + 1)
      have e1 : ∀ q : Nat, ms.getD (q + 1) .new = ms.tail.getD q .new := fun q => by cases ms <;> simp
      have e0 : ms.headD .new = ms.getD 0 .new := by cases ms <;> rfl
      have e2 : ∀ q : Nat, key + (q + 1) = key + 1 + q := fun q => by omega
      simp only [outLeaves, h4, List.zipIdx_cons, List.map_cons, List.flatten_cons, hz L 0, List.map_map, e0, Nat.add_zero]
      refine Prod.ext ?_ ?_
      · simp only
        congr 1
        refine List.map_congr_left fun q _ => ?_
        simp only [Function.comp]
        rw [e1, e2 q.2]
      · simp only
        congr 2
        refine List.map_congr_left fun q _ => ?_
        simp only [Function.comp]
        rw [e1, e2 q.2]
section
variable {P : Program} {H : Hints} {o : Oper} {M M' : Nat → Prop} {N key κ : Nat} {w0 w w' : World} {keep : Kp} {f : Nat → Val} {c : Ctx} {a : Act} {R : Type} {k : Wr → Option R} {r : R}
theorem argLeaves_gen : ∀ {Ts : List Nat} {ss : List S} {dv : List Value} {vs : List V}, All2 (SR w c) ss dv → argLeaves P Ts ss = some vs → ∃ cs, All2 (VR w c) vs cs ∧ grp P Ts cs = dv
  | [], [], dv, vs, hs, he => by
    injection he with he; subst he
    cases dv with
    | nil => exact ⟨[], trivial, rfl⟩
    | cons _ _ => exact hs.elim
  | T :: Ts, x :: xs, [], vs, hs, he => hs.elim
  | T :: Ts, x :: xs, d :: dv, vs, hs, he => by
    obtain ⟨hX, hs⟩ := hs
    simp only [argLeaves] at he
    split at he
    · rename_i ts r e1 e2
      obtain ⟨cs, hcs, hg⟩ := argLeaves_gen hs e2
      split at he
      · rename_i v
        cases hag : aggT P T with
        | true => rw [hag] at he; cases he
        | false =>
          rw [hag, cond_false] at he
          cases hl : Nat.beq ts.length 1 with
          | false => rw [hl] at he; cases he
          | true =>
            rw [hl, cond_true] at he
            injection he with he; subst he
            have hl := Nat.eq_of_beq_eq_true hl
            refine ⟨d :: cs, ⟨hX, hcs⟩, ?_⟩
            simp only [grp, e1, hag, cond_false, hl, List.headD_cons, List.drop_succ_cons, List.drop_zero, hg]
      · rename_i us
        obtain ⟨ys, hy, hall⟩ := hX
        cases hag : aggT P T with
        | false => rw [hag] at he; cases he
        | true =>
          rw [hag, cond_true] at he
          cases hl : Nat.beq us.length ts.length with
          | false => rw [hl] at he; cases he
          | true =>
            rw [hl, cond_true] at he
            injection he with he; subst he
            have hl := Nat.eq_of_beq_eq_true hl
            have hyl : ys.length = ts.length := by rw [← hall.len, hl]
            refine ⟨ys ++ cs, hall.app hcs, ?_⟩
            simp only [grp, e1, hag, cond_true]
            rw [← hyl, List.take_left, List.drop_left, hg, hy]
      · cases he
    · cases he
  | [], _ :: _, _, vs, _, he => by cases he
  | _ :: _, [], _, vs, _, he => by cases he
theorem evs_ok (h : Rel M N w0 keep f c a w) (nx : Nat) : ∀ (xs : List Operand), All2 (SR w c) (xs.map (evS ⟨f, nx⟩)) (xs.map a.eval)
  | [] => trivial
  | x :: xs => ⟨h.ev nx x, evs_ok h nx xs⟩
theorem argLeaves_ok (h : Rel M N w0 keep f c a w) (nx : Nat) {Ts : List Nat} {xs : List Operand} {vs : List V} (he : argLeaves P Ts (xs.map (evS ⟨f, nx⟩)) = some vs) : ∃ cs, All2 (VR w c) vs cs ∧ grp P Ts cs = xs.map a.eval :=
  argLeaves_gen (evs_ok h nx xs) he
theorem cut_ok : ∀ (Ts : List Nat) {ls : List V} {ds : List Value}, All2 (VR w c) ls ds → All2 (fun (p : Bool × List V) y => ∃ ls' : List Value, All2 (VR w c) p.2 ls' ∧ (p.1 = true → y = .agg ls'.toArray) ∧ (p.1 = false → ∀ u, ls' = [u] → y = u)) (cutLeaves P Ts ls) (grp P Ts ds)
  | [], _, _, _ => trivial
  | T :: Ts, ls, ds, h => by
    simp only [cutLeaves, grp]
    cases e : tysOf P 6 T with
    | none => trivial
    | some ts =>
      refine ⟨⟨ds.take ts.length, h.take _, fun hag => ?_, fun hag u hu => ?_⟩, cut_ok Ts (h.drop _)⟩
      · have hag : aggT P T = true := hag
        rw [hag]; rfl
      · have hag : aggT P T = false := hag
        rw [hag, cond_false]
        cases ds with
        | nil => simp at hu
        | cons d ds =>
          cases hn : ts.length with
          | zero => rw [hn] at hu; simp at hu
          | succ n => rw [hn, List.take_succ_cons] at hu; injection hu
theorem cut_mem {ls : List V} : ∀ (Ts : List Nat) {ls : List V}, ∀ p ∈ cutLeaves P Ts ls, ∀ v ∈ p.2, v ∈ ls
  | [], ls, p, hp, v, hv => by cases hp
  | T :: Ts, ls, p, hp, v, hv => by
    simp only [cutLeaves] at hp
    split at hp
    · rcases List.mem_cons.1 hp with e | e
      · rw [e] at hv; exact List.mem_of_mem_take hv
      · exact List.mem_of_mem_drop (cut_mem (ls := ls) Ts p e v hv)
    · cases hp
theorem outS_ok {Ts : List Nat} {ts : List Ty} (hf : tysL P Ts = some ts) {ls : List V} {ds : List Value} (hl : ds.length = ts.length) (h : All2 (VR w c) ls ds) : SR w c (outS P Ts ls) (retV P Ts ds) := by
  have many : SR w c (.tup (cutLeaves P Ts ls)) (.tuple (grp P Ts ds).toArray) := ⟨_, rfl, cut_ok Ts h⟩
  cases Ts with
  | nil => exact many
  | cons T Ts =>
    cases Ts with
    | cons _ _ => exact many
    | nil =>
      simp only [tysL] at hf
      cases e : tysOf P 6 T with
      | none => rw [e] at hf; cases hf
      | some us =>
        rw [e] at hf
        have hf : us = ts := by simpa using hf
        subst hf
        show SR w c (mkS (aggT P T) ls) ((grp P [T] ds).headD undef)
        simp only [grp, e, List.headD_cons]
        cases hag : aggT P T with
        | true => exact ⟨ds, by rw [cond_true, ← hl, List.take_length], h⟩
        | false =>
          rw [cond_false]
          cases ls with
          | nil => trivial
          | cons v ls => cases ls with
            | cons _ _ => trivial
            | nil => cases ds with
              | nil => exact h.elim
              | cons d ds => exact h.1
theorem outS_b {Ts : List Nat} {ls : List V} (h : ∀ v ∈ ls, vB M v) : sB M (outS P Ts ls) := by
  have many : sB M (.tup (cutLeaves P Ts ls)) := fun p hp v hv => h v (cut_mem (ls := ls) Ts p hp v hv)
  cases Ts with
  | nil => exact many
  | cons T Ts => cases Ts with
    | cons _ _ => exact many
    | nil => exact mkS_b h
theorem run_callFunc {fn : Nat} {F : Func} {cd : Code} {args : Array Value} (hn : Nice P H) (hf : P.funcs[fn]? = some F) (hb : F.body = some cd) : (callFunc fn args).run P w = .ok (.enter fn args) w := by
  have hname : (F.name == "runtime.NumGoroutine") = false := by
    have := List.all_eq_true.1 hn.1 F (by rw [Array.mem_toList_iff]; exact Array.mem_of_getElem? hf)
    simpa using this
  unfold callFunc
  have hname' : F.name ≠ "runtime.NumGoroutine" := by simpa using hname
  simp [hf, hb, hname']
/-! ### the colours of what is handed over -/
def strip : List Nat → List Nat → Option (List Nat)
  | [], q => some q
  | a :: p, b :: q => if a = b then strip p q else none
  | _ :: _, [] => none
theorem strip_some : ∀ {p q r : List Nat}, strip p q = some r ↔ q = p ++ r
  | [], q, r => by simp [strip]
  | a :: p, [], r => by simp [strip]
  | a :: p, b :: q, r => by
    simp only [strip]
    by_cases e : a = b
    · subst e
      rw [if_pos rfl, strip_some]; simp
    · rw [if_neg e]
      constructor
      · intro h; cases h
      · intro h; simp at h; exact absurd h.1.symm e
/-- Where a written argument's row lies. -/
def ioPath (f : Nat → Val) : V → List Nat
  | .own κ => [κ + 1]
  | .row κ _ i o => match f (rl κ) with
    | .root r => [κ + 1, i] ++ lp r.t o
    | _ => [κ + 1, i]
  | _ => [0, 0, 0]
def col0 (f : Nat → Val) (strict : Bool) : List (Nat × V) → List Nat → List Nat
  | [], q => if q = [] then [] else cond strict [0] []
  | (i, .bptr β _) :: r, q => if q = [0, β] then [0, i] else col0 f strict r q
  | (i, v) :: r, q => match strip (ioPath f v) q with
    | some s => (i + 1) :: s
    | none => col0 f strict r q
theorem keysV_path {v : V} {κ : Nat} (h : κ ∈ keysV v) (hv : (∃ κ, v = .own κ) ∨ ∃ κ g i o, v = .row κ g i o) : ∃ s, ioPath f v = (κ + 1) :: s := by
  rcases hv with ⟨κ', rfl⟩ | ⟨κ', g, i, o, rfl⟩
  · rw [show κ = κ' from List.mem_singleton.1 h]; exact ⟨[], rfl⟩
  · rw [show κ = κ' from List.mem_singleton.1 h]
    simp only [ioPath]
    split
    · exact ⟨_, rfl⟩
    · exact ⟨_, rfl⟩
/-- What may be handed over to be written. -/
def ioV : V → Prop
  | .own _ => True
  | .row _ _ _ _ => True
  | .bptr _ 0 => True
  | _ => False
theorem path_ne {v : V} : ∃ m s, ioPath f v = m :: s := by
  cases v <;> first | exact ⟨_, _, rfl⟩ | skip
  simp only [ioPath]
  split <;> exact ⟨_, _, rfl⟩
theorem col0_nil {strict : Bool} : ∀ {ios : List (Nat × V)}, col0 f strict ios [] = []
  | [] => rfl
  | (i, v) :: r => by
    have : ∀ v : V, strip (ioPath f v) [] = none := fun v => by
      obtain ⟨m, s, e⟩ := path_ne (f := f) (v := v)
      rw [e]; rfl
    cases v <;> first | (simp only [col0, this]; exact col0_nil) | (simp only [col0]; rw [if_neg (by simp)]; exact col0_nil)
theorem nodup_app {xs ys : List Nat} (h : nodupN (xs ++ ys) = true) : nodupN ys = true ∧ ∀ x ∈ xs, x ∉ ys := by
  induction xs with
  | nil => exact ⟨h, fun x hx => absurd hx List.not_mem_nil⟩
  | cons x xs ih =>
    have h := nodupN_cons (l := xs ++ ys) h
    obtain ⟨h1, h2⟩ := ih h.2
    refine ⟨h1, fun y hy => ?_⟩
    rcases List.mem_cons.1 hy with e | e
    · rw [e]; exact fun hm => h.1 (List.mem_append_right _ hm)
    · exact h2 y e
theorem col0_root {strict : Bool} : ∀ {ios : List (Nat × V)} {i : Nat} {v : V} {s : List Nat}, nodupN (ios.map fun p => keysV p.2).flatten = true → (∀ p ∈ ios, ioV p.2) → (i, v) ∈ ios → ((∃ κ, v = .own κ) ∨ ∃ κ g i o, v = .row κ g i o) → col0 f strict ios (ioPath f v ++ s) = (i + 1) :: s
  | (j, u) :: ios, i, v, s, hn, hv, hm, hk => by
    simp only [List.map_cons, List.flatten_cons] at hn
    obtain ⟨hn1, hn2⟩ := nodup_app hn
    have key' : ∃ κ, κ ∈ keysV v := by
      rcases hk with ⟨κ', rfl⟩ | ⟨κ', g, i, o, rfl⟩ <;> exact ⟨κ', List.mem_singleton_self _⟩
    obtain ⟨κ, hκ⟩ := key'
    obtain ⟨sv, hsv⟩ := keysV_path (f := f) hκ hk
    rcases List.mem_cons.1 hm with e | e
    · injection e with e1 e2
      subst e1 e2
      have hs : strip (ioPath f v) (ioPath f v ++ s) = some s := strip_some.2 rfl
      rcases hk with ⟨κ', rfl⟩ | ⟨κ', g, i', o, rfl⟩ <;> · simp only [col0, hs]
    · have ih := col0_root (strict := strict) hn1 (fun p hp => hv p (List.mem_cons_of_mem _ hp)) e hk (s := s)
      have hu := hv _ List.mem_cons_self
      have hnk : κ ∉ keysV u := fun h' => hn2 κ h' (List.mem_flatten.2 ⟨_, List.mem_map.2 ⟨_, e, rfl⟩, hκ⟩)
      have miss : ((∃ κ, u = .own κ) ∨ ∃ κ g i o, u = .row κ g i o) → strip (ioPath f u) (ioPath f v ++ s) = none := fun hku => by
        cases hst : strip (ioPath f u) (ioPath f v ++ s) with
        | none => rfl
        | some s' =>
          exfalso
          have := strip_some.1 hst
          have key2 : ∃ κ2, κ2 ∈ keysV u := by
            rcases hku with ⟨κ', rfl⟩ | ⟨κ', g, i, o, rfl⟩ <;> exact ⟨κ', List.mem_singleton_self _⟩
          obtain ⟨κ2, hκ2⟩ := key2
          obtain ⟨su, hsu⟩ := keysV_path (f := f) hκ2 hku
          rw [hsv, hsu] at this
          simp only [List.cons_append, List.cons.injEq] at this
          have : κ = κ2 := by omega
          exact hnk (by rw [this]; exact hκ2)
      cases u with
      | own κ' => simp only [col0, miss (.inl ⟨κ', rfl⟩)]; exact ih
      | row κ' g i' o => simp only [col0, miss (.inr ⟨κ', g, i', o, rfl⟩)]; exact ih
      | bptr β off =>
        simp only [col0]
        rw [if_neg (by rw [hsv]; simp)]; exact ih
      | _ => exact hu.elim
  | [], _, _, _, _, _, hm, _ => by cases hm
theorem col0_box {strict : Bool} : ∀ {ios : List (Nat × V)} {i β : Nat}, nodupN (ios.map fun p => boxV p.2).flatten = true → (∀ p ∈ ios, ioV p.2) → (i, .bptr β 0) ∈ ios → col0 f strict ios [0, β] = [0, i]
  | (j, u) :: ios, i, β, hn, hv, hm => by
    simp only [List.map_cons, List.flatten_cons] at hn
    obtain ⟨hn1, hn2⟩ := nodup_app hn
    rcases List.mem_cons.1 hm with e | e
    · injection e with e1 e2
      subst e1 e2
      simp [col0]
    · have ih := col0_box (strict := strict) hn1 (fun p hp => hv p (List.mem_cons_of_mem _ hp)) e
      have hu := hv _ List.mem_cons_self
      have miss : ((∃ κ, u = .own κ) ∨ ∃ κ g i o, u = .row κ g i o) → strip (ioPath f u) [0, β] = none := fun hku => by
        have key2 : ∃ κ2, κ2 ∈ keysV u := by
          rcases hku with ⟨κ', rfl⟩ | ⟨κ', g, i, o, rfl⟩ <;> exact ⟨κ', List.mem_singleton_self _⟩
        obtain ⟨κ2, hκ2⟩ := key2
        obtain ⟨su, hsu⟩ := keysV_path (f := f) hκ2 hku
        rw [hsu]
        simp [strip]
      cases u with
      | own κ' => simp only [col0, miss (.inl ⟨κ', rfl⟩)]; exact ih
      | row κ' g i' o => simp only [col0, miss (.inr ⟨κ', g, i', o, rfl⟩)]; exact ih
      | bptr β' off =>
        have hne : β ≠ β' := fun e' => hn2 β' (List.mem_singleton_self _) (List.mem_flatten.2 ⟨_, List.mem_map.2 ⟨_, e, rfl⟩, by rw [e']; exact List.mem_singleton_self _⟩)
        simp only [col0]
        rw [if_neg (by simp; exact hne)]; exact ih
      | _ => exact hu.elim
  | [], _, _, _, _, hm => by cases hm
/-- Colours that lead to nothing that is written. -/
theorem col0_free {strict : Bool} : ∀ {ios : List (Nat × V)} {q : List Nat}, (∀ p ∈ ios, ioV p.2) → (∀ κ s, q = (κ + 1) :: s → ∀ p ∈ ios, κ ∉ keysV p.2) → (∀ β, q = [0, β] → ∀ p ∈ ios, β ∉ boxV p.2) → col0 f strict ios q = if q = [] then [] else cond strict [0] []
  | [], q, _, _, _ => rfl
  | (i, u) :: ios, q, hv, h1, h2 => by
    have ih := col0_free (strict := strict) (q := q) (fun p hp => hv p (List.mem_cons_of_mem _ hp)) (fun κ s e p hp => h1 κ s e p (List.mem_cons_of_mem _ hp)) (fun β e p hp => h2 β e p (List.mem_cons_of_mem _ hp))
    have hu := hv _ List.mem_cons_self
    have miss : ((∃ κ, u = .own κ) ∨ ∃ κ g i o, u = .row κ g i o) → strip (ioPath f u) q = none := fun hku => by
      cases hst : strip (ioPath f u) q with
      | none => rfl
      | some s' =>
        exfalso
        have := strip_some.1 hst
        have key2 : ∃ κ2, κ2 ∈ keysV u := by
          rcases hku with ⟨κ', rfl⟩ | ⟨κ', g, i, o, rfl⟩ <;> exact ⟨κ', List.mem_singleton_self _⟩
        obtain ⟨κ2, hκ2⟩ := key2
        obtain ⟨su, hsu⟩ := keysV_path (f := f) hκ2 hku
        rw [hsu] at this
        exact h1 κ2 (su ++ s') this _ List.mem_cons_self hκ2
    cases u with
    | own κ' => simp only [col0, miss (.inl ⟨κ', rfl⟩)]; exact ih
    | row κ' g i' o => simp only [col0, miss (.inr ⟨κ', g, i', o, rfl⟩)]; exact ih
    | bptr β' off =>
      simp only [col0]
      rw [if_neg (fun e => h2 β' e _ List.mem_cons_self (List.mem_singleton_self _))]; exact ih
    | _ => exact hu.elim
/-- A leaf that is read: which blocks it leads to. -/
theorem leaf_rd (h : Rel M N w0 keep f c a w) {s : Ty} {v : V} {d : Value} {y : den s} (hv : VR w c v d) (hy : packV f s v = some y) : Rd w (fun k => c.χ k = [] ∨ ∃ κ ∈ keysV v, ∃ q, c.χ k = (κ + 1) :: q) s y [d] := by
  have hrd := packV_ok h hv hy
  cases s with
  | int _ => exact hrd
  | bool => exact hrd
  | str => exact hrd
  | pair _ _ => cases v <;> cases hy
  | unit => cases v <;> cases hy
  | ptr _ _ => exact hrd
  | sl e t =>
    have hy : readL f e t v = some y := hy
    cases v with
    | nil =>
      have hy : y = [] := by simpa [readL] using hy.symm
      subst hy
      exact ⟨none, 0, [], by rw [show d = _ from hv]; rfl, Nat.le_refl _, Nat.zero_le _, by simp, fun j u hu => by simp at hu, fun j x hx => by simp at hx⟩
    | dat e' t' xs =>
      simp only [readL] at hy
      obtain ⟨he, hy⟩ := cond_some' hy
      have he := Nat.eq_of_beq_eq_true he
      subst he
      exact Rd_step (fun k hk _ => ⟨.inl hk, rfl⟩) (castTo_Rd hy (show Rd w (fun k => c.χ k = []) (.sl _ t') xs [d] from hv))
    | own κ =>
      have hv : d = c.hdr κ := hv
      simp only [readL] at hy
      split at hy
      · rename_i rt er
        split at hy
        · rename_i hh
          obtain ⟨he, hy⟩ := cond_some' hy
          have he := Nat.eq_of_beq_eq_true he
          subst he
          rw [hv]
          exact Rd_step (fun k hk _ => ⟨hk.elim (fun ⟨q, hq⟩ => .inr ⟨κ, List.mem_singleton_self _, q, hq⟩) .inl, rfl⟩) (castTo_Rd hy (root_Rd h er hh))
        · cases hy
      · cases hy
    | cut κ lo hi =>
      simp only [readL] at hy
      split at hy
      · rename_i rt er
        split at hy
        · rename_i hh
          obtain ⟨he, hy⟩ := cond_some' hy
          have he := Nat.eq_of_beq_eq_true he
          subst he
          obtain ⟨A, n, cp, A', h1, h2, h3, h4, h5, h6⟩ := hv
          have hrr := root_Rd h er hh
          rw [h1] at hrr
          have hwid := (h.roots κ rt er).1.wid
          obtain ⟨B, cq, inner, hvv, hlen, hmax, _⟩ := id hrr
          simp only [List.cons.injEq, Value.slice.injEq, and_true] at hvv
          subst h4
          exact Rd_step (fun k (hk : (∃ q, c.χ k = (κ + 1) :: q) ∨ c.χ k = []) _ => ⟨hk.elim (fun ⟨q, hq⟩ => .inr ⟨κ, List.mem_singleton_self _, q, hq⟩) .inl, rfl⟩) (castTo_Rd hy (Rd_cut hrr h2 h3 (by omega) (by rw [← hwid]; exact h6)))
        · cases hy
      · cases hy
    | row κ g i oo =>
      simp only [readL] at hy
      split at hy
      · rename_i rt er
        split at hy
        · rename_i hh
          obtain ⟨hg, hy⟩ := cond_some' hy
          split at hy
          · rename_i e' t' xs el
            obtain ⟨he, hy⟩ := cond_some' hy
            have he := Nat.eq_of_beq_eq_true he
            subst he
            exact Rd_step (fun k ⟨q, hq⟩ _ => ⟨.inr ⟨κ, List.mem_singleton_self _, q, hq⟩, rfl⟩) (castTo_Rd hy (row_ok h er hh hg hv el))
          · cases hy
        · cases hy
      · cases hy
    | _ => cases hy
theorem datOnly_sh {v : V} (h : datOnly v = true) : keysV v = [] := by cases v <;> first | rfl | cases h
/-- A box's data: what its fields hold. -/
theorem box_rd (h : Rel M N w0 keep f c a w) : ∀ {t : Ty} {vs : List V} {cs : List Value} {y : den t}, All2 (VR w c) vs cs → vs.all datOnly = true → packs f t vs = some y → Rd w (fun k => c.χ k = []) t y cs := by
  intro t vs cs y hall hok hy
  refine packs_sh h (fun k hk => hk) (fun κ hm => ?_) hall (List.all_eq_true.2 fun v hv => ?_) hy
  · have := List.all_eq_true.1 hok _ hm
    cases this
  · have := List.all_eq_true.1 hok v hv
    cases v <;> first | rfl | cases this
theorem memN_mem {x : Nat} {l : List Nat} : memN x l = true ↔ x ∈ l := mem_any
/-- An argument's leaf, as the callee finds it. -/
theorem argLeaf_ok (h : Rel M N w0 keep f c a w) {strict : Bool} {ios : List (Nat × V)} {io : Nat → Bool} (hio : ∀ p ∈ ios, ioV p.2) (hn1 : nodupN (ios.map fun p => keysV p.2).flatten = true) (hn2 : nodupN (ios.map fun p => boxV p.2).flatten = true)
    {t : Ty} {i : Nat} {v : V} {d : Value} {x : den t} (hgt : goodTy t = true) (hv : VR w c v d) (hpl : io i = false → (keysV v).all (fun κ => !memN κ (ios.map fun p => keysV p.2).flatten) = true ∧ (strict = true → datOnly v = true)) (hin : io i = true → (i, v) ∈ ios) (hp : packL f (io i) t v = some x) : LeafA w (fun k => col0 f strict ios (c.χ k)) (io i) t i x d := by
  cases hb : io i with
  | false =>
    rw [hb] at hp
    obtain ⟨g1, g2⟩ := hpl hb
    show Rd w (fun k => col0 f strict ios (c.χ k) = []) t x [d]
    refine Rd_step (fun k hk _ => ⟨?_, rfl⟩) (leaf_rd h hv hp)
    rcases hk with e | ⟨κ, hκ, q, e⟩
    · rw [e]; exact col0_nil
    · cases strict with
      | true => rw [datOnly_sh (g2 rfl)] at hκ; cases hκ
      | false =>
        rw [e, col0_free hio]
        · simp
        · intro κ' s e' p hp' hk'
          injection e' with e' _
          have : κ' = κ := by omega
          have := List.all_eq_true.1 g1 κ hκ
          simp only [Bool.not_eq_true'] at this
          have hm : memN κ (ios.map fun p => keysV p.2).flatten = true := memN_mem.2 (List.mem_flatten.2 ⟨_, List.mem_map.2 ⟨p, hp', rfl⟩, by rw [show κ = κ' by omega]; exact hk'⟩)
          rw [hm] at this; cases this
        · intro β e'; injection e' with e' _; omega
  | true =>
    rw [hb] at hp
    have hin := hin hb
    show Own w (fun k => col0 f strict ios (c.χ k)) t [i + 1] x [d]
    cases t with
    | sl e t =>
      cases v with
      | own κ =>
        have hv : d = c.hdr κ := hv
        simp only [packL] at hp
        split at hp
        · rename_i rt er
          obtain ⟨hd, hp⟩ := cond_some' hp
          simp only [readL, er] at hp
          split at hp
          · rename_i hh
            obtain ⟨he, hp⟩ := cond_some' hp
            have he := Nat.eq_of_beq_eq_true he
            obtain ⟨hts, hxs⟩ := castTo_some hp
            have hown := root_Own h er hh (by rw [hd]; rfl)
            have hnop := (h.roots κ rt er).1.nop
            obtain ⟨re, rt', rxs, rd, rg, rh⟩ := rt
            simp only at he hts hxs hown hnop
            injection hts with _ hts
            subst hts
            subst he
            have hxs : x = rxs := hxs
            subst hxs
            rw [hv]
            exact Own_step (show noP (.sl re rt') = true from hnop) (fun k q hq _ => ⟨by
              show col0 f strict ios (c.χ k) = _
              rw [hq]; exact col0_root (v := .own κ) hn1 hio hin (.inl ⟨κ, rfl⟩), rfl⟩) hown
          · cases hp
        · cases hp
      | row κ g ii oo =>
        simp only [packL, readL] at hp
        split at hp
        · rename_i rt er
          split at hp
          · rename_i hh
            obtain ⟨hg, hp⟩ := cond_some' hp
            simp only [Bool.and_eq_true] at hg
            split at hp
            · rename_i e' t' xs el
              obtain ⟨he, hp⟩ := cond_some' hp
              have he := Nat.eq_of_beq_eq_true he
              obtain ⟨hts, hxs⟩ := castTo_some hp
              injection hts with _ hts
              subst hts
              subst he
              have hxs : x = xs := hxs
              subst hxs
              obtain ⟨b, n, cp, hhd, hin', hoo, hcl⟩ := (hv _ (gens_ok h er el)).2 (Nat.eq_of_beq_eq_true hg.1).symm
              obtain ⟨_, hRow⟩ := row_own h er hh hg.2 el hhd hin' hoo hcl
              have hnop : noP (.sl e' t') = true := by simp only [goodTy, Bool.and_eq_true] at hgt; exact hgt.2
              exact Own_step hnop (fun k q hq _ => ⟨by
                show col0 f strict ios (c.χ k) = _
                rw [hq]
                have := col0_root (f := f) (strict := strict) (v := .row κ g ii oo) (s := q) hn1 hio hin (.inr ⟨κ, g, ii, oo, rfl⟩)
                simp only [ioPath, er] at this
                exact this, rfl⟩) hRow
            · cases hp
          · cases hp
        · cases hp
      | _ => cases hp
    | ptr T t =>
      cases v with
      | bptr β off =>
        cases off with
        | succ _ => cases hp
        | zero =>
          have hv : d = .pointer (some ⟨c.blk β, 0, none⟩) := hv
          simp only [packL] at hp
          split at hp
          · rename_i us eb
            obtain ⟨hdo, hp⟩ := cond_some' hp
            obtain ⟨⟨cs', T', hh, hχ, hall, h1⟩, hβ⟩ := h.boxes β _ eb
            refine ⟨c.blk β, T', cs', i, rfl, by rw [hv], hh, ?_, ?_⟩
            · show col0 f strict ios (c.χ (c.blk β)) = _
              rw [hχ]; exact col0_box hn2 hio hin
            · exact Rd_step (fun k hk _ => ⟨by show col0 f strict ios (c.χ k) = []; rw [hk]; exact col0_nil, rfl⟩) (box_rd h hall hdo hp)
          · cases hp
      | _ => cases hp
    | _ => cases v <;> cases hp
/-- The arguments, as the callee finds them. -/
theorem args_ok (h : Rel M N w0 keep f c a w) {strict : Bool} {ios : List (Nat × V)} {io : Nat → Bool} (hio : ∀ p ∈ ios, ioV p.2) (hn1 : nodupN (ios.map fun p => keysV p.2).flatten = true) (hn2 : nodupN (ios.map fun p => boxV p.2).flatten = true) :
    ∀ {ts : List Ty} {i : Nat} {vs : List V} {cs : List Value} {x : den (tupTy ts)}, ts.all goodTy = true → All2 (VR w c) vs cs → plainOk io (ios.map fun p => keysV p.2).flatten strict i vs = true → (∀ j v, vs[j]? = some v → io (i + j) = true → (i + j, v) ∈ ios) → packA f io ts i vs = some x → ArgM w (fun k => col0 f strict ios (c.χ k)) io ts i x cs := by
  have plain : ∀ {i : Nat} {v : V} {vs : List V}, plainOk io (ios.map fun p => keysV p.2).flatten strict i (v :: vs) = true → (io i = false → (keysV v).all (fun κ => !memN κ (ios.map fun p => keysV p.2).flatten) = true ∧ (strict = true → datOnly v = true)) ∧ plainOk io (ios.map fun p => keysV p.2).flatten strict (i + 1) vs = true := fun {i v vs} hp => by
    simp only [plainOk, Bool.and_eq_true] at hp
    refine ⟨fun hb => ?_, hp.2⟩
    have := hp.1
    rw [hb, cond_false, Bool.and_eq_true] at this
    exact ⟨this.1, fun hs => by have := this.2; rw [hs] at this; exact this⟩
  intro ts
  induction ts with
  | nil =>
    intro i vs cs x _ hall _ _ hp
    cases vs with
    | cons _ _ =>
      have hp : none = some x := hp
      cases hp
    | nil => cases cs with
      | nil => rfl
      | cons _ _ => exact hall.elim
  | cons t ts ih =>
    intro i vs cs x hg hall hpl hin hp
    rw [List.all_cons, Bool.and_eq_true] at hg
    cases vs with
    | nil =>
      have hp : none = some x := by cases ts <;> exact hp
      cases hp
    | cons v vs =>
      cases cs with
      | nil => exact hall.elim
      | cons d cs =>
        have hin0 : io i = true → (i, v) ∈ ios := fun hb => hin 0 v rfl hb
        cases ts with
        | nil =>
          cases vs with
          | cons _ _ =>
            have hp : none = some x := hp
            cases hp
          | nil =>
            have hp : packL f (io i) t v = some x := hp
            cases cs with
            | cons _ _ => exact hall.2.elim
            | nil => exact ⟨d, rfl, argLeaf_ok h hio hn1 hn2 hg.1 hall.1 (plain hpl).1 hin0 hp⟩
        | cons u ts =>
          have hp : (match packL f (io i) t v, packA f io (u :: ts) (i + 1) vs with
            | some x, some y => some (x, y)
            | _, _ => none) = some x := hp
          split at hp
          · rename_i x1 x2 e1 e2
            injection hp with hp
            subst hp
            refine ⟨d, cs, rfl, argLeaf_ok h hio hn1 hn2 hg.1 hall.1 (plain hpl).1 hin0 e1, ih hg.2 hall.2 (plain hpl).2 (fun j v' hj hb => ?_) e2⟩
            have e3 : i + (j + 1) = i + 1 + j := by omega
            have := hin (j + 1) v' (by simpa using hj) (by rw [e3]; exact hb)
            rw [e3] at this; exact this
          · cases hp
end
end Go.Proofs.Ytoioaijpdiglfaa.V
