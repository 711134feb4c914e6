/- What an operation's answer depends on: its operands, and what their names lead to. -/
import Derived.Test.YtoioaijpdiglfaaVRel
set_option linter.unusedVariables false
set_option linter.unusedSimpArgs false
namespace Go.Proofs.Ytoioaijpdiglfaa.V
open Go
/-- Two states that agree at the names of A. -/
def Same (A : Nat → Prop) (f g : Nat → Val) : Prop := ∀ n, A n → f (bl n) = g (bl n) ∧ f (rl n) = g (rl n)
section
variable {A : Nat → Prop} {f g : Nat → Val} {R : Type} {P : Program} {H : Hints}
theorem readL_same (hs : Same A f g) {e : Nat} {t : Ty} {v : V} (hv : vB A v) : readL f e t v = readL g e t v := by
  cases v with
  | own κ => simp only [readL, (hs κ hv).2]
  | cut κ _ _ => simp only [readL, (hs κ hv).2]
  | row κ _ _ _ => simp only [readL, (hs κ hv).2]
  | _ => rfl
theorem packV_same (hs : Same A f g) {t : Ty} {v : V} (hv : vB A v) : packV f t v = packV g t v := by
  cases t with
  | sl e t => exact readL_same hs hv
  | _ => cases v <;> rfl
theorem packs_same (hs : Same A f g) : ∀ {t : Ty} {vs : List V}, (∀ v ∈ vs, vB A v) → packs f t vs = packs g t vs := by
  intro t
  induction t with
  | pair a b iha ihb =>
    intro vs hv
    simp only [packs, iha (fun v h => hv v (List.mem_of_mem_take h)), ihb (fun v h => hv v (List.mem_of_mem_drop h))]
  | unit => intro vs hv; cases vs <;> rfl
  | ptr _ _ _ => intro vs hv; cases vs <;> rfl
  | int k => intro vs hv; cases vs with
    | nil => rfl
    | cons v vs => cases vs with
      | nil => exact packV_same hs (hv v List.mem_cons_self)
      | cons _ _ => rfl
  | bool => intro vs hv; cases vs with
    | nil => rfl
    | cons v vs => cases vs with
      | nil => exact packV_same hs (hv v List.mem_cons_self)
      | cons _ _ => rfl
  | str => intro vs hv; cases vs with
    | nil => rfl
    | cons v vs => cases vs with
      | nil => exact packV_same hs (hv v List.mem_cons_self)
      | cons _ _ => rfl
  | sl e t _ => intro vs hv; cases vs with
    | nil => rfl
    | cons v vs => cases vs with
      | nil => exact packV_same hs (hv v List.mem_cons_self)
      | cons _ _ => rfl
theorem lenV_same (hs : Same A f g) {v : V} (hv : vB A v) : lenV f v = lenV g v := by
  cases v with
  | own κ => simp only [lenV, (hs κ hv).2]
  | row κ _ _ _ => simp only [lenV, (hs κ hv).2]
  | _ => rfl
theorem setLeaf_same (hs : Same A f g) {v : V} (hv : vB A v) : ∀ {t : Ty} {x : den t} {o : Nat}, setLeaf f t x o v = setLeaf g t x o v := by
  intro t
  induction t with
  | pair a b iha ihb => intro x o; simp only [setLeaf, iha, ihb]
  | unit => intro x o; rfl
  | ptr _ _ _ => intro x o; rfl
  | sl e t _ => intro x o; exact packV_same hs hv
  | _ => intro x o; exact packV_same hs hv
theorem buildL_same (hs : Same A f g) {t : Ty} : ∀ {ps : List (Nat × List V)}, (∀ p ∈ ps, ∀ v ∈ p.2, vB A v) → buildL f t ps = buildL g t ps
  | [], _ => rfl
  | p :: ps, h => by simp only [buildL, packs_same hs (h p List.mem_cons_self), buildL_same hs (fun q hq => h q (List.mem_cons_of_mem _ hq))]
theorem loadC_same (hs : Same A f g) {T : Nat} {p : V} (hp : vB A p) (k : S → Option R) : loadC P f T p k = loadC P g T p k := by
  cases p with
  | bptr β off => simp only [loadC, (hs β hp).1]
  | aptr β i => simp only [loadC, (hs β hp).1]
  | eptr κ i off => simp only [loadC, (hs κ hp).2]
  | rptr κ g i o j => simp only [loadC, (hs κ hp).2]
  | _ => rfl
theorem moveOk_same (hs : Same A f g) {v : V} (hv : vB A v) : moveOk f v = moveOk g v := by
  cases v with
  | own κ => simp only [moveOk, (hs κ hv).2]
  | _ => rfl
theorem shOk_same (hs : Same A f g) {v : V} (hv : vB A v) : shOk f v = shOk g v := by
  cases v with
  | own κ => simp only [shOk, (hs κ hv).2]
  | _ => rfl
theorem all_same {p q : V → Bool} : ∀ {vs : List V}, (∀ v ∈ vs, p v = q v) → vs.all p = vs.all q
  | [], _ => rfl
  | v :: vs, h => by rw [List.all_cons, List.all_cons, h v List.mem_cons_self, all_same (fun u hu => h u (List.mem_cons_of_mem _ hu))]
theorem takeS_same (hs : Same A f g) {v : V} (hv : vB A v) : takeS f v = takeS g v := by
  cases v with
  | own κ => simp only [takeS, (hs κ hv).2]
  | cut κ lo hi => cases lo with
    | zero => simp only [takeS, (hs κ hv).2]
    | succ _ => rfl
  | _ => rfl
theorem takeX_same (hs : Same A f g) {v : V} (hv : vB A v) : takeX f v = takeX g v := by
  cases v with
  | own κ => simp only [takeX, (hs κ hv).2]
  | _ => rfl
theorem leaves_in {x : S} (h : sB A x) : ∀ v ∈ leavesS x, vB A v := by
  cases x with
  | one v => intro u hu; rw [List.mem_singleton.1 hu]; exact h
  | agg vs => exact h
  | arr _ _ => intro u hu; cases hu
  | tup _ => intro u hu; cases hu
theorem storeC_same (hs : Same A f g) {T : Nat} {p : V} {x : S} (hp : vB A p) (hx : sB A x) (k : Wr → Option R) : storeC P f T p x k = storeC P g T p x k := by
  cases p with
  | bptr β off => simp only [storeC, (hs β hp).1]
  | aptr β i => simp only [storeC, (hs β hp).1, packs_same hs (leaves_in hx)]
  | eptr κ i off =>
    simp only [storeC, (hs κ hp).2]
    cases x with
    | one v => simp only [setLeaf_same hs (show vB A v from hx), moveOk_same hs (show vB A v from hx)]
    | agg vs => simp only [packs_same hs (show ∀ v ∈ vs, vB A v from hx), all_same (fun v hv => moveOk_same hs ((show ∀ v ∈ vs, vB A v from hx) v hv))]
    | _ => rfl
  | rptr κ g' i o j =>
    have hd : ∀ {t : Ty} {x : den t} {o e : Nat} {s : Ty} {ys : List (den s)}, setLeaf f t x o (.dat e s ys) = setLeaf g t x o (.dat e s ys) := fun {t x o e s ys} => setLeaf_same hs (v := .dat e s ys) trivial
    simp only [storeC, (hs κ hp).2]
    congr 1
    cases g (rl κ) with
    | root r =>
      simp only
      cases r.hole with
      | some _ => rfl
      | none =>
        simp only
        congr 1
        cases leafV r.t (r.xs.getD i (dflt r.t)) o with
        | dat e t xs =>
          cases x with
          | one v => simp only [packV_same hs (show vB A v from hx), hd]
          | _ => rfl
        | _ => rfl
    | _ => rfl
  | _ => rfl
theorem indexC_same (hs : Same A f g) {T : Nat} {p : V} (hp : vB A p) (i : Int) (k : V → Option R) : indexC P f T p i k = indexC P g T p i k := by
  cases p with
  | bptr β off => simp only [indexC, (hs β hp).1]
  | own κ => simp only [indexC, (hs κ hp).2]
  | cut κ _ _ => simp only [indexC, (hs κ hp).2]
  | row κ _ _ _ => simp only [indexC, (hs κ hp).2]
  | _ => rfl
theorem sliceC_same (hs : Same A f g) {T : Nat} {p : V} (hp : vB A p) (lo hi : Option Int) (k : V → Option R) : sliceC P f T p lo hi k = sliceC P g T p lo hi k := by
  cases p with
  | own κ => simp only [sliceC, (hs κ hp).2]
  | cut κ _ _ => simp only [sliceC, (hs κ hp).2]
  | _ => rfl
theorem appendC_same (hs : Same A f g) {key e : Nat} {t : Ty} {b : Nat} {s x : V} {dst : Option Nat} (h1 : vB A s) (h2 : vB A x) (k : Wr → Option R) : appendC f key e t b s x dst k = appendC g key e t b s x dst k := by
  have hd : ∀ {t : Ty} {x : den t} {o : Nat}, setLeaf f t x o .nil = setLeaf g t x o .nil := fun {t x o} => setLeaf_same hs (v := .nil) trivial
  unfold appendC
  rw [readL_same hs h1, readL_same hs h2, takeS_same hs h1, takeX_same hs h2]
  cases s with
  | row κ _ _ _ => simp only [(hs κ h1).2, hd]
  | cut _ lo _ => cases lo <;> rfl
  | _ => rfl
theorem copyC_same (hs : Same A f g) {e : Nat} {s x : V} {dst : Option Nat} (h1 : vB A s) (h2 : vB A x) (k : Wr → Option R) : copyC f e s x dst k = copyC g e s x dst k := by
  cases s with
  | own κ => simp only [copyC, (hs κ h1).2, readL_same hs h2]
  | cut κ _ _ => simp only [copyC, (hs κ h1).2, readL_same hs h2]
  | _ => rfl
theorem builtinC_same (hs : Same A f g) {b : Builtin} {args : List S} (h : ∀ x ∈ args, sB A x) {ats : List Nat} {key : Nat} {dst : Option Nat} (k : Wr → Option R) : builtinC P f b args ats key dst k = builtinC P g b args ats key dst k := by
  unfold builtinC
  split
  · rename_i x T
    rw [lenV_same hs (show vB A x from h (.one x) List.mem_cons_self)]
  · rename_i s x T T'
    simp only [appendC_same hs (show vB A s from h (.one s) List.mem_cons_self) (show vB A x from h (.one x) (List.mem_cons_of_mem _ List.mem_cons_self))]
  · rename_i s x T T'
    simp only [copyC_same hs (show vB A s from h (.one s) List.mem_cons_self) (show vB A x from h (.one x) (List.mem_cons_of_mem _ List.mem_cons_self))]
  · rfl
  · rfl
  · rfl
theorem argLeaves_in : ∀ {Ts : List Nat} {ss : List S} {vs : List V}, (∀ x ∈ ss, sB A x) → argLeaves P Ts ss = some vs → ∀ v ∈ vs, vB A v
  | [], [], vs, _, h => by injection h with h; subst h; intro v hv; cases hv
  | T :: Ts, s :: ss, vs, hx, h => by
    simp only [argLeaves] at h
    split at h
    · rename_i ts r e1 e2
      have ih := argLeaves_in (fun x hx' => hx x (List.mem_cons_of_mem _ hx')) e2
      split at h
      · rename_i v
        cases hag : aggT P T with
        | true => rw [hag] at h; cases h
        | false =>
          rw [hag, cond_false] at h
          cases hl : Nat.beq ts.length 1 with
          | false => rw [hl] at h; cases h
          | true =>
            rw [hl, cond_true] at h
            injection h with h; subst h
            intro u hu
            rcases List.mem_cons.1 hu with e | e
            · rw [e]; exact hx (.one v) List.mem_cons_self
            · exact ih u e
      · rename_i us
        cases hag : aggT P T with
        | false => rw [hag] at h; cases h
        | true =>
          rw [hag, cond_true] at h
          cases hl : Nat.beq us.length ts.length with
          | false => rw [hl] at h; cases h
          | true =>
            rw [hl, cond_true] at h
            injection h with h; subst h
            intro u hu
            rcases List.mem_append.1 hu with e | e
            · exact hx (.agg us) List.mem_cons_self u e
            · exact ih u e
      · cases h
    · cases h
  | [], _ :: _, vs, _, h => by cases h
  | _ :: _, [], vs, _, h => by cases h
theorem packL_same (hs : Same A f g) {io : Bool} {t : Ty} {v : V} (hv : vB A v) (hbx : ∀ β, vB A (.bptr β 0) → ∀ us, f (bl β) = .box (.flds us) → us.all datOnly = true → ∀ t, packs f t us = packs g t us) : packL f io t v = packL g io t v := by
  cases io with
  | false => exact packV_same hs hv
  | true =>
    cases t with
    | sl e t =>
      cases v with
      | own κ => simp only [packL, (hs κ hv).2, readL_same hs hv]
      | row κ _ _ _ => simp only [packL, readL_same hs hv]
      | _ => rfl
    | ptr T t =>
      cases v with
      | bptr β off =>
        cases off with
        | succ _ => rfl
        | zero =>
          simp only [packL, ← (hs β hv).1]
          cases e : f (bl β) with
          | box b => cases b with
            | flds us =>
              simp only
              cases hd : us.all datOnly with
              | false => rfl
              | true => simp only [cond_true]; exact hbx β hv us e hd t
            | arr _ _ => rfl
          | _ => rfl
      | _ => rfl
    | _ => cases v <;> rfl
theorem datOnly_b {v : V} (h : datOnly v = true) (B : Nat → Prop) : vB B v := by cases v <;> first | trivial | cases h
theorem packL_same' (hs : Same A f g) {io : Bool} {t : Ty} {v : V} (hv : vB A v) : packL f io t v = packL g io t v :=
  packL_same hs hv (fun β _ us _ hd t => packs_same hs (fun v hv => datOnly_b (List.all_eq_true.1 hd v hv) A))
theorem packA_same (hs : Same A f g) {io : Nat → Bool} : ∀ {ts : List Ty} {i : Nat} {vs : List V}, (∀ v ∈ vs, vB A v) → packA f io ts i vs = packA g io ts i vs := by
  intro ts
  induction ts with
  | nil => intro i vs _; cases vs <;> rfl
  | cons t ts ih =>
    intro i vs hv
    cases vs with
    | nil => cases ts <;> rfl
    | cons v vs =>
      have h1 := packL_same' (io := io i) (t := t) hs (hv v List.mem_cons_self)
      cases ts with
      | nil => cases vs with
        | nil => exact h1
        | cons _ _ => rfl
      | cons u ts =>
        have h2 := ih (i := i + 1) (fun v hv' => hv v (List.mem_cons_of_mem _ hv'))
        show (match packL f (io i) t v, packA f io (u :: ts) (i + 1) vs with
          | some x, some y => some (x, y)
          | _, _ => none) = (match packL g (io i) t v, packA g io (u :: ts) (i + 1) vs with
          | some x, some y => some (x, y)
          | _, _ => none)
        rw [h1, h2]
def omB (A : Nat → Prop) : OM → Prop
  | .back v => vB A v
  | _ => True
theorem outLeaf_same (hs : Same A f g) {m : OM} {t : Ty} {x : den t} {key : Nat} (hm : omB A m) : outLeaf f m t x key = outLeaf g m t x key := by
  cases m with
  | back v =>
    cases t with
    | sl e t =>
      cases v with
      | own κ => simp only [outLeaf, genOf, (hs κ hm).2]
      | row κ _ _ _ => simp only [outLeaf, (hs κ hm).2, fun (t' : Ty) (x' : den t') (o : Nat) => setLeaf_same hs (t := t') (x := x') (o := o) (v := .dat e t x) trivial]
      | _ => rfl
    | _ => cases v <;> rfl
  | _ => cases t <;> rfl
theorem outLeaves_same (hs : Same A f g) : ∀ {ms : List OM} {ts : List Ty} {x : den (tupTy ts)} {key : Nat}, (∀ m ∈ ms, omB A m) → outLeaves f ms ts x key = outLeaves g ms ts x key
  | ms, [], x, key, _ => by cases ms <;> rfl
  | ms, [t], x, key, h => by
    have : omB A (ms.headD .new) := by cases ms with
      | nil => trivial
      | cons m _ => exact h m List.mem_cons_self
    have e := outLeaf_same (t := t) (x := x) (key := key) hs this
    show ([(outLeaf f (ms.headD .new) t x key).1], (outLeaf f (ms.headD .new) t x key).2) = ([(outLeaf g (ms.headD .new) t x key).1], (outLeaf g (ms.headD .new) t x key).2)
    rw [e]
  | ms, t :: u :: ts, x, key, h => by
    have h1 : omB A (ms.headD .new) := by cases ms with
      | nil => trivial
      | cons m _ => exact h m List.mem_cons_self
    have h2 : ∀ m ∈ ms.tail, omB A m := fun m hm => h m (List.mem_of_mem_tail hm)
    simp only [outLeaves, outLeaf_same hs h1, outLeaves_same hs h2]
theorem modes_in {fn : Nat} {vs : List V} (h : ∀ v ∈ vs, vB A v) : ∀ m ∈ modesOf H fn vs, omB A m := fun m hm => by
  unfold modesOf at hm
  rcases List.mem_append.1 hm with e | e
  · obtain ⟨i, _, rfl⟩ := List.mem_map.1 e
    cases memN i (H.dats fn) <;> trivial
  · obtain ⟨v, hv, rfl⟩ := List.mem_map.1 e
    obtain ⟨i, _, rfl⟩ := List.mem_map.1 hv
    show vB A (vs.getD i .undef)
    rw [List.getD_eq_getElem?_getD]
    cases e' : vs[i]? with
    | none => trivial
    | some v => exact h v (List.mem_of_getElem? e')
theorem callC_same (hs : Same A f g) {call : CallR H} {fn : Nat} {args : List S} (h : ∀ x ∈ args, sB A x) {key : Nat} {dst : Option Nat} (k : Wr → Option R) : callC P H call fn args f key dst k = callC P H call fn args g key dst k := by
  unfold callC
  split
  · rfl
  · split
    · rfl
    · rename_i vs e
      have hv := argLeaves_in h e
      rw [packA_same hs hv]
      simp only [outLeaves_same hs (modes_in hv)]
theorem same_drop (hs : Same A f g) (ks : List Nat) : Same A (upds f (dropKeys ks)) (upds g (dropKeys ks)) := by
  unfold dropKeys
  induction ks generalizing f g with
  | nil => exact hs
  | cons κ ks ih =>
    refine ih (fun n hn => ?_)
    have h := hs n hn
    refine ⟨?_, ?_⟩
    · show upd1 f _ _ _ = upd1 g _ _ _
      unfold upd1; rw [h.1]
    · show upd1 f _ _ _ = upd1 g _ _ _
      unfold upd1; rw [h.2]
theorem fzW_same (hs : Same A f g) {ks : List Nat} (h : ∀ κ ∈ ks, A κ) : fzW f ks = fzW g ks := List.map_congr_left fun κ hκ => by rw [(hs κ (h κ hκ)).2]
theorem same_upds (hs : Same A f g) (W : Wr) : Same A (upds f W) (upds g W) := by
  induction W generalizing f g with
  | nil => exact hs
  | cons p W ih =>
    refine ih (fun n hn => ?_)
    have h := hs n hn
    refine ⟨?_, ?_⟩
    · show upd1 f _ _ _ = upd1 g _ _ _
      unfold upd1; rw [h.1]
    · show upd1 f _ _ _ = upd1 g _ _ _
      unfold upd1; rw [h.2]
theorem fzV_same (hs : Same A f g) (ks : List Nat) {v : V} (h : vB A v) : fzV f ks v = fzV g ks v := by
  cases v <;> first | rfl | skip
  rename_i κ
  simp only [fzV, (hs κ h).2]
theorem fzS_same (hs : Same A f g) (ks : List Nat) {s : S} (h : sB A s) : fzS f ks s = fzS g ks s := by
  cases s with
  | one v => simp only [fzS, fzV_same hs ks h]
  | agg vs => simp only [fzS]; rw [List.map_congr_left fun v hv => fzV_same hs ks (h v hv)]
  | arr _ _ => rfl
  | tup _ => rfl
theorem fzV_in {ks : List Nat} {v : V} (h : vB A v) : vB A (fzV f ks v) := by
  cases v <;> first | exact h | skip
  rename_i κ
  simp only [fzV]
  split
  · cases memN κ ks with
    | false => exact h
    | true => trivial
  · trivial
  · exact h
theorem fzS_in {ks : List Nat} {s : S} (h : sB A s) : sB A (fzS f ks s) := by
  cases s with
  | one v => exact fzV_in h
  | agg vs =>
    intro v hv
    obtain ⟨u, hu, rfl⟩ := List.mem_map.1 hv
    exact fzV_in (h u hu)
  | arr _ _ => exact h
  | tup _ => exact h
theorem fzL_same (hs : Same A f g) {io : Nat → Bool} : ∀ {vs : List V} {i : Nat}, (∀ v ∈ vs, vB A v) → fzL f io i vs = fzL g io i vs
  | [], _, _ => rfl
  | v :: vs, i, h => by
    simp only [fzL]
    rw [fzL_same hs (fun v hv => h v (List.mem_cons_of_mem _ hv))]
    have : fzK f v = fzK g v := by
      have hv := h v List.mem_cons_self
      cases v <;> first | rfl | skip
      rename_i κ
      simp only [fzK, (hs κ hv).2]
    rw [this]
theorem fzKeys_same (hs : Same A f g) {fn : Nat} {args : List S} (h : ∀ x ∈ args, sB A x) : fzKeys H fn f args = fzKeys H fn g args := by
  unfold fzKeys
  rw [fzL_same hs]
  intro v hv
  obtain ⟨l, hl, hv⟩ := List.mem_flatten.1 hv
  obtain ⟨x, hx, rfl⟩ := List.mem_map.1 hl
  exact leaves_in (h x hx) v hv
theorem fzL_in {io : Nat → Bool} {κ : Nat} : ∀ {vs : List V} {i : Nat}, (∀ v ∈ vs, vB A v) → κ ∈ fzL f io i vs → A κ
  | [], i, _, h => by cases h
  | v :: vs, i, hv, h => by
    simp only [fzL, List.mem_append] at h
    rcases h with h | h
    · cases hio : io i with
      | true => rw [hio] at h; cases h
      | false =>
        rw [hio, cond_false] at h
        have hv := hv v List.mem_cons_self
        cases v <;> first | (cases h; done) | skip
        simp only [fzK] at h
        split at h
        · rename_i rt e
          cases hh : rt.hole.isNone with
          | false => rw [hh] at h; cases h
          | true =>
            rw [hh] at h
            rw [List.mem_singleton.1 h]; exact hv
        · cases h
    · exact fzL_in (fun v h' => hv v (List.mem_cons_of_mem _ h')) h
theorem fzKeys_in {fn : Nat} {args : List S} (hargs : ∀ x ∈ args, sB A x) {κ : Nat} (hκ : κ ∈ fzKeys H fn f args) : A κ := by
  unfold fzKeys at hκ
  cases hs : strictF H fn with
  | false => rw [hs] at hκ; cases hκ
  | true =>
    rw [hs, cond_true] at hκ
    refine fzL_in (fun v hv => ?_) hκ
    obtain ⟨l, hl, hv⟩ := List.mem_flatten.1 hv
    obtain ⟨x, hx, rfl⟩ := List.mem_map.1 hl
    exact leaves_in (hargs x hx) v hv
theorem callZ_same (hs : Same A f g) {call : CallR H} {fn : Nat} {args : List S} (h : ∀ x ∈ args, sB A x) {key : Nat} {dst : Option Nat} (k : Wr → Option R) : callZ P H call fn args f key dst k = callZ P H call fn args g key dst k := by
  unfold callZ
  simp only [fzKeys_same hs h]
  rw [List.map_congr_left fun x hx => fzS_same hs (fzKeys H fn g args) (h x hx)]
  rw [fzW_same hs (fun κ hκ => fzKeys_in h hκ)]
  exact callC_same (same_upds hs _) (fun x hx => by
    obtain ⟨y, hy, rfl⟩ := List.mem_map.1 hx
    exact fzS_in (h y hy)) _
/-- The answer is the same where the operands and what they lead to are. -/
theorem opC_same (call : CallR H) (o : Oper) (hs : Same A f g) (nx nx' key : Nat) (hops : ∀ x ∈ o.op.operands, evS ⟨f, nx⟩ x = evS ⟨g, nx'⟩ x) (hA : ∀ x ∈ o.op.operands, sB A (evS ⟨f, nx⟩ x)) (k : Wr → Option R) : opC P H call o ⟨f, nx⟩ key k = opC P H call o ⟨g, nx'⟩ key k := by
  have hV : ∀ x ∈ o.op.operands, evV ⟨f, nx⟩ x = evV ⟨g, nx'⟩ x := fun x hx => by unfold evV; rw [hops x hx]
  have hAV : ∀ x ∈ o.op.operands, vB A (evV ⟨f, nx⟩ x) := fun x hx => by
    have := hA x hx
    unfold evV
    cases e : evS ⟨f, nx⟩ x with
    | one v => rw [e] at this; exact this
    | _ => trivial
  have hparts : ∀ ps : Array (Nat × Operand), (∀ x ∈ ps.map (·.2), x ∈ o.op.operands) → (ps.toList.map fun p => (p.1, leavesS (evS ⟨f, nx⟩ p.2))) = (ps.toList.map fun p => (p.1, leavesS (evS ⟨g, nx'⟩ p.2))) ∧ (ps.toList.map fun p => leavesS (evS ⟨f, nx⟩ p.2)) = (ps.toList.map fun p => leavesS (evS ⟨g, nx'⟩ p.2)) ∧ ∀ p ∈ (ps.toList.map fun p => (p.1, leavesS (evS ⟨f, nx⟩ p.2))), ∀ v ∈ p.2, vB A v := fun ps hp => by
    have hm : ∀ p ∈ ps.toList, p.2 ∈ o.op.operands := fun p hp' => hp _ (Array.mem_map.2 ⟨p, by simpa using hp', rfl⟩)
    refine ⟨List.map_congr_left fun p hp' => by rw [hops _ (hm p hp')], List.map_congr_left fun p hp' => by rw [hops _ (hm p hp')], fun q hq v hv => ?_⟩
    obtain ⟨p, hp', rfl⟩ := List.mem_map.1 hq
    exact leaves_in (hA _ (hm p hp')) v hv
  obtain ⟨dst, op, ty, pos, aft, gd⟩ := o
  cases op <;> simp only [Op.operands] at hops hA hV hAV hparts <;> unfold opC <;> simp only
  case move x => rw [hops x (by simp)]
  case assign x => rw [hops x (by simp)]
  case pick x y z => rw [hV x (by simp), hops y (by simp), hops z (by simp)]
  case box T x => rw [hops x (by simp)]
  case build T ps => rw [(hparts ps (fun x hx => by simpa using hx)).1]
  case buildSlice T n ps =>
    obtain ⟨h1, h2, h3⟩ := hparts ps (fun x hx => by simpa using hx)
    have h4 : ∀ v ∈ (ps.toList.map fun p => leavesS (evS ⟨g, nx'⟩ p.2)).flatten, vB A v := fun v hv => by
      obtain ⟨l, hl, hv⟩ := List.mem_flatten.1 hv
      obtain ⟨p, hp, rfl⟩ := List.mem_map.1 hl
      have h5 : (ps.toList.map fun p => (p.1, leavesS (evS ⟨f, nx⟩ p.2))) = (ps.toList.map fun p => (p.1, leavesS (evS ⟨g, nx'⟩ p.2))) := h1
      exact h3 (p.1, leavesS (evS ⟨g, nx'⟩ p.2)) (by rw [h5]; exact List.mem_map.2 ⟨p, hp, rfl⟩) v hv
    simp only [h2, buildL_same hs h3]
    rw [h1]
    simp only [all_same (fun v hv => moveOk_same hs (h4 v hv)), all_same (fun v hv => shOk_same hs (h4 v hv))]
  case load T x => rw [loadC_same hs (hAV x (by simp)), hV x (by simp)]
  case store T x y =>
    cases dst with
    | none => simp only; rw [storeC_same hs (hAV x (by simp)) (hA y (by simp)), hV x (by simp), hops y (by simp)]
    | some d => rfl
  case binOp b T x y T' => rw [hV x (by simp), hV y (by simp)]
  case unOp b T x => rw [hV x (by simp)]
  case slice T x lo hi mx =>
    have hx : vB A (evV ⟨g, nx'⟩ x) := by rw [← hV x (by simp)]; exact hAV x (by simp)
    have hlo : lo.map (evV ⟨f, nx⟩) = lo.map (evV ⟨g, nx'⟩) := by
      cases lo with
      | none => rfl
      | some y => rw [Option.map_some, Option.map_some, hV y (by simp)]
    have hhi : hi.map (evV ⟨f, nx⟩) = hi.map (evV ⟨g, nx'⟩) := by
      cases hi with
      | none => rfl
      | some y => rw [Option.map_some, Option.map_some, hV y (by simp)]
    rw [hlo, hhi, hV x (by simp)]
    simp only [sliceC_same hs hx]
  case fieldAddr T x fd => rw [hV x (by simp)]
  case nilCheck x => rw [hV x (by simp)]
  case convert s d x =>
    have hx : vB A (evV ⟨g, nx'⟩ x) := by rw [← hV x (by simp)]; exact hAV x (by simp)
    rw [hV x (by simp)]
    unfold strC
    simp only [readL_same hs hx]
  case indexAddr T x i =>
    have hx : vB A (evV ⟨g, nx'⟩ x) := by rw [← hV x (by simp)]; exact hAV x (by simp)
    rw [hV i (by simp), hV x (by simp)]
    simp only [indexC_same hs hx]
  case index T x i => rw [hV i (by simp), hV x (by simp)]
  case makeSlice T n m => rw [hV n (by simp), hV m (by simp)]
  case extract x i => rw [hops x (by simp)]
  case call c =>
    have hm : ∀ x ∈ c.args.toList, x ∈ c.operands := fun x hx => by
      unfold Call.operands
      exact Array.mem_append.2 (.inr (by simpa using hx))
    have hargs : c.args.toList.map (evS ⟨f, nx⟩) = c.args.toList.map (evS ⟨g, nx'⟩) := List.map_congr_left fun x hx => hops x (hm x hx)
    have hin : ∀ s ∈ c.args.toList.map (evS ⟨g, nx'⟩), sB A s := by
      rw [← hargs]
      intro s hs'
      obtain ⟨x, hx, rfl⟩ := List.mem_map.1 hs'
      exact hA x (hm x hx)
    rw [hargs]
    simp only [builtinC_same hs hin, callZ_same hs hin]
end
end Go.Proofs.Ytoioaijpdiglfaa.V
