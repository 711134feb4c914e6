/- An operation tells its writes once: the rest is what goes on with them. -/
import Derived.Test.YtoioaijpdiglfaaVLocal
set_option linter.unusedVariables false
set_option linter.unusedSimpArgs false
namespace Go.Proofs.Ytoioaijpdiglfaa.V
open Go
section
variable {A : Nat → Prop} {f g : Nat → Val} {R : Type} {P : Program} {H : Hints}
theorem cond_bind {α β : Type} (b : Bool) (x y : Option α) (k : α → Option β) : (cond b x y).bind k = cond b (x.bind k) (y.bind k) := by cases b <;> rfl
theorem ite_bind {α β : Type} (p : Prop) [Decidable p] (x y : Option α) (k : α → Option β) : (if p then x else y).bind k = if p then x.bind k else y.bind k := by split <;> rfl
theorem loadC_bind (T : Nat) (p : V) (k : S → Option R) : loadC P f T p k = (loadC P f T p some).bind k := by
  unfold loadC
  rw [cond_bind]
  congr 1
  cases p with
  | bptr β off => simp only; cases f (bl β) with
    | box b => cases b with
      | flds vs => simp only [cond_bind]; rfl
      | arr _ _ => rfl
    | _ => rfl
  | aptr β i => simp only; cases f (bl β) with
    | box b => cases b with
      | flds vs => rfl
      | arr _ _ => simp only [cond_bind, ite_bind]; rfl
    | _ => rfl
  | dptr t x off => simp only [cond_bind]; rfl
  | eptr κ i off => simp only; cases f (rl κ) with
    | root r => simp only; cases r.hole with
      | none => simp only [cond_bind]; rfl
      | some _ => rfl
    | _ => rfl
  | rptr κ g i o j => simp only; cases f (rl κ) with
    | root r => simp only; cases r.hole with
      | none =>
        simp only [cond_bind]
        congr 1
        cases leafV r.t (r.xs.getD i (dflt r.t)) o with
        | dat e t xs => simp only [cond_bind, ite_bind]; rfl
        | _ => rfl
      | some _ => rfl
    | _ => rfl
  | _ => rfl
theorem storeC_bind (T : Nat) (p : V) (x : S) (k : Wr → Option R) : storeC P f T p x k = (storeC P f T p x some).bind k := by
  unfold storeC
  rw [cond_bind]
  congr 1
  cases p with
  | bptr β off => simp only; cases f (bl β) with
    | box b => cases b with
      | flds vs => simp only [cond_bind]; rfl
      | arr t xs =>
        cases x with
        | arr t' ys => simp only [cond_bind]; congr 1; cases castTo (.sl 0 t) (a := .sl 0 t') ys with
          | none => rfl
          | some zs => simp only [ite_bind]; rfl
        | _ => rfl
    | _ => rfl
  | aptr β i => simp only; cases f (bl β) with
    | box b => cases b with
      | flds vs => rfl
      | arr t xs => simp only [cond_bind]; congr 1; cases packs f t (leavesS x) with
        | none => rfl
        | some y => simp only [ite_bind]; rfl
    | _ => rfl
  | eptr κ i off => simp only; cases f (rl κ) with
    | root r => simp only; cases x with
      | one v => simp only [cond_bind]; congr 1; cases setLeaf f r.t (r.xs.getD i (dflt r.t)) off v with
        | none => rfl
        | some y => simp only [cond_bind, Option.bind_some, Option.bind_none]
      | agg vs => simp only [cond_bind]; congr 1; cases packs f r.t vs with
        | none => rfl
        | some y => simp only [cond_bind, Option.bind_some, Option.bind_none]
      | _ => rfl
    | _ => rfl
  | rptr κ g i o j => simp only; cases f (rl κ) with
    | root r => simp only; cases r.hole with
      | some _ => rfl
      | none =>
        simp only [cond_bind]
        congr 1
        cases leafV r.t (r.xs.getD i (dflt r.t)) o with
        | dat e t xs => cases x with
          | one v => simp only [cond_bind]; congr 1; cases packV f t v with
            | none => rfl
            | some y => simp only [ite_bind]; congr 1; cases setLeaf f r.t (r.xs.getD i (dflt r.t)) o (.dat e t (xs.set j y)) <;> rfl
          | _ => rfl
        | _ => rfl
    | _ => rfl
  | _ => rfl
theorem indexC_bind (T : Nat) (p : V) (i : Int) (k : V → Option R) : indexC P f T p i k = (indexC P f T p i some).bind k := by
  unfold indexC
  cases P.underlying T with
  | none => rfl
  | some d => cases d with
    | array n e => cases p with
      | bptr β off => simp only; cases f (bl β) with
        | box b => cases b with
          | flds vs => rfl
          | arr t xs => simp only [cond_bind, ite_bind]; rfl
        | _ => rfl
      | _ => rfl
    | slice e => cases p with
      | dat e' t xs => simp only [cond_bind, ite_bind]; rfl
      | own κ => simp only; cases f (rl κ) with
        | root r => simp only [cond_bind, ite_bind]; rfl
        | _ => rfl
      | cut κ lo hi => simp only; cases f (rl κ) with
        | root r => simp only [cond_bind, ite_bind]; rfl
        | _ => rfl
      | row κ g i' o => simp only; cases f (rl κ) with
        | root r => simp only; cases r.hole with
          | some _ => rfl
          | none =>
            simp only [cond_bind]
            congr 1
            cases leafV r.t (r.xs.getD i' (dflt r.t)) o with
            | dat e t xs => simp only [cond_bind, ite_bind]; rfl
            | _ => rfl
        | _ => rfl
      | _ => rfl
    | _ => rfl
theorem bound_bind {α β : Type} (n : Nat) (i : Int) (k : Nat → Option α) (k' : α → Option β) : (bound n i k).bind k' = bound n i fun j => (k j).bind k' := by
  unfold bound
  simp only [ite_bind]; rfl
theorem ends_bind {α β : Type} (n : Nat) (lo hi : Option Int) (k : Nat → Nat → Option α) (k' : α → Option β) : (ends n lo hi k).bind k' = ends n lo hi fun i j => (k i j).bind k' := by
  unfold ends
  cases lo <;> cases hi <;> simp only [bound_bind]
theorem sliceC_bind (T : Nat) (p : V) (lo hi : Option Int) (k : V → Option R) : sliceC P f T p lo hi k = (sliceC P f T p lo hi some).bind k := by
  unfold sliceC
  cases P.underlying T with
  | none => rfl
  | some d => cases d with
    | string => cases p with
      | str s => simp only [ends_bind]; rfl
      | _ => rfl
    | slice e => cases p with
      | dat e' t xs => simp only [cond_bind, ends_bind]; rfl
      | own κ => simp only; cases f (rl κ) with
        | root r => simp only [cond_bind, ends_bind]; rfl
        | _ => rfl
      | cut κ lo' hi' => simp only; cases f (rl κ) with
        | root r => simp only [cond_bind, ends_bind]; rfl
        | _ => rfl
      | _ => rfl
    | _ => rfl
theorem appendC_bind (key e : Nat) (t : Ty) (b : Nat) (s x : V) (dst : Option Nat) (k : Wr → Option R) : appendC f key e t b s x dst k = (appendC f key e t b s x dst some).bind k := by
  unfold appendC
  cases readL f e t s with
  | none => rfl
  | some xs => cases readL f e t x with
    | none => rfl
    | some ys =>
      simp only [ite_bind, cond_bind]
      congr 1
      congr 1
      · cases s with
        | cut κ lo hi => cases lo <;> rfl
        | row κ g i o => simp only; cases f (rl κ) with
          | root r => simp only; cases setLeaf f r.t (r.xs.getD i (dflt r.t)) o .nil <;> rfl
          | _ => rfl
        | _ => rfl
      · cases takeS f s with
        | none => rfl
        | some p => cases takeX f x with
          | none => rfl
          | some q => simp only [cond_bind]; rfl
theorem copyC_bind (e : Nat) (s x : V) (dst : Option Nat) (k : Wr → Option R) : copyC f e s x dst k = (copyC f e s x dst some).bind k := by
  unfold copyC
  cases s with
  | own κ => simp only; cases f (rl κ) with
    | root r => simp only [cond_bind]; congr 1; cases readL f e r.t x <;> rfl
    | _ => rfl
  | cut κ lo hi => simp only; cases f (rl κ) with
    | root r => simp only [cond_bind]; congr 1; cases readL f e r.t x <;> rfl
    | _ => rfl
  | _ => rfl
theorem minmaxC_bind (mx : Bool) (x y : V) (k : V → Option R) : minmaxC mx x y k = (minmaxC mx x y some).bind k := by
  unfold minmaxC
  cases x <;> try rfl
  cases y <;> try rfl
  simp only [cond_bind]
  congr 1
  cases mx <;> rfl
theorem binC_bind (b : BinOp) (x y : V) {α : Type} (w : V → α) (k : α → Option R) : binC b x y (fun v => k (w v)) = (binC b x y (fun v => some (w v))).bind k := by
  cases x <;> try rfl
  all_goals cases y <;> try rfl
  · cases b <;> simp only [binC, intOpC, cond_bind, ite_bind] <;> rfl
  · cases b <;> simp only [binC, ite_bind] <;> rfl
theorem builtinC_bind (b : Builtin) (args : List S) (ats : List Nat) (key : Nat) (dst : Option Nat) (k : Wr → Option R) : builtinC P f b args ats key dst k = (builtinC P f b args ats key dst some).bind k := by
  unfold builtinC
  split
  · rename_i x T
    cases P.underlying T with
    | none => rfl
    | some d => cases d with
      | string => cases x <;> rfl
      | slice e => simp only; cases lenV f x <;> rfl
      | _ => rfl
  · rename_i s x T T'
    cases elemOf? P T with
    | none => rfl
    | some e =>
      simp only
      cases tysOf P 6 e with
      | none => rfl
      | some ts => simp only [cond_bind]; congr 1; exact appendC_bind ..
  · rename_i s x T T'
    cases elemOf? P T with
    | none => rfl
    | some e =>
      simp only [cond_bind]
      congr 1
      cases tysOf P 6 e with
      | none => rfl
      | some ts => simp only [cond_bind]; congr 1; exact copyC_bind ..
  · rename_i x y; rw [minmaxC_bind true x y (fun v => k (putV dst v)), minmaxC_bind true x y (fun v => some (putV dst v))]; cases minmaxC true x y some <;> rfl
  · rename_i x y; rw [minmaxC_bind false x y (fun v => k (putV dst v)), minmaxC_bind false x y (fun v => some (putV dst v))]; cases minmaxC false x y some <;> rfl
  · rfl
theorem callC_bind (call : CallR H) (fn : Nat) (args : List S) (key : Nat) (dst : Option Nat) (k : Wr → Option R) : callC P H call fn args f key dst k = (callC P H call fn args f key dst some).bind k := by
  unfold callC
  cases P.funcs[fn]? with
  | none => rfl
  | some F =>
    simp only
    cases argLeaves P F.params.toList args with
    | none => rfl
    | some vs =>
      simp only
      cases packA f (fun i => memN i (H.out fn)) (H.par fn) 0 vs with
      | none => rfl
      | some x =>
        simp only [cond_bind]
        congr 1
        cases call fn x <;> rfl
theorem callZ_bind (call : CallR H) (fn : Nat) (args : List S) (key : Nat) (dst : Option Nat) (k : Wr → Option R) : callZ P H call fn args f key dst k = (callZ P H call fn args f key dst some).bind k := by
  unfold callZ
  simp only
  rw [callC_bind call fn _ key dst (fun u => k (fzW f (fzKeys H fn f args) ++ u)), callC_bind call fn _ key dst (fun u => some (fzW f (fzKeys H fn f args) ++ u))]
  cases callC P H call fn (args.map (fzS f (fzKeys H fn f args))) (upds f (fzW f (fzKeys H fn f args))) key dst some <;> rfl
theorem idxC_bind (args : List S) (dst : Option Nat) (k : Wr → Option R) : (idxC args fun v => k (putV dst v)) = (idxC args fun v => some (putV dst v)).bind k := by
  unfold idxC
  split <;> rfl
theorem strC_bind (f : Nat → Val) (s : Nat) (x : V) (dst : Option Nat) (k : Wr → Option R) : (strC P f s x fun v => k (putV dst v)) = (strC P f s x fun v => some (putV dst v)).bind k := by
  unfold strC
  split
  · rfl
  · split
    · split <;> rfl
    · rfl
theorem convC_bind (s d : Nat) (x : V) (dst : Option Nat) (k : Wr → Option R) : (convC P s d x fun v => k (putV dst v)) = (convC P s d x fun v => some (putV dst v)).bind k := by
  unfold convC
  split
  · rfl
  · split
    · split <;> rfl
    · rfl
theorem nilC_bind (x : V) (dst : Option Nat) (k : Wr → Option R) : (nilC x fun v => k (putV dst v)) = (nilC x fun v => some (putV dst v)).bind k := by
  unfold nilC
  split <;> rfl
theorem opC_bind (call : CallR H) (o : Oper) (st : St) (key : Nat) (k : Wr → Option R) : opC P H call o st key k = (opC P H call o st key some).bind k := by
  obtain ⟨dst, op, ty, pos, aft, gd⟩ := o
  cases op <;> unfold opC <;> simp only
  case pick x y z => cases evV st x <;> try rfl
                     simp only [ite_bind]; rfl
  case alloc T =>
    cases P.underlying T with
    | none => simp only; cases tysOf P 6 T with
      | none => rfl
      | some ts => simp only [cond_bind]; rfl
    | some d => cases d with
      | array n e => simp only; cases tysOf P 6 e with
        | none => rfl
        | some ts => cases ts with
          | nil => rfl
          | cons t ts => cases ts with
            | nil => simp only [cond_bind]; rfl
            | cons _ _ => rfl
      | _ => simp only; cases tysOf P 6 T with
        | none => rfl
        | some ts => simp only [cond_bind]; rfl
  case box T x => simp only [cond_bind]; rfl
  case build T ps =>
    cases P.underlying T with
    | none => rfl
    | some d => cases d with
      | array n e => simp only; cases tysOf P 6 e with
        | none => rfl
        | some ts => cases ts with
          | nil => rfl
          | cons t ts => cases ts with
            | nil => simp only [cond_bind]; rfl
            | cons _ _ => rfl
      | struct fs => simp only; cases tysOf P 6 T with
        | none => rfl
        | some ts => cases placesOf P fs.toList with
          | none => rfl
          | some pl =>
            simp only [cond_bind]
            congr 1
            cases fillC pl (ts.map zeroV) (ps.toList.map fun p => (p.1, leavesS (evS st p.2))) <;> rfl
      | _ => rfl
  case buildSlice T n ps =>
    cases elemOf? P T with
    | none => rfl
    | some e => simp only; cases tysOf P 6 e with
      | none => rfl
      | some ts =>
        simp only [cond_bind]
        congr 1
        cases buildL st.f (tupTy ts) (ps.toList.map fun p => (p.1, leavesS (evS st p.2))) with
        | none => rfl
        | some xs => simp only [cond_bind]; rfl
  case load T x => rw [loadC_bind T _ (fun v => k (putS dst v)), loadC_bind T _ (fun v => some (putS dst v))]; cases loadC P st.f T (evV st x) some <;> rfl
  case store T x y => cases dst with
    | none => exact storeC_bind ..
    | some _ => rfl
  case binOp b T x y T' =>
    cases isBool P T with
    | true =>
      simp only
      cases evV st x <;> try rfl
      cases evV st y <;> try rfl
      cases b <;> rfl
    | false => exact binC_bind b _ _ (fun v => putV dst v) k
  case unOp b T x => cases b <;> try rfl
                     all_goals cases evV st x <;> rfl
  case slice T x lo hi mx =>
    have key' : ∀ l h, (sliceC P st.f T (evV st x) l h fun v => k (putV dst v)) = (sliceC P st.f T (evV st x) l h fun v => some (putV dst v)).bind k := fun l h => by
      rw [sliceC_bind T _ l h (fun v => k (putV dst v)), sliceC_bind T _ l h (fun v => some (putV dst v))]; cases sliceC P st.f T (evV st x) l h some <;> rfl
    cases mx with
    | some _ => rfl
    | none =>
      simp only
      cases lo.map (evV st) with
      | none => cases hi.map (evV st) with
        | none => exact key' _ _
        | some h => cases h <;> first | rfl | exact key' _ _
      | some l => cases l <;> try rfl
                  cases hi.map (evV st) with
                  | none => exact key' _ _
                  | some h => cases h <;> first | rfl | exact key' _ _
  case fieldAddr T x fd =>
    cases fieldOff P T fd with
    | none => rfl
    | some d => simp only; cases evV st x <;> rfl
  case nilCheck x => exact nilC_bind ..
  case convert s d x =>
    cases isStr P d with
    | true => exact strC_bind ..
    | false => exact convC_bind ..
  case indexAddr T x i =>
    cases evV st i <;> try rfl
    rename_i kd n
    simp only; rw [indexC_bind T _ n (fun v => k (putV dst v)), indexC_bind T _ n (fun v => some (putV dst v))]; cases indexC P st.f T (evV st x) n some <;> rfl
  case index T x i =>
    simp only [cond_bind]
    congr 1
    cases evV st i <;> try rfl
    simp only
    cases evV st x <;> try rfl
    simp only [ite_bind]; rfl
  case makeSlice T n m =>
    cases elemOf? P T with
    | none => rfl
    | some e =>
      cases evV st n <;> try rfl
      cases evV st m <;> try rfl
      simp only
      cases tysOf P 6 e with
      | none => rfl
      | some ts => simp only [cond_bind, ite_bind]; rfl
  case extract x i =>
    cases evS st x with
    | tup cs => simp only; cases cs[i]? <;> rfl
    | _ => rfl
  case call c =>
    cases c.callee with
    | builtin b => exact builtinC_bind ..
    | value x => cases x with
      | func fn =>
        simp only
        cases isIdx H fn with
        | true => exact idxC_bind ..
        | false => exact callZ_bind ..
      | _ => rfl
    | _ => rfl
  all_goals rfl
end
end Go.Proofs.Ytoioaijpdiglfaa.V
