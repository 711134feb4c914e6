/- The interpreter's code, calls and functions. -/
import Derived.Test.YtoioaijpdiglfaaVLang
import Derived.Laws.Externs
import Derived.Laws.BytesArg
import Derived.Lib.ItoaNum
import Derived.Lib.Join
import Derived.Lib.Repeat
set_option linter.unusedVariables false
namespace Go.Proofs.Ytoioaijpdiglfaa.V
open Go

/-- Functions of the library that are met by their contracts. -/
inductive LibF where
  | itoa
  | join
  | rep
/-- What is told of a program: what lives at a loop's head; the leaves of each function's parameters and results (held against the program's own types where it is run). -/
structure Hints where
  live : Nat → List (Nat × List Nat)
  par : Nat → List Ty
  res : Nat → List Ty
  out : Nat → List Nat
  dats : Nat → List Nat
  idx : Option Nat := none
  lib : Nat → Option LibF := fun _ => none
  tab : Option (String × IntKind × List Int) := none
def memN (x : Nat) (l : List Nat) : Bool := l.any fun y => Nat.beq y x
/-- How many of the results' leaves are results: the others are what is left of the arguments that are written. -/
@[reducible] def nres (H : Hints) (f : Nat) : Nat := (H.res f).length - (H.out f).length
@[reducible] def parTy (H : Hints) (f : Nat) : Ty := tupTy (H.par f)
@[reducible] def resTy (H : Hints) (f : Nat) : Ty := tupTy (H.res f)
def sameTys : List Ty → List Ty → Bool
  | [], [] => true
  | a :: as, b :: bs => Ty.same a b && sameTys as bs
  | _, _ => false
def fits (P : Program) (Ts : List Nat) (ts : List Ty) : Bool := match tysL P Ts with
  | some us => sameTys us ts
  | none => false
abbrev CallR (H : Hints) := (f : Nat) → den (parTy H f) → Option (den (resTy H f))

section
variable {R : Type} (P : Program) (H : Hints)
/-- A box's fields, out of its data. -/
def boxLeaves (t : Ty) (x : den t) : List V := (List.range (width t)).map fun o => leafV t x o
/-- How a result's leaf comes: as a row of the caller's own, as data that only is read, or as what is left of an argument. -/
inductive OM where
  | new
  | dat
  | back (v : V)
def genOf (f : Nat → Val) (κ : Nat) : Nat := match f (rl κ) with
  | .root r => r.gen
  | _ => 0
def outLeaf (f : Nat → Val) : OM → (t : Ty) → den t → Nat → V × Wr
  | .new, .sl e t, xs, key => (.own key, [(rl key, .root ⟨e, t, xs, true, 0, none⟩)])
  | .dat, .sl e t, xs, _ => (.dat e t xs, [])
  | .back (.own κ), .sl e t, xs, _ => (.undef, [(rl κ, .root ⟨e, t, xs, true, genOf f κ + 1, none⟩)])
  | .back (.row κ g i o), .sl e t, xs, _ => match f (rl κ) with
    | .root r => match setLeaf f r.t (r.xs.getD i (dflt r.t)) o (.dat e t xs) with
      | some z => (.undef, [(rl κ, .root { r with xs := r.xs.set i z, gen := r.gen + 1 })])
      | none => (.undef, [])
    | _ => (.undef, [])
  | .back (.bptr β _), .ptr _ t, x, _ => (.undef, [(bl β, .box (.flds (boxLeaves t x)))])
  | .back _, _, _, _ => (.undef, [])
  | _, .ptr _ t, x, key => (.bptr key 0, [(bl key, .box (.flds (boxLeaves t x)))])
  | _, t, x, _ => (leafV t x 0, [])
/-- The leaves of data of leaf types ts, x told as their tuple; a slice becomes a root: key, key + 1, .. -/
def outLeaves (f : Nat → Val) : List OM → (ts : List Ty) → den (tupTy ts) → (key : Nat) → List V × Wr
  | _, [], _, _ => ([], [])
  | ms, [t], x, key => ([(outLeaf f (ms.headD .new) t x key).1], (outLeaf f (ms.headD .new) t x key).2)
  | ms, t :: u :: ts, x, key => ((outLeaf f (ms.headD .new) t x.1 key).1 :: (outLeaves f ms.tail (u :: ts) x.2 (key + 1)).1, (outLeaf f (ms.headD .new) t x.1 key).2 ++ (outLeaves f ms.tail (u :: ts) x.2 (key + 1)).2)
/-- Leaves, cut by the result types. -/
def cutLeaves : List Nat → List V → List (Bool × List V)
  | [], _ => []
  | T :: Ts, vs => match tysOf P 6 T with
    | some ts => (aggT P T, vs.take ts.length) :: cutLeaves Ts (vs.drop ts.length)
    | none => []
def outS (Ts : List Nat) (vs : List V) : S := match Ts with
  | [T] => mkS (aggT P T) vs
  | Ts => .tup (cutLeaves P Ts vs)
/-- A leaf's type; a slice's elements have a width. -/
def goodTy : Ty → Bool
  | .pair _ _ => false
  | .unit => false
  | .sl _ t => Nat.blt 0 (width t) && noP t
  | .ptr _ t => Nat.blt 0 (width t) && noP t
  | _ => true
def isPtr : Ty → Bool
  | .ptr _ _ => true
  | _ => false
def ioTy : Ty → Bool
  | .ptr _ _ => true
  | .sl _ _ => true
  | _ => false
/-- Data that holds no root. -/
def datOnly : V → Bool
  | .int _ _ => true
  | .bool _ => true
  | .str _ => true
  | .nil => true
  | .dat _ _ _ => true
  | _ => false
/-- A leaf of an argument, as data; io: it is written. -/
def packL (f : Nat → Val) (io : Bool) (t : Ty) (v : V) : Option (den t) := match io with
  | false => packV f t v
  | true => match t, v with
    | .sl e t, .own κ => match f (rl κ) with
      | .root r => cond r.deep (readL f e t (.own κ)) none
      | _ => none
    | .sl e t, .row κ g i o => readL f e t (.row κ g i o)
    | .ptr _ t, .bptr β 0 => match f (bl β) with
      | .box (.flds us) => cond (us.all datOnly) (packs f t us) none
      | _ => none
    | _, _ => none
def packA (f : Nat → Val) (io : Nat → Bool) : (ts : List Ty) → Nat → List V → Option (den (tupTy ts))
  | [], _, vs => match vs with
    | [] => some ()
    | _ => none
  | [t], i, vs => match vs with
    | [v] => packL f (io i) t v
    | _ => none
  | t :: u :: ts, i, vs => match vs with
    | [] => none
    | v :: r => match packL f (io i) t v, packA f io (u :: ts) (i + 1) r with
      | some x, some y => some (x, y)
      | _, _ => none
def keysV : V → List Nat
  | .own κ => [κ]
  | .cut κ _ _ => [κ]
  | .row κ _ _ _ => [κ]
  | _ => []
def boxV : V → List Nat
  | .bptr β _ => [β]
  | _ => []
def tysAt (ts : List Ty) (is : List Nat) : List Ty := is.map fun i => ts.getD i .unit
/-- The leaves that are not written lead to none of the roots that are; if the callee hands on what it reads, they are data. -/
def plainOk (io : Nat → Bool) (ks : List Nat) (strict : Bool) : Nat → List V → Bool
  | _, [] => true
  | i, v :: vs => cond (io i) true ((keysV v).all (fun κ => !memN κ ks) && cond strict (datOnly v) true) && plainOk io ks strict (i + 1) vs
def ioVs (H : Hints) (fn : Nat) (vs : List V) : List V := (H.out fn).map fun i => vs.getD i .undef
def strictF (H : Hints) (fn : Nat) : Bool := (H.par fn).any isPtr || ((H.res fn).any isPtr || !(H.dats fn).isEmpty)
def ascN : List Nat → Nat → Nat → Bool
  | [], _, _ => true
  | i :: is, lo, n => Nat.ble lo i && Nat.blt i n && ascN is (i + 1) n
/-- The types of what is written, where they should be. -/
def outOk (H : Hints) (fn : Nat) : Bool := ascN (H.out fn) 0 (min 64 (H.par fn).length) && (Nat.ble (H.out fn).length (H.res fn).length && (sameTys ((H.res fn).drop (nres H fn)) (tysAt (H.par fn) (H.out fn)) && (tysAt (H.par fn) (H.out fn)).all ioTy))
def callOk (H : Hints) (fn : Nat) (vs : List V) : Bool :=
  outOk H fn && (nodupN ((ioVs H fn vs).map keysV).flatten && (nodupN ((ioVs H fn vs).map boxV).flatten &&
  plainOk (fun i => memN i (H.out fn)) ((ioVs H fn vs).map keysV).flatten (strictF H fn) 0 vs))
def modesOf (H : Hints) (fn : Nat) (vs : List V) : List OM := ((List.range (nres H fn)).map fun i => cond (memN i (H.dats fn)) .dat .new) ++ (ioVs H fn vs).map OM.back
/-- The leaves of arguments, held against the parameters' types. -/
def argLeaves : List Nat → List S → Option (List V)
  | [], [] => some []
  | T :: Ts, s :: ss => match tysOf P 6 T, argLeaves Ts ss with
    | some ts, some r => match s with
      | .one v => cond (aggT P T) none (cond (Nat.beq ts.length 1) (some (v :: r)) none)
      | .agg vs => cond (aggT P T) (cond (Nat.beq vs.length ts.length) (some (vs ++ r)) none) none
      | _ => none
    | _, _ => none
  | _, _ => none
def callC (call : CallR H) (fn : Nat) (args : List S) (f : Nat → Val) (key : Nat) (dst : Option Nat) (k : Wr → Option R) : Option R :=
  match P.funcs[fn]? with
  | none => none
  | some F => match argLeaves P F.params.toList args with
    | none => none
    | some vs => match packA f (fun i => memN i (H.out fn)) (H.par fn) 0 vs with
      | none => none
      | some x => cond (Nat.ble (H.res fn).length 60 && ((H.res fn).all goodTy && ((H.par fn).all goodTy && (fits P F.resultTypes.toList ((H.res fn).take (nres H fn)) && callOk H fn vs)))) ((call fn x).bind fun r =>
          match outLeaves f (modesOf H fn vs) (H.res fn) r key with
          | (ls, w) => k (w ++ putS dst (outS P F.resultTypes.toList (ls.take (nres H fn))))) none
/-- Are these the leaves of its zero? -/
def zerosT (T : Nat) (ts : List Ty) : Bool := match P.info? T with
  | some i => match i.zero with
    | some z => zerosAre ts z.cells.toList
    | none => false
  | none => false
def placesOf : List Field → Option (List (Nat × Nat))
  | [] => some []
  | f :: fs => match P.info? f.type, placesOf fs with
    | some i, some r => some ((f.offset, i.size) :: r)
    | _, _ => none
def isBool (T : Nat) : Bool := match P.underlying T with
  | some .bool => true
  | _ => false
def fillC (pl : List (Nat × Nat)) : List V → List (Nat × List V) → Option (List V)
  | vs, [] => some vs
  | vs, p :: r => match pl[p.1]? with
    | some (off, sz) => cond (Nat.beq p.2.length sz && (Nat.ble (off + sz) vs.length && (p.2.all okLeaf && !p.2.isEmpty))) (fillC pl (vs.take off ++ p.2 ++ vs.drop (off + p.2.length)) r) none
    | none => none
/-- Rows of the caller's own that a callee may keep, or hand on: they are frozen. -/
def fzV (f : Nat → Val) (ks : List Nat) : V → V
  | .own κ => match f (rl κ) with
    | .root r => cond (memN κ ks) (.dat r.e r.t r.xs) (.own κ)
    | .s (.one (.dat e t xs)) => .dat e t xs
    | _ => .own κ
  | v => v
/-- What is left in a frozen root's place: its data. -/
def fzX : Val → Val
  | .root r => .s (.one (.dat r.e r.t r.xs))
  | _ => .none
def fzW (f : Nat → Val) (ks : List Nat) : Wr := ks.map fun κ => (rl κ, fzX (f (rl κ)))
def fzS (f : Nat → Val) (ks : List Nat) : S → S
  | .one v => .one (fzV f ks v)
  | .agg vs => .agg (vs.map (fzV f ks))
  | x => x
def fzK (f : Nat → Val) : V → List Nat
  | .own κ => match f (rl κ) with
    | .root r => cond r.hole.isNone [κ] []
    | _ => []
  | _ => []
def fzL (f : Nat → Val) (io : Nat → Bool) : Nat → List V → List Nat
  | _, [] => []
  | i, v :: vs => cond (io i) [] (fzK f v) ++ fzL f io (i + 1) vs
def fzKeys (H : Hints) (fn : Nat) (f : Nat → Val) (args : List S) : List Nat := cond (strictF H fn) (fzL f (fun i => memN i (H.out fn)) 0 (args.map leavesS).flatten) []
def callZ (call : CallR H) (fn : Nat) (args : List S) (f : Nat → Val) (key : Nat) (dst : Option Nat) (k : Wr → Option R) : Option R :=
  match fzKeys H fn f args with
  | ks => callC P H call fn (args.map (fzS f ks)) (upds f (fzW f ks)) key dst fun u => k (fzW f ks ++ u)
def isIdx (H : Hints) (fn : Nat) : Bool := match H.idx with
  | some j => Nat.beq j fn
  | none => false
/-- A byte's first place in a string. -/
def idxC (args : List S) (k : V → Option R) : Option R := match args with
  | [.one (.str s), .one (.int .u8 n)] => k (.int .i64 (firstIdx s n.toNat.toUInt8))
  | _ => none
def convC (src dst : Nat) (x : V) (k : V → Option R) : Option R := match P.underlying src with
  | none => none
  | some _ => match P.underlying dst with
    | some (.int kd) => match x with
      | .int _ n => k (.int kd (kd.wrap n))
      | _ => none
    | _ => none
/-- A row of bytes, as a string. -/
def strC (f : Nat → Val) (src : Nat) (x : V) (k : V → Option R) : Option R := match elemOf? P src with
  | none => none
  | some e => match P.underlying e with
    | some (.int .u8) => match readL f e (.int .u8) x with
      | some xs => k (.str (strOfNums xs))
      | none => none
    | _ => none
def nilC (x : V) (k : V → Option R) : Option R := match x with
  | .bptr β off => k (.bptr β off)
  | .eptr κ i off => k (.eptr κ i off)
  | .dptr t y off => k (.dptr t y off)
  | _ => none
def opC (call : CallR H) (o : Oper) (st : St) (key : Nat) (k : Wr → Option R) : Option R :=
  match o.op with
  | .move x => k (putS o.dst (evS st x))
  | .assign x => k (putS o.dst (evS st x))
  | .pick c a b => match evV st c with
    | .bool v => if v = true then k (putS o.dst (evS st a)) else k (putS o.dst (evS st b))
    | _ => none
  | .alloc T => match P.underlying T with
    | some (.array n e) => match tysOf P 6 e with
      | some [t] => cond (scal t && zerosT P T (List.replicate n t)) (k ([(bl key, .box (.arr t (List.replicate n (dflt t))))] ++ putV o.dst (.bptr key 0))) none
      | _ => none
    | _ => match tysOf P 6 T with
      | some ts => cond (zerosT P T ts) (k ([(bl key, .box (.flds (ts.map zeroV)))] ++ putV o.dst (.bptr key 0))) none
      | none => none
  | .box T x => cond ((leavesS (evS st x)).all okLeaf && !(leavesS (evS st x)).isEmpty) (k ([(bl key, .box (.flds (leavesS (evS st x))))] ++ putV o.dst (.bptr key 0))) none
  | .build T parts => match P.underlying T with
    | some (.array n e) => match tysOf P 6 e with
      | some [t] => cond (scal t && (Nat.beq parts.size 0 && zerosT P T (List.replicate n t) && Nat.blt 0 (sizeT P e))) (k (putS o.dst (.arr t (List.replicate n (dflt t))))) none
      | _ => none
    | some (.struct fs) => match tysOf P 6 T, placesOf P fs.toList with
      | some ts, some pl => cond (zerosT P T ts) (match fillC pl (ts.map zeroV) (parts.toList.map fun p => (p.1, leavesS (evS st p.2))) with
        | some vs => k (putS o.dst (.agg vs))
        | none => none) none
      | _, _ => none
    | _ => none
  | .buildSlice T n parts => match elemOf? P T with
    | some e => match tysOf P 6 e with
      | some ts => cond (rowOk P e (tupTy ts) && (Nat.beq parts.size n && (inOrder (parts.toList.map fun p => (p.1, leavesS (evS st p.2))) 0 && ((parts.toList.map fun p => leavesS (evS st p.2)).all (fun vs => vs.all okLeaf && !vs.isEmpty) && Nat.ble (n * width (tupTy ts)) 16777216)))) (match buildL st.f (tupTy ts) (parts.toList.map fun p => (p.1, leavesS (evS st p.2))) with
        | some xs => cond (flat (tupTy ts)) (k ([(rl key, .root ⟨e, tupTy ts, xs, true, 0, none⟩)] ++ putV o.dst (.own key)))
            (match (parts.toList.map fun p => leavesS (evS st p.2)).flatten with
            | vs => cond (nodupN (ownKeys vs)) (cond (vs.all (moveOk st.f)) (k (dropKeys (ownKeys vs) ++ [(rl key, .root ⟨e, tupTy ts, xs, true, 0, none⟩)] ++ putV o.dst (.own key)))
                (cond (vs.all (shOk st.f)) (k (dropKeys (ownKeys vs) ++ [(rl key, .root ⟨e, tupTy ts, xs, false, 0, none⟩)] ++ putV o.dst (.own key))) none)) none)
        | none => none) none
      | none => none
    | none => none
  | .load T x => loadC P st.f T (evV st x) fun v => k (putS o.dst v)
  | .store T x y => match o.dst with
    | none => storeC P st.f T (evV st x) (evS st y) k
    | some _ => none
  | .binOp op T x y T' => match isBool P T with
    | true => match evV st x, evV st y with
      | .bool a, .bool b => match op with
        | .eql => k (putV o.dst (.bool (a == b)))
        | .neq => k (putV o.dst (.bool (a != b)))
        | _ => none
      | _, _ => none
    | false => binC op (evV st x) (evV st y) fun v => k (putV o.dst v)
  | .unOp op T x => match op, evV st x with
    | .not, .bool b => k (putV o.dst (.bool !b))
    | .neg, .int kd n => k (putV o.dst (.int kd (kd.wrap (0 - n))))
    | _, _ => none
  | .slice T x lo hi mx => match mx with
    | some _ => none
    | none =>
      match lo.map (evV st), hi.map (evV st) with
      | none, none => sliceC P st.f T (evV st x) none none fun v => k (putV o.dst v)
      | some (.int _ l), none => sliceC P st.f T (evV st x) (some l) none fun v => k (putV o.dst v)
      | none, some (.int _ h) => sliceC P st.f T (evV st x) none (some h) fun v => k (putV o.dst v)
      | some (.int _ l), some (.int _ h) => sliceC P st.f T (evV st x) (some l) (some h) fun v => k (putV o.dst v)
      | _, _ => none
  | .nilCheck x => nilC (evV st x) fun v => k (putV o.dst v)
  | .convert src dst x => match isStr P dst with
    | true => strC P st.f src (evV st x) fun v => k (putV o.dst v)
    | false => convC P src dst (evV st x) fun v => k (putV o.dst v)
  | .fieldAddr T x fd => match fieldOff P T fd with
    | some d => match evV st x with
      | .bptr β off => k (putV o.dst (.bptr β (off + d)))
      | .eptr κ i off => k (putV o.dst (.eptr κ i (off + d)))
      | .dptr t x off => k (putV o.dst (.dptr t x (off + d)))
      | _ => none
    | none => none
  | .indexAddr T x i => match evV st i with
    | .int _ n => indexC P st.f T (evV st x) n fun v => k (putV o.dst v)
    | _ => none
  | .index T x i => cond (isStr P T) (match evV st i with
    | .int _ n => match evV st x with
      | .str s => if 0 ≤ n then (if n < (s.size : Int) then k (putV o.dst (.int .u8 (byteAt s n.toNat))) else none) else none
      | _ => none
    | _ => none) none
  | .makeSlice T n c => match elemOf? P T, evV st n, evV st c with
    | some e, .int _ n, .int _ m => match tysOf P 6 e with
      | some ts => cond (rowOk P e (tupTy ts)) (if m = n then (if 0 ≤ n then (if n.toNat * bytesT P e ≤ 140737488355328 then k ([(rl key, .root ⟨e, tupTy ts, List.replicate n.toNat (dflt (tupTy ts)), true, 0, none⟩)] ++ putV o.dst (.own key)) else none) else none) else none) none
      | none => none
    | _, _, _ => none
  | .extract x i => match evS st x with
    | .tup cs => match cs[i]? with
      | some (ag, vs) => k (putS o.dst (mkS ag vs))
      | none => none
    | _ => none
  | .call c => match c.callee with
    | .builtin b => builtinC P st.f b (c.args.toList.map (evS st)) c.argTypes.toList key o.dst k
    | .value (.func fn) => match isIdx H fn with
      | true => idxC (c.args.toList.map (evS st)) fun v => k (putV o.dst v)
      | false => callZ P H call fn (c.args.toList.map (evS st)) st.f key o.dst k
    | _ => none
  | _ => none
def St.wr (st : St) (u : Wr) : St := ⟨upds st.f u, st.nx⟩
/-- Operations in the order of the text; a guard's Bool is known behind its test. -/
def opsC (call : CallR H) (ops : List Oper) : List Oper → Nat → St → (St → Option R) → Option R
  | [], _, st, k => k st
  | o :: rest, key, st, k => match o.guard with
    | none => opC P H call o st (64 * key) fun u => opsC call ops rest (key + 1) (st.wr u) k
    | some (j, want) => match (ops[j]?).bind (·.dst) with
      | none => none
      | some d => match st.f (sl d) with
        | .s (.one (.bool b)) =>
          if b = true then
            (let st' := st.wr [(sl d, .s (.one (.bool true)))]
             match want with
             | true => opC P H call o st' (64 * key) fun u => opsC call ops rest (key + 1) (st'.wr u) k
             | false => opsC call ops rest (key + 1) (st'.wr (putV o.dst .no)) k)
          else
            (let st' := st.wr [(sl d, .s (.one (.bool false)))]
             match want with
             | false => opC P H call o st' (64 * key) fun u => opsC call ops rest (key + 1) (st'.wr u) k
             | true => opsC call ops rest (key + 1) (st'.wr (putV o.dst .no)) k)
        | .s (.one .no) => opsC call ops rest (key + 1) (st.wr (putV o.dst .no)) k
        | _ => none
/-! a region whose order is drawn -/
def nameOf (p : Nat × Val) : Option Nat := cond (Nat.beq (p.1 % 3) 0) none (some (p.1 / 3))
def names (u : Wr) : List Nat := u.filterMap nameOf
def looks (ops : List Oper) (o : Oper) : List Nat :=
  (o.op.operands.toList.filterMap fun x => match x with
    | .tmp t => some t
    | _ => none) ++ (match o.guard with
    | some (g, _) => ((ops[g]?).bind (·.dst)).toList
    | none => [])
def edges (o : Oper) : List Nat := o.after.toList.filterMap fun e => cond (Region.binds .any e) (some e.on) none
def ddN : List Nat → List Nat → List Nat
  | [], acc => acc
  | x :: l, acc => cond (memN x acc) (ddN l acc) (ddN l (x :: acc))
def ancsGo : List Oper → List (List Nat) → List (List Nat)
  | [], acc => acc
  | o :: r, acc => ancsGo r (acc ++ [ddN (edges o ++ ((edges o).map fun e => acc.getD e []).flatten) []])
def ancs (ops : List Oper) : List (List Nat) := ancsGo ops []
/-- Must the earlier be done before the later, for the sake of a slot? -/
def slotConf (ops : List Oper) (x y : Oper) : Bool :=
  (match x.dst with
    | some d => memN d (looks ops y) || (match y.dst with
      | some d' => Nat.beq d d'
      | none => false)
    | none => false) || (match y.dst with
    | some d => memN d (looks ops x)
    | none => false)
/-- The names in a value. -/
def namesV : V → List Nat
  | .own κ => [κ]
  | .cut κ _ _ => [κ]
  | .row κ _ _ _ => [κ]
  | .bptr β _ => [β]
  | .aptr β _ => [β]
  | .eptr κ _ _ => [κ]
  | .rptr κ _ _ _ _ => [κ]
  | _ => []
def namesS : S → List Nat
  | .one v => namesV v
  | .agg vs => (vs.map namesV).flatten
  | .arr _ _ => []
  | .tup cs => (cs.map fun p => (p.2.map namesV).flatten).flatten
/-- Does it only hand a value on? -/
def isMove : Op → Bool
  | .move _ => true
  | .assign _ => true
  | .extract _ _ => true
  | _ => false
/-- The names that an operation looks into: those that its operands hold, if it does more than hand a value on. -/
def reads (o : Oper) (st : St) : List Nat := cond (isMove o.op) [] (o.op.operands.toList.map fun x => namesS (evS st x)).flatten
def downTo (n : Nat) (p : Nat → Bool) : Bool := (List.range n).all p
def drawOk (ops : List Oper) (lg : List (List Nat × List Nat)) : Bool :=
  let an := ancs ops
  downTo ops.length (fun j => match ops[j]? with
    | none => false
    | some y => (an.getD j []).all (fun e => Nat.blt e j) && downTo j fun i => match ops[i]? with
      | none => false
      | some x => cond (slotConf ops x y) (memN i (an.getD j [])) true) &&
  downTo ops.length fun i => (lg.getD i ([], [])).1.all fun m => downTo ops.length fun j => Nat.beq i j || cond (memN m (lg.getD j ([], [])).2 || memN m (lg.getD j ([], [])).1) (memN i (an.getD j []) || memN j (an.getD i [])) true
/-- Operations in the order of the text, with the names that each writes. -/
def opsD (call : CallR H) (ops : List Oper) : List Oper → Nat → St → List (List Nat × List Nat) → (List (List Nat × List Nat) → St → Option R) → Option R
  | [], _, st, acc, k => k acc st
  | o :: rest, key, st, acc, k => match o.guard with
    | none => opC P H call o st (64 * key) fun u => opsD call ops rest (key + 1) (st.wr u) (acc ++ [(names u, reads o st)]) k
    | some (j, want) => match (ops[j]?).bind (·.dst) with
      | none => none
      | some d => match st.f (sl d) with
        | .s (.one (.bool b)) =>
          if b = true then
            (let st' := st.wr [(sl d, .s (.one (.bool true)))]
             match want with
             | true => opC P H call o st' (64 * key) fun u => opsD call ops rest (key + 1) (st'.wr u) (acc ++ [(names u, reads o st)]) k
             | false => opsD call ops rest (key + 1) (st'.wr (putV o.dst .no)) (acc ++ [([], reads o st)]) k)
          else
            (let st' := st.wr [(sl d, .s (.one (.bool false)))]
             match want with
             | false => opC P H call o st' (64 * key) fun u => opsD call ops rest (key + 1) (st'.wr u) (acc ++ [(names u, reads o st)]) k
             | true => opsD call ops rest (key + 1) (st'.wr (putV o.dst .no)) (acc ++ [([], reads o st)]) k)
        | .s (.one .no) => opsD call ops rest (key + 1) (st.wr (putV o.dst .no)) (acc ++ [([], reads o st)]) k
        | _ => none
inductive Ex where
  | normal
  | exit (id : Nat)
  | ret
/-! a loop's head: what lives, told anew -/
def firstId : Code → Option Nat
  | .region id _ _ => some id
  | .seq a b => match firstId a with
    | some i => some i
    | none => firstId b
  | .block _ c => firstId c
  | .cond _ a b => match firstId a with
    | some i => some i
    | none => firstId b
  | .loop c => firstId c
  | _ => none
def lookL (l : List (Nat × List Nat)) (i : Nat) : List Nat := match l with
  | [] => []
  | (j, x) :: r => cond (Nat.beq j i) x (lookL r i)
def boxKey : V → List Nat
  | .bptr β _ => [β]
  | _ => []
def rootKey : V → List Nat
  | .own κ => [κ]
  | .cut κ _ _ => [κ]
  | _ => []
def dedup : List Nat → List Nat → List Nat
  | [], acc => acc.reverse
  | x :: r, acc => cond (acc.any fun y => Nat.beq y x) (dedup r acc) (dedup r (x :: acc))
def placeOf (x : Nat) : List Nat → Nat → Nat
  | [], i => i
  | y :: r, i => cond (Nat.beq y x) i (placeOf x r (i + 1))
def renV (bs ks : List Nat) : V → V
  | .own κ => cond (ks.any fun y => Nat.beq y κ) (.own (placeOf κ ks bs.length)) .undef
  | .cut κ a b => cond (ks.any fun y => Nat.beq y κ) (.cut (placeOf κ ks bs.length) a b) .undef
  | .bptr β off => cond (bs.any fun y => Nat.beq y β) (.bptr (placeOf β bs 0) off) .undef
  | .int k n => .int k n
  | .bool b => .bool b
  | .str s => .str s
  | .nil => .nil
  | .dat e t xs => .dat e t xs
  | _ => .undef
def renS (bs ks : List Nat) : S → S
  | .one v => .one (renV bs ks v)
  | .agg vs => .agg (vs.map (renV bs ks))
  | .arr t xs => .arr t xs
  | .tup cs => .one .undef
def renX (bs ks : List Nat) : Val → Val
  | .s x => .s (renS bs ks x)
  | .box (.flds vs) => .box (.flds (vs.map (renV bs ks)))
  | .box (.arr t xs) => .box (.arr t xs)
  | .root r => .root r
  | .none => .none
def rootX : Val → Val
  | .root r => .root { r with gen := 0 }
  | _ => .none
def vsOf : Val → List V
  | .s x => leavesS x
  | .box (.flds vs) => vs
  | _ => []
def numbered {α : Type} (g : Nat → α) : List Nat → Nat → List (Nat × α)
  | [], _ => []
  | x :: r, i => (i, g x) :: numbered g r (i + 1)
/-- Slots that name frozen roots, told as data. -/
def rsvV (f : Nat → Val) : V → V
  | .own κ => match f (rl κ) with
    | .s (.one (.dat e t xs)) => .dat e t xs
    | _ => .own κ
  | v => v
def rsvS (f : Nat → Val) : S → S
  | .one v => .one (rsvV f v)
  | .agg vs => .agg (vs.map (rsvV f))
  | x => x
def rsvX (f : Nat → Val) : Val → Val
  | .s x => .s (rsvS f x)
  | .box (.flds vs) => .box (.flds (vs.map (rsvV f)))
  | x => x
def rsvF (f : Nat → Val) : Nat → Val := fun l => rsvX f (f l)
def rsv (st : St) : St := ⟨rsvF st.f, st.nx⟩
def canon0 (live : List Nat) (st : St) : St :=
  match (dedup ((live.map fun t => ((vsOf (st.f (sl t))).map boxKey).flatten).flatten) []) with
  | bs => match dedup ((((live.map fun t => st.f (sl t)) ++ (bs.map fun β => st.f (bl β))).map fun x => ((vsOf x).map rootKey).flatten).flatten) [] with
    | ks => ⟨ofList ((live.map fun t => (sl t, renX bs ks (st.f (sl t)))) ++ (numbered (fun β => renX bs ks (st.f (bl β))) bs 0).map (fun p => (bl p.1, p.2)) ++ (numbered (fun κ => rootX (st.f (rl κ))) ks bs.length).map (fun p => (rl p.1, p.2))), ks.length + bs.length⟩
def canon (live : List Nat) (st : St) : St := canon0 live (rsv st)
def loopI (body : St → (Ex → St → Option R) → Option R) (live : List Nat) : Nat → St → (Ex → St → Option R) → Option R
  | 0, _, _ => none
  | m + 1, st, K => body st fun e s => match e with
    | .normal => loopI body live m (canon live s) K
    | e => K e s
def execC (call : CallR H) (lf : Nat) (hints : List (Nat × List Nat)) : Code → St → (Ex → St → Option R) → Option R
  | .skip, st, K => K .normal st
  | .region _ ops draw, st, K => cond draw
      (cond (P.follows .mixedOrders) (opsD P H call ops.toList ops.toList st.nx st [] fun ws s => cond (drawOk ops.toList ws) (K .normal ⟨s.f, st.nx + ops.size⟩) none) none)
      (opsC P H call ops.toList ops.toList st.nx st fun s => K .normal ⟨s.f, st.nx + ops.size⟩)
  | .seq a b, st, K => execC call lf hints a st fun e s => match e with
    | .normal => execC call lf hints b s K
    | e => K e s
  | .cond c x y, st, K => match evV st c with
    | .bool b => if b = true then execC call lf hints x st K else execC call lf hints y st K
    | _ => none
  | .block id c, st, K => execC call lf hints c st fun e s => match e with
    | .exit j => cond (Nat.beq j id) (K .normal s) (K (.exit j) s)
    | e => K e s
  | .loop c, st, K => match firstId c with
    | some i => loopI (fun s k => execC call lf hints c s k) (lookL hints i) lf (canon (lookL hints i) st) K
    | none => none
  | .exit id, st, K => K (.exit id) st
  | .ret, st, K => K .ret st
  | _, _, _ => none
/-- The way to a loop in a function's code. -/
inductive Step where
  | fst
  | snd
  | thn
  | els
  | inl (m : Nat)
def execFrom (call : CallR H) (lf : Nat) (hints : List (Nat × List Nat)) (m : Nat) : List Step → Code → St → (Ex → St → Option R) → Option R
  | p, .block id c, st, K => execFrom call lf hints m p c st fun e s => match e with
    | .exit j => cond (Nat.beq j id) (K .normal s) (K (.exit j) s)
    | e => K e s
  | [], .loop c, st, K => match firstId c with
    | some i => loopI (fun s k => execC P H call lf hints c s k) (lookL hints i) m st K
    | none => none
  | .fst :: p, .seq a b, st, K => execFrom call lf hints m p a st fun e s => match e with
    | .normal => execC P H call lf hints b s K
    | e => K e s
  | .snd :: p, .seq a b, st, K => execFrom call lf hints m p b st K
  | .thn :: p, .cond _ x _, st, K => execFrom call lf hints m p x st K
  | .els :: p, .cond _ _ y, st, K => execFrom call lf hints m p y st K
  | .inl m' :: p, .loop c, st, K => match firstId c with
    | some i => execFrom call lf hints m p c st fun e s => match e with
      | .normal => loopI (fun s k => execC P H call lf hints c s k) (lookL hints i) m' (canon (lookL hints i) s) K
      | e => K e s
    | none => none
  | _, _, _, _ => none
/-- Do all operations put into slots below N, and into none of these? -/
def dsts (N : Nat) (ts : List Nat) : Code → Bool
  | .region _ ops _ => ops.toList.all fun o => match o.dst with
    | some d => Nat.blt d N && !memN d ts
    | none => true
  | .seq a b => dsts N ts a && dsts N ts b
  | .cond _ a b => dsts N ts a && dsts N ts b
  | .block _ c => dsts N ts c
  | .loop c => dsts N ts c
  | .skip => true
  | .exit _ => true
  | .ret => true
  | _ => false
/-- The leaves that a function is handed; what it writes is a root, or a box, by its place's name. -/
def inLeaf (io : Bool) (i : Nat) : (t : Ty) → den t → V × Wr
  | .sl e t, xs => cond io (.own i, [(rl i, .root ⟨e, t, xs, true, 0, none⟩)]) (.dat e t xs, [])
  | .ptr _ t, x => cond io (.bptr i 0, [(bl i, .box (.flds (boxLeaves t x)))]) (.undef, [])
  | t, x => (leafV t x 0, [])
def inLeaves (io : Nat → Bool) : (ts : List Ty) → Nat → den (tupTy ts) → List V × Wr
  | [], _, _ => ([], [])
  | [t], i, x => ([(inLeaf (io i) i t x).1], (inLeaf (io i) i t x).2)
  | t :: u :: ts, i, x => ((inLeaf (io i) i t x.1).1 :: (inLeaves io (u :: ts) (i + 1) x.2).1, (inLeaf (io i) i t x.1).2 ++ (inLeaves io (u :: ts) (i + 1) x.2).2)
def parSlots : List (Bool × List V) → Nat → Wr
  | [], _ => []
  | (ag, vs) :: r, i => (sl i, .s (mkS ag vs)) :: parSlots r (i + 1)
/-- What the result variables hold. -/
def resS (st : St) : List ResultVar → Option (List S)
  | [] => some []
  | .tmp t :: r => match resS st r with
    | some xs => some (evS st (.tmp t) :: xs)
    | none => none
  | .cell p T :: r => match evV st (.tmp p), resS st r with
    | .bptr β off, some xs => match st.f (bl β) with
      | .box (.flds ws) => cond (ldOk P T && Nat.ble (off + sizeT P T) ws.length) (some (mkS (aggT P T) ((ws.drop off).take (sizeT P T)) :: xs)) none
      | _ => none
    | _, _ => none
/-- How a leaf is left: as a row of its own, as data, as what an argument has become. -/
inductive RM where
  | own
  | dat
  | io
def deepR (f : Nat → Val) (κ : Nat) : Bool := match f (rl κ) with
  | .root r => (r.deep || flat r.t) && r.hole.isNone
  | _ => false
def wholeR (f : Nat → Val) (κ : Nat) : Bool := match f (rl κ) with
  | .root r => r.hole.isNone
  | _ => false
/-- May it be left so? -/
def endOk (f : Nat → Val) : RM → V → Bool
  | _, .int _ _ => true
  | _, .bool _ => true
  | _, .str _ => true
  | .own, .nil => true
  | .dat, .nil => true
  | .own, .own κ => deepR f κ
  | .own, .cut κ 0 _ => deepR f κ
  | .dat, .own κ => wholeR f κ
  | .dat, .cut κ _ _ => wholeR f κ
  | .dat, .dat _ _ _ => true
  | .own, .bptr _ 0 => true
  | .io, .own κ => deepR f κ
  | .io, .bptr _ 0 => true
  | _, _ => false
def endsOk (f : Nat → Val) : List RM → List V → Bool
  | [], [] => true
  | m :: ms, v :: vs => endOk f m v && endsOk f ms vs
  | _, _ => false
def packE (f : Nat → Val) (io : Nat → Bool) : (ts : List Ty) → Nat → List V → Option (den (tupTy ts))
  | [], _, vs => match vs with
    | [] => some ()
    | _ => none
  | [t], i, vs => match vs with
    | [v] => packL f (isPtr t || io i) t v
    | _ => none
  | t :: u :: ts, i, vs => match vs with
    | [] => none
    | v :: r => match packL f (isPtr t || io i) t v, packE f io (u :: ts) (i + 1) r with
      | some x, some y => some (x, y)
      | _, _ => none
/-- The roots that are left, each once. -/
def endKeys : List RM → List V → List Nat
  | .dat :: ms, v :: vs => endKeys ms vs
  | _ :: ms, v :: vs => keysV v ++ endKeys ms vs
  | _, _ => []
def datKeys : List RM → List V → List Nat
  | .dat :: ms, v :: vs => keysV v ++ datKeys ms vs
  | _ :: ms, v :: vs => datKeys ms vs
  | _, _ => []
def rmsOf (H : Hints) (fn : Nat) : List RM := ((List.range (nres H fn)).map fun i => cond (memN i (H.dats fn)) .dat .own) ++ (H.out fn).map fun _ => RM.io
def parLeaves (fn : Func) (st : St) : Option (List V) := argLeaves P fn.params.toList ((List.range fn.params.size).map fun t => evS st (.tmp t))
def retC0 (f : Nat) (fn : Func) (e : Ex) (st : St) : Option (den (resTy H f)) := match e with
  | .ret => match resS P st fn.results.toList with
    | some ss => match argLeaves P fn.resultTypes.toList ss, (cond (H.out f).isEmpty (some []) (parLeaves P fn st)) with
      | some vs, some ps => match vs ++ ioVs H f ps with
        | ls => cond (endsOk st.f (rmsOf H f) ls && (nodupN (endKeys (rmsOf H f) ls) && (nodupN (ls.map boxV).flatten && (datKeys (rmsOf H f) ls).all fun κ => !memN κ (endKeys (rmsOf H f) ls)))) (packE st.f (fun i => Nat.ble (nres H f) i) (H.res f) 0 ls) none
      | _, _ => none
    | none => none
  | _ => none
def retC (f : Nat) (fn : Func) (e : Ex) (st : St) : Option (den (resTy H f)) := retC0 P H f fn e (rsv st)
/-- The slots of the parameters that are written. -/
def outTmps (io : Nat → Bool) : List Nat → Nat → Nat → List Nat
  | [], _, _ => []
  | T :: Ts, t, i => match tysOf P 6 T with
    | some ts => cond ((List.range ts.length).any fun j => io (i + j)) (t :: outTmps io Ts (t + 1) (i + ts.length)) (outTmps io Ts (t + 1) (i + ts.length))
    | none => []
def ptrIo (io : Nat → Bool) : List Ty → Nat → Bool
  | [], _ => true
  | t :: ts, i => (!isPtr t || io i) && ptrIo io ts (i + 1)
def funOk (f : Nat) (fn : Func) (c : Code) : Bool :=
  fits P fn.params.toList (H.par f) && (fits P fn.resultTypes.toList ((H.res f).take (nres H f)) && ((H.par f).all goodTy && ((H.res f).all goodTy && (dsts fn.ntmps (outTmps P (fun i => memN i (H.out f)) fn.params.toList 0 0) c && (outOk H f && ptrIo (fun i => memN i (H.out f)) (H.par f) 0)))))
def entrySt (f : Nat) (fn : Func) (x : den (parTy H f)) : St :=
  match inLeaves (fun i => memN i (H.out f)) (H.par f) 0 x with
  | (ls, w) => ⟨ofList (parSlots (cutLeaves P fn.params.toList ls) 0 ++ w), 1⟩
end
/-- A number's decimal numeral; texts with a text between them; a text again and again. -/
def itoaB (n : Int) : ByteArray := ⟨(Lib.itoa n).toArray⟩
def joinB (xs : List ByteArray) (sep : ByteArray) : ByteArray := ⟨(Lib.join (xs.map (·.data.toList)) sep.data.toList).toArray⟩
def repB (s : ByteArray) (n : Nat) : ByteArray := ⟨(Lib.repeatL s.data.toList n).toArray⟩
def itoaC (n : Int) : Option ByteArray := if -9223372036854775808 ≤ n then (if n ≤ 9223372036854775807 then some (itoaB n) else none) else none
def joinC (xs : List ByteArray) (sep : ByteArray) : Option ByteArray := if (joinB xs sep).size ≤ 140737488355328 then (if xs.length ≤ 140737488355328 then some (joinB xs sep) else none) else none
def repC (s : ByteArray) (n : Int) : Option ByteArray := if 0 ≤ n then (if n ≤ 9223372036854775807 then (if s.size * n.toNat ≤ 140737488355328 then some (repB s n.toNat) else none) else none) else none
/-- What the library answers. -/
def libRun : LibF → (ts us : List Ty) → den (tupTy ts) → Option (den (tupTy us))
  | .itoa, [.int .i64], [.str], n => itoaC n
  | .join, [.sl _ .str, .str], [.str], x => joinC x.1 x.2
  | .rep, [.str, .int .i64], [.str], x => repC x.1 x.2
  | _, _, _, _ => none
def frun (P : Program) (H : Hints) : Nat → CallR H
  | 0 => fun _ _ => none
  | n + 1 => fun f x => match H.lib f with
    | some l => libRun l (H.par f) (H.res f) x
    | none => match P.funcs[f]? with
      | none => none
      | some fn => match fn.body with
        | none => none
        | some c => cond (funOk P H f fn c) (execC P H (frun P H n) n (H.live f) c (entrySt P H f fn x) (retC P H f fn)) none
/-- A function from one of its loops on. -/
def frunAt (P : Program) (H : Hints) (n f : Nat) (p : List Step) (m : Nat) (st : St) : Option (den (resTy H f)) := match P.funcs[f]? with
  | none => none
  | some fn => match fn.body with
    | none => none
    | some c => execFrom P H (frun P H n) n (H.live f) m p c st (retC P H f fn)
end Go.Proofs.Ytoioaijpdiglfaa.V
