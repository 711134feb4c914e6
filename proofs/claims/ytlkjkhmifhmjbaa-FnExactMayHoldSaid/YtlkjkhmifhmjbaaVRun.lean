/- The interpreter's code, calls and functions. -/
import Derived.Test.YtlkjkhmifhmjbaaVLang
set_option linter.unusedVariables false
namespace Go.Proofs.Ytlkjkhmifhmjbaa.V
open Go

/-- What is told of a program: what lives at a loop's head; the leaves of each function's parameters and results (held against the program's own types where it is run). -/
structure Hints where
  live : Nat → List (Nat × List Nat)
  par : Nat → List Ty
  res : Nat → List Ty
@[reducible] def parTy (H : Hints) (f : Nat) : Ty := tupTy (H.par f)
@[reducible] def resTy (H : Hints) (f : Nat) : Ty := tupTy (H.res f)
def sameTys : List Ty → List Ty → Bool
  | [], [] => true
  | a :: as, b :: bs => Ty.same a b && sameTys as bs
  | _, _ => false
def fits (P : Program) (Ts : List Nat) (ts : List Ty) : Bool := match tysL P Ts with
  | some us => sameTys us ts
  | none => false
abbrev CallR (H : Hints) := (f : Nat) → den (parTy H f) → Option (den (resTy H f))

section
variable {R : Type} (P : Program) (H : Hints)
def outLeaf : (t : Ty) → den t → Nat → V × Wr
  | .sl e t, xs, key => (.own key, [(rl key, .root ⟨e, t, xs, true, 0, none⟩)])
  | t, x, _ => (leafV t x 0, [])
/-- The leaves of data of leaf types ts, x told as their tuple; a slice becomes a root: key, key + 1, .. -/
def outLeaves : (ts : List Ty) → den (tupTy ts) → (key : Nat) → List V × Wr
  | [], _, _ => ([], [])
  | [t], x, key => ([(outLeaf t x key).1], (outLeaf t x key).2)
  | t :: u :: ts, x, key => ((outLeaf t x.1 key).1 :: (outLeaves (u :: ts) x.2 (key + 1)).1, (outLeaf t x.1 key).2 ++ (outLeaves (u :: ts) x.2 (key + 1)).2)
/-- Leaves, cut by the result types. -/
def cutLeaves : List Nat → List V → List (Bool × List V)
  | [], _ => []
  | T :: Ts, vs => match tysOf P 6 T with
    | some ts => (aggT P T, vs.take ts.length) :: cutLeaves Ts (vs.drop ts.length)
    | none => []
def outS (Ts : List Nat) (vs : List V) : S := match Ts with
  | [T] => mkS (aggT P T) vs
  | Ts => .tup (cutLeaves P Ts vs)
/-- A leaf's type; a slice's elements have a width. -/
def goodTy : Ty → Bool
  | .pair _ _ => false
  | .unit => false
  | .sl _ t => Nat.blt 0 (width t)
  | _ => true
/-- The leaves of arguments, held against the parameters' types. -/
def argLeaves : List Nat → List S → Option (List V)
  | [], [] => some []
  | T :: Ts, s :: ss => match tysOf P 6 T, argLeaves Ts ss with
    | some ts, some r => match s with
      | .one v => cond (aggT P T) none (cond (Nat.beq ts.length 1) (some (v :: r)) none)
      | .agg vs => cond (aggT P T) (cond (Nat.beq vs.length ts.length) (some (vs ++ r)) none) none
      | _ => none
    | _, _ => none
  | _, _ => none
def callC (call : CallR H) (fn : Nat) (args : List S) (f : Nat → Val) (key : Nat) (dst : Option Nat) (k : Wr → Option R) : Option R :=
  match P.funcs[fn]? with
  | none => none
  | some F => match argLeaves P F.params.toList args with
    | none => none
    | some vs => match packs f (parTy H fn) vs with
      | none => none
      | some x => cond (Nat.ble (H.res fn).length 64 && ((H.res fn).all goodTy && fits P F.resultTypes.toList (H.res fn))) ((call fn x).bind fun r =>
          match outLeaves (H.res fn) r key with
          | (ls, w) => k (w ++ putS dst (outS P F.resultTypes.toList ls))) none
/-- Are these the leaves of its zero? -/
def zerosT (T : Nat) (ts : List Ty) : Bool := match P.info? T with
  | some i => match i.zero with
    | some z => zerosAre ts z.cells.toList
    | none => false
  | none => false
def placesOf : List Field → Option (List (Nat × Nat))
  | [] => some []
  | f :: fs => match P.info? f.type, placesOf fs with
    | some i, some r => some ((f.offset, i.size) :: r)
    | _, _ => none
def isBool (T : Nat) : Bool := match P.underlying T with
  | some .bool => true
  | _ => false
def fillC (pl : List (Nat × Nat)) : List V → List (Nat × List V) → Option (List V)
  | vs, [] => some vs
  | vs, p :: r => match pl[p.1]? with
    | some (off, sz) => cond (Nat.beq p.2.length sz && (Nat.ble (off + sz) vs.length && (p.2.all okLeaf && !p.2.isEmpty))) (fillC pl (vs.take off ++ p.2 ++ vs.drop (off + p.2.length)) r) none
    | none => none
def opC (call : CallR H) (o : Oper) (st : St) (key : Nat) (k : Wr → Option R) : Option R :=
  match o.op with
  | .move x => k (putS o.dst (evS st x))
  | .assign x => k (putS o.dst (evS st x))
  | .pick c a b => match evV st c with
    | .bool v => if v = true then k (putS o.dst (evS st a)) else k (putS o.dst (evS st b))
    | _ => none
  | .alloc T => match P.underlying T with
    | some (.array n e) => match tysOf P 6 e with
      | some [t] => cond (scal t && zerosT P T (List.replicate n t)) (k ([(bl key, .box (.arr t (List.replicate n (dflt t))))] ++ putV o.dst (.bptr key 0))) none
      | _ => none
    | _ => match tysOf P 6 T with
      | some ts => cond (zerosT P T ts) (k ([(bl key, .box (.flds (ts.map zeroV)))] ++ putV o.dst (.bptr key 0))) none
      | none => none
  | .box T x => cond ((leavesS (evS st x)).all okLeaf && !(leavesS (evS st x)).isEmpty) (k ([(bl key, .box (.flds (leavesS (evS st x))))] ++ putV o.dst (.bptr key 0))) none
  | .build T parts => match P.underlying T with
    | some (.array n e) => match tysOf P 6 e with
      | some [t] => cond (scal t && (Nat.beq parts.size 0 && zerosT P T (List.replicate n t) && Nat.blt 0 (sizeT P e))) (k (putS o.dst (.arr t (List.replicate n (dflt t))))) none
      | _ => none
    | some (.struct fs) => match tysOf P 6 T, placesOf P fs.toList with
      | some ts, some pl => cond (zerosT P T ts) (match fillC pl (ts.map zeroV) (parts.toList.map fun p => (p.1, leavesS (evS st p.2))) with
        | some vs => k (putS o.dst (.agg vs))
        | none => none) none
      | _, _ => none
    | _ => none
  | .buildSlice T n parts => match elemOf? P T with
    | some e => match tysOf P 6 e with
      | some ts => cond (rowOk P e (tupTy ts) && flat (tupTy ts) && (Nat.beq parts.size n && (inOrder (parts.toList.map fun p => (p.1, leavesS (evS st p.2))) 0 && ((parts.toList.map fun p => leavesS (evS st p.2)).all (fun vs => vs.all okLeaf && !vs.isEmpty) && Nat.ble (n * width (tupTy ts)) 16777216)))) (match buildL st.f (tupTy ts) (parts.toList.map fun p => (p.1, leavesS (evS st p.2))) with
        | some xs => k ([(rl key, .root ⟨e, tupTy ts, xs, true, 0, none⟩)] ++ putV o.dst (.own key))
        | none => none) none
      | none => none
    | none => none
  | .load T x => loadC P st.f key T (evV st x) fun v => k (putS o.dst v)
  | .store T x y => match o.dst with
    | none => storeC P st.f T (evV st x) (evS st y) k
    | some _ => none
  | .binOp op T x y T' => match isBool P T with
    | true => match evV st x, evV st y with
      | .bool a, .bool b => match op with
        | .eql => k (putV o.dst (.bool (a == b)))
        | .neq => k (putV o.dst (.bool (a != b)))
        | _ => none
      | _, _ => none
    | false => binC op (evV st x) (evV st y) fun v => k (putV o.dst v)
  | .unOp op T x => match op, evV st x with
    | .not, .bool b => k (putV o.dst (.bool !b))
    | .neg, .int kd n => k (putV o.dst (.int kd (kd.wrap (0 - n))))
    | _, _ => none
  | .slice T x lo hi mx => match mx with
    | some _ => none
    | none =>
      match lo.map (evV st), hi.map (evV st) with
      | none, none => sliceC P st.f T (evV st x) none none fun v => k (putV o.dst v)
      | some (.int _ l), none => sliceC P st.f T (evV st x) (some l) none fun v => k (putV o.dst v)
      | none, some (.int _ h) => sliceC P st.f T (evV st x) none (some h) fun v => k (putV o.dst v)
      | some (.int _ l), some (.int _ h) => sliceC P st.f T (evV st x) (some l) (some h) fun v => k (putV o.dst v)
      | _, _ => none
  | .fieldAddr T x fd => match fieldOff P T fd with
    | some d => match evV st x with
      | .bptr β off => k (putV o.dst (.bptr β (off + d)))
      | .eptr κ i off => k (putV o.dst (.eptr κ i (off + d)))
      | .dptr t x off => k (putV o.dst (.dptr t x (off + d)))
      | _ => none
    | none => none
  | .indexAddr T x i => match evV st i with
    | .int _ n => indexC P st.f T (evV st x) n fun v => k (putV o.dst v)
    | _ => none
  | .index T x i => cond (isStr P T) (match evV st i with
    | .int _ n => match evV st x with
      | .str s => if 0 ≤ n then (if n < (s.size : Int) then k (putV o.dst (.int .u8 (byteAt s n.toNat))) else none) else none
      | _ => none
    | _ => none) none
  | .makeSlice T n c => match elemOf? P T, evV st n, evV st c with
    | some e, .int _ n, .int _ m => match tysOf P 6 e with
      | some ts => cond (rowOk P e (tupTy ts) && leaf1 (tupTy ts)) (if m = n then (if 0 ≤ n then (if n.toNat * bytesT P e ≤ 140737488355328 then k ([(rl key, .root ⟨e, tupTy ts, List.replicate n.toNat (dflt (tupTy ts)), true, 0, none⟩)] ++ putV o.dst (.own key)) else none) else none) else none) none
      | none => none
    | _, _, _ => none
  | .extract x i => match evS st x with
    | .tup cs => match cs[i]? with
      | some (ag, vs) => k (putS o.dst (mkS ag vs))
      | none => none
    | _ => none
  | .call c => match c.callee with
    | .builtin b => builtinC P st.f b (c.args.toList.map (evS st)) c.argTypes.toList key o.dst k
    | .value (.func fn) => callC P H call fn (c.args.toList.map (evS st)) st.f key o.dst k
    | _ => none
  | _ => none
def St.wr (st : St) (u : Wr) : St := ⟨upds st.f u, st.nx⟩
/-- Operations in the order of the text; a guard's Bool is known behind its test. -/
def opsC (call : CallR H) (ops : List Oper) : List Oper → Nat → St → (St → Option R) → Option R
  | [], _, st, k => k st
  | o :: rest, key, st, k => match o.guard with
    | none => opC P H call o st (64 * key) fun u => opsC call ops rest (key + 1) (st.wr u) k
    | some (j, want) => match (ops[j]?).bind (·.dst) with
      | none => none
      | some d => match st.f (sl d) with
        | .s (.one (.bool b)) =>
          if b = true then
            (let st' := st.wr [(sl d, .s (.one (.bool true)))]
             match want with
             | true => opC P H call o st' (64 * key) fun u => opsC call ops rest (key + 1) (st'.wr u) k
             | false => opsC call ops rest (key + 1) (st'.wr (putV o.dst .undef)) k)
          else
            (let st' := st.wr [(sl d, .s (.one (.bool false)))]
             match want with
             | false => opC P H call o st' (64 * key) fun u => opsC call ops rest (key + 1) (st'.wr u) k
             | true => opsC call ops rest (key + 1) (st'.wr (putV o.dst .undef)) k)
        | _ => none
/-! a region whose order is drawn -/
def nameOf (p : Nat × Val) : Option Nat := cond (Nat.beq (p.1 % 3) 0) none (some (p.1 / 3))
def names (u : Wr) : List Nat := u.filterMap nameOf
def memN (x : Nat) (l : List Nat) : Bool := l.any fun y => Nat.beq y x
def looks (ops : List Oper) (o : Oper) : List Nat :=
  (o.op.operands.toList.filterMap fun x => match x with
    | .tmp t => some t
    | _ => none) ++ (match o.guard with
    | some (g, _) => ((ops[g]?).bind (·.dst)).toList
    | none => [])
def edges (o : Oper) : List Nat := o.after.toList.filterMap fun e => cond (Region.binds .any e) (some e.on) none
def ancsGo : List Oper → List (List Nat) → List (List Nat)
  | [], acc => acc
  | o :: r, acc => ancsGo r (acc ++ [edges o ++ ((edges o).map fun e => acc.getD e []).flatten])
def ancs (ops : List Oper) : List (List Nat) := ancsGo ops []
/-- Must the earlier be done before the later, for the sake of a slot? -/
def slotConf (ops : List Oper) (x y : Oper) : Bool :=
  (match x.dst with
    | some d => memN d (looks ops y) || (match y.dst with
      | some d' => Nat.beq d d'
      | none => false)
    | none => false) || (match y.dst with
    | some d => memN d (looks ops x)
    | none => false)
/-- May the j-th operation meet the name m? -/
def meets (an : List (List Nat)) (nx j m : Nat) : Bool := Nat.blt m (64 * nx) || (Nat.beq (m / 64) (nx + j) || (an.getD j []).any fun p => Nat.beq (m / 64) (nx + p))
def downTo (n : Nat) (p : Nat → Bool) : Bool := (List.range n).all p
def drawOk (ops : List Oper) (nx : Nat) (ws : List (List Nat)) : Bool :=
  let an := ancs ops
  downTo ops.length (fun j => match ops[j]? with
    | none => false
    | some y => (an.getD j []).all (fun e => Nat.blt e j) && downTo j fun i => match ops[i]? with
      | none => false
      | some x => cond (slotConf ops x y) (memN i (an.getD j [])) true) &&
  downTo ops.length fun i => (ws.getD i []).all fun m => downTo ops.length fun j => Nat.beq i j || cond (meets an nx j m) (memN i (an.getD j []) || memN j (an.getD i [])) true
/-- Operations in the order of the text, with the names that each writes. -/
def opsD (call : CallR H) (ops : List Oper) : List Oper → Nat → St → List (List Nat) → (List (List Nat) → St → Option R) → Option R
  | [], _, st, acc, k => k acc st
  | o :: rest, key, st, acc, k => match o.guard with
    | none => opC P H call o st (64 * key) fun u => opsD call ops rest (key + 1) (st.wr u) (acc ++ [names u]) k
    | some (j, want) => match (ops[j]?).bind (·.dst) with
      | none => none
      | some d => match st.f (sl d) with
        | .s (.one (.bool b)) =>
          if b = true then
            (let st' := st.wr [(sl d, .s (.one (.bool true)))]
             match want with
             | true => opC P H call o st' (64 * key) fun u => opsD call ops rest (key + 1) (st'.wr u) (acc ++ [names u]) k
             | false => opsD call ops rest (key + 1) (st'.wr (putV o.dst .undef)) (acc ++ [[]]) k)
          else
            (let st' := st.wr [(sl d, .s (.one (.bool false)))]
             match want with
             | false => opC P H call o st' (64 * key) fun u => opsD call ops rest (key + 1) (st'.wr u) (acc ++ [names u]) k
             | true => opsD call ops rest (key + 1) (st'.wr (putV o.dst .undef)) (acc ++ [[]]) k)
        | _ => none
inductive Ex where
  | normal
  | exit (id : Nat)
  | ret
/-! a loop's head: what lives, told anew -/
def firstId : Code → Option Nat
  | .region id _ _ => some id
  | .seq a b => match firstId a with
    | some i => some i
    | none => firstId b
  | .block _ c => firstId c
  | .cond _ a b => match firstId a with
    | some i => some i
    | none => firstId b
  | .loop c => firstId c
  | _ => none
def lookL (l : List (Nat × List Nat)) (i : Nat) : List Nat := match l with
  | [] => []
  | (j, x) :: r => cond (Nat.beq j i) x (lookL r i)
def boxKey : V → List Nat
  | .bptr β _ => [β]
  | _ => []
def rootKey : V → List Nat
  | .own κ => [κ]
  | .cut κ _ _ => [κ]
  | _ => []
def dedup : List Nat → List Nat → List Nat
  | [], acc => acc.reverse
  | x :: r, acc => cond (acc.any fun y => Nat.beq y x) (dedup r acc) (dedup r (x :: acc))
def placeOf (x : Nat) : List Nat → Nat → Nat
  | [], i => i
  | y :: r, i => cond (Nat.beq y x) i (placeOf x r (i + 1))
def renV (bs ks : List Nat) : V → V
  | .own κ => cond (ks.any fun y => Nat.beq y κ) (.own (placeOf κ ks 0)) .undef
  | .cut κ a b => cond (ks.any fun y => Nat.beq y κ) (.cut (placeOf κ ks 0) a b) .undef
  | .bptr β off => cond (bs.any fun y => Nat.beq y β) (.bptr (placeOf β bs 0) off) .undef
  | .int k n => .int k n
  | .bool b => .bool b
  | .str s => .str s
  | .nil => .nil
  | .dat e t xs => .dat e t xs
  | _ => .undef
def renS (bs ks : List Nat) : S → S
  | .one v => .one (renV bs ks v)
  | .agg vs => .agg (vs.map (renV bs ks))
  | .arr t xs => .arr t xs
  | .tup cs => .one .undef
def renX (bs ks : List Nat) : Val → Val
  | .s x => .s (renS bs ks x)
  | .box (.flds vs) => .box (.flds (vs.map (renV bs ks)))
  | .box (.arr t xs) => .box (.arr t xs)
  | .root r => .root r
  | .none => .none
def rootX : Val → Val
  | .root r => .root r
  | _ => .none
def vsOf : Val → List V
  | .s x => leavesS x
  | .box (.flds vs) => vs
  | _ => []
def numbered {α : Type} (g : Nat → α) : List Nat → Nat → List (Nat × α)
  | [], _ => []
  | x :: r, i => (i, g x) :: numbered g r (i + 1)
def canon (live : List Nat) (st : St) : St :=
  match (dedup ((live.map fun t => ((vsOf (st.f (sl t))).map boxKey).flatten).flatten) []) with
  | bs => match dedup ((((live.map fun t => st.f (sl t)) ++ (bs.map fun β => st.f (bl β))).map fun x => ((vsOf x).map rootKey).flatten).flatten) [] with
    | ks => ⟨ofList ((live.map fun t => (sl t, renX bs ks (st.f (sl t)))) ++ (numbered (fun β => renX bs ks (st.f (bl β))) bs 0).map (fun p => (bl p.1, p.2)) ++ (numbered (fun κ => rootX (st.f (rl κ))) ks 0).map (fun p => (rl p.1, p.2))), ks.length + bs.length⟩
def loopI (body : St → (Ex → St → Option R) → Option R) (live : List Nat) : Nat → St → (Ex → St → Option R) → Option R
  | 0, _, _ => none
  | m + 1, st, K => body st fun e s => match e with
    | .normal => loopI body live m (canon live s) K
    | e => K e s
def execC (call : CallR H) (lf : Nat) (hints : List (Nat × List Nat)) : Code → St → (Ex → St → Option R) → Option R
  | .skip, st, K => K .normal st
  | .region _ ops draw, st, K => cond draw
      (cond (P.follows .mixedOrders) (opsD P H call ops.toList ops.toList st.nx st [] fun ws s => cond (drawOk ops.toList st.nx ws) (K .normal ⟨s.f, st.nx + ops.size⟩) none) none)
      (opsC P H call ops.toList ops.toList st.nx st fun s => K .normal ⟨s.f, st.nx + ops.size⟩)
  | .seq a b, st, K => execC call lf hints a st fun e s => match e with
    | .normal => execC call lf hints b s K
    | e => K e s
  | .cond c x y, st, K => match evV st c with
    | .bool b => if b = true then execC call lf hints x st K else execC call lf hints y st K
    | _ => none
  | .block id c, st, K => execC call lf hints c st fun e s => match e with
    | .exit j => cond (Nat.beq j id) (K .normal s) (K (.exit j) s)
    | e => K e s
  | .loop c, st, K => match firstId c with
    | some i => loopI (fun s k => execC call lf hints c s k) (lookL hints i) lf (canon (lookL hints i) st) K
    | none => none
  | .exit id, st, K => K (.exit id) st
  | .ret, st, K => K .ret st
  | _, _, _ => none
/-- The way to a loop in a function's code. -/
inductive Step where
  | fst
  | snd
  | thn
  | els
  | inl (m : Nat)
def execFrom (call : CallR H) (lf : Nat) (hints : List (Nat × List Nat)) (m : Nat) : List Step → Code → St → (Ex → St → Option R) → Option R
  | p, .block id c, st, K => execFrom call lf hints m p c st fun e s => match e with
    | .exit j => cond (Nat.beq j id) (K .normal s) (K (.exit j) s)
    | e => K e s
  | [], .loop c, st, K => match firstId c with
    | some i => loopI (fun s k => execC P H call lf hints c s k) (lookL hints i) m st K
    | none => none
  | .fst :: p, .seq a b, st, K => execFrom call lf hints m p a st fun e s => match e with
    | .normal => execC P H call lf hints b s K
    | e => K e s
  | .snd :: p, .seq a b, st, K => execFrom call lf hints m p b st K
  | .thn :: p, .cond _ x _, st, K => execFrom call lf hints m p x st K
  | .els :: p, .cond _ _ y, st, K => execFrom call lf hints m p y st K
  | .inl m' :: p, .loop c, st, K => match firstId c with
    | some i => execFrom call lf hints m p c st fun e s => match e with
      | .normal => loopI (fun s k => execC P H call lf hints c s k) (lookL hints i) m' (canon (lookL hints i) s) K
      | e => K e s
    | none => none
  | _, _, _, _ => none
/-- Do all operations put into slots below N? -/
def dsts (N : Nat) : Code → Bool
  | .region _ ops _ => ops.toList.all fun o => match o.dst with
    | some d => Nat.blt d N
    | none => true
  | .seq a b => dsts N a && dsts N b
  | .cond _ a b => dsts N a && dsts N b
  | .block _ c => dsts N c
  | .loop c => dsts N c
  | .skip => true
  | .exit _ => true
  | .ret => true
  | _ => false
/-- The leaves that a function is handed. -/
def inLeaves : (ts : List Ty) → den (tupTy ts) → List V
  | [], _ => []
  | [t], x => [leafV t x 0]
  | t :: u :: ts, x => leafV t x.1 0 :: inLeaves (u :: ts) x.2
def parSlots : List (Bool × List V) → Nat → Wr
  | [], _ => []
  | (ag, vs) :: r, i => (sl i, .s (mkS ag vs)) :: parSlots r (i + 1)
/-- What the result variables hold. -/
def resS (st : St) : List ResultVar → Option (List S)
  | [] => some []
  | .tmp t :: r => match resS st r with
    | some xs => some (evS st (.tmp t) :: xs)
    | none => none
  | .cell p T :: r => match evV st (.tmp p), resS st r with
    | .bptr β off, some xs => match st.f (bl β) with
      | .box (.flds ws) => cond (ldOk P T && Nat.ble (off + sizeT P T) ws.length) (some (mkS (aggT P T) ((ws.drop off).take (sizeT P T)) :: xs)) none
      | _ => none
    | _, _ => none
/-- Each slice of a result is a row of its own (or nil). -/
def ownsAll : List V → List Nat → Bool
  | [], _ => true
  | .own κ :: vs, ks => !(ks.any fun j => Nat.beq j κ) && ownsAll vs (κ :: ks)
  | .cut κ 0 _ :: vs, ks => !(ks.any fun j => Nat.beq j κ) && ownsAll vs (κ :: ks)
  | .nil :: vs, ks | .int _ _ :: vs, ks | .bool _ :: vs, ks | .str _ :: vs, ks => ownsAll vs ks
  | _, _ => false
def retC (f : Nat) (fn : Func) (e : Ex) (st : St) : Option (den (resTy H f)) := match e with
  | .ret => match resS P st fn.results.toList with
    | some ss => match argLeaves P fn.resultTypes.toList ss with
      | some vs => cond (ownsAll vs []) (packs st.f (resTy H f) vs) none
      | none => none
    | none => none
  | _ => none
end
def frun (P : Program) (H : Hints) : Nat → CallR H
  | 0 => fun _ _ => none
  | n + 1 => fun f x => match P.funcs[f]? with
    | none => none
    | some fn => match fn.body with
      | none => none
      | some c => cond (fits P fn.params.toList (H.par f) && (fits P fn.resultTypes.toList (H.res f) && ((H.par f).all goodTy && ((H.res f).all goodTy && dsts fn.ntmps c))))
          (execC P H (frun P H n) n (H.live f) c ⟨ofList (parSlots (cutLeaves P fn.params.toList (inLeaves (H.par f) x)) 0), 0⟩ (retC P H f fn)) none
/-- A function from one of its loops on. -/
def frunAt (P : Program) (H : Hints) (n f : Nat) (p : List Step) (m : Nat) (st : St) : Option (den (resTy H f)) := match P.funcs[f]? with
  | none => none
  | some fn => match fn.body with
    | none => none
    | some c => execFrom P H (frun P H n) n (H.live f) m p c st (retC P H f fn)
end Go.Proofs.Ytlkjkhmifhmjbaa.V
