/- A small interpreter of the model's code over typed data: numbers, strings, lists. Its answers are shown to be the machine's in the texts that follow. -/
import Derived.WalkKit
import Derived.KernelRfl
set_option linter.unusedVariables false
namespace Go.Proofs.Ytoioaijpdiglfaa.V
open Go

/-! ### types and data -/
inductive Ty where
  | int (k : IntKind)
  | bool
  | str
  | sl (e : Nat) (t : Ty)
  | pair (a b : Ty)
  | unit
  | ptr (T : Nat) (t : Ty)
@[reducible] def den : Ty → Type
  | .int _ => Int
  | .bool => Bool
  | .str => ByteArray
  | .sl _ t => List (den t)
  | .pair a b => den a × den b
  | .unit => Unit
  | .ptr _ t => den t
def width : Ty → Nat
  | .pair a b => width a + width b
  | .unit => 0
  | _ => 1
def Ty.same : Ty → Ty → Bool
  | .int k, .int k' => decide (k = k')
  | .bool, .bool => true
  | .str, .str => true
  | .sl e t, .sl e' t' => Nat.beq e e' && Ty.same t t'
  | .pair a b, .pair a' b' => Ty.same a a' && Ty.same b b'
  | .unit, .unit => true
  | .ptr e t, .ptr e' t' => Nat.beq e e' && Ty.same t t'
  | _, _ => false
theorem Ty.same_eq {a : Ty} : ∀ {b : Ty}, Ty.same a b = true → a = b := by
  induction a with
  | int k => intro b h; cases b <;> simp [Ty.same] at h; rw [h]
  | bool => intro b h; cases b <;> simp [Ty.same] at h; rfl
  | str => intro b h; cases b <;> simp [Ty.same] at h; rfl
  | unit => intro b h; cases b <;> simp [Ty.same] at h; rfl
  | sl e t ih =>
    intro b h
    cases b <;> first | (simp [Ty.same] at h; done) | skip
    simp only [Ty.same, Bool.and_eq_true] at h
    rw [Nat.eq_of_beq_eq_true h.1, ih h.2]
  | ptr e t ih =>
    intro b h
    cases b <;> first | (simp [Ty.same] at h; done) | skip
    simp only [Ty.same, Bool.and_eq_true] at h
    rw [Nat.eq_of_beq_eq_true h.1, ih h.2]
  | pair p q ihp ihq =>
    intro b h
    cases b <;> first | (simp [Ty.same] at h; done) | skip
    simp only [Ty.same, Bool.and_eq_true] at h
    rw [ihp h.1, ihq h.2]
def castD {a b : Ty} (h : a = b) (x : den a) : den b := h ▸ x
def castTo (b : Ty) {a : Ty} (x : den a) : Option (den b) := if h : Ty.same a b = true then some (castD (Ty.same_eq h) x) else none
def dflt : (t : Ty) → den t
  | .int _ => (0 : Int)
  | .bool => false
  | .str => ByteArray.empty
  | .sl _ _ => []
  | .pair a b => (dflt a, dflt b)
  | .unit => ()
  | .ptr _ t => dflt t
def tupTy : List Ty → Ty
  | [] => .unit
  | [t] => t
  | t :: u :: ts => .pair t (tupTy (u :: ts))
/-- The leaves of a type of the program. -/
def tysOf (P : Program) : Nat → Nat → Option (List Ty)
  | 0, _ => none
  | n + 1, T =>
    match P.underlying T with
    | some (.int k) => some [.int k]
    | some .bool => some [.bool]
    | some .string => some [.str]
    | some (.slice e) => match tysOf P n e with
      | some ts => some [.sl e (tupTy ts)]
      | none => none
    | some (.pointer e) => match tysOf P n e with
      | some ts => some [.ptr e (tupTy ts)]
      | none => none
    | some (.struct fs) => fs.toList.foldr (fun f acc => match tysOf P n f.type, acc with
      | some a, some b => some (a ++ b)
      | _, _ => none) (some [])
    | _ => none
def tysL (P : Program) : List Nat → Option (List Ty)
  | [] => some []
  | T :: Ts => match tysOf P 6 T, tysL P Ts with
    | some a, some b => some (a ++ b)
    | _, _ => none
/-- Is it a struct (or an array): is its value an aggregate? -/
def aggT (P : Program) (T : Nat) : Bool :=
  match P.underlying T with
  | some (.struct _) => true
  | some (.array _ _) => true
  | _ => false
def sizeT (P : Program) (T : Nat) : Nat := match P.info? T with
  | some i => i.size
  | none => 0
def bytesT (P : Program) (T : Nat) : Nat := match P.info? T with
  | some i => i.bytes
  | none => 0
def fieldOff (P : Program) (T f : Nat) : Option Nat :=
  match P.underlying T with
  | some (.struct fs) => match fs[f]? with
    | some fd => cond (Nat.blt 0 (sizeT P fd.type)) (some fd.offset) none
    | none => none
  | _ => none
def elemOf? (P : Program) (T : Nat) : Option Nat :=
  match P.underlying T with
  | some (.slice e) => some e
  | _ => none
/-- Is it known, and is a value that is no aggregate of one cell? -/
def ldOk (P : Program) (T : Nat) : Bool := match P.underlying T with
  | some _ => aggT P T || Nat.beq (sizeT P T) 1
  | none => false
def isStr (P : Program) (T : Nat) : Bool :=
  match P.underlying T with
  | some .string => true
  | _ => false

/-! ### values, roots, boxes, states -/
inductive V where
  | undef
  | no
  | int (k : IntKind) (n : Int)
  | bool (b : Bool)
  | str (s : ByteArray)
  | nil
  | dat (e : Nat) (t : Ty) (xs : List (den t))
  | own (κ : Nat)
  | cut (κ lo hi : Nat)
  | row (κ g i o : Nat)
  | bptr (β off : Nat)
  | aptr (β i : Nat)
  | eptr (κ i off : Nat)
  | dptr (t : Ty) (x : den t) (off : Nat)
  | rptr (κ g i o j : Nat)
inductive S where
  | one (v : V)
  | agg (vs : List V)
  | arr (t : Ty) (xs : List (den t))
  | tup (cs : List (Bool × List V))
structure Root where
  e : Nat
  t : Ty
  xs : List (den t)
  deep : Bool
  gen : Nat
  hole : Option Nat
inductive Box where
  | flds (vs : List V)
  | arr (t : Ty) (xs : List (den t))
inductive Val where
  | none
  | s (x : S)
  | box (b : Box)
  | root (r : Root)
structure St where
  f : Nat → Val
  nx : Nat
def upd1 (f : Nat → Val) (l : Nat) (x : Val) : Nat → Val := fun j => cond (Nat.beq j l) x (f j)
def upds (f : Nat → Val) : List (Nat × Val) → Nat → Val
  | [] => f
  | (l, x) :: u => upds (upd1 f l x) u
def ofList : List (Nat × Val) → Nat → Val
  | [] => fun _ => .none
  | (l, x) :: u => fun j => cond (Nat.beq j l) x (ofList u j)
@[reducible] def sl (t : Nat) : Nat := 3 * t
@[reducible] def bl (β : Nat) : Nat := 3 * β + 1
@[reducible] def rl (κ : Nat) : Nat := 3 * κ + 2

def leafV : (t : Ty) → den t → Nat → V
  | .int k, n, _ => .int k n
  | .bool, b, _ => .bool b
  | .str, s, _ => .str s
  | .sl e t, xs, _ => .dat e t xs
  | .pair a b, x, o => cond (Nat.blt o (width a)) (leafV a x.1 o) (leafV b x.2 (o - width a))
  | .unit, _, _ => .undef
  | .ptr _ _, _, _ => .undef
def isSlice : V → Bool
  | .dat _ _ _ => true
  | _ => false
/-- A slice's data, read at a type. -/
def readL (f : Nat → Val) (e : Nat) (t : Ty) : V → Option (List (den t))
  | .nil => some []
  | .dat e' t' xs => cond (Nat.beq e' e) (castTo (.sl e t) (a := .sl e t') xs) none
  | .own κ => match f (rl κ) with
    | .root r => match r.hole with
      | none => cond (Nat.beq r.e e) (castTo (.sl e t) (a := .sl e r.t) r.xs) none
      | some _ => none
    | _ => none
  | .cut κ lo hi => match f (rl κ) with
    | .root r => match r.hole with
      | none => cond (Nat.beq r.e e) (castTo (.sl e t) (a := .sl e r.t) ((r.xs.take hi).drop lo)) none
      | some _ => none
    | _ => none
  | .row κ g i o => match f (rl κ) with
    | .root r => match r.hole with
      | none => cond (Nat.beq r.gen g && r.deep) (match leafV r.t (r.xs.getD i (dflt r.t)) o with
        | .dat e' t' xs => cond (Nat.beq e' e) (castTo (.sl e t) (a := .sl e t') xs) none
        | _ => none) none
      | some _ => none
    | _ => none
  | _ => none
def packV (f : Nat → Val) : (t : Ty) → V → Option (den t)
  | .int k, .int k' n => cond (decide (k' = k)) (some n) none
  | .bool, .bool b => some b
  | .str, .str s => some s
  | .sl e t, v => readL f e t v
  | _, _ => none
def packs (f : Nat → Val) : (t : Ty) → List V → Option (den t)
  | .pair a b, vs => match packs f a (vs.take (width a)), packs f b (vs.drop (width a)) with
    | some x, some y => some (x, y)
    | _, _ => none
  | .unit, [] => some ()
  | .int k, [v] => packV f (.int k) v
  | .bool, [v] => packV f .bool v
  | .str, [v] => packV f .str v
  | .sl e t, [v] => packV f (.sl e t) v
  | _, _ => none
def leavesS : S → List V
  | .one v => [v]
  | .agg vs => vs
  | _ => []
def mkS (agg : Bool) (vs : List V) : S :=
  match agg with
  | true => .agg vs
  | false => match vs with
    | [v] => .one v
    | _ => .one .undef
/-- A value that can be laid into a cell. -/
def okLeaf : V → Bool
  | .undef => false
  | .no => false
  | .row _ _ _ _ => false
  | .rptr _ _ _ _ _ => false
  | _ => true
def constV : Value → V
  | .int k n => .int k n
  | .bool b => .bool b
  | .string s => .str s
  | .slice none 0 0 => .nil
  | _ => .undef
def constS : Value → S
  | .agg cs => .agg (cs.toList.map constV)
  | v => .one (constV v)
def evS (st : St) : Operand → S
  | .tmp t => match st.f (sl t) with
    | .s x => x
    | _ => .one .undef
  | .const v => constS v
  | _ => .one .undef
def evV (st : St) (x : Operand) : V := match evS st x with
  | .one v => v
  | _ => .undef
def zeroV : Ty → V
  | .int k => .int k 0
  | .bool => .bool false
  | .str => .str ByteArray.empty
  | .sl _ _ => .nil
  | _ => .undef
/-- How many elements, as far as it is a slice. -/
def lenV (f : Nat → Val) : V → Option Nat
  | .nil => some 0
  | .dat _ _ xs => some xs.length
  | .own κ => match f (rl κ) with
    | .root r => some r.xs.length
    | _ => none
  | .cut _ lo hi => some (hi - lo)
  | .row κ g i o => match f (rl κ) with
    | .root r => match r.hole with
      | none => cond (Nat.beq r.gen g && r.deep) (match leafV r.t (r.xs.getD i (dflt r.t)) o with
        | .dat _ _ xs => some xs.length
        | _ => none) none
      | some _ => none
    | _ => none
  | _ => none

/-! ### operations: each hands its writes to 'k' -/
abbrev Wr := List (Nat × Val)
def putS (dst : Option Nat) (x : S) : Wr := match dst with
  | some d => [(sl d, .s x)]
  | none => []
def putV (dst : Option Nat) (x : V) : Wr := putS dst (.one x)
section
variable {R : Type} (P : Program)

def intOpC (op : BinOp) (kd : IntKind) (a b : Int) (k : V → Option R) : Option R :=
  match op with
  | .add => k (.int kd (kd.wrap (a + b)))
  | .sub => k (.int kd (kd.wrap (a - b)))
  | .mul => k (.int kd (kd.wrap (a * b)))
  | .quo => if b = 0 then none else k (.int kd (kd.wrap (a.tdiv b)))
  | .rem => if b = 0 then none else k (.int kd (a.tmod b))
  | .eql => k (.bool (a == b))
  | .neq => k (.bool (a != b))
  | .lss => k (.bool (decide (a < b)))
  | .leq => k (.bool (decide (a ≤ b)))
  | .gtr => k (.bool (decide (a > b)))
  | .geq => k (.bool (decide (a ≥ b)))
  | .and => k (.int kd (kd.wrap (BitVec.ofInt kd.bits a &&& BitVec.ofInt kd.bits b).toNat))
  | .or => k (.int kd (kd.wrap (BitVec.ofInt kd.bits a ||| BitVec.ofInt kd.bits b).toNat))
  | .xor => k (.int kd (kd.wrap (BitVec.ofInt kd.bits a ^^^ BitVec.ofInt kd.bits b).toNat))
  | _ => none
def binC (op : BinOp) (x y : V) (k : V → Option R) : Option R :=
  match x, y with
  | .int kd a, .int kd' b =>
    match op with
    | .shl => if b < 0 then none else k (.int kd (kd.wrap (a * 2 ^ (min b.toNat kd.bits))))
    | .shr => if b < 0 then none else k (.int kd (a.fdiv (2 ^ (min b.toNat kd.bits))))
    | op => cond (decide (kd = kd')) (intOpC op kd a b k) none
  | .str a, .str b =>
    match op with
    | .add => if a.size + b.size ≤ 9223372036854775807 then k (.str (a ++ b)) else none
    | .eql => k (.bool (a.toList == b.toList))
    | .neq => k (.bool (!(a.toList == b.toList)))
    | _ => none
  | _, _ => none
/-- A leaf of an element of a root: its slices are rows inside. -/
def ownLeaf (κ key i o : Nat) : V → V
  | .int k n => .int k n
  | .bool b => .bool b
  | .str s => .str s
  | .dat _ _ _ => .row κ key i o
  | _ => .undef
/-- A leaf of an element of a root. -/
def rootLeaf (κ : Nat) (r : Root) (i o : Nat) : V := cond r.deep (ownLeaf κ r.gen i o (leafV r.t (r.xs.getD i (dflt r.t)) o)) (leafV r.t (r.xs.getD i (dflt r.t)) o)
def scal : Ty → Bool
  | .int _ => true
  | .bool => true
  | .str => true
  | _ => false
def loadC (f : Nat → Val) (T : Nat) (p : V) (k : S → Option R) : Option R :=
  cond (ldOk P T) (match p with
  | .bptr β off => match f (bl β) with
    | .box (.flds vs) => cond (Nat.ble (off + sizeT P T) vs.length) (k (mkS (aggT P T) ((vs.drop off).take (sizeT P T)))) none
    | _ => none
  | .aptr β i => match f (bl β) with
    | .box (.arr t xs) => cond (aggT P T) none (if i < xs.length then k (.one (leafV t (xs.getD i (dflt t)) 0)) else none)
    | _ => none
  | .dptr t x off => cond (Nat.ble (off + sizeT P T) (width t)) (k (mkS (aggT P T) ((List.range (sizeT P T)).map fun j => leafV t x (off + j)))) none
  | .eptr κ i off => match f (rl κ) with
    | .root r => match r.hole with
      | none => cond (Nat.ble (off + sizeT P T) (width r.t)) (k (mkS (aggT P T) ((List.range (sizeT P T)).map fun j => rootLeaf κ r i (off + j)))) none
      | some _ => none
    | _ => none
  | .rptr κ g i o j => match f (rl κ) with
    | .root r => match r.hole with
      | none => cond (Nat.beq r.gen g && r.deep) (match leafV r.t (r.xs.getD i (dflt r.t)) o with
        | .dat _ t xs => cond (scal t && !aggT P T) (if j < xs.length then k (.one (leafV t (xs.getD j (dflt t)) 0)) else none) none
        | _ => none) none
      | some _ => none
    | _ => none
  | _ => none) none
def setLeaf (f : Nat → Val) : (t : Ty) → den t → Nat → V → Option (den t)
  | .pair a b, x, o, v => cond (Nat.blt o (width a)) (match setLeaf f a x.1 o v with
      | some y => some (y, x.2)
      | none => none) (match setLeaf f b x.2 (o - width a) v with
      | some y => some (x.1, y)
      | none => none)
  | .int k, _, _, v => packV f (.int k) v
  | .bool, _, _, v => packV f .bool v
  | .str, _, _, v => packV f .str v
  | .sl e t, _, _, v => packV f (.sl e t) v
  | .unit, _, _, _ => none
  | .ptr _ _, _, _, _ => none
/-- A byte of a string, as a number. -/
def byteAt (s : ByteArray) (i : Nat) : Int := if h : i < s.size then ((s[i]'h).toNat : Int) else 0
/-- A scalar's type. -/
def flat : Ty → Bool
  | .int _ => true
  | .bool => true
  | .str => true
  | .pair a b => flat a && flat b
  | .sl _ _ => false
  | .unit => true
  | .ptr _ _ => false
/-- No pointer in it. -/
def noP : Ty → Bool
  | .pair a b => noP a && noP b
  | .sl _ t => noP t
  | .ptr _ _ => false
  | _ => true
/-- Can it be moved into a deep row: a datum, nil, or a root of the call's own, whole? -/
def moveOk (f : Nat → Val) : V → Bool
  | .int _ _ => true
  | .bool _ => true
  | .str _ => true
  | .nil => true
  | .own κ => match f (rl κ) with
    | .root r => r.deep && r.hole.isNone
    | _ => false
  | _ => false
def ownKeys : List V → List Nat
  | [] => []
  | .own κ :: vs => κ :: ownKeys vs
  | _ :: vs => ownKeys vs
def nodupN : List Nat → Bool
  | [] => true
  | x :: l => !(l.any fun y => Nat.beq y x) && nodupN l
def dropKeys (ks : List Nat) : Wr := ks.map fun κ => (rl κ, .none)
def holeFits (h : Option Nat) (p : Nat) : Bool := match h with
  | none => true
  | some q => Nat.beq q p
def storeC (f : Nat → Val) (T : Nat) (p : V) (x : S) (k : Wr → Option R) : Option R :=
  cond (Nat.blt 0 (sizeT P T)) (match p with
  | .bptr β off => match f (bl β) with
    | .box (.flds vs) => cond (Nat.ble (off + sizeT P T) vs.length && (Nat.beq (leavesS x).length (sizeT P T) && (leavesS x).all okLeaf))
        (k [(bl β, .box (.flds (vs.take off ++ leavesS x ++ vs.drop (off + sizeT P T))))]) none
    | .box (.arr t xs) => match x with
      | .arr t' ys => cond (Nat.beq off 0) (match castTo (.sl 0 t) (a := .sl 0 t') ys with
        | some zs => if zs.length = xs.length ∧ sizeT P T = xs.length then k [(bl β, .box (.arr t zs))] else none
        | none => none) none
      | _ => none
    | _ => none
  | .aptr β i => match f (bl β) with
    | .box (.arr t xs) => cond (Nat.beq (sizeT P T) 1) (match packs f t (leavesS x) with
      | some y => if i < xs.length then k [(bl β, .box (.arr t (xs.set i y)))] else none
      | none => none) none
    | _ => none
  | .eptr κ i off => match f (rl κ) with
    | .root r => match x with
      | .one v => cond (Nat.blt off (width r.t) && Nat.beq (sizeT P T) 1) (match setLeaf f r.t (r.xs.getD i (dflt r.t)) off v with
        | some y => cond (flat r.t) (cond r.hole.isNone (k [(rl κ, .root { r with xs := r.xs.set i y })]) none)
            (cond (r.deep && holeFits r.hole (i * width r.t + off) && moveOk f v && nodupN (κ :: ownKeys [v])) (k (dropKeys (ownKeys [v]) ++ [(rl κ, .root { r with xs := r.xs.set i y, gen := r.gen + 1, hole := none })])) none)
        | none => none) none
      | .agg vs => cond (Nat.beq off 0 && Nat.beq (sizeT P T) (width r.t)) (match packs f r.t vs with
        | some y => cond (flat r.t) (cond r.hole.isNone (k [(rl κ, .root { r with xs := r.xs.set i y })]) none)
            (cond (r.deep && r.hole.isNone && vs.all (moveOk f) && nodupN (κ :: ownKeys vs)) (k (dropKeys (ownKeys vs) ++ [(rl κ, .root { r with xs := r.xs.set i y, gen := r.gen + 1, hole := none })])) none)
        | none => none) none
      | _ => none
    | _ => none
  | .rptr κ g i o j => match f (rl κ) with
    | .root r => match r.hole with
      | none => cond (Nat.beq r.gen g && r.deep && Nat.beq (sizeT P T) 1) (match leafV r.t (r.xs.getD i (dflt r.t)) o, x with
        | .dat e t xs, .one v => cond (scal t) (match packV f t v with
          | some y => if j < xs.length then (match setLeaf f r.t (r.xs.getD i (dflt r.t)) o (.dat e t (xs.set j y)) with
            | some z => k [(rl κ, .root { r with xs := r.xs.set i z })]
            | none => none) else none
          | none => none) none
        | _, _ => none) none
      | some _ => none
    | _ => none
  | _ => none) none
def indexC (f : Nat → Val) (T : Nat) (x : V) (i : Int) (k : V → Option R) : Option R :=
  match P.underlying T with
  | some (.array n e) => match x with
    | .bptr β off => match f (bl β) with
      | .box (.arr t xs) => cond (Nat.beq off 0 && Nat.beq (sizeT P e) 1) (if 0 ≤ i then (if i < (n : Int) then k (.aptr β i.toNat) else none) else none) none
      | _ => none
    | _ => none
  | some (.slice e) => match x with
    | .dat _ t xs => cond (Nat.beq (sizeT P e) (width t) && Nat.blt 0 (width t)) (if 0 ≤ i then (if i < (xs.length : Int) then k (.dptr t (xs.getD i.toNat (dflt t)) 0) else none) else none) none
    | .own κ => match f (rl κ) with
      | .root r => cond (Nat.beq (sizeT P e) (width r.t)) (if 0 ≤ i then (if i < (r.xs.length : Int) then k (.eptr κ i.toNat 0) else none) else none) none
      | _ => none
    | .cut κ lo hi => match f (rl κ) with
      | .root r => cond (Nat.beq (sizeT P e) (width r.t)) (if 0 ≤ i then (if i < ((hi - lo : Nat) : Int) then k (.eptr κ (lo + i.toNat) 0) else none) else none) none
      | _ => none
    | .row κ g i' o => match f (rl κ) with
      | .root r => match r.hole with
        | none => cond (Nat.beq r.gen g && r.deep) (match leafV r.t (r.xs.getD i' (dflt r.t)) o with
          | .dat _ t xs => cond (Nat.beq (sizeT P e) (width t) && scal t) (if 0 ≤ i then (if i < (xs.length : Int) then k (.rptr κ g i' o i.toNat) else none) else none) none
          | _ => none) none
        | some _ => none
      | _ => none
    | _ => none
  | _ => none
def bound (n : Nat) (i : Int) (k : Nat → Option R) : Option R := if 0 ≤ i then (if i ≤ (n : Int) then k i.toNat else none) else none
/-- The two ends of a cut. -/
def ends (n : Nat) (lo hi : Option Int) (k : Nat → Nat → Option R) : Option R := match lo, hi with
  | none, none => k 0 n
  | some l, none => bound n l fun l => k l n
  | none, some h => bound n h fun h => k 0 h
  | some l, some h => bound n h fun h => bound h l fun l => k l h
def sliceC (f : Nat → Val) (T : Nat) (x : V) (lo hi : Option Int) (k : V → Option R) : Option R :=
  match P.underlying T with
  | some .string => match x with
    | .str s => ends s.size lo hi fun l h => k (.str (s.extract l h))
    | _ => none
  | some (.slice e') => match x with
    | .dat e t xs => cond (Nat.beq (sizeT P e') (width t) && Nat.blt 0 (width t)) (ends xs.length lo hi fun l h => k (.dat e t ((xs.take h).drop l))) none
    | .own κ => match f (rl κ) with
      | .root r => cond (Nat.beq (sizeT P e') (width r.t)) (ends r.xs.length lo hi fun l h => k (.cut κ l h)) none
      | _ => none
    | .cut κ lo' hi' => match f (rl κ) with
      | .root r => cond (Nat.beq (sizeT P e') (width r.t)) (ends (hi' - lo') lo hi fun l h => k (.cut κ (lo' + l) (lo' + h))) none
      | _ => none
    | _ => none
  | _ => none
/-- A literal's parts, all of them, in order. -/
def inOrder : List (Nat × List V) → Nat → Bool
  | [], _ => true
  | p :: r, i => Nat.beq p.1 i && inOrder r (i + 1)
def buildL (f : Nat → Val) (t : Ty) : List (Nat × List V) → Option (List (den t))
  | [] => some []
  | p :: r => match packs f t p.2, buildL f t r with
    | some x, some xs => some (x :: xs)
    | _, _ => none
/-- The roots that a row of rows is made of, and whether it is deep: told of what is appended to, and of what is appended. -/
def takeS (f : Nat → Val) : V → Option (List Nat × Bool)
  | .nil => some ([], true)
  | .own κ => match f (rl κ) with
    | .root r => cond r.hole.isNone (some ([κ], r.deep)) none
    | _ => none
  | .cut κ 0 _ => match f (rl κ) with
    | .root r => cond r.hole.isNone (some ([κ], r.deep)) none
    | _ => none
  | _ => none
def takeX (f : Nat → Val) : V → Option (List Nat × Bool)
  | .nil => some ([], true)
  | .dat _ _ _ => some ([], false)
  | .own κ => match f (rl κ) with
    | .root r => cond r.hole.isNone (some ([κ], r.deep)) none
    | _ => none
  | _ => none
def appendC (f : Nat → Val) (key : Nat) (e : Nat) (t : Ty) (bytes : Nat) (s x : V) (dst : Option Nat) (k : Wr → Option R) : Option R :=
  match readL f e t s, readL f e t x with
  | some xs, some ys => if (xs.length + ys.length) * bytes ≤ 140737488355328 then (cond (flat t) (match s with
    | .nil => k ([(rl key, .root ⟨e, t, ys, true, 0, none⟩)] ++ putV dst (.own key))
    | .own κ => k ([(rl κ, .none), (rl key, .root ⟨e, t, xs ++ ys, true, 0, none⟩)] ++ putV dst (.own key))
    | .cut κ 0 hi => k ([(rl κ, .none), (rl key, .root ⟨e, t, xs ++ ys, true, 0, none⟩)] ++ putV dst (.own key))
    | .row κ g i o => match f (rl κ) with
      | .root r => match setLeaf f r.t (r.xs.getD i (dflt r.t)) o .nil with
        | some z => k ([(rl κ, .root { r with xs := r.xs.set i z, hole := some (i * width r.t + o) }), (rl key, .root ⟨e, t, xs ++ ys, true, 0, none⟩)] ++ putV dst (.own key))
        | none => none
      | _ => none
    | _ => none) (match takeS f s, takeX f x with
      | some (ks, sd), some (kx, xd) => cond (nodupN (ks ++ kx)) (k (dropKeys (ks ++ kx) ++ [(rl key, .root ⟨e, t, xs ++ ys, sd && xd, 0, none⟩)] ++ putV dst (.own key))) none
      | _, _ => none)) else none
  | _, _ => none
/-- What is laid into a literal's row of rows that only is read. -/
def shOk (f : Nat → Val) : V → Bool
  | .int _ _ => true
  | .bool _ => true
  | .str _ => true
  | .nil => true
  | .dat _ _ _ => true
  | .own κ => match f (rl κ) with
    | .root r => r.hole.isNone
    | _ => false
  | _ => false
/-- copy: as many as both have. -/
def copyC (f : Nat → Val) (e : Nat) (x y : V) (dst : Option Nat) (k : Wr → Option R) : Option R :=
  match x with
  | .own κ => match f (rl κ) with
    | .root r => cond (flat r.t && Nat.beq r.e e && r.hole.isNone && Nat.beq (width r.t) 1) (match readL f e r.t y with
      | some ys => k ([(rl κ, .root { r with xs := ys.take r.xs.length ++ r.xs.drop (min r.xs.length ys.length) })] ++ putV dst (.int .i64 (min r.xs.length ys.length : Nat)))
      | none => none) none
    | _ => none
  | .cut κ lo hi => match f (rl κ) with
    | .root r => cond (flat r.t && Nat.beq r.e e && r.hole.isNone && Nat.beq (width r.t) 1) (match readL f e r.t y with
      | some ys => k ([(rl κ, .root { r with xs := r.xs.take lo ++ ys.take (hi - lo) ++ r.xs.drop (lo + min (hi - lo) ys.length) })] ++ putV dst (.int .i64 (min (hi - lo) ys.length : Nat)))
      | none => none) none
    | _ => none
  | _ => none
def minmaxC (mx : Bool) (x y : V) (k : V → Option R) : Option R :=
  match x, y with
  | .int kd a, .int kd' b => cond (decide (kd = kd')) (match mx with
    | true => k (.int kd (if b > a then b else a))
    | false => k (.int kd (if b < a then b else a))) none
  | _, _ => none
def leafTys : Ty → List Ty
  | .pair a b => leafTys a ++ leafTys b
  | .unit => []
  | t => [t]
def zeroIs : Ty → Value → Bool
  | .int k, .int k' n => decide (k' = k) && decide (n = 0)
  | .bool, .bool b => !b
  | .str, .string s => Nat.beq s.size 0
  | .sl _ _, .slice none 0 0 => true
  | _, _ => false
def zerosAre : List Ty → List Value → Bool
  | [], [] => true
  | t :: ts, v :: vs => zeroIs t v && zerosAre ts vs
  | _, _ => false
def zeroOk (e : Nat) (t : Ty) : Bool := match P.info? e with
  | some i => match i.zero with
    | some z => zerosAre (leafTys t) z.cells.toList
    | none => false
  | none => false
/-- Does the element type's own row fit? -/
def rowOk (e : Nat) (t : Ty) : Bool := Nat.beq (sizeT P e) (width t) && Nat.blt 0 (width t) && Nat.blt 0 (bytesT P e) && zeroOk P e t && noP t
def builtinC (f : Nat → Val) (b : Builtin) (args : List S) (ats : List Nat) (key : Nat) (dst : Option Nat) (k : Wr → Option R) : Option R :=
  match b, args, ats with
  | .len, [.one x], [T] => match P.underlying T with
    | some .string => match x with
      | .str s => k (putV dst (.int .i64 s.size))
      | _ => none
    | some (.slice _) => match lenV f x with
      | some n => k (putV dst (.int .i64 n))
      | none => none
    | _ => none
  | .append, [.one s, .one x], [T, T'] => match elemOf? P T with
    | some e => match tysOf P 6 e with
      | some ts => cond (Nat.beq T T' && rowOk P e (tupTy ts)) (appendC f key e (tupTy ts) (bytesT P e) s x dst k) none
      | none => none
    | none => none
  | .copy, [.one x, .one y], [T, T'] => match elemOf? P T with
    | some e => cond (Nat.beq T T') (match tysOf P 6 e with
      | some ts => cond (rowOk P e (tupTy ts) && Nat.beq (width (tupTy ts)) 1) (copyC f e x y dst k) none
      | none => none) none
    | none => none
  | .max, [.one x, .one y], _ => minmaxC true x y fun v => k (putV dst v)
  | .min, [.one x, .one y], _ => minmaxC false x y fun v => k (putV dst v)
  | _, _, _ => none
end
end Go.Proofs.Ytoioaijpdiglfaa.V
