/- Operations on numbers, strings, truth values; parts of tuples. -/
import Derived.Test.YtoioaijpdiglfaaVOps1
set_option linter.unusedVariables false
set_option linter.unusedSimpArgs false
namespace Go.Proofs.Ytoioaijpdiglfaa.V
open Go Go.RowKit
section
variable {P : Program} {w : World} {c : Ctx} {R : Type} {r : R}
/-- A value of the interpreter that needs no memory. -/
def plainV : V → Option Value
  | .int k n => some (.int k n)
  | .bool b => some (.bool b)
  | .str s => some (.string s)
  | _ => none
theorem plainV_ok {v : V} {x : Value} (h : plainV v = some x) : VR w c v x := by
  cases v <;> simp [plainV] at h <;> exact h.symm
theorem plainV_b {v : V} {x : Value} (h : plainV v = some x) (M : Nat → Prop) : vB M v := by
  cases v <;> simp [plainV] at h <;> trivial
theorem intOp_run (op : BinOp) (kd : IntKind) (a b : Int) (t : TypeId) {k : V → Option R} (hs : op ≠ .shl ∧ op ≠ .shr) (h : intOpC op kd a b k = some r) : ∃ v x, (Go.binOp op t (.int kd a) (.int kd b)).run P w = .ok x w ∧ plainV v = some x ∧ k v = some r := by
  cases op <;> simp only [intOpC] at h
  case shl => exact absurd rfl hs.1
  case shr => exact absurd rfl hs.2
  case quo =>
    split at h
    · cases h
    · rename_i hb
      exact ⟨_, _, by simp [Go.binOp, Op.intDiv, hb], rfl, h⟩
  case rem =>
    split at h
    · cases h
    · rename_i hb
      exact ⟨_, _, by simp [Go.binOp, Op.intDiv, hb], rfl, h⟩
  all_goals first
    | (cases h; done)
    | exact ⟨_, _, by simp [Go.binOp, Op.intArith, Op.intCmp, Op.intBits], rfl, h⟩
theorem bin_run (op : BinOp) (x y : V) (X Y : Value) (t : TypeId) {k : V → Option R} (hx : VR w c x X) (hy : VR w c y Y) (h : binC op x y k = some r) : ∃ v z, (Go.binOp op t X Y).run P w = .ok z w ∧ plainV v = some z ∧ k v = some r := by
  unfold binC at h
  split at h
  · rename_i kd a kd' b
    have hX : X = .int kd a := hx
    have hY : Y = .int kd' b := hy
    subst hX hY
    split at h
    · split at h
      · cases h
      · rename_i hb
        exact ⟨_, _, by simp [Go.binOp, Op.shift, hb], rfl, h⟩
    · split at h
      · cases h
      · rename_i hb
        exact ⟨_, _, by simp [Go.binOp, Op.shift, hb], rfl, h⟩
    · rename_i h1 h2
      by_cases e : kd = kd'
      · subst e
        simp only [decide_true, cond_true] at h
        exact intOp_run _ _ _ _ t ⟨h1, h2⟩ h
      · simp [e] at h
  · rename_i a b
    have hX : X = .string a := hx
    have hY : Y = .string b := hy
    subst hX hY
    split at h
    · split at h
      · rename_i hb
        refine ⟨_, _, ?_, rfl, h⟩
        have hm : ¬ (((a.size + b.size : Nat) : Int) > IntKind.i64.max) := by
          show ¬ (_ > (9223372036854775807 : Int)); omega
        unfold Go.binOp Op.stringOp
        simp only [if_neg hm]
        rfl
      · cases h
    · exact ⟨_, _, by simp [Go.binOp, Op.stringOp], rfl, h⟩
    · exact ⟨_, _, by simp [Go.binOp, Op.stringOp], rfl, h⟩
    · cases h
  · cases h
theorem eqGuard_run {op : BinOp} {t : TypeId} {x y : Operand} {X Y : Value} (h : (∃ k n, X = .int k n) ∨ ∃ s, X = .string s) : (eqGuard op t x y X Y).run P w = .ok () w := by
  rcases h with ⟨k, n, rfl⟩ | ⟨s, rfl⟩ <;> · unfold eqGuard; cases op <;> simp
end
section
variable {P : Program} {o : Oper} {M : Nat → Prop} {N key : Nat} {w0 w : World} {keep : Kp} {f : Nat → Val} {c : Ctx} {a : Act} {R : Type} {k : Wr → Option R} {r : R}
theorem does_plain (h : Rel M N w0 keep f c a w) (hM : Fr M key) (hd : DstP N keep o.dst) {x : V} {v : Value} (hrun : (execOp a.eval o).run P w = .ok (.value v) w) (hx : plainV x = some v) (hk : k (putV o.dst x) = some r) : Does P o M N w0 keep f key a w k r :=
  does_value h hM hd hrun (x := .one x) (plainV_ok hx) (plainV_b hx _) hk
theorem does_bin (h : Rel M N w0 keep f c a w) (hM : Fr M key) (hd : DstP N keep o.dst) {op : BinOp} {T T' : TypeId} {x y : Operand} (ho : o.op = .binOp op T x y T') (nx : Nat) (hk : binC op (evV ⟨f, nx⟩ x) (evV ⟨f, nx⟩ y) (fun v => k (putV o.dst v)) = some r) : Does P o M N w0 keep f key a w k r := by
  have hX := h.evv nx x
  obtain ⟨v, z, h1, h2, h3⟩ := bin_run (P := P) op _ _ _ _ T hX (h.evv nx y) hk
  refine does_plain h hM hd (v := z) ?_ h2 h3
  have hg : (∃ kd n, a.eval x = .int kd n) ∨ ∃ s, a.eval x = .string s := by
    unfold binC at hk
    split at hk
    · rename_i e _; rw [e] at hX; exact .inl ⟨_, _, hX⟩
    · rename_i e _; rw [e] at hX; exact .inr ⟨_, hX⟩
    · cases hk
  simp [execOp, ho, eqGuard_run hg, h1]
theorem does_un (h : Rel M N w0 keep f c a w) (hM : Fr M key) (hd : DstP N keep o.dst) {op : UnOp} {T : TypeId} {x : Operand} (ho : o.op = .unOp op T x) (nx : Nat)
    (hk : (match (generalizing := false) op, evV ⟨f, nx⟩ x with
      | .not, .bool b => k (putV o.dst (.bool !b))
      | .neg, .int kd n => k (putV o.dst (.int kd (kd.wrap (0 - n))))
      | _, _ => none) = some r) : Does P o M N w0 keep f key a w k r := by
  have hX := h.evv nx x
  split at hk
  · rename_i b e
    rw [e] at hX
    have hX : a.eval x = .bool b := hX
    exact does_plain h hM hd (v := .bool !b) (by simp [execOp, ho, hX, Op.unary]) rfl hk
  · rename_i kd n e
    rw [e] at hX
    have hX : a.eval x = .int kd n := hX
    exact does_plain h hM hd (v := .int kd (kd.wrap (0 - n))) (by simp [execOp, ho, hX, Op.unary, Op.intArith]) rfl hk
  · cases hk
theorem does_pick (h : Rel M N w0 keep f c a w) (hM : Fr M key) (hd : DstP N keep o.dst) {x y z : Operand} (ho : o.op = .pick x y z) (nx : Nat)
    (hk : (match evV ⟨f, nx⟩ x with
      | .bool v => if v = true then k (putS o.dst (evS ⟨f, nx⟩ y)) else k (putS o.dst (evS ⟨f, nx⟩ z))
      | _ => none) = some r) : Does P o M N w0 keep f key a w k r := by
  have hX := h.evv nx x
  split at hk
  · rename_i b e
    rw [e] at hX
    have hX : a.eval x = .bool b := hX
    split at hk
    · rename_i hb
      subst hb
      exact does_value h hM hd (v := a.eval y) (by simp [execOp, ho, hX, asBool]) (h.ev nx y) (sB_mono Le.un (h.evb nx y)) hk
    · rename_i hb
      have hb : b = false := by cases b <;> simp_all
      subst hb
      exact does_value h hM hd (v := a.eval z) (by simp [execOp, ho, hX, asBool]) (h.ev nx z) (sB_mono Le.un (h.evb nx z)) hk
  · cases hk
theorem does_extract (h : Rel M N w0 keep f c a w) (hM : Fr M key) (hd : DstP N keep o.dst) {x : Operand} {i : Nat} (ho : o.op = .extract x i) (nx : Nat)
    (hk : (match evS ⟨f, nx⟩ x with
      | .tup cs => match cs[i]? with
        | some (ag, vs) => k (putS o.dst (mkS ag vs))
        | none => none
      | _ => none) = some r) : Does P o M N w0 keep f key a w k r := by
  have hX := h.ev nx x
  have hB := h.evb nx x
  split at hk
  · rename_i cs e
    rw [e] at hX hB
    obtain ⟨ys, hy, hall⟩ := hX
    split at hk
    · rename_i ag vs ei
      obtain ⟨y, hyi, ls, h1, h2, h3⟩ := hall.get ei
      have hmem : (ag, vs) ∈ cs := List.mem_of_getElem? ei
      have hb : ∀ v ∈ vs, vB (Un M key) v := fun v hv => vB_mono Le.un (hB _ hmem v hv)
      refine does_value h hM hd (v := y) (x := mkS ag vs) (by simp [execOp, ho, hy, Instr.extract, hyi]) ?_ ?_ hk
      · cases ag with
        | true => exact ⟨ls, h2 rfl, h1⟩
        | false =>
          unfold mkS
          split
          · contradiction
          · split
            · rename_i v
              cases ls with
              | nil => exact h1.elim
              | cons u ls =>
                cases ls with
                | nil =>
                  rw [h3 rfl u rfl]; exact h1.1
                | cons _ _ => exact h1.2.elim
            · trivial
      · cases ag with
        | true => exact hb
        | false =>
          unfold mkS
          split
          · contradiction
          · split
            · exact hb _ (List.mem_singleton_self _)
            · trivial
    · cases hk
  · cases hk
end
end Go.Proofs.Ytoioaijpdiglfaa.V
