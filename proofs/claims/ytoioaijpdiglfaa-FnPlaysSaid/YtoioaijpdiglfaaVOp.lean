/- Every operation: the machine does what the interpreter does. -/
import Derived.Test.YtoioaijpdiglfaaVCallC
set_option linter.unusedVariables false
set_option linter.unusedSimpArgs false
namespace Go.Proofs.Ytoioaijpdiglfaa.V
open Go Go.RowKit
theorem map1 {α β : Type} {g : α → β} {xs : Array α} {y : β} (h : xs.toList.map g = [y]) : ∃ x, xs = #[x] ∧ g x = y := by
  have hl : xs.toList.length = 1 := by have := congrArg List.length h; simpa using this
  cases e : xs.toList with
  | nil => rw [e] at hl; cases hl
  | cons x r => cases r with
    | cons _ _ => rw [e] at hl; simp at hl
    | nil =>
      rw [e] at h
      exact ⟨x, by rw [← Array.toArray_toList (xs := xs), e], by simpa using h⟩
theorem map2 {α β : Type} {g : α → β} {xs : Array α} {y z : β} (h : xs.toList.map g = [y, z]) : ∃ x x', xs = #[x, x'] ∧ g x = y ∧ g x' = z := by
  have hl : xs.toList.length = 2 := by have := congrArg List.length h; simpa using this
  cases e : xs.toList with
  | nil => rw [e] at hl; cases hl
  | cons x r => cases r with
    | nil => rw [e] at hl; simp at hl
    | cons x' r => cases r with
      | cons _ _ => rw [e] at hl; simp at hl
      | nil =>
        rw [e] at h
        simp only [List.map_cons, List.map_nil, List.cons.injEq, and_true] at h
        exact ⟨x, x', by rw [← Array.toArray_toList (xs := xs), e], h.1, h.2⟩
theorem arr1 {α : Type} {xs : Array α} {y : α} (h : xs.toList = [y]) : xs = #[y] := by rw [← Array.toArray_toList (xs := xs), h]
theorem arr2 {α : Type} {xs : Array α} {y z : α} (h : xs.toList = [y, z]) : xs = #[y, z] := by rw [← Array.toArray_toList (xs := xs), h]
theorem evV_one {st : St} {x : Operand} {v : V} (h : evS st x = .one v) : evV st x = v := by unfold evV; rw [h]
section
variable {P : Program} {H : Hints} {o : Oper} {M M' : Nat → Prop} {N key κ : Nat} {w0 w w' : World} {keep : Kp} {f : Nat → Val} {c : Ctx} {a : Act} {R : Type} {k : Wr → Option R} {r : R}
theorem end_ok (h : Rel M N w0 keep f c a w) (nx : Nat) {x : Operand} {kd : IntKind} {n : Int} (he : evV ⟨f, nx⟩ x = .int kd n) : EndOk a (some x) (some n) := by
  have := h.evv nx x
  rw [he] at this
  exact ⟨kd, this⟩
theorem does_builtin (h : Rel M N w0 keep f c a w) (hM : Fr M key) (hd : DstP N keep o.dst) {b : Builtin} {ca : Call} (ho : o.op = .call ca) (hcal : ca.callee = .builtin b) (nx : Nat)
    (hk : builtinC P f b (ca.args.toList.map (evS ⟨f, nx⟩)) ca.argTypes.toList (64 * key) o.dst k = some r) : Does P o M N w0 keep f key a w k r := by
  unfold builtinC at hk
  split at hk
  · rename_i x T e1 e2
    obtain ⟨y, ey, hy⟩ := map1 e1
    exact does_len h hM hd ho hcal ey (arr1 e2) nx (by rw [evV_one hy]; exact hk)
  · rename_i s x T T' e1 e2
    obtain ⟨y, z, ey, hy, hz⟩ := map2 e1
    have e2 := arr2 e2
    split at hk
    · rename_i e he
      split at hk
      · rename_i ts hts
        cases hc : (Nat.beq T T' && rowOk P e (tupTy ts)) with
        | false => rw [hc] at hk; cases hk
        | true =>
          rw [hc, cond_true] at hk
          simp only [Bool.and_eq_true] at hc
          have hT := Nat.eq_of_beq_eq_true hc.1
          subst hT
          exact does_append h hM hd ho hcal ey e2 nx he hc.2 (by rw [evV_one hy, evV_one hz]; exact hk)
      · cases hk
    · cases hk
  · rename_i x y T T' e1 e2
    obtain ⟨y', z', ey, hy, hz⟩ := map2 e1
    have e2 := arr2 e2
    split at hk
    · rename_i e he
      obtain ⟨hT, hk2⟩ := cond_some' hk
      clear hk
      have hT := Nat.eq_of_beq_eq_true hT
      subst hT
      split at hk2
      · rename_i ts hts
        obtain ⟨hc, hk3⟩ := cond_some' hk2
        simp only [Bool.and_eq_true] at hc
        exact does_copy h hM hd ho hcal ey e2 nx he hc.1 (Nat.eq_of_beq_eq_true hc.2) (by rw [evV_one hy, evV_one hz]; exact hk3)
      · cases hk2
    · cases hk
  · rename_i x y ats e1
    obtain ⟨y', z', ey, hy, hz⟩ := map2 e1
    exact does_minmax h hM hd true ho hcal ey nx (by rw [evV_one hy, evV_one hz]; exact hk)
  · rename_i x y ats e1
    obtain ⟨y', z', ey, hy, hz⟩ := map2 e1
    exact does_minmax h hM hd false ho hcal ey nx (by rw [evV_one hy, evV_one hz]; exact hk)
  · cases hk
theorem run_booleq {T : Nat} (hu : P.underlying T = some .bool) (p q : Bool) : (Op.equal T (.bool p) (.bool q)).run P w = .ok (p == q) w := by
  unfold Op.equal
  show (Op.equalIn (9999 + 1) T (.bool p) (.bool q)).run P w = _
  rw [Op.equalIn]
  simp only [Sem.run_bind, run_underlying hu, Result.andThen_ok, Sem.run_pure]
theorem does_nil (h : Rel M N w0 keep f c a w) (hM : Fr M key) (hd : DstP N keep o.dst) {x : Operand} (ho : o.op = .nilCheck x) (nx : Nat)
    (hk : nilC (evV ⟨f, nx⟩ x) (fun v => k (putV o.dst v)) = some r) : Does P o M N w0 keep f key a w k r := by
  have hX := h.evv nx x
  have hB := vB_mono (M' := Un M key) Le.un (h.evvb nx x)
  have hrun : ∀ ad, a.eval x = .pointer (some ad) → (execOp a.eval o).run P w = .ok (.value (.pointer (some ad))) w := by
    intro ad hp
    simp only [execOp, ho, hp, Sem.run_pure]
  unfold nilC at hk
  split at hk
  · rename_i β off e
    rw [e] at hX hB
    have hX : a.eval x = .pointer (some ⟨c.blk β, off, none⟩) := hX
    exact does_value h hM hd (hrun _ hX) (x := .one (.bptr β off)) rfl hB hk
  · rename_i κ i off e
    rw [e] at hX hB
    obtain ⟨b, n, cp, h1, h2, h3⟩ := hX
    exact does_value h hM hd (hrun _ h3) (x := .one (.eptr κ i off)) ⟨b, n, cp, h1, h2, rfl⟩ hB hk
  · rename_i t y off e
    rw [e] at hX hB
    obtain ⟨ad, cs, h1, h2⟩ := hX
    exact does_value h hM hd (hrun _ h1) (x := .one (.dptr t y off)) ⟨ad, cs, rfl, h2⟩ trivial hk
  · cases hk
theorem does_conv (h : Rel M N w0 keep f c a w) (hM : Fr M key) (hd : DstP N keep o.dst) {src dst : Nat} {x : Operand} (ho : o.op = .convert src dst x) (nx : Nat)
    (hk : convC P src dst (evV ⟨f, nx⟩ x) (fun v => k (putV o.dst v)) = some r) : Does P o M N w0 keep f key a w k r := by
  have hX := h.evv nx x
  unfold convC at hk
  split at hk
  · cases hk
  · rename_i d1 hs
    split at hk
    · rename_i kd hdst
      split at hk
      · rename_i k1 n e
        rw [e] at hX
        have hX : a.eval x = .int k1 n := hX
        refine does_plain h hM hd (v := .int kd (kd.wrap n)) ?_ rfl hk
        simp [execOp, ho, hX, Go.convert, run_underlying hs, run_underlying hdst, Conv.intToInt]
      · cases hk
    · cases hk
theorem does_str (h : Rel M N w0 keep f c a w) (hM : Fr M key) (hd : DstP N keep o.dst) {src dst : Nat} {x : Operand} (ho : o.op = .convert src dst x) (hdst : isStr P dst = true) (nx : Nat)
    (hk : strC P f src (evV ⟨f, nx⟩ x) (fun v => k (putV o.dst v)) = some r) : Does P o M N w0 keep f key a w k r := by
  have hX := h.evv nx x
  have hd' : P.underlying dst = some .string := by
    unfold isStr at hdst
    split at hdst
    · assumption
    · cases hdst
  unfold strC at hk
  split at hk
  · cases hk
  · rename_i e he
    have hs : P.underlying src = some (.slice e) := by
      unfold elemOf? at he
      split at he
      · rename_i e' hu; injection he with he; rw [hu, he]
      · cases he
    split at hk
    · rename_i heb
      split at hk
      · rename_i xs hxs
        obtain ⟨A, cp, inner, hv, _, _, hil, hcell, hel⟩ := readL_ok h hX hxs
        have hv : a.eval x = .slice A (xs : List Int).length cp := by injection hv
        have hinner : inner = (xs : List Int).map (Value.int .u8) := by
          have hil : inner.length = (xs : List Int).length := by simpa [width] using hil
          apply List.ext_getElem?
          intro j
          rw [List.getElem?_map]
          by_cases hj : j < (xs : List Int).length
          · have h1 := hel j _ (List.getElem?_eq_getElem hj)
            have h1 : (inner.drop (j * 1)).take 1 = [Value.int .u8 ((xs : List Int)[j])] := h1
            rw [Nat.mul_one, List.drop_eq_getElem_cons (by omega : j < inner.length)] at h1
            injection h1 with h1 _
            rw [List.getElem?_eq_getElem (by omega : j < inner.length), List.getElem?_eq_getElem hj, h1]; rfl
          · rw [List.getElem?_eq_none (by omega), List.getElem?_eq_none (by omega)]; rfl
        refine does_plain h hM hd (x := .str (strOfNums xs)) (v := .string (strOfNums xs)) ?_ rfl hk
        have hconv : (convert src dst (a.eval x)).run P w = .ok (.string (strOfNums xs)) w := by
          rw [hv, run_convert_bytes_string w src dst e A _ cp hs heb hd']
          cases hA : A with
          | none =>
            have hx0 : (xs : List Int) = [] := by
              cases hxx : (xs : List Int) with
              | nil => rfl
              | cons y ys =>
                exfalso
                obtain ⟨ad, e1, _⟩ := hcell 0 (.int .u8 y) (by rw [hinner, hxx]; rfl)
                rw [hA] at e1; cases e1
            rw [hx0]
            simp [Conv.bytesToString]
            rfl
          | some ad =>
            have hl := run_loadCells_list (P := P) w ad ((xs : List Int).map (Value.int .u8)) (fun j v hj => by
              obtain ⟨ad', e1, _, e2⟩ := hcell j v (by rw [hinner]; exact hj)
              rw [hA] at e1
              injection e1 with e1
              rw [e1]; exact e2)
            rw [List.length_map] at hl
            rw [run_bytesToString w ad _ cp xs hl, foldl_push_bytes]
            simp [strOfNums, ByteArray.empty, ByteArray.emptyWithCapacity]
            rfl
        simp only [execOp, ho, Sem.run_bind, hconv, Result.andThen_ok, Sem.run_pure]
      · cases hk
    · cases hk
theorem op_ok (call : CallR H) (hn : NiceG P H w0 keep) (hcall : ∀ fn x y, call fn x = some y → Meets P H fn x y) (h : Rel M N w0 keep f c a w) (hM : Fr M key) (hd : DstP N keep o.dst) (nx : Nat)
    (hk : opC P H call o ⟨f, nx⟩ (64 * key) k = some r) : Does P o M N w0 keep f key a w k r := by
  unfold opC at hk
  split at hk
  · rename_i x ho; exact does_move h hM hd (.inl ho) nx hk
  · rename_i x ho; exact does_move h hM hd (.inr ho) nx hk
  · rename_i x y z ho; exact does_pick h hM hd ho nx hk
  · rename_i T ho
    split at hk
    · rename_i n e hu
      split at hk
      · rename_i t ht
        cases hc : (scal t && zerosT P T (List.replicate n t)) with
        | false => rw [hc] at hk; cases hk
        | true =>
          rw [hc, cond_true] at hk
          simp only [Bool.and_eq_true] at hc
          exact does_allocArr h hM hd ho hc.1 hc.2 hk
      · cases hk
    · split at hk
      · rename_i ts hts
        cases hc : zerosT P T ts with
        | false => rw [hc] at hk; cases hk
        | true =>
          rw [hc, cond_true] at hk
          exact does_alloc (t := .unit) h hM hd ho hc hk
      · cases hk
  · rename_i T x ho
    cases hc : ((leavesS (evS ⟨f, nx⟩ x)).all okLeaf && !(leavesS (evS ⟨f, nx⟩ x)).isEmpty) with
    | false => rw [hc] at hk; cases hk
    | true =>
      rw [hc, cond_true] at hk
      simp only [Bool.and_eq_true] at hc
      exact does_box h hM hd ho nx rfl hc.1 (by intro e; rw [e] at hc; simp at hc) hk
  · rename_i T parts ho
    split at hk
    · rename_i n e hu
      split at hk
      · rename_i t ht
        cases hc : (scal t && (Nat.beq parts.size 0 && zerosT P T (List.replicate n t) && Nat.blt 0 (sizeT P e))) with
        | false => rw [hc] at hk; cases hk
        | true =>
          rw [hc, cond_true] at hk
          simp only [Bool.and_eq_true] at hc
          exact does_buildArr h hM hd ho hu hc.1 (Nat.eq_of_beq_eq_true hc.2.1.1) hc.2.1.2 (by simpa [Nat.blt_eq] using hc.2.2) hk
      · cases hk
    · rename_i fs hu
      split at hk
      · rename_i ts pl hts hpl
        cases hc : zerosT P T ts with
        | false => rw [hc] at hk; cases hk
        | true =>
          rw [hc, cond_true] at hk
          split at hk
          · rename_i vs hvs
            exact does_build h hM hd ho nx hu hpl hc hvs hk
          · cases hk
      · cases hk
    · cases hk
  · rename_i T n parts ho
    split at hk
    · rename_i e he
      split at hk
      · rename_i ts hts
        obtain ⟨hc, hk⟩ := cond_some' hk
        simp only [Bool.and_eq_true] at hc
        obtain ⟨h1, h3, h4, h5, h6⟩ := hc
        split at hk
        · rename_i xs hxs
          exact does_buildSlice h hM hd ho nx he h1 (Nat.eq_of_beq_eq_true h3) h4 (by simpa using h5) (Nat.le_of_ble_eq_true h6) hxs hk
        · cases hk
      · cases hk
    · cases hk
  · rename_i T x ho; exact does_load h hM hd ho nx hk
  · rename_i T x y ho
    split at hk
    · rename_i hdst; exact does_store h hM hdst ho nx hk
    · cases hk
  · rename_i op T x y T' ho
    split at hk
    · rename_i hT
      split at hk
      · rename_i p q e1 e2
        have hX := h.evv nx x
        have hY := h.evv nx y
        rw [e1] at hX
        rw [e2] at hY
        have hX : a.eval x = .bool p := hX
        have hY : a.eval y = .bool q := hY
        have hu : P.underlying T = some .bool := by
          unfold isBool at hT
          split at hT
          · assumption
          · cases hT
        split at hk
        · exact does_plain h hM hd (v := .bool (p == q)) (by simp [execOp, ho, hX, hY, run_booleq hu, eqGuard, Go.binOp]) rfl hk
        · exact does_plain h hM hd (v := .bool (p != q)) (by simp [execOp, ho, hX, hY, run_booleq hu, eqGuard, Go.binOp]; cases p <;> cases q <;> rfl) rfl hk
        · cases hk
      · cases hk
    · exact does_bin h hM hd ho nx hk
  · rename_i op T x ho; exact does_un h hM hd ho nx hk
  · rename_i T x lo hi mx ho
    split at hk
    · cases hk
    · cases lo with
      | none => cases hi with
        | none => exact does_slice h hM hd ho nx (l := none) (u := none) trivial trivial hk
        | some hi =>
          cases e2 : evV ⟨f, nx⟩ hi with
          | int kd n => simp only [Option.map_none, Option.map_some, e2] at hk; exact does_slice h hM hd ho nx (l := none) trivial (end_ok h nx e2) hk
          | _ => simp only [Option.map_none, Option.map_some, e2] at hk; cases hk
      | some lo => cases hi with
        | none =>
          cases e1 : evV ⟨f, nx⟩ lo with
          | int kd n => simp only [Option.map_none, Option.map_some, e1] at hk; exact does_slice h hM hd ho nx (u := none) (end_ok h nx e1) trivial hk
          | _ => simp only [Option.map_none, Option.map_some, e1] at hk; cases hk
        | some hi =>
          cases e1 : evV ⟨f, nx⟩ lo with
          | int kd n =>
            cases e2 : evV ⟨f, nx⟩ hi with
            | int kd' n' => simp only [Option.map_some, e1, e2] at hk; exact does_slice h hM hd ho nx (end_ok h nx e1) (end_ok h nx e2) hk
            | _ => simp only [Option.map_some, e1, e2] at hk; cases hk
          | _ => simp only [Option.map_some, e1] at hk; cases hk
  · rename_i x ho; exact does_nil h hM hd ho nx hk
  · rename_i src dst x ho
    split at hk
    · rename_i hdst; exact does_str h hM hd ho hdst nx hk
    · exact does_conv h hM hd ho nx hk
  · rename_i T x fd ho; exact does_field h hM hd ho nx hk
  · rename_i T x i ho
    split at hk
    · rename_i kd n e; exact does_index h hM hd ho nx e hk
    · cases hk
  · rename_i T x i ho; exact does_strindex h hM hd ho nx hk
  · rename_i T n m ho
    split at hk
    · rename_i e kd i kd' j he e1 e2
      split at hk
      · rename_i ts hts
        obtain ⟨hc, hk⟩ := cond_some' hk
        split at hk
        · rename_i hmn
          split at hk
          · rename_i h0
            split at hk
            · rename_i hb
              exact does_make h hM hd ho nx e1 e2 he hc hmn h0 hb hk
            · cases hk
          · cases hk
        · cases hk
      · cases hk
    · cases hk
  · rename_i x i ho; exact does_extract h hM hd ho nx hk
  · rename_i ca ho
    split at hk
    · rename_i b hcal; exact does_builtin h hM hd ho hcal nx hk
    · rename_i fn hcal
      split at hk
      · rename_i hx; exact does_idx hn.nice h hM hd ho hcal nx hx hk
      · exact does_call call hn hcall h hM hd ho hcal nx hk
    · cases hk
  · cases hk
end
end Go.Proofs.Ytoioaijpdiglfaa.V
