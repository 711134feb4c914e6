/- make, append, store, min and max. -/
import Derived.Test.YtlkjkhmifhmjbaaVOps7
set_option linter.unusedVariables false
set_option linter.unusedSimpArgs false
namespace Go.Proofs.Ytlkjkhmifhmjbaa.V
open Go Go.RowKit
section
variable {P : Program} {o : Oper} {M M' : Nat → Prop} {N key κ : Nat} {w0 w w' : World} {keep : Nat → Prop} {f : Nat → Val} {c : Ctx} {a : Act} {R : Type} {k : Wr → Option R} {r : R}
theorem does_make (h : Rel M N w0 keep f c a w) (hM : Fr M key) (hd : ∀ d, o.dst = some d → d < N) {T e : Nat} {t : Ty} {x y : Operand} {n m : Int} {kd kd' : IntKind} (ho : o.op = .makeSlice T x y) (nx : Nat) (hx : evV ⟨f, nx⟩ x = .int kd n) (hy : evV ⟨f, nx⟩ y = .int kd' m) (hT : elemOf? P T = some e) (hrow : rowOk P e t = true) (hw : leaf1 t = true) (hmn : m = n) (h0 : 0 ≤ n) (hb : n.toNat * bytesT P e ≤ 140737488355328)
    (hk : k ([(rl (64 * key), .root ⟨e, t, List.replicate n.toNat (dflt t), true, 0, none⟩)] ++ putV o.dst (.own (64 * key))) = some r) : Does P o M N w0 keep f key a w k r := by
  have hX := h.evv nx x
  have hY := h.evv nx y
  rw [hx] at hX
  rw [hy] at hY
  have hX : a.eval x = .int kd n := hX
  have hY : a.eval y = .int kd' m := hY
  subst hmn
  obtain ⟨i, z, hi, hz, hsz, hzs, hpos, hby, hby0, hzeros⟩ := rowOk_spec hrow
  have hu := elem_info hT
  obtain ⟨n, rfl⟩ := Int.eq_ofNat_of_zero_le h0
  rw [Int.toNat_natCast] at hb hk
  have hw1 : width t = 1 := by cases t <;> first | rfl | cases hw
  have hl1 : leafTys t = [t] := by cases t <;> first | rfl | cases hw
  obtain ⟨zv, hzv, hz1⟩ : ∃ zv, z.cells = #[zv] ∧ zeroIs t zv = true := by
    rw [hl1] at hzeros
    cases hzl : z.cells.toList with
    | nil => rw [hzl] at hzeros; cases hzeros
    | cons zv rest =>
      rw [hzl] at hzeros
      simp only [zerosAre, Bool.and_eq_true] at hzeros
      cases rest with
      | nil => exact ⟨zv, by rw [← Array.toArray_toList (xs := z.cells), hzl], hzeros.1⟩
      | cons _ _ => simp [zerosAre] at hzeros
  have hnb : n ≤ 140737488355328 := Nat.le_trans (Nat.le_mul_of_pos_right _ (by omega : 0 < bytesT P e)) hb
  have hzz : z = zv ∨ z.cells = #[zv] := .inr hzv
  have hrun : (execOp a.eval o).run P w = .ok (.value (.slice (some ⟨w.heap.size, 0, none⟩) n n)) (w.alloc (.cells (madeCells #[zv] n) e)) := by
    have hr := run_make (P := P) w T e i z hu hi hz kd kd' n n (by omega) (Int.le_refl _) (by
      have : (i.bytes : Int) * (n : Int) = ((n * bytesT P e : Nat) : Int) := by rw [hby, ← Int.natCast_mul, Nat.mul_comm]
      rw [this]; omega) (by omega)
    simp only [Int.toNat_natCast, hsz, hw1, Nat.mul_one, hzv] at hr
    simp only [execOp, ho, hX, hY, Sem.run_bind, hr, Result.andThen_ok, Sem.run_pure]
  have hml : (madeCells #[zv] n).toList = List.replicate n zv := by
    apply List.ext_getElem
    · simp [madeCells]
    · intro j h1 h2
      simp [madeCells, Nat.mod_one]
  obtain ⟨c', h', hh, _⟩ := h.newRoot (κ := 64 * key) (M' := Un M key) hM.not Le.un (un_self key) (X := none) (e := e) (t := t) (xs := List.replicate n (dflt t)) (v := .slice (some ⟨w.heap.size, 0, none⟩) n n) (inner := List.replicate n zv) (World.grownBy_alloc w (.cells (madeCells #[zv] n) e) none) (fun b hb => by cases hb) (fun b hb => .inr (by simp [Value.ownBlock] at hb; omega)) hpos
    (by
      rw [List.length_replicate, hw1]
      refine ⟨by simp, .inr ⟨w.heap.size, n, madeCells #[zv] n, rfl, Nat.zero_le _, heap_alloc_new w _, Nat.le_refl _, by simp only [maxLen]; omega, by simp [madeCells], ?_⟩⟩
      rw [hml, List.take_of_length_le (by simp)])
    (fun χ p j x hx => by
      have hj : j < n := by have := (List.getElem?_eq_some_iff.1 hx).1; simpa using this
      rw [List.getElem?_replicate, if_pos hj] at hx
      injection hx with hx; subst hx
      rw [hw1, Nat.mul_one, List.drop_replicate, List.take_replicate, show min 1 (n - j) = 1 by omega]
      exact zero_Own hz1)
  exact does_named Le.rfl' hd h' hrun (x := .own (64 * key)) hh.symm (un_self key) rfl hk
theorem ownsRow_take {w : World} {base e sz n cp hi : Nat} {A : Option Addr} {xs : List Value} (h : w.ownsRow base e sz (.slice A n cp) n xs) (hh : hi ≤ n) : w.ownsRow base e sz (.slice A hi cp) hi (xs.take (hi * sz)) := by
  obtain ⟨h1, h2⟩ := h
  have hm : hi * sz ≤ n * sz := Nat.mul_le_mul_right _ hh
  refine ⟨by rw [List.length_take, h1]; omega, ?_⟩
  rcases h2 with ⟨h3, h4⟩ | ⟨g, cap, cur, h3, h4, h5, h6, h7, h8, h9⟩
  · left
    injection h3 with h3 h5 h6
    subst h3 h5 h6
    obtain rfl : hi = 0 := by omega
    exact ⟨rfl, rfl⟩
  · right
    injection h3 with h3 h3' h3''
    subst h3 h3''
    refine ⟨g, cp, cur, rfl, h4, h5, by omega, h7, h8, ?_⟩
    rw [← h9, List.take_take]; congr 1; omega
/-- append, in its two ways and with nothing to append. -/
theorem run_append {T ty e : Nat} {t : Ty} {v X : Value} {n : Nat} {inner : List Value} {ys : List (den t)} (hu : P.underlying T = some (.slice e)) (hrow : rowOk P e t = true) (hown : w.ownsRow 0 e (width t) v n inner) (hy : Rd w (fun _ => True) (.sl e t) ys [X]) (hb : (n + ys.length) * bytesT P e ≤ 140737488355328) :
    ∃ v' w' iy, (Builtin.append_ #[T, T] ty #[v, X]).run P w = .ok v' w' ∧ w'.ownsRow 0 e (width t) v' (n + ys.length) (inner ++ iy) ∧ w.grownBy w' v.ownBlock ∧ (v'.ownBlock = v.ownBlock ∨ v'.ownBlock = some w.heap.size) ∧ iy.length = ys.length * width t ∧
      ∀ (j : Nat) (x : den t), ys[j]? = some x → Rd w (fun _ => True) t x ((iy.drop (j * width t)).take (width t)) := by
  obtain ⟨i, z, hi, hz, hsz, hzs, hpos, hby, hby0, hzeros⟩ := rowOk_spec hrow
  obtain ⟨A, cp, iy, hX, hl, hmax, hil, hcell, hel⟩ := hy
  have hX : X = .slice A ys.length cp := by simpa using hX
  subst hX
  have hnl : n + ys.length ≤ 140737488355328 := Nat.le_trans (Nat.le_mul_of_pos_right _ (by omega : 0 < bytesT P e)) hb
  have hone : ∀ u ∈ iy, u.oneCell' = true := by
    intro u hu'
    obtain ⟨j, hj⟩ := List.getElem?_of_mem hu'
    have hjl := (List.getElem?_eq_some_iff.1 hj).1
    rw [hil] at hjl
    have hq : j / width t < ys.length := Nat.div_lt_of_lt_mul (by rw [Nat.mul_comm]; exact hjl)
    have hr := hel (j / width t) _ (List.getElem?_eq_getElem hq)
    refine Rd_one hr u (List.mem_of_getElem? (i := j % width t) ?_)
    rw [List.getElem?_take, if_pos (Nat.mod_lt _ hpos), List.getElem?_drop]
    rw [Nat.mul_comm, Nat.div_add_mod]; exact hj
  cases A with
  | none =>
    have hys : iy = [] := by
      cases hiy : iy with
      | nil => rfl
      | cons u r => obtain ⟨ad, hA, _⟩ := hcell 0 u (by rw [hiy]; rfl); cases hA
    subst hys
    have hy0 : ys.length = 0 := by
      rw [List.length_nil] at hil
      exact (Nat.mul_eq_zero.1 hil.symm).resolve_right (by omega)
    refine ⟨v, w, [], ?_, by rw [hy0, Nat.add_zero, List.append_nil]; exact hown, ⟨rfl, rfl, rfl, Nat.le_refl _, fun _ _ _ => rfl⟩, .inl rfl, hil, hel⟩
    rw [hy0]
    rcases hown.2 with ⟨rfl, rfl⟩ | ⟨g, cap, cur, rfl, _, _, hnc, _⟩
    · simp [Builtin.append_, run_underlying hu, sizeOf, typeInfo, hi, Builtin.lenOf, Builtin.firstCells]
    · simp [Builtin.append_, run_underlying hu, sizeOf, typeInfo, hi, Builtin.lenOf, Builtin.firstCells, hnc, storeCells]
  | some ad =>
    obtain ⟨v', w', h1, h2, h3, _, h5⟩ := run_append_own_at (P := P) w 0 T ty e i z (width t) (bytesT P e) hu hi hz hsz hby hzs hpos v n inner hown ad ys.length cp iy hil (fun j u hu' => by
      obtain ⟨ad', hA, _, hc⟩ := hcell j u hu'
      injection hA with hA; subst hA; exact hc) hone (by simp only [maxLen]; omega) hb (Nat.zero_le _)
    exact ⟨v', w', iy, h1, h2, h3, h5, hil, hel⟩
theorem chunk_app {t : Ty} {w w' : World} {χ : Nat → List Nat} {p : List Nat} {xs ys : List (den t)} {inner iy : List Value} (hfl : flat t = true) (hil : inner.length = xs.length * width t)
    (h1 : ∀ (j : Nat) (x : den t), xs[j]? = some x → Rd w (fun _ => True) t x ((inner.drop (j * width t)).take (width t))) (h2 : ∀ (j : Nat) (x : den t), ys[j]? = some x → Rd w (fun _ => True) t x ((iy.drop (j * width t)).take (width t)))
    (j : Nat) (x : den t) (hx : (xs ++ ys)[j]? = some x) : Own w' χ t p x (((inner ++ iy).drop (j * width t)).take (width t)) := by
  rcases Nat.lt_or_ge j xs.length with hlt | hge
  · rw [List.getElem?_append_left hlt] at hx
    have : j * width t + width t ≤ xs.length * width t := by rw [← Nat.succ_mul]; exact Nat.mul_le_mul_right _ hlt
    rw [List.drop_append_of_le_length (by omega), List.take_append_of_le_length (by rw [List.length_drop]; omega)]
    exact flat_Own hfl (h1 j x hx)
  · rw [List.getElem?_append_right hge] at hx
    have hm : xs.length * width t ≤ j * width t := Nat.mul_le_mul_right _ hge
    rw [List.drop_append, List.drop_of_length_le (by omega), List.nil_append, hil, ← Nat.sub_mul]
    exact flat_Own hfl (h2 _ x hx)
theorem does_append (h : Rel M N w0 keep f c a w) (hM : Fr M key) (hd : ∀ d, o.dst = some d → d < N) {T e : Nat} {t : Ty} {s x : Operand} {ca : Call} (ho : o.op = .call ca) (hcal : ca.callee = .builtin .append) (hargs : ca.args = #[s, x]) (hty : ca.argTypes = #[T, T]) (nx : Nat) (hT : elemOf? P T = some e) (hrow : rowOk P e t = true)
    (hk : appendC f (64 * key) e t (bytesT P e) (evV ⟨f, nx⟩ s) (evV ⟨f, nx⟩ x) o.dst k = some r) : Does P o M N w0 keep f key a w k r := by
  have hS := h.evv nx s
  have hX := h.evv nx x
  have hu := elem_info hT
  have hpos : 0 < width t := (rowOk_spec hrow).choose_spec.choose_spec.2.2.2.2.1
  have run : ∀ {v' : Value} {w' : World}, (Builtin.append_ #[T, T] o.type #[a.eval s, a.eval x]).run P w = .ok v' w' → (execOp a.eval o).run P w = .ok (.value v') w' := by
    intro v' w' hr
    simp [execOp, ho, resolve, hcal, hargs, hty, invoke, builtin, hr]
  unfold appendC at hk
  split at hk
  · rename_i xs ys ex ey
    cases hfl : flat t with
    | false => rw [hfl] at hk; cases hk
    | true =>
      rw [hfl, cond_true] at hk
      have hRy := readL_ok h hX ey
      split at hk
      · rename_i es
        rw [es] at hS ex
        have hS : a.eval s = .slice none 0 0 := hS
        have hxs : xs = [] := by simpa [readL] using ex.symm
        subst hxs
        split at hk
        · rename_i hb
          obtain ⟨v', w', iy, h1, h2, h3, h4, h5, h6⟩ := run_append (P := P) (ty := o.type) (v := .slice none 0 0) (n := 0) (inner := []) hu hrow (World.ownsRow_nil _ _ _ _) hRy hb
          rw [Nat.zero_add, List.nil_append] at h2
          have hnone : (Value.slice none 0 0).ownBlock = none := rfl
          obtain ⟨c', h', hh, _⟩ := h.newRoot (κ := 64 * key) (M' := Un M key) hM.not Le.un (un_self key) (X := none) (e := e) (t := t) (xs := ys) (v := v') (inner := iy) h3 (fun b hb => by rw [hnone] at hb; cases hb) (fun b hb => by
            rcases h4 with h4 | h4
            · rw [h4, hnone] at hb; cases hb
            · rw [h4] at hb; injection hb with hb; right; omega) hpos h2 (fun χ p j x hx => flat_Own hfl (h6 j x hx))
          exact does_named Le.rfl' hd h' (run (by rw [hS]; exact h1)) (x := .own (64 * key)) hh.symm (un_self key) rfl hk
        · cases hk
      · rename_i κ es
        rw [es] at hS ex
        have hS : a.eval s = c.hdr κ := hS
        split at hk
        · rename_i hb
          simp only [readL] at ex
          split at ex
          · rename_i rt er
            split at ex
            · cases he : Nat.beq rt.e e with
              | false => rw [he] at ex; cases ex
              | true =>
                rw [he, cond_true] at ex
                have he := Nat.eq_of_beq_eq_true he
                obtain ⟨hts, hxs⟩ := castTo_some ex
                obtain ⟨⟨hdeep, hhole, hwid, hpos', hgen, v, inner, hv, hown, hcol, hel⟩, hκ⟩ := h.roots κ rt er
                have hv : c.hdr κ = v := by simpa using hv
                obtain ⟨re, rt', rxs, rd, rg, rh⟩ := rt
                simp only at he hts hxs hown hel hwid
                injection hts with _ hts
                subst hts
                subst he
                have hxs : xs = rxs := hxs
                subst hxs
                obtain ⟨v', w', iy, h1, h2, h3, h4, h5, h6⟩ := run_append (P := P) (ty := o.type) hu hrow hown hRy hb
                obtain ⟨c', h', hh, _⟩ := h.newRoot (κ := 64 * key) (M' := Un M key) hM.not Le.un (un_self key) (X := some κ) (e := re) (t := rt') (xs := xs ++ ys) (v := v') (inner := inner ++ iy) h3 (fun b hb => ⟨κ, rfl, hcol b hb⟩) (fun b hb => by
                  rcases h4 with h4 | h4
                  · left; rw [← h4]; exact hb
                  · rw [h4] at hb; injection hb with hb; right; omega) hpos (by rw [List.length_append]; exact h2) (fun χ p j x hx => chunk_app hfl hown.1 (fun j x hx => Own_Rd (fun _ _ _ => trivial) (hel j x hx)) h6 j x hx)
                exact does_named Le.rfl' hd h' (run (by rw [hS, hv]; exact h1)) (x := .own (64 * key)) hh.symm (un_self key) rfl hk
            · cases ex
          · cases ex
        · cases hk
      · rename_i κ hi es
        rw [es] at hS ex
        obtain ⟨A, n, cp, A', hh1, hh2, hh3, hh4, hh5, hh6⟩ := hS
        have hA := hh5 rfl
        subst hA
        split at hk
        · rename_i hb
          simp only [readL] at ex
          split at ex
          · rename_i rt er
            split at ex
            · cases he : Nat.beq rt.e e with
              | false => rw [he] at ex; cases ex
              | true =>
                rw [he, cond_true] at ex
                have he := Nat.eq_of_beq_eq_true he
                obtain ⟨hts, hxs⟩ := castTo_some ex
                obtain ⟨⟨hdeep, hhole, hwid, hpos', hgen, v, inner, hv, hown, hcol, hel⟩, hκ⟩ := h.roots κ rt er
                have hv : c.hdr κ = v := by simpa using hv
                obtain ⟨re, rt', rxs, rd, rg, rh⟩ := rt
                simp only at he hts hxs hown hel hwid
                injection hts with _ hts
                subst hts
                subst he
                have hxs : xs = rxs.take hi := by rw [List.drop_zero] at hxs; exact hxs
                have hvv : v = .slice A' n cp := by rw [← hv]; exact hh1
                subst hvv
                have hn : n = rxs.length := by obtain ⟨_, _, he, _⟩ := ownsRow_slice hown; injection he
                subst hn
                have hown' := ownsRow_take hown hh3
                have hxl : xs.length = hi := by rw [hxs, List.length_take]; omega
                have hil' : (inner.take (hi * width rt')).length = xs.length * width rt' := by rw [hxl]; exact hown'.1
                obtain ⟨v', w', iy, h1, h2, h3, h4, h5, h6⟩ := run_append (P := P) (ty := o.type) hu hrow hown' hRy (by rw [← hxl]; exact hb)
                have hob : (Value.slice A' hi cp).ownBlock = (Value.slice A' rxs.length cp).ownBlock := by cases A' <;> rfl
                obtain ⟨c', h', hh, _⟩ := h.newRoot (κ := 64 * key) (M' := Un M key) hM.not Le.un (un_self key) (X := some κ) (e := re) (t := rt') (xs := xs ++ ys) (v := v') (inner := inner.take (hi * width rt') ++ iy) h3 (fun b hb => ⟨κ, rfl, hcol b (by rw [← hob]; exact hb)⟩) (fun b hb => by
                  rcases h4 with h4 | h4
                  · left; rw [← h4]; exact hb
                  · rw [h4] at hb; injection hb with hb; right; omega) hpos (by rw [List.length_append, hxl]; exact h2) (fun χ p j x hx => chunk_app hfl hil' (fun j x hx => by
                    have hj : j < hi := by rw [← hxl]; exact (List.getElem?_eq_some_iff.1 hx).1
                    rw [hxs, List.getElem?_take, if_pos hj] at hx
                    have := chunk_cut inner 0 hi (width rt') j (by omega)
                    rw [Nat.zero_mul, List.drop_zero, Nat.zero_add] at this
                    rw [this]
                    exact Own_Rd (fun _ _ _ => trivial) (hel j x hx)) h6 j x hx)
                exact does_named Le.rfl' hd h' (run (by rw [hh4, Nat.sub_zero, Nat.sub_zero]; exact h1)) (x := .own (64 * key)) hh.symm (un_self key) rfl hk
            · cases ex
          · cases ex
        · cases hk
      · cases hk
  · cases hk
end
end Go.Proofs.Ytlkjkhmifhmjbaa.V
