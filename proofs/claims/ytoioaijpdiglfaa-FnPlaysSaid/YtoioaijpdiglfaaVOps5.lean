/- What data the values stand for; cuts; lengths. -/
import Derived.Test.YtoioaijpdiglfaaVOps4
import Derived.Laws.Slices
set_option linter.unusedVariables false
set_option linter.unusedSimpArgs false
namespace Go.Proofs.Ytoioaijpdiglfaa.V
open Go Go.RowKit
theorem castTo_some {a b : Ty} {x : den a} {y : den b} (h : castTo b x = some y) : ∃ e : a = b, y = castD e x := by
  unfold castTo at h
  split at h
  · rename_i hs
    injection h with h
    exact ⟨Ty.same_eq hs, h.symm⟩
  · cases h
theorem castTo_Rd {w : World} {ok : Nat → Prop} {a b : Ty} {x : den a} {y : den b} {cs : List Value} (h : castTo b x = some y) (hr : Rd w ok a x cs) : Rd w ok b y cs := by
  obtain ⟨e, rfl⟩ := castTo_some h
  subst e
  exact hr
theorem chunk_cut (inner : List Value) (lo hi wd j : Nat) (h : lo + j < hi) : ((((inner.take (hi * wd)).drop (lo * wd)).drop (j * wd)).take wd) = ((inner.drop ((lo + j) * wd)).take wd) := by
  have h1 : lo * wd + j * wd = (lo + j) * wd := by rw [Nat.add_mul]
  rw [List.drop_drop, h1, List.drop_take, List.take_take]
  congr 1
  have : (lo + j + 1) * wd ≤ hi * wd := Nat.mul_le_mul_right _ h
  rw [Nat.add_mul, Nat.one_mul] at this
  omega
/-- A cut of what is read. -/
theorem Rd_cut {w : World} {ok : Nat → Prop} {e : Nat} {t : Ty} {xs : List (den t)} {A A' : Option Addr} {n cp cp' lo hi : Nat} (h : Rd w ok (.sl e t) xs [.slice A n cp]) (hl : lo ≤ hi) (hh : hi ≤ n) (hc : hi - lo ≤ cp' ∧ cp' ≤ maxLen) (hA : lo < hi → A' = A.map (·.add (lo * width t))) :
    Rd w ok (.sl e t) ((xs.take hi).drop lo) [.slice A' (hi - lo) cp'] := by
  obtain ⟨B, cq, inner, hv, hlen, hmax, hin, hcell, hel⟩ := h
  simp only [List.cons.injEq, Value.slice.injEq, and_true] at hv
  obtain ⟨rfl, hn, rfl⟩ := hv
  have hlx : ((xs.take hi).drop lo).length = hi - lo := by rw [List.length_drop, List.length_take]; omega
  refine ⟨A', cp', (inner.take (hi * width t)).drop (lo * width t), by rw [hlx], by rw [hlx]; exact hc.1, hc.2, ?_, fun j u hu => ?_, fun j x hx => ?_⟩
  · rw [hlx, List.length_drop, List.length_take, hin, Nat.sub_mul]
    have : hi * width t ≤ xs.length * width t := Nat.mul_le_mul_right _ (by omega)
    omega
  · rw [List.getElem?_drop] at hu
    rw [List.getElem?_take] at hu
    split at hu
    · rename_i hj
      obtain ⟨ad, hA', hok, hcl⟩ := hcell _ u hu
      have hlt : lo < hi := by
        rcases Nat.lt_or_ge lo hi with h1 | h1
        · exact h1
        · have := Nat.mul_le_mul_right (width t) h1; omega
      subst hA'
      refine ⟨ad.add (lo * width t), hA hlt, by rw [add_block]; exact hok, by rw [add_add]; exact hcl⟩
    · cases hu
  · have hj : j < hi - lo := by rw [← hlx]; exact (List.getElem?_eq_some_iff.1 hx).1
    rw [chunk_cut _ _ _ _ _ (by omega)]
    apply hel
    rw [List.getElem?_drop, List.getElem?_take] at hx
    rw [if_pos (by omega)] at hx
    exact hx
section
variable {P : Program} {o : Oper} {M : Nat → Prop} {N key : Nat} {w0 w : World} {keep : Kp} {f : Nat → Val} {c : Ctx} {a : Act} {R : Type} {k : Wr → Option R} {r : R}
theorem root_Rd (h : Rel M N w0 keep f c a w) {κ : Nat} {rt : Root} (er : f (rl κ) = .root rt) (hh : rt.hole = none) : Rd w (fun k => (∃ q, c.χ k = (κ + 1) :: q) ∨ c.χ k = []) (.sl rt.e rt.t) rt.xs [c.hdr κ] := by
  obtain ⟨hwid, hpos, hnop, hgen, hhole, v, inner, hv, ho, hc, hel⟩ := (h.roots κ rt er).1
  rw [hh] at hel
  obtain ⟨A, cp, rfl, h1, h2⟩ := ownsRow_slice ho
  refine ⟨A, cp, inner, by rw [hv], h1, h2, ho.1, fun j u hu => ?_, fun j x hx => El_Rd (fun k r hk => .inl ⟨_, hk⟩) (fun k hk => .inr hk) (hel j x hx)⟩
  rcases ho.2 with ⟨he, hn⟩ | ⟨g, cap, cur, he, _⟩
  · have : inner = [] := List.eq_nil_of_length_eq_zero (by rw [ho.1, hn, Nat.zero_mul])
    rw [this] at hu; simp at hu
  · have hA : A = some ⟨g, 0, none⟩ := by injection he
    subst hA
    exact ⟨_, rfl, .inl ⟨[], hc g rfl⟩, ho.cells (g := g) rfl j u hu⟩
theorem readL_ok (h : Rel M N w0 keep f c a w) {e : Nat} {t : Ty} {v : V} {x : Value} {ys : List (den t)} (hx : VR w c v x) (hr : readL f e t v = some ys) : Rd w (fun _ => True) (.sl e t) ys [x] := by
  unfold readL at hr
  split at hr
  · injection hr with hr; subst hr
    have hx : x = .slice none 0 0 := hx
    subst hx
    exact ⟨none, 0, [], rfl, Nat.le_refl _, Nat.zero_le _, by simp, fun j u hu => by simp at hu, fun j x hx => by simp at hx⟩
  · rename_i e' t' xs
    cases he : Nat.beq e' e with
    | false => rw [he] at hr; cases hr
    | true =>
      rw [he, cond_true] at hr
      have he := Nat.eq_of_beq_eq_true he
      subst he
      exact Rd_step (fun k _ _ => ⟨trivial, rfl⟩) (castTo_Rd hr (show Rd w (fun k => c.χ k = []) (.sl _ t') xs [x] from hx))
  · rename_i κ
    split at hr
    · rename_i rt er
      split at hr
      · rename_i hh
        cases he : Nat.beq rt.e e with
        | false => rw [he] at hr; cases hr
        | true =>
          rw [he, cond_true] at hr
          have he := Nat.eq_of_beq_eq_true he
          subst he
          have hx : x = c.hdr κ := hx
          subst hx
          exact Rd_step (fun k _ _ => ⟨trivial, rfl⟩) (castTo_Rd hr (root_Rd h er hh))
      · cases hr
    · cases hr
  · rename_i κ lo hi
    split at hr
    · rename_i rt er
      split at hr
      · rename_i hh
        cases he : Nat.beq rt.e e with
        | false => rw [he] at hr; cases hr
        | true =>
          rw [he, cond_true] at hr
          have he := Nat.eq_of_beq_eq_true he
          subst he
          obtain ⟨A, n, cp, A', h1, h2, h3, h4, h5, h6⟩ := hx
          have hrd := root_Rd h er hh
          rw [h1] at hrd
          have hwid := (h.roots κ rt er).1.wid
          obtain ⟨B, cq, inner, hv, hlen, hmax, _⟩ := id hrd
          simp only [List.cons.injEq, Value.slice.injEq, and_true] at hv
          subst h4
          exact Rd_step (fun k _ _ => ⟨trivial, rfl⟩) (castTo_Rd hr (Rd_cut hrd h2 h3 (by omega) (by rw [← hwid]; exact h6)))
      · cases hr
    · cases hr
  · rename_i κ g i oo
    split at hr
    · rename_i rt er
      split at hr
      · rename_i hh
        obtain ⟨hg, hr⟩ := cond_some' hr
        split at hr
        · rename_i e' t' xs el
          cases he : Nat.beq e' e with
          | false => rw [he] at hr; cases hr
          | true =>
            rw [he, cond_true] at hr
            have he := Nat.eq_of_beq_eq_true he
            subst he
            exact Rd_step (fun k _ _ => ⟨trivial, rfl⟩) (castTo_Rd hr (row_ok h er hh hg hx el))
        · cases hr
      · cases hr
    · cases hr
  · cases hr
theorem packV_ok (h : Rel M N w0 keep f c a w) {t : Ty} {v : V} {x : Value} {y : den t} (hx : VR w c v x) (hp : packV f t v = some y) : Rd w (fun _ => True) t y [x] := by
  cases t with
  | int k =>
    cases v <;> first | (cases hp; done) | skip
    rename_i k' n
    have hx : x = .int k' n := hx
    subst hx
    by_cases e : k' = k
    · subst e
      simp only [packV, decide_true, cond_true] at hp
      injection hp with hp; subst hp; rfl
    · simp [packV, e] at hp
  | bool =>
    cases v <;> first | (cases hp; done) | skip
    rename_i b
    have hx : x = .bool b := hx
    subst hx; injection hp with hp; subst hp; rfl
  | str =>
    cases v <;> first | (cases hp; done) | skip
    rename_i s
    have hx : x = .string s := hx
    subst hx; injection hp with hp; subst hp; rfl
  | sl e t => exact readL_ok h hx (by simpa only [packV] using hp)
  | pair _ _ => cases v <;> cases hp
  | unit => cases v <;> cases hp
  | ptr _ _ => cases v <;> cases hp
theorem packs_ok (h : Rel M N w0 keep f c a w) : ∀ {t : Ty} {vs : List V} {cs : List Value} {y : den t}, All2 (VR w c) vs cs → packs f t vs = some y → Rd w (fun _ => True) t y cs
  | .pair ta tb, vs, cs, y, hall, hp => by
    simp only [packs] at hp
    split at hp
    · rename_i x1 x2 e1 e2
      injection hp with hp; subst hp
      exact ⟨cs.take (width ta), cs.drop (width ta), (List.take_append_drop _ _).symm, packs_ok h (hall.take _) e1, packs_ok h (hall.drop _) e2⟩
    · cases hp
  | .unit, [], [], y, _, _ => rfl
  | .unit, [], _ :: _, _, hall, _ => hall.elim
  | .unit, _ :: _, _, _, _, hp => by cases hp
  | .ptr _ _, vs, _, _, _, hp => by cases vs <;> cases hp
  | .int k, [v], [x], y, hall, hp => packV_ok h hall.1 hp
  | .bool, [v], [x], y, hall, hp => packV_ok h hall.1 hp
  | .str, [v], [x], y, hall, hp => packV_ok h hall.1 hp
  | .sl e t, [v], [x], y, hall, hp => packV_ok h hall.1 hp
  | .int _, [_], [], _, hall, _ | .bool, [_], [], _, hall, _ | .str, [_], [], _, hall, _ | .sl _ _, [_], [], _, hall, _ => hall.elim
  | .int _, [_], _ :: _ :: _, _, hall, _ | .bool, [_], _ :: _ :: _, _, hall, _ | .str, [_], _ :: _ :: _, _, hall, _ | .sl _ _, [_], _ :: _ :: _, _, hall, _ => hall.2.elim
  | .int _, [], _, _, _, hp | .bool, [], _, _, _, hp | .str, [], _, _, _, hp | .sl _ _, [], _, _, _, hp => by cases hp
  | .int _, _ :: _ :: _, _, _, _, hp | .bool, _ :: _ :: _, _, _, _, hp | .str, _ :: _ :: _, _, _, _, hp | .sl _ _, _ :: _ :: _, _, _, _, hp => by cases hp
theorem run_bound (kd : IntKind) {n : Nat} {i : Int} (code : BoundsCode) (h0 : 0 ≤ i) (h1 : i ≤ (n : Int)) : (Instr.sliceBound (.int kd i) n code).run P w = .ok i.toNat w := by
  simp [Instr.sliceBound, asIntOf, h0, h1]
/-- An end of a cut, as an operand. -/
def EndOk (a : Act) (x : Option Operand) (i : Option Int) : Prop := match x, i with
  | none, none => True
  | some x, some i => ∃ kd, a.eval x = .int kd i
  | _, _ => False
theorem bound_some {n : Nat} {i : Int} {k : Nat → Option R} (h : bound n i k = some r) : 0 ≤ i ∧ i ≤ (n : Int) ∧ k i.toNat = some r := by
  unfold bound at h
  split at h
  · rename_i h0
    split at h
    · rename_i h1; exact ⟨h0, h1, h⟩
    · cases h
  · cases h
/-- The ends, as the machine finds them; cap: how far an upper end may go. -/
theorem ends_ok {n cap : Nat} {lo hi : Option Int} {x y : Option Operand} {k : Nat → Nat → Option R} (sl : Bool) (hx : EndOk a x lo) (hy : EndOk a y hi) (hn : n ≤ cap) (h : ends n lo hi k = some r) :
    ∃ l u, l ≤ u ∧ u ≤ n ∧ k l u = some r ∧ (Instr.sliceBounds sl n cap (x.map a.eval) (y.map a.eval) none).run P w = .ok (l, u, cap) w := by
  unfold ends at h
  split at h
  · match x, y, hx, hy with
    | none, none, _, _ => exact ⟨0, n, Nat.zero_le _, Nat.le_refl _, h, by simp [Instr.sliceBounds]⟩
  · rename_i l
    obtain ⟨h0, h1, h2⟩ := bound_some h
    match x, y, hx, hy with
    | some x, none, ⟨kd, hx⟩, _ =>
      refine ⟨l.toNat, n, by omega, Nat.le_refl _, h2, ?_⟩
      simp [Instr.sliceBounds, hx, run_bound kd _ h0 h1]
  · rename_i u
    obtain ⟨h0, h1, h2⟩ := bound_some h
    match x, y, hx, hy with
    | none, some y, _, ⟨kd, hy⟩ =>
      refine ⟨0, u.toNat, Nat.zero_le _, by omega, h2, ?_⟩
      simp [Instr.sliceBounds, hy, run_bound kd _ h0 (show u ≤ (cap : Int) by omega)]
  · rename_i l u
    obtain ⟨h0, h1, h⟩ := bound_some h
    obtain ⟨h2, h3, h⟩ := bound_some h
    match x, y, hx, hy with
    | some x, some y, ⟨kd, hx⟩, ⟨kd', hy⟩ =>
      refine ⟨l.toNat, u.toNat, by omega, by omega, h, ?_⟩
      simp [Instr.sliceBounds, hx, hy, run_bound kd' _ h0 (show u ≤ (cap : Int) by omega), run_bound kd _ h2 h3]
theorem does_slice (h : Rel M N w0 keep f c a w) (hM : Fr M key) (hd : DstP N keep o.dst) {T : Nat} {x : Operand} {lo hi : Option Operand} {l u : Option Int} (ho : o.op = .slice T x lo hi none) (nx : Nat) (hl : EndOk a lo l) (hu : EndOk a hi u)
    (hk : sliceC P f T (evV ⟨f, nx⟩ x) l u (fun v => k (putV o.dst v)) = some r) : Does P o M N w0 keep f key a w k r := by
  have hX := h.evv nx x
  have hB := vB_mono (M' := Un M key) Le.un (h.evvb nx x)
  unfold sliceC at hk
  split at hk
  · rename_i hT
    split at hk
    · rename_i s ex
      rw [ex] at hX
      have hX : a.eval x = .string s := hX
      obtain ⟨i, j, h1, h2, h3, h4⟩ := ends_ok (P := P) (w := w) false hl hu (Nat.le_refl _) hk
      refine does_plain h hM hd (v := .string (s.extract i j)) ?_ rfl h3
      simp only [execOp, ho, hX, Sem.run_bind, Option.map_none]
      rw [Instr.sliceAt]
      simp [run_underlying hT, Instr.slice, h4]
    · cases hk
  · rename_i e' hT
    have run : ∀ {A n cp i j wd}, a.eval x = .slice A n cp → 0 < wd → sizeT P e' = wd → (Instr.sliceBounds true n cp (lo.map a.eval) (hi.map a.eval) none).run P w = .ok (i, j, cp) w →
        (execOp a.eval o).run P w = .ok (.value (.slice (if cp = i then A else A.map (·.add (i * wd))) (j - i) (cp - i))) w := by
      intro A n cp i j wd hv hp hs hb
      obtain ⟨inf, hinf⟩ := size_info (P := P) (T := e') (by omega)
      simp only [execOp, ho, hv, Sem.run_bind, Option.map_none]
      rw [Instr.sliceAt]
      simp [run_underlying hT, Instr.slice, hb, run_size hinf, hs]
    have addr : ∀ {A : Option Addr} {n cp i j wd : Nat}, i ≤ j → j ≤ n → n ≤ cp → (i = 0 → (if cp = i then A else A.map (·.add (i * wd))) = A) ∧ (i < j → (if cp = i then A else A.map (·.add (i * wd))) = A.map (·.add (i * wd))) := by
      intro A n cp i j wd h1 h2 h3
      refine ⟨fun h0 => ?_, fun h0 => by rw [if_neg (by omega)]⟩
      subst h0
      split
      · rfl
      · cases A <;> simp [Addr.add]
    split at hk
    · rename_i e t xs ex
      rw [ex] at hX
      cases hc : (Nat.beq (sizeT P e') (width t) && Nat.blt 0 (width t)) with
      | false => rw [hc] at hk; cases hk
      | true =>
        rw [hc, cond_true] at hk
        simp only [Bool.and_eq_true] at hc
        have hs : sizeT P e' = width t := Nat.eq_of_beq_eq_true hc.1
        have hpos : 0 < width t := by simpa [Nat.blt_eq] using hc.2
        have hX' := hX
        obtain ⟨A, cp, inner, hv, hle, hmax, _⟩ := hX'
        have hv : a.eval x = .slice A xs.length cp := by simpa using hv
        obtain ⟨i, j, h1, h2, h3, h4⟩ := ends_ok (P := P) (w := w) true hl hu hle hk
        have had := addr (A := A) (wd := width t) h1 h2 hle
        refine does_value h hM hd (run hv hpos hs h4) (x := .one (.dat e t ((xs.take j).drop i))) ?_ trivial h3
        have hX2 : Rd w (fun k => c.χ k = []) (.sl e t) xs [.slice A xs.length cp] := by rw [← hv]; exact hX
        exact Rd_cut hX2 h1 h2 (by omega) had.2
    · rename_i κ ex
      rw [ex] at hX hB
      have hX : a.eval x = c.hdr κ := hX
      split at hk
      · rename_i rt er
        cases hc : Nat.beq (sizeT P e') (width rt.t) with
        | false => rw [hc] at hk; cases hk
        | true =>
          rw [hc, cond_true] at hk
          have hs : sizeT P e' = width rt.t := Nat.eq_of_beq_eq_true hc
          obtain ⟨hwid, hpos, _, _, _, v, inner, hv, hown, _⟩ := (h.roots κ rt er).1
          obtain ⟨A, cp, he, hle, hmax⟩ := ownsRow_slice hown
          have hv : c.hdr κ = .slice A rt.xs.length cp := by rw [← he]; exact hv
          obtain ⟨i, j, h1, h2, h3, h4⟩ := ends_ok (P := P) (w := w) true hl hu hle hk
          have had := addr (A := A) (wd := width rt.t) h1 h2 hle
          refine does_value h hM hd (run (hX.trans hv) hpos hs h4) (x := .one (.cut κ i j)) ?_ hB h3
          exact ⟨A, rt.xs.length, cp, _, hv, h1, h2, rfl, had.1, by rw [hwid]; exact had.2⟩
      · cases hk
    · rename_i κ lo' hi' ex
      rw [ex] at hX hB
      split at hk
      · rename_i rt er
        obtain ⟨hs, hk⟩ := cond_some' hk
        have hs : sizeT P e' = width rt.t := Nat.eq_of_beq_eq_true hs
        obtain ⟨hwid, hpos, _, _, _, v, inner, hv, hown, _⟩ := (h.roots κ rt er).1
        obtain ⟨A0, cp0, he0, hle0, hmax0⟩ := ownsRow_slice hown
        obtain ⟨A, m, cp, A', g1, g2, g3, g4, g5, g6⟩ := hX
        rw [g1] at hv
        rw [← hv] at he0
        injection he0 with _ hm0 hc0
        obtain ⟨i, j, h1, h2, h3, h4⟩ := ends_ok (P := P) (w := w) true hl hu (show hi' - lo' ≤ cp - lo' by omega) hk
        have had := addr (A := A') (wd := width rt.t) h1 h2 (show hi' - lo' ≤ cp - lo' by omega)
        refine does_value h hM hd (run g4 hpos hs h4) (x := .one (.cut κ (lo' + i) (lo' + j))) ?_ hB h3
        refine ⟨A, m, cp, (if cp - lo' = i then A' else A'.map (·.add (i * width rt.t))), g1, by omega, by omega, ?_, fun h0 => ?_, fun hlt => ?_⟩
        · congr 1 <;> omega
        · have hi0 : i = 0 := by omega
          rw [had.1 hi0, g5 (by omega)]
        · rw [had.2 (by omega), g6 (by omega), hwid]
          cases A with
          | none => rfl
          | some ad => simp only [Option.map_some, add_add, Nat.add_mul]
      · cases hk
    · cases hk
  · cases hk
theorem does_len (h : Rel M N w0 keep f c a w) (hM : Fr M key) (hd : DstP N keep o.dst) {T : Nat} {x : Operand} {ca : Call} (ho : o.op = .call ca) (hcal : ca.callee = .builtin .len) (hargs : ca.args = #[x]) (hty : ca.argTypes = #[T]) (nx : Nat)
    (hk : (match P.underlying T with
    | some .string => match evV ⟨f, nx⟩ x with
      | .str s => k (putV o.dst (.int .i64 s.size))
      | _ => none
    | some (.slice _) => match lenV f (evV ⟨f, nx⟩ x) with
      | some n => k (putV o.dst (.int .i64 n))
      | none => none
    | _ => none) = some r) : Does P o M N w0 keep f key a w k r := by
  have hX := h.evv nx x
  have run : ∀ {n : Int}, (Builtin.len_ #[T] o.type #[a.eval x]).run P w = .ok (goInt n) w → (execOp a.eval o).run P w = .ok (.value (.int .i64 n)) w := by
    intro n hr
    simp [execOp, ho, resolve, hcal, hargs, hty, invoke, builtin, hr, goInt]
  split at hk
  · rename_i hT
    split at hk
    · rename_i s ex
      rw [ex] at hX
      have hX : a.eval x = .string s := hX
      exact does_plain h hM hd (run (by simp [Builtin.len_, run_underlying hT, hX])) rfl hk
    · cases hk
  · rename_i e hT
    split at hk
    · rename_i n hn
      obtain ⟨A, cp, hv⟩ := lenV_ok h hX hn
      exact does_plain h hM hd (run (by simp [Builtin.len_, run_underlying hT, hv])) rfl hk
    · cases hk
  · cases hk
end
end Go.Proofs.Ytoioaijpdiglfaa.V
