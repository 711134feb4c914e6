/- make, append. -/
import Derived.Test.YtoioaijpdiglfaaVOps7
set_option linter.unusedVariables false
set_option linter.unusedSimpArgs false
namespace Go.Proofs.Ytoioaijpdiglfaa.V
open Go Go.RowKit
section
variable {P : Program} {o : Oper} {M M' : Nat → Prop} {N key κ : Nat} {w0 w w' : World} {keep : Kp} {f : Nat → Val} {c : Ctx} {a : Act} {R : Type} {k : Wr → Option R} {r : R}
theorem does_make (h : Rel M N w0 keep f c a w) (hM : Fr M key) (hd : DstP N keep o.dst) {T e : Nat} {t : Ty} {x y : Operand} {n m : Int} {kd kd' : IntKind} (ho : o.op = .makeSlice T x y) (nx : Nat) (hx : evV ⟨f, nx⟩ x = .int kd n) (hy : evV ⟨f, nx⟩ y = .int kd' m) (hT : elemOf? P T = some e) (hrow : rowOk P e t = true) (hmn : m = n) (h0 : 0 ≤ n) (hb : n.toNat * bytesT P e ≤ 140737488355328)
    (hk : k ([(rl (64 * key), .root ⟨e, t, List.replicate n.toNat (dflt t), true, 0, none⟩)] ++ putV o.dst (.own (64 * key))) = some r) : Does P o M N w0 keep f key a w k r := by
  have hX := h.evv nx x
  have hY := h.evv nx y
  rw [hx] at hX
  rw [hy] at hY
  have hX : a.eval x = .int kd n := hX
  have hY : a.eval y = .int kd' m := hY
  subst hmn
  have hnop := rowOk_nop hrow
  obtain ⟨i, z, hi, hz, hsz, hzs, hpos, hby, hby0, hzeros⟩ := rowOk_spec hrow
  have hu := elem_info hT
  obtain ⟨n, rfl⟩ := Int.eq_ofNat_of_zero_le h0
  rw [Int.toNat_natCast] at hb hk
  have hnb : n ≤ 140737488355328 := Nat.le_trans (Nat.le_mul_of_pos_right _ (by omega : 0 < bytesT P e)) hb
  have hrun : (execOp a.eval o).run P w = .ok (.value (.slice (some ⟨w.heap.size, 0, none⟩) n n)) (w.alloc (.cells (madeCells z.cells (n * width t)) e)) := by
    have hr := run_make (P := P) w T e i z hu hi hz kd kd' n n (by omega) (Int.le_refl _) (by
      have : (i.bytes : Int) * (n : Int) = ((n * bytesT P e : Nat) : Int) := by rw [hby, ← Int.natCast_mul, Nat.mul_comm]
      rw [this]; omega) (by omega)
    simp only [Int.toNat_natCast, hsz] at hr
    simp only [execOp, ho, hX, hY, Sem.run_bind, hr, Result.andThen_ok, Sem.run_pure]
  have hchunk : ∀ j, j < n → (((madeCells z.cells (n * width t)).toList.drop (j * width t)).take (width t)) = z.cells.toList := fun j hj => by
    have hm : j * width t + width t ≤ n * width t := by rw [← Nat.succ_mul]; exact Nat.mul_le_mul_right _ hj
    apply List.ext_getElem?
    intro q
    rw [List.getElem?_take]
    by_cases hq : q < width t
    · rw [if_pos hq, List.getElem?_drop]
      have e1 : (j * width t + q) % width t = q := by rw [Nat.mul_comm, Nat.mul_add_mod, Nat.mod_eq_of_lt hq]
      have hzq : q < z.cells.size := by omega
      simp [madeCells, show j * width t + q < n * width t by omega, hzs, e1, hzq]
      rw [getElem!_pos z.cells q hzq, Array.getElem?_eq_getElem hzq]
    · rw [if_neg hq]
      rw [List.getElem?_eq_none (by rw [Array.length_toList]; omega)]
  obtain ⟨c', h', hh, _⟩ := h.newRoot (κ := 64 * key) (M' := Un M key) hM.not Le.un (un_self key) [] id (e := e) (t := t) (xs := List.replicate n (dflt t)) (v := .slice (some ⟨w.heap.size, 0, none⟩) n n) (inner := (madeCells z.cells (n * width t)).toList) (d := true) (World.grownBy_alloc w (.cells (madeCells z.cells (n * width t)) e) none) (fun _ _ => rfl) (fun b hb => by cases hb) (fun b hb => .inr (by simp [Value.ownBlock] at hb; omega)) hpos hnop
    (by
      rw [List.length_replicate]
      refine ⟨by simp [madeCells], .inr ⟨w.heap.size, n, madeCells z.cells (n * width t), rfl, Nat.zero_le _, heap_alloc_new w _, Nat.le_refl _, by simp only [maxLen]; omega, by simp [madeCells], ?_⟩⟩
      rw [List.take_of_length_le (by simp [madeCells])])
    (fun χ _ j x hx => by
      have hj : j < n := by have := (List.getElem?_eq_some_iff.1 hx).1; simpa using this
      rw [List.getElem?_replicate, if_pos hj] at hx
      injection hx with hx; subst hx
      rw [hchunk j hj]
      exact zeros_Own hzeros)
  exact does_named Le.rfl' hd h' hrun (x := .own (64 * key)) hh.symm (un_self key) rfl hk
theorem ownsRow_take {w : World} {base e sz n cp hi : Nat} {A : Option Addr} {xs : List Value} (h : w.ownsRow base e sz (.slice A n cp) n xs) (hh : hi ≤ n) : w.ownsRow base e sz (.slice A hi cp) hi (xs.take (hi * sz)) := by
  obtain ⟨h1, h2⟩ := h
  have hm : hi * sz ≤ n * sz := Nat.mul_le_mul_right _ hh
  refine ⟨by rw [List.length_take, h1]; omega, ?_⟩
  rcases h2 with ⟨h3, h4⟩ | ⟨g, cap, cur, h3, h4, h5, h6, h7, h8, h9⟩
  · left
    injection h3 with h3 h5 h6
    subst h3 h5 h6
    obtain rfl : hi = 0 := by omega
    exact ⟨rfl, rfl⟩
  · right
    injection h3 with h3 h3' h3''
    subst h3 h3''
    refine ⟨g, cp, cur, rfl, h4, h5, by omega, h7, h8, ?_⟩
    rw [← h9, List.take_take]; congr 1; omega
/-- append, in its two ways and with nothing to append. -/
theorem run_append {T ty e m cp : Nat} {t : Ty} {v X : Value} {n : Nat} {inner iy : List Value} {A : Option Addr} (hu : P.underlying T = some (.slice e)) (hrow : rowOk P e t = true) (hown : w.ownsRow 0 e (width t) v n inner) (hX : X = .slice A m cp) (hil : iy.length = m * width t)
    (hcell : ∀ (j : Nat) (u : Value), iy[j]? = some u → ∃ ad, A = some ad ∧ w.cell? (ad.add j) = some u) (hone : ∀ u ∈ iy, u.oneCell' = true) (hb : (n + m) * bytesT P e ≤ 140737488355328) :
    ∃ v' w', (Builtin.append_ #[T, T] ty #[v, X]).run P w = .ok v' w' ∧ w'.ownsRow 0 e (width t) v' (n + m) (inner ++ iy) ∧ w.grownBy w' v.ownBlock ∧ (v'.ownBlock = v.ownBlock ∨ v'.ownBlock = some w.heap.size) := by
  obtain ⟨i, z, hi, hz, hsz, hzs, hpos, hby, hby0, hzeros⟩ := rowOk_spec hrow
  subst hX
  have hnl : n + m ≤ 140737488355328 := Nat.le_trans (Nat.le_mul_of_pos_right _ (by omega : 0 < bytesT P e)) hb
  cases A with
  | none =>
    have hys : iy = [] := by
      cases hiy : iy with
      | nil => rfl
      | cons u r => obtain ⟨ad, hA, _⟩ := hcell 0 u (by rw [hiy]; rfl); cases hA
    subst hys
    have hy0 : m = 0 := by
      rw [List.length_nil] at hil
      exact (Nat.mul_eq_zero.1 hil.symm).resolve_right (by omega)
    refine ⟨v, w, ?_, by rw [hy0, Nat.add_zero, List.append_nil]; exact hown, ⟨rfl, rfl, rfl, Nat.le_refl _, fun _ _ _ => rfl⟩, .inl rfl⟩
    rw [hy0]
    rcases hown.2 with ⟨rfl, rfl⟩ | ⟨g, cap, cur, rfl, _, _, hnc, _⟩
    · simp [Builtin.append_, run_underlying hu, sizeOf, typeInfo, hi, Builtin.lenOf, Builtin.firstCells]
    · simp [Builtin.append_, run_underlying hu, sizeOf, typeInfo, hi, Builtin.lenOf, Builtin.firstCells, hnc, storeCells]
  | some ad =>
    obtain ⟨v', w', h1, h2, h3, _, h5⟩ := run_append_own_at (P := P) w 0 T ty e i z (width t) (bytesT P e) hu hi hz hsz hby hzs hpos v n inner hown ad m cp iy hil (fun j u hu' => by
      obtain ⟨ad', hA, hc⟩ := hcell j u hu'
      injection hA with hA; subst hA; exact hc) hone (by simp only [maxLen]; omega) hb (Nat.zero_le _)
    exact ⟨v', w', h1, h2, h3, h5⟩
theorem cells_one {t : Ty} {ys : List (den t)} {iy : List Value} (hpos : 0 < width t) (hil : iy.length = ys.length * width t) (hel : ∀ (j : Nat) (x : den t), ys[j]? = some x → Rd w (fun _ => True) t x ((iy.drop (j * width t)).take (width t))) : ∀ u ∈ iy, u.oneCell' = true := by
  intro u hu'
  obtain ⟨j, hj⟩ := List.getElem?_of_mem hu'
  have hjl := (List.getElem?_eq_some_iff.1 hj).1
  rw [hil] at hjl
  have hq : j / width t < ys.length := Nat.div_lt_of_lt_mul (by rw [Nat.mul_comm]; exact hjl)
  have hr := hel (j / width t) _ (List.getElem?_eq_getElem hq)
  refine Rd_one hr u (List.mem_of_getElem? (i := j % width t) ?_)
  rw [List.getElem?_take, if_pos (Nat.mod_lt _ hpos), List.getElem?_drop]
  rw [Nat.mul_comm, Nat.div_add_mod]; exact hj
theorem chunk_fst {t : Ty} {xs : List (den t)} {inner iy : List Value} (hil : inner.length = xs.length * width t) {j : Nat} (hlt : j < xs.length) : ((inner ++ iy).drop (j * width t)).take (width t) = (inner.drop (j * width t)).take (width t) := by
  have : j * width t + width t ≤ xs.length * width t := by rw [← Nat.succ_mul]; exact Nat.mul_le_mul_right _ hlt
  rw [List.drop_append_of_le_length (by omega), List.take_append_of_le_length (by rw [List.length_drop]; omega)]
theorem chunk_snd {t : Ty} {xs : List (den t)} {inner iy : List Value} (hil : inner.length = xs.length * width t) {j : Nat} (hge : xs.length ≤ j) : ((inner ++ iy).drop (j * width t)).take (width t) = (iy.drop ((j - xs.length) * width t)).take (width t) := by
  have hm : xs.length * width t ≤ j * width t := Nat.mul_le_mul_right _ hge
  rw [List.drop_append, List.drop_of_length_le (by omega), List.nil_append, hil, ← Nat.sub_mul]
theorem chunk_app {t : Ty} {w w' : World} {χ : Nat → List Nat} {d : Bool} {p : List Nat} {xs ys : List (den t)} {inner iy : List Value} (hfl : flat t = true) (hil : inner.length = xs.length * width t)
    (h1 : ∀ (j : Nat) (x : den t), xs[j]? = some x → Rd w (fun _ => True) t x ((inner.drop (j * width t)).take (width t))) (h2 : ∀ (j : Nat) (x : den t), ys[j]? = some x → Rd w (fun _ => True) t x ((iy.drop (j * width t)).take (width t)))
    (j : Nat) (x : den t) (hx : (xs ++ ys)[j]? = some x) : El w' χ d t p x (((inner ++ iy).drop (j * width t)).take (width t)) := by
  rcases Nat.lt_or_ge j xs.length with hlt | hge
  · rw [List.getElem?_append_left hlt] at hx
    rw [chunk_fst hil hlt]
    exact flat_El hfl (h1 j x hx)
  · rw [List.getElem?_append_right hge] at hx
    rw [chunk_snd hil hge]
    exact flat_El hfl (h2 _ x hx)
/-- What is appended to: a row, and the root that it is. -/
theorem src_ok (h : Rel M N w0 keep f c a w) {e : Nat} {t : Ty} {s : V} {S : Value} {xs : List (den t)} {ks : List Nat} {sd : Bool} (hS : VR w c s S) (ex : readL f e t s = some xs) (hk : takeS f s = some (ks, sd)) :
    ∃ inner, w.ownsRow 0 e (width t) S xs.length inner ∧ (∀ b, S.ownBlock = some b → ∃ κ0 ∈ ks, c.χ b = [κ0 + 1]) ∧ (∀ j ∈ ks, ∃ rt, f (rl j) = .root rt) ∧ ∀ (j : Nat) (x : den t), xs[j]? = some x → ∃ κ0, ks = [κ0] ∧ El w c.χ sd t [κ0 + 1, j] x ((inner.drop (j * width t)).take (width t)) := by
  cases s with
  | nil =>
    have hS : S = .slice none 0 0 := hS
    have hxs : xs = [] := by simpa [readL] using ex.symm
    subst hxs hS
    injection hk with hk
    injection hk with hk1 hk2
    subst hk1 hk2
    exact ⟨[], World.ownsRow_nil _ _ _ _, fun b hb => by simp [Value.ownBlock] at hb, fun j hj => absurd hj List.not_mem_nil, fun j x hx => by simp at hx⟩
  | own κ =>
    have hS : S = c.hdr κ := hS
    simp only [takeS] at hk
    simp only [readL] at ex
    split at ex
    · rename_i rt er
      rw [er] at hk
      simp only at hk
      split at ex
      · rename_i hh
        rw [hh] at hk
        simp only [Option.isNone_none, cond_true] at hk
        injection hk with hk
        injection hk with hk1 hk2
        subst hk1 hk2
        obtain ⟨he, ex⟩ := cond_some' ex
        have he := Nat.eq_of_beq_eq_true he
        obtain ⟨hts, hxs⟩ := castTo_some ex
        obtain ⟨hwid, hpos, hnop, hgen, hhole, v, inner, hv, hown, hcol, hel⟩ := (h.roots κ rt er).1
        rw [hh] at hel
        obtain ⟨re, rt', rxs, rd, rg, rh⟩ := rt
        simp only at he hts hxs hown hel hwid
        injection hts with _ hts
        subst hts
        subst he
        have hxs : xs = rxs := hxs
        subst hxs
        rw [hS, hv]
        exact ⟨inner, hown, fun b hb => ⟨κ, List.mem_singleton_self _, hcol b hb⟩, fun j hj => by rw [List.mem_singleton.1 hj]; exact ⟨_, er⟩, fun j x hx => ⟨κ, rfl, hel j x hx⟩⟩
      · cases ex
    · cases ex
  | cut κ lo hi =>
    cases lo with
    | succ _ => cases hk
    | zero =>
      obtain ⟨A, n, cp, A', hh1, hh2, hh3, hh4, hh5, hh6⟩ := hS
      have hA := hh5 rfl
      subst hA
      simp only [takeS] at hk
      simp only [readL] at ex
      split at ex
      · rename_i rt er
        rw [er] at hk
        simp only at hk
        split at ex
        · rename_i hh
          rw [hh] at hk
          simp only [Option.isNone_none, cond_true] at hk
          injection hk with hk
          injection hk with hk1 hk2
          subst hk1 hk2
          obtain ⟨he, ex⟩ := cond_some' ex
          have he := Nat.eq_of_beq_eq_true he
          obtain ⟨hts, hxs⟩ := castTo_some ex
          obtain ⟨hwid, hpos, hnop, hgen, hhole, v, inner, hv, hown, hcol, hel⟩ := (h.roots κ rt er).1
          rw [hh] at hel
          obtain ⟨re, rt', rxs, rd, rg, rh⟩ := rt
          simp only at he hts hxs hown hel hwid
          injection hts with _ hts
          subst hts
          subst he
          have hxs : xs = rxs.take hi := by rw [List.drop_zero] at hxs; exact hxs
          have hvv : v = .slice A' n cp := by rw [← hv]; exact hh1
          subst hvv
          have hn : n = rxs.length := by obtain ⟨_, _, he, _⟩ := ownsRow_slice hown; injection he
          subst hn
          have hown' := ownsRow_take hown hh3
          have hxl : xs.length = hi := by rw [hxs, List.length_take]; omega
          have hob : (Value.slice A' hi cp).ownBlock = (Value.slice A' rxs.length cp).ownBlock := by cases A' <;> rfl
          rw [hh4, Nat.sub_zero, Nat.sub_zero]
          refine ⟨inner.take (hi * width rt'), by rw [hxl]; exact hown', fun b hb => ⟨κ, List.mem_singleton_self _, hcol b (by rw [← hob]; exact hb)⟩, fun j hj => by rw [List.mem_singleton.1 hj]; exact ⟨_, er⟩, fun j x hx => ⟨κ, rfl, ?_⟩⟩
          have hj : j < hi := by rw [← hxl]; exact (List.getElem?_eq_some_iff.1 hx).1
          rw [hxs, List.getElem?_take, if_pos hj] at hx
          have := chunk_cut inner 0 hi (width rt') j (by omega)
          rw [Nat.zero_mul, List.drop_zero, Nat.zero_add] at this
          rw [this]
          exact hel j x hx
        · cases ex
      · cases ex
  | _ => cases hk
/-- What is appended, as rows. -/
theorem srcX_ok (h : Rel M N w0 keep f c a w) {e : Nat} {t : Ty} {s : V} {S : Value} {ys : List (den t)} {kx : List Nat} {xd : Bool} (hS : VR w c s S) (ex : readL f e t s = some ys) (hk : takeX f s = some (kx, xd)) :
    ∃ (A : Option Addr) (cp : Nat) (iy : List Value), S = .slice A ys.length cp ∧ iy.length = ys.length * width t ∧ (∀ (j : Nat) (u : Value), iy[j]? = some u → ∃ ad, A = some ad ∧ w.cell? (ad.add j) = some u) ∧ (∀ j ∈ kx, ∃ rt, f (rl j) = .root rt) ∧
      ∀ (j : Nat) (x : den t), ys[j]? = some x → ∃ κ0, (xd = true → kx = [κ0]) ∧ (kx = [] ∨ kx = [κ0]) ∧ El w c.χ xd t [κ0 + 1, j] x ((iy.drop (j * width t)).take (width t)) := by
  cases s with
  | nil =>
    have hS : S = .slice none 0 0 := hS
    have hxs : ys = [] := by simpa [readL] using ex.symm
    subst hxs hS
    injection hk with hk
    injection hk with hk1 hk2
    subst hk1 hk2
    exact ⟨none, 0, [], rfl, by simp, fun j u hu => by simp at hu, fun j hj => absurd hj List.not_mem_nil, fun j x hx => by simp at hx⟩
  | dat e' t' zs =>
    injection hk with hk
    injection hk with hk1 hk2
    subst hk1 hk2
    simp only [readL] at ex
    obtain ⟨he, ex⟩ := cond_some' ex
    have he := Nat.eq_of_beq_eq_true he
    subst he
    obtain ⟨A, cp, iy, h1, h2, h3, h4, h5, h6⟩ := castTo_Rd ex (show Rd w (fun k => c.χ k = []) (.sl _ t') zs [S] from hS)
    exact ⟨A, cp, iy, by simpa using h1, h4, fun j u hu => by
      obtain ⟨ad, g1, _, g2⟩ := h5 j u hu
      exact ⟨ad, g1, g2⟩, fun j hj => absurd hj List.not_mem_nil, fun j x hx => ⟨0, (fun e => by cases e), .inl rfl, h6 j x hx⟩⟩
  | own κ =>
    have hS : S = c.hdr κ := hS
    simp only [takeX] at hk
    simp only [readL] at ex
    split at ex
    · rename_i rt er
      rw [er] at hk
      simp only at hk
      split at ex
      · rename_i hh
        rw [hh] at hk
        simp only [Option.isNone_none, cond_true] at hk
        injection hk with hk
        injection hk with hk1 hk2
        subst hk1 hk2
        obtain ⟨he, ex⟩ := cond_some' ex
        have he := Nat.eq_of_beq_eq_true he
        obtain ⟨hts, hxs⟩ := castTo_some ex
        obtain ⟨hwid, hpos, hnop, hgen, hhole, v, inner, hv, hown, hcol, hel⟩ := (h.roots κ rt er).1
        rw [hh] at hel
        obtain ⟨re, rt', rxs, rd, rg, rh⟩ := rt
        simp only at he hts hxs hown hel hwid
        injection hts with _ hts
        subst hts
        subst he
        have hxs : ys = rxs := hxs
        subst hxs
        rw [hS, hv]
        obtain ⟨A, cp, hvs, _⟩ := ownsRow_slice hown
        refine ⟨A, cp, inner, hvs, hown.1, fun j u hu => ?_, fun j hj => by rw [List.mem_singleton.1 hj]; exact ⟨_, er⟩, fun j x hx => ⟨κ, fun _ => rfl, .inr rfl, hel j x hx⟩⟩
        rcases hown.2 with ⟨he, hn⟩ | ⟨g, cap, cur, he, _⟩
        · have : inner = [] := List.eq_nil_of_length_eq_zero (by rw [hown.1, hn, Nat.zero_mul])
          rw [this] at hu; simp at hu
        · have hA : A = some ⟨g, 0, none⟩ := by rw [hvs] at he; injection he
          subst hA
          exact ⟨_, rfl, hown.cells (g := g) (by rw [hvs]; rfl) j u hu⟩
      · cases ex
    · cases ex
  | _ => cases hk
/-- The rows of two roots, put behind each other: their new colours. -/
def joinDeep (κ n : Nat) (ks kx : List Nat) : List Nat → List Nat
  | (m + 1) :: j :: r => if m ∈ ks then (κ + 1) :: j :: r else if m ∈ kx then (κ + 1) :: (n + j) :: r else (m + 1) :: j :: r
  | q => q
def joinFlat (ks : List Nat) : List Nat → List Nat
  | (m + 1) :: j :: r => if m ∈ ks then [] else (m + 1) :: j :: r
  | q => q
theorem nodupN_app {ks kx : List Nat} {m : Nat} (h : nodupN (ks ++ kx) = true) (hm : m ∈ kx) : m ∉ ks := by
  intro hk
  induction ks with
  | nil => cases hk
  | cons y ks ih =>
    have h := nodupN_cons (l := ks ++ kx) h
    rcases List.mem_cons.1 hk with e | e
    · subst e; exact h.1 (List.mem_append_right _ hm)
    · exact ih h.2 e
theorem does_append (h : Rel M N w0 keep f c a w) (hM : Fr M key) (hd : DstP N keep o.dst) {T e : Nat} {t : Ty} {s x : Operand} {ca : Call} (ho : o.op = .call ca) (hcal : ca.callee = .builtin .append) (hargs : ca.args = #[s, x]) (hty : ca.argTypes = #[T, T]) (nx : Nat) (hT : elemOf? P T = some e) (hrow : rowOk P e t = true)
    (hk : appendC f (64 * key) e t (bytesT P e) (evV ⟨f, nx⟩ s) (evV ⟨f, nx⟩ x) o.dst k = some r) : Does P o M N w0 keep f key a w k r := by
  have hS := h.evv nx s
  have hX := h.evv nx x
  have hu := elem_info hT
  have hnop := rowOk_nop hrow
  have hpos : 0 < width t := (rowOk_spec hrow).choose_spec.choose_spec.2.2.2.2.1
  have run : ∀ {v' : Value} {w' : World}, (Builtin.append_ #[T, T] o.type #[a.eval s, a.eval x]).run P w = .ok v' w' → (execOp a.eval o).run P w = .ok (.value v') w' := by
    intro v' w' hr
    simp [execOp, ho, resolve, hcal, hargs, hty, invoke, builtin, hr]
  have grown : ∀ {v v' : Value}, (v'.ownBlock = v.ownBlock ∨ v'.ownBlock = some w.heap.size) → ∀ b, v'.ownBlock = some b → v.ownBlock = some b ∨ w.heap.size ≤ b := fun h4 b hb => by
    rcases h4 with h4 | h4
    · left; rw [← h4]; exact hb
    · rw [h4] at hb; injection hb with hb; right; omega
  unfold appendC at hk
  split at hk
  · rename_i xs ys ex ey
    split at hk
    · rename_i hb
      have hRy := readL_ok h hX ey
      cases hfl : flat t with
      | true =>
        rw [hfl, cond_true] at hk
        obtain ⟨A, cp, iy, hXs, _, _, hil, hcell, hely⟩ := hRy
        have hXs : a.eval x = .slice A ys.length cp := by simpa using hXs
        have hone := cells_one hpos hil hely
        -- the flat ways: to nil, a root, a part of it
        have flatly : ∀ (ks : List Nat) (sd : Bool), takeS f (evV ⟨f, nx⟩ s) = some (ks, sd) → k (dropKeys ks ++ [(rl (64 * key), .root ⟨e, t, xs ++ ys, true, 0, none⟩)] ++ putV o.dst (.own (64 * key))) = some r → Does P o M N w0 keep f key a w k r := fun ks sd hks hkk => by
          obtain ⟨inner, hown, hcol, _, hel⟩ := src_ok h hS ex hks
          obtain ⟨v', w', h1, h2, h3, h4⟩ := run_append (P := P) (ty := o.type) hu hrow hown hXs hil (fun j u hu => by
            obtain ⟨ad, g1, _, g2⟩ := hcell j u hu
            exact ⟨ad, g1, g2⟩) hone hb
          obtain ⟨c', h', hh, _⟩ := h.newRoot (κ := 64 * key) (M' := Un M key) hM.not Le.un (un_self key) ks id (e := e) (t := t) (xs := xs ++ ys) (v := v') (inner := inner ++ iy) (d := true) h3 (fun _ _ => rfl) (fun b hb => hcol b hb) (grown h4) hpos hnop (by rw [List.length_append]; exact h2)
            (fun χ' _ j x hx => chunk_app hfl hown.1 (fun j x hx => by
              obtain ⟨_, _, hE⟩ := hel j x hx
              exact El_any hE) hely j x hx)
          exact does_named Le.rfl' hd h' (run h1) (x := .own (64 * key)) hh.symm (un_self key) (by rw [upds_app]; rfl) hkk
        split at hk
        · rename_i es
          have hxs : xs = [] := by rw [es] at ex; simpa [readL] using ex.symm
          exact flatly [] true (by rw [es]; rfl) (by rw [hxs]; exact hk)
        · rename_i κ es
          rw [es] at ex
          simp only [readL] at ex
          split at ex
          · rename_i rt er
            split at ex
            · rename_i hh
              exact flatly [κ] rt.deep (by rw [es]; simp only [takeS, er, hh, Option.isNone_none, cond_true]) hk
            · cases ex
          · cases ex
        · rename_i κ hi es
          rw [es] at ex
          simp only [readL] at ex
          split at ex
          · rename_i rt er
            split at ex
            · rename_i hh
              exact flatly [κ] rt.deep (by rw [es]; simp only [takeS, er, hh, Option.isNone_none, cond_true]) hk
            · cases ex
          · cases ex
        · rename_i κ g i oo es
          rw [es] at ex hS
          split at hk
          · rename_i rt er
            split at hk
            · rename_i z hz
              simp only [readL, er] at ex
              split at ex
              · rename_i hh
                obtain ⟨hg, ex⟩ := cond_some' ex
                split at ex
                · rename_i e' t' xs' el
                  obtain ⟨he, ex⟩ := cond_some' ex
                  have he := Nat.eq_of_beq_eq_true he
                  obtain ⟨hts, hxs⟩ := castTo_some ex
                  injection hts with _ hts
                  subst hts
                  subst he
                  have hxs : xs = xs' := hxs
                  subst hxs
                  simp only [Bool.and_eq_true] at hg
                  have hgk := gens_ok h er el
                  obtain ⟨b, m, cpm, hhd, hin, hoo, hcl⟩ := (hS _ hgk).2 (Nat.eq_of_beq_eq_true hg.1).symm
                  obtain ⟨hil', hRow⟩ := row_own h er hh hg.2 el hhd hin hoo hcl
                  obtain ⟨v, inner, hv, hown, hcol, hel⟩ := hRow
                  have hv : a.eval s = v := by simpa using hv
                  subst hv
                  obtain ⟨v', w', h1, h2, h3, h4⟩ := run_append (P := P) (ty := o.type) hu hrow hown hXs hil (fun j u hu => by
                    obtain ⟨ad, g1, _, g2⟩ := hcell j u hu
                    exact ⟨ad, g1, g2⟩) hone hb
                  obtain ⟨⟨hwid, hposr, hnopr, hgenr, hholer, vr, innr, hvr, hownr, hcolr, helr⟩, hκ⟩ := h.roots κ rt er
                  rw [hh] at helr
                  rw [hhd] at hvr
                  subst hvr
                  rw [hg.2] at helr
                  rw [hwid] at hoo
                  have hnx : m = rt.xs.length := by obtain ⟨_, _, he, _⟩ := ownsRow_slice hownr; injection he
                  have hbcol : c.χ b = [κ + 1] := hcolr b rfl
                  have hsb : ∀ q, (a.eval s).ownBlock = some q → c.χ q = [κ + 1, i] ++ lp rt.t oo := fun q hq => hcol q hq
                  have hvb : ∀ q, q < w.heap.size → v'.ownBlock = some q → c.χ q = [κ + 1, i] ++ lp rt.t oo := fun q hl hq => by
                    rcases grown h4 q hq with h5 | h5
                    · exact hsb q h5
                    · omega
                  have hblk : ∀ q, q < w.heap.size → c.χ q ≠ [κ + 1, i] ++ lp rt.t oo → w'.heap[q]? = w.heap[q]? := fun q hl hne => h3.block q hl (fun e => hne (hsb q e.symm))
                  have hbl : b < w.heap.size := (hownr.lt b rfl).2
                  let c' : Ctx := { χ := fun q => if v'.ownBlock = some q then [64 * key + 1] else c.χ q, hdr := fun j => if j = 64 * key then v' else c.hdr j, wid := fun j => if j = 64 * key then width t' else c.wid j, blk := c.blk, gens := fun j => if j = 64 * key then some 0 else c.gens j }
                  have hχ : ∀ q, q < w.heap.size → c.χ q ≠ [κ + 1, i] ++ lp rt.t oo → c'.χ q = c.χ q := fun q hl hne => if_neg (fun e => hne (hvb q hl e))
                  have hnk : κ ≠ 64 * key := fun e => hM.not (e ▸ hκ)
                  have hne : ∀ j, M j → j ≠ 64 * key := fun j hj e => hM.not (e ▸ hj)
                  have hf : ∀ l, l ≠ rl κ → l ≠ rl (64 * key) → upd1 (upd1 f (rl κ) (.root { rt with xs := rt.xs.set i z, hole := some (i * width rt.t + oo) })) (rl (64 * key)) (.root ⟨e', t', xs ++ ys, true, 0, none⟩) l = f l := fun l h1 h2 => by rw [upd1_eq, if_neg h2, upd1_eq, if_neg h1]
                  have hsame : upd1 (upd1 f (rl κ) (.root { rt with xs := rt.xs.set i z, hole := some (i * width rt.t + oo) })) (rl (64 * key)) (.root ⟨e', t', xs ++ ys, true, 0, none⟩) (rl (64 * key)) = .root ⟨e', t', xs ++ ys, true, 0, none⟩ := by rw [upd1_eq, if_pos rfl]
                  have hheld : upd1 (upd1 f (rl κ) (.root { rt with xs := rt.xs.set i z, hole := some (i * width rt.t + oo) })) (rl (64 * key)) (.root ⟨e', t', xs ++ ys, true, 0, none⟩) (rl κ) = .root { rt with xs := rt.xs.set i z, hole := some (i * width rt.t + oo) } := by
                    rw [upd1_eq, if_neg (by simp only [rl]; omega), upd1_eq, if_pos rfl]
                  have hlen1 : ([Value.slice none 0 0] : List Value).length = 1 := rfl
                  have h' : Rel (Un M key) N w0 keep (upd1 (upd1 f (rl κ) (.root { rt with xs := rt.xs.set i z, hole := some (i * width rt.t + oo) })) (rl (64 * key)) (.root ⟨e', t', xs ++ ys, true, 0, none⟩)) c' a w' := by
                    refine h.reroot Le.un (fun j => j = κ) h3.size h3.os h3.tape h3.output (fun q hl hq => ⟨hχ q hl (fun e => hq κ _ e rfl), hblk q hl (fun e => hq κ _ e rfl)⟩) (fun j hj => ⟨if_neg (hne j hj), if_neg (hne j hj)⟩) rfl (fun j hj hXj g' hg' => ?_) (fun j hj hXj => if_neg (hne j hj)) (fun l hl => hf l (fun e => by rw [e] at hl; simp only [rl] at hl; omega) (fun e => by rw [e] at hl; simp only [rl] at hl; omega)) (fun j r' hr => ?_) (fun j g' hg' => ?_) (fun j => ?_) (fun j => ?_)
                    · have e1 : c'.gens j = c.gens j := if_neg (hne j hj)
                      rw [e1] at hg'
                      refine ⟨g', hg', Nat.le_refl _, fun _ q hq hl => hblk q hl (fun e => ?_)⟩
                      rw [hXj, hhd] at hq
                      have hq : b = q := by simpa [Value.ownBlock] using hq
                      subst hq
                      rw [hbcol] at e; simp at e
                    · by_cases e1 : j = 64 * key
                      · subst e1
                        rw [hsame] at hr
                        injection hr with hr
                        subst hr
                        right
                        exact ⟨⟨if_pos rfl, hpos, hnop, .inl hfl, fun h e => (by cases e), v', inner ++ iy, if_pos rfl, by rw [List.length_append]; exact h2, fun b hb' => if_pos hb', fun j x hx => chunk_app hfl hown.1 (fun j x hx => Own_Rd (fun _ _ _ => trivial) (hel j x hx)) hely j x hx⟩, un_self key⟩
                      · by_cases e2 : j = κ
                        · subst e2
                          rw [hheld] at hr
                          injection hr with hr
                          subst hr
                          right
                          refine ⟨⟨(if_neg hnk).trans hwid, hposr, hnopr, .inr ((if_neg hnk).trans hgk), fun _ _ => hg.2, .slice (some ⟨b, 0, none⟩) m cpm, innr, (if_neg hnk).trans hhd, ?_, fun q hq => ?_, fun jj x hx => ?_⟩, .inl hκ⟩
                          · show w'.ownsRow 0 rt.e (width rt.t) _ (rt.xs.set i z).length innr
                            rw [List.length_set]
                            refine ownsRow_move hownr (fun q hq hl => hblk q hl (fun e => ?_))
                            rw [hcolr q hq] at e; simp at e
                          · have hq : b = q := by simpa [Value.ownBlock] using hq
                            subst hq
                            rw [hχ b hbl (by rw [hbcol]; simp)]; exact hbcol
                          · show El w' c'.χ rt.deep rt.t [j + 1, jj] x (((splice innr (i * width rt.t + oo) [.slice none 0 0]).drop (jj * width rt.t)).take (width rt.t))
                            rw [hg.2]
                            have hx : (rt.xs.set i z)[jj]? = some x := hx
                            have hjl : jj < rt.xs.length := by have := (List.getElem?_eq_some_iff.1 hx).1; rwa [List.length_set] at this
                            have hlenr : innr.length = m * width rt.t := by rw [hnx]; exact hownr.1
                            by_cases e3 : jj = i
                            · subst e3
                              rw [List.getElem?_set, if_pos rfl, if_pos hjl] at hx
                              injection hx with hx; subst hx
                              rw [chunk_same hlenr hin (by rw [hlen1]; omega)]
                              have hxi : rt.xs[jj]? = some (rt.xs.getD jj (dflt rt.t)) := by rw [List.getD_eq_getElem?_getD, List.getElem?_eq_getElem hjl]; rfl
                              refine Own_put hnopr hoo (fun q r' hq hnr hl => ?_) (helr jj _ hxi) (fun s' y hs' hy => leaf_into h hs' (v := .nil) (d := .slice none 0 0) rfl rfl (fun κ0 e => by cases e) hy) hz
                              have hne' : c.χ q ≠ [j + 1, jj] ++ lp rt.t oo := fun e => by
                                rw [hq] at e
                                exact hnr [] (by rw [List.append_nil]; exact List.append_cancel_left e)
                              exact ⟨(hχ q hl hne').trans hq, hblk q hl hne'⟩
                            · rw [List.getElem?_set, if_neg (fun e' => e3 e'.symm)] at hx
                              rw [chunk_other hlenr hin (by rw [hlen1]; omega) e3]
                              refine Own_step hnopr (fun q r' hq hl => ?_) (helr jj x hx)
                              have hne' : c.χ q ≠ [j + 1, i] ++ lp rt.t oo := fun e => by
                                rw [hq] at e
                                simp at e
                                exact e3 e.1
                              exact ⟨(hχ q hl hne').trans hq, hblk q hl hne'⟩
                        · left
                          rw [hf _ (by simp only [rl]; omega) (by simp only [rl]; omega)] at hr
                          exact ⟨hr, e2⟩
                    · by_cases e1 : j = 64 * key
                      · subst e1; exact ⟨_, hsame⟩
                      · have hg2 : c.gens j = some g' := by
                          have : c'.gens j = c.gens j := if_neg e1
                          rw [← this]; exact hg'
                        by_cases e2 : j = κ
                        · subst e2; exact ⟨_, hheld⟩
                        · obtain ⟨r', hr'⟩ := h.live j g' hg2
                          exact ⟨r', by rw [hf _ (by simp only [rl]; omega) (by simp only [rl]; omega)]; exact hr'⟩
                    · by_cases e1 : j = 64 * key
                      · right; left; rw [e1, hsame]; trivial
                      · by_cases e2 : j = κ
                        · right; left; rw [e2, hheld]; trivial
                        · left; exact hf _ (by simp only [rl]; omega) (by simp only [rl]; omega)
                    · by_cases e1 : j = 64 * key
                      · right
                        obtain ⟨A2, cp2, hv2, _⟩ := ownsRow_slice h2
                        exact ⟨A2, _, cp2, by show (if j = 64 * key then v' else c.hdr j) = _; rw [if_pos e1]; exact hv2⟩
                      · left; exact if_neg e1
                  exact does_named Le.rfl' hd h' (run h1) (x := .own (64 * key)) (by show v' = (if 64 * key = 64 * key then v' else _); rw [if_pos rfl]) (un_self key) rfl hk
                · cases ex
              · cases ex
            · cases hk
          · cases hk
        · cases hk
      | false =>
        rw [hfl, cond_false] at hk
        split at hk
        · rename_i ks sd kx xd hks hkx
          obtain ⟨hnd, hkk⟩ := cond_some' hk
          clear hk
          obtain ⟨inner, hown, hcol, _, hel⟩ := src_ok h hS ex hks
          obtain ⟨A, cp, iy, hXs, hil, hcell, _, helx⟩ := srcX_ok h hX ey hkx
          have hone := cells_one hpos hil (fun j x hx => by
            obtain ⟨_, _, _, hE⟩ := helx j x hx
            exact El_any hE)
          obtain ⟨v', w', h1, h2, h3, h4⟩ := run_append (P := P) (ty := o.type) hu hrow hown hXs hil hcell hone hb
          have hrow2 : ∀ b q, c.χ b = q → (∀ κ0, q ≠ [κ0 + 1]) → (a.eval s).ownBlock ≠ some b := fun b q hq hne e => by
            obtain ⟨κ0, _, h5⟩ := hcol b e
            exact hne κ0 (hq.symm.trans h5)
          cases hdd : (sd && xd) with
          | true =>
            rw [hdd] at hkk
            simp only [Bool.and_eq_true] at hdd
            obtain ⟨rfl, rfl⟩ := hdd
            obtain ⟨c', h', hh, _⟩ := h.newRoot (κ := 64 * key) (M' := Un M key) hM.not Le.un (un_self key) (ks ++ kx) (joinDeep (64 * key) xs.length ks kx) (e := e) (t := t) (xs := xs ++ ys) (v := v') (inner := inner ++ iy) (d := true) h3 (fun q hq => by
                unfold joinDeep
                split
                · rename_i m j r
                  have := hq m _ rfl
                  rw [if_neg (fun hm => this (List.mem_append_left _ hm)), if_neg (fun hm => this (List.mem_append_right _ hm))]
                · rfl) (fun b hb => by
                obtain ⟨κ0, g1, g2⟩ := hcol b hb
                exact ⟨κ0, List.mem_append_left _ g1, g2⟩) (grown h4) hpos hnop (by rw [List.length_append]; exact h2)
              (fun χ' hχ j x hx => by
                rcases Nat.lt_or_ge j xs.length with hlt | hge
                · rw [List.getElem?_append_left hlt] at hx
                  rw [chunk_fst hown.1 hlt]
                  obtain ⟨κ0, g1, g2⟩ := hel j x hx
                  refine Own_step hnop (fun q r' hq hl => ?_) g2
                  obtain ⟨g3, g4⟩ := hχ q _ hl hq (hrow2 q _ hq (fun κ1 e => by simp at e))
                  refine ⟨?_, g4⟩
                  rw [g3, g1]
                  simp only [joinDeep, List.cons_append, List.nil_append, List.mem_singleton, if_pos]
                · rw [List.getElem?_append_right hge] at hx
                  rw [chunk_snd hown.1 hge]
                  obtain ⟨κ0, g1, _, g2⟩ := helx _ x hx
                  have g1 := g1 rfl
                  refine Own_step hnop (fun q r' hq hl => ?_) g2
                  obtain ⟨g3, g4⟩ := hχ q _ hl hq (hrow2 q _ hq (fun κ1 e => by simp at e))
                  refine ⟨?_, g4⟩
                  have hnk : κ0 ∉ ks := nodupN_app hnd (by rw [g1]; exact List.mem_singleton_self _)
                  rw [g3, g1]
                  simp only [joinDeep, List.cons_append, List.nil_append, if_neg hnk, List.mem_singleton, if_pos]
                  rw [show xs.length + (j - xs.length) = j by omega])
            exact does_named Le.rfl' hd h' (run h1) (x := .own (64 * key)) hh.symm (un_self key) (by rw [upds_app]; rfl) hkk
          | false =>
            rw [hdd] at hkk
            obtain ⟨c', h', hh, _⟩ := h.newRoot (κ := 64 * key) (M' := Un M key) hM.not Le.un (un_self key) (ks ++ kx) (joinFlat (ks ++ kx)) (e := e) (t := t) (xs := xs ++ ys) (v := v') (inner := inner ++ iy) (d := false) h3 (fun q hq => by
                unfold joinFlat
                split
                · rename_i m j r
                  rw [if_neg (hq m _ rfl)]
                · rfl) (fun b hb => by
                obtain ⟨κ0, g1, g2⟩ := hcol b hb
                exact ⟨κ0, List.mem_append_left _ g1, g2⟩) (grown h4) hpos hnop (by rw [List.length_append]; exact h2)
              (fun χ' hχ j x hx => by
                have emp : ∀ q, c.χ q = [] → q < w.heap.size → χ' q = [] ∧ w'.heap[q]? = w.heap[q]? := fun q hq hl => by
                  obtain ⟨g3, g4⟩ := hχ q _ hl hq (hrow2 q _ hq (fun κ1 e => by simp at e))
                  exact ⟨by rw [g3]; rfl, g4⟩
                have sub : ∀ (κ0 jj : Nat), κ0 ∈ ks ++ kx → ∀ q r', c.χ q = [κ0 + 1, jj] ++ r' → q < w.heap.size → (false = true → χ' q = [] ++ r') ∧ (false = false → χ' q = []) ∧ w'.heap[q]? = w.heap[q]? := fun κ0 jj hm q r' hq hl => by
                  obtain ⟨g3, g4⟩ := hχ q _ hl hq (hrow2 q _ hq (fun κ1 e => by simp at e))
                  refine ⟨(fun e => by cases e), fun _ => ?_, g4⟩
                  rw [g3]
                  simp only [joinFlat, List.cons_append, List.nil_append, if_pos hm]
                rcases Nat.lt_or_ge j xs.length with hlt | hge
                · rw [List.getElem?_append_left hlt] at hx
                  rw [chunk_fst hown.1 hlt]
                  obtain ⟨κ0, g1, g2⟩ := hel j x hx
                  exact El_to (p' := []) hnop (fun e => by cases e) (sub κ0 j (by rw [g1]; exact List.mem_append_left _ (List.mem_singleton_self _))) emp g2
                · rw [List.getElem?_append_right hge] at hx
                  rw [chunk_snd hown.1 hge]
                  obtain ⟨κ0, g1, g1', g2⟩ := helx _ x hx
                  cases xd with
                  | false => exact Rd_step emp g2
                  | true => exact El_to (p' := []) hnop (fun e => by cases e) (sub κ0 _ (by rw [g1 rfl]; exact List.mem_append_right _ (List.mem_singleton_self _))) emp g2)
            exact does_named Le.rfl' hd h' (run h1) (x := .own (64 * key)) hh.symm (un_self key) (by rw [upds_app]; rfl) hkk
        · cases hk
    · cases hk
  · cases hk
end
end Go.Proofs.Ytoioaijpdiglfaa.V
