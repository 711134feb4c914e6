/- Operations that read memory. -/
import Derived.Test.YtoioaijpdiglfaaVOps2
import Derived.Laws.Cells
import Derived.Laws.CopyRow
import Derived.Laws.Entries
set_option linter.unusedVariables false
set_option linter.unusedSimpArgs false
namespace Go.Proofs.Ytoioaijpdiglfaa.V
open Go Go.RowKit
theorem cond_some' {α : Type} {b : Bool} {x : Option α} {y : α} (h : cond b x none = some y) : b = true ∧ x = some y := by
  cases b with
  | true => exact ⟨rfl, h⟩
  | false => cases h
section
variable {P : Program} {w : World}
theorem underlying_info {T : Nat} {d : TypeDesc} (h : P.underlying T = some d) : ∃ i, P.info? T = some i := by
  cases e : P.info? T with
  | some i => exact ⟨i, rfl⟩
  | none => unfold Program.underlying at h; rw [e] at h; cases h
theorem ldOk_spec {T : Nat} (h : ldOk P T = true) : ∃ d i, P.underlying T = some d ∧ P.info? T = some i ∧ (aggT P T = true ∨ sizeT P T = 1) := by
  unfold ldOk at h
  split at h
  · rename_i d hd
    obtain ⟨i, hi⟩ := underlying_info hd
    simp only [Bool.or_eq_true] at h
    exact ⟨d, i, hd, hi, h.imp id Nat.eq_of_beq_eq_true⟩
  · cases h
theorem run_isAgg {T : Nat} {d : TypeDesc} (h : P.underlying T = some d) : (isAgg T).run P w = .ok (aggT P T) w := by
  unfold isAgg aggT
  simp only [Sem.run_bind, run_underlying h, Result.andThen_ok, h]
  cases d <;> rfl
theorem run_size {T : Nat} {i : TypeInfo} (h : P.info? T = some i) : (sizeOf T).run P w = .ok (sizeT P T) w := by
  unfold sizeT
  simp [sizeOf, typeInfo, h]
/-- A load at a type: the cells that lie there. -/
theorem run_load {T : Nat} (h : ldOk P T = true) {ad : Addr} {cs : List Value} (hn : cs.length = sizeT P T) (hc : ∀ (j : Nat) (u : Value), cs[j]? = some u → w.cell? (ad.add j) = some u) :
    ∃ v, (Instr.loadAt T (.pointer (some ad))).run P w = .ok v w ∧ (aggT P T = true → v = .agg cs.toArray) ∧ (aggT P T = false → cs = [v]) := by
  obtain ⟨d, i, hd, hi, hs⟩ := ldOk_spec h
  cases hag : aggT P T with
  | true =>
    refine ⟨.agg cs.toArray, ?_, fun _ => rfl, fun e => by simp at e⟩
    have hl := run_loadCells_list (P := P) (w := w) ad cs hc
    rw [hn] at hl
    simp only [Instr.loadAt, Instr.sureAddr, loadVar, Sem.run_bind, Sem.run_pure, Result.andThen_ok, run_isAgg hd, hag, if_true, run_size hi, hl]
  | false =>
    have h1 : sizeT P T = 1 := hs.resolve_left (by rw [hag]; simp)
    obtain ⟨u, rfl⟩ : ∃ u, cs = [u] := by
      match cs, hn.trans h1 with
      | [u], _ => exact ⟨u, rfl⟩
    refine ⟨u, ?_, fun e => by simp at e, fun _ => rfl⟩
    have hu := hc 0 u rfl
    have h0 : ad.add 0 = ad := by simp [Addr.add]
    rw [h0] at hu
    simp only [Instr.loadAt, Instr.sureAddr, loadVar, Sem.run_bind, Sem.run_pure, Result.andThen_ok, run_isAgg hd, hag, Bool.false_eq_true, if_false]
    simp [load, Sem.run, hu]
end
section
variable {P : Program} {o : Oper} {M : Nat → Prop} {N key : Nat} {w0 w : World} {keep : Kp} {f : Nat → Val} {c : Ctx} {a : Act} {R : Type} {k : Wr → Option R} {r : R}
theorem add_plain' (g i j : Nat) : (⟨g, i, none⟩ : Addr).add j = ⟨g, i + j, none⟩ := by unfold Addr.add; split <;> simp_all
/-- A leaf of what is read. -/
theorem leaf_ok {w : World} {c : Ctx} : ∀ {t : Ty} {x : den t} {cs : List Value} {o : Nat} {u : Value}, Rd w (fun k => c.χ k = []) t x cs → cs[o]? = some u → VR w c (leafV t x o) u
  | .int _, _, cs, o, u, h, hu => by
    rw [show cs = _ from h] at hu
    cases o with
    | zero => simp at hu; exact hu.symm
    | succ o => simp at hu
  | .bool, _, cs, o, u, h, hu => by
    rw [show cs = _ from h] at hu
    cases o with
    | zero => simp at hu; exact hu.symm
    | succ o => simp at hu
  | .str, _, cs, o, u, h, hu => by
    rw [show cs = _ from h] at hu
    cases o with
    | zero => simp at hu; exact hu.symm
    | succ o => simp at hu
  | .sl e t, xs, cs, o, u, h, hu => by
    have h' := h
    obtain ⟨A, cp, inner, hc, _⟩ := h'
    rw [hc] at hu
    cases o with
    | zero =>
      have : u = .slice A (xs : List (den t)).length cp := by simpa using hu.symm
      show Rd w (fun k => c.χ k = []) (.sl e t) xs [u]
      rw [this, ← hc]; exact h
    | succ o => simp at hu
  | .pair ta tb, x, cs, o, u, ⟨c0, c1, hc, h0, h1⟩, hu => by
    have hl := Rd_len h0
    show VR w c (cond (Nat.blt o (width ta)) _ _) u
    cases hb : Nat.blt o (width ta) with
    | true =>
      have hlt : o < width ta := by simpa [Nat.blt_eq] using hb
      rw [hc, List.getElem?_append_left (by omega)] at hu
      exact leaf_ok h0 hu
    | false =>
      have hlt : ¬ o < width ta := fun e => by rw [← Nat.blt_eq, hb] at e; cases e
      rw [hc, List.getElem?_append_right (by omega), hl] at hu
      exact leaf_ok h1 hu
  | .unit, _, cs, o, u, h, hu => by rw [show cs = _ from h] at hu; simp at hu
  | .ptr _ _, _, cs, o, u, h, hu => trivial
theorem leafV_b (M : Nat → Prop) : ∀ (t : Ty) (x : den t) (o : Nat), vB M (leafV t x o)
  | .int _, _, _ => trivial
  | .bool, _, _ => trivial
  | .str, _, _ => trivial
  | .sl _ _, _, _ => trivial
  | .pair a b, x, o => by
    show vB M (cond (Nat.blt o (width a)) _ _)
    cases Nat.blt o (width a) with
    | true => exact leafV_b M a _ _
    | false => exact leafV_b M b _ _
  | .unit, _, _ => trivial
  | .ptr _ _, _, _ => trivial
theorem flat_leaf : ∀ {t : Ty}, flat t = true → ∀ (x : den t) (o : Nat) {e : Nat} {t' : Ty} {ys : List (den t')}, leafV t x o ≠ .dat e t' ys
  | .int _, _, _, _, _, _, _ => fun h => by cases h
  | .bool, _, _, _, _, _, _ => fun h => by cases h
  | .str, _, _, _, _, _, _ => fun h => by cases h
  | .sl _ _, hf, _, _, _, _, _ => by cases hf
  | .pair a b, hf, x, o, e, t', ys => by
    intro he
    simp only [flat, Bool.and_eq_true] at hf
    have : leafV (.pair a b) x o = cond (Nat.blt o (width a)) (leafV a x.1 o) (leafV b x.2 (o - width a)) := rfl
    rw [this] at he
    cases hb : Nat.blt o (width a) with
    | true => rw [hb] at he; exact flat_leaf hf.1 _ _ he
    | false => rw [hb] at he; exact flat_leaf hf.2 _ _ he
  | .unit, _, _, _, _, _, _ => by intro h; cases h
  | .ptr _ _, hf, _, _, _, _, _ => by cases hf
/-- A load's value, out of the leaves. -/
theorem load_val {T : Nat} {vs : List V} {cs : List Value} {v : Value} (hall : All2 (VR w c) vs cs) (h1 : aggT P T = true → v = .agg cs.toArray) (h2 : aggT P T = false → cs = [v]) : SR w c (mkS (aggT P T) vs) v := by
  cases hag : aggT P T with
  | true => exact ⟨cs, h1 hag, hall⟩
  | false =>
    have := h2 hag
    subst this
    match vs, hall with
    | [u], h => exact h.1
theorem mkS_b {M : Nat → Prop} {ag : Bool} {vs : List V} (h : ∀ v ∈ vs, vB M v) : sB M (mkS ag vs) := by
  unfold mkS
  split
  · exact h
  · split
    · exact h _ (List.mem_singleton_self _)
    · trivial
theorem drop_take_get {α : Type} (cs : List α) (a n j : Nat) (u : α) (h : ((cs.drop a).take n)[j]? = some u) : cs[a + j]? = some u := by
  rw [List.getElem?_take] at h
  split at h
  · rw [List.getElem?_drop] at h; exact h
  · cases h
/-- The cells of an element of a root. -/
theorem elem_ok (h : Rel M N w0 keep f c a w) {κ : Nat} {rt : Root} (er : f (rl κ) = .root rt) (hh : rt.hole = none) {b n cp i : Nat} (hhd : c.hdr κ = .slice (some ⟨b, 0, none⟩) n cp) (hin : i < n) :
    ∃ cs : List Value, cs.length = width rt.t ∧ i < rt.xs.length ∧ El w c.χ rt.deep rt.t [κ + 1, i] (rt.xs.getD i (dflt rt.t)) cs ∧ ∀ (j : Nat) (u : Value), cs[j]? = some u → w.cell? ⟨b, i * width rt.t + j, none⟩ = some u := by
  obtain ⟨⟨hwid, hpos, hnop, hgen, hhole, v, inner, hv, hown, hcol, hel⟩, hκ⟩ := h.roots κ rt er
  rw [hh] at hel
  have hn' : n = rt.xs.length := by
    obtain ⟨A', c', he, _⟩ := ownsRow_slice hown
    rw [← hv, hhd] at he; injection he
  have hi : i < rt.xs.length := by omega
  have hxi : rt.xs[i]? = some (rt.xs.getD i (dflt rt.t)) := by rw [List.getD_eq_getElem?_getD, List.getElem?_eq_getElem hi]; rfl
  have hE := hel i _ hxi
  refine ⟨_, Rd_len (El_Rd (ok := fun _ => True) (fun _ _ _ => trivial) (fun _ _ => trivial) hE), hi, hE, fun j u hu => ?_⟩
  have := hown.cells (g := b) (by rw [← hv, hhd]; rfl) _ _ (drop_take_get inner _ _ j u hu)
  rwa [add_plain', Nat.zero_add] at this
/-- Where an element has rows, the root's age is known. -/
theorem gens_ok (h : Rel M N w0 keep f c a w) {κ : Nat} {rt : Root} (er : f (rl κ) = .root rt) {x : den rt.t} {o e : Nat} {t : Ty} {xs : List (den t)} (el : leafV rt.t x o = .dat e t xs) : c.gens κ = some rt.gen :=
  (h.roots κ rt er).1.gen.resolve_left fun hf => flat_leaf hf _ _ el
/-- A row of a deep root: owned with it. -/
theorem row_own (h : Rel M N w0 keep f c a w) {κ i oo : Nat} {rt : Root} (er : f (rl κ) = .root rt) (hh : rt.hole = none) (hd : rt.deep = true) {e : Nat} {t : Ty} {xs : List (den t)} (el : leafV rt.t (rt.xs.getD i (dflt rt.t)) oo = .dat e t xs)
    {b n cp : Nat} {x : Value} (hhd : c.hdr κ = .slice (some ⟨b, 0, none⟩) n cp) (hin : i < n) (hoo : oo < c.wid κ) (hcell : w.cell? ⟨b, i * c.wid κ + oo, none⟩ = some x) :
    i < rt.xs.length ∧ Own w c.χ (.sl e t) ([κ + 1, i] ++ lp rt.t oo) xs [x] := by
  obtain ⟨cs, hlen, hi, hE, hcs⟩ := elem_ok h er hh hhd hin
  rw [hd] at hE
  have hwid := (h.roots κ rt er).1.wid
  rw [hwid] at hoo hcell
  obtain ⟨u, hu⟩ : ∃ u, cs[oo]? = some u := ⟨_, List.getElem?_eq_getElem (by omega)⟩
  rw [hcs oo u hu] at hcell
  injection hcell with hcell
  subst hcell
  exact ⟨hi, Own_leaf hE el hu⟩
theorem rptr_ok (h : Rel M N w0 keep f c a w) {κ g i oo j : Nat} {rt : Root} (er : f (rl κ) = .root rt) (hh : rt.hole = none) (hg : (Nat.beq rt.gen g && rt.deep) = true) {x : Value} (hx : VR w c (.rptr κ g i oo j) x) {e : Nat} {t : Ty} {xs : List (den t)} (el : leafV rt.t (rt.xs.getD i (dflt rt.t)) oo = .dat e t xs) :
    ∃ b n cp b' n' cp', c.hdr κ = .slice (some ⟨b, 0, none⟩) n cp ∧ i < n ∧ oo < c.wid κ ∧ w.cell? ⟨b, i * c.wid κ + oo, none⟩ = some (.slice (some ⟨b', 0, none⟩) n' cp') ∧ j < n' ∧ x = .pointer (some ⟨b', j, none⟩) ∧ i < rt.xs.length ∧ Own w c.χ (.sl e t) ([κ + 1, i] ++ lp rt.t oo) xs [.slice (some ⟨b', 0, none⟩) n' cp'] := by
  simp only [Bool.and_eq_true] at hg
  have hg1 := Nat.eq_of_beq_eq_true hg.1
  obtain ⟨b, n, cp, b', n', cp', h1, h2, h3, h4, h5, h6⟩ := (hx _ (gens_ok h er el)).2 hg1.symm
  obtain ⟨hi, hO⟩ := row_own h er hh hg.2 el h1 h2 h3 h4
  exact ⟨b, n, cp, b', n', cp', h1, h2, h3, h4, h5, h6, hi, hO⟩
theorem does_load (h : Rel M N w0 keep f c a w) (hM : Fr M key) (hd : DstP N keep o.dst) {T : Nat} {x : Operand} (ho : o.op = .load T x) (nx : Nat)
    (hk : loadC P f T (evV ⟨f, nx⟩ x) (fun v => k (putS o.dst v)) = some r) : Does P o M N w0 keep f key a w k r := by
  have hX := h.evv nx x
  have hB := h.evvb nx x
  unfold loadC at hk
  cases hok : ldOk P T with
  | false => rw [hok] at hk; cases hk
  | true =>
    rw [hok, cond_true] at hk
    -- it is enough to know the cells
    have key' : ∀ (vs : List V) (cs : List Value) (ad : Addr), a.eval x = .pointer (some ad) → cs.length = sizeT P T → (∀ (j : Nat) (u : Value), cs[j]? = some u → w.cell? (ad.add j) = some u) → All2 (VR w c) vs cs → (∀ v ∈ vs, vB (Un M key) v) →
        k (putS o.dst (mkS (aggT P T) vs)) = some r → Does P o M N w0 keep f key a w k r := by
      intro vs cs ad hp hl hc hall hvs hkk
      obtain ⟨v, hv, h1, h2⟩ := run_load (P := P) (w := w) hok hl hc
      refine does_value h hM hd (v := v) (by simp only [execOp, ho, hp, Sem.run_bind, hv, Result.andThen_ok, Sem.run_pure]) (load_val hall h1 h2) (mkS_b hvs) hkk
    split at hk
    · rename_i β off e
      rw [e] at hX
      have hX : a.eval x = .pointer (some ⟨c.blk β, off, none⟩) := hX
      split at hk
      · rename_i vs eb
        obtain ⟨⟨cs, T', hh, hχ, hall, h1⟩, hβ⟩ := h.boxes β _ eb
        have hfr := h.fresh (bl β)
        rw [eb] at hfr
        cases hle : Nat.ble (off + sizeT P T) vs.length with
        | false => rw [hle] at hk; cases hk
        | true =>
          rw [hle, cond_true] at hk
          have hle := Nat.le_of_ble_eq_true hle
          have hlen := hall.len
          refine key' ((vs.drop off).take (sizeT P T)) ((cs.drop off).take (sizeT P T)) _ hX (by rw [List.length_take, List.length_drop]; omega) (fun j u hu => ?_) ((hall.drop off).take _) (fun v hv => vB_mono Le.un (hfr v (List.mem_of_mem_drop (List.mem_of_mem_take hv)))) hk
          rw [add_plain', cell_of_row w _ _ cs.toArray T' (0, 0) hh]
          have := drop_take_get cs off _ j u hu
          simpa using this
      · cases hk
    · rename_i β i e
      rw [e] at hX
      have hX : a.eval x = .pointer (some ⟨c.blk β, i, none⟩) := hX
      split at hk
      · rename_i t xs eb
        obtain ⟨⟨T', hh, hχ, hsc⟩, hβ⟩ := h.boxes β _ eb
        cases hag : aggT P T with
        | true => rw [hag] at hk; cases hk
        | false =>
          rw [hag, cond_false] at hk
          split at hk
          · rename_i hi
            obtain ⟨d, ii, hd', hi', hs⟩ := ldOk_spec hok
            have hs1 : sizeT P T = 1 := hs.resolve_left (by rw [hag]; simp)
            have hv : VR w c (leafV t (xs.getD i (dflt t)) 0) (encF t (xs.getD i (dflt t))) := by cases t <;> simp [scal] at hsc <;> rfl
            refine key' [leafV t (xs.getD i (dflt t)) 0] [encF t (xs.getD i (dflt t))] _ hX (by rw [hs1]; rfl) (fun j u hu => ?_) ⟨hv, trivial⟩ (fun v hv => by rw [List.mem_singleton] at hv; rw [hv]; exact leafV_b _ _ _ _) (by rw [hag]; exact hk)
            cases j with
            | zero =>
              rw [add_plain', cell_of_row w _ _ _ T' (0, 0) hh]
              have hu : encF t (xs.getD i (dflt t)) = u := by simpa using hu
              subst hu
              simp [List.getElem?_eq_getElem hi, List.getD_eq_getElem?_getD]
            | succ j => simp at hu
          · cases hk
      · cases hk
    · rename_i t x' off e
      rw [e] at hX
      obtain ⟨ad, cs, hp, hrd, hχ, hlt, hcell⟩ := hX
      cases hle : Nat.ble (off + sizeT P T) (width t) with
      | false => rw [hle] at hk; cases hk
      | true =>
        rw [hle, cond_true] at hk
        have hle := Nat.le_of_ble_eq_true hle
        have hlen := Rd_len hrd
        refine key' _ ((cs.drop off).take (sizeT P T)) ad hp (by rw [List.length_take, List.length_drop]; omega) (fun j u hu => hcell j u ?_) (All2.mk (by rw [List.length_map, List.length_range, List.length_take, List.length_drop]; omega) (fun j v u hv hu => ?_)) (fun v hv => ?_) hk
        · rw [List.getElem?_take] at hu
          split at hu
          · exact hu
          · cases hu
        · have hj : j < sizeT P T := by
            have := (List.getElem?_eq_some_iff.1 hu).1
            rw [List.length_take] at this; omega
          rw [List.getElem?_map, List.getElem?_range hj] at hv
          have hv : leafV t x' (off + j) = v := by simpa using hv
          subst hv
          exact leaf_ok hrd (drop_take_get cs off _ j u hu)
        · simp only [List.mem_map] at hv
          obtain ⟨j, _, rfl⟩ := hv
          exact leafV_b _ _ _ _
    · rename_i κ i off e
      rw [e] at hX
      obtain ⟨b, n, cp, hhd, hin, hp⟩ := hX
      split at hk
      · rename_i rt er
        split at hk
        · rename_i hh
          cases hle : Nat.ble (off + sizeT P T) (width rt.t) with
          | false => rw [hle] at hk; cases hk
          | true =>
            rw [hle, cond_true] at hk
            have hle := Nat.le_of_ble_eq_true hle
            obtain ⟨cs, hlen, hi, hE, hcells⟩ := elem_ok h er hh hhd hin
            have hwid := (h.roots κ rt er).1.wid
            have hκ := (h.roots κ rt er).2
            rw [hwid] at hp
            refine key' _ ((cs.drop off).take (sizeT P T)) _ hp (by rw [List.length_take, List.length_drop]; omega) (fun j u hu => ?_) (All2.mk (by rw [List.length_map, List.length_range, List.length_take, List.length_drop]; omega) (fun j v' u hv' hu => ?_)) (fun v' hv' => ?_) hk
            · rw [add_plain', Nat.add_assoc]
              exact hcells _ u (drop_take_get _ off _ j u hu)
            · have hj : j < sizeT P T := by
                have := (List.getElem?_eq_some_iff.1 hu).1
                rw [List.length_take] at this; omega
              have hu' := drop_take_get _ off _ j u hu
              rw [List.getElem?_map, List.getElem?_range hj] at hv'
              have hv' : rootLeaf κ rt i (off + j) = v' := by simpa only [Option.map_some, Option.some.injEq] using hv'
              subst hv'
              unfold rootLeaf
              cases hdp : rt.deep with
              | false =>
                rw [hdp] at hE
                exact leaf_ok hE hu'
              | true =>
                rw [hdp] at hE
                rw [cond_true]
                -- what is owned reads, in colours that call the root's blocks stable
                have hrd : Rd w (fun k => (⟨fun _ => [], c.hdr, c.wid, c.blk, c.gens⟩ : Ctx).χ k = []) rt.t (rt.xs.getD i (dflt rt.t)) cs := Own_Rd (fun _ _ _ => rfl) hE
                have hleaf := leaf_ok hrd hu'
                revert hleaf
                cases hlf : leafV rt.t (rt.xs.getD i (dflt rt.t)) (off + j) with
                | dat e' t' ys =>
                  intro _ g0 hg0
                  have := gens_ok h er hlf
                  rw [this] at hg0
                  injection hg0 with hg0
                  refine ⟨by omega, fun _ => ⟨b, n, cp, hhd, hin, by rw [hwid]; omega, ?_⟩⟩
                  rw [hwid]
                  exact hcells _ u hu'
                | int kd n' => exact fun hl => hl
                | bool b' => exact fun hl => hl
                | str s' => exact fun hl => hl
                | undef | no | nil | own _ | cut _ _ _ | row _ _ _ _ | bptr _ _ | aptr _ _ | eptr _ _ _ | dptr _ _ _ | rptr _ _ _ _ _ => exact fun _ => trivial
            · simp only [List.mem_map] at hv'
              obtain ⟨j, _, rfl⟩ := hv'
              unfold rootLeaf
              cases rt.deep with
              | false => exact leafV_b _ _ _ _
              | true =>
                rw [cond_true]
                cases leafV rt.t (rt.xs.getD i (dflt rt.t)) (off + j) <;> first | trivial | exact .inl hκ
        · cases hk
      · cases hk
    · rename_i κ g i oo j e
      rw [e] at hX
      split at hk
      · rename_i rt er
        split at hk
        · rename_i hh
          obtain ⟨hg, hk⟩ := cond_some' hk
          split at hk
          · rename_i e' t' xs el
            obtain ⟨hs, hk⟩ := cond_some' hk
            simp only [Bool.and_eq_true, Bool.not_eq_true'] at hs
            split at hk
            · rename_i hj
              obtain ⟨b, n, cp, b', n', cp', h1, h2, h3, h4, h5, h6, hi, v, inner, hv, hown, hcol, hel⟩ := rptr_ok h er hh hg hX el
              have hv : Value.slice (some ⟨b', 0, none⟩) n' cp' = v := by simpa using hv
              subst hv
              have hxj : xs[j]? = some (xs.getD j (dflt t')) := by rw [List.getD_eq_getElem?_getD, List.getElem?_eq_getElem hj]; rfl
              have hE := hel j _ hxj
              have hw1 : width t' = 1 := by cases t' <;> first | rfl | (simp [scal] at hs)
              rw [hw1, Nat.mul_one] at hE
              obtain ⟨d, ii, hd', hi', hss⟩ := ldOk_spec hok
              have hs1 : sizeT P T = 1 := hss.resolve_left (by rw [hs.2]; simp)
              obtain ⟨u, hu⟩ : ∃ u, (inner.drop j).take 1 = [u] ∧ inner[j]? = some u := by
                have hl := Own_len hE
                rw [hw1] at hl
                cases hq : (inner.drop j).take 1 with
                | nil => rw [hq] at hl; cases hl
                | cons u r =>
                  have : r = [] := by rw [hq] at hl; simpa using hl
                  subst this
                  refine ⟨u, rfl, ?_⟩
                  have := drop_take_get inner j 1 0 u (by rw [hq]; rfl)
                  simpa using this
              rw [hu.1] at hE
              have hrd : Rd w (fun k => (⟨fun _ => [], c.hdr, c.wid, c.blk, c.gens⟩ : Ctx).χ k = []) t' (xs.getD j (dflt t')) [u] := Own_Rd (fun _ _ _ => rfl) hE
              have hvr : VR w c (leafV t' (xs.getD j (dflt t')) 0) u := by
                have := leaf_ok hrd (o := 0) (u := u) rfl
                cases t' <;> simp [scal] at hs <;> exact this
              refine key' [leafV t' (xs.getD j (dflt t')) 0] [u] _ h6 (by rw [hs1]; rfl) (fun q u' hq => ?_) ⟨hvr, trivial⟩ (fun v hv => by rw [List.mem_singleton] at hv; rw [hv]; exact leafV_b _ _ _ _) (by rw [hs.2]; exact hk)
              cases q with
              | zero =>
                have hq : u = u' := by simpa using hq
                subst hq
                have := hown.cells (g := b') rfl j u hu.2
                rw [add_plain', Nat.add_zero]
                rwa [add_plain', Nat.zero_add] at this
              | succ q => simp at hq
            · cases hk
          · cases hk
        · cases hk
      · cases hk
    · cases hk
end
end Go.Proofs.Ytoioaijpdiglfaa.V
