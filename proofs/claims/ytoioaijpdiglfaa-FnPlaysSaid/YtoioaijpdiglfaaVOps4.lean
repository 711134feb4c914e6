/- Operations on addresses, indexes, cuts, lengths. -/
import Derived.Test.YtoioaijpdiglfaaVOps3
set_option linter.unusedVariables false
set_option linter.unusedSimpArgs false
namespace Go.Proofs.Ytoioaijpdiglfaa.V
open Go Go.RowKit
section
variable {P : Program} {w : World}
theorem add_add (ad : Addr) (d j : Nat) : (ad.add d).add j = ad.add (d + j) := by
  unfold Addr.add
  by_cases h1 : d = 0
  · subst h1; simp
  · by_cases h2 : j = 0
    · subst h2; simp
    · simp [h1, h2, Nat.add_assoc]
theorem size_info {T : Nat} (h : 0 < sizeT P T) : ∃ i, P.info? T = some i := by
  cases e : P.info? T with
  | some i => exact ⟨i, rfl⟩
  | none => unfold sizeT at h; rw [e] at h; simp at h
theorem run_field {T fd d : Nat} (h : fieldOff P T fd = some d) (ad : Addr) : (Instr.fieldAt T (.pointer (some ad)) fd).run P w = .ok (.pointer (some (ad.add d))) w := by
  unfold fieldOff at h
  split at h
  · rename_i fs hu
    split at h
    · rename_i g hg
      cases hb : Nat.blt 0 (sizeT P g.type) with
      | false => rw [hb] at h; cases h
      | true =>
        rw [hb, cond_true] at h
        have hpos : 0 < sizeT P g.type := by simpa [Nat.blt_eq] using hb
        obtain ⟨i, hi⟩ := size_info hpos
        injection h with h
        subst h
        simp only [Instr.fieldAt, Sem.run_bind, run_underlying hu, Result.andThen_ok, hg, Instr.sureAddr, fieldPlace, run_size hi]
        simp [Nat.ne_of_gt hpos]
    · cases h
  · cases h
theorem run_index {T e : Nat} (hu : P.underlying T = some (.slice e)) (hs : 0 < sizeT P e) {ad : Addr} {n cp : Nat} {kd : IntKind} {i : Int} (h0 : 0 ≤ i) (h1 : i < (n : Int)) : (Instr.indexAt T (.slice (some ad) n cp) (.int kd i)).run P w = .ok (.pointer (some (ad.add (i.toNat * sizeT P e)))) w := by
  obtain ⟨inf, hi⟩ := size_info hs
  simp only [Instr.indexAt, asIntOf, Sem.run_bind, Sem.run_pure, Result.andThen_ok, run_underlying hu]
  simp [h0, h1, run_size hi]
theorem run_index_arr {T e n : Nat} (hu : P.underlying T = some (.array n e)) (hs : 0 < sizeT P e) {ad : Addr} {kd : IntKind} {i : Int} (h0 : 0 ≤ i) (h1 : i < (n : Int)) : (Instr.indexAt T (.pointer (some ad)) (.int kd i)).run P w = .ok (.pointer (some (ad.add (i.toNat * sizeT P e)))) w := by
  obtain ⟨inf, hi⟩ := size_info hs
  simp only [Instr.indexAt, asIntOf, Sem.run_bind, Sem.run_pure, Result.andThen_ok, run_underlying hu, Instr.sureAddr]
  simp [h0, h1, run_size hi]
end
section
variable {P : Program} {o : Oper} {M : Nat → Prop} {N key : Nat} {w0 w : World} {keep : Kp} {f : Nat → Val} {c : Ctx} {a : Act} {R : Type} {k : Wr → Option R} {r : R}
theorem does_field (h : Rel M N w0 keep f c a w) (hM : Fr M key) (hd : DstP N keep o.dst) {T fd : Nat} {x : Operand} (ho : o.op = .fieldAddr T x fd) (nx : Nat)
    (hk : (match fieldOff P T fd with
      | some d => match evV ⟨f, nx⟩ x with
        | .bptr β off => k (putV o.dst (.bptr β (off + d)))
        | .eptr κ i off => k (putV o.dst (.eptr κ i (off + d)))
        | .dptr t x off => k (putV o.dst (.dptr t x (off + d)))
        | _ => none
      | none => none) = some r) : Does P o M N w0 keep f key a w k r := by
  have hX := h.evv nx x
  have hB := vB_mono (M' := Un M key) Le.un (h.evvb nx x)
  split at hk
  · rename_i d hf
    have hrun : ∀ ad, a.eval x = .pointer (some ad) → (execOp a.eval o).run P w = .ok (.value (.pointer (some (ad.add d)))) w := by
      intro ad hp
      simp only [execOp, ho, hp, Sem.run_bind, run_field hf, Result.andThen_ok, Sem.run_pure]
    split at hk
    · rename_i β off e
      rw [e] at hX hB
      have hX : a.eval x = .pointer (some ⟨c.blk β, off, none⟩) := hX
      exact does_value h hM hd (hrun _ hX) (x := .one (.bptr β (off + d))) (by rw [add_plain']; rfl) hB hk
    · rename_i κ i off e
      rw [e] at hX hB
      obtain ⟨b, n, cp, h1, h2, h3⟩ := hX
      exact does_value h hM hd (hrun _ h3) (x := .one (.eptr κ i (off + d))) ⟨b, n, cp, h1, h2, by rw [add_plain', Nat.add_assoc]⟩ hB hk
    · rename_i t y off e
      rw [e] at hX hB
      obtain ⟨ad, cs, h1, h2, h3, h4, h5⟩ := hX
      exact does_value h hM hd (hrun _ h1) (x := .one (.dptr t y (off + d))) ⟨ad.add d, cs, rfl, h2, by rw [add_block]; exact h3, by rw [add_block]; exact h4, fun j u hu => by
        rw [add_add]
        exact h5 (d + j) u (by rw [List.getElem?_drop] at hu ⊢; rw [← hu, Nat.add_assoc])⟩ trivial hk
    · cases hk
  · cases hk
theorem does_index (h : Rel M N w0 keep f c a w) (hM : Fr M key) (hd : DstP N keep o.dst) {T : Nat} {x y : Operand} (ho : o.op = .indexAddr T x y) (nx : Nat) {kd : IntKind} {n : Int} (hy : evV ⟨f, nx⟩ y = .int kd n)
    (hk : indexC P f T (evV ⟨f, nx⟩ x) n (fun v => k (putV o.dst v)) = some r) : Does P o M N w0 keep f key a w k r := by
  have hX := h.evv nx x
  have hB := vB_mono (M' := Un M key) Le.un (h.evvb nx x)
  have hY := h.evv nx y
  rw [hy] at hY
  have hY : a.eval y = .int kd n := hY
  unfold indexC at hk
  split at hk
  · rename_i len e hu
    split at hk
    · rename_i β off ex
      rw [ex] at hX hB
      have hX : a.eval x = .pointer (some ⟨c.blk β, off, none⟩) := hX
      split at hk
      · rename_i t xs eb
        cases hc : (Nat.beq off 0 && Nat.beq (sizeT P e) 1) with
        | false => rw [hc] at hk; cases hk
        | true =>
          rw [hc, cond_true] at hk
          simp only [Bool.and_eq_true] at hc
          have h0 : off = 0 := Nat.eq_of_beq_eq_true hc.1
          have h1 : sizeT P e = 1 := Nat.eq_of_beq_eq_true hc.2
          split at hk
          · rename_i hn0
            split at hk
            · rename_i hn1
              refine does_value h hM hd (v := .pointer (some ((⟨c.blk β, off, none⟩ : Addr).add (n.toNat * sizeT P e)))) ?_ (x := .one (.aptr β n.toNat)) ?_ hB hk
              · simp only [execOp, ho, hX, hY, Sem.run_bind, run_index_arr hu (show 0 < sizeT P e by omega) hn0 hn1, Result.andThen_ok, Sem.run_pure]
              · rw [h0, h1, add_plain', Nat.mul_one, Nat.zero_add]; rfl
            · cases hk
          · cases hk
      · cases hk
    · cases hk
  · rename_i e hu
    split at hk
    · rename_i e0 t xs ex
      rw [ex] at hX hB
      cases hc : (Nat.beq (sizeT P e) (width t) && Nat.blt 0 (width t)) with
      | false => rw [hc] at hk; cases hk
      | true =>
        rw [hc, cond_true] at hk
        simp only [Bool.and_eq_true] at hc
        have hsz : sizeT P e = width t := Nat.eq_of_beq_eq_true hc.1
        have hpos : 0 < width t := by simpa [Nat.blt_eq] using hc.2
        split at hk
        · rename_i hn0
          split at hk
          · rename_i hn1
            obtain ⟨A, cp, inner, hv, hl, hcp, hil, hcell, hel⟩ := hX
            have hv : a.eval x = .slice A xs.length cp := by simpa using hv
            have hi : n.toNat < xs.length := by omega
            have hxi : xs[n.toNat]? = some (xs.getD n.toNat (dflt t)) := by rw [List.getD_eq_getElem?_getD, List.getElem?_eq_getElem hi]; rfl
            have hmul : n.toNat * width t + width t ≤ xs.length * width t := by
              rw [← Nat.succ_mul]; exact Nat.mul_le_mul_right _ hi
            obtain ⟨ad, hA, hok, hc0⟩ := hcell (n.toNat * width t) _ (List.getElem?_eq_getElem (by omega))
            subst hA
            refine does_value h hM hd (v := .pointer (some (ad.add (n.toNat * sizeT P e)))) ?_ (x := .one (.dptr t (xs.getD n.toNat (dflt t)) 0)) ?_ trivial hk
            · simp only [execOp, ho, hv, hY, Sem.run_bind, run_index hu (show 0 < sizeT P e by omega) hn0 hn1, Result.andThen_ok, Sem.run_pure]
            · refine ⟨_, _, rfl, hel _ _ hxi, by rw [add_block]; exact hok, ?_, fun j u hu' => ?_⟩
              · have := World.block_lt_of_cell? w _ hc0
                rw [add_block] at this ⊢; exact this
              · rw [hsz, add_add]
                obtain ⟨ad', hA', _, hcu⟩ := hcell (n.toNat * width t + j) u (by rw [List.drop_zero] at hu'; exact drop_take_get inner _ _ j u hu')
                injection hA' with hA'; subst hA'; exact hcu
          · cases hk
        · cases hk
    · rename_i κ ex
      rw [ex] at hX hB
      have hX : a.eval x = c.hdr κ := hX
      split at hk
      · rename_i rt er
        cases hc : Nat.beq (sizeT P e) (width rt.t) with
        | false => rw [hc] at hk; cases hk
        | true =>
          rw [hc, cond_true] at hk
          have hsz : sizeT P e = width rt.t := Nat.eq_of_beq_eq_true hc
          split at hk
          · rename_i hn0
            split at hk
            · rename_i hn1
              obtain ⟨hwid, hpos, hnop, hgen, hhole, v, inner, hv, hown, hcol, hel⟩ := (h.roots κ rt er).1
              rcases hown.2 with ⟨_, hz⟩ | ⟨g, cap, cur, hg, _⟩
              · omega
              · refine does_value h hM hd (v := .pointer (some ((⟨g, 0, none⟩ : Addr).add (n.toNat * sizeT P e)))) ?_ (x := .one (.eptr κ n.toNat 0)) ?_ hB hk
                · simp only [execOp, ho, hX, hv, hg, hY, Sem.run_bind, run_index hu (show 0 < sizeT P e by omega) hn0 hn1, Result.andThen_ok, Sem.run_pure]
                · exact ⟨g, rt.xs.length, cap, by rw [hv, hg], by omega, by rw [add_plain', hsz, hwid, Nat.zero_add, Nat.add_zero]⟩
            · cases hk
          · cases hk
      · cases hk
    · rename_i κ lo hi ex
      rw [ex] at hX hB
      split at hk
      · rename_i rt er
        obtain ⟨hsz, hk⟩ := cond_some' hk
        have hsz : sizeT P e = width rt.t := Nat.eq_of_beq_eq_true hsz
        split at hk
        · rename_i hn0
          split at hk
          · rename_i hn1
            obtain ⟨A, m, cp, A', h1, h2, h3, h4, h5, h6⟩ := hX
            obtain ⟨hwid, hpos, hnop, hgen, hhole, v, inner, hv, hown, hcol, hel⟩ := (h.roots κ rt er).1
            obtain ⟨A2, cp2, he2, hle2, _⟩ := ownsRow_slice hown
            rw [h1] at hv
            rw [← hv] at he2
            injection he2 with hA2 hm2 hc2
            rcases hown.2 with ⟨_, hz⟩ | ⟨g, cap, cur, hg, _⟩
            · omega
            · rw [hg] at hv
              injection hv with hvA _ _
              subst hvA
              have h6 := h6 (by omega)
              rw [Option.map_some] at h6
              subst h6
              refine does_value h hM hd (v := .pointer (some (((⟨g, 0, none⟩ : Addr).add (lo * c.wid κ)).add (n.toNat * sizeT P e)))) ?_ (x := .one (.eptr κ (lo + n.toNat) 0)) ?_ hB hk
              · simp only [execOp, ho, h4, hY, Sem.run_bind, run_index hu (show 0 < sizeT P e by omega) hn0 hn1, Result.andThen_ok, Sem.run_pure]
              · exact ⟨g, m, cp, h1, by omega, by rw [add_plain', add_plain', hsz, hwid, Nat.zero_add, Nat.add_zero, Nat.add_mul]⟩
          · cases hk
        · cases hk
      · cases hk
    · rename_i κ g i' oo ex
      rw [ex] at hX hB
      split at hk
      · rename_i rt er
        split at hk
        · rename_i hh
          obtain ⟨hg, hk⟩ := cond_some' hk
          split at hk
          · rename_i e' t' xs el
            obtain ⟨hs, hk⟩ := cond_some' hk
            simp only [Bool.and_eq_true] at hs hg
            have hw1 : width t' = 1 := by cases t' <;> first | rfl | (simp [scal] at hs)
            have hsz : sizeT P e = 1 := by rw [Nat.eq_of_beq_eq_true hs.1, hw1]
            split at hk
            · rename_i hn0
              split at hk
              · rename_i hn1
                have hgk := gens_ok h er el
                obtain ⟨b, m, cp, hhd, hin, hoo, hcell⟩ := (hX _ hgk).2 (Nat.eq_of_beq_eq_true hg.1).symm
                obtain ⟨hi, v, inner, hv, hown, hcol, hel⟩ := row_own h er hh hg.2 el hhd hin hoo hcell
                have hv : a.eval x = v := by simpa using hv
                rcases hown.2 with ⟨_, hz⟩ | ⟨b', cap, cur, hb', _⟩
                · omega
                · have hax : a.eval x = .slice (some ⟨b', 0, none⟩) xs.length cap := by rw [hv, hb']
                  refine does_value h hM hd (v := .pointer (some ((⟨b', 0, none⟩ : Addr).add (n.toNat * sizeT P e)))) ?_ (x := .one (.rptr κ g i' oo n.toNat)) ?_ hB hk
                  · simp only [execOp, ho, hax, hY, Sem.run_bind, run_index hu (show 0 < sizeT P e by omega) hn0 hn1, Result.andThen_ok, Sem.run_pure]
                  · intro g0 hg0
                    rw [hgk] at hg0
                    injection hg0 with hg0
                    have := Nat.eq_of_beq_eq_true hg.1
                    refine ⟨by omega, fun _ => ⟨b, m, cp, b', xs.length, cap, hhd, hin, hoo, by rw [hcell, hax], by omega, by rw [add_plain', hsz, Nat.zero_add, Nat.mul_one]⟩⟩
              · cases hk
            · cases hk
          · cases hk
        · cases hk
      · cases hk
    · cases hk
  · cases hk
theorem does_strindex (h : Rel M N w0 keep f c a w) (hM : Fr M key) (hd : DstP N keep o.dst) {T : Nat} {x y : Operand} (ho : o.op = .index T x y) (nx : Nat)
    (hk : (cond (isStr P T) (match evV ⟨f, nx⟩ y with
      | .int _ n => match evV ⟨f, nx⟩ x with
        | .str s => if 0 ≤ n then (if n < (s.size : Int) then k (putV o.dst (.int .u8 (byteAt s n.toNat))) else none) else none
        | _ => none
      | _ => none) none) = some r) : Does P o M N w0 keep f key a w k r := by
  have hX := h.evv nx x
  have hY := h.evv nx y
  cases hs : isStr P T with
  | false => rw [hs] at hk; cases hk
  | true =>
    rw [hs, cond_true] at hk
    have hu : P.underlying T = some .string := by
      unfold isStr at hs
      split at hs
      · assumption
      · cases hs
    split at hk
    · rename_i kd n ey
      rw [ey] at hY
      have hY : a.eval y = .int kd n := hY
      split at hk
      · rename_i s ex
        rw [ex] at hX
        have hX : a.eval x = .string s := hX
        split at hk
        · rename_i h0
          split at hk
          · rename_i h1
            have hi : n.toNat < s.size := by omega
            refine does_plain h hM hd (v := .int .u8 (byteAt s n.toNat)) ?_ rfl hk
            have hg : s[n.toNat]? = some s[n.toNat] := getElem?_pos s n.toNat hi
            simp only [execOp, ho, hX, hY, Sem.run_bind, Instr.index, asIntOf, Sem.run_pure, Result.andThen_ok, run_underlying hu, if_pos h0, hg]
            simp [byteAt, hi]
          · cases hk
        · cases hk
      · cases hk
    · cases hk
/-- A slice's leaf of what is read, told with the blocks that it leads to. -/
theorem leaf_dat {w : World} {ok : Nat → Prop} {t : Ty} {x : den t} {cs : List Value} {i e : Nat} {t' : Ty} {ys : List (den t')} {u : Value} (h : Rd w ok t x cs) (el : leafV t x i = .dat e t' ys) (hu : cs[i]? = some u) : Rd w ok (.sl e t') ys [u] := by
  classical
  let χ : Nat → List Nat := fun k => if ok k then [] else [0]
  have hχ : ∀ k, χ k = [] ↔ ok k := fun k => by
    show (if ok k then [] else [0]) = [] ↔ ok k
    by_cases e : ok k
    · rw [if_pos e]; exact ⟨fun _ => e, fun _ => rfl⟩
    · rw [if_neg e]; exact ⟨fun h => by simp at h, fun h => absurd h e⟩
  have h2 : Rd w (fun k => (⟨χ, fun _ => undef, fun _ => 0, fun _ => 0, fun _ => none⟩ : Ctx).χ k = []) t x cs := Rd_step (fun k hk _ => ⟨(hχ k).2 hk, rfl⟩) h
  have h3 := leaf_ok h2 hu
  rw [el] at h3
  exact Rd_step (fun k hk _ => ⟨(hχ k).1 hk, rfl⟩) h3
theorem row_ok (h : Rel M N w0 keep f c a w) {κ g i oo : Nat} {rt : Root} (er : f (rl κ) = .root rt) (hh : rt.hole = none) (hg : (Nat.beq rt.gen g && rt.deep) = true) {x : Value} (hx : VR w c (.row κ g i oo) x) {e : Nat} {t : Ty} {xs : List (den t)} (el : leafV rt.t (rt.xs.getD i (dflt rt.t)) oo = .dat e t xs) :
    Rd w (fun k => ∃ q, c.χ k = (κ + 1) :: q) (.sl e t) xs [x] := by
  simp only [Bool.and_eq_true] at hg
  obtain ⟨b, n, cp, hhd, hin, hoo, hcell⟩ := (hx _ (gens_ok h er el)).2 (Nat.eq_of_beq_eq_true hg.1).symm
  exact Own_Rd (fun k q hk => ⟨_, hk⟩) (row_own h er hh hg.2 el hhd hin hoo hcell).2
/-- A slice's length is its header's. -/
theorem lenV_ok (h : Rel M N w0 keep f c a w) {v : V} {x : Value} {n : Nat} (hx : VR w c v x) (hn : lenV f v = some n) : ∃ A cp, x = .slice A n cp := by
  unfold lenV at hn
  split at hn
  · injection hn with hn; subst hn; exact ⟨none, 0, hx⟩
  · rename_i e t xs
    injection hn with hn; subst hn
    obtain ⟨A, cp, _, hv, _⟩ := hx
    exact ⟨A, cp, by simpa using hv⟩
  · rename_i κ
    split at hn
    · rename_i rt er
      injection hn with hn; subst hn
      obtain ⟨v, inner, hv, hown, _⟩ := (h.roots κ rt er).1.body
      obtain ⟨A, cp, he, _⟩ := ownsRow_slice hown
      have hx : x = c.hdr κ := hx
      exact ⟨A, cp, by rw [hx, ← he]; exact hv⟩
    · cases hn
  · rename_i κ lo hi
    injection hn with hn; subst hn
    obtain ⟨A, n, cp, A', _, _, _, hv, _⟩ := hx
    exact ⟨A', _, hv⟩
  · rename_i κ g i oo
    split at hn
    · rename_i rt er
      split at hn
      · rename_i hh
        obtain ⟨hg, hn⟩ := cond_some' hn
        split at hn
        · rename_i e' t' xs el
          injection hn with hn; subst hn
          obtain ⟨A, cp', _, hvv, _⟩ := row_ok h er hh hg hx el
          exact ⟨A, cp', by simpa using hvv⟩
        · cases hn
      · cases hn
    · cases hn
  · cases hn
end
end Go.Proofs.Ytoioaijpdiglfaa.V
