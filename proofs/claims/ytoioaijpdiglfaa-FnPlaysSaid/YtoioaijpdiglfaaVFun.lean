/- The theorem: what the interpreter answers, the program answers. -/
import Derived.Test.YtoioaijpdiglfaaVLeave
set_option linter.unusedVariables false
set_option linter.unusedSimpArgs false
namespace Go.Proofs.Ytoioaijpdiglfaa.V
open Go Go.RowKit
section
variable {P : Program} {H : Hints} {M : Nat → Prop} {N : Nat} {w0 w : World} {keep : Kp} {f : Nat → Val} {c : Ctx} {a : Act}
theorem argLeaves_len : ∀ {Ts : List Nat} {us : List Ty} {ss : List S} {vs : List V}, tysL P Ts = some us → argLeaves P Ts ss = some vs → vs.length = us.length
  | [], us, [], vs, h, he => by
    injection h with h; injection he with he
    subst h he; rfl
  | T :: Ts, us, s :: ss, vs, h, he => by
    simp only [tysL] at h
    simp only [argLeaves] at he
    split at h
    · rename_i ts us' e1 e2
      injection h with h
      subst h
      rw [e1] at he
      split at he
      · rename_i ts' r e3 e4
        injection e3 with e3
        subst e3
        have ih := argLeaves_len e2 e4
        split at he
        · cases hag : aggT P T with
          | true => rw [hag] at he; cases he
          | false =>
            rw [hag, cond_false] at he
            obtain ⟨hl, he⟩ := cond_some' he
            have hl := Nat.eq_of_beq_eq_true hl
            injection he with he
            subst he
            rw [List.length_cons, List.length_append, ih, hl]; omega
        · cases hag : aggT P T with
          | false => rw [hag] at he; cases he
          | true =>
            rw [hag, cond_true] at he
            obtain ⟨hl, he⟩ := cond_some' he
            have hl := Nat.eq_of_beq_eq_true hl
            injection he with he
            subst he
            rw [List.length_append, List.length_append, ih, hl]
        · cases he
      · cases he
    · cases h
  | [], us, _ :: _, vs, h, he => by cases he
  | _ :: _, us, [], vs, h, he => by cases he
theorem grp_len : ∀ {Ts : List Nat} {us : List Ty} {cs : List Value}, tysL P Ts = some us → (grp P Ts cs).length = Ts.length
  | [], _, _, _ => rfl
  | T :: Ts, us, cs, h => by
    simp only [tysL] at h
    split at h
    · rename_i ts us' e1 e2
      simp only [grp, e1, List.length_cons, grp_len e2]
    · cases h
theorem outTmps_ge {io : Nat → Bool} : ∀ {Ts : List Nat} {t0 i0 t : Nat}, t ∈ outTmps P io Ts t0 i0 → t0 ≤ t ∧ t < t0 + Ts.length
  | [], _, _, _, h => by cases h
  | T :: Ts, t0, i0, t, h => by
    simp only [outTmps] at h
    split at h
    · rename_i ts e
      have rest : t ∈ outTmps P io Ts (t0 + 1) (i0 + ts.length) → t0 ≤ t ∧ t < t0 + (T :: Ts).length := fun h => by
        have := outTmps_ge h
        simp only [List.length_cons]; omega
      cases hb : (List.range ts.length).any fun j => io (i0 + j) with
      | false => rw [hb] at h; exact rest h
      | true =>
        rw [hb, cond_true] at h
        rcases List.mem_cons.1 h with e' | e'
        · subst e'; simp only [List.length_cons]; omega
        · exact rest e'
    · cases h
/-- The leaves of a kept parameter are what they were. -/
theorem out_same {io : Nat → Bool} : ∀ {Ts : List Nat} {us : List Ty} {t0 i0 : Nat} {pc cs : List Value} {ss : List S} {vs : List V}, tysL P Ts = some us → argLeaves P Ts ss = some vs → pc.length = us.length → cs.length = us.length →
    (∀ t ∈ outTmps P io Ts t0 i0, (grp P Ts pc)[t - t0]? = (grp P Ts cs)[t - t0]?) → ∀ j, io (i0 + j) = true → j < us.length → pc[j]? = cs[j]?
  | [], us, t0, i0, pc, cs, [], vs, h, he, _, _, _, j, _, hj => by
    injection h with h
    subst h
    simp at hj
  | T :: Ts, us, t0, i0, pc, cs, s :: ss, vs, h, he, hpc, hcs, hout, j, hio, hj => by
    simp only [tysL] at h
    split at h
    · rename_i ts us' e1 e2
      injection h with h
      subst h
      rw [List.length_append] at hpc hcs hj
      simp only [argLeaves, e1] at he
      split at he
      · rename_i ts' r e3 e4
        injection e3 with e3
        subst e3
        have hone : aggT P T = false → ts.length = 1 := fun hag => by
          split at he
          · rw [hag, cond_false] at he
            obtain ⟨hl, _⟩ := cond_some' he
            exact Nat.eq_of_beq_eq_true hl
          · rw [hag] at he; cases he
          · cases he
        have hO : outTmps P io (T :: Ts) t0 i0 = cond ((List.range ts.length).any fun j => io (i0 + j)) (t0 :: outTmps P io Ts (t0 + 1) (i0 + ts.length)) (outTmps P io Ts (t0 + 1) (i0 + ts.length)) := by simp only [outTmps, e1]
        have hG : ∀ l : List Value, grp P (T :: Ts) l = cond (aggT P T) (.agg (l.take ts.length).toArray) (l.headD undef) :: grp P Ts (l.drop ts.length) := fun l => by simp only [grp, e1]
        by_cases hjn : j < ts.length
        · have hany : ((List.range ts.length).any fun j => io (i0 + j)) = true := List.any_eq_true.2 ⟨j, List.mem_range.2 hjn, hio⟩
          have h0 := hout t0 (by rw [hO, hany]; exact List.mem_cons_self)
          rw [Nat.sub_self, hG, hG] at h0
          have h0 : (cond (aggT P T) (Value.agg (pc.take ts.length).toArray) (pc.headD undef)) = cond (aggT P T) (Value.agg (cs.take ts.length).toArray) (cs.headD undef) := by simpa using h0
          cases hag : aggT P T with
          | true =>
            rw [hag, cond_true, cond_true] at h0
            injection h0 with h0
            have h0 := congrArg Array.toList h0
            simp only [List.toList_toArray] at h0
            have e5 : ∀ l : List Value, l[j]? = (l.take ts.length)[j]? := fun l => by rw [List.getElem?_take, if_pos hjn]
            rw [e5 pc, e5 cs, h0]
          | false =>
            have hn := hone hag
            rw [hag, cond_false, cond_false] at h0
            have hj0 : j = 0 := by omega
            subst hj0
            cases pc with
            | nil => simp at hpc; omega
            | cons p pc => cases cs with
              | nil => simp at hcs; omega
              | cons q cs => simpa using h0
        · have := out_same (io := io) (t0 := t0 + 1) (i0 := i0 + ts.length) (pc := pc.drop ts.length) (cs := cs.drop ts.length) e2 e4 (by rw [List.length_drop]; omega) (by rw [List.length_drop]; omega) (fun t ht => by
            have hge := (outTmps_ge ht).1
            have h0 := hout t (by
              rw [hO]
              cases (List.range ts.length).any fun j => io (i0 + j) with
              | true => exact List.mem_cons_of_mem _ ht
              | false => exact ht)
            rw [hG, hG, show t - t0 = (t - (t0 + 1)) + 1 by omega] at h0
            simpa using h0) (j - ts.length) (by rw [show i0 + ts.length + (j - ts.length) = i0 + j by omega]; exact hio) (by omega)
          rw [List.getElem?_drop, List.getElem?_drop, show ts.length + (j - ts.length) = j by omega] at this
          exact this
      · cases he
    · cases h
  | [], _, _, _, _, _, _ :: _, _, _, he, _, _, _, _, _, _ => by cases he
  | _ :: _, _, _, _, _, _, [], _, _, he, _, _, _, _, _, _ => by cases he
theorem endsOk_len : ∀ {ms : List RM} {vs : List V}, endsOk f ms vs = true → vs.length = ms.length
  | [], [], _ => rfl
  | _ :: _, _ :: _, h => by
    simp only [endsOk, Bool.and_eq_true] at h
    simp only [List.length_cons, endsOk_len h.2]
  | [], _ :: _, h => by cases h
  | _ :: _, [], h => by cases h
theorem dsts_mono {n m : Nat} {ts : List Nat} (h : n ≤ m) : ∀ {cd : Code}, dsts n ts cd = true → dsts m ts cd = true := by
  intro cd
  induction cd with
  | region id ops dr =>
    intro hd
    refine List.all_eq_true.2 fun o ho => ?_
    have := List.all_eq_true.1 hd o ho
    cases e : o.dst with
    | none => rfl
    | some d =>
      rw [e] at this
      simp only [Bool.and_eq_true, Nat.blt_eq] at this ⊢
      exact ⟨Nat.lt_of_lt_of_le this.1 h, this.2⟩
  | seq x y ihx ihy => intro hd; simp only [dsts, Bool.and_eq_true] at hd ⊢; exact ⟨ihx hd.1, ihy hd.2⟩
  | cond x y z ihy ihz => intro hd; simp only [dsts, Bool.and_eq_true] at hd ⊢; exact ⟨ihy hd.1, ihz hd.2⟩
  | block id b ih => exact ih
  | loop b ih => exact ih
  | skip => exact fun _ => rfl
  | exit _ => exact fun _ => rfl
  | ret => exact fun _ => rfl
  | _ => intro hd; cases hd
theorem frun_sound (hn : Nice P H) (hlib : ∀ fn l, H.lib fn = some l → ∀ x y, libRun l (H.par fn) (H.res fn) x = some y → Meets P H fn x y) : ∀ (n : Nat) (fn : Nat) (x : den (parTy H fn)) (y : den (resTy H fn)), frun P H n fn x = some y → Meets P H fn x y
  | 0, fn, x, y, hy => by cases hy
  | n + 1, fn, x, y, hy => by
    simp only [frun] at hy
    split at hy
    · rename_i l hl; exact hlib fn l hl x y hy
    split at hy
    · cases hy
    rename_i F hF
    split at hy
    · cases hy
    rename_i cd hb
    obtain ⟨hc, hy⟩ := cond_some' hy
    unfold funOk at hc
    simp only [Bool.and_eq_true] at hc
    obtain ⟨h1, h2, h3, h4, h5, h6, h7⟩ := hc
    have hasc : ∀ i ∈ H.out fn, i < 64 ∧ i < (H.par fn).length := fun i hi => by
      have := h6
      unfold outOk at this
      simp only [Bool.and_eq_true] at this
      have := ascN_lt this.1 i hi
      omega
    refine ⟨F, cd, hF, hb, fun w cs χ0 hglob harg => ?_⟩
    obtain ⟨L, hLt, hLd, hLl, hLo⟩ := argM_each harg
    have hLlen : L.length = (H.par fn).length := by rw [hLt, List.length_map]
    have hent := entry (P := P) (io := ioB H fn) (Ts := F.params.toList) (χ := χ0) (L := L) (w0 := w) rfl rfl (fun i hi => (hasc i (memN_mem.1 hi)).1) (fun l hl => List.all_eq_true.1 h3 _ (by rw [hLt]; exact List.mem_map.2 ⟨l, hl, rfl⟩)) (fun p l hl => by
      have := hLl p l hl
      rw [Nat.zero_add] at this; exact this) (outTmps P (ioB H fn) F.params.toList 0 0) (F.ntmps - (grp P F.params.toList cs).toArray.size)
    rw [← hLd] at hent
    have hst : entrySt P H fn F x = ⟨ofList (parSlots (cutLeaves P F.params.toList ((L.zipIdx 0).map (fun q => (inLeaf (ioB H fn q.2) q.2 q.1.t q.1.x).1))) 0 ++ ((L.zipIdx 0).map (fun q => (inLeaf (ioB H fn q.2) q.2 q.1.t q.1.x).2)).flatten), 1⟩ := by
      unfold entrySt
      rw [hLo]
    rw [hst] at hy
    refine calls_of_wp hF hb (exec_ok (nx := 1) (frun P H n) ⟨hn, hglob⟩ (frun_sound hn hlib n) n (H.live fn) (outTmps P (ioB H fn) F.params.toList 0 0) (fun t v ht => by
      have ht : (if t ∈ outTmps P (ioB H fn) F.params.toList 0 0 then some _ else none) = some v := ht
      split at ht
      · assumption
      · cases ht) cd (dsts_mono (by omega) h5) hent hy ?_)
    intro e f nx c a w' he hrel
    cases e with
    | normal => cases he
    | exit j => cases he
    | ret =>
      unfold retC at he
      have hrel := hrel.rsv
      simp only [rsv] at he
      generalize rsvF f = f at he hrel
      simp only [retC0] at he
      split at he
      · rename_i ss hss
        split at he
        · rename_i vs ps hvs hps
          generalize hls : vs ++ ioVs H fn ps = ls at he
          obtain ⟨hcc, he⟩ := cond_some' he
          simp only [Bool.and_eq_true] at hcc
          obtain ⟨c1, c2, c3, c4⟩ := hcc
          obtain ⟨ys, hys, hrun⟩ := resS_ok hrel nx hss
          obtain ⟨ds, hds, hgrp, hlen⟩ := argLeaves_all hys hvs
          -- what the written parameters have become lies where they lay
          have hio : All2 (VR w' c) (ioVs H fn ps) ((H.out fn).map fun i => cs.getD i undef) := by
            cases hemp : (H.out fn).isEmpty with
            | true =>
              have : H.out fn = [] := by simpa using hemp
              unfold ioVs
              rw [this]; trivial
            | false =>
              rw [hemp, cond_false] at hps
              unfold parLeaves at hps
              have hss2 : All2 (SR w' c) ((List.range F.params.size).map fun t => evS ⟨f, nx⟩ (.tmp t)) ((List.range F.params.size).map fun t => a.tmps.getD t undef) := by
                refine All2.mk (by simp) fun i s v hs hv => ?_
                rw [List.getElem?_map] at hs hv
                cases hr : (List.range F.params.size)[i]? with
                | none => rw [hr] at hs; cases hs
                | some t =>
                  rw [hr] at hs hv
                  have hs : evS ⟨f, nx⟩ (.tmp t) = s := by simpa using hs
                  have hv : a.tmps.getD t undef = v := by simpa using hv
                  rw [← hs, ← hv]
                  exact hrel.ev nx (.tmp t)
              obtain ⟨pc, hpc, hpg, _⟩ := argLeaves_all hss2 hps
              have htl := fits_eq h1
              have hpl := argLeaves_len htl hps
              have hcl : cs.length = (H.par fn).length := by rw [hLd, List.length_map, hLlen]
              have hsame := out_same (io := ioB H fn) (t0 := 0) (i0 := 0) (pc := pc) (cs := cs) htl hps (by rw [← hpc.len, hpl]) hcl (fun t ht => by
                have hlt := (outTmps_ge ht).2
                rw [Nat.sub_zero, hpg]
                have hpar := hrel.pars t _ (if_pos ht)
                have htn : t < F.params.size := by rw [← Array.length_toList]; omega
                rw [List.getElem?_map, List.getElem?_range htn]
                have hgl : (grp P F.params.toList cs).length = F.params.toList.length := grp_len htl
                have : t < (grp P F.params.toList cs).length := by rw [hgl]; omega
                rw [List.getElem?_eq_getElem this, Option.map_some, hpar]
                congr 1
                rw [Array.getD_eq_getD_getElem?, Array.getElem?_append_left (by simpa using this)]
                simp [this])
              refine All2.mk (by simp [ioVs]) fun j v d hv hd => ?_
              unfold ioVs at hv
              rw [List.getElem?_map] at hv hd
              cases hj : (H.out fn)[j]? with
              | none => rw [hj] at hv; cases hv
              | some i =>
                rw [hj] at hv hd
                have hv : ps.getD i .undef = v := by simpa using hv
                have hd : cs.getD i undef = d := by simpa using hd
                have hi := List.mem_of_getElem? hj
                have hil := (hasc i hi).2
                have hpi : i < ps.length := by rw [hpl]; exact hil
                obtain ⟨dv, hdv, hvr⟩ := hpc.get (List.getElem?_eq_getElem hpi)
                have h8 := hsame i (by rw [Nat.zero_add]; exact memN_mem.2 hi) hil
                rw [hdv] at h8
                rw [← hv, ← hd, List.getD_eq_getElem?_getD, List.getD_eq_getElem?_getD, List.getElem?_eq_getElem hpi, ← h8]
                exact hvr
          have hall : All2 (VR w' c) ls (ds ++ (H.out fn).map fun i => cs.getD i undef) := by rw [← hls]; exact hds.app hio
          have hle2 : (H.out fn).length ≤ (H.res fn).length := by
            have := h6
            unfold outOk at this
            simp only [Bool.and_eq_true] at this
            exact Nat.le_of_ble_eq_true this.2.1
          have hrl : (rmsOf H fn).length = nres H fn + (H.out fn).length := by simp [rmsOf]
          have hdl : ds.length = nres H fn := by
            have := endsOk_len c1
            rw [← hls, List.length_append, hrl, hds.len] at this
            unfold ioVs at this
            rw [List.length_map] at this; omega
          have hown := ends_own (χ' := fun b => endCol (rmsOf H fn) ls (c.χ b)) hrel (io := fun i => Nat.ble (nres H fn) i) h4 hall c1 (fun j m hj hb => by
            have hb : nres H fn ≤ j := by rw [Nat.zero_add] at hb; exact Nat.le_of_ble_eq_true hb
            unfold rmsOf at hj
            rw [List.getElem?_append_right (by simpa using hb), List.getElem?_map] at hj
            cases h9 : (H.out fn)[j - ((List.range (nres H fn)).map fun i => (bif memN i (H.dats fn) then RM.dat else RM.own)).length]? with
            | none => rw [h9] at hj; cases hj
            | some _ => rw [h9] at hj; injection hj with hj; exact hj.symm) (fun j v m hv hm => ⟨fun hd κ hκ b q hq => by
              show endCol (rmsOf H fn) ls (c.χ b) = _
              rw [hq]
              simp only [endCol, posKey_get c2 hm hv hd hκ], fun hd κ hκ b q hq => by
              show endCol (rmsOf H fn) ls (c.χ b) = _
              rw [hq]
              subst hd
              have hmem := datKeys_get hm hv hκ
              have hne : κ ∉ endKeys (rmsOf H fn) ls := fun h' => by
                have := List.all_eq_true.1 c4 κ hmem
                rw [memN_mem.2 h'] at this; cases this
              simp only [endCol, posKey_none hne, if_pos hmem], fun β hβ b hq => by
              show endCol (rmsOf H fn) ls (c.χ b) = _
              rw [hq]
              simp only [endCol, posBox_get c3 hv hβ]⟩) (fun b hq => by
              show endCol (rmsOf H fn) ls (c.χ b) = _
              rw [hq]; rfl) he
          have htake : (ds ++ (H.out fn).map fun i => cs.getD i undef).take (nres H fn) = ds := by rw [← hdl, List.take_left]
          have hdrop : (ds ++ (H.out fn).map fun i => cs.getD i undef).drop (nres H fn) = (H.out fn).map fun i => cs.getD i undef := by rw [← hdl, List.drop_left]
          refine ⟨hrel.defers, retV P F.resultTypes.toList ds, ?_, _, _, by rw [htake], hown, hdrop, ⟨hrel.hsize, fun k hs hk => ?_, hrel.os, hrel.tape, hrel.output⟩⟩
          · have hl : ys.length = F.resultTypes.toList.length := by rw [hlen, hys.len]
            have hm : (F.results.mapM (m := Sem) fun
                | .tmp t => pure (a.tmps.getD t undef)
                | .cell p t => do loadVar t (← asAddr (a.tmps.getD p undef))).run P w' = .ok ys.toArray w' := by
              rw [Array.mapM_eq_mapM_toList]
              simp only [Sem.run_map]
              exact congrArg (fun z => Result.andThen z fun (a : List Value) w' => Result.ok a.toArray w') hrun
            unfold results
            rw [Sem.run_bind]
            refine (congrArg (fun z => Result.andThen z fun (vs : Array Value) w' => Sem.run P (pure (if h : vs.size = 1 then vs[0] else .tuple vs)) w') hm).trans ?_
            simp only [Result.andThen_ok, Sem.run_pure]
            have hgl : (grp P F.resultTypes.toList ds) = ys := hgrp
            unfold retV
            split
            · rename_i h1
              split
              · rename_i T e
                rw [e] at hgl
                rw [hgl]
                cases ys with
                | nil => simp at h1
                | cons y ys => rfl
              · rename_i Ts hne
                exfalso
                simp only [List.size_toArray] at h1
                rw [hl] at h1
                cases hT : F.resultTypes.toList with
                | nil => rw [hT] at h1; cases h1
                | cons T Ts' => cases Ts' with
                  | nil => exact hne T hT
                  | cons _ _ => rw [hT] at h1; simp at h1
            · rename_i h1
              split
              · rename_i T e
                rw [e] at hl
                simp [hl] at h1
              · rw [hgl]
          · obtain ⟨g1, g2⟩ := hrel.kept k hs hk
            have g1 : c.χ k = χ0 k := g1
            refine ⟨?_, g2⟩
            show endCol (rmsOf H fn) ls (c.χ k) = χ0 k
            rw [g1]
            rcases hs with hs | hs <;> · have hs : χ0 k = _ := hs
                                         rw [hs]; rfl
        · cases he
      · cases he
end
end Go.Proofs.Ytoioaijpdiglfaa.V
