/- FnPlays, out of the interpreter's answer. (The row: it began as the print's Law row; the statement is the given one.) -/
import Derived.Test.YtoioaijpdiglfaaRows
import Derived.Test.YtoioaijpdiglfaaVPureFnPlays
import Derived.WalkKit
import Derived.ProofKit
import Derived.OpenShut
import Derived.ChangeOld
import Derived.Below
import Derived.Carry
import Derived.SizedLaws
namespace Go.Proofs.Ytoioaijpdiglfaa.fnPlays
open Go.ChangeShapes Go.WideShapes Go.RowKit
open Go.Proofs.Ytoioaijpdiglfaa.V
set_option linter.unusedVariables false
theorem own : ownKnob Try.prog.godebug = none := by kernel_rfl
theorem laidOut : laidOutB Try.prog = true := by kernel_rfl
theorem nice : Nice Try.prog HH := ⟨by kernel_rfl, fun fn h => by cases h⟩
noncomputable def theF : Func := (Try.prog.funcs[8]?).getD default
theorem isF : Try.prog.funcs[8]? = some theF := by kernel_rfl
theorem pars : theF.params.toList = [31] := by kernel_rfl
set_option maxRecDepth 100000 in
theorem lifted (os : Os) (started : os.Started) (H : Type) (enc : TypeId × Value → H) :
    ReturnsInHanded {} Try.checked os 8 .any (Rows.fnPlaysSpec.pre6 enc Try.prog theF Rows.fnPlaysRow.domain false) (Rows.fnPlaysSpec.post enc Try.prog theF false true false false) := by
  refine returnsInHanded_of_change_sized (C := Try.checked) own started (by kernel_rfl) isF
    (ChangeSpec.witness6 (enc := enc) (C := Try.checked) false ⟨#[], #[(((Try.prog.info? 31).bind (·.zero)).getD (.tuple #[]))], []⟩ 12 (by kernel_rfl) (by kernel_rfl) (by kernel_rfl) (by kernel_rfl)) ?_
  intro W base args ds gs before hval0 hW hcnd hsz0 _
  have hsz : (DataW.weightsEach Try.prog (theF.params.toList ++ Rows.fnPlaysSpec.plain.varTypes Try.prog) (ds ++ gs)).all (· ≤ reachBytes) = true := hsz0
  have hval : ∀ (j : Nat) t v, theF.params[j]? = some t → args[j]? = some v → Value.okWide Try.prog W .any base t v := hval0
  have hW' := hW
  obtain ⟨p, q, hA0, hV, rfl, hfz, hnd⟩ := hW
  have hA : DataW.TrodAll enc Try.prog W 0 (fun _ => true) true theF.params.toList args.toList ds p := hA0
  obtain ⟨rfl, rfl⟩ := trodVars_none hV
  obtain ⟨x, cs, hrd, hfit, hgrp⟩ := args_read (enc := enc) (P := Try.prog) (w := W) (spare := fun _ => true) (held := true) theF.params.toList (ts := HH.par 8) (by kernel_rfl) (by kernel_rfl) hA
    (fun j t v h1 h2 => ⟨base, hval j t v (by simpa using h1) (by simpa using h2)⟩)
    (fun j t d h1 h2 m hm => by
      have := List.all_eq_true.1 hsz m (DataW.weights_mem_each (j := j) (t := t) (d := d) (by rw [List.getElem?_append_left (List.getElem?_eq_some_iff.1 h1).1]; exact h1) (by rw [List.append_nil]; exact h2) m hm)
      simpa using this)
  obtain ⟨N, hN⟩ := law_FnPlays x hfit
  refine (law_calls (frun_sound nice (fun fn l h => by have h : (none : Option LibF) = some l := h; cases h) N 8 x true hN) isF (T := 4) (by kernel_rfl) (by kernel_rfl) (by kernel_rfl) (by kernel_rfl) (by kernel_rfl) (by kernel_rfl) (fun w' χ ds h => by
    obtain ⟨d, rfl, hd⟩ := (h : OwnM w' χ [.own] [.bool] true 0 ds); exact hd) hrd hgrp).mono fun e W' ⟨he, bel⟩ => ?_
  subst he
  rw [pars] at hA
  obtain ⟨v0, vs0, d0, ds0, p0, q0, hv0, rfl, rfl, k0, r0⟩ := trodAll_cons hA
  have lt0 : ∀ x ∈ p0, x.block < W.heap.size := by obtain ⟨m, hm⟩ := k0; exact DataW.trod_lt m _ _ _ hm
  obtain ⟨rfl, rfl, rfl⟩ := trodAll_nil r0
  exact ⟨_, rfl, _, _, _, [], _, [], hW', trodAll_mk1 (shut_bool (show Try.prog.underlying 4 = some .bool by kernel_rfl) _), (by
    show DataW.TrodAll enc Try.prog W' 0 (fun b => decide (b < W.heap.size)) true theF.params.toList args.toList _ _
    rw [pars, hv0]
    exact (trodAll_cons_mk (Below.trod laidOut (by kernel_rfl) (of_decide_eq_true (by kernel_rfl)) k0 bel lt0) trodAll_mk0)), rfl, bel.frame _, fun h => by cases h⟩
theorem over : Rows.fnPlaysRow.holds Try.pinned (OpenSpec.ofChange Rows.fnPlaysSpec) :=
  OpenClaim.holds_of_wide 8 theF rfl rfl rfl rfl rfl rfl rfl ⟨rfl, rfl, rfl, rfl, rfl⟩ rfl rfl rfl rfl rfl (by kernel_rfl) isF (by kernel_rfl)
    (of_decide_eq_true (by kernel_rfl)) (by unfold Func.isWrapper; first | (rw [if_pos (by decide +kernel)]; kernel_rfl) | (rw [if_neg (by decide +kernel)]; exact ⟨rfl, rfl⟩))
    (fun os started H enc _ => lifted os started H enc)
theorem proved : Rows.FnPlaysSaid := over
end Go.Proofs.Ytoioaijpdiglfaa.fnPlays
namespace Go.Proofs.Ytoioaijpdiglfaa
theorem fnPlays_holds : Rows.FnPlaysSaid := fnPlays.proved
end Go.Proofs.Ytoioaijpdiglfaa
