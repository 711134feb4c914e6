/- FnSayings, out of the interpreter's answer: the row, and its tied card. (The row's frame began as the print's Law row; the statement is the given one.) -/
import Derived.Test.YtoioaijpdiglfaaGreatDoorRows
import Derived.Test.YtoioaijpdiglfaaGreatDoorCards
import Derived.Test.YtoioaijpdiglfaaGreatDoorTie
import Derived.Test.YtoioaijpdiglfaaGreatDoorVPureFnSayings
import Derived.Test.YtoioaijpdiglfaaGreatDoorVLibs
import Derived.WalkKit
import Derived.ProofKit
import Derived.OpenShut
import Derived.ChangeOld
import Derived.Below
import Derived.Carry
import Derived.SizedLaws
import Derived.LaidMore
import Derived.MakeChecks
import Derived.Stop.LaidErr
import Derived.Lib.LaidTab
import Derived.SevenTiedAt
namespace Go.Proofs.YtoioaijpdiglfaaGreatDoor.fnSayings
open Go.ChangeShapes Go.WideShapes Go.RowKit Go.ChangeAt
open Go.Proofs.YtoioaijpdiglfaaGreatDoor.V
set_option linter.unusedVariables false
theorem own : ownKnob Tryz.prog.godebug = none := by kernel_rfl
theorem laidOut : laidOutB Tryz.prog = true := by kernel_rfl
theorem nice : Nice Tryz.prog HH := ⟨by kernel_rfl, fun fn h => by cases h⟩
def laid3 : List (String × DataW Unit) := [("math/bits.deBruijn32tab", Rows.laid_math_bits_deBruijn32tab), ("math/bits.deBruijn64tab", Rows.laid_math_bits_deBruijn64tab), ("internal/strconv.uint64pow10", Rows.laid_internal_strconv_uint64pow10)]
noncomputable def theF : Func := (Tryz.prog.funcs[3]?).getD default
theorem isF : Tryz.prog.funcs[3]? = some theF := by kernel_rfl
theorem pars : theF.params.toList = [22] := by kernel_rfl
theorem glob_of {W : World} (hL : laidMetH Tryz.prog laid3 W) : Glob Tryz.prog HH W (fun _ => []) := fun nm kd zs e => by
  have e' : HH.tab = some ("internal/strconv.uint64pow10", .u64, [1, 10, 100, 1000, 10000, 100000, 1000000, 10000000, 100000000, 1000000000, 10000000000, 100000000000, 1000000000000, 10000000000000, 100000000000000, 1000000000000000, 10000000000000000, 100000000000000000, 1000000000000000000, 10000000000000000000]) := rfl
  rw [e'] at e
  injection e with e
  injection e with e1 e
  injection e with e2 e3
  subst e1 e2 e3
  refine ⟨?_, fun _ _ => .inl rfl⟩
  rw [MakeChecks.laidMetH_plain _ _ _ (by kernel_rfl)] at hL
  exact Lib.tabIs_of_head (g := 1) (t := 162) (e := 116) (n := 20) (by kernel_rfl) (by kernel_rfl) (by kernel_rfl) (by kernel_rfl) (by kernel_rfl) (by kernel_rfl) hL.tail.tail
theorem door_met (os : Os) (args : Array Value) : laidMetH Tryz.prog laid3 ((World.doorLaid Tryz.prog 400 os).forCall (fun _ _ => 0) ⟨#[], args, []⟩).memory := by
  rw [MakeChecks.laidMetH_plain _ _ _ (by kernel_rfl)]
  exact laidMet_of_run' 8 (by kernel_rfl) (by kernel_rfl)
set_option maxRecDepth 100000 in
theorem lifted (os : Os) (started : os.Started) (H : Type) (enc : TypeId × Value → H) :
    ReturnsInHanded {} Tryz.checked os 3 .any (fun w args => (Rows.fnSayingsSpec.pre enc Tryz.prog theF [] false w args ∧ laidMetH Tryz.prog laid3 w) ∧ sizedMet enc Tryz.prog theF (OpenSpec.ofChange Rows.fnSayingsSpec) false w args)
      (Rows.fnSayingsSpec.post enc Tryz.prog theF false true false false) := by
  refine returnsInHanded_of_change_and (C := Tryz.checked) (X := fun w _ => laidMetH Tryz.prog laid3 w) (fun _ _ _ hh h => h.of_heap hh) own started (by kernel_rfl) isF
    (ChangeSpec.witness_shaped (enc := enc) (C := Tryz.checked) (os := os) (X := fun w _ => laidMetH Tryz.prog laid3 w) false (World.doorLaid Tryz.prog 400 os) #[(((Tryz.prog.info? 22).bind (·.zero)).getD (.tuple #[]))] 12 rfl (World.shaped_of_RefB (by kernel_rfl) (by kernel_rfl)) (by kernel_rfl) (by kernel_rfl) (by kernel_rfl) (door_met os _)) ?_
  intro W base args ds gs before hval0 hW hcnd hsz0 hL _
  have hsz : (DataW.weightsEach Tryz.prog (theF.params.toList ++ Rows.fnSayingsSpec.plain.varTypes Tryz.prog) (ds ++ gs)).all (· ≤ reachBytes) = true := hsz0
  have hval : ∀ (j : Nat) t v, theF.params[j]? = some t → args[j]? = some v → Value.okWide Tryz.prog W .any base t v := hval0
  have hW' := hW
  obtain ⟨p, q, hA0, hV, rfl, hfz, hnd⟩ := hW
  have hA : DataW.TrodAll enc Tryz.prog W 0 (fun _ => true) true theF.params.toList args.toList ds p := hA0
  obtain ⟨rfl, rfl⟩ := trodVars_none hV
  obtain ⟨x, cs, hrd, hfit, hgrp⟩ := args_read (enc := enc) (P := Tryz.prog) (w := W) (spare := fun _ => true) (held := true) theF.params.toList (ts := HH.par 3) (by kernel_rfl) (by kernel_rfl) hA
    (fun j t v h1 h2 => ⟨base, hval j t v (by simpa using h1) (by simpa using h2)⟩)
    (fun j t d h1 h2 m hm => by
      have := List.all_eq_true.1 hsz m (DataW.weights_mem_each (j := j) (t := t) (d := d) (by rw [List.getElem?_append_left (List.getElem?_eq_some_iff.1 h1).1]; exact h1) (by rw [List.append_nil]; exact h2) m hm)
      simpa using this)
  obtain ⟨N, hN⟩ := law_FnSayings x hfit
  refine (law_callsG (glob_of hL) (frun_sound nice libs N 3 x true hN) isF (T := 4) (by kernel_rfl) (by kernel_rfl) (by kernel_rfl) (by kernel_rfl) (by kernel_rfl) (by kernel_rfl) (fun w' χ ds h => by
    obtain ⟨d, rfl, hd⟩ := (h : OwnM w' χ [.own] [.bool] true 0 ds); exact hd) hrd hgrp).mono fun e W' ⟨he, bel⟩ => ?_
  subst he
  rw [pars] at hA
  obtain ⟨v0, vs0, d0, ds0, p0, q0, hv0, rfl, rfl, k0, r0⟩ := trodAll_cons hA
  have lt0 : ∀ x ∈ p0, x.block < W.heap.size := by obtain ⟨m, hm⟩ := k0; exact DataW.trod_lt m _ _ _ hm
  obtain ⟨rfl, rfl, rfl⟩ := trodAll_nil r0
  exact ⟨_, rfl, _, _, _, [], _, [], hW', trodAll_mk1 (shut_bool (show Tryz.prog.underlying 4 = some .bool by kernel_rfl) _), (by
    show DataW.TrodAll enc Tryz.prog W' 0 (fun b => decide (b < W.heap.size)) true theF.params.toList args.toList _ _
    rw [pars, hv0]
    exact (trodAll_cons_mk (Below.trod laidOut (by kernel_rfl) (of_decide_eq_true (by kernel_rfl)) k0 bel lt0) trodAll_mk0)), rfl, bel.frame _, fun h => by cases h⟩
theorem over : Rows.fnSayingsRow.holds Tryz.pinned (OpenSpec.ofChange Rows.fnSayingsSpec) :=
  OpenClaim.holds_of_wide 3 theF rfl rfl rfl rfl rfl rfl rfl ⟨rfl, rfl, rfl, rfl, rfl⟩ rfl rfl rfl rfl rfl (by kernel_rfl) isF (by kernel_rfl)
    (of_decide_eq_true (by kernel_rfl)) (by unfold Func.isWrapper; first | (rw [if_pos (by decide +kernel)]; kernel_rfl) | (rw [if_neg (by decide +kernel)]; exact ⟨rfl, rfl⟩))
    (fun os started H enc _ => lifted os started H enc)
set_option maxRecDepth 100000 in
theorem card : Rows.FnSayingsCardSaid :=
  Claim7.holds_tied_plain_at .later [] [.data, .data, .data] true (true, "c5caf6ac53e4c3a91113947fc5407c4a4a0f6e250fed2d3fe15e03ff072e068e") false
    over (fun _ h => by cases h) (by kernel_rfl) (fun _ h => by cases h) fnSayings_row_tie rfl ⟨rfl, rfl⟩ (by kernel_rfl) rfl
    (fun f fn hf hfn => by
      obtain rfl : f = 3 := Option.some.inj ((show Tryz.prog.funcNamed "loop.example/g03010/laws.FnSayings" = some 3 by kernel_rfl).symm.trans hf) |>.symm
      obtain rfl : fn = theF := (Option.some.inj (isF.symm.trans hfn)).symm
      exact ⟨by kernel_rfl, fun j t ht => by
        have hm : t ∈ theF.params.toList := by simpa using Array.mem_of_getElem? ht
        rw [pars] at hm
        have hall : ([22].all fun u => !Tryz.prog.wantsStandIn u) = true := by kernel_rfl
        exact (show Tryz.prog.wantsStandIn t = false by simpa using List.all_eq_true.1 hall t hm)⟩)
    (by kernel_rfl)
end Go.Proofs.YtoioaijpdiglfaaGreatDoor.fnSayings
namespace Go.Proofs.YtoioaijpdiglfaaGreatDoor
theorem fnSayings_holds : Rows.FnSayingsCardSaid := fnSayings.card
end Go.Proofs.YtoioaijpdiglfaaGreatDoor
