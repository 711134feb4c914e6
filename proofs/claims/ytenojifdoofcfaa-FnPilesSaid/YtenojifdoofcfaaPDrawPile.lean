/- Plain laws over the shapes. -/
import Derived.Test.YtenojifdoofcfaaPDraw
import Derived.Test.YtenojifdoofcfaaPPile
import Derived.Test.YtenojifdoofcfaaFStacked
import Derived.Test.YtenojifdoofcfaaS1
import Derived.Test.YtenojifdoofcfaaS3
import Derived.Test.YtenojifdoofcfaaS4
set_option linter.unusedVariables false
set_option linter.unusedSimpArgs false
set_option maxRecDepth 10000
namespace Go.Proofs.Ytenojifdoofcfaa.V
open Go
theorem l16Next_tot {c : List Int × Int × Int} (hc : Cur c) (k : Int) : Tot (spec_l16Next c k) (fun r => Cur r.2) := by
  rw [spec_l16Next_eq, spec_RankOf_ok, Option.bind_some]
  refine Tot.dite (fun _ => Tot.bind (l1Below_tot hc _) fun r hr => Tot.ret hr.1) fun _ => ?_
  rw [spec_IsRed_ok, Option.bind_some]
  refine Tot.ite (fun _ => ?_) fun _ => ?_
  · exact Tot.bind (l1Int_tot hc (Nat.zero_lt_succ _)) fun r hr => Tot.ret hr.1
  · exact Tot.bind (l1Int_tot hc (Nat.zero_lt_succ _)) fun r hr => Tot.ret hr.1
/-- A drawn pile. -/
def DP (r : List Int × Int × List Int × Int × Int) : Prop := Cur r.2.2 ∧ r.1.length ≤ 1000
theorem l16Draw_tot {c : List Int × Int × Int} (hc : Cur c) : Tot (spec_l16Draw c) DP := by
  rw [spec_l16Draw_eq]
  refine Tot.bind (l1Below_tot hc _) fun r ⟨hr, r1, r2, _⟩ => ?_
  have r2 := r2 (by decide)
  rw [wrap_id (by omega) (by omega)]
  refine Tot.bind (l5Some_tot hr _ (by omega)) fun s ⟨hs, s1⟩ => Tot.bind (l1Below_tot hs _) fun t ⟨ht, t1, t2, _⟩ => ?_
  have t2 := t2 (by decide)
  have key : ∀ i : Nat, i ≤ 4 → ∀ (b0 : List Int) (b1 b2 x h : Int) (l : List Int), Cur (b0, b1, b2) → l.length + i ≤ 100 → Tot (spec_l16Draw_L4 (i : Int) b0 b1 b2 x h l) DP := by
    intro i
    induction i with
    | zero =>
      intro _ b0 b1 b2 x h l hb hl
      rw [spec_l16Draw_L4_eq, if_dneg (by omega)]
      refine Tot.bind (l1Below_tot hb _) fun u ⟨hu, _⟩ => Tot.ite (fun _ => ?_) fun _ => Tot.ite (fun _ => ?_) fun _ => Tot.ite (fun _ => ?_) fun _ => Tot.ite (fun _ => ?_) fun _ => ?_
      · exact Tot.bind (l1Int_tot hu (Nat.zero_lt_succ _)) fun v hv => Tot.ret ⟨hv.1, by show l.length ≤ _; omega⟩
      · exact Tot.bind (l4Card_tot hu) fun v hv => Tot.guard (by rw [List.length_singleton]; omega) (Tot.ret ⟨hv, by show (l ++ [_]).length ≤ _; rw [List.length_append, List.length_singleton]; omega⟩)
      · exact Tot.ret ⟨hu, Nat.zero_le _⟩
      · exact Tot.ret ⟨hu, by show l.length ≤ _; omega⟩
      · exact Tot.ret ⟨hu, by show l.length ≤ _; omega⟩
    | succ i ih =>
      intro hi b0 b1 b2 x h l hb hl
      rw [spec_l16Draw_L4_eq, if_dpos (by omega), spec_TopOf_ok _ _ (by omega), Option.bind_some]
      refine Tot.bind (l16Next_tot hb _) fun u hu => ?_
      rw [spec_Stacked_ok _ _ _ (by omega) (by rw [List.length_singleton]; omega), Option.bind_some, wrap_id (by omega) (by omega), show ((i + 1 : Nat) : Int) - 1 = (i : Int) by omega]
      refine ih (by omega) _ _ _ _ _ _ hu ?_
      have := stackR_length l h [u.1] l
      rw [List.length_singleton] at this
      unfold stackM
      omega
  have := key t.1.toNat (by omega) t.2.1 t.2.2.1 t.2.2.2 0 (IntKind.i64.wrap ((s.1.length : Int) - 1)) s.1 ht (by omega)
  rw [show ((t.1.toNat : Nat) : Int) = t.1 by omega] at this
  exact this
theorem DrawLifted_tot {a : List Int} (ha : a.length ≤ 1048576) : Tot (spec_DrawLifted a) (fun r => r.1.length ≤ 1000) := by
  rw [spec_DrawLifted_eq]
  exact Tot.bind (l1New_tot ha) fun c hc => Tot.bind (l16Draw_tot hc) fun p hp => Tot.bind (l1Below_tot hp.1 _) fun r _ => Tot.ret hp.2
theorem DrawMayStack_tot {a : List Int} (ha : a.length ≤ 1048576) : Tot (spec_DrawMayStack a) (fun r => r.1.length ≤ 1000) := by
  rw [spec_DrawMayStack_eq]
  refine Tot.bind (l1New_tot ha) fun c hc => Tot.bind (l16Draw_tot hc) fun p hp => Tot.ite (fun _ => ?_) fun _ => Tot.bind (l1Once_tot hp.1 _) fun o ho => Tot.ite (fun _ => ?_) fun _ => ?_
  · exact Tot.bind (l4Card_tot hp.1) fun r hr => Tot.bind (l1Int_tot hr (Nat.zero_lt_succ _)) fun _ _ => Tot.ret hp.2
  · exact Tot.bind (l4Card_tot ho) fun r hr => Tot.bind (l1Int_tot hr (Nat.zero_lt_succ _)) fun _ _ => Tot.ret hp.2
  · have := hp.2
    rw [spec_TopOf_ok _ _ (by omega), Option.bind_some]
    exact Tot.bind (l16Next_tot ho _) fun _ _ => Tot.ret hp.2
theorem DrawStacked_tot {a : List Int} (ha : a.length ≤ 1048576) : Tot (spec_DrawStacked a) (fun r => r.1.length ≤ 1000 ∧ 0 < r.2.2.length ∧ r.2.2.length ≤ 2) := by
  rw [spec_DrawStacked_eq]
  refine Tot.bind (DrawMayStack_tot ha) fun p hp => Tot.bind (l1New_tot ha) fun c hc => Tot.bind (l16Next_tot hc _) fun u hu => Tot.bind (l1Below_tot hu _) fun v ⟨_, v1, v2, _⟩ => ?_
  have v2 := v2 (by decide)
  rw [wrap_id (by omega) (by omega)]
  refine Tot.guard (by omega) (Tot.guard (by show (1 + v.1 : Int) ≤ ((2 : Nat) : Int); omega) (Tot.ret ⟨hp, ?_⟩))
  show 0 < (List.drop 0 (List.take _ [_, _])).length ∧ (List.drop 0 (List.take _ [_, _])).length ≤ 2
  rw [List.drop_zero, List.length_take, List.length_cons, List.length_singleton]
  omega
end Go.Proofs.Ytenojifdoofcfaa.V
