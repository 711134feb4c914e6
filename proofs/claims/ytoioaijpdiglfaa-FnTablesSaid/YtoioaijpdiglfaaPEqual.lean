/- Plain laws over the shapes. -/
import Derived.Test.YtoioaijpdiglfaaP3
import Derived.Test.YtoioaijpdiglfaaS1
import Derived.Test.YtoioaijpdiglfaaS3
import Derived.Test.YtoioaijpdiglfaaS5
set_option linter.unusedVariables false
set_option linter.unusedSimpArgs false
set_option maxRecDepth 10000
namespace Go.Proofs.Ytoioaijpdiglfaa.V
open Go
theorem eq_loop2 {α : Type} [DecidableEq α] {l r : List α} {d : α} (e : Bool) (g : Nat → Option Bool) (hlen : l.length = r.length) (hend : g l.length = some e)
    (hstep : ∀ i, i < l.length → g i = if l.getD i d = r.getD i d then g (i + 1) else some false) : g 0 = some (decide (l = r) && e) := by
  have h : ∀ i, i ≤ l.length → g i = some (decide (l.drop i = r.drop i) && e) := down (by rw [hend]; simp [hlen]) fun i hi ih => by
    rw [hstep i hi, ih, getD_drop (d := d) hi, getD_drop (d := d) (by omega : i < r.length)]
    by_cases e : l.getD i d = r.getD i d
    · rw [if_pos e, e]; simp
    · rw [if_neg e, decide_eq_false (fun h => e (List.cons.inj h).1)]; rfl
  simpa using h 0 (Nat.zero_le _)
theorem impl_sameRows_ok (l r : List (List Int)) (hl : l.length ≤ 1048576) (hr : ∀ x ∈ l, x.length ≤ 1048576) : impl_sameRows l r = some (decide (l = r)) := by
  rw [impl_sameRows_eq]
  by_cases hlen : l.length = r.length
  · rw [if_neg (by simp [hlen])]
    have := eq_loop2 (d := []) true (fun i => impl_sameRows_L4 l r l.length i) hlen (by show impl_sameRows_L4 l r l.length (l.length : Int) = _; rw [impl_sameRows_L4_eq, if_neg (by simp)]) fun i hi => by
      have e := impl_EqualInts_ok (l.getD i []) (r.getD i []) (hr _ (getD_mem hi))
      show impl_sameRows_L4 l r l.length (i : Int) = _
      have hil : (i : Int) < (l.length : Int) := by omega
      have hw : IntKind.i64.wrap ((i : Int) + 1) = ((i + 1 : Nat) : Int) := wrap_succ hi (by omega)
      rw [impl_sameRows_L4_eq]
      simp (disch := (first | omega | (simp only [List.length_append, List.length_cons, List.length_nil, List.length_take, List.length_drop, List.length_set, List.length_replicate, List.length_singleton]; omega))) only [↓if_dpos, ↓if_dneg, ↓if_epos, ↓if_eneg, ↓if_npos, ↓if_nneg, ↓if_pos, ↓if_neg, hw, Int.toNat_natCast, List.nil_append, Nat.zero_add, List.length_singleton, Option.bind_some, List.drop_zero, List.take_length, if_true, if_false, e]
      by_cases e : l.getD i [] = r.getD i []
      · rw [decide_eq_true e, if_pos e]; rfl
      · rw [decide_eq_false e, if_neg e]; rfl
    rw [Bool.and_true] at this
    exact this
  · rw [if_pos (by simp; omega), decide_eq_false (fun e => hlen (by rw [e]))]
def reM (a0 a1 : Int) (a2 a3 : Bool) (a4 a5 : List Int) (a6 a7 b0 b1 : Int) (b2 b3 : Bool) (b4 b5 : List Int) (b6 b7 : Int) : Bool :=
  (a0 == b0) && ((a1 == b1) && ((a2 == b2) && ((a3 == b3) && (decide (a4 = b4) && (decide (a5 = b5) && ((a6 == b6) && (a7 == b7)))))))
theorem impl_EqualRules_ok (a0 a1 : Int) (a2 a3 : Bool) (a4 a5 : List Int) (a6 a7 b0 b1 : Int) (b2 b3 : Bool) (b4 b5 : List Int) (b6 b7 : Int) (h4 : a4.length ≤ 1048576) (h5 : a5.length ≤ 1048576) : impl_EqualRules a0 a1 a2 a3 a4 a5 a6 a7 b0 b1 b2 b3 b4 b5 b6 b7 = some (reM a0 a1 a2 a3 a4 a5 a6 a7 b0 b1 b2 b3 b4 b5 b6 b7) := by
  rw [impl_EqualRules_eq, impl_EqualInts_ok _ _ h4, impl_EqualInts_ok _ _ h5, reM]
  simp only [Option.bind_some]
  cases (a0 == b0) <;> cases (a1 == b1) <;> cases (a2 == b2) <;> cases (a3 == b3) <;> cases decide (a4 = b4) <;> cases decide (a5 = b5) <;> cases (a6 == b6) <;> cases (a7 == b7) <;> rfl
def geM (a0 a1 : Int) (a2 a3 : Bool) (a4 a5 : List Int) (a6 a7 : Int) (hs : List (List Int)) (st hp : List Int) (tu mo pa : Int) (b0 b1 : Int) (b2 b3 : Bool) (b4 b5 : List Int) (b6 b7 : Int) (hs' : List (List Int)) (st' hp' : List Int) (tu' mo' pa' : Int) : Bool := reM a0 a1 a2 a3 a4 a5 a6 a7 b0 b1 b2 b3 b4 b5 b6 b7 && (decide (hs = hs') && (decide (st = st') && (decide (hp = hp') && ((tu == tu') && ((mo == mo') && (pa == pa'))))))
theorem impl_EqualGames_ok (a0 a1 : Int) (a2 a3 : Bool) (a4 a5 : List Int) (a6 a7 : Int) (hs : List (List Int)) (st hp : List Int) (tu mo pa : Int) (b0 b1 : Int) (b2 b3 : Bool) (b4 b5 : List Int) (b6 b7 : Int) (hs' : List (List Int)) (st' hp' : List Int) (tu' mo' pa' : Int) (h4 : a4.length ≤ 1048576) (h5 : a5.length ≤ 1048576) (hl : hs.length ≤ 1048576) (hr : ∀ x ∈ hs, x.length ≤ 1048576) (h9 : st.length ≤ 1048576) (h10 : hp.length ≤ 1048576) : impl_EqualGames a0 a1 a2 a3 a4 a5 a6 a7 hs st hp tu mo pa b0 b1 b2 b3 b4 b5 b6 b7 hs' st' hp' tu' mo' pa' = some (geM a0 a1 a2 a3 a4 a5 a6 a7 hs st hp tu mo pa b0 b1 b2 b3 b4 b5 b6 b7 hs' st' hp' tu' mo' pa') := by
  rw [impl_EqualGames_eq, impl_EqualRules_ok _ _ _ _ _ _ _ _ _ _ _ _ _ _ _ _ h4 h5, impl_sameRows_ok _ _ hl hr, impl_EqualInts_ok _ _ h9, impl_EqualInts_ok _ _ h10, geM]
  simp only [Option.bind_some]
  cases reM a0 a1 a2 a3 a4 a5 a6 a7 b0 b1 b2 b3 b4 b5 b6 b7 <;> cases decide (hs = hs') <;> cases decide (st = st') <;> cases decide (hp = hp') <;> cases (tu == tu') <;> cases (mo == mo') <;> rfl
end Go.Proofs.Ytoioaijpdiglfaa.V
