/- Plain laws over the shapes. -/
import Derived.Test.YtdkhomhdapoeoaaPPlay
import Derived.Test.YtdkhomhdapoeoaaPTake
import Derived.Test.YtdkhomhdapoeoaaFPlayOn
import Derived.Test.YtdkhomhdapoeoaaFReplayMove
import Derived.Test.YtdkhomhdapoeoaaFTakeCards
set_option linter.unusedVariables false
set_option linter.unusedSimpArgs false
set_option maxRecDepth 10000
namespace Go.Proofs.Ytdkhomhdapoeoaa.V
open Go
noncomputable def moveM (a0 a1 : Int) (a2 a3 : Bool) (a4 a5 : List Int) (a6 a7 : Int) (hs : List (List Int)) (st hp : List Int) (tu mo pa : Int) (c : Int) : Int × Int × Bool × Bool × List Int × List Int × Int × Int × List (List Int) × List Int × List Int × Int × Int × Int × Bool :=
  if c = -1 then takeM a0 a1 a2 a3 a4 a5 a6 a7 hs st hp tu mo pa else playOnM a0 a1 a2 a3 a4 a5 a6 a7 hs st hp tu mo pa c
theorem spec_ReplayMove_ok (a0 a1 : Int) (a2 a3 : Bool) (a4 a5 : List Int) (a6 a7 : Int) (hs : List (List Int)) (st hp : List Int) (tu mo pa : Int) (c : Int) (h4 : a4.length ≤ 1048576) (h5 : a5.length ≤ 1048576) (hh : G2 hs) (h9 : st.length ≤ 2097152) (h10 : hp.length ≤ 2097152) : spec_ReplayMove a0 a1 a2 a3 a4 a5 a6 a7 hs st hp tu mo pa c = some (moveM a0 a1 a2 a3 a4 a5 a6 a7 hs st hp tu mo pa c) := by
  rw [spec_ReplayMove_eq, spec_TakeCards_ok a0 a1 a2 a3 a4 a5 a6 a7 hs st hp tu mo pa h4 h5 hh h9 h10, spec_PlayOn_ok a0 a1 a2 a3 a4 a5 a6 a7 hs st hp tu mo pa c h4 h5 hh h9 h10, moveM]
  by_cases e : c = -1
  · rw [if_pos (by rw [beq_iff_eq]; exact e), if_pos e]; rfl
  · rw [if_neg (by rw [beq_iff_eq]; exact e), if_neg e]; rfl
theorem impl_ReplayMove_ok (a0 a1 : Int) (a2 a3 : Bool) (a4 a5 : List Int) (a6 a7 : Int) (hs : List (List Int)) (st hp : List Int) (tu mo pa : Int) (c : Int) (h4 : a4.length ≤ 1048576) (h5 : a5.length ≤ 1048576) (hh : G2 hs) (h9 : st.length ≤ 2097152) (h10 : hp.length ≤ 2097152) : impl_ReplayMove a0 a1 a2 a3 a4 a5 a6 a7 hs st hp tu mo pa c = some (moveM a0 a1 a2 a3 a4 a5 a6 a7 hs st hp tu mo pa c) := by
  rw [impl_ReplayMove_eq, impl_TakeCards_ok a0 a1 a2 a3 a4 a5 a6 a7 hs st hp tu mo pa h4 h5 hh h9 h10, impl_PlayOn_ok a0 a1 a2 a3 a4 a5 a6 a7 hs st hp tu mo pa c h4 h5 hh h9 h10, moveM]
  by_cases e : c = -1
  · rw [if_pos (by rw [beq_iff_eq]; exact e), if_pos e]; rfl
  · rw [if_neg (by rw [beq_iff_eq]; exact e), if_neg e]; rfl
theorem move_good (a0 a1 : Int) (a2 a3 : Bool) (a4 a5 : List Int) (a6 a7 : Int) (hs : List (List Int)) (st hp : List Int) (tu mo pa : Int) (c : Int) (h4 : a4.length ≤ 1048576) (h5 : a5.length ≤ 1048576) (hh : G2 hs) (h9 : st.length ≤ 2097152) (h10 : hp.length ≤ 2097152) : ∃ r8 r9 r10 r11 r12 r13 r14, moveM a0 a1 a2 a3 a4 a5 a6 a7 hs st hp tu mo pa c = (a0, a1, a2, a3, a4, a5, a6, a7, r8, r9, r10, r11, r12, r13, r14) ∧ G2 r8 ∧ r9.length ≤ 2097152 ∧ r10.length ≤ 2097152 ∧ r8.length = hs.length ∧ (r14 = true → gameM a0 a1 a2 a3 a4 a5 a6 a7 hs st hp tu mo pa = true) := by
  rw [moveM]
  by_cases e : c = -1
  · rw [if_pos e, takeM]
    by_cases hc : (gameM a0 a1 a2 a3 a4 a5 a6 a7 hs st hp tu mo pa && !overM a0 a7 hs mo pa) = true
    · rw [if_pos hc]
      simp only [Bool.and_eq_true] at hc
      have v := gameM_valid a0 a1 a2 a3 a4 a5 a6 a7 hs st hp tu mo pa hc.1
      obtain ⟨k1, k2, k3⟩ := takeR_size a0 a1 a2 a3 a4 a5 a6 a7 hs st hp tu mo pa v
      have k4 := (takeR_sum tu.toNat a6.toNat 0 hs st hp (by have := v.t1; have := v.t2; have := v.players; omega) v.heap).1
      exact ⟨_, _, _, _, _, _, _, rfl, k1, by omega, by omega, k4, fun _ => hc.1⟩
    · rw [if_neg hc]
      exact ⟨_, _, _, _, _, _, _, rfl, hh, h9, h10, rfl, fun h => by cases h⟩
  · rw [if_neg e, playOnM]
    by_cases hc : hasM (playM a0 a1 a2 a3 a4 a5 a6 a7 hs st hp tu mo pa) c = true
    · rw [if_pos hc]
      obtain ⟨hg, _, _⟩ := playM_has a0 a1 a2 a3 a4 a5 a6 a7 hs st hp tu mo pa hc
      have ve := (gameM_valid a0 a1 a2 a3 a4 a5 a6 a7 hs st hp tu mo pa hg).all
      exact ⟨_, _, _, _, _, _, _, rfl, G2.set hh (Nat.le_trans (withoutM_length _ _) hh.at'), h9, by simp only [List.length_append, List.length_singleton]; omega, by simp, fun _ => hg⟩
    · rw [if_neg hc]
      exact ⟨_, _, _, _, _, _, _, rfl, hh, h9, h10, rfl, fun h => by cases h⟩
end Go.Proofs.Ytdkhomhdapoeoaa.V
