/- What the library answers: the shelf's contracts, as the interpreter's hints name them. -/
import Derived.Test.YthppocflbgnjlaaDoorVLib
import Derived.Test.YthppocflbgnjlaaDoorVHH
import Derived.Test.YthppocflbgnjlaaDoorVShelf
import Derived.Below
set_option linter.unusedVariables false
namespace Go.Proofs.YthppocflbgnjlaaDoor.V
open Go Go.RowKit
theorem below_grow (k : Nat) (os : Array Obj) (w : World) : Below w.heap.size w (Sort.grow (w.drewN k) os) := by
  refine ⟨rfl, rfl, rfl, ?_, fun j hj => ?_⟩
  · show w.heap.size ≤ (w.heap ++ os).size
    rw [Array.size_append]; omega
  · show (w.heap ++ os)[j]? = w.heap[j]?
    rw [Array.getElem?_append_left hj]
noncomputable def fnOf (i : Nat) : Func := (Tryd.prog.funcs[i]?).getD default
noncomputable def codeOf (i : Nat) : Code := (fnOf i).body.getD .skip
theorem ty_rep : LibTy Tryd.prog HH 39 (fnOf 39) (codeOf 39) 9 := ⟨by kernel_rfl, by kernel_rfl, by kernel_rfl, by kernel_rfl, by kernel_rfl, by kernel_rfl, by kernel_rfl⟩
theorem is_rep : ∀ x y, libRun .rep (HH.par 39) (HH.res 39) x = some y → Meets Tryd.prog HH 39 x y :=
  lib_rep ty_rep (T1 := 9) (T2 := 3) (by kernel_rfl) (by kernel_rfl) (by kernel_rfl) (by kernel_rfl) (by kernel_rfl) (by kernel_rfl) (by kernel_rfl)
    fun s n w h1 h2 => Tryd.strings_Repeat s n w h1 h2
theorem ty_join : LibTy Tryd.prog HH 41 (fnOf 41) (codeOf 41) 9 := ⟨by kernel_rfl, by kernel_rfl, by kernel_rfl, by kernel_rfl, by kernel_rfl, by kernel_rfl, by kernel_rfl⟩
theorem is_join : ∀ x y, libRun .join (HH.par 41) (HH.res 41) x = some y → Meets Tryd.prog HH 41 x y :=
  lib_join ty_join (T1 := 71) (T2 := 9) (e := 9) (by kernel_rfl) (by kernel_rfl) (by kernel_rfl) (by kernel_rfl) (by kernel_rfl) (by kernel_rfl) (by kernel_rfl)
    (fun a cp sep w => Tryd.strings_Join_none a cp sep w)
    fun bk o cp xs sep w hcells hbk hN hcap hlen => Tryd.strings_Join bk o cp xs sep w hcells hbk hN hcap (by
      have h : (joinB xs sep).size = (Lib.join (xs.map (·.data.toList)) sep.data.toList).length := by simp [joinB, ByteArray.size]
      rw [← h]; exact hlen)
theorem ty_itoa : LibTy Tryd.prog HH 78 (fnOf 78) (codeOf 78) 9 := ⟨by kernel_rfl, by kernel_rfl, by kernel_rfl, by kernel_rfl, by kernel_rfl, by kernel_rfl, by kernel_rfl⟩
theorem is_itoa : ∀ x y, libRun .itoa (HH.par 78) (HH.res 78) x = some y → Meets Tryd.prog HH 78 x y :=
  lib_itoa ty_itoa (T1 := 3) (by kernel_rfl) (by kernel_rfl) (by kernel_rfl) (by kernel_rfl) (by kernel_rfl) (nm := "internal/strconv.uint64pow10") (kd := .u64) (zs := [1, 10, 100, 1000, 10000, 100000, 1000000, 10000000, 100000000, 1000000000, 10000000000, 100000000000, 1000000000000, 10000000000000, 100000000000000, 1000000000000000, 10000000000000000, 100000000000000000, 1000000000000000000, 10000000000000000000]) (by rfl)
    fun n w h1 h2 htab => (Tryd.strconv_Itoa n h1 h2 w htab).mono fun e w' h => ⟨h.1, by
      obtain ⟨k, os, hw⟩ := h.2
      rw [hw]
      exact below_grow k os w⟩
theorem libs : ∀ fn l, HH.lib fn = some l → ∀ x y, libRun l (HH.par fn) (HH.res fn) x = some y → Meets Tryd.prog HH fn x y := fun fn l h => by
  have h' : lookA none [(39, some LibF.rep), (41, some LibF.join), (78, some LibF.itoa)] fn = some l := h
  rcases lookA_mem (look := lookA (none : Option LibF)) (fun _ => rfl) (fun _ _ _ => rfl) (L := [(39, some LibF.rep), (41, some LibF.join), (78, some LibF.itoa)]) (i := fn) with e | e
  · rw [h'] at e; cases e
  · rw [h'] at e
    rcases List.mem_cons.1 e with e | e
    · injection e with e1 e2
      injection e2 with e2
      subst e1 e2
      exact is_rep
    rcases List.mem_cons.1 e with e | e
    · injection e with e1 e2
      injection e2 with e2
      subst e1 e2
      exact is_join
    rcases List.mem_cons.1 e with e | e
    · injection e with e1 e2
      injection e2 with e2
      subst e1 e2
      exact is_itoa
    cases e
end Go.Proofs.YthppocflbgnjlaaDoor.V
