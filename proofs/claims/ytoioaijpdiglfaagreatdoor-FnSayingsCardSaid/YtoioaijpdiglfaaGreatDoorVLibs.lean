/- What the library answers: the shelf's contracts, as the interpreter's hints name them. -/
import Derived.Test.YtoioaijpdiglfaaGreatDoorVLib
import Derived.Test.YtoioaijpdiglfaaGreatDoorVHH
import Derived.Test.YtoioaijpdiglfaaGreatDoorVShelf
import Derived.Below
set_option linter.unusedVariables false
namespace Go.Proofs.YtoioaijpdiglfaaGreatDoor.V
open Go Go.RowKit
theorem below_grow (k : Nat) (os : Array Obj) (w : World) : Below w.heap.size w (Sort.grow (w.drewN k) os) := by
  refine ⟨rfl, rfl, rfl, ?_, fun j hj => ?_⟩
  · show w.heap.size ≤ (w.heap ++ os).size
    rw [Array.size_append]; omega
  · show (w.heap ++ os)[j]? = w.heap[j]?
    rw [Array.getElem?_append_left hj]
noncomputable def fnOf (i : Nat) : Func := (Tryz.prog.funcs[i]?).getD default
noncomputable def codeOf (i : Nat) : Code := (fnOf i).body.getD .skip
theorem ty_join : LibTy Tryz.prog HH 23 (fnOf 23) (codeOf 23) 9 := ⟨by kernel_rfl, by kernel_rfl, by kernel_rfl, by kernel_rfl, by kernel_rfl, by kernel_rfl, by kernel_rfl⟩
theorem is_join : ∀ x y, libRun .join (HH.par 23) (HH.res 23) x = some y → Meets Tryz.prog HH 23 x y :=
  lib_join ty_join (T1 := 49) (T2 := 9) (e := 9) (by kernel_rfl) (by kernel_rfl) (by kernel_rfl) (by kernel_rfl) (by kernel_rfl) (by kernel_rfl) (by kernel_rfl)
    (fun a cp sep w => Tryz.strings_Join_none a cp sep w)
    fun bk o cp xs sep w hcells hbk hN hcap hlen => Tryz.strings_Join bk o cp xs sep w hcells hbk hN hcap (by
      have h : (joinB xs sep).size = (Lib.join (xs.map (·.data.toList)) sep.data.toList).length := by simp [joinB, ByteArray.size]
      rw [← h]; exact hlen)
theorem ty_rep : LibTy Tryz.prog HH 33 (fnOf 33) (codeOf 33) 9 := ⟨by kernel_rfl, by kernel_rfl, by kernel_rfl, by kernel_rfl, by kernel_rfl, by kernel_rfl, by kernel_rfl⟩
theorem is_rep : ∀ x y, libRun .rep (HH.par 33) (HH.res 33) x = some y → Meets Tryz.prog HH 33 x y :=
  lib_rep ty_rep (T1 := 9) (T2 := 3) (by kernel_rfl) (by kernel_rfl) (by kernel_rfl) (by kernel_rfl) (by kernel_rfl) (by kernel_rfl) (by kernel_rfl)
    fun s n w h1 h2 => Tryz.strings_Repeat s n w h1 h2
theorem ty_itoa : LibTy Tryz.prog HH 45 (fnOf 45) (codeOf 45) 9 := ⟨by kernel_rfl, by kernel_rfl, by kernel_rfl, by kernel_rfl, by kernel_rfl, by kernel_rfl, by kernel_rfl⟩
theorem is_itoa : ∀ x y, libRun .itoa (HH.par 45) (HH.res 45) x = some y → Meets Tryz.prog HH 45 x y :=
  lib_itoa ty_itoa (T1 := 3) (by kernel_rfl) (by kernel_rfl) (by kernel_rfl) (by kernel_rfl) (by kernel_rfl) (nm := "internal/strconv.uint64pow10") (kd := .u64) (zs := [1, 10, 100, 1000, 10000, 100000, 1000000, 10000000, 100000000, 1000000000, 10000000000, 100000000000, 1000000000000, 10000000000000, 100000000000000, 1000000000000000, 10000000000000000, 100000000000000000, 1000000000000000000, 10000000000000000000]) (by rfl)
    fun n w h1 h2 htab => (Tryz.strconv_Itoa n h1 h2 w htab).mono fun e w' h => ⟨h.1, by
      obtain ⟨k, os, hw⟩ := h.2
      rw [hw]
      exact below_grow k os w⟩
theorem libs : ∀ fn l, HH.lib fn = some l → ∀ x y, libRun l (HH.par fn) (HH.res fn) x = some y → Meets Tryz.prog HH fn x y := fun fn l h => by
  have h' : lookA none [(23, some LibF.join), (33, some LibF.rep), (45, some LibF.itoa)] fn = some l := h
  rcases lookA_mem (look := lookA (none : Option LibF)) (fun _ => rfl) (fun _ _ _ => rfl) (L := [(23, some LibF.join), (33, some LibF.rep), (45, some LibF.itoa)]) (i := fn) with e | e
  · rw [h'] at e; cases e
  · rw [h'] at e
    rcases List.mem_cons.1 e with e | e
    · injection e with e1 e2
      injection e2 with e2
      subst e1 e2
      exact is_join
    rcases List.mem_cons.1 e with e | e
    · injection e with e1 e2
      injection e2 with e2
      subst e1 e2
      exact is_rep
    rcases List.mem_cons.1 e with e | e
    · injection e with e1 e2
      injection e2 with e2
      subst e1 e2
      exact is_itoa
    cases e
end Go.Proofs.YtoioaijpdiglfaaGreatDoor.V
