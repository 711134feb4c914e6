/- Plain laws over the shapes. -/
import Derived.Test.YthppocflbgnjlaaDoorP1b
set_option linter.unusedVariables false
set_option linter.unusedSimpArgs false
set_option maxRecDepth 10000
namespace Go.Proofs.YthppocflbgnjlaaDoor.V
open Go
def lensM (l : List (List Int)) : List Int := l.map fun r => (r.length : Int)
theorem map_take {α β : Type} {f : α → β} {l : List α} {i : Nat} {d : α} (hi : i < l.length) : (l.take (i + 1)).map f = (l.take i).map f ++ [f (l.getD i d)] := by
  have : l.take (i + 1) = l.take i ++ [l.getD i d] := by
    rw [List.take_succ_eq_append_getElem hi, List.getD_eq_getElem?_getD, List.getElem?_eq_getElem hi]; rfl
  rw [this, List.map_append]; rfl
theorem lensM_length (l : List (List Int)) : (lensM l).length = l.length := by simp [lensM]
def valM (c : Int) : Int := if rankM c < 0 then 0 else if rankM c ≤ 8 then IntKind.i64.wrap (rankM c + 2) else if rankM c = 12 then 1 else 10
def valsM (l : List Int) : Int := l.foldl (fun n c => IntKind.i64.wrap (n + valM c)) 0
end Go.Proofs.YthppocflbgnjlaaDoor.V
