/- What the interpreter is told of the program's functions (made by wip/tools/gen.py). -/
import Derived.Test.YtoioaijpdiglfaaVLim
import Derived.Test.YtoioaijpdiglfaaProg
set_option linter.unusedVariables false
set_option maxRecDepth 100000
namespace Go.Proofs.Ytoioaijpdiglfaa.V
open Go
def lookA {α : Type} (d : α) : List (Nat × α) → Nat → α
  | [], _ => d
  | (j, x) :: r, i => cond (Nat.beq j i) x (lookA d r i)
def HH : Hints where
  live := lookA [] [(12, [(3, [0, 1, 5, 6])]), (13, [(3, [0, 3, 4])]), (15, [(4, [0, 1, 5])]), (16, [(2, [0, 1, 5])]), (17, [(2, [0, 1, 5])])]
  par := lookA [] [(3, [.sl 3 (.int .i64), .int .i64]), (12, [.sl 3 (.int .i64), .int .i64]), (13, [.sl 3 (.int .i64)]), (14, [.sl 3 (.int .i64), .int .i64]), (15, [.sl 3 (.int .i64), .sl 3 (.int .i64)]), (16, [.sl 3 (.int .i64), .int .i64]), (17, [.sl 3 (.int .i64), .int .i64]), (85, [.sl 3 (.int .i64), .int .i64]), (91, [.int .i64, .int .i64, .int .i64]), (111, [.sl 3 (.int .i64)])]
  res := lookA [] [(3, [.bool]), (12, [.sl 3 (.int .i64)]), (13, [.sl 3 (.int .i64)]), (14, [.sl 3 (.int .i64)]), (15, [.bool]), (16, [.int .i64, .sl 3 (.int .i64)]), (17, [.int .i64]), (85, [.sl 3 (.int .i64)]), (91, [.bool]), (111, [.sl 3 (.int .i64)])]
  out := lookA [] [(16, [0])]
  dats := lookA [] []
end Go.Proofs.Ytoioaijpdiglfaa.V
