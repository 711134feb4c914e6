/- What the interpreter is told of the program's functions (made by wip/tools/gen.py). -/
import Derived.Test.YtoioaijpdiglfaaVLim
import Derived.Test.YtoioaijpdiglfaaProg
set_option linter.unusedVariables false
set_option maxRecDepth 100000
namespace Go.Proofs.Ytoioaijpdiglfaa.V
open Go
def lookA {α : Type} (d : α) : List (Nat × α) → Nat → α
  | [], _ => d
  | (j, x) :: r, i => cond (Nat.beq j i) x (lookA d r i)
def HH : Hints where
  live := lookA [] [(15, [(4, [0, 1, 5])]), (16, [(2, [0, 1, 5])]), (17, [(2, [0, 1, 5])]), (18, [(3, [0, 4, 5])]), (19, [(5, [0, 4, 5])]), (86, [(2, [0, 3])]), (87, [(3, [0, 3, 4])])]
  par := lookA [] [(4, [.str]), (15, [.sl 3 (.int .i64), .sl 3 (.int .i64)]), (16, [.sl 3 (.int .i64), .int .i64]), (17, [.sl 3 (.int .i64), .int .i64]), (18, [.str]), (19, [.str]), (86, [.str]), (87, [.sl 3 (.int .i64)]), (88, [.str]), (156, [.int .i64]), (157, [.int .i64]), (158, [.str, .int .u8]), (170, [.int .i64, .int .i64, .int .i64]), (206, [.int .i64]), (207, [.int .i64]), (208, [.str, .int .u8])]
  res := lookA [] [(4, [.bool]), (15, [.bool]), (16, [.int .i64, .sl 3 (.int .i64)]), (17, [.int .i64]), (18, [.sl 3 (.int .i64), .bool]), (19, [.sl 3 (.int .i64), .bool]), (86, [.int .i64]), (87, [.str]), (88, [.int .i64]), (156, [.str]), (157, [.bool]), (158, [.int .i64]), (170, [.bool]), (206, [.int .i64]), (207, [.int .i64]), (208, [.int .i64])]
  out := lookA [] [(16, [0])]
  dats := lookA [] []
  idx := some 227
end Go.Proofs.Ytoioaijpdiglfaa.V
