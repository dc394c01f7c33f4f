/- Modes of the functions, what the listed variables hold. -/
import Derived.Test.YtbjpicankhckiaaDoorAmSCode
set_option maxRecDepth 1000000
namespace Am.S
open Am
def mode (f : Nat) : Mode := bif [6, 14, 15, 16, 17, 18, 22, 24, 26, 29, 31, 34, 37, 41, 43, 44, 45, 46, 47, 48, 49, 50, 55, 57, 58, 59, 64, 65, 67, 68, 72, 79].contains f then .heap else .fresh
def forms : List V := [.bool false, .bool false, .bool false, .bool false, .int .i64 (0), .bool true, .bool false, .bool false, .bool false, .int .i64 (-1), .bool true, .bool false, .bool true, .bool false, .int .i64 (0), .bool true, .bool false, .bool false, .bool false, .int .i64 (1), .bool true, .bool true, .bool false, .bool false, .int .i64 (-1), .bool true, .bool false, .bool false, .bool false, .int .i64 (1), .bool true, .bool false, .bool false, .bool true, .int .i64 (1), .bool false, .bool false, .bool false, .bool true, .int .i64 (2), .bool false, .bool false, .bool false, .bool true, .int .i64 (0), .bool true, .bool false, .bool false, .bool true, .int .i64 (-1), .bool false, .bool false, .bool false, .bool false, .int .i64 (1)]
def glob (g : Nat) : Option (List V) := match g with
  | 1 => some forms
  | _ => none
def env : Env := ⟨codes.get, mode, glob⟩
def isTrue : Option (V × Heap) → Bool
  | some (.bool b, _) => b
  | _ => false
end Am.S
