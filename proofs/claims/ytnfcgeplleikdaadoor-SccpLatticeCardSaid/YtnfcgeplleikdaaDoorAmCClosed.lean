/- Modes of the functions, what the listed variables hold. -/
import Derived.Test.YtnfcgeplleikdaaDoorAmCCode
set_option maxRecDepth 1000000
namespace Am.C
open Am
def mode (f : Nat) : Mode := bif [13, 14, 15, 16, 19, 39, 42, 52, 53, 54, 56, 57, 59, 60, 61, 68, 70, 71, 75, 78, 79, 82, 83, 90].contains f then .heap else .fresh
def forms : List V := [.bool false, .bool false, .bool false, .bool false, .int .i64 (0), .bool true, .bool false, .bool false, .bool false, .int .i64 (-1), .bool true, .bool false, .bool true, .bool false, .int .i64 (0), .bool true, .bool false, .bool false, .bool false, .int .i64 (1), .bool true, .bool true, .bool false, .bool false, .int .i64 (-1), .bool true, .bool false, .bool false, .bool false, .int .i64 (1), .bool true, .bool false, .bool false, .bool true, .int .i64 (1), .bool false, .bool false, .bool false, .bool true, .int .i64 (2), .bool false, .bool false, .bool false, .bool true, .int .i64 (0), .bool true, .bool false, .bool false, .bool true, .int .i64 (-1), .bool false, .bool false, .bool false, .bool false, .int .i64 (1)]
def glob (g : Nat) : Option (List V) := match g with
  | 3 => some forms
  | 0 => some [.int .u8 2, .int .u64 0]
  | 1 => some [.int .u8 0, .int .u64 0]
  | _ => none
def env : Env := ⟨codes.get, mode, glob⟩
def isTrue : Option (V × Heap) → Bool
  | some (.bool b, _) => b
  | _ => false
end Am.C
