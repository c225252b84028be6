/- Package-level variables that the claim counts on: the library's table of powers of ten. -/
import GoSem.Step
import Derived.Lib.LaidTab
import Derived.Lib.ItoaNum
namespace Go.Proofs.YtckojpaklblnpaaDoor.Ev
open Go
/-- What a variable's block holds. -/
def pinAt : Nat → Option (List Value) := fun g => if g = 0 then some (Lib.pow10Tab.map fun z => Value.int .u64 z) else none
end Go.Proofs.YtckojpaklblnpaaDoor.Ev
