/- Package-level variables that the claim counts on: the library's table of powers of ten; a number of its search. -/
import GoSem.Step
import Derived.Lib.LaidTab
import Derived.Lib.ItoaNum
namespace Go.Proofs.YtckojpaklblnpaaGreatDoor.Ev
open Go
def pinAt : Nat → Option (List Value → Prop) := fun g =>
  if g = 5 then some (fun l => l = Lib.pow10Tab.map fun z => Value.int .u64 z)
  else if g = 0 then some (fun l => ∃ m, l = [.int .i64 m])
  else if g = 3 ∨ g = 4 then some (fun l => ∃ ev, l = [ev] ∧ (ev = .nilIface ∨ ∃ te pe, ev = .iface te pe)) else none
end Go.Proofs.YtckojpaklblnpaaGreatDoor.Ev
