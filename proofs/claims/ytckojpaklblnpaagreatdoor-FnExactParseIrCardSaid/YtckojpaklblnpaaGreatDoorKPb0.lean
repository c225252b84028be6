/- The ways of a choice: what they come to. -/
import Derived.Test.YtckojpaklblnpaaGreatDoorKG1
import Derived.Test.YtckojpaklblnpaaGreatDoorKPa7
import Derived.Test.YtckojpaklblnpaaGreatDoorKG6
set_option linter.unusedVariables false
set_option linter.unusedSimpArgs false
set_option maxRecDepth 10000
set_option maxHeartbeats 2000000
namespace Go.Proofs.YtckojpaklblnpaaGreatDoor.Th
open Go Go.RowKit Go.Proofs.YtckojpaklblnpaaGreatDoor.Ev
def brOf (id : Nat) : Code → Option Code
  | .seq a b => match brOf id a with | some c => some c | none => brOf id b
  | .cond _ a b => if headOf a = some id then some a else if headOf b = some id then some b else (match brOf id a with | some c => some c | none => brOf id b)
  | .block _ c => brOf id c
  | .loop c => brOf id c
  | .scope c => brOf id c
  | _ => none
abbrev l11F (b b' : Bool) (FL FO : List (List T)) (k i r lr : Nat) (vn : Int) (R3 : List (List T)) (x : OpT) : F := ⟨[.vw 88 [(0, 0)] 0 1 true, .val b (.sl 1 FL), .val b' (.sl 1 FO), .ptr 88 [(0, 0)] 0, .dead, .dead, .dead, .lit (.int .i64 k), .lit (.int .i64 i), .ptr 136 [(0, 0)] 0, .lit (.int .i64 vn), .dead, .dead, .dead, .dead, .dead, .dead, .dead, .dead, .dead, .dead, .dead, .dead, .dead, .dead, .dead, .dead, .dead, .dead, .dead, .dead, .dead, .dead, .dead, .dead, .dead, .dead, .dead, .dead, .dead, .dead, .dead, .dead, .dead, .dead, .dead, .dead, .dead, .dead, .dead, .dead, .dead, .dead, .dead, .dead, .dead, .dead, .dead, .dead, .dead, .dead, .dead, .dead, .dead, .dead, .dead, .dead, .dead, .dead, .dead, .dead, .dead, .dead, .dead, .dead, .dead, .dead, .dead, .dead, .dead, .dead, .dead, .dead, .dead, .dead, .dead, .dead, .dead, .dead, .dead, .dead, .dead, .dead, .dead, .lit (.int .i64 vn), .ptr 88 [(0, 0)] 0, .vw 88 [(0, 0)] 0 1 false, .ptr 136 [(0, 0)] 2, .lit (.int .i64 r), .ptr 88 [(0, 0), (0, r)] 0, .ptr 88 [(0, 0), (0, r)] 0, .vw 88 [(0, 0), (0, r)] 0 1 false, .lit (.int .i64 lr), .lit (.bool true), .dead, .dead, .dead, .yn, .dead, .dead, .dead, .dead, .dead, .dead, .dead, .dead, .dead, .dead, .dead, .dead, .dead, .dead, .dead, .dead, .dead, .dead, .dead, .dead, .dead, .dead, .dead, .dead, .dead, .dead, .dead, .dead, .dead, .dead, .dead, .dead, .dead, .dead, .dead, .dead, .dead, .dead, .dead, .dead, .dead, .dead, .dead, .dead, .dead, .dead, .dead, .dead, .dead, .dead, .dead, .dead, .dead, .dead, .dead, .dead, .dead, .dead, .dead, .dead, .dead, .dead, .dead, .dead, .dead, .dead, .dead, .dead, .dead, .dead, .dead, .dead, .dead, .dead, .dead, .dead, .dead, .dead, .dead, .dead, .dead, .dead], [(88, boxL R3), (136, boxR x)]⟩
abbrev l11N (k i : Nat) (R3 OR3 : List (List T)) (x y : OpT) (tz : Nat) (tr BR : List (List T)) (cc : Bool) : List (List T) := R3.set k [.sl 9 (OR3.set i (rowX x tz tr 9 (BR ++ [rowX (bareOp y) 0 [] 0 []]))), .sl 1 [], .lit (.bool cc)]
end Go.Proofs.YtckojpaklblnpaaGreatDoor.Th
