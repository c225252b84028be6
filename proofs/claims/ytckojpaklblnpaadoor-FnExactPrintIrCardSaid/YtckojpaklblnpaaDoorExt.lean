/- The library's functions, as the evaluator takes them. -/
import Derived.Test.YtckojpaklblnpaaDoorEd
import Derived.Lib.ItoaNum
import Derived.Lib.Join
namespace Go.Proofs.YtckojpaklblnpaaDoor.Th
open Go Go.RowKit Go.Proofs.YtckojpaklblnpaaDoor.Ev

def extItoa : List S → List O → Option (V × List (Option O))
  | [.lit (.int .i64 n)], [] => if -9223372036854775808 ≤ n ∧ n ≤ 9223372036854775807 then some (.lit (.string ⟨(Lib.itoa n).toArray⟩), []) else none
  | _, _ => none

def strsOf : List (List T) → Option (List ByteArray)
  | [] => some []
  | [.lit (.string s)] :: r => (strsOf r).map (s :: ·)
  | _ => none

def joinB (xs : List ByteArray) (sep : ByteArray) : ByteArray := ⟨(Lib.join (xs.map (·.data.toList)) sep.data.toList).toArray⟩

def extJoin : List S → List O → Option (V × List (Option O))
  | [.val _ (.sl 1 rows), .lit (.string sep)], [] => match strsOf rows with
    | some xs => if xs.length ≤ 140737488355328 ∧ (Lib.join (xs.map (·.data.toList)) sep.data.toList).length ≤ 140737488355328 then some (.lit (.string (joinB xs sep)), []) else none
    | none => none
  | _, _ => none
end Go.Proofs.YtckojpaklblnpaaDoor.Th
