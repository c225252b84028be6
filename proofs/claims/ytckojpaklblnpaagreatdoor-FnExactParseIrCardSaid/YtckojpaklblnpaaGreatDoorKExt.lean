/- The library's functions, as the evaluator takes them. -/
import Derived.Test.YtckojpaklblnpaaGreatDoorKEd
import Derived.Lib.ItoaNum
import Derived.Lib.Join
import Derived.Lib.Split
import Derived.Lib.Strings
import Derived.Lib.IndexMore
import Derived.Lib.AtoiAll
namespace Go.Proofs.YtckojpaklblnpaaGreatDoor.Th
open Go Go.RowKit Go.Proofs.YtckojpaklblnpaaGreatDoor.Ev
def extItoa : List S → List O → Option (V × List (Option O))
  | [.lit (.int .i64 n)], [] => if -9223372036854775808 ≤ n ∧ n ≤ 9223372036854775807 then some (.lit (.string ⟨(Lib.itoa n).toArray⟩), []) else none
  | _, _ => none
def strsOf : List (List T) → Option (List ByteArray)
  | [] => some []
  | [.lit (.string s)] :: r => (strsOf r).map (s :: ·)
  | _ => none
def joinB (xs : List ByteArray) (sep : ByteArray) : ByteArray := ⟨(Lib.join (xs.map (·.data.toList)) sep.data.toList).toArray⟩
def extJoin : List S → List O → Option (V × List (Option O))
  | [.val _ (.sl 1 rows), .lit (.string sep)], [] => match strsOf rows with
    | some xs => if xs.length ≤ 140737488355328 ∧ (Lib.join (xs.map (·.data.toList)) sep.data.toList).length ≤ 140737488355328 then some (.lit (.string (joinB xs sep)), []) else none
    | none => none
  | _, _ => none
def extSplit : List S → List O → Option (V × List (Option O))
  | [.lit (.string s), .lit (.string sep)], [] => if s.size < 4294967281 ∧ 1 ≤ sep.size then some (.ov [.ow (.sl 1 ((Lib.splitB sep 0 (Lib.countB s sep) s).map fun x => [.lit (.string x)]))] false, []) else none
  | _, _ => none
def extCutPrefix : List S → List O → Option (V × List (Option O))
  | [.lit (.string s), .lit (.string p)], [] => some (.tup [.lit (.string ⟨(Lib.trimPrefix s.data.toList p.data.toList).toArray⟩), .lit (.bool (Lib.hasPrefix s.data.toList p.data.toList))], [])
  | _, _ => none
def extHasPrefix : List S → List O → Option (V × List (Option O))
  | [.lit (.string s), .lit (.string p)], [] => some (.lit (.bool (Lib.hasPrefix s.data.toList p.data.toList)), [])
  | _, _ => none
def extHasSuffix : List S → List O → Option (V × List (Option O))
  | [.lit (.string s), .lit (.string p)], [] => if s.size ≤ 9223372036854775807 then some (.lit (.bool (Lib.hasSuffix s.data.toList p.data.toList)), []) else none
  | _, _ => none
def extContains : List S → List O → Option (V × List (Option O))
  | [.lit (.string s), .lit (.string p)], [] => if s.size < 4294967281 then some (.lit (.bool (Lib.contains s.data.toList p.data.toList)), []) else none
  | _, _ => none
def numIn (s : ByteArray) (most : Int) : Int × Bool := match Lib.atoiAll s.data.toList with
  | .ok v => (v, decide (0 ≤ v) && decide (v ≤ most) && decide ((⟨(Lib.itoa v).toArray⟩ : ByteArray) = s))
  | Lib.NumEnd.syntax => (0, false)
  | .range => (Lib.atoiSat s.data.toList, false)
def extNumIn : List S → List O → Option (V × List (Option O))
  | [.lit (.string s), .lit (.int .i64 most)], [] => if s.size ≤ 281474976710656 then some (.tup [.lit (.int .i64 (numIn s most).1), .lit (.bool (numIn s most).2)], []) else none
  | _, _ => none
end Go.Proofs.YtckojpaklblnpaaGreatDoor.Th
