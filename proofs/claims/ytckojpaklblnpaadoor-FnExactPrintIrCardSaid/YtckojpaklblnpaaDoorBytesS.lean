/- Slices of slices of bytes: what the harness does with them. -/
import Derived.Test.YtckojpaklblnpaaDoorComm
import Derived.Test.YtckojpaklblnpaaDoorBytes
set_option linter.unusedVariables false
set_option linter.unusedSimpArgs false
set_option maxRecDepth 10000
set_option maxHeartbeats 2000000
namespace Go.Proofs.YtckojpaklblnpaaDoor.Th
open Go Go.RowKit Go.Proofs.YtckojpaklblnpaaDoor.Ev

theorem c_laws_szByteS (b : Bool) (l : List Int) (left : Int) (h : l.length ≤ maxLen) (h1 : left ≤ 2 ^ 50) (h2 : 0 ≤ left) : cw f_laws_szByteS [.val b (.sl 1 (l.map encB)), .lit (.int .i64 left)] [] = some (.lit (.int .i64 (if left - l.length < 0 then -1 else left - l.length)), []) := by
  refine callW_run (by simp) fs_laws_szByteS rfl rfl rfl ?_
  have : IntKind.wrap .i64 (left - l.length) = left - l.length := i64_wrap (by unfold maxLen at h; omega) (by omega)
  by_cases hl : left - l.length < 0 <;> simp [hl, this]

theorem szLe_laws_szByteSS (a : List Int) (k : Int) (h : 0 ≤ k) : szF a k ≤ k := szF_le a k h

/-- Bytes that a cell owns. -/
def cB (x : List Int) : List C := [C.ow (.sl 1 (x.map encB))]

/-- What the harness writes into slices: bytes that count up through all of them. -/
def marksS (k : Int) : List Nat → List (List Int)
  | [] => []
  | n :: r => marks k n :: marksS (k + n) r

def sumI (l : List Nat) : Int := ((l.sum : Nat) : Int)

@[simp] theorem marksS_length : ∀ (l : List Nat) (k : Int), (marksS k l).length = l.length
  | [], _ => rfl
  | n :: r, k => by simp [marksS, marksS_length r]

theorem marksS_succ : ∀ (l : List Nat) (k : Int) (i : Nat) (h : i < l.length), marksS k (l.take (i + 1)) = marksS k (l.take i) ++ [marks (k + sumI (l.take i)) l[i]]
  | [], _, _, h => by cases h
  | n :: r, k, 0, _ => by simp [marksS, sumI]
  | n :: r, k, i + 1, h => by
    have h' : i < r.length := by simpa using h
    simp only [List.take_succ_cons, marksS, List.cons_append, marksS_succ r (k + n) i h', List.getElem_cons_succ, sumI, List.sum_cons]
    congr 4
    omega

theorem sumI_succ (l : List Nat) (i : Nat) (h : i < l.length) : sumI (l.take (i + 1)) = sumI (l.take i) + l[i] := by
  unfold sumI; rw [take_next l i h, List.sum_append_nat]; simp

theorem sumI_le (l : List Nat) (i : Nat) : sumI (l.take i) ≤ sumI l := by
  unfold sumI
  have : l.sum = (l.take i).sum + (l.drop i).sum := by rw [← List.sum_append_nat, List.take_append_drop]
  omega

theorem sumI_nn (l : List Nat) : 0 ≤ sumI l := by unfold sumI; omega

theorem rowsToT_cB : ∀ (l : List (List Int)), rowsToT (l.map cB) = some (l.map (encS 1 encB))
  | [] => by simp
  | x :: r => by simp [rowsToT_cB r, cB, encS]

theorem marksS_get : ∀ (l : List Nat) (k : Int) (i : Nat) (h : i < l.length), (marksS k l)[i]'(by simpa using h) = marks (k + sumI (l.take i)) l[i]
  | [], _, _, h => by cases h
  | n :: r, k, 0, _ => by simp [marksS, sumI]
  | n :: r, k, i + 1, h => by
    have h' : i < r.length := by simpa using h
    simp only [marksS, List.getElem_cons_succ, marksS_get r (k + n) i h', List.take_succ_cons, sumI, List.sum_cons]
    congr 1
    omega

end Go.Proofs.YtckojpaklblnpaaDoor.Th
