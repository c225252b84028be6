/- IRs: IrStats. -/
import Derived.Test.YtckojpaklblnpaaDoorComm
import Derived.Test.YtckojpaklblnpaaDoorIr15
set_option linter.unusedVariables false
set_option linter.unusedSimpArgs false
set_option maxRecDepth 10000
set_option maxHeartbeats 2000000
namespace Go.Proofs.YtckojpaklblnpaaDoor.Th
open Go Go.RowKit Go.Proofs.YtckojpaklblnpaaDoor.Ev

def cellsI (cs : List Int) : List C := cs.map fun n => C.ow (.lit (.int .i64 n))
def bump (cs : List Int) (k : Nat) : List Int := cs.set k (IntKind.wrap .i64 (cs.getD k 0 + 1))
def bumpM (cs : List Int) (m : ModT) : List Int := m.ops.foldl (fun cs x => bump cs x.kind.toNat) cs
def statsT (ms : List ModT) : List Int := ms.foldl bumpM ((ms.length : Int) :: List.replicate 17 0)

def encA (cs : List Int) : List T := cs.map fun n => T.lit (.int .i64 n)
abbrev boxA (cs : List Int) : O := { cells := [.own 18 [cellsI cs]], box := true }
def init (ms : List ModT) : List Int := (ms.length : Int) :: List.replicate 17 0
theorem bump_len (cs : List Int) (k : Nat) : (bump cs k).length = cs.length := by simp [bump]
theorem bumps_len : ∀ (l : List OpT) (cs : List Int), (l.foldl (fun cs x => bump cs x.kind.toNat) cs).length = cs.length := by
  intro l
  induction l with
  | nil => intro cs; rfl
  | cons x r ih => intro cs; rw [List.foldl_cons, ih, bump_len]
theorem bumpMs_len : ∀ (l : List ModT) (cs : List Int), (l.foldl bumpM cs).length = cs.length := by
  intro l
  induction l with
  | nil => intro cs; rfl
  | cons x r ih => intro cs; rw [List.foldl_cons, ih]; exact bumps_len _ _
@[simp] theorem cellsI_len (cs : List Int) : (cellsI cs).length = cs.length := by simp [cellsI]
theorem cellsI_at (cs : List Int) (k : Nat) (h : k < cs.length) : List.take 1 (List.drop k (cellsI cs)) = [C.ow (.lit (.int .i64 cs[k]))] := by
  have h' : k < (cellsI cs).length := by simpa using h
  rw [List.drop_eq_getElem_cons h']
  simp [cellsI]
theorem cellsI_set (cs : List Int) (k : Nat) (v : Int) : (cellsI cs).set k (C.ow (.lit (.int .i64 v))) = cellsI (cs.set k v) := by
  simp [cellsI, List.map_set]
theorem cellsI_free : ∀ (cs : List Int), (cellsI cs).all C.free = true := by
  intro cs
  induction cs with
  | nil => rfl
  | cons x r ih => simp [cellsI, C.free]
theorem cellsI_toT : ∀ (cs : List Int), cellsToT (cellsI cs) = some (encA cs) := by
  intro cs
  induction cs with
  | nil => rfl
  | cons x r ih =>
    have : cellsI (x :: r) = C.ow (.lit (.int .i64 x)) :: cellsI r := rfl
    rw [this]
    simp [cellsToT, ih, encA]
theorem cellsI_lent : ∀ (cs : List Int), lentAll (cellsI cs) = false := by
  intro cs
  induction cs with
  | nil => rfl
  | cons x r ih =>
    have : cellsI (x :: r) = C.ow (.lit (.int .i64 x)) :: cellsI r := rfl
    rw [this]
    simp [lentAll, ih]

theorem cellsI_put (cs : List Int) (k : Nat) (v : Int) (h : k < cs.length) : List.take k (cellsI cs) ++ C.ow (.lit (.int .i64 v)) :: List.drop (k + 1) (cellsI cs) = cellsI (cs.set k v) := by
  have h' : k < (cellsI cs).length := by simpa using h
  have := List.set_eq_take_append_cons_drop (l := cellsI cs) (i := k) (a := C.ow (.lit (.int .i64 v)))
  rw [if_pos h'] at this
  rw [← this, cellsI_set]
theorem encA_lit (b : Bool) (cs : List Int) : (encA cs).map (litC b) = cellsI cs := by simp [encA, cellsI, litC]
@[simp] theorem encA_len (cs : List Int) : (encA cs).length = cs.length := by simp [encA]

end Go.Proofs.YtckojpaklblnpaaDoor.Th
