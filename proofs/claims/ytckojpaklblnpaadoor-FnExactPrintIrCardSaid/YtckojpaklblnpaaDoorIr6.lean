/- IRs: oneofs. -/
import Derived.Test.YtckojpaklblnpaaDoorComm
import Derived.Test.YtckojpaklblnpaaDoorIr5
set_option linter.unusedVariables false
set_option linter.unusedSimpArgs false
set_option maxRecDepth 10000
set_option maxHeartbeats 2000000
namespace Go.Proofs.YtckojpaklblnpaaDoor.Th
open Go Go.RowKit Go.Proofs.YtckojpaklblnpaaDoor.Ev
open Go.Proofs.YtckojpaklblnpaaDoor.Wire

/-- A Mod in a box. -/
abbrev boxM (b : Bool) (m : ModT) : O := { cells := [.own 3 [[.im b (.sl 9 (m.ops.map OpT.enc)), .im b (.sl 1 (m.jumps.map encI)), .ow (.lit (.bool m.cached))]]], box := true }

def mostF (m : Int) (x : OpT) : Int := if x.oneof > m then x.oneof else m
/-- The greatest oneof. -/
def most (l : List OpT) : Int := l.foldl mostF 0

theorem c_spec_l9Oneofs (b : Bool) (m : ModT) (h : m.ops.length ≤ 2 ^ 40) : cw f_spec_l9Oneofs [.agg b m.enc] [] = some (.lit (.int .i64 (most m.ops)), []) := by
  refine callW_run (by simp) fs_spec_l9Oneofs rfl rfl rfl ?_
  simp [ModT.enc]
  refine Mc.loop_ind (α := Nat × Int) _ _ _ _ (fun x => I_spec_l9Oneofs_0 (.ptr 72 [(0, 0)] 0) (.lit (.int .i64 x.2)) (.lit (.int .i64 x.1)) [(72, boxM b m)]) (fun x => m.ops.length - x.1) (fun x => x.1 ≤ m.ops.length ∧ x.2 = (m.ops.take x.1).foldl mostF 0) (0, 0) _ (by simp) (by simp) ?_
  intro ⟨i, k⟩ ⟨hi, hk⟩ ih
  dsimp only at hi hk
  by_cases hl : i < m.ops.length
  · have hs : (m.ops.take (i + 1)).foldl mostF 0 = mostF k m.ops[i] := by rw [take_next _ i hl, List.foldl_append, ← hk, List.foldl_cons, List.foldl_nil]
    unfold mostF at hs
    by_cases hg : k < m.ops[i].oneof
    · rw [if_pos hg] at hs
      simp [hl, OpT.enc_eq, hg, wrap_add i (by omega)]
      exact ih (i + 1, m.ops[i].oneof) _ (by simp) ⟨by simp; omega, hs.symm⟩ (by simp; omega)
    · rw [if_neg hg] at hs
      simp [hl, OpT.enc_eq, hg, wrap_add i (by omega)]
      exact ih (i + 1, k) _ (by simp) ⟨by simp; omega, hs.symm⟩ (by simp; omega)
  · rw [List.take_of_length_le (by omega)] at hk
    simp [hl, hk, most]

/-- Has each oneof up to the greatest one an Op? -/
def oneofsB (l : List OpT) : Bool := (List.range (most l).toNat).all fun j => l.any fun x => decide (x.oneof = (j : Int) + 1)

theorem c_spec_l9OneofsOk (b : Bool) (m : ModT) (h : m.ops.length ≤ 2 ^ 40) (hm : most m.ops ≤ 2 ^ 40) : cw f_spec_l9OneofsOk [.agg b m.enc] [] = some (.lit (.bool (oneofsB m.ops)), []) := by
  have hc := c_spec_l9Oneofs b m h
  have hn0 : 0 ≤ most m.ops := by
    have key : ∀ (l : List OpT) (k : Int), 0 ≤ k → 0 ≤ l.foldl mostF k := by
      intro l
      induction l with
      | nil => intro k hk; exact hk
      | cons x r ih => intro k hk; exact ih _ (by unfold mostF; split <;> omega)
    exact key _ 0 (by omega)
  refine callW_run (by simp) fs_spec_l9OneofsOk rfl rfl rfl ?_
  simp only [cw, ModT.enc] at hc
  unfold oneofsB
  obtain ⟨N, hN⟩ := Int.eq_ofNat_of_zero_le hn0
  rw [hN] at hc ⊢
  rw [Int.toNat_natCast]
  simp [ModT.enc, hc]
  refine Mc.loop_ind (α := Nat) _ _ _ _ (fun n => I_spec_l9OneofsOk_0 (.ptr 72 [(0, 0)] 0) (.lit (.int .i64 n)) [(72, boxM b m)]) (fun n => n) (fun n => n ≤ N ∧ ∀ j, n ≤ j → j < N → (m.ops.any fun x => decide (x.oneof = (j : Int) + 1)) = true) N _ (by simp) ⟨Nat.le_refl _, fun j h1 h2 => by omega⟩ ?_
  intro n ⟨hn, ha⟩ ih
  by_cases hz : n = 0
  · subst hz
    simp
    intro j hj
    have := ha j (by omega) hj
    simpa using this
  · have hp : (0 : Int) < n := by omega
    have hp' : 0 < n := by omega
    simp [hp, hp']
    refine Mc.loop_ind (α := Nat) _ _ _ _ (fun i => I_spec_l9OneofsOk_1 (.ptr 72 [(0, 0)] 0) (.lit (.int .i64 n)) (.lit (.bool ((m.ops.take i).any fun x => decide (x.oneof = (n : Int))))) (.lit (.int .i64 i)) [(72, boxM b m)]) (fun i => m.ops.length - i) (fun i => i ≤ m.ops.length) 0 _ (by simp) (by simp) ?_
    intro i hi ih2
    by_cases hl : i < m.ops.length
    · have hs : ((m.ops.take (i + 1)).any fun x => decide (x.oneof = (n : Int))) = (((m.ops.take i).any fun x => decide (x.oneof = (n : Int))) || decide (m.ops[i].oneof = (n : Int))) := by rw [take_next _ i hl, List.any_append]; simp
      generalize ((m.ops.take i).any fun x => decide (x.oneof = (n : Int))) = met at hs ⊢
      cases met with
      | true =>
        simp [hl, OpT.enc_eq, wrap_add i (by omega)]
        exact ih2 (i + 1) _ (by simp [hs]) (by omega) (by omega)
      | false =>
        simp [hl, OpT.enc_eq, wrap_add i (by omega)]
        exact ih2 (i + 1) _ (by simp [hs]) (by omega) (by omega)
    · rw [List.take_of_length_le (by omega)]
      have hw : IntKind.wrap .i64 ((n : Int) - 1) = ((n - 1 : Nat) : Int) := by rw [i64_wrap (by omega) (by omega)]; omega
      cases hq : (m.ops.any fun x => decide (x.oneof = (n : Int))) with
      | true =>
        simp [hl, hq, hw]
        refine ih (n - 1) _ (by simp) ⟨by omega, ?_⟩ (by omega)
        intro j h1 h2
        by_cases hj : j = n - 1
        · subst hj
          rw [← hq]
          congr 1
          funext x
          congr 2
          omega
        · exact ha j (by omega) h2
      | false =>
        simp [hl, hq]
        refine ⟨n - 1, by omega, ?_⟩
        intro x hx
        have := List.any_eq_false.mp hq x hx
        simp at this
        omega

end Go.Proofs.YtckojpaklblnpaaDoor.Th
