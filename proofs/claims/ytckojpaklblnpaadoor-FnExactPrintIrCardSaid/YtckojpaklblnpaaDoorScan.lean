/- Reading numbers; FnExactScan, FnExactMend: what their functions compute. -/
import Derived.Test.YtckojpaklblnpaaDoorStream
set_option linter.unusedVariables false
set_option linter.unusedSimpArgs false
set_option maxRecDepth 10000
set_option maxHeartbeats 2000000
namespace Go.Proofs.YtckojpaklblnpaaDoor.Th
open Go Go.RowKit Go.Proofs.YtckojpaklblnpaaDoor.Ev Go.Proofs.YtckojpaklblnpaaDoor.Wire

theorem w64 (n : Int) : IntKind.wrap .i64 n = Go.RowKit.wrap64 n := by rw [IntKind.wrap_i64]; unfold Go.RowKit.wrap64; omega

/-- Three whole numbers, as a result. -/
def tri (x : Int × Int × Int) : V := .tup [.lit (.int .i64 x.1), .lit (.int .i64 x.2.1), .lit (.int .i64 x.2.2)]

theorem c_spec_l1In (a lo hi : Int) : cw f_spec_l1In [.lit (.int .i64 a), .lit (.int .i64 lo), .lit (.int .i64 hi)] [] = some (.lit (.bool (decide (lo ≤ a ∧ a ≤ hi))), []) := by
  refine callW_run (by simp) fs_spec_l1In rfl rfl rfl ?_
  by_cases h : lo ≤ a <;> simp [h]

theorem c_impl_within (a lo hi : Int) : cw f_impl_within [.lit (.int .i64 a), .lit (.int .i64 lo), .lit (.int .i64 hi)] [] = some (.lit (.bool (decide (lo ≤ a ∧ a ≤ hi))), []) := by
  refine callW_run (by simp) fs_impl_within rfl rfl rfl ?_
  by_cases h : lo ≤ a <;> simp [h]

theorem gvl_step (l : List Int) (a i : Nat) (u : Int) (hi : i < 10) : gvl l a (10 - i) u =
    if l.length ≤ a + i then (0, 0, 1) else if i = 9 ∧ 1 < l.getD (a + i) 0 then (0, 0, 2)
    else if l.getD (a + i) 0 < 128 then (Go.RowKit.wrap64 (u + l.getD (a + i) 0 % 128 * p7 i), ((a + i + 1 : Nat) : Int), 0)
    else gvl l a (10 - (i + 1)) (u + l.getD (a + i) 0 % 128 * p7 i) := by
  obtain ⟨n, hn⟩ : ∃ n, 10 - i = n + 1 := ⟨9 - i, by omega⟩
  have h1 : 9 - n = i := by omega
  have h2 : 10 - (i + 1) = n := by omega
  have h3 : (n = 0) = (i = 9) := by apply propext; omega
  rw [hn, h2, gvl, h1]
  simp only [h3]

end Go.Proofs.YtckojpaklblnpaaDoor.Th
