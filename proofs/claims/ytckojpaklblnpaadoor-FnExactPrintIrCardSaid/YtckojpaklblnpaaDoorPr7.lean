/- FnExactPrintIr: the law. -/
import Derived.Test.YtckojpaklblnpaaDoorComm
import Derived.Test.YtckojpaklblnpaaDoorPr6
import Derived.Test.YtckojpaklblnpaaDoorIr17
set_option linter.unusedVariables false
set_option linter.unusedSimpArgs false
set_option maxRecDepth 10000
set_option maxHeartbeats 2000000
namespace Go.Proofs.YtckojpaklblnpaaDoor.Th
open Go Go.RowKit Go.Proofs.YtckojpaklblnpaaDoor.Ev

theorem c_law_PrintIr (l : List ModT) (h : l.length ≤ maxLen) (hf : ∀ m ∈ l, m.Fits) : cw f_laws_FnExactPrintIr [.agg false (encM l)] [] = some (.lit (.bool true), []) := by
  refine callW_run (by simp) fs_laws_FnExactPrintIr rfl rfl rfl ?_
  have h1 := c_laws_szIR false l 1048576 h hf (by omega) (by omega)
  simp only [cw, encM] at h1
  by_cases hr : szModL l 1048576 < 0
  · simp [encM, h1, hr]
  obtain ⟨hl, hs⟩ := szModL_small l 1048576 (by omega) (by omega) (by omega)
  have h2 := c_laws_toIR false l hl hs
  have h3 := c_spec_PrintIr true l hl hs
  have h4 := c_impl_PrintIr true l hl hs
  have h5 := c_laws_eqIR true true l l hl hs
  simp only [cw, encM] at h2 h3 h4 h5
  generalize str (if specB l then prN l l.length else []) = t at h3 h4
  generalize szModL l 1048576 = r at h1 hr
  simp [encM, h1, hr, h2, h3, h4, h5]
  first | exact .b (by kernel_rfl) | exact .h [(3, 104)] ⟨⟨by kernel_rfl, by rfl⟩, trivial⟩ (by kernel_rfl)

end Go.Proofs.YtckojpaklblnpaaDoor.Th
