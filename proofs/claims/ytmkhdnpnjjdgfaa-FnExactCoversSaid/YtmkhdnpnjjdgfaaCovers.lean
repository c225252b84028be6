/- FnExactCovers: what its functions compute. -/
import Derived.Test.YtmkhdnpnjjdgfaaInts
set_option linter.unusedVariables false
set_option linter.unusedSimpArgs false
set_option maxRecDepth 10000
set_option maxHeartbeats 2000000
namespace Go.Proofs.Ytmkhdnpnjjdgfaa.Th
open Go Go.RowKit Go.Proofs.Ytmkhdnpnjjdgfaa.Ev

def begins (path x : List Int) : Bool := decide (x.length ≤ path.length) && decide (path.take x.length = x)

theorem c_spec_l19Begins (b b' : Bool) (path x : List Int) (h : path.length ≤ 2 ^ 50) : cw f_spec_l19Begins [.val b (.sl 1 (path.map encI)), .val b' (.sl 1 (x.map encI))] [] = some (.lit (.bool (begins path x)), []) := by
  refine callW_run (by simp) fs_spec_l19Begins rfl rfl rfl ?_
  have hc := c_spec_l9SameInts b b' (path.take x.length) x (by simp; omega)
  simp only [cw, List.map_take] at hc
  by_cases hl : x.length ≤ path.length
  · simp [hl, hc, begins]
  · have : ¬ (x.length : Int) ≤ path.length := by omega
    simp [hl, hc, begins]

theorem c_impl_beginsWith (b b' : Bool) (path x : List Int) (h : path.length ≤ 2 ^ 50) : cw f_impl_beginsWith [.val b (.sl 1 (path.map encI)), .val b' (.sl 1 (x.map encI))] [] = some (.lit (.bool (begins path x)), []) := by
  refine callW_run (by simp) fs_impl_beginsWith rfl rfl rfl ?_
  have hc := c_slices_Equal_Lint_int b b' (path.take x.length) x (by simp; omega)
  simp only [cw, List.map_take] at hc
  by_cases hl : x.length ≤ path.length
  · simp [hl, hc, begins]
  · have : ¬ (x.length : Int) ≤ path.length := by omega
    simp [hl, hc, begins]

theorem c_spec_Covers (b b' : Bool) (mask : List (List Int)) (path : List Int) (h : mask.length ≤ 2 ^ 50) (h' : path.length ≤ 2 ^ 50) : cw f_spec_Covers [.val b (.sl 1 (mask.map (encS 1 encI))), .val b' (.sl 1 (path.map encI))] [] = some (.lit (.bool (mask.any (begins path))), []) := by
  refine callW_run (by simp) fs_spec_Covers rfl rfl rfl ?_
  simp
  refine Mc.loop_ind (α := Nat) _ _ _ _ (fun i => I_spec_Covers_0 (.val b (.sl 1 (mask.map (encS 1 encI)))) (.val b' (.sl 1 (path.map encI))) (.lit (.int .i64 i)) []) (fun i => mask.length - i) (fun i => i ≤ mask.length ∧ (mask.take i).any (begins path) = false) 0 _ (by simp) (by simp) ?_
  intro i ⟨hi, ha⟩ ih
  by_cases hl : i < mask.length
  · have hc := c_spec_l19Begins b' b path mask[i] h'
    simp only [cw] at hc
    cases hq : begins path mask[i] with
    | true =>
      simp [hl, encS, hc, hq]
      exact ⟨mask[i], List.getElem_mem hl, hq⟩
    | false =>
      simp [hl, encS, hc, hq, wrap_add i (by omega)]
      refine ih (i + 1) _ (by simp) ⟨by omega, ?_⟩ (by omega)
      rw [take_next mask i hl, List.any_append, ha]
      simp [hq]
  · simp [hl]
    rw [List.take_of_length_le (by omega)] at ha
    simpa using ha

theorem c_impl_CoversS1 (b bb : Bool) (path x : List Int) (h : path.length ≤ 2 ^ 50) : cw f_impl_CoversS1 [.val b (.sl 1 (x.map encI)), .ptr 0 [(0, 0)] 0] [{ cells := [.own 1 [[.im bb (.sl 1 (path.map encI))]]], box := true }] = some (.lit (.bool (begins path x)), [some { cells := [.own 1 [[.im bb (.sl 1 (path.map encI))]]], box := true }]) := by
  refine callW_run (by simp) fs_impl_CoversS1 rfl rfl rfl ?_
  have hc := c_impl_beginsWith bb b path x h
  simp only [cw] at hc
  simp [hc]

theorem c_impl_Covers (b b' : Bool) (mask : List (List Int)) (path : List Int) (h : mask.length ≤ 2 ^ 50) (h' : path.length ≤ 2 ^ 50) : cw f_impl_Covers [.val b (.sl 1 (mask.map (encS 1 encI))), .val b' (.sl 1 (path.map encI))] [] = some (.lit (.bool (mask.any (begins path))), []) := by
  refine callW_run (by simp) fs_impl_Covers rfl rfl rfl ?_
  have hc := c_slices_ContainsFunc_LLint_Lint b mask f_impl_CoversS1 1 [.im b' (.sl 1 (path.map encI))] (begins path) (fun b x _ => c_impl_CoversS1 b b' path x h') h
  simp only [cw] at hc
  simp [hc]

theorem c_law_Covers (mask : List (List Int)) (path : List Int) (h : mask.length ≤ maxLen) (hin : ∀ x ∈ mask, x.length ≤ maxLen) (h' : path.length ≤ maxLen) : cw f_laws_FnExactCovers [.val false (.sl 1 (mask.map (encS 1 encI))), .val false (.sl 1 (path.map encI))] [] = some (.lit (.bool true), []) := by
  refine callW_run (by simp) fs_laws_FnExactCovers rfl rfl rfl ?_
  by_cases hp : (1048576 : Int) < path.length
  · have hp' : 1048576 < path.length := by omega
    simp [hp, hp']
  · have hp' : ¬ 1048576 < path.length := by omega
    have h1 := c_laws_szIntSS false mask (1048576) h (by omega) (by omega) hin
    simp only [cw] at h1
    generalize hr : (if (1048576 : Int) - mask.length < 0 then -1 else szL szF mask (1048576 - mask.length)) = r at h1
    by_cases hl : r < 0
    · simp [hp, hp', h1, hl]
    · have hb : mask.length ≤ 2 ^ 40 := by
        by_cases hh : (1048576 : Int) - mask.length < 0
        · rw [if_pos hh] at hr; omega
        · omega
      have hin' : ∀ x ∈ mask, x.length ≤ 2 ^ 40 := by
        by_cases hh : (1048576 : Int) - mask.length < 0
        · omega
        · rw [if_neg hh] at hr
          intro x hx
          have := szL_all (f := szF) (p := fun (a : List Int) k => (a.length : Int) ≤ k) (fun a k => by unfold szF; split <;> omega) (fun a k hk => by unfold szF at hk; split at hk <;> omega) (fun a k k' h1 h2 => by omega) mask (1048576 - mask.length) (by omega) x hx
          omega
      have h2 := c_laws_toIntSS false mask hb hin'
      have h3 := c_laws_toIntS false path (by omega)
      have h4 := c_spec_Covers true true mask path (by omega) (by omega)
      have h5 := c_impl_Covers true true mask path (by omega) (by omega)
      have h6 := c_laws_eqIntSS true true mask mask (by omega) hin'
      have h7 := c_laws_eqIntS true true path path (by omega)
      simp only [cw] at h2 h3 h4 h5 h6 h7
      simp [hp, hp', h1, hl, h2, h3, h4, h5, h6, h7]

end Go.Proofs.Ytmkhdnpnjjdgfaa.Th
