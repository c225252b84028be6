/- Slices of whole numbers: what the harness does with them, and more. -/
import Derived.Test.YtckojpaklblnpaaDoorComm
set_option linter.unusedVariables false
set_option linter.unusedSimpArgs false
set_option maxRecDepth 10000
set_option maxHeartbeats 2000000
namespace Go.Proofs.YtckojpaklblnpaaDoor.Th
open Go Go.RowKit Go.Proofs.YtckojpaklblnpaaDoor.Ev

theorem c_laws_szIntS (b : Bool) (l : List Int) (left : Int) (h : l.length ≤ maxLen) (h1 : left ≤ 2 ^ 50) (h2 : 0 ≤ left) : cw f_laws_szIntS [.val b (.sl 1 (l.map encI)), .lit (.int .i64 left)] [] = some (.lit (.int .i64 (if left - l.length < 0 then -1 else left - l.length)), []) := by
  refine callW_run (by simp) fs_laws_szIntS rfl rfl rfl ?_
  have : IntKind.wrap .i64 (left - l.length) = left - l.length := i64_wrap (by unfold maxLen at h; omega) (by omega)
  by_cases hl : left - l.length < 0 <;> simp [hl, this]

theorem szLe_laws_szIntSS (a : List Int) (k : Int) (h : 0 ≤ k) : szF a k ≤ k := szF_le a k h

theorem c_laws_toIntS (b : Bool) (l : List Int) (h : l.length ≤ 2 ^ 40) : cw f_laws_toIntS [.val b (.sl 1 (l.map encI))] [] = some (.ov [.ow (.sl 1 (l.map encI))] false, []) := by
  refine callW_run (by simp) fs_laws_toIntS rfl rfl rfl ?_
  simp [maxBytes]
  rw [if_pos (by omega)]
  simp
  refine Mc.loop_ind (α := Nat × List (List T)) _ _ _ _ (fun x => I_laws_toIntS_0 (.val b (.sl 1 (l.map encI))) (.vw 88 [] 0 1 false) (.lit (.int .i64 x.1)) [(88, { cells := [.ow (.sl 1 x.2)], var := true })]) (fun x => l.length - x.1) (fun x => x.1 ≤ l.length ∧ x.2.length = l.length ∧ (∀ r ∈ x.2, r.length = 1) ∧ x.2.take x.1 = (l.take x.1).map encI) (0, List.replicate l.length [.lit (.int .i64 0)]) _ (by simp) (by simp) ?_
  intro ⟨i, rows⟩ ⟨hi, hn, h3, ha⟩ ih
  dsimp only at hi hn ha h3
  by_cases hl : i < l.length
  · have hl' : i < rows.length := by omega
    have hr : rows[i].length = 1 := h3 _ (List.getElem_mem hl')
    have hd : List.drop 1 (List.map C.ow rows[i]) = [] := List.drop_eq_nil_of_le (by simp [hr])
    have hd' : List.drop 1 rows[i] = [] := List.drop_eq_nil_of_le (by simp [hr])
    simp [hl, hl', encI, wrap_add i (by omega), hr, hd, hd']
    refine ih (i + 1, rows.set i (encI l[i])) _ (by simp [encI]) ⟨by simp; omega, by simpa using hn, set_all h3 (by simp [encI]), ?_⟩ (by simp; omega)
    simp only [take_set _ _ _ hl', take_next _ _ hl, ha, List.map_append, List.map_cons, List.map_nil]
  · simp [hl]
    rw [List.take_of_length_le (by omega), List.take_of_length_le (by omega)] at ha
    rw [ha]

theorem c_laws_eqIntS (b b' : Bool) (l k : List Int) (h : l.length ≤ 2 ^ 50) : cw f_laws_eqIntS [.val b (.sl 1 (l.map encI)), .val b' (.sl 1 (k.map encI))] [] = some (.lit (.bool (decide (l = k))), []) := by
  refine callW_run (by simp) fs_laws_eqIntS rfl rfl rfl ?_
  by_cases hlen : l.length = k.length
  · simp [hlen]
    refine Mc.loop_ind (α := Nat) _ _ _ _ (fun i => I_laws_eqIntS_0 (.val b (.sl 1 (l.map encI))) (.val b' (.sl 1 (k.map encI))) (.lit (.int .i64 i)) []) (fun i => l.length - i) (fun i => i ≤ l.length ∧ l.take i = k.take i) 0 _ (by simp) (by simp) ?_
    intro i ⟨hi, ha⟩ ih
    by_cases hl : i < l.length
    · have hl' : i < k.length := by omega
      by_cases ho : l[i] = k[i]
      · skip
        simp [hl, hl', encI, ho, wrap_add i (by omega)]
        refine ⟨.b (by kernel_rfl), ih (i + 1) _ (by simp) ⟨by omega, ?_⟩ (by omega)⟩
        rw [take_next l i hl, take_next k i hl', ha, ho]
      · skip
        simp [hl, hl', encI, ho]
        refine ⟨.b (by kernel_rfl), ?_⟩
        intro e
        subst e
        exact ho rfl
    · simp [hl]
      rw [List.take_of_length_le (by omega), List.take_of_length_le (by omega)] at ha
      exact ha
  · simp [hlen]
    intro e
    subst e
    exact hlen rfl

theorem c_spec_l9SameInts (b b' : Bool) (l k : List Int) (h : l.length ≤ 2 ^ 50) : cw f_spec_l9SameInts [.val b (.sl 1 (l.map encI)), .val b' (.sl 1 (k.map encI))] [] = some (.lit (.bool (decide (l = k))), []) := by
  refine callW_run (by simp) fs_spec_l9SameInts rfl rfl rfl ?_
  by_cases hlen : l.length = k.length
  · simp [hlen]
    refine Mc.loop_ind (α := Nat) _ _ _ _ (fun i => I_spec_l9SameInts_0 (.val b (.sl 1 (l.map encI))) (.val b' (.sl 1 (k.map encI))) (.lit (.int .i64 i)) []) (fun i => l.length - i) (fun i => i ≤ l.length ∧ l.take i = k.take i) 0 _ (by simp) (by simp) ?_
    intro i ⟨hi, ha⟩ ih
    by_cases hl : i < l.length
    · have hl' : i < k.length := by omega
      by_cases ho : l[i] = k[i]
      · skip
        simp [hl, hl', encI, ho, wrap_add i (by omega)]
        refine ⟨.b (by kernel_rfl), ih (i + 1) _ (by simp) ⟨by omega, ?_⟩ (by omega)⟩
        rw [take_next l i hl, take_next k i hl', ha, ho]
      · skip
        simp [hl, hl', encI, ho]
        refine ⟨.b (by kernel_rfl), ?_⟩
        intro e
        subst e
        exact ho rfl
    · simp [hl]
      rw [List.take_of_length_le (by omega), List.take_of_length_le (by omega)] at ha
      exact ha
  · simp [hlen]
    intro e
    subst e
    exact hlen rfl

theorem c_slices_Equal_Lint_int (b b' : Bool) (l k : List Int) (h : l.length ≤ 2 ^ 50) : cw f_slices_Equal_Lint_int [.val b (.sl 1 (l.map encI)), .val b' (.sl 1 (k.map encI))] [] = some (.lit (.bool (decide (l = k))), []) := by
  refine callW_run (by simp) fs_slices_Equal_Lint_int rfl rfl rfl ?_
  by_cases hlen : l.length = k.length
  · simp [hlen]
    refine Mc.loop_ind (α := Nat) _ _ _ _ (fun i => I_slices_Equal_Lint_int_0 (.val b (.sl 1 (l.map encI))) (.val b' (.sl 1 (k.map encI))) (.lit (.int .i64 l.length)) (.lit (.int .i64 i)) []) (fun i => l.length - i) (fun i => i ≤ l.length ∧ l.take i = k.take i) 0 _ (by simp [hlen]) (by simp) ?_
    intro i ⟨hi, ha⟩ ih
    by_cases hl : i < l.length
    · have hl' : i < k.length := by omega
      by_cases ho : l[i] = k[i]
      · skip
        simp [hl, hl', encI, ho, wrap_add i (by omega)]
        refine ⟨.b (by kernel_rfl), ih (i + 1) _ (by simp) ⟨by omega, ?_⟩ (by omega)⟩
        rw [take_next l i hl, take_next k i hl', ha, ho]
      · skip
        simp [hl, hl', encI, ho]
        refine ⟨.b (by kernel_rfl), ?_⟩
        intro e
        subst e
        exact ho rfl
    · simp [hl]
      rw [List.take_of_length_le (by omega), List.take_of_length_le (by omega)] at ha
      exact ha
  · simp [hlen]
    intro e
    subst e
    exact hlen rfl

end Go.Proofs.YtckojpaklblnpaaDoor.Th
