/- Slices of whole numbers: what the harness does with them, and more. -/
import Derived.Test.YtmkhdnpnjjdgfaaComm
set_option linter.unusedVariables false
set_option linter.unusedSimpArgs false
set_option maxRecDepth 10000
set_option maxHeartbeats 2000000
namespace Go.Proofs.Ytmkhdnpnjjdgfaa.Th
open Go Go.RowKit Go.Proofs.Ytmkhdnpnjjdgfaa.Ev

theorem c_laws_szIntS (b : Bool) (l : List Int) (left : Int) (h : l.length ≤ maxLen) (h1 : left ≤ 2 ^ 50) (h2 : 0 ≤ left) : cw f_laws_szIntS [.val b (.sl 1 (l.map encI)), .lit (.int .i64 left)] [] = some (.lit (.int .i64 (if left - l.length < 0 then -1 else left - l.length)), []) := by
  refine callW_run (by simp) fs_laws_szIntS rfl rfl rfl ?_
  have : IntKind.wrap .i64 (left - l.length) = left - l.length := i64_wrap (by unfold maxLen at h; omega) (by omega)
  by_cases hl : left - l.length < 0 <;> simp [hl, this]

theorem szLe_laws_szIntSS (a : List Int) (k : Int) (h : 0 ≤ k) : szF a k ≤ k := szF_le a k h

theorem c_laws_szIntSS (b : Bool) (l : List (List Int)) (left : Int) (h : l.length ≤ maxLen) (h1 : left ≤ 2 ^ 50) (h2 : 0 ≤ left) (hin : ∀ x ∈ l, x.length ≤ maxLen) : cw f_laws_szIntSS [.val b (.sl 1 (l.map (encS 1 encI))), .lit (.int .i64 left)] [] = some (.lit (.int .i64 (if left - l.length < 0 then -1 else szL szF l (left - l.length))), []) := by
  refine callW_run (by simp) fs_laws_szIntSS rfl rfl rfl ?_
  have hw : IntKind.wrap .i64 (left - l.length) = left - l.length := i64_wrap (by unfold maxLen at h; omega) (by omega)
  by_cases hl0 : left - l.length < 0
  · simp [hl0, hw]
  · simp [hl0, hw]
    refine Mc.loop_ind (α := Nat × Int) _ _ _ _ (fun x => I_laws_szIntSS_0 (.val b (.sl 1 (l.map (encS 1 encI)))) (.lit (.int .i64 x.2)) (.lit (.int .i64 x.1)) []) (fun x => l.length - x.1) (fun x => x.1 ≤ l.length ∧ 0 ≤ x.2 ∧ x.2 ≤ 2 ^ 50 ∧ szL szF (l.drop x.1) x.2 = szL szF l (left - l.length)) (0, left - l.length) _ (by simp) (by simp; omega) ?_
    intro ⟨i, k⟩ ⟨hi, hk1, hk2, ha⟩ ih
    dsimp only at hi hk1 hk2 ha
    by_cases hl : i < l.length
    · have hc := c_laws_szIntS b l[i] k (hin _ (List.getElem_mem hl)) hk2 hk1
      simp only [cw, encS, encI] at hc
      rw [show (if k - (l[i].length : Int) < 0 then -1 else k - l[i].length) = szF l[i] k from rfl] at hc
      rw [List.drop_eq_getElem_cons hl, szL] at ha
      have hle := szLe_laws_szIntSS l[i] k hk1
      generalize hr : szF l[i] k = r at hc ha hle
      by_cases hneg : r < 0
      · rw [if_pos hneg] at ha
        simp [hl, encS, encI, hc, hneg, ← ha]
      · rw [if_neg hneg] at ha
        simp [hl, encS, encI, hc, hneg, wrap_add i (by omega)]
        refine ih (i + 1, r) _ (by simp) ⟨by simp; omega, by simp; omega, by simp; omega, ha⟩ (by simp; omega)
    · rw [List.drop_eq_nil_of_le (by omega), szL] at ha
      simp [hl, ← ha]

theorem c_laws_toIntS (b : Bool) (l : List Int) (h : l.length ≤ 2 ^ 40) : cw f_laws_toIntS [.val b (.sl 1 (l.map encI))] [] = some (.ov [.ow (.sl 1 (l.map encI))] false, []) := by
  refine callW_run (by simp) fs_laws_toIntS rfl rfl rfl ?_
  simp [maxBytes]
  rw [if_pos (by omega)]
  simp
  refine Mc.loop_ind (α := Nat × List (List T)) _ _ _ _ (fun x => I_laws_toIntS_0 (.val b (.sl 1 (l.map encI))) (.vw 88 [] 0 1 false) (.lit (.int .i64 x.1)) [(88, { cells := [.ow (.sl 1 x.2)], var := true })]) (fun x => l.length - x.1) (fun x => x.1 ≤ l.length ∧ x.2.length = l.length ∧ (∀ r ∈ x.2, r.length = 1) ∧ x.2.take x.1 = (l.take x.1).map encI) (0, List.replicate l.length [.lit (.int .i64 0)]) _ (by simp) (by simp) ?_
  intro ⟨i, rows⟩ ⟨hi, hn, h3, ha⟩ ih
  dsimp only at hi hn ha h3
  by_cases hl : i < l.length
  · have hl' : i < rows.length := by omega
    have hr : rows[i].length = 1 := h3 _ (List.getElem_mem hl')
    have hd : List.drop 1 (List.map C.ow rows[i]) = [] := List.drop_eq_nil_of_le (by simp [hr])
    have hd' : List.drop 1 rows[i] = [] := List.drop_eq_nil_of_le (by simp [hr])
    simp [hl, hl', encI, wrap_add i (by omega), hr, hd, hd']
    refine ih (i + 1, rows.set i (encI l[i])) _ (by simp [encI]) ⟨by simp; omega, by simpa using hn, set_all h3 (by simp [encI]), ?_⟩ (by simp; omega)
    simp only [take_set _ _ _ hl', take_next _ _ hl, ha, List.map_append, List.map_cons, List.map_nil]
  · simp [hl]
    rw [List.take_of_length_le (by omega), List.take_of_length_le (by omega)] at ha
    rw [ha]

theorem c_laws_toIntSS (b : Bool) (l : List (List Int)) (h : l.length ≤ 2 ^ 40) (hin : ∀ x ∈ l, x.length ≤ 2 ^ 40) : cw f_laws_toIntSS [.val b (.sl 1 (l.map (encS 1 encI)))] [] = some (.ov [.ow (.sl 1 (l.map (encS 1 encI)))] false, []) := by
  refine callW_run (by simp) fs_laws_toIntSS rfl rfl rfl ?_
  simp [maxBytes]
  rw [if_pos (by omega)]
  simp
  refine Mc.loop_ind (α := Nat × List (List T)) _ _ _ _ (fun x => I_laws_toIntSS_0 (.val b (.sl 1 (l.map (encS 1 encI)))) (.vw 88 [] 0 1 false) (.lit (.int .i64 x.1)) [(88, { cells := [.ow (.sl 1 x.2)], var := true })]) (fun x => l.length - x.1) (fun x => x.1 ≤ l.length ∧ x.2.length = l.length ∧ (∀ r ∈ x.2, r.length = 1) ∧ x.2.take x.1 = (l.take x.1).map (encS 1 encI)) (0, List.replicate l.length [.sl 0 []]) _ (by simp) (by simp) ?_
  intro ⟨i, rows⟩ ⟨hi, hn, h3, ha⟩ ih
  dsimp only at hi hn ha h3
  by_cases hl : i < l.length
  · have hl' : i < rows.length := by omega
    have hr : rows[i].length = 1 := h3 _ (List.getElem_mem hl')
    have hd : List.drop 1 (List.map C.ow rows[i]) = [] := List.drop_eq_nil_of_le (by simp [hr])
    have hd' : List.drop 1 rows[i] = [] := List.drop_eq_nil_of_le (by simp [hr])
    have hc := c_laws_toIntS b l[i] (hin _ (List.getElem_mem hl))
    simp only [cw, encS, encI] at hc
    simp [hl, hl', encS, encI, hc, wrap_add i (by omega), hr, hd, hd']
    refine ih (i + 1, rows.set i ((encS 1 encI) l[i])) _ (by simp [encS, encI]) ⟨by simp; omega, by simpa using hn, set_all h3 (by simp [encS, encI]), ?_⟩ (by simp; omega)
    simp only [take_set _ _ _ hl', take_next _ _ hl, ha, List.map_append, List.map_cons, List.map_nil]
  · simp [hl]
    rw [List.take_of_length_le (by omega), List.take_of_length_le (by omega)] at ha
    rw [ha]

theorem c_laws_eqIntS (b b' : Bool) (l k : List Int) (h : l.length ≤ 2 ^ 50) : cw f_laws_eqIntS [.val b (.sl 1 (l.map encI)), .val b' (.sl 1 (k.map encI))] [] = some (.lit (.bool (decide (l = k))), []) := by
  refine callW_run (by simp) fs_laws_eqIntS rfl rfl rfl ?_
  by_cases hlen : l.length = k.length
  · simp [hlen]
    refine Mc.loop_ind (α := Nat) _ _ _ _ (fun i => I_laws_eqIntS_0 (.val b (.sl 1 (l.map encI))) (.val b' (.sl 1 (k.map encI))) (.lit (.int .i64 i)) []) (fun i => l.length - i) (fun i => i ≤ l.length ∧ l.take i = k.take i) 0 _ (by simp) (by simp) ?_
    intro i ⟨hi, ha⟩ ih
    by_cases hl : i < l.length
    · have hl' : i < k.length := by omega
      by_cases ho : l[i] = k[i]
      · skip
        simp [hl, hl', encI, ho, wrap_add i (by omega)]
        refine ⟨.b (by kernel_rfl), ih (i + 1) _ (by simp) ⟨by omega, ?_⟩ (by omega)⟩
        rw [take_next l i hl, take_next k i hl', ha, ho]
      · skip
        simp [hl, hl', encI, ho]
        refine ⟨.b (by kernel_rfl), ?_⟩
        intro e
        subst e
        exact ho rfl
    · simp [hl]
      rw [List.take_of_length_le (by omega), List.take_of_length_le (by omega)] at ha
      exact ha
  · simp [hlen]
    intro e
    subst e
    exact hlen rfl

theorem c_spec_l9SameInts (b b' : Bool) (l k : List Int) (h : l.length ≤ 2 ^ 50) : cw f_spec_l9SameInts [.val b (.sl 1 (l.map encI)), .val b' (.sl 1 (k.map encI))] [] = some (.lit (.bool (decide (l = k))), []) := by
  refine callW_run (by simp) fs_spec_l9SameInts rfl rfl rfl ?_
  by_cases hlen : l.length = k.length
  · simp [hlen]
    refine Mc.loop_ind (α := Nat) _ _ _ _ (fun i => I_spec_l9SameInts_0 (.val b (.sl 1 (l.map encI))) (.val b' (.sl 1 (k.map encI))) (.lit (.int .i64 i)) []) (fun i => l.length - i) (fun i => i ≤ l.length ∧ l.take i = k.take i) 0 _ (by simp) (by simp) ?_
    intro i ⟨hi, ha⟩ ih
    by_cases hl : i < l.length
    · have hl' : i < k.length := by omega
      by_cases ho : l[i] = k[i]
      · skip
        simp [hl, hl', encI, ho, wrap_add i (by omega)]
        refine ⟨.b (by kernel_rfl), ih (i + 1) _ (by simp) ⟨by omega, ?_⟩ (by omega)⟩
        rw [take_next l i hl, take_next k i hl', ha, ho]
      · skip
        simp [hl, hl', encI, ho]
        refine ⟨.b (by kernel_rfl), ?_⟩
        intro e
        subst e
        exact ho rfl
    · simp [hl]
      rw [List.take_of_length_le (by omega), List.take_of_length_le (by omega)] at ha
      exact ha
  · simp [hlen]
    intro e
    subst e
    exact hlen rfl

theorem c_slices_Equal_Lint_int (b b' : Bool) (l k : List Int) (h : l.length ≤ 2 ^ 50) : cw f_slices_Equal_Lint_int [.val b (.sl 1 (l.map encI)), .val b' (.sl 1 (k.map encI))] [] = some (.lit (.bool (decide (l = k))), []) := by
  refine callW_run (by simp) fs_slices_Equal_Lint_int rfl rfl rfl ?_
  by_cases hlen : l.length = k.length
  · simp [hlen]
    refine Mc.loop_ind (α := Nat) _ _ _ _ (fun i => I_slices_Equal_Lint_int_0 (.val b (.sl 1 (l.map encI))) (.val b' (.sl 1 (k.map encI))) (.lit (.int .i64 l.length)) (.lit (.int .i64 i)) []) (fun i => l.length - i) (fun i => i ≤ l.length ∧ l.take i = k.take i) 0 _ (by simp [hlen]) (by simp) ?_
    intro i ⟨hi, ha⟩ ih
    by_cases hl : i < l.length
    · have hl' : i < k.length := by omega
      by_cases ho : l[i] = k[i]
      · skip
        simp [hl, hl', encI, ho, wrap_add i (by omega)]
        refine ⟨.b (by kernel_rfl), ih (i + 1) _ (by simp) ⟨by omega, ?_⟩ (by omega)⟩
        rw [take_next l i hl, take_next k i hl', ha, ho]
      · skip
        simp [hl, hl', encI, ho]
        refine ⟨.b (by kernel_rfl), ?_⟩
        intro e
        subst e
        exact ho rfl
    · simp [hl]
      rw [List.take_of_length_le (by omega), List.take_of_length_le (by omega)] at ha
      exact ha
  · simp [hlen]
    intro e
    subst e
    exact hlen rfl

theorem c_laws_eqIntSS (b b' : Bool) (l k : List (List Int)) (h : l.length ≤ 2 ^ 50) (hin : ∀ x ∈ l, x.length ≤ 2 ^ 40) : cw f_laws_eqIntSS [.val b (.sl 1 (l.map (encS 1 encI))), .val b' (.sl 1 (k.map (encS 1 encI)))] [] = some (.lit (.bool (decide (l = k))), []) := by
  refine callW_run (by simp) fs_laws_eqIntSS rfl rfl rfl ?_
  by_cases hlen : l.length = k.length
  · simp [hlen]
    refine Mc.loop_ind (α := Nat) _ _ _ _ (fun i => I_laws_eqIntSS_0 (.val b (.sl 1 (l.map (encS 1 encI)))) (.val b' (.sl 1 (k.map (encS 1 encI)))) (.lit (.int .i64 i)) []) (fun i => l.length - i) (fun i => i ≤ l.length ∧ l.take i = k.take i) 0 _ (by simp) (by simp) ?_
    intro i ⟨hi, ha⟩ ih
    by_cases hl : i < l.length
    · have hl' : i < k.length := by omega
      have hc := c_laws_eqIntS b b' l[i] k[i] (Nat.le_trans (hin _ (List.getElem_mem hl)) (by omega))
      simp only [cw, encS, encI] at hc
      by_cases ho : l[i] = k[i]
      · skip
        simp [ho] at hc
        simp [hl, hl', encS, encI, hc, ho, wrap_add i (by omega)]
        refine ⟨.b (by kernel_rfl), ih (i + 1) _ (by simp) ⟨by omega, ?_⟩ (by omega)⟩
        rw [take_next l i hl, take_next k i hl', ha, ho]
      · skip
        simp [ho] at hc
        simp [hl, hl', encS, encI, hc, ho]
        refine ⟨.b (by kernel_rfl), ?_⟩
        intro e
        subst e
        exact ho rfl
    · simp [hl]
      rw [List.take_of_length_le (by omega), List.take_of_length_le (by omega)] at ha
      exact ha
  · simp [hlen]
    intro e
    subst e
    exact hlen rfl

theorem c_slices_IndexFunc_LLint_Lint (b : Bool) (l : List (List Int)) (g : FuncId) (on : Nat) (orow : List C) (p : (List Int) → Bool) (hp : ∀ b c, c ∈ l → cw g [.val b (.sl 1 ((c).map encI)), .ptr 0 [(0, 0)] 0] [{ cells := [.own on [orow]], box := true }] = some (.lit (.bool (p c)), [some { cells := [.own on [orow]], box := true }])) (h : l.length ≤ 2 ^ 50) :
    cw f_slices_IndexFunc_LLint_Lint [.val b (.sl 1 (l.map (encS 1 encI))), .fn g [.ptr 0 [(0, 0)] 0]] [{ cells := [.own on [orow]], box := true }] = some (.lit (.int .i64 (idxOf p l)), [some { cells := [.own on [orow]], box := true }]) := by
  refine callW_run (by simp) fs_slices_IndexFunc_LLint_Lint rfl rfl rfl ?_
  simp
  refine Mc.loop_ind (α := Nat) _ _ _ _ (fun i => I_slices_IndexFunc_LLint_Lint_0 (.val b (.sl 1 (l.map (encS 1 encI)))) (.fn g [.ptr 0 [(0, 0)] 0]) (.lit (.int .i64 l.length)) (.lit (.int .i64 i)) [(0, { cells := [.own on [orow]], box := true })]) (fun i => l.length - i) (fun i => i ≤ l.length ∧ ∀ j (h : j < i) (h' : j < l.length), p l[j] = false) 0 _ (by simp) (by simp) ?_
  intro i ⟨hi, ha⟩ ih
  by_cases hl : i < l.length
  · have hc := hp b l[i] (List.getElem_mem hl)
    simp only [cw, encS, encI] at hc
    cases hq : p l[i] with
    | true =>
      simp [hl, encS, encI, hc, hq]
      exact (idxOf_at p l i hl hq ha).symm
    | false =>
      simp [hl, encS, encI, hc, hq, wrap_add i (by omega)]
      refine ih (i + 1) _ (by simp) ⟨by omega, ?_⟩ (by omega)
      intro j h1 h2
      by_cases hj : j = i
      · subst hj; exact hq
      · exact ha j (by omega) h2
  · simp [hl]
    exact (idxOf_none p l fun j h => ha j (by omega) h).symm

theorem c_slices_ContainsFunc_LLint_Lint (b : Bool) (l : List (List Int)) (g : FuncId) (on : Nat) (orow : List C) (p : (List Int) → Bool) (hp : ∀ b c, c ∈ l → cw g [.val b (.sl 1 ((c).map encI)), .ptr 0 [(0, 0)] 0] [{ cells := [.own on [orow]], box := true }] = some (.lit (.bool (p c)), [some { cells := [.own on [orow]], box := true }])) (h : l.length ≤ 2 ^ 50) :
    cw f_slices_ContainsFunc_LLint_Lint [.val b (.sl 1 (l.map (encS 1 encI))), .fn g [.ptr 0 [(0, 0)] 0]] [{ cells := [.own on [orow]], box := true }] = some (.lit (.bool (l.any p)), [some { cells := [.own on [orow]], box := true }]) := by
  refine callW_run (by simp) fs_slices_ContainsFunc_LLint_Lint rfl rfl rfl ?_
  have hc := c_slices_IndexFunc_LLint_Lint b l g on orow p hp h
  simp only [cw] at hc
  simp [hc, idxOf_any]

end Go.Proofs.Ytmkhdnpnjjdgfaa.Th
