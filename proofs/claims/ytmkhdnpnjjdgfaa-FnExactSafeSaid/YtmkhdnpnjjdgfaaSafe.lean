/- FnExactSafe: what its functions compute. -/
import Derived.Test.YtmkhdnpnjjdgfaaComm
set_option linter.unusedVariables false
set_option linter.unusedSimpArgs false
set_option maxRecDepth 10000
set_option maxHeartbeats 1000000
namespace Go.Proofs.Ytmkhdnpnjjdgfaa.Th
open Go Go.RowKit Go.Proofs.Ytmkhdnpnjjdgfaa.Ev

structure Chg where
  kind : Int
  msg : Int
  num : Int
  deriving DecidableEq

def Chg.enc (c : Chg) : List T := [.lit (.int .i64 c.kind), .lit (.int .i64 c.msg), .lit (.int .i64 c.num)]

theorem c_l1In (a lo hi : Int) : cw f_spec_l1In [.lit (.int .i64 a), .lit (.int .i64 lo), .lit (.int .i64 hi)] [] = some (.lit (.bool (decide (lo ≤ a) && decide (a ≤ hi))), []) := by
  refine callW_run (by simp) fs_spec_l1In rfl rfl rfl ?_
  by_cases h : lo ≤ a <;> simp [h]

theorem c_toChange (b : Bool) (c : Chg) : cw f_laws_toChange [.agg b c.enc] [] = some (.agg false c.enc, []) := by
  refine callW_run (by simp) fs_laws_toChange rfl rfl rfl ?_
  simp [Chg.enc]

theorem c_szChangeS (b : Bool) (l : List Chg) (left : Int) (h : l.length ≤ maxLen) (h1 : left ≤ 2 ^ 50) (h2 : 0 ≤ left) : cw f_laws_szChangeS [.val b (.sl 3 (l.map Chg.enc)), .lit (.int .i64 left)] [] = some (.lit (.int .i64 (if left - l.length < 0 then -1 else left - l.length)), []) := by
  refine callW_run (by simp) fs_laws_szChangeS rfl rfl rfl ?_
  have : IntKind.wrap .i64 (left - l.length) = left - l.length := i64_wrap (by unfold maxLen at h; omega) (by omega)
  by_cases hl : left - l.length < 0 <;> simp [hl, this]

def okChg (c : Chg) : Bool := decide (1 ≤ c.kind) && decide (c.kind ≤ 4)

theorem c_impl_SafeS1 (b : Bool) (c : Chg) : cw f_impl_SafeS1 [.agg b c.enc] [] = some (.lit (.bool (!okChg c)), []) := by
  refine callW_run (by simp) fs_impl_SafeS1 rfl rfl rfl ?_
  by_cases h1 : c.kind = 1
  · simp [Chg.enc, okChg, h1]
  by_cases h2 : c.kind = 2
  · simp [Chg.enc, okChg, h1, h2]
  by_cases h3 : c.kind = 3
  · simp [Chg.enc, okChg, h1, h2, h3]
  by_cases h4 : c.kind = 4
  · simp [Chg.enc, okChg, h1, h2, h3, h4]
  simp [Chg.enc, okChg, h1, h2, h3, h4]
  omega

theorem c_spec_Safe (b : Bool) (l : List Chg) (h : l.length ≤ 2 ^ 50) : cw f_spec_Safe [.val b (.sl 3 (l.map Chg.enc))] [] = some (.lit (.bool (l.all okChg)), []) := by
  refine callW_run (by simp) fs_spec_Safe rfl rfl rfl ?_
  simp
  refine Mc.loop_ind (α := Nat) _ _ _ _ (fun i => I_spec_Safe_0 (.val b (.sl 3 (l.map Chg.enc))) (.lit (.int .i64 i)) []) (fun i => l.length - i) (fun i => i ≤ l.length ∧ (l.take i).all okChg = true) 0 _ (by simp) (by simp) ?_
  intro i ⟨hi, ha⟩ ih
  by_cases hl : i < l.length
  · have hw : IntKind.wrap .i64 ((i : Int) + 1) = (i : Int) + 1 := i64_wrap (by omega) (by omega)
    have hc := c_l1In l[i].kind 1 4
    simp only [cw] at hc
    cases ho : okChg l[i] with
    | true =>
      have ho' := ho
      simp only [okChg] at ho'
      simp [hl, Chg.enc, hc, ho', hw]
      refine ih (i + 1) _ (by simp) ⟨by omega, ?_⟩ (by omega)
      rw [List.take_succ_eq_append_getElem hl, List.all_append, ha]
      simp [ho]
    | false =>
      have ho' := ho
      simp only [okChg] at ho'
      simp [hl, Chg.enc, hc, ho', hw]
      exact ⟨l[i], List.getElem_mem hl, ho⟩
  · simp [hl]
    rw [List.take_of_length_le (by omega)] at ha
    simpa using ha

theorem c_toChangeS (b : Bool) (l : List Chg) (h : l.length ≤ 2 ^ 40) : cw f_laws_toChangeS [.val b (.sl 3 (l.map Chg.enc))] [] = some (.ov [.ow (.sl 3 (l.map Chg.enc))] false, []) := by
  refine callW_run (by simp) fs_laws_toChangeS rfl rfl rfl ?_
  simp [maxBytes]
  rw [if_pos (by omega)]
  simp
  refine Mc.loop_ind (α := Nat × List (List T)) _ _ _ _ (fun x => I_laws_toChangeS_0 (.val b (.sl 3 (l.map Chg.enc))) (.vw 88 [] 0 1 false) (.lit (.int .i64 x.1)) [(88, { cells := [.ow (.sl 3 x.2)], var := true })]) (fun x => l.length - x.1) (fun x => x.1 ≤ l.length ∧ x.2.length = l.length ∧ (∀ r ∈ x.2, r.length = 3) ∧ x.2.take x.1 = (l.take x.1).map Chg.enc) (0, List.replicate l.length [.lit (.int .i64 0), .lit (.int .i64 0), .lit (.int .i64 0)]) _ (by simp) (by simp) ?_
  intro ⟨i, rows⟩ ⟨hi, hn, h3, ha⟩ ih
  dsimp only at hi hn ha h3
  by_cases hl : i < l.length
  · have hc := c_toChange b l[i]
    simp only [cw, Chg.enc] at hc
    have hl' : i < rows.length := by omega
    have hr : rows[i].length = 3 := h3 _ (List.getElem_mem hl')
    have hd : List.drop 3 (List.map C.ow rows[i]) = [] := List.drop_eq_nil_of_le (by simp [hr])
    simp [hl, hl', Chg.enc, hc, wrap_add i (by omega), hr, hd]
    refine ih (i + 1, rows.set i l[i].enc) _ (by simp [Chg.enc]) ⟨by simp; omega, by simpa using hn, set_all h3 (by simp [Chg.enc]), ?_⟩ (by simp; omega)
    simp only [take_set _ _ _ hl', take_next _ _ hl, ha, List.map_append, List.map_cons, List.map_nil]
  · simp [hl]
    rw [List.take_of_length_le (by omega), List.take_of_length_le (by omega)] at ha
    rw [ha]

theorem c_IndexFunc_Change (b : Bool) (l : List Chg) (g : FuncId) (p : Chg → Bool) (hp : ∀ b c, cw g [.agg b c.enc] [] = some (.lit (.bool (p c)), [])) (h : l.length ≤ 2 ^ 50) :
    cw f_slices_IndexFunc_Limpl_Change_impl_Change [.val b (.sl 3 (l.map Chg.enc)), .fn g []] [] = some (.lit (.int .i64 (idxOf p l)), []) := by
  refine callW_run (by simp) fs_slices_IndexFunc_Limpl_Change_impl_Change rfl rfl rfl ?_
  simp
  refine Mc.loop_ind (α := Nat) _ _ _ _ (fun i => I_slices_IndexFunc_Limpl_Change_impl_Change_0 (.val b (.sl 3 (l.map Chg.enc))) (.fn g []) (.lit (.int .i64 l.length)) (.lit (.int .i64 i)) []) (fun i => l.length - i) (fun i => i ≤ l.length ∧ ∀ j (h : j < i) (h' : j < l.length), p l[j] = false) 0 _ (by simp) (by simp) ?_
  intro i ⟨hi, ha⟩ ih
  by_cases hl : i < l.length
  · have hc := hp b l[i]
    simp only [cw, Chg.enc] at hc
    cases ho : p l[i] with
    | true =>
      simp [hl, Chg.enc, hc, ho]
      exact (idxOf_at p l i hl ho ha).symm
    | false =>
      simp [hl, Chg.enc, hc, ho, wrap_add i (by omega)]
      refine ih (i + 1) _ (by simp) ⟨by omega, ?_⟩ (by omega)
      intro j h1 h2
      by_cases hj : j = i
      · subst hj; exact ho
      · exact ha j (by omega) h2
  · simp [hl]
    exact (idxOf_none p l fun j h => ha j (by omega) h).symm

theorem c_eqChange (b b' : Bool) (x y : Chg) : cw f_laws_eqChange [.agg b x.enc, .agg b' y.enc] [] = some (.lit (.bool (decide (x = y))), []) := by
  refine callW_run (by simp) fs_laws_eqChange rfl rfl rfl ?_
  obtain ⟨x1, x2, x3⟩ := x
  obtain ⟨y1, y2, y3⟩ := y
  by_cases h1 : x1 = y1 <;> by_cases h2 : x2 = y2 <;> by_cases h3 : x3 = y3 <;> simp [Chg.enc, h1, h2, h3]

theorem c_eqChangeS (b b' : Bool) (l k : List Chg) (h : l.length ≤ 2 ^ 50) : cw f_laws_eqChangeS [.val b (.sl 3 (l.map Chg.enc)), .val b' (.sl 3 (k.map Chg.enc))] [] = some (.lit (.bool (decide (l = k))), []) := by
  refine callW_run (by simp) fs_laws_eqChangeS rfl rfl rfl ?_
  by_cases hlen : l.length = k.length
  · simp [hlen]
    refine Mc.loop_ind (α := Nat) _ _ _ _ (fun i => I_laws_eqChangeS_0 (.val b (.sl 3 (l.map Chg.enc))) (.val b' (.sl 3 (k.map Chg.enc))) (.lit (.int .i64 i)) []) (fun i => l.length - i) (fun i => i ≤ l.length ∧ l.take i = k.take i) 0 _ (by simp) (by simp) ?_
    intro i ⟨hi, ha⟩ ih
    by_cases hl : i < l.length
    · have hc := c_eqChange b b' l[i] (k[i]'(by omega))
      have hl' : i < k.length := by omega
      simp only [cw, Chg.enc] at hc
      by_cases ho : l[i] = k[i]
      · simp [ho] at hc
        simp [hl, hl', Chg.enc, hc, ho, wrap_add i (by omega)]
        refine ⟨by kernel_rfl, ih (i + 1) _ (by simp) ⟨by omega, ?_⟩ (by omega)⟩
        rw [take_next l i hl, take_next k i hl', ha, ho]
      · simp [ho] at hc
        simp [hl, hl', Chg.enc, hc, ho]
        refine ⟨by kernel_rfl, ?_⟩
        intro e
        subst e
        exact ho rfl
    · simp [hl]
      rw [List.take_of_length_le (by omega), List.take_of_length_le (by omega)] at ha
      exact ha
  · simp [hlen]
    intro e
    subst e
    exact hlen rfl

theorem c_ContainsFunc_Change (b : Bool) (l : List Chg) (g : FuncId) (p : Chg → Bool) (hp : ∀ b c, cw g [.agg b c.enc] [] = some (.lit (.bool (p c)), [])) (h : l.length ≤ 2 ^ 50) :
    cw f_slices_ContainsFunc_Limpl_Change_impl_Change [.val b (.sl 3 (l.map Chg.enc)), .fn g []] [] = some (.lit (.bool (l.any p)), []) := by
  refine callW_run (by simp) fs_slices_ContainsFunc_Limpl_Change_impl_Change rfl rfl rfl ?_
  have hc := c_IndexFunc_Change b l g p hp h
  simp only [cw] at hc
  simp [hc, idxOf_any]

theorem c_impl_Safe (b : Bool) (l : List Chg) (h : l.length ≤ 2 ^ 50) : cw f_impl_Safe [.val b (.sl 3 (l.map Chg.enc))] [] = some (.lit (.bool (l.all okChg)), []) := by
  refine callW_run (by simp) fs_impl_Safe rfl rfl rfl ?_
  have hc := c_ContainsFunc_Change b l f_impl_SafeS1 (fun c => !okChg c) c_impl_SafeS1 h
  simp only [cw] at hc
  simp [hc]
  rw [← List.not_all_eq_any_not]

theorem c_law_Safe (l : List Chg) (h : l.length ≤ maxLen) : cw f_laws_FnExactSafe [.val false (.sl 3 (l.map Chg.enc))] [] = some (.lit (.bool true), []) := by
  refine callW_run (by simp) fs_laws_FnExactSafe rfl rfl rfl ?_
  have h1 := c_szChangeS false l (1048576) h (by omega) (by omega)
  simp only [cw] at h1
  by_cases hl : (1048576 : Int) - l.length < 0
  · simp [h1, hl]
  · have hb : l.length ≤ 2 ^ 40 := by omega
    have h2 := c_toChangeS false l hb
    have h3 := c_spec_Safe true l (by omega)
    have h4 := c_impl_Safe true l (by omega)
    have h5 := c_eqChangeS true true l l (by omega)
    simp only [cw] at h2 h3 h4 h5
    simp [h1, hl, h2, h3, h4, h5]

end Go.Proofs.Ytmkhdnpnjjdgfaa.Th
