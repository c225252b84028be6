/- FnExactScan, FnExactMend: the laws, by the evaluator. -/
import Derived.Test.YtmkhdnpnjjdgfaaScan3
set_option linter.unusedVariables false
set_option linter.unusedSimpArgs false
set_option maxRecDepth 10000
set_option maxHeartbeats 4000000
namespace Go.Proofs.Ytmkhdnpnjjdgfaa.Th
open Go Go.RowKit Go.Proofs.Ytmkhdnpnjjdgfaa.Ev Go.Proofs.Ytmkhdnpnjjdgfaa.Wire

theorem c_laws_eqByteSS_nil (b' : Bool) (k : List (List Int)) : cw f_laws_eqByteSS [.nils, .val b' (.sl 1 (k.map (encS 1 encB)))] [] = some (.lit (.bool (decide ([] = k))), []) := by
  refine callW_run (by simp) fs_laws_eqByteSS rfl rfl rfl ?_
  cases k with
  | nil => simp [Mc.at_loop]
  | cons a r =>
    have : ¬ ((0 : Int) = (r.length : Int) + 1) := by omega
    simp [this]

theorem scanF_ok (l : List Int) : ∀ (f a : Nat) (acc : List (List Int)), a ≤ l.length → (∀ x ∈ acc, x.length ≤ 5000) → (∀ x ∈ (scanF l f a acc).1, x.length ≤ 5000) ∧ (scanF l f a acc).1.length ≤ acc.length + f ∧ (scanF l f a acc).2.1 ≤ l.length
  | 0, a, acc, ha, h => ⟨h, by simp [scanF], by simpa [scanF] using ha⟩
  | f + 1, a, acc, ha, h => by
    rw [scanF]
    split
    · exact ⟨h, by dsimp only; omega, ha⟩
    · cases hs : stepS l a with
      | inl c => exact ⟨h, by dsimp only; omega, ha⟩
      | inr y =>
        obtain ⟨x, a'⟩ := y
        obtain ⟨t1, t2, t3, t4, t5⟩ := stepS_lt hs
        have := scanF_ok l f a' (acc ++ [x]) t2 (by
          intro y hy
          rcases List.mem_append.mp hy with hy | hy
          · exact h y hy
          · simp only [List.mem_singleton] at hy; subst hy; exact t3)
        refine ⟨this.1, ?_, this.2.2⟩
        have h2 := this.2.1
        simp only [List.length_append, List.length_singleton] at h2
        dsimp only
        omega

theorem scanT_ok (l : List Int) : (∀ x ∈ (scanT l).1, x.length ≤ 5000) ∧ (scanT l).1.length ≤ 60000 ∧ (scanT l).2.1 ≤ l.length := by
  unfold scanT
  split
  · simp
  · have := scanF_ok l l.length 0 [] (by omega) (by simp)
    refine ⟨this.1, ?_, this.2.2⟩
    have h2 := this.2.1
    simp only [List.length_nil] at h2
    omega

theorem sumI_bound : ∀ (ls : List (List Int)) (m : Nat), (∀ x ∈ ls, x.length ≤ m) → sumI (ls.map List.length) ≤ ls.length * m
  | [], m, _ => by simp [sumI]
  | x :: r, m, h => by
    have h1 := sumI_bound r m fun y hy => h y (by simp [hy])
    have h2 := h x (by simp)
    simp only [sumI, List.map_cons, List.sum_cons, List.length_cons] at h1 ⊢
    rw [show ((r.length + 1 : Nat) : Int) * (m : Int) = (r.length : Int) * m + m by rw [Int.natCast_add, Int.add_mul]; omega]
    omega

attribute [local simp] rowsToT_cB

theorem c_law_Scan (l : List Int) (hB : IsB l) (h : l.length ≤ maxLen) : cw f_laws_FnExactScan [.val false (.sl 1 (l.map encB))] [] = some (.lit (.bool true), []) := by
  refine callW_run (by simp) fs_laws_FnExactScan rfl rfl rfl ?_
  by_cases hp : 1048576 < l.length
  · have hp' : (1048576 : Int) < l.length := by omega
    simp [hp']
  · have hp' : ¬ (1048576 : Int) < l.length := by omega
    have h1 := c_laws_toByteS false l (by omega)
    have h2 := c_spec_Scan true l hB (by omega)
    have h3 := c_impl_Scan true l hB (by omega)
    obtain ⟨k1, k2, k3⟩ := scanT_ok l
    generalize scanT l = R at h2 h3 k1 k2 k3
    obtain ⟨rs, at_, code⟩ := R
    dsimp only at k1 k2 k3
    have hin : ∀ x ∈ rs, x.length ≤ 2 ^ 40 := fun x hx => Nat.le_trans (k1 x hx) (by decide)
    have hsum : sumI (rs.map List.length) ≤ 2 ^ 45 := by have := sumI_bound rs 5000 k1; omega
    have hnn := sumI_nn (rs.map List.length)
    have h4 := c_laws_eqByteSS true true rs rs (by omega) hin
    have h5 := c_laws_eqByteS true true l l (by omega)
    have h6 := c_laws_markByteS true l 1 (by omega) (by omega) (by omega)
    have h7 := c_laws_markByteSS true rs 1 (by omega) hin hsum (by omega) (by omega)
    have h8 := c_laws_heldByteSS true (rs.map List.length) 1 (by simp; omega) (by intro n hn; obtain ⟨x, hx, rfl⟩ := List.mem_map.mp hn; exact hin x hx) hsum (by omega) (by omega)
    have n4 := c_laws_eqByteSS_nil true []
    have n7 := c_laws_markByteSS_nil 1
    have n8 := c_laws_heldByteSS_nil 1
    simp only [cw, scanV] at h1 h2 h3 h4 h5 h6 h7 h8 n4 n7 n8
    have g1 : ¬ (1 + (l.length : Int) < 0) := by omega
    have g2 : ¬ (1 + sumI (rs.map List.length) < 0) := by omega
    by_cases hz : rs = []
    · subst hz
      simp at h2 h3 n4
      simp [hp', h1, h2, h3, h5, h6, n4, n7, n8, g1]
    · have hz' : rs.isEmpty = false := by cases rs with | nil => exact absurd rfl hz | cons _ _ => rfl
      simp only [hz', Bool.and_false, Bool.false_and, if_false, Bool.false_eq_true] at h2 h3
      rw [if_neg hz] at h7
      generalize sumI (rs.map List.length) = n at h7 h8 g2
      generalize marksS 1 (rs.map List.length) = ms at h7 h8
      simp [hp', h1, h2, h3, h4, h5, h6, h7, h8, g1, g2]

theorem c_spec_Mend (b : Bool) (l : List Int) (hB : IsB l) (h : l.length ≤ 2 ^ 40) : cw f_spec_Mend [.val b (.sl 1 (l.map encB))] [] = some (.ov [.ow (.sl 1 ((l.take (scanT l).2.1).map encB))] false, []) := by
  refine callW_run (by simp) fs_spec_Mend rfl rfl rfl ?_
  have h2 := c_spec_Scan b l hB h
  obtain ⟨k1, k2, k3⟩ := scanT_ok l
  generalize scanT l = R at h2 k1 k2 k3
  obtain ⟨rs, at_, code⟩ := R
  dsimp only at k3
  have hx' : List.take at_ (List.map encB l) = (l.take at_).map encB := by rw [List.map_take]
  have hxl : (l.take at_).length ≤ 140737488355328 := by simp only [List.length_take]; omega
  simp only [cw, scanV] at h2
  dsimp only
  generalize l.take at_ = x at hx' hxl
  simp at h2
  simp [h2, hx', maxBytes, hxl, k3]

theorem c_impl_Mend (b : Bool) (l : List Int) (hB : IsB l) (h : l.length ≤ 2 ^ 40) : cw f_impl_Mend [.val b (.sl 1 (l.map encB))] [] = some (.ov [.ow (.sl 1 ((l.take (scanT l).2.1).map encB))] false, []) := by
  refine callW_run (by simp) fs_impl_Mend rfl rfl rfl ?_
  have h2 := c_impl_Scan b l hB h
  obtain ⟨k1, k2, k3⟩ := scanT_ok l
  generalize scanT l = R at h2 k1 k2 k3
  obtain ⟨rs, at_, code⟩ := R
  dsimp only at k3
  have hx' : List.take at_ (List.map encB l) = (l.take at_).map encB := by rw [List.map_take]
  have h3 := c_impl_copyBytes b (l.take at_) (by simp only [List.length_take]; omega)
  simp only [cw, scanV] at h2 h3
  dsimp only
  generalize l.take at_ = x at hx' h3
  by_cases hz : rs = []
  · subst hz
    simp at h2
    simp [h2, hx', h3, k3]
  · have hz' : rs.isEmpty = false := by cases rs with | nil => exact absurd rfl hz | cons _ _ => rfl
    simp only [hz', Bool.and_false, if_false, Bool.false_eq_true] at h2
    simp [h2, hx', h3, k3]

theorem c_law_Mend (l : List Int) (hB : IsB l) (h : l.length ≤ maxLen) : cw f_laws_FnExactMend [.val false (.sl 1 (l.map encB))] [] = some (.lit (.bool true), []) := by
  refine callW_run (by simp) fs_laws_FnExactMend rfl rfl rfl ?_
  by_cases hp : 1048576 < l.length
  · have hp' : (1048576 : Int) < l.length := by omega
    simp [hp']
  · have hp' : ¬ (1048576 : Int) < l.length := by omega
    have h1 := c_laws_toByteS false l (by omega)
    have h2 := c_spec_Mend true l hB (by omega)
    have h3 := c_impl_Mend true l hB (by omega)
    have hr : (l.take (scanT l).2.1).length ≤ 2 ^ 40 := by simp only [List.length_take]; omega
    generalize l.take (scanT l).2.1 = s at h2 h3 hr
    have h4 := c_laws_eqByteS true true s s (by omega)
    have h5 := c_laws_eqByteS true true l l (by omega)
    have h6 := c_laws_markByteS true l 1 (by omega) (by omega) (by omega)
    have h7 := c_laws_markByteS true s 1 (by omega) (by omega) (by omega)
    have h8 := c_laws_heldByteS true s.length 1 (by omega) (by omega) (by omega)
    simp only [cw] at h1 h2 h3 h4 h5 h6 h7 h8
    have g1 : ¬ (1 + (l.length : Int) < 0) := by omega
    have g2 : ¬ (1 + (s.length : Int) < 0) := by omega
    simp [hp', h1, h2, h3, h4, h5, h6, h7, h8, g1, g2]

end Go.Proofs.Ytmkhdnpnjjdgfaa.Th
