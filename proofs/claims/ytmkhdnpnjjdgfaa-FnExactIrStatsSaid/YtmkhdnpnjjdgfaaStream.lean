/- FnExactPutStream: what its functions compute. -/
import Derived.Test.YtmkhdnpnjjdgfaaBytesS
import Derived.Test.YtmkhdnpnjjdgfaaRecord
set_option linter.unusedVariables false
set_option linter.unusedSimpArgs false
set_option maxRecDepth 10000
set_option maxHeartbeats 2000000
namespace Go.Proofs.Ytmkhdnpnjjdgfaa.Th
open Go Go.RowKit Go.Proofs.Ytmkhdnpnjjdgfaa.Ev Go.Proofs.Ytmkhdnpnjjdgfaa.Wire

theorem record_le (x : List Int) (h : x.length ≤ 5000) : (record x).length ≤ 5014 := by
  unfold record
  rw [if_neg (by omega)]
  have := varint_short x.length (by omega)
  simp [fixedN_len]
  omega

theorem record_pos (x : List Int) (h : x.length ≤ 5000) : 0 < (record x).length := by
  unfold record
  rw [if_neg (by omega)]
  simp [fixedN_len]
  omega

/-- The records of the first of some slices. -/
def pre (ls : List (List Int)) (i : Nat) : List Int := ((ls.take i).map record).flatten
theorem pre_zero (ls : List (List Int)) : pre ls 0 = [] := by simp [pre]
theorem pre_succ (ls : List (List Int)) (i : Nat) (h : i < ls.length) : pre ls (i + 1) = pre ls i ++ record ls[i] := by
  unfold pre; rw [take_next ls i h, List.map_append, List.flatten_append, List.map_singleton, List.flatten_singleton]
theorem pre_all (ls : List (List Int)) (i : Nat) (h : ls.length ≤ i) : pre ls i = (ls.map record).flatten := by unfold pre; rw [List.take_of_length_le h]
theorem pre_le (ls : List (List Int)) (i : Nat) : (pre ls i).length ≤ (ls.map record).flatten.length := by
  unfold pre
  conv => rhs; rw [← List.take_append_drop i ls]
  rw [List.map_append, List.flatten_append, List.length_append]; omega

/-- A stream. -/
def streamOf (ls : List (List Int)) : List Int := if (∀ x ∈ ls, x.length ≤ 5000) ∧ (ls.map record).flatten.length ≤ 60000 then (ls.map record).flatten else []

theorem c_spec_PutStream (b : Bool) (ls : List (List Int)) (hB : ∀ x ∈ ls, IsB x) (h : ls.length ≤ 2 ^ 40) (hin : ∀ x ∈ ls, x.length ≤ 2 ^ 40) : cw f_spec_PutStream [.val b (.sl 1 (ls.map (encS 1 encB)))] [] = some (.ov [.ow (.sl 1 ((streamOf ls).map encB))] false, []) := by
  refine callW_run (by simp) fs_spec_PutStream rfl rfl rfl ?_
  simp
  refine Mc.loop_ind (α := Nat) _ _ _ _ (fun i => I_spec_PutStream_0 (.val b (.sl 1 (ls.map (encS 1 encB)))) (.vw 88 [] 0 1 false) (.lit (.int .i64 i)) [(88, { cells := [.ow (.sl 1 ((pre ls i).map encB))], var := true })]) (fun i => ls.length - i) (fun i => i ≤ ls.length ∧ (∀ x ∈ ls.take i, x.length ≤ 5000) ∧ (pre ls i).length ≤ 60000) 0 _ (by simp [pre_zero]) (by simp [pre_zero]) ?_
  intro i ⟨hi, ha, hp⟩ ih
  by_cases hl : i < ls.length
  · by_cases hb : 5000 < ls[i].length
    · have hb' : (5000 : Int) < ls[i].length := by omega
      have hz : streamOf ls = [] := if_neg fun hh => by have := hh.1 _ (List.getElem_mem hl); omega
      simp [hl, encS, hb', hz]
    · have hb' : ¬ (5000 : Int) < ls[i].length := by omega
      have hc := c_spec_PutRecord b ls[i] (hB _ (List.getElem_mem hl)) (hin _ (List.getElem_mem hl))
      simp only [cw] at hc
      have hr := record_le ls[i] (by omega)
      have hps := pre_succ ls i hl
      have hple := pre_le ls (i + 1)
      have hm : (pre ls i).length + (record ls[i]).length ≤ 140737488355328 := by omega
      by_cases hg : 60000 < (pre ls i).length + (record ls[i]).length
      · have hz : streamOf ls = [] := if_neg fun hh => by rw [hps, List.length_append] at hple; omega
        have hg' : (60000 : Int) < (pre ls i).length + (record ls[i]).length := by omega
        simp [hl, encS, hb', hc, maxBytes, hm, hg, hg', hz]
      · have hg' : ¬ (60000 : Int) < (pre ls i).length + (record ls[i]).length := by omega
        simp [hl, encS, hb', hc, maxBytes, hm, hg, hg', wrap_add i (by omega)]
        refine ih (i + 1) _ (by simp [hps]) ⟨by omega, ?_, by rw [hps, List.length_append]; omega⟩ (by omega)
        intro x hx
        rw [take_next ls i hl] at hx
        rcases List.mem_append.mp hx with hx | hx
        · exact ha x hx
        · simp only [List.mem_singleton] at hx; subst hx; omega
  · rw [List.take_of_length_le (by omega)] at ha
    have hz : streamOf ls = pre ls i := by
      unfold streamOf
      rw [if_pos ⟨ha, by rw [← pre_all ls i (by omega)]; exact hp⟩, pre_all ls i (by omega)]
    simp [hl, hz]

theorem c_impl_PutStream (b : Bool) (ls : List (List Int)) (hB : ∀ x ∈ ls, IsB x) (h : ls.length ≤ 2 ^ 30) (hin : ∀ x ∈ ls, x.length ≤ 2 ^ 40) : cw f_impl_PutStream [.val b (.sl 1 (ls.map (encS 1 encB)))] [] = some (if streamOf ls = [] then .nils else .ov [.ow (.sl 1 ((streamOf ls).map encB))] false, []) := by
  refine callW_run (by simp) fs_impl_PutStream rfl rfl rfl ?_
  simp
  refine Mc.loop_ind (α := Nat) _ _ _ _ (fun i => I_impl_PutStream_0 (if pre ls i = [] then .nils else .vw 88 [] 0 1 false) (.val b (.sl 1 (ls.map (encS 1 encB)))) (.lit (.int .i64 ls.length)) (.lit (.int .i64 i)) (if pre ls i = [] then [] else [(88, { cells := [.ow (.sl 1 ((pre ls i).map encB))], var := true })])) (fun i => ls.length - i) (fun i => i ≤ ls.length ∧ (∀ x ∈ ls.take i, x.length ≤ 5000) ∧ (pre ls i).length ≤ i * 5014) 0 _ (by simp [pre_zero]) (by simp [pre_zero]) ?_
  intro i ⟨hi, ha, hp⟩ ih
  by_cases hl : i < ls.length
  · by_cases hb : 5000 < ls[i].length
    · have hb' : (5000 : Int) < ls[i].length := by omega
      have hz : streamOf ls = [] := if_neg fun hh => by have := hh.1 _ (List.getElem_mem hl); omega
      simp [hl, encS, hb', hz]
    · have hb' : ¬ (5000 : Int) < ls[i].length := by omega
      have hc := c_impl_PutRecord b ls[i] (hB _ (List.getElem_mem hl)) (hin _ (List.getElem_mem hl))
      simp only [cw, gt_iff_lt, if_neg hb] at hc
      have hr := record_le ls[i] (by omega)
      have hr0 := record_pos ls[i] (by omega)
      have hps := pre_succ ls i hl
      have hm : (pre ls i).length + (record ls[i]).length ≤ 140737488355328 := by omega
      have hm' : (record ls[i]).length ≤ 140737488355328 := by omega
      have hne : pre ls (i + 1) ≠ [] := by rw [hps]; intro e; have := congrArg List.length e; rw [List.length_append, List.length_nil] at this; omega
      have fin : ∀ x ∈ ls.take (i + 1), x.length ≤ 5000 := by
        intro x hx
        rw [take_next ls i hl] at hx
        rcases List.mem_append.mp hx with hx | hx
        · exact ha x hx
        · simp only [List.mem_singleton] at hx; subst hx; omega
      have fin2 : (pre ls (i + 1)).length ≤ (i + 1) * 5014 := by rw [hps, List.length_append]; omega
      by_cases h0 : pre ls i = []
      · rw [h0, List.nil_append] at hps
        simp [hl, encS, hb', hc, maxBytes, hm', h0, wrap_add i (by omega)]
        exact ih (i + 1) _ (by simp [hne]; rw [hps]) ⟨by omega, fin, fin2⟩ (by omega)
      · simp [hl, encS, hb', hc, maxBytes, hm, h0, wrap_add i (by omega)]
        exact ih (i + 1) _ (by simp [hne]; rw [hps]; simp) ⟨by omega, fin, fin2⟩ (by omega)
  · rw [List.take_of_length_le (by omega)] at ha
    have hpa := pre_all ls i (by omega)
    by_cases hg : 60000 < (pre ls i).length
    · have hg' : (60000 : Int) < (pre ls i).length := by omega
      have hz : streamOf ls = [] := if_neg fun hh => by rw [← hpa] at hh; omega
      have h0 : ¬ pre ls i = [] := by intro e; rw [e] at hg; simp at hg
      simp [hl, hz, hg', h0]
    · have hg' : ¬ (60000 : Int) < (pre ls i).length := by omega
      have hz : streamOf ls = pre ls i := by
        unfold streamOf
        rw [if_pos ⟨ha, by rw [← hpa]; omega⟩, hpa]
      by_cases h0 : pre ls i = []
      · simp [hl, hz, h0]
      · simp [hl, hz, hg', h0]

theorem streamOf_le (ls : List (List Int)) : (streamOf ls).length ≤ 60000 := by
  unfold streamOf
  split
  · rename_i h; exact h.2
  · simp

theorem szSS_ok {ls : List (List Int)} {r : Int} (hr : (if (1048576 : Int) - ls.length < 0 then -1 else szL szF ls (1048576 - ls.length)) = r) (h : ¬ r < 0) : ls.length ≤ 1048576 ∧ (∀ x ∈ ls, x.length ≤ 1048576) ∧ sumI (ls.map List.length) ≤ 1048576 := by
  by_cases hh : (1048576 : Int) - ls.length < 0
  · rw [if_pos hh] at hr; omega
  · rw [if_neg hh] at hr
    refine ⟨by omega, ?_, ?_⟩
    · intro x hx
      have := szL_all (f := szF) (p := fun (a : List Int) k => (a.length : Int) ≤ k) (fun a k => by unfold szF; split <;> omega) (fun a k hk => by unfold szF at hk; split at hk <;> omega) (fun a k k' h1 h2 => by omega) ls (1048576 - ls.length) (by omega) x hx
      omega
    · have key : ∀ (l : List (List Int)) (k : Int), 0 ≤ k → 0 ≤ szL szF l k → sumI (l.map List.length) ≤ k := by
        intro l
        induction l with
        | nil => intro k h0 _; simpa [sumI] using h0
        | cons x r ih =>
          intro k h0 h1
          rw [szL] at h1
          split at h1
          · omega
          · rename_i hn
            have h2 := ih _ (by omega) h1
            have h3 : szF x k = k - x.length := by
              unfold szF at hn ⊢
              by_cases h4 : k - (x.length : Int) < 0
              · rw [if_pos h4] at hn; omega
              · rw [if_neg h4]
            rw [h3] at h2
            simp only [sumI, List.map_cons, List.sum_cons] at h2 ⊢
            omega
      have := key ls (1048576 - ls.length) (by omega) (by rw [hr]; omega)
      omega

theorem c_law_PutStream (ls : List (List Int)) (h : ls.length ≤ maxLen) (hin : ∀ x ∈ ls, x.length ≤ maxLen) (hB : ∀ x ∈ ls, IsB x) : cw f_laws_FnExactPutStream [.val false (.sl 1 (ls.map (encS 1 encB)))] [] = some (.lit (.bool true), []) := by
  refine callW_run (by simp) fs_laws_FnExactPutStream rfl rfl rfl ?_
  have h0 := c_laws_szByteSS false ls (1048576) h (by omega) (by omega) hin
  simp only [cw] at h0
  generalize hr : (if (1048576 : Int) - ls.length < 0 then -1 else szL szF ls (1048576 - ls.length)) = r at h0
  by_cases hl : r < 0
  · simp [h0, hl]
  · obtain ⟨hb1, hb2, hb3⟩ := szSS_ok hr hl
    have hin' : ∀ x ∈ ls, x.length ≤ 2 ^ 40 := fun x hx => Nat.le_trans (hb2 x hx) (by decide)
    have h1 := c_laws_toByteSS false ls (by omega) hin'
    have h2 := c_spec_PutStream true ls hB (by omega) hin'
    have h3 := c_impl_PutStream true ls hB (by omega) hin'
    have h4 := streamOf_le ls
    generalize streamOf ls = s at h2 h3 h4
    have h5 := c_laws_eqByteS true true s s (by omega)
    have h6 := c_laws_eqByteSS true true ls ls (by omega) hin'
    have h7 := c_laws_markByteSS true ls 1 (by omega) hin' (by omega) (by omega) (by omega)
    have h8 := c_laws_markByteS true s 1 (by omega) (by omega) (by omega)
    have h9 := c_laws_heldByteS true s.length 1 (by omega) (by omega) (by omega)
    have n5 := c_laws_eqByteS_nil true []
    have n8 := c_laws_markByteS_nil 1
    have n9 := c_laws_heldByteS_nil 1
    simp only [cw] at h1 h2 h3 h5 h6 h7 h8 h9 n5 n8 n9
    have hnn := sumI_nn (ls.map List.length)
    have g1 : ¬ (1 + sumI (ls.map List.length) < 0) := by omega
    have g2 : ¬ (1 + (s.length : Int) < 0) := by omega
    generalize sumI (ls.map List.length) = n at h7 g1
    generalize (if ls = [] then C.ow (.sl 1 []) else .own 1 ((marksS 1 (ls.map List.length)).map cB)) = cc at h7
    by_cases hz : s = []
    · subst hz
      simp only [if_true] at h3
      simp at h2 n5
      simp [h0, hl, h1, h2, h3, h6, h7, n5, n8, n9, g1]
    · simp only [if_neg hz] at h3
      simp [h0, hl, h1, h2, h3, h5, h6, h7, h8, h9, g1, g2]

end Go.Proofs.Ytmkhdnpnjjdgfaa.Th
