/- Reading numbers; FnExactScan, FnExactMend: what their functions compute. -/
import Derived.Test.YtmkhdnpnjjdgfaaStream
set_option linter.unusedVariables false
set_option linter.unusedSimpArgs false
set_option maxRecDepth 10000
set_option maxHeartbeats 2000000
namespace Go.Proofs.Ytmkhdnpnjjdgfaa.Th
open Go Go.RowKit Go.Proofs.Ytmkhdnpnjjdgfaa.Ev Go.Proofs.Ytmkhdnpnjjdgfaa.Wire

theorem w64 (n : Int) : IntKind.wrap .i64 n = Go.RowKit.wrap64 n := by rw [IntKind.wrap_i64]; unfold Go.RowKit.wrap64; omega

/-- Three whole numbers, as a result. -/
def tri (x : Int × Int × Int) : V := .tup [.lit (.int .i64 x.1), .lit (.int .i64 x.2.1), .lit (.int .i64 x.2.2)]

theorem c_spec_l1In (a lo hi : Int) : cw f_spec_l1In [.lit (.int .i64 a), .lit (.int .i64 lo), .lit (.int .i64 hi)] [] = some (.lit (.bool (decide (lo ≤ a ∧ a ≤ hi))), []) := by
  refine callW_run (by simp) fs_spec_l1In rfl rfl rfl ?_
  by_cases h : lo ≤ a <;> simp [h]

theorem c_impl_within (a lo hi : Int) : cw f_impl_within [.lit (.int .i64 a), .lit (.int .i64 lo), .lit (.int .i64 hi)] [] = some (.lit (.bool (decide (lo ≤ a ∧ a ≤ hi))), []) := by
  refine callW_run (by simp) fs_impl_within rfl rfl rfl ?_
  by_cases h : lo ≤ a <;> simp [h]

theorem gvl_step (l : List Int) (a i : Nat) (u : Int) (hi : i < 10) : gvl l a (10 - i) u =
    if l.length ≤ a + i then (0, 0, 1) else if i = 9 ∧ 1 < l.getD (a + i) 0 then (0, 0, 2)
    else if l.getD (a + i) 0 < 128 then (Go.RowKit.wrap64 (u + l.getD (a + i) 0 % 128 * p7 i), ((a + i + 1 : Nat) : Int), 0)
    else gvl l a (10 - (i + 1)) (u + l.getD (a + i) 0 % 128 * p7 i) := by
  obtain ⟨n, hn⟩ : ∃ n, 10 - i = n + 1 := ⟨9 - i, by omega⟩
  have h1 : 9 - n = i := by omega
  have h2 : 10 - (i + 1) = n := by omega
  have h3 : (n = 0) = (i = 9) := by apply propext; omega
  rw [hn, h2, gvl, h1]
  simp only [h3]

theorem c_impl_GetVarint (b : Bool) (l : List Int) (hB : IsB l) (h : l.length ≤ 2 ^ 46) (a : Int) : cw f_impl_GetVarint [.val b (.sl 1 (l.map encB)), .lit (.int .i64 a)] [] = some (tri (getVarint l a), []) := by
  refine callW_run (by simp) fs_impl_GetVarint rfl rfl rfl ?_
  have h0 := c_impl_within a 0 l.length
  simp only [cw] at h0
  unfold getVarint
  by_cases ha : 0 ≤ a ∧ a ≤ l.length
  · obtain ⟨n, rfl⟩ := Int.eq_ofNat_of_zero_le ha.1
    rw [if_pos ha]
    simp only [decide_eq_true ha] at h0
    simp [h0]
    refine Mc.loop_ind (α := Nat × Int) _ _ _ _ (fun x => I_impl_GetVarint_0 (.val b (.sl 1 (l.map encB))) (.lit (.int .i64 n)) (.lit (.int .u64 x.2)) (.lit (.int .i64 x.1)) []) (fun x => 10 - x.1) (fun x => x.1 ≤ 10 ∧ 0 ≤ x.2 ∧ x.2 < p7 x.1 ∧ gvl l n (10 - x.1) x.2 = gvl l n 10 0) (0, 0) _ (by simp) (by simp; exact pow7_pos 0) ?_
    intro ⟨i, u⟩ ⟨hi, hu0, hu1, hg⟩ ih
    dsimp only at hi hu0 hu1 hg
    by_cases hl : i < 10
    · have hl' : (i : Int) < 10 := by omega
      rw [gvl_step l n i u hl] at hg
      have hw : IntKind.wrap .i64 ((n : Int) + i) = (n : Int) + i := i64_wrap (by omega) (by omega)
      by_cases hlen : l.length ≤ n + i
      · have hlen' : (l.length : Int) ≤ n + i := by omega
        rw [if_pos hlen] at hg
        simp [hl', hw, hlen', ← hg, tri]
      · have hlen' : ¬ (l.length : Int) ≤ n + i := by omega
        have hlt : n + i < l.length := by omega
        have hc := hB l[n + i] (List.getElem_mem hlt)
        have hd : l.getD (n + i) 0 = l[n + i] := by simp [hlt]
        rw [if_neg hlen, hd] at hg
        have hnn : ¬ ((n : Int) + i < 0) := by omega
        have hto : ((n : Int) + i).toNat = n + i := by omega
        have hw1 : IntKind.wrap .i64 ((n : Int) + i + 1) = (n : Int) + i + 1 := i64_wrap (by omega) (by omega)
        have hw7 : IntKind.wrap .i64 (7 * (i : Int)) = 7 * (i : Int) := i64_wrap (by omega) (by omega)
        have hn7 : ¬ (7 * (i : Int) < 0) := by omega
        generalize hcc : l[n + i] = c at hc hg
        by_cases h9 : i = 9 ∧ 1 < c
        · rw [if_pos h9] at hg
          have hi9 : ((i : Int) = 9) = True := by apply propext; simp; omega
          have hc1 := h9.2
          simp [hl', hw, hlen', hlt, hnn, hto, hcc, encB, hi9, ← hg, tri, hc1]
        · rw [if_neg h9] at hg
          have hs := step_or i (by omega) u c hu0 hu1 hc.1 hc.2 (by omega)
          obtain ⟨q0, q1, q2, q3⟩ := part_le i (by omega) c hc.1 hc.2 (by omega)
          rw [← w64, hw7] at hs
          by_cases h128 : c < 128
          · rw [if_pos h128, ← w64] at hg
            by_cases h99 : i = 9
            · have hi9 : ((i : Int) = 9) = True := by apply propext; simp; omega
              have hc1 : ¬ 1 < c := fun hh => h9 ⟨h99, hh⟩
              simp [hl', hw, hlen', hlt, hnn, hto, hcc, encB, hw7, hn7, hs, hw1, h128, hi9, hc1, ← hg, tri]
            · have hi9 : ((i : Int) = 9) = False := by apply propext; simp; omega
              simp [hl', hw, hlen', hlt, hnn, hto, hcc, encB, hw7, hn7, hs, hw1, h128, hi9, ← hg, tri]
          · rw [if_neg h128] at hg
            have fin := fun σ' hσ hu' => ih (i + 1, u + c % 128 * p7 i) σ' hσ ⟨by simp; omega, by simp; omega, hu', hg⟩ (by simp; omega)
            clear ih
            dsimp only at fin
            by_cases h99 : i = 9
            · omega
            · have hi9 : ((i : Int) = 9) = False := by apply propext; simp; omega
              have hlt2 : u + c % 128 * p7 i < p7 (i + 1) := by have := q2 (by omega); omega
              generalize u + c % 128 * p7 i = u' at hs fin hlt2
              simp [hl', hw, hlen', hlt, hnn, hto, hcc, encB, hw7, hn7, hs, hw1, h128, hi9, wrap_add i (by omega)]
              exact fin _ (by simp) hlt2
    · have : i = 10 := by omega
      subst this
      rw [show 10 - 10 = 0 from rfl, gvl] at hg
      simp [← hg, tri]
  · rw [if_neg ha]
    simp only [decide_eq_false ha] at h0
    simp [h0, tri]

theorem c_spec_GetVarint (b : Bool) (l : List Int) (hB : IsB l) (h : l.length ≤ 2 ^ 46) (a : Int) : cw f_spec_GetVarint [.val b (.sl 1 (l.map encB)), .lit (.int .i64 a)] [] = some (tri (getVarint l a), []) := by
  refine callW_run (by simp) fs_spec_GetVarint rfl rfl rfl ?_
  have h0 := c_spec_l1In a 0 l.length
  simp only [cw] at h0
  unfold getVarint
  by_cases ha : 0 ≤ a ∧ a ≤ l.length
  · obtain ⟨n, rfl⟩ := Int.eq_ofNat_of_zero_le ha.1
    rw [if_pos ha]
    simp only [decide_eq_true ha] at h0
    simp [h0]
    refine Mc.loop_ind (α := Nat × Int) _ _ _ _ (fun x => I_spec_GetVarint_0 (.val b (.sl 1 (l.map encB))) (.lit (.int .i64 n)) (.lit (.int .u64 x.2)) (.lit (.int .i64 x.1)) []) (fun x => 10 - x.1) (fun x => x.1 ≤ 10 ∧ 0 ≤ x.2 ∧ x.2 < p7 x.1 ∧ gvl l n (10 - x.1) x.2 = gvl l n 10 0) (0, 0) _ (by simp) (by simp; exact pow7_pos 0) ?_
    intro ⟨i, u⟩ ⟨hi, hu0, hu1, hg⟩ ih
    dsimp only at hi hu0 hu1 hg
    by_cases hl : i < 10
    · have hl' : (i : Int) < 10 := by omega
      rw [gvl_step l n i u hl] at hg
      have hw : IntKind.wrap .i64 ((n : Int) + i) = (n : Int) + i := i64_wrap (by omega) (by omega)
      by_cases hlen : l.length ≤ n + i
      · have hlen' : (l.length : Int) ≤ n + i := by omega
        rw [if_pos hlen] at hg
        simp [hl', hw, hlen', ← hg, tri]
      · have hlen' : ¬ (l.length : Int) ≤ n + i := by omega
        have hlt : n + i < l.length := by omega
        have hc := hB l[n + i] (List.getElem_mem hlt)
        have hd : l.getD (n + i) 0 = l[n + i] := by simp [hlt]
        rw [if_neg hlen, hd] at hg
        have hnn : ¬ ((n : Int) + i < 0) := by omega
        have hto : ((n : Int) + i).toNat = n + i := by omega
        have hw1 : IntKind.wrap .i64 ((n : Int) + i + 1) = (n : Int) + i + 1 := i64_wrap (by omega) (by omega)
        have hw7 : IntKind.wrap .i64 (7 * (i : Int)) = 7 * (i : Int) := i64_wrap (by omega) (by omega)
        have hn7 : ¬ (7 * (i : Int) < 0) := by omega
        generalize hcc : l[n + i] = c at hc hg
        by_cases h9 : i = 9 ∧ 1 < c
        · rw [if_pos h9] at hg
          have hi9 : ((i : Int) = 9) = True := by apply propext; simp; omega
          have hc1 := h9.2
          simp [hl', hw, hlen', hlt, hnn, hto, hcc, encB, hi9, ← hg, tri, hc1]
        · rw [if_neg h9] at hg
          have hs := step_add i (by omega) u c hu0 hu1 hc.1 hc.2 (by omega)
          obtain ⟨q0, q1, q2, q3⟩ := part_le i (by omega) c hc.1 hc.2 (by omega)
          have hw7u : IntKind.wrap .u64 (7 * (i : Int)) = 7 * (i : Int) := u64_id (by omega) (by omega)
          rw [← w64, hw7, hw7u] at hs
          by_cases h128 : c < 128
          · rw [if_pos h128, ← w64] at hg
            by_cases h99 : i = 9
            · have hi9 : ((i : Int) = 9) = True := by apply propext; simp; omega
              have hc1 : ¬ 1 < c := fun hh => h9 ⟨h99, hh⟩
              simp [hl', hw, hlen', hlt, hnn, hto, hcc, encB, hw7, hw7u, hn7, hs, hw1, h128, hi9, hc1, ← hg, tri]
            · have hi9 : ((i : Int) = 9) = False := by apply propext; simp; omega
              simp [hl', hw, hlen', hlt, hnn, hto, hcc, encB, hw7, hw7u, hn7, hs, hw1, h128, hi9, ← hg, tri]
          · rw [if_neg h128] at hg
            have fin := fun σ' hσ hu' => ih (i + 1, u + c % 128 * p7 i) σ' hσ ⟨by simp; omega, by simp; omega, hu', hg⟩ (by simp; omega)
            clear ih
            dsimp only at fin
            by_cases h99 : i = 9
            · omega
            · have hi9 : ((i : Int) = 9) = False := by apply propext; simp; omega
              have hlt2 : u + c % 128 * p7 i < p7 (i + 1) := by have := q2 (by omega); omega
              generalize u + c % 128 * p7 i = u' at hs fin hlt2
              simp [hl', hw, hlen', hlt, hnn, hto, hcc, encB, hw7, hw7u, hn7, hs, hw1, h128, hi9, wrap_add i (by omega)]
              exact fin _ (by simp) hlt2
    · have : i = 10 := by omega
      subst this
      rw [show 10 - 10 = 0 from rfl, gvl] at hg
      simp [← hg, tri]
  · rw [if_neg ha]
    simp only [decide_eq_false ha] at h0
    simp [h0, tri]

theorem c_impl_copyBytes (b : Bool) (l : List Int) (h : l.length ≤ 2 ^ 46) : cw f_impl_copyBytes [.val b (.sl 1 (l.map encB))] [] = some (.ov [.ow (.sl 1 (l.map encB))] false, []) := by
  refine callW_run (by simp) fs_impl_copyBytes rfl rfl rfl ?_
  have hm : l.length ≤ 140737488355328 := by omega
  simp [maxBytes, hm]

end Go.Proofs.Ytmkhdnpnjjdgfaa.Th
