/- IRs: numbers, wires, tags. -/
import Derived.Test.YtckojpaklblnpaaGreatDoorKG1
import Derived.Test.YtckojpaklblnpaaGreatDoorKG2
set_option linter.unusedVariables false
set_option linter.unusedSimpArgs false
set_option maxRecDepth 10000
set_option maxHeartbeats 2000000
namespace Go.Proofs.YtckojpaklblnpaaGreatDoor.Th
open Go Go.RowKit Go.Proofs.YtckojpaklblnpaaGreatDoor.Ev
open Go.Proofs.YtckojpaklblnpaaGreatDoor.Wire
def numOkB (n : Int) : Bool := decide (1 ≤ n ∧ n ≤ 536870911) && !decide (19000 ≤ n ∧ n ≤ 19999)
theorem c_spec_l5Num (n : Int) : cw f_spec_l5Num [.lit (.int .i64 n)] [] = some (.lit (.bool (numOkB n)), []) := by
  have h1 := c_spec_l1In n 1 536870911
  have h2 := c_spec_l1In n 19000 19999
  refine callW_run (by simp) fs_spec_l5Num rfl rfl rfl ?_
  simp only [cw] at h1 h2
  unfold numOkB
  generalize decide (1 ≤ n ∧ n ≤ 536870911) = a at h1 ⊢
  generalize decide (19000 ≤ n ∧ n ≤ 19999) = b at h2 ⊢
  cases a <;> simp [h1, h2]
theorem c_impl_numOk (n : Int) : cw f_impl_numOk [.lit (.int .i64 n)] [] = some (.lit (.bool (numOkB n)), []) := by
  have h1 := c_impl_within n 1 536870911
  have h2 := c_impl_within n 19000 19999
  refine callW_run (by simp) fs_impl_numOk rfl rfl rfl ?_
  simp only [cw] at h1 h2
  unfold numOkB
  generalize decide (1 ≤ n ∧ n ≤ 536870911) = a at h1 ⊢
  generalize decide (19000 ≤ n ∧ n ≤ 19999) = b at h2 ⊢
  cases a <;> simp [h1, h2]
def wireT (k : Int) : Int :=
  if k = 1 ∨ k = 2 ∨ k = 3 ∨ k = 4 ∨ k = 5 ∨ k = 6 ∨ k = 7 ∨ k = 17 then 0
  else if k = 8 ∨ k = 10 ∨ k = 12 then 5
  else if k = 9 ∨ k = 11 ∨ k = 13 then 1
  else if k = 14 ∨ k = 15 ∨ k = 16 then 2 else -1
theorem c_spec_WireOf (k : Int) : cw f_spec_WireOf [.lit (.int .i64 k)] [] = some (.lit (.int .i64 (wireT k)), []) := by
  refine callW_run (by simp) fs_spec_WireOf rfl rfl rfl ?_
  by_cases h1 : k = 1
  · simp [wireT, h1]
  by_cases h2 : k = 2
  · simp [wireT, h2]
  by_cases h3 : k = 3
  · simp [wireT, h3]
  by_cases h4 : k = 4
  · simp [wireT, h4]
  by_cases h5 : k = 5
  · simp [wireT, h5]
  by_cases h6 : k = 6
  · simp [wireT, h6]
  by_cases h7 : k = 7
  · simp [wireT, h7]
  by_cases h17 : k = 17
  · simp [wireT, h17]
  by_cases h8 : k = 8
  · simp [wireT, h8]
  by_cases h10 : k = 10
  · simp [wireT, h10]
  by_cases h12 : k = 12
  · simp [wireT, h12]
  by_cases h9 : k = 9
  · simp [wireT, h9]
  by_cases h11 : k = 11
  · simp [wireT, h11]
  by_cases h13 : k = 13
  · simp [wireT, h13]
  by_cases h14 : k = 14
  · simp [wireT, h14]
  by_cases h15 : k = 15
  · simp [wireT, h15]
  by_cases h16 : k = 16
  · simp [wireT, h16]
  simp [wireT, h1, h2, h3, h4, h5, h6, h7, h17, h8, h10, h12, h9, h11, h13, h14, h15, h16]
theorem c_impl_WireOf (k : Int) : cw f_impl_WireOf [.lit (.int .i64 k)] [] = some (.lit (.int .i64 (wireT k)), []) := by
  refine callW_run (by simp) fs_impl_WireOf rfl rfl rfl ?_
  by_cases h1 : k = 1
  · simp [wireT, h1]
  by_cases h2 : k = 2
  · simp [wireT, h2]
  by_cases h3 : k = 3
  · simp [wireT, h3]
  by_cases h4 : k = 4
  · simp [wireT, h4]
  by_cases h5 : k = 5
  · simp [wireT, h5]
  by_cases h6 : k = 6
  · simp [wireT, h6]
  by_cases h7 : k = 7
  · simp [wireT, h7]
  by_cases h17 : k = 17
  · simp [wireT, h17]
  by_cases h8 : k = 8
  · simp [wireT, h8]
  by_cases h10 : k = 10
  · simp [wireT, h10]
  by_cases h12 : k = 12
  · simp [wireT, h12]
  by_cases h9 : k = 9
  · simp [wireT, h9]
  by_cases h11 : k = 11
  · simp [wireT, h11]
  by_cases h13 : k = 13
  · simp [wireT, h13]
  by_cases h14 : k = 14
  · simp [wireT, h14]
  by_cases h15 : k = 15
  · simp [wireT, h15]
  by_cases h16 : k = 16
  · simp [wireT, h16]
  simp [wireT, h1, h2, h3, h4, h5, h6, h7, h17, h8, h10, h12, h9, h11, h13, h14, h15, h16]
def owire (x : OpT) : Int := if x.rep = true ∧ wireT x.kind ≠ 2 then 2 else wireT x.kind
def putTag (n w : Int) : List Int := if (1 ≤ n ∧ n ≤ 536870911) ∧ (w = 0 ∨ w = 1 ∨ w = 2 ∨ w = 5) then varint (8 * n + w).toNat else []
theorem c_spec_l1Wire (w : Int) : cw f_spec_l1Wire [.lit (.int .i64 w)] [] = some (.lit (.bool (decide (w = 0 ∨ w = 1 ∨ w = 2 ∨ w = 5))), []) := by
  refine callW_run (by simp) fs_spec_l1Wire rfl rfl rfl ?_
  by_cases h0 : w = 0
  · simp [h0]
  by_cases h1 : w = 1
  · simp [h0, h1]
  by_cases h2 : w = 2
  · simp [h0, h1, h2]
  by_cases h5 : w = 5 <;> simp [h0, h1, h2, h5]
theorem c_spec_PutTag (n w : Int) : cw f_spec_PutTag [.lit (.int .i64 n), .lit (.int .i64 w)] [] = some (.ov [.ow (.sl 1 ((putTag n w).map encB))] false, []) := by
  have h1 := c_spec_l1In n 1 536870911
  have h2 := c_spec_l1Wire w
  refine callW_run (by simp) fs_spec_PutTag rfl rfl rfl ?_
  simp only [cw] at h1 h2
  unfold putTag
  by_cases hn : 1 ≤ n ∧ n ≤ 536870911
  · by_cases hw : w = 0 ∨ w = 1 ∨ w = 2 ∨ w = 5
    · obtain ⟨u, hu⟩ : ∃ u : Nat, 8 * n + w = (u : Int) := ⟨(8 * n + w).toNat, by omega⟩
      have h3 := c_spec_PutVarint u (by omega)
      have w1 : IntKind.wrap .i64 (n * 8) = n * 8 := i64_wrap (by omega) (by omega)
      have w2 : IntKind.wrap .i64 (n * 8 + w) = (u : Int) := by rw [i64_wrap (by omega) (by omega)]; omega
      simp only [cw] at h3
      rw [if_pos ⟨hn, hw⟩, hu, Int.toNat_natCast]
      rw [decide_eq_true hn] at h1
      rw [decide_eq_true hw] at h2
      simp [h1, h2, w1, w2, h3]
    · rw [if_neg (fun h => hw h.2)]
      rw [decide_eq_true hn] at h1
      rw [decide_eq_false hw] at h2
      simp [h1, h2]
  · rw [if_neg (fun h => hn h.1)]
    rw [decide_eq_false hn] at h1
    simp [h1]
theorem c_impl_PutTag (n w : Int) : cw f_impl_PutTag [.lit (.int .i64 n), .lit (.int .i64 w)] [] = some (if putTag n w = [] then .nils else .ov [.ow (.sl 1 ((putTag n w).map encB))] false, []) := by
  have h1 := c_impl_within n 1 536870911
  refine callW_run (by simp) fs_impl_PutTag rfl rfl rfl ?_
  simp only [cw] at h1
  by_cases hn : 1 ≤ n ∧ n ≤ 536870911
  · by_cases hw : w = 0 ∨ w = 1 ∨ w = 2 ∨ w = 5
    · obtain ⟨u, hu⟩ : ∃ u : Nat, 8 * n + w = (u : Int) := ⟨(8 * n + w).toNat, by omega⟩
      have h3 := c_impl_PutVarint u (by omega)
      have w1 : IntKind.wrap .i64 (8 * n) = 8 * n := i64_wrap (by omega) (by omega)
      have w2 : IntKind.wrap .i64 (8 * n + w) = (u : Int) := by rw [i64_wrap (by omega) (by omega)]; omega
      have hne : varint u ≠ [] := by unfold varint; split <;> simp
      have hp : putTag n w = varint u := by unfold putTag; rw [if_pos ⟨hn, hw⟩, hu, Int.toNat_natCast]
      simp only [cw] at h3
      rw [hp, if_neg hne]
      rw [decide_eq_true hn] at h1
      generalize varint u = vu at h3
      clear hp hne
      by_cases e0 : w = 0
      · have e0' := eq_true e0
        clear e0
        simp [h1, w1, w2, h3, e0']
      by_cases e1 : w = 1
      · have e1' := eq_true e1
        clear e1
        simp [h1, w1, w2, h3, e0, e1']
      by_cases e2 : w = 2
      · have e2' := eq_true e2
        clear e2
        simp [h1, w1, w2, h3, e0, e1, e2']
      have e5' : (w = 5) = True := eq_true (by omega)
      simp [h1, w1, w2, h3, e0, e1, e2, e5']
    · have hp : putTag n w = [] := by unfold putTag; rw [if_neg (fun h => hw h.2)]
      rw [hp, if_pos rfl]
      rw [decide_eq_true hn] at h1
      have e0 : ¬ w = 0 := by omega
      have e1 : ¬ w = 1 := by omega
      have e2 : ¬ w = 2 := by omega
      have e5 : ¬ w = 5 := by omega
      simp [h1, e0, e1, e2, e5]
  · have hp : putTag n w = [] := by unfold putTag; rw [if_neg (fun h => hn h.1)]
    rw [hp, if_pos rfl]
    rw [decide_eq_false hn] at h1
    simp [h1]
theorem c_spec_l9Wire (b : Bool) (x : OpT) : cw f_spec_l9Wire [.agg b x.enc] [] = some (.lit (.int .i64 (owire x)), []) := by
  have h1 := c_spec_WireOf x.kind
  refine callW_run (by simp) fs_spec_l9Wire rfl rfl rfl ?_
  simp only [cw] at h1
  unfold owire
  simp only [OpT.enc_eq]
  generalize wireT x.kind = w at h1 ⊢
  cases hr : x.rep with
  | false => simp [h1]
  | true => by_cases hw : w = 2 <;> simp [h1, hw]
theorem c_impl_isPacked (k : Int) (r : Bool) : cw f_impl_isPacked [.lit (.int .i64 k), .lit (.bool r)] [] = some (.lit (.bool (r && !decide (wireT k = 2))), []) := by
  have h1 := c_impl_WireOf k
  refine callW_run (by simp) fs_impl_isPacked rfl rfl rfl ?_
  simp only [cw] at h1
  generalize wireT k = w at h1 ⊢
  cases r <;> by_cases hw : w = 2 <;> simp [h1, hw]
def tagT (x : OpT) : List Int := putTag x.num (owire x)
theorem c_impl_tagOf (b : Bool) (x : OpT) : cw f_impl_tagOf [.agg b x.enc] [] = some (if tagT x = [] then .nils else .ov [.ow (.sl 1 ((tagT x).map encB))] false, []) := by
  have h1 := c_impl_WireOf x.kind
  have h2 := c_impl_isPacked x.kind x.rep
  have h3 := c_impl_PutTag x.num 2
  have h4 := c_impl_PutTag x.num (wireT x.kind)
  refine callW_run (by simp) fs_impl_tagOf rfl rfl rfl ?_
  simp only [cw] at h1 h2 h3 h4
  unfold tagT owire
  simp only [OpT.enc_eq]
  generalize wireT x.kind = w at h1 h2 h4 ⊢
  by_cases hp : x.rep = true ∧ w ≠ 2
  · have hp' : (x.rep && !decide (w = 2)) = true := by simp [hp.1, hp.2]
    rw [hp'] at h2
    rw [if_pos hp]
    generalize putTag x.num 2 = t at h3 ⊢
    by_cases ht : t = [] <;> simp [ht] at h3 <;> simp [h2, h3, ht]
  · have hp' : (x.rep && !decide (w = 2)) = false := by
      cases hr : x.rep <;> simp [hr] at hp ⊢
      exact hp
    rw [hp'] at h2
    rw [if_neg hp]
    generalize putTag x.num w = t at h4 ⊢
    by_cases ht : t = []
    · simp [ht] at h4
      simp [h1, h2, h4, ht]
      exact .b (by kernel_rfl)
    · simp [ht] at h4
      simp [h1, h2, h4, ht]
      exact .b (by kernel_rfl)
end Go.Proofs.YtckojpaklblnpaaGreatDoor.Th
