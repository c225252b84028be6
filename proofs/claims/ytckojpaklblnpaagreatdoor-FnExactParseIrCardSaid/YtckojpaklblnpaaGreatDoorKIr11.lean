/- IRs: opsOk. -/
import Derived.Test.YtckojpaklblnpaaGreatDoorKG1
import Derived.Test.YtckojpaklblnpaaGreatDoorKIr10
set_option linter.unusedVariables false
set_option linter.unusedSimpArgs false
set_option maxRecDepth 10000
set_option maxHeartbeats 2000000
namespace Go.Proofs.YtckojpaklblnpaaGreatDoor.Th
open Go Go.RowKit Go.Proofs.YtckojpaklblnpaaGreatDoor.Ev
def fineB (ms : List ModT) (ops : List OpT) (i : Nat) (x : OpT) : Bool := prevB ops x i && (numOkB x.num && (decide (1 ≤ x.kind ∧ x.kind ≤ 17) && (decide (0 ≤ x.oneof) && ((!x.rep || decide (x.oneof = 0)) && decide (0 ≤ x.ref ∧ x.ref ≤ refsT ms x - 1)))))
def endB (ops : List OpT) : Bool := decide (ops.length ≤ 40) && (decide (most ops ≤ ops.length) && oneofsB ops)
def allFine (ms : List ModT) (ops : List OpT) : Prop := ∀ i (h : i < ops.length), fineB ms ops i ops[i] = true
open Classical in
noncomputable def opsOkB (ms : List ModT) (ops : List OpT) : Bool := decide (allFine ms ops) && endB ops
def isOne (k : Int) (x : OpT) : Bool := decide (x.oneof = k)
theorem c_impl_opsOkS1 (b : Bool) (x : OpT) (i : Int) : cw f_impl_opsOkS1 [.agg b x.enc, .ptr 0 [(0, 0)] 0] [{ cells := [.own 1 [[.ow (.lit (.int .i64 i))]]], box := true }] = some (.lit (.bool (isOne i x)), [some { cells := [.own 1 [[.ow (.lit (.int .i64 i))]]], box := true }]) := by
  refine callW_run (by simp) fs_impl_opsOkS1 rfl rfl rfl ?_
  simp [OpT.enc_eq, isOne]
theorem most_nonneg (l : List OpT) : 0 ≤ most l := by
  have key : ∀ (l : List OpT) (k : Int), 0 ≤ k → 0 ≤ l.foldl mostF k := by
    intro l
    induction l with
    | nil => intro k hk; exact hk
    | cons x r ih => intro k hk; exact ih _ (by unfold mostF; split <;> omega)
  exact key _ 0 (by omega)
theorem opsOk_end (b' : Bool) (ops : List OpT) (h : ops.length ≤ 2 ^ 40) (c : Code) (hc : some c = Tryz.f87.body.map (Code.drop 3)) (σ : F)
    (hσ : σ.keep (E.trim f_impl_opsOk 11) = J_impl_opsOk_11 (.val b' (.sl 9 (ops.map OpT.enc))) (.lit (.int .i64 (most ops))) []) : Mc.at ⟨E, callW E fs, f_impl_opsOk, Tryz.f87.results.toList, 0⟩ c [] σ = some (.lit (.bool (endB ops)), []) := by
  obtain rfl : c = _ := Option.some.inj (hc.trans rfl)
  simp only [Code.drop]
  rw [Mc.at_seq, Mc.at_seq]
  refine (at_region_of _ _ _ _ _ _ hσ).trans ?_
  have h0 := most_nonneg ops
  unfold endB oneofsB
  generalize most ops = mo at h0 ⊢
  by_cases h1 : ops.length ≤ 40
  rotate_left
  · have h1' : (40 : Int) < ops.length := by omega
    simp [h1, h1']
  have h1' : ¬ (40 : Int) < ops.length := by omega
  by_cases h2 : mo ≤ ops.length
  rotate_left
  · have h2' : (ops.length : Int) < mo := by omega
    simp [h1, h1', h2, h2']
  have h2' : ¬ (ops.length : Int) < mo := by omega
  obtain ⟨N, rfl⟩ := Int.eq_ofNat_of_zero_le h0
  have hNN : N ≤ ops.length := by omega
  rw [Int.toNat_natCast]
  have hNN' : ¬ ops.length < N := by omega
  simp [h1, h1', hNN, hNN']
  refine Mc.loop_ind (α := Nat) _ _ _ _ (fun n => I_impl_opsOk_1 (.val b' (.sl 9 (ops.map OpT.enc))) (.lit (.int .i64 N)) (.ptr 128 [(0, 0)] 0) [(128, { cells := [.own 1 [[.ow (.lit (.int .i64 ((n : Int) + 1)))]]], box := true })]) (fun n => N - n) (fun n => n ≤ N ∧ ∀ j, j < n → (ops.any (isOne ((j : Int) + 1))) = true) 0 _ (by simp) ⟨by omega, fun j hj => by omega⟩ ?_
  intro n ⟨hn, ha⟩ ih
  by_cases hl : n < N
  · have hl' : (n : Int) + 1 ≤ N := by omega
    have hc := c_slices_ContainsFunc_Limpl_Op_impl_Op b' ops f_impl_opsOkS1 1 [.ow (.lit (.int .i64 ((n : Int) + 1)))] (isOne ((n : Int) + 1)) (fun b x _ => c_impl_opsOkS1 b x _) (by omega)
    have hw : IntKind.wrap .i64 ((n : Int) + 1 + 1) = (n : Int) + 1 + 1 := i64_wrap (by omega) (by omega)
    simp only [cw] at hc
    cases hq : ops.any (isOne ((n : Int) + 1)) with
    | false =>
      rw [hq] at hc
      simp [hl', hc]
      refine ⟨n, hl, ?_⟩
      simpa [isOne] using hq
    | true =>
      rw [hq] at hc
      simp [hl', hc, hw]
      refine ih (n + 1) _ (by simp) ⟨by omega, fun j hj => ?_⟩ (by omega)
      by_cases hj' : j = n
      · subst hj'; exact hq
      · exact ha j (by omega)
  · have hl' : ¬ (n : Int) + 1 ≤ N := by omega
    have : n = N := by omega
    subst this
    simp [hl']
    intro j hj
    have := ha j hj
    simpa [isOne] using this
theorem most_take (l : List OpT) (i : Nat) (h : i < l.length) : most (l.take (i + 1)) = mostF (most (l.take i)) l[i] := by
  unfold most
  rw [take_next l i h, List.foldl_append]
  rfl
open Classical in
theorem opsOk_bad (ms : List ModT) (ops : List OpT) (i : Nat) (h : i < ops.length) (hf : fineB ms ops i ops[i] = false) : opsOkB ms ops = false := by
  have hn : ¬ allFine ms ops := fun hh => by rw [hh i h] at hf; exact absurd hf (by decide)
  unfold opsOkB
  rw [decide_eq_false hn]
  rfl
open Classical in
theorem c_impl_opsOk (b b' : Bool) (ms : List ModT) (ops : List OpT) (h : ops.length ≤ 2 ^ 40) (hms : ms.length ≤ 2 ^ 40) : cw f_impl_opsOk [.agg b (encM ms), .val b' (.sl 9 (ops.map OpT.enc))] [] = some (.lit (.bool (opsOkB ms ops)), []) := by
  refine callW_run (by simp) fs_impl_opsOk rfl rfl rfl ?_
  refine cut3 _ fun c hc => ?_
  have T := opsOk_end b' ops h c (by rw [hc]; rfl)
  clear hc
  simp [encM]
  refine Mc.loop_ind (α := Nat) _ _ _ _ (fun i => I_impl_opsOk_0 (.val b' (.sl 9 (ops.map OpT.enc))) (.ptr 80 [(0, 0)] 0) (.lit (.int .i64 (most (ops.take i)))) (.val b' (.sl 9 (ops.map OpT.enc))) (.lit (.int .i64 ops.length)) (.lit (.int .i64 i)) [(80, boxI b ms)]) (fun i => ops.length - i) (fun i => i ≤ ops.length ∧ ∀ j (h : j < i) (h' : j < ops.length), fineB ms ops j ops[j] = true) 0 _ (by simp [most]) (by simp) ?_
  intro i ⟨hi, ha⟩ ih
  by_cases hl : i < ops.length
  rotate_left
  · have hall : allFine ms ops := fun j hj => ha j (by omega) hj
    have e1 : opsOkB ms ops = endB ops := by unfold opsOkB; rw [decide_eq_true hall]; rfl
    rw [List.take_of_length_le (by omega), e1]
    have hi2 : i = ops.length := by omega
    simp [hl]
    exact T _ (by simp)
  clear T
  have no := opsOk_bad ms ops i hl
  have ih' := fun hf : fineB ms ops i ops[i] = true => fun σ' hσ' => ih (i + 1) σ' hσ' ⟨by omega, fun j h1 h2 => by
    by_cases hj : j = i
    · subst hj; exact hf
    · exact ha j (by omega) h2⟩ (by omega)
  clear ih
  rw [most_take ops i hl] at ih'
  refine cut2 _ fun c hc => ?_
  generalize hx : ops[i] = x at no ih'
  simp [hl]
  subst hc
  rw [Mc.at_seq, Mc.at_block]
  refine cutK _ fun K hK => ?_
  have hret : ∀ σ, Mc.ret ⟨E, callW E fs, f_impl_opsOk, [ResultVar.tmp 4], 0⟩ .ret K σ = Mc.ret ⟨E, callW E fs, f_impl_opsOk, [ResultVar.tmp 4], 0⟩ .ret [] σ := by subst hK; intro σ; simp
  have hnx : fineB ms ops i x = true → ∀ σ, σ.keep (E.trim f_impl_opsOk 10) = J_impl_opsOk_10 (.val b' (.sl 9 (ops.map OpT.enc))) (.ptr 80 [(0, 0)] 0) (.lit (.int .i64 (mostF (most (ops.take i)) x))) (.val b' (.sl 9 (ops.map OpT.enc))) (.lit (.int .i64 ops.length)) (.lit (.int .i64 i)) [(80, boxI b ms)] → Mc.ret ⟨E, callW E fs, f_impl_opsOk, [ResultVar.tmp 4], 0⟩ .normal K σ = some (.lit (.bool (opsOkB ms ops)), []) := by
    intro hf σ hσ
    subst hK
    rw [Mc.normal_blk, Mc.normal_seq]
    refine (at_region_of _ _ _ _ _ _ hσ).trans ?_
    simp [wrap_add i (by omega)]
    exact ih' hf _ (by simp)
  clear ih' hK
  generalize opsOkB ms ops = res at no hnx ⊢
  refine cut2 _ fun c hc => ?_
  have f3 := c_impl_within x.ref 0 ((ms.length : Int) - 1)
  have hrw : IntKind.wrap .i64 ((ms.length : Int) - 1) = (ms.length : Int) - 1 := i64_wrap (by omega) (by omega)
  have f1 := c_impl_numOk x.num
  have f2 := c_impl_within x.kind 1 17
  simp only [cw] at f1 f2 f3
  have T7 : (decide (0 ≤ x.ref ∧ x.ref ≤ refsT ms x - 1) = false → res = false) → (decide (0 ≤ x.ref ∧ x.ref ≤ refsT ms x - 1) = true → (∀ σ, σ.keep (E.trim f_impl_opsOk 10) = J_impl_opsOk_10 (.val b' (.sl 9 (ops.map OpT.enc))) (.ptr 80 [(0, 0)] 0) (.lit (.int .i64 (mostF (most (ops.take i)) x))) (.val b' (.sl 9 (ops.map OpT.enc))) (.lit (.int .i64 ops.length)) (.lit (.int .i64 i)) [(80, boxI b ms)] → Mc.ret ⟨E, callW E fs, f_impl_opsOk, [ResultVar.tmp 4], 0⟩ .normal K σ = some (.lit (.bool res), []))) → ∀ σ, σ.keep (E.trim f_impl_opsOk 7) = J_impl_opsOk_7 (.val b' (.sl 9 (ops.map OpT.enc))) (.ptr 80 [(0, 0)] 0) (.lit (.int .i64 (most (ops.take i)))) (.ptr 120 [(0, 0)] 0) (.val b' (.sl 9 (ops.map OpT.enc))) (.lit (.int .i64 ops.length)) (.lit (.int .i64 i)) [(80, boxI b ms), (120, boxO b' x)] → Mc.at ⟨E, callW E fs, f_impl_opsOk, [ResultVar.tmp 4], 0⟩ c K σ = some (.lit (.bool res), []) := by
    intro n1 y1 σ hσ
    subst hc
    refine cut1 _ fun c9 hc9 => ?_
    have T9 : (∀ σ, σ.keep (E.trim f_impl_opsOk 10) = J_impl_opsOk_10 (.val b' (.sl 9 (ops.map OpT.enc))) (.ptr 80 [(0, 0)] 0) (.lit (.int .i64 (mostF (most (ops.take i)) x))) (.val b' (.sl 9 (ops.map OpT.enc))) (.lit (.int .i64 ops.length)) (.lit (.int .i64 i)) [(80, boxI b ms)] → Mc.ret ⟨E, callW E fs, f_impl_opsOk, [ResultVar.tmp 4], 0⟩ .normal K σ = some (.lit (.bool res), [])) → ∀ σ, σ.keep (E.trim f_impl_opsOk 9) = J_impl_opsOk_9 (.val b' (.sl 9 (ops.map OpT.enc))) (.ptr 80 [(0, 0)] 0) (.lit (.int .i64 (most (ops.take i)))) (.ptr 120 [(0, 0)] 0) (.val b' (.sl 9 (ops.map OpT.enc))) (.lit (.int .i64 ops.length)) (.lit (.int .i64 i)) [(80, boxI b ms), (120, boxO b' x)] → Mc.at ⟨E, callW E fs, f_impl_opsOk, [ResultVar.tmp 4], 0⟩ c9 K σ = some (.lit (.bool res), []) := by
      intro hN σ hσ
      subst hc9
      refine (at_region_of _ _ _ _ _ _ hσ).trans ?_
      generalize most (ops.take i) = mo at hN ⊢
      simp
      exact hN _ (by simp [mostF])
    clear hc9
    rw [Mc.at_seq, Mc.at_seq]
    refine (at_region_of _ _ _ _ _ _ hσ).trans ?_
    clear hσ hnx no
    by_cases hk : x.kind = 16
    · have hk' : (x.kind = 16) = True := eq_true hk
      have e : refsT ms x = ms.length := by unfold refsT; rw [if_pos hk]
      rw [e] at n1 y1
      by_cases q6 : 0 ≤ x.ref ∧ x.ref ≤ (ms.length : Int) - 1
      · rw [decide_eq_true q6] at f3 y1
        simp [hk', f3, hrw]
        exact T9 (y1 rfl) _ (by simp)
      · rw [decide_eq_false q6] at f3 n1
        simp [hk', f3, hrw, n1, hret]
    · have hk' : (x.kind = 16) = False := eq_false hk
      have e : refsT ms x = 1 := by unfold refsT; rw [if_neg hk]
      rw [e] at n1 y1
      by_cases q6 : x.ref = 0
      · have y1 := y1 (by simp [q6])
        simp [hk', q6]
        exact T9 y1 _ (by simp [q6])
      · have n1 := n1 (by simp; omega)
        simp [hk', q6, n1, hret]
  clear hc f3 hrw
  unfold fineB at no hnx
  generalize decide (0 ≤ x.ref ∧ x.ref ≤ refsT ms x - 1) = q6 at no hnx T7
  generalize numOkB x.num = q1 at f1 no hnx
  generalize decide (1 ≤ x.kind ∧ x.kind ≤ 17) = q2 at f2 no hnx
  refine cut1 _ fun c5 hc5 => ?_
  simp [hl, hx, OpT.enc_eq]
  subst hc5
  rw [Mc.at_seq, Mc.at_seq]
  by_cases hi0 : i = 0
  · subst hi0
    have hp : prevB ops x 0 = true := rfl
    cases q1 with
    | false =>
      simp (maxSteps := 3000000) [hp, f1, hret, no]
      exact .b (by kernel_rfl)
    | true =>
      cases q2 with
      | false =>
        simp (maxSteps := 3000000) [hp, f1, f2, hret, no]
        exact .b (by kernel_rfl)
      | true =>
        by_cases q3 : 0 ≤ x.oneof
        rotate_left
        · have q3' : x.oneof < 0 := by omega
          simp (maxSteps := 3000000) [hp, f1, f2, q3, q3', hret, no]
          exact .b (by kernel_rfl)
        have q3' : ¬ x.oneof < 0 := by omega
        cases q5 : x.rep with
        | false =>
          rw [q5] at no hnx
          simp (maxSteps := 3000000) [hp, f1, f2, q3', q5]
          exact ⟨.b (by kernel_rfl), T7 (fun h => no (by simp [h, q3, q5, hp])) (fun h => hnx (by simp [h, q3, q5, hp])) _ (by simp [q5])⟩
        | true =>
          rw [q5] at no hnx
          by_cases q6 : x.oneof = 0
          · rw [q6] at no hnx
            simp (maxSteps := 3000000) [hp, f1, f2, q5, q6]
            exact ⟨.b (by kernel_rfl), T7 (fun h => no (by simp [h, q5, q6, hp])) (fun h => hnx (by simp [h, q5, q6, hp])) _ (by simp [q5, q6])⟩
          · have q6' : (x.oneof = 0) = False := eq_false q6
            simp (maxSteps := 3000000) [hp, f1, f2, q3', q5, q6', hret, no]
            exact .b (by kernel_rfl)
  · obtain ⟨j, rfl⟩ : ∃ j, i = j + 1 := ⟨i - 1, by omega⟩
    have hj : j < ops.length := by omega
    have hi1 : ((0 : Int) < (j : Int) + 1) = True := eq_true (by omega)
    have hi2 : IntKind.wrap .i64 (j : Int) = j := i64_wrap (by omega) (by omega)
    have hi3 : ¬ ((j : Int) < 0) := by omega
    by_cases hp0 : ops[j].num < x.num
    · have hp : prevB ops x (j + 1) = true := by simp [prevB, hj, hp0]
      have hp1 : ¬ x.num ≤ ops[j].num := by omega
      cases q1 with
      | false =>
        simp (maxSteps := 3000000) [hp, hj, hi1, hi2, hi3, hp1, OpT.enc_eq, f1, hret, no]
        exact .b (by kernel_rfl)
      | true =>
        cases q2 with
        | false =>
          simp (maxSteps := 3000000) [hp, hj, hi1, hi2, hi3, hp1, OpT.enc_eq, f1, f2, hret, no]
          exact .b (by kernel_rfl)
        | true =>
          by_cases q3 : 0 ≤ x.oneof
          rotate_left
          · have q3' : x.oneof < 0 := by omega
            simp (maxSteps := 3000000) [hp, hj, hi1, hi2, hi3, hp1, OpT.enc_eq, f1, f2, q3, q3', hret, no]
            exact .b (by kernel_rfl)
          have q3' : ¬ x.oneof < 0 := by omega
          cases q5 : x.rep with
          | false =>
            rw [q5] at no hnx
            simp (maxSteps := 3000000) [hp, hj, hi1, hi2, hi3, hp1, OpT.enc_eq, f1, f2, q3', q5]
            exact ⟨.b (by kernel_rfl), T7 (fun h => no (by simp [h, q3, q5, hp])) (fun h => hnx (by simp [h, q3, q5, hp])) _ (by simp [q5])⟩
          | true =>
            rw [q5] at no hnx
            by_cases q6 : x.oneof = 0
            · rw [q6] at no hnx
              simp (maxSteps := 3000000) [hp, hj, hi1, hi2, hi3, hp1, OpT.enc_eq, f1, f2, q5, q6]
              exact ⟨.b (by kernel_rfl), T7 (fun h => no (by simp [h, q5, q6, hp])) (fun h => hnx (by simp [h, q5, q6, hp])) _ (by simp [q5, q6])⟩
            · have q6' : (x.oneof = 0) = False := eq_false q6
              simp (maxSteps := 3000000) [hp, hj, hi1, hi2, hi3, hp1, OpT.enc_eq, f1, f2, q3', q5, q6', hret, no]
              exact .b (by kernel_rfl)
    · have hp : prevB ops x (j + 1) = false := by simp [prevB, hj, hp0]
      have hp1 : x.num ≤ ops[j].num := by omega
      simp (maxSteps := 3000000) [hp, hj, hi1, hi2, hi3, hp1, OpT.enc_eq, hret, no]
      exact .b (by kernel_rfl)
end Go.Proofs.YtckojpaklblnpaaGreatDoor.Th
