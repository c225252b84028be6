/- IRs: is an Op right, its fields. -/
import Derived.Test.YtckojpaklblnpaaGreatDoorKG1
import Derived.Test.YtckojpaklblnpaaGreatDoorKIr9
set_option linter.unusedVariables false
set_option linter.unusedSimpArgs false
set_option maxRecDepth 10000
set_option maxHeartbeats 2000000
namespace Go.Proofs.YtckojpaklblnpaaGreatDoor.Th
open Go Go.RowKit Go.Proofs.YtckojpaklblnpaaGreatDoor.Ev
theorem l9OpOk_head (b b' : Bool) (ms : List ModT) (m : ModT) (i : Nat) (hi : i < m.ops.length) (h : m.ops.length ≤ 2 ^ 40) (hms : ms.length ≤ 2 ^ 40) (x : OpT) (hx : m.ops[i] = x) (hs : x.Small) (c : Code) (hc : some c = Tryz.f35.body.map (Code.drop 4)) (σ : F)
    (hσ : σ.keep (E.trim f_spec_l9OpOk 5) = J_spec_l9OpOk_5 (.lit (.int .i64 i)) (.ptr 88 [(0, 0)] 0) (.ptr 96 [(0, 0)] 0) (.ptr 120 [(0, 0)] 0) (.lit (.int .i64 (refsT ms x))) [(88, boxI b ms), (96, boxM b' m), (120, boxO b' x)]) : Mc.at ⟨E, callW E fs, f_spec_l9OpOk, Tryz.f35.results.toList, 0⟩ c [] σ = some (.lit (.bool (opOkB ms m.ops i x)), []) := by
  have f1 := c_spec_l5Num x.num
  have f2 := c_spec_l1In x.kind 1 17
  have f3 := c_spec_l1In x.ref 0 (refsT ms x - 1)
  have f4 := c_spec_l1In x.oneof 0 40
  have hrw : IntKind.wrap .i64 (refsT ms x - 1) = refsT ms x - 1 := by unfold refsT; split <;> exact i64_wrap (by omega) (by omega)
  have hr : (0 ≤ x.ref ∧ x.ref ≤ refsT ms x - 1) → x.kind = 16 → 0 ≤ x.ref ∧ x.ref < ms.length := by
    unfold refsT
    intro hh hk
    rw [if_pos hk] at hh
    omega
  simp only [cw] at f1 f2 f3 f4
  obtain rfl : c = _ := Option.some.inj (hc.trans rfl)
  simp only [Code.drop]
  refine cut1 _ fun c2 hc2 => ?_
  have T2 : (x.kind = 16 → 0 ≤ x.ref ∧ x.ref < ms.length) → ∀ σ : F, σ.keep (E.trim f_spec_l9OpOk 7) = J_spec_l9OpOk_7 (.lit (.int .i64 i)) (.ptr 88 [(0, 0)] 0) (.ptr 96 [(0, 0)] 0) (.ptr 120 [(0, 0)] 0) [(88, boxI b ms), (96, boxM b' m), (120, boxO b' x)] → Mc.at ⟨E, callW E fs, f_spec_l9OpOk, Tryz.f35.results.toList, 0⟩ c2 [] σ = some (.lit (.bool (tagB x && ((!x.quick || decide (wireT x.kind = 0)) && (inlineB ms x && runB m.ops i x)))), []) := fun hr σ hσ => l9OpOk_marks b b' ms m i hi h hms x hx hs hr c2 (by rw [hc2]; rfl) σ hσ
  clear hc2 hc
  rw [Mc.at_seq, Mc.at_seq]
  refine (at_drawn_of _ _ _ _ _ _ hσ).trans ?_
  clear hσ
  unfold opOkB
  generalize (tagB x && ((!x.quick || decide (wireT x.kind = 0)) && (inlineB ms x && runB m.ops i x))) = rest at T2 ⊢
  generalize refsT ms x = rt at f3 hrw hr ⊢
  generalize numOkB x.num = q1 at f1 ⊢
  generalize decide (1 ≤ x.kind ∧ x.kind ≤ 17) = q2 at f2 ⊢
  generalize decide (0 ≤ x.oneof ∧ x.oneof ≤ 40) = q4 at f4 ⊢
  cases q1 with
  | false =>
    simp (maxSteps := 3000000) [f1]
    exact .b (by kernel_rfl)
  | true =>
    by_cases hi0 : i = 0
    · subst hi0
      have hp : prevB m.ops x 0 = true := rfl
      cases q2 with
      | false =>
        simp (maxSteps := 3000000) [f1, hp, f2]
        exact .b (by kernel_rfl)
      | true =>
        by_cases q3 : 0 ≤ x.ref ∧ x.ref ≤ rt - 1
        rotate_left
        · rw [decide_eq_false q3] at f3 ⊢
          simp (maxSteps := 3000000) [f1, hp, f2, f3, hrw]
          exact .b (by kernel_rfl)
        have T2 := T2 (hr q3)
        rw [decide_eq_true q3] at f3 ⊢
        clear q3 hr
        cases q4 with
        | false =>
          simp (maxSteps := 3000000) [f1, hp, f2, f3, f4, hrw]
          exact .b (by kernel_rfl)
        | true =>
          cases q5 : x.rep with
          | false =>
            simp (maxSteps := 3000000) [f1, hp, f2, f3, f4, hrw, q5]
            exact ⟨.b (by kernel_rfl), T2 _ (by simp [q5])⟩
          | true =>
            by_cases q6 : x.oneof = 0
            · rw [q6] at f4
              simp (maxSteps := 3000000) [f1, hp, f2, f3, f4, hrw, q5, q6]
              exact ⟨.b (by kernel_rfl), T2 _ (by simp [q5, q6])⟩
            · have q6' : (x.oneof = 0) = False := eq_false q6
              simp (maxSteps := 3000000) [f1, hp, f2, f3, f4, hrw, q5, q6']
              exact .b (by kernel_rfl)
    · obtain ⟨j, rfl⟩ : ∃ j, i = j + 1 := ⟨i - 1, by omega⟩
      have hj : j < m.ops.length := by omega
      have hi1 : ((0 : Int) < (j : Int) + 1) = True := eq_true (by omega)
      have hi2 : IntKind.wrap .i64 (j : Int) = j := i64_wrap (by omega) (by omega)
      have hi3 : ¬ ((j : Int) < 0) := by omega
      by_cases hp0 : m.ops[j].num < x.num
      · have hp : prevB m.ops x (j + 1) = true := by simp [prevB, hj, hp0]
        have hp1 : ¬ x.num ≤ m.ops[j].num := by omega
        cases q2 with
        | false =>
          simp (maxSteps := 3000000) [f1, hp, hj, hi1, hi2, hi3, hp1, OpT.enc_eq, ModT.enc, f2]
          exact .b (by kernel_rfl)
        | true =>
          by_cases q3 : 0 ≤ x.ref ∧ x.ref ≤ rt - 1
          rotate_left
          · rw [decide_eq_false q3] at f3 ⊢
            simp (maxSteps := 3000000) [f1, hp, hj, hi1, hi2, hi3, hp1, OpT.enc_eq, ModT.enc, f2, f3, hrw]
            exact .b (by kernel_rfl)
          have T2 := T2 (hr q3)
          rw [decide_eq_true q3] at f3 ⊢
          clear q3 hr
          cases q4 with
          | false =>
            simp (maxSteps := 3000000) [f1, hp, hj, hi1, hi2, hi3, hp1, OpT.enc_eq, ModT.enc, f2, f3, f4, hrw]
            exact .b (by kernel_rfl)
          | true =>
            cases q5 : x.rep with
            | false =>
              simp (maxSteps := 3000000) [f1, hp, hj, hi1, hi2, hi3, hp1, OpT.enc_eq, ModT.enc, f2, f3, f4, hrw, q5]
              exact ⟨.b (by kernel_rfl), T2 _ (by simp [q5])⟩
            | true =>
              by_cases q6 : x.oneof = 0
              · rw [q6] at f4
                simp (maxSteps := 3000000) [f1, hp, hj, hi1, hi2, hi3, hp1, OpT.enc_eq, ModT.enc, f2, f3, f4, hrw, q5, q6]
                exact ⟨.b (by kernel_rfl), T2 _ (by simp [q5, q6])⟩
              · have q6' : (x.oneof = 0) = False := eq_false q6
                simp (maxSteps := 3000000) [f1, hp, hj, hi1, hi2, hi3, hp1, OpT.enc_eq, ModT.enc, f2, f3, f4, hrw, q5, q6']
                exact .b (by kernel_rfl)
      · have hp : prevB m.ops x (j + 1) = false := by simp [prevB, hj, hp0]
        have hp1 : x.num ≤ m.ops[j].num := by omega
        simp (maxSteps := 3000000) [f1, hp, hj, hi1, hi2, hi3, hp1, OpT.enc_eq, ModT.enc]
        exact .b (by kernel_rfl)
theorem c_spec_l9OpOk (b b' : Bool) (ms : List ModT) (m : ModT) (i : Nat) (hi : i < m.ops.length) (h : m.ops.length ≤ 2 ^ 40) (hms : ms.length ≤ 2 ^ 40) (hs : m.ops[i].Small) : cw f_spec_l9OpOk [.agg b (encM ms), .agg b' m.enc, .lit (.int .i64 i)] [] = some (.lit (.bool (opOkB ms m.ops i m.ops[i])), []) := by
  refine callW_run (by simp) fs_spec_l9OpOk rfl rfl rfl ?_
  generalize hx : m.ops[i] = x at hs ⊢
  refine cut4 _ fun c hc => ?_
  have T := l9OpOk_head b b' ms m i hi h hms x hx hs c (by rw [hc]; rfl)
  clear hc
  by_cases hk : x.kind = 16
  · have hk' : (x.kind = 16) = True := eq_true hk
    simp [OpT.enc_eq, encM, ModT.enc, hi, hx, hk']
    exact T _ (by simp [refsT, hk, OpT.enc_eq])
  · have hk' : (x.kind = 16) = False := eq_false hk
    simp [OpT.enc_eq, encM, ModT.enc, hi, hx, hk']
    exact T _ (by simp [refsT, hk, OpT.enc_eq])
end Go.Proofs.YtckojpaklblnpaaGreatDoor.Th
