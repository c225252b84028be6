/- IRs: is an Op right? -/
import Derived.Test.YtckojpaklblnpaaGreatDoorKG1
import Derived.Test.YtckojpaklblnpaaGreatDoorKIr8
set_option linter.unusedVariables false
set_option linter.unusedSimpArgs false
set_option maxRecDepth 10000
set_option maxHeartbeats 2000000
namespace Go.Proofs.YtckojpaklblnpaaGreatDoor.Th
open Go Go.RowKit Go.Proofs.YtckojpaklblnpaaGreatDoor.Ev
theorem c_spec_l1Same (b b' : Bool) (l k : List Int) (h : l.length ≤ 2 ^ 50) : cw f_spec_l1Same [.val b (.sl 1 (l.map encB)), .val b' (.sl 1 (k.map encB))] [] = some (.lit (.bool (decide (l = k))), []) := by
  refine callW_run (by simp) fs_spec_l1Same rfl rfl rfl ?_
  by_cases hlen : l.length = k.length
  · simp [hlen]
    refine Mc.loop_ind (α := Nat) _ _ _ _ (fun i => I_spec_l1Same_0 (.val b (.sl 1 (l.map encB))) (.val b' (.sl 1 (k.map encB))) (.lit (.int .i64 i)) []) (fun i => l.length - i) (fun i => i ≤ l.length ∧ l.take i = k.take i) 0 _ (by simp) (by simp) ?_
    intro i ⟨hi, ha⟩ ih
    by_cases hl : i < l.length
    · have hl' : i < k.length := by omega
      by_cases ho : l[i] = k[i]
      · skip
        simp [hl, hl', encB, ho, wrap_add i (by omega)]
        refine ⟨.b (by kernel_rfl), ih (i + 1) _ (by simp) ⟨by omega, ?_⟩ (by omega)⟩
        rw [take_next l i hl, take_next k i hl', ha, ho]
      · skip
        simp [hl, hl', encB, ho]
        refine ⟨.b (by kernel_rfl), ?_⟩
        intro e
        subst e
        exact ho rfl
    · simp [hl]
      rw [List.take_of_length_le (by omega), List.take_of_length_le (by omega)] at ha
      exact ha
  · simp [hlen]
    intro e
    subst e
    exact hlen rfl
def prevB (ops : List OpT) (x : OpT) : Nat → Bool
  | 0 => true
  | j + 1 => match ops[j]? with | some y => decide (y.num < x.num) | none => true
def refsT (ms : List ModT) (x : OpT) : Int := if x.kind = 16 then ms.length else 1
def runP (ops : List OpT) (i : Nat) (x : OpT) : Prop := (2 ≤ x.run ∧ x.run ≤ (ops.length : Int) - i) ∧ ∀ k : Nat, (k : Int) < x.run → ∀ (h : i + k < ops.length), blockB ops[i + k] = true ∧ (0 < k → ops[i + k].run = 0)
open Classical in
noncomputable def runB (ops : List OpT) (i : Nat) (x : OpT) : Bool := decide (x.run = 0) || decide (runP ops i x)
def tagB (x : OpT) : Bool := decide (x.tag = []) || decide (x.tag = tagT x)
noncomputable def opOkB (ms : List ModT) (ops : List OpT) (i : Nat) (x : OpT) : Bool :=
  numOkB x.num && (prevB ops x i && (decide (1 ≤ x.kind ∧ x.kind ≤ 17) && (decide (0 ≤ x.ref ∧ x.ref ≤ refsT ms x - 1) && (decide (0 ≤ x.oneof ∧ x.oneof ≤ 40) && ((!x.rep || decide (x.oneof = 0)) && (tagB x && ((!x.quick || decide (wireT x.kind = 0)) && (inlineB ms x && runB ops i x))))))))
theorem l9OpOk_run (b b' : Bool) (ms : List ModT) (m : ModT) (i : Nat) (hi : i < m.ops.length) (h : m.ops.length ≤ 2 ^ 40) (x : OpT) (hx : m.ops[i] = x) (c : Code) (hc : some c = Tryz.f35.body.map (Code.drop 6)) (σ : F)
    (hσ : σ.keep (E.trim f_spec_l9OpOk 9) = J_spec_l9OpOk_9 (.lit (.int .i64 i)) (.ptr 96 [(0, 0)] 0) (.ptr 120 [(0, 0)] 0) [(96, boxM b' m), (120, boxO b' x)]) : Mc.at ⟨E, callW E fs, f_spec_l9OpOk, Tryz.f35.results.toList, 0⟩ c [] σ = some (.lit (.bool (runB m.ops i x)), []) := by
  have f10 := c_spec_l1In x.run 2 ((m.ops.length : Int) - i)
  have hrw2 : IntKind.wrap .i64 ((m.ops.length : Int) - i) = (m.ops.length : Int) - i := i64_wrap (by omega) (by omega)
  simp only [cw] at f10
  obtain rfl : c = _ := Option.some.inj (hc.trans rfl)
  simp only [Code.drop]
  rw [Mc.at_seq, Mc.at_seq]
  refine (at_region_of _ _ _ _ _ _ hσ).trans ?_
  unfold runB
  by_cases h0 : x.run = 0
  · simp [h0]
  by_cases h1 : 2 ≤ x.run ∧ x.run ≤ (m.ops.length : Int) - i
  rotate_left
  · have hn : ¬ runP m.ops i x := fun hh => h1 hh.1
    rw [decide_eq_false h1] at f10
    simp [h0, hrw2, f10, hn, ModT.enc]
  rw [decide_eq_true h1] at f10
  simp [h0, hrw2, f10, ModT.enc]
  have no : ∀ k : Nat, (k : Int) < x.run → ∀ hk : i + k < m.ops.length, ¬ (blockB m.ops[i + k] = true ∧ (0 < k → m.ops[i + k].run = 0)) → ¬ runP m.ops i x := fun k hk hk2 hn hh => hn (hh.2 k hk hk2)
  refine Mc.loop_ind (α := Nat) _ _ _ _ (fun k => I_spec_l9OpOk_0 (.lit (.int .i64 i)) (.ptr 96 [(0, 0)] 0) (.ptr 120 [(0, 0)] 0) (.lit (.int .i64 k)) [(96, boxM b' m), (120, boxO b' x)]) (fun k => x.run.toNat - k) (fun k => (k : Int) ≤ x.run ∧ ∀ j : Nat, j < k → ∀ (h : i + j < m.ops.length), blockB m.ops[i + j] = true ∧ (0 < j → m.ops[i + j].run = 0)) 0 _ (by simp) ⟨by omega, by omega⟩ ?_
  intro k ⟨hk, ha⟩ ih
  by_cases hl : (k : Int) < x.run
  · have hl' : i + k < m.ops.length := by omega
    have hc := c_spec_l9Block b' m.ops[i + k]
    have hw : IntKind.wrap .i64 ((i : Int) + k) = (i : Int) + k := i64_wrap (by omega) (by omega)
    have hw0 : ((i : Int) + k < 0) = False := eq_false (by omega)
    have hw1 : ((i : Int) + k).toNat = i + k := by omega
    simp only [cw, OpT.enc_eq] at hc
    have no := no k hl hl'
    have next : blockB m.ops[i + k] = true ∧ (0 < k → m.ops[i + k].run = 0) → ∀ j : Nat, j < k + 1 → ∀ (h : i + j < m.ops.length), blockB m.ops[i + j] = true ∧ (0 < j → m.ops[i + j].run = 0) := by
      intro hh j h1 h2
      by_cases hj : j = k
      · subst hj; exact hh
      · exact ha j (by omega) h2
    cases hq : blockB m.ops[i + k] with
    | false =>
      have no := no (by simp [hq])
      rw [hq] at hc
      simp [hl, hl', hw, hw0, hw1, OpT.enc_eq, hc, ModT.enc, no]
    | true =>
      rw [hq] at hc
      by_cases hk0 : 0 < k
      · by_cases hr : m.ops[i + k].run = 0
        · rw [hr] at hc
          simp [hl, hl', hw, hw0, hw1, OpT.enc_eq, hc, ModT.enc, hk0, hr, wrap_add k (by omega)]
          exact ih (k + 1) _ (by simp) ⟨by omega, next ⟨hq, fun _ => hr⟩⟩ (by omega)
        · have no := no (by simp [hq, hk0, hr])
          simp [hl, hl', hw, hw0, hw1, OpT.enc_eq, hc, ModT.enc, hk0, hr, no]
      · simp [hl, hl', hw, hw0, hw1, OpT.enc_eq, hc, ModT.enc, hk0, wrap_add k (by omega)]
        exact ih (k + 1) _ (by simp) ⟨by omega, next ⟨hq, fun h => absurd h hk0⟩⟩ (by omega)
  · have hy : runP m.ops i x := ⟨h1, fun j hj h2 => ha j (by omega) h2⟩
    simp [hl, hy]
theorem l9OpOk_marks (b b' : Bool) (ms : List ModT) (m : ModT) (i : Nat) (hi : i < m.ops.length) (h : m.ops.length ≤ 2 ^ 40) (hms : ms.length ≤ 2 ^ 40) (x : OpT) (hx : m.ops[i] = x) (hs : x.Small) (hr : x.kind = 16 → 0 ≤ x.ref ∧ x.ref < ms.length) (c : Code) (hc : some c = Tryz.f35.body.map (Code.drop 5)) (σ : F)
    (hσ : σ.keep (E.trim f_spec_l9OpOk 7) = J_spec_l9OpOk_7 (.lit (.int .i64 i)) (.ptr 88 [(0, 0)] 0) (.ptr 96 [(0, 0)] 0) (.ptr 120 [(0, 0)] 0) [(88, boxI b ms), (96, boxM b' m), (120, boxO b' x)]) : Mc.at ⟨E, callW E fs, f_spec_l9OpOk, Tryz.f35.results.toList, 0⟩ c [] σ = some (.lit (.bool (tagB x && ((!x.quick || decide (wireT x.kind = 0)) && (inlineB ms x && runB m.ops i x)))), []) := by
  obtain ⟨hs1, hs2, hs3⟩ := hs.inv
  have f5 := c_spec_l9Wire b' x
  have f6 : cw f_spec_PutTag [.lit (.int .i64 x.num), .lit (.int .i64 (owire x))] [] = some (.ov [.ow (.sl 1 ((tagT x).map encB))] false, []) := c_spec_PutTag x.num (owire x)
  have f7 := c_spec_l1Same b' true x.tag (tagT x) (by omega)
  have f8 := c_spec_WireOf x.kind
  have f9 := c_spec_l9Inline b b' ms x hs2 hr
  simp only [cw, OpT.enc_eq, encM] at f5 f6 f7 f8 f9
  obtain rfl : c = _ := Option.some.inj (hc.trans rfl)
  simp only [Code.drop]
  refine cut1 _ fun c2 hc2 => ?_
  have T2 : ∀ σ : F, σ.keep (E.trim f_spec_l9OpOk 9) = J_spec_l9OpOk_9 (.lit (.int .i64 i)) (.ptr 96 [(0, 0)] 0) (.ptr 120 [(0, 0)] 0) [(96, boxM b' m), (120, boxO b' x)] → Mc.at ⟨E, callW E fs, f_spec_l9OpOk, Tryz.f35.results.toList, 0⟩ c2 [] σ = some (.lit (.bool (runB m.ops i x)), []) := fun σ hσ => l9OpOk_run b b' ms m i hi h x hx c2 (by rw [hc2]; rfl) σ hσ
  clear hc2 hc
  rw [Mc.at_seq, Mc.at_seq]
  refine (at_drawn_of _ _ _ _ _ _ hσ).trans ?_
  clear hσ
  unfold tagB
  generalize tagT x = pt at f6 f7 ⊢
  generalize owire x = ow at f5 f6 ⊢
  generalize wireT x.kind = wt at f8 ⊢
  generalize inlineB ms x = q9 at f9 ⊢
  generalize runB m.ops i x = rb at T2 ⊢
  by_cases t0 : x.tag = []
  · have hz : (0 < x.tag.length) = False := by rw [t0]; simp
    rw [decide_eq_true t0]
    clear t0 f7
    cases qq : x.quick with
    | false =>
      rw [qq] at f9
      cases q9 with
      | false =>
        simp (maxSteps := 3000000) [hz, qq, f9]
        exact .b (by kernel_rfl)
      | true =>
        simp (maxSteps := 3000000) [hz, qq, f9]
        exact ⟨.b (by kernel_rfl), T2 _ (by simp [qq])⟩
    | true =>
      rw [qq] at f9
      by_cases q8 : wt = 0
      · rw [q8] at f8
        cases q9 with
        | false =>
          simp (maxSteps := 3000000) [hz, qq, f8, q8, f9]
          exact .b (by kernel_rfl)
        | true =>
          simp (maxSteps := 3000000) [hz, qq, f8, q8, f9]
          exact ⟨.b (by kernel_rfl), T2 _ (by simp [qq])⟩
      · simp (maxSteps := 3000000) [hz, qq, f8, q8]
        exact .b (by kernel_rfl)
  · have hz : (0 < x.tag.length) = True := eq_true (List.length_pos_iff.mpr t0)
    rw [decide_eq_false t0]
    clear t0
    by_cases t1 : x.tag = pt
    · rw [decide_eq_true t1] at f7 ⊢
      clear t1
      cases qq : x.quick with
      | false =>
        rw [qq] at f5 f9
        cases q9 with
        | false =>
          simp (maxSteps := 3000000) [hz, f5, f6, f7, qq, f9]
          exact .b (by kernel_rfl)
        | true =>
          simp (maxSteps := 3000000) [hz, f5, f6, f7, qq, f9]
          exact ⟨.b (by kernel_rfl), T2 _ (by simp [qq])⟩
      | true =>
        rw [qq] at f5 f9
        by_cases q8 : wt = 0
        · rw [q8] at f8
          cases q9 with
          | false =>
            simp (maxSteps := 3000000) [hz, f5, f6, f7, qq, f8, q8, f9]
            exact .b (by kernel_rfl)
          | true =>
            simp (maxSteps := 3000000) [hz, f5, f6, f7, qq, f8, q8, f9]
            exact ⟨.b (by kernel_rfl), T2 _ (by simp [qq])⟩
        · simp (maxSteps := 3000000) [hz, f5, f6, f7, qq, f8, q8]
          exact .b (by kernel_rfl)
    · rw [decide_eq_false t1] at f7 ⊢
      simp (maxSteps := 3000000) [hz, f5, f6, f7]
      exact .b (by kernel_rfl)
end Go.Proofs.YtckojpaklblnpaaGreatDoor.Th
