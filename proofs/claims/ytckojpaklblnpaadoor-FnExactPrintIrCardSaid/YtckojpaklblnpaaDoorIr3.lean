/- IRs: are two the same? -/
import Derived.Test.YtckojpaklblnpaaDoorComm
import Derived.Test.YtckojpaklblnpaaDoorIr
set_option linter.unusedVariables false
set_option linter.unusedSimpArgs false
set_option maxRecDepth 10000
set_option maxHeartbeats 2000000
namespace Go.Proofs.YtckojpaklblnpaaDoor.Th
open Go Go.RowKit Go.Proofs.YtckojpaklblnpaaDoor.Ev

theorem c_laws_eqOpS' (b b' : Bool) (l k : List OpT) (h : l.length ≤ 2 ^ 50) (hin : ∀ x ∈ l, ∀ y, cw f_laws_eqOp [.agg b x.enc, .agg b' y.enc] [] = some (.lit (.bool (decide (x = y))), [])) : cw f_laws_eqOpS [.val b (.sl 9 (l.map OpT.enc)), .val b' (.sl 9 (k.map OpT.enc))] [] = some (.lit (.bool (decide (l = k))), []) := by
  refine callW_run (by simp) fs_laws_eqOpS rfl rfl rfl ?_
  by_cases hlen : l.length = k.length
  · simp [hlen]
    refine Mc.loop_ind (α := Nat) _ _ _ _ (fun i => I_laws_eqOpS_0 (.val b (.sl 9 (l.map OpT.enc))) (.val b' (.sl 9 (k.map OpT.enc))) (.lit (.int .i64 i)) []) (fun i => l.length - i) (fun i => i ≤ l.length ∧ l.take i = k.take i) 0 _ (by simp) (by simp) ?_
    intro i ⟨hi, ha⟩ ih
    by_cases hl : i < l.length
    · have hl' : i < k.length := by omega
      have hc := hin l[i] (List.getElem_mem hl) k[i]
      simp only [cw, OpT.enc_eq] at hc
      by_cases ho : l[i] = k[i]
      · skip
        simp [ho] at hc
        simp [hl, hl', OpT.enc_eq, hc, ho, wrap_add i (by omega)]
        refine ⟨.b (by kernel_rfl), ih (i + 1) _ (by simp) ⟨by omega, ?_⟩ (by omega)⟩
        rw [take_next l i hl, take_next k i hl', ha, ho]
      · skip
        simp [ho] at hc
        simp [hl, hl', OpT.enc_eq, hc, ho]
        refine ⟨.b (by kernel_rfl), ?_⟩
        intro e
        subst e
        exact ho rfl
    · simp [hl]
      rw [List.take_of_length_le (by omega), List.take_of_length_le (by omega)] at ha
      exact ha
  · simp [hlen]
    intro e
    subst e
    exact hlen rfl

theorem c_laws_eqOp (b b' : Bool) (x y : OpT) (hs : x.Small) : cw f_laws_eqOp [.agg b x.enc, .agg b' y.enc] [] = some (.lit (.bool (decide (x = y))), []) := by
  obtain ⟨h1, h2, h3⟩ := hs.inv
  have hc1 := c_laws_eqByteS b b' x.tag y.tag (by omega)
  have hc2 := c_laws_eqOpS' b b' x.inl y.inl (by omega) (fun z hz w => c_laws_eqOp b b' z w (h3 z hz))
  refine callW_run (by simp) fs_laws_eqOp rfl rfl rfl ?_
  simp only [cw] at hc1 hc2
  have hd : decide (x = y) = (decide (x.num = y.num) && (decide (x.kind = y.kind) && (decide (x.ref = y.ref) && (decide (x.rep = y.rep) && (decide (x.oneof = y.oneof) && (decide (x.tag = y.tag) && (decide (x.quick = y.quick) && (decide (x.run = y.run) && decide (x.inl = y.inl))))))))) := by
    rw [Bool.eq_iff_iff]
    simp only [decide_eq_true_eq, Bool.and_eq_true]
    exact OpT.ext_iff' x y
  rw [hd]
  simp only [OpT.enc_eq]
  generalize x.num = a1, y.num = b1, x.kind = a2, y.kind = b2, x.ref = a3, y.ref = b3, x.rep = a4, y.rep = b4, x.oneof = a5, y.oneof = b5, x.quick = a7, y.quick = b7, x.run = a8, y.run = b8
  generalize x.tag = a6, y.tag = b6 at hc1 ⊢
  generalize x.inl = a9, y.inl = b9 at hc2 ⊢
  by_cases e1 : a1 = b1
  rotate_left
  · simp [e1]
  by_cases e2 : a2 = b2
  rotate_left
  · simp [e1, e2]
  by_cases e3 : a3 = b3
  rotate_left
  · simp [e1, e2, e3]
  by_cases e4 : a4 = b4
  rotate_left
  · simp [e1, e2, e3, e4]
  by_cases e5 : a5 = b5
  rotate_left
  · simp [e1, e2, e3, e4, e5]
  by_cases e6 : a6 = b6
  rotate_left
  · simp only [decide_eq_false e6] at hc1
    simp [e1, e2, e3, e4, e5, e6, hc1]
  subst e6
  simp only [decide_eq_true (Eq.refl a6)] at hc1
  by_cases e7 : a7 = b7
  rotate_left
  · simp [e1, e2, e3, e4, e5, hc1, e7]
  by_cases e8 : a8 = b8
  rotate_left
  · simp [e1, e2, e3, e4, e5, hc1, e7, e8]
  by_cases e9 : a9 = b9
  rotate_left
  · simp only [decide_eq_false e9] at hc2
    simp [e1, e2, e3, e4, e5, hc1, e7, e8, hc2, e9]
  subst e9
  simp only [decide_eq_true (Eq.refl a9)] at hc2
  simp [e1, e2, e3, e4, e5, hc1, e7, e8, hc2]
termination_by SizeOf.sizeOf x
decreasing_by exact OpT.mem_lt hz

theorem c_laws_eqOpS (b b' : Bool) (l k : List OpT) (h : l.length ≤ 2 ^ 40) (hs : ∀ x ∈ l, x.Small) : cw f_laws_eqOpS [.val b (.sl 9 (l.map OpT.enc)), .val b' (.sl 9 (k.map OpT.enc))] [] = some (.lit (.bool (decide (l = k))), []) :=
  c_laws_eqOpS' b b' l k (by omega) fun x hx y => c_laws_eqOp b b' x y (hs x hx)

theorem c_laws_eqMod (b b' : Bool) (x y : ModT) (hs : x.Small) : cw f_laws_eqMod [.agg b x.enc, .agg b' y.enc] [] = some (.lit (.bool (decide (x = y))), []) := by
  obtain ⟨h1, h2, h3⟩ := hs
  have hc1 := c_laws_eqOpS b b' x.ops y.ops h1 h2
  have hc2 := c_laws_eqIntS b b' x.jumps y.jumps (by omega)
  refine callW_run (by simp) fs_laws_eqMod rfl rfl rfl ?_
  simp only [cw] at hc1 hc2
  have hd : decide (x = y) = (decide (x.ops = y.ops) && (decide (x.jumps = y.jumps) && decide (x.cached = y.cached))) := by
    rw [Bool.eq_iff_iff]
    simp only [decide_eq_true_eq, Bool.and_eq_true]
    exact ModT.ext_iff' x y
  rw [hd]
  simp only [ModT.enc]
  generalize x.ops = a1, y.ops = b1 at hc1 ⊢
  generalize x.jumps = a2, y.jumps = b2 at hc2 ⊢
  generalize x.cached = a3, y.cached = b3
  by_cases e1 : a1 = b1
  rotate_left
  · simp only [decide_eq_false e1] at hc1
    simp [e1, hc1]
  subst e1
  simp only [decide_eq_true (Eq.refl a1)] at hc1
  by_cases e2 : a2 = b2
  rotate_left
  · simp only [decide_eq_false e2] at hc2
    simp [hc1, e2, hc2]
  subst e2
  simp only [decide_eq_true (Eq.refl a2)] at hc2
  by_cases e3 : a3 = b3 <;> simp [hc1, hc2, e3]

theorem c_laws_eqModS (b b' : Bool) (l k : List ModT) (h : l.length ≤ 2 ^ 50) (hin : ∀ x ∈ l, x.Small) : cw f_laws_eqModS [.val b (.sl 3 (l.map ModT.enc)), .val b' (.sl 3 (k.map ModT.enc))] [] = some (.lit (.bool (decide (l = k))), []) := by
  refine callW_run (by simp) fs_laws_eqModS rfl rfl rfl ?_
  by_cases hlen : l.length = k.length
  · simp [hlen]
    refine Mc.loop_ind (α := Nat) _ _ _ _ (fun i => I_laws_eqModS_0 (.val b (.sl 3 (l.map ModT.enc))) (.val b' (.sl 3 (k.map ModT.enc))) (.lit (.int .i64 i)) []) (fun i => l.length - i) (fun i => i ≤ l.length ∧ l.take i = k.take i) 0 _ (by simp) (by simp) ?_
    intro i ⟨hi, ha⟩ ih
    by_cases hl : i < l.length
    · have hl' : i < k.length := by omega
      have hc := c_laws_eqMod b b' l[i] k[i] (hin _ (List.getElem_mem hl))
      simp only [cw, ModT.enc] at hc
      by_cases ho : l[i] = k[i]
      · skip
        simp [ho] at hc
        simp [hl, hl', ModT.enc, hc, ho, wrap_add i (by omega)]
        refine ⟨.b (by kernel_rfl), ih (i + 1) _ (by simp) ⟨by omega, ?_⟩ (by omega)⟩
        rw [take_next l i hl, take_next k i hl', ha, ho]
      · skip
        simp [ho] at hc
        simp [hl, hl', ModT.enc, hc, ho]
        refine ⟨.b (by kernel_rfl), ?_⟩
        intro e
        subst e
        exact ho rfl
    · simp [hl]
      rw [List.take_of_length_le (by omega), List.take_of_length_le (by omega)] at ha
      exact ha
  · simp [hlen]
    intro e
    subst e
    exact hlen rfl

theorem c_laws_eqIR (b b' : Bool) (l k : List ModT) (h : l.length ≤ 2 ^ 40) (hin : ∀ x ∈ l, x.Small) : cw f_laws_eqIR [.agg b (encM l), .agg b' (encM k)] [] = some (.lit (.bool (decide (l = k))), []) := by
  have hc1 := c_laws_eqModS b b' l k (by omega) hin
  refine callW_run (by simp) fs_laws_eqIR rfl rfl rfl ?_
  simp only [cw] at hc1
  by_cases e : l = k
  · subst e
    simp only [decide_eq_true (Eq.refl l)] at hc1
    simp [encM, hc1]
  · simp only [decide_eq_false e] at hc1
    simp [encM, hc1, e]

end Go.Proofs.YtckojpaklblnpaaDoor.Th
