/- IRs: what an Op holds inline. -/
import Derived.Test.YtckojpaklblnpaaGreatDoorKG1
import Derived.Test.YtckojpaklblnpaaGreatDoorKG3
set_option linter.unusedVariables false
set_option linter.unusedSimpArgs false
set_option maxRecDepth 10000
set_option maxHeartbeats 2000000
namespace Go.Proofs.YtckojpaklblnpaaGreatDoor.Th
open Go Go.RowKit Go.Proofs.YtckojpaklblnpaaGreatDoor.Ev
def alikeP (l k : List OpT) : Prop := l.length = k.length ∧ ∀ j (h : j < l.length) (h' : j < k.length), bareB l[j] = true ∧ sameB l[j] k[j] = true
open Classical in
noncomputable def alikeD (l k : List OpT) : Bool := decide (alikeP l k)
theorem alikeD_at {l k : List OpT} {i : Nat} (hl : i < l.length) (hl' : i < k.length) (h : (bareB l[i] && sameB l[i] k[i]) = false) : alikeD l k = false := by
  unfold alikeD
  simp only [decide_eq_false_iff_not]
  intro hh
  have := hh.2 i hl hl'
  simp [this.1, this.2] at h
theorem alikeD_len {l k : List OpT} (h : l.length ≠ k.length) : alikeD l k = false := by
  unfold alikeD
  simp only [decide_eq_false_iff_not]
  intro hh
  exact h hh.1
theorem alikeD_all {l k : List OpT} (h : l.length = k.length) (ha : ∀ j (h : j < l.length) (h' : j < k.length), bareB l[j] = true ∧ sameB l[j] k[j] = true) : alikeD l k = true := by
  unfold alikeD
  simp only [decide_eq_true_eq]
  exact ⟨h, ha⟩
theorem c_EqualFunc (b b' : Bool) (l k : List OpT) (h : l.length ≤ 2 ^ 50) : cw f_slices_EqualFunc_Limpl_Op_Limpl_Op_impl_Op_impl_Op [.val b (.sl 9 (l.map OpT.enc)), .val b' (.sl 9 (k.map OpT.enc)), .fn f_impl_marksOkS1 []] [] = some (.lit (.bool (alikeD l k)), []) := by
  refine callW_run (by simp) fs_slices_EqualFunc_Limpl_Op_Limpl_Op_impl_Op_impl_Op rfl rfl rfl ?_
  by_cases hlen : l.length = k.length
  rotate_left
  · simp [hlen, alikeD_len hlen]
  simp [hlen]
  refine Mc.loop_ind (α := Nat) _ _ _ _ (fun i => I_slices_EqualFunc_Limpl_Op_Limpl_Op_impl_Op_impl_Op_0 (.val b' (.sl 9 (k.map OpT.enc))) (.fn f_impl_marksOkS1 []) (.val b (.sl 9 (l.map OpT.enc))) (.lit (.int .i64 k.length)) (.lit (.int .i64 i)) []) (fun i => k.length - i) (fun i => i ≤ k.length ∧ ∀ j (h : j < i) (h1 : j < l.length) (h2 : j < k.length), bareB l[j] = true ∧ sameB l[j] k[j] = true) 0 _ (by simp) (by simp) ?_
  intro i ⟨hi, ha⟩ ih
  by_cases hl : i < k.length
  · have hl' : i < l.length := by omega
    have hc := c_impl_marksOkS1 b b' l[i] k[i]
    simp only [cw, OpT.enc_eq] at hc
    cases hq : (bareB l[i] && sameB l[i] k[i]) with
    | false =>
      rw [hq] at hc
      simp [hl, hl', OpT.enc_eq, hc, alikeD_at hl' hl hq]
    | true =>
      rw [hq] at hc
      simp [hl, hl', OpT.enc_eq, hc, wrap_add i (by omega)]
      refine ih (i + 1) _ (by simp) ⟨by omega, ?_⟩ (by omega)
      intro j h1 h2 h3
      by_cases hj : j = i
      · subst hj; simpa using hq
      · exact ha j (by omega) h2 h3
  · simp [hl]
    exact alikeD_all hlen fun j h1 h2 => ha j (by omega) h1 h2
abbrev boxI (b : Bool) (ms : List ModT) : O := { cells := [.own 1 [[.im b (.sl 3 (ms.map ModT.enc))]]], box := true }
abbrev boxO (b : Bool) (x : OpT) : O := { cells := [.own 9 [[.ow (.lit (.int .i64 x.num)), .ow (.lit (.int .i64 x.kind)), .ow (.lit (.int .i64 x.ref)), .ow (.lit (.bool x.rep)), .ow (.lit (.int .i64 x.oneof)), .im b (.sl 1 (x.tag.map encB)), .ow (.lit (.bool x.quick)), .ow (.lit (.int .i64 x.run)), .im b (.sl 9 (x.inl.map OpT.enc))]]], box := true }
def refOps (ms : List ModT) (r : Int) : List OpT := match ms[r.toNat]? with | some m => m.ops | none => []
noncomputable def inlineB (ms : List ModT) (x : OpT) : Bool := decide (x.inl = []) || (decide (x.kind = 16) && alikeD x.inl (refOps ms x.ref))
theorem c_spec_l9Inline (b b' : Bool) (ms : List ModT) (x : OpT) (h : x.inl.length ≤ 2 ^ 40) (hr : x.kind = 16 → 0 ≤ x.ref ∧ x.ref < ms.length) : cw f_spec_l9Inline [.agg b (encM ms), .agg b' x.enc] [] = some (.lit (.bool (inlineB ms x)), []) := by
  refine callW_run (by simp) fs_spec_l9Inline rfl rfl rfl ?_
  unfold inlineB
  by_cases h0 : x.inl = []
  · simp [OpT.enc_eq, encM, h0]
  have hlen0 : ¬ (x.inl.length : Int) = 0 := fun e => h0 (List.length_eq_zero_iff.mp (by omega))
  by_cases hk : x.kind = 16
  rotate_left
  · simp [OpT.enc_eq, encM, h0, hk]
    exact .b (by kernel_rfl)
  obtain ⟨hr0, hr1⟩ := hr hk
  obtain ⟨r, hrr⟩ : ∃ r : Nat, x.ref = r := ⟨x.ref.toNat, by omega⟩
  rw [hrr] at hr1
  have hr2 : r < ms.length := by omega
  have hro : refOps ms x.ref = ms[r].ops := by simp [refOps, hrr, hr2]
  rw [hro]
  generalize hm : ms[r] = m
  by_cases hlen : x.inl.length = m.ops.length
  rotate_left
  · have hlen' : ¬ (x.inl.length : Int) = m.ops.length := by omega
    simp [OpT.enc_eq, encM, h0, hk, hrr, hr2, hm, ModT.enc, hlen', alikeD_len hlen]
    exact .b (by kernel_rfl)
  have hm0 : ¬ m.ops = [] := fun e => by rw [e] at hlen; exact h0 (List.length_eq_zero_iff.mp hlen)
  simp [OpT.enc_eq, encM, h0, hk, hrr, hr2, hm, ModT.enc, hlen, hm0]
  refine ⟨.b (by kernel_rfl), ?_⟩
  refine Mc.loop_ind (α := Nat) _ _ _ _ (fun i => I_spec_l9Inline_0 (.ptr 80 [(0, 0)] 0) (.ptr 88 [(0, 0)] 0) (.lit (.int .i64 i)) [(80, boxI b ms), (88, boxO b' x)]) (fun i => m.ops.length - i) (fun i => i ≤ m.ops.length ∧ ∀ j (h : j < i) (h1 : j < x.inl.length) (h2 : j < m.ops.length), bareB x.inl[j] = true ∧ sameB x.inl[j] m.ops[j] = true) 0 _ (by simp [hrr, hk]) (by simp) ?_
  intro i ⟨hi, ha⟩ ih
  by_cases hl : i < m.ops.length
  · have hl' : i < x.inl.length := by omega
    have hc1 := c_spec_l9Plain b' x.inl[i]
    have hc2 := c_spec_l9Same b' b x.inl[i] m.ops[i]
    simp only [cw, OpT.enc_eq] at hc1 hc2
    cases hq1 : bareB x.inl[i] with
    | false =>
      rw [hq1] at hc1
      simp [hl, hl', hlen, OpT.enc_eq, hc1, alikeD_at hl' hl (by rw [hq1]; rfl)]
      exact .b (by kernel_rfl)
    | true =>
      rw [hq1] at hc1
      cases hq2 : sameB x.inl[i] m.ops[i] with
      | false =>
        rw [hq2] at hc2
        simp [hl, hl', hlen, hrr, hr2, hm, ModT.enc, OpT.enc_eq, hc1, hc2, alikeD_at hl' hl (by rw [hq1, hq2]; rfl)]
        exact .b (by kernel_rfl)
      | true =>
        rw [hq2] at hc2
        simp [hl, hl', hlen, hrr, hr2, hm, ModT.enc, OpT.enc_eq, hc1, hc2, wrap_add i (by omega)]
        refine ⟨.b (by kernel_rfl), ih (i + 1) _ (by simp [hrr, hk]) ⟨by omega, ?_⟩ (by omega)⟩
        intro j h1 h2 h3
        by_cases hj : j = i
        · subst hj; exact ⟨hq1, hq2⟩
        · exact ha j (by omega) h2 h3
  · simp [hl, hlen]
    exact alikeD_all hlen fun j h1 h2 => ha j (by omega) h1 h2
end Go.Proofs.YtckojpaklblnpaaGreatDoor.Th
