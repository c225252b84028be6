/- IRs: spec.IrOk. -/
import Derived.Test.YtckojpaklblnpaaDoorComm
import Derived.Test.YtckojpaklblnpaaDoorIr12
set_option linter.unusedVariables false
set_option linter.unusedSimpArgs false
set_option maxRecDepth 10000
set_option maxHeartbeats 2000000
namespace Go.Proofs.YtckojpaklblnpaaDoor.Th
open Go Go.RowKit Go.Proofs.YtckojpaklblnpaaDoor.Ev

theorem prev_lt {ops : List OpT} (h : ∀ j (h : j < ops.length), prevB ops ops[j] j = true) : ∀ i j (hi : i < ops.length) (hj : j < ops.length), i < j → ops[i].num < ops[j].num := by
  intro i j hi hj hij
  induction j with
  | zero => omega
  | succ k ih =>
    have hk : k < ops.length := by omega
    have h1 := h (k + 1) hj
    have h2 : ops[k].num < ops[k + 1].num := by simpa [prevB, hk] using h1
    by_cases he : i = k
    · subst he; exact h2
    · have := ih hk (by omega); omega

theorem asc_of {ops : List OpT} (h : ∀ j (h : j < ops.length), prevB ops ops[j] j = true) (hn : ∀ j (h : j < ops.length), numOkB ops[j].num = true) : Asc ops := by
  refine ⟨fun x hx => ?_, prev_lt h⟩
  obtain ⟨i, hi, rfl⟩ := List.getElem_of_mem hx
  have := hn i hi
  simp [numOkB] at this
  omega

theorem most_le {k : Int} (l : List OpT) (h : ∀ x ∈ l, x.oneof ≤ k) (h0 : 0 ≤ k) : most l ≤ k := by
  have key : ∀ (l : List OpT) (m : Int), m ≤ k → (∀ x ∈ l, x.oneof ≤ k) → l.foldl mostF m ≤ k := by
    intro l
    induction l with
    | nil => intro m hm _; exact hm
    | cons x r ih =>
      intro m hm hx
      refine ih _ ?_ fun y hy => hx y (List.mem_cons_of_mem _ hy)
      have := hx x List.mem_cons_self
      unfold mostF
      split <;> omega
  exact key l 0 h0 h

def modP (ms : List ModT) (m : ModT) : Prop := (∀ j (h : j < m.ops.length), opOkB ms m.ops j m.ops[j] = true) ∧ oneofsB m.ops = true ∧ (m.jumps = [] ∨ m.jumps = jumpsT m.ops)
def specP (ms : List ModT) : Prop := (1 ≤ (ms.length : Int) ∧ (ms.length : Int) ≤ 30) ∧ (∀ j (h : j < ms.length), ms[j].ops.length ≤ 40) ∧ ∀ j (h : j < ms.length), modP ms ms[j]

theorem opOkB_num {ms : List ModT} {ops : List OpT} {i : Nat} {x : OpT} (h : opOkB ms ops i x = true) : numOkB x.num = true ∧ prevB ops x i = true ∧ x.oneof ≤ 40 := by
  unfold opOkB at h
  simp only [Bool.and_eq_true, decide_eq_true_eq] at h
  exact ⟨h.1, h.2.1, h.2.2.2.2.1.2⟩

theorem modP_asc {ms : List ModT} {ops : List OpT} (h : ∀ j (h : j < ops.length), opOkB ms ops j ops[j] = true) : Asc ops ∧ most ops ≤ 40 := by
  refine ⟨asc_of (fun j hj => (opOkB_num (h j hj)).2.1) (fun j hj => (opOkB_num (h j hj)).1), most_le ops (fun x hx => ?_) (by omega)⟩
  obtain ⟨i, hi, rfl⟩ := List.getElem_of_mem hx
  exact (opOkB_num (h i hi)).2.2

open Classical in
noncomputable def specB (ms : List ModT) : Bool := decide (specP ms)

open Classical in
theorem c_spec_IrOk (b : Bool) (ms : List ModT) (hms : ms.length ≤ 2 ^ 40) (hs : ∀ m ∈ ms, m.Small) : cw f_spec_IrOk [.agg b (encM ms)] [] = some (.lit (.bool (specB ms)), []) := by
  refine callW_run (by simp) fs_spec_IrOk rfl rfl rfl ?_
  have f1 := c_spec_l1In (ms.length : Int) 1 30
  simp only [cw] at f1
  unfold specB
  by_cases h0 : 1 ≤ (ms.length : Int) ∧ (ms.length : Int) ≤ 30
  rotate_left
  · have hn : ¬ specP ms := fun hh => h0 hh.1
    rw [decide_eq_false h0] at f1
    simp [encM, f1, hn]
  rw [decide_eq_true h0] at f1
  simp [encM, f1]
  refine Mc.loop_ind (α := Nat) _ _ _ _ (fun j => I_spec_IrOk_0 (.ptr 72 [(0, 0)] 0) (.lit (.int .i64 j)) [(72, boxI b ms)]) (fun j => ms.length - j) (fun j => j ≤ ms.length ∧ ∀ k (_ : k < j) (h : k < ms.length), ms[k].ops.length ≤ 40) 0 _ (by simp) (by simp) ?_
  intro j ⟨hj, ha⟩ ih
  by_cases hl : j < ms.length
  · by_cases h4 : ms[j].ops.length ≤ 40
    · have h4' : ¬ (40 : Int) < ms[j].ops.length := by omega
      simp [hl, ModT.enc, h4', wrap_add j (by omega)]
      refine ih (j + 1) _ (by simp) ⟨by omega, fun k h1 h2 => ?_⟩ (by omega)
      by_cases hkj : k = j
      · subst hkj; exact h4
      · exact ha k (by omega) h2
    · have h4' : (40 : Int) < ms[j].ops.length := by omega
      have hn : ¬ specP ms := fun hh => h4 (hh.2.1 j hl)
      simp [hl, ModT.enc, h4', hn]
  clear ih
  have h40 : ∀ k (h : k < ms.length), ms[k].ops.length ≤ 40 := fun k h => ha k (by omega) h
  simp [hl]
  clear ha hl hj
  refine Mc.loop_ind (α := Nat) _ _ _ _ (fun j => I_spec_IrOk_1 (.ptr 72 [(0, 0)] 0) (.lit (.int .i64 j)) [(72, boxI b ms)]) (fun j => ms.length - j) (fun j => j ≤ ms.length ∧ ∀ k (_ : k < j) (h : k < ms.length), modP ms ms[k]) 0 _ (by simp) (by simp) ?_
  intro i ⟨hi, ha⟩ ih
  by_cases hl : i < ms.length
  rotate_left
  · have hy : specP ms := ⟨h0, h40, fun k h => ha k (by omega) h⟩
    simp [hl, hy]
  have no : ¬ modP ms ms[i] → decide (specP ms) = false := fun hn => decide_eq_false fun hh => hn (hh.2.2 i hl)
  have ih' := fun hm : modP ms ms[i] => fun σ' hσ' => ih (i + 1) σ' hσ' ⟨by omega, fun k h1 h2 => by
    by_cases hki : k = i
    · subst hki; exact hm
    · exact ha k (by omega) h2⟩ (by omega)
  clear ih
  have hm40 := h40 i hl
  have hsm := hs ms[i] (List.getElem_mem hl)
  have hwi := wrap_add i (by omega)
  refine cut1 _ fun c hc => ?_
  generalize hm : ms[i] = m at no ih' hm40 hsm
  generalize decide (specP ms) = res at no ih' ⊢
  simp [hl]
  subst hc
  rw [Mc.at_seq, Mc.at_block]
  simp [hl, hm, ModT.enc]
  refine Mc.loop_ind (α := Nat) _ _ _ _ (fun j => I_spec_IrOk_2 (.ptr 72 [(0, 0)] 0) (.lit (.int .i64 i)) (.ptr 104 [(0, 0)] 0) (.lit (.int .i64 j)) [(72, boxI b ms), (104, boxM b m)]) (fun j => m.ops.length - j) (fun j => j ≤ m.ops.length ∧ ∀ k (_ : k < j) (h : k < m.ops.length), opOkB ms m.ops k m.ops[k] = true) 0 _ (by simp) (by simp) ?_
  intro j ⟨hj, hb⟩ ih
  by_cases hjl : j < m.ops.length
  · have f2 := c_spec_l9OpOk b b ms m j hjl (by omega) (by omega) (hsm.2.1 _ (List.getElem_mem hjl))
    have no : opOkB ms m.ops j m.ops[j] = false → res = false := fun hh => no fun hp => by rw [hp.1 j hjl] at hh; exact absurd hh (by decide)
    simp only [cw, encM, ModT.enc] at f2
    clear ih'
    cases hq : opOkB ms m.ops j m.ops[j] with
    | false =>
      rw [hq] at f2
      simp [hjl, f2, no hq]
    | true =>
      rw [hq] at f2
      simp [hjl, f2, wrap_add j (by omega)]
      refine ih (j + 1) _ (by simp) ⟨by omega, fun k h1 h2 => ?_⟩ (by omega)
      by_cases hkj : k = j
      · subst hkj; exact hq
      · exact hb k (by omega) h2
  clear ih
  have hall : ∀ k (h : k < m.ops.length), opOkB ms m.ops k m.ops[k] = true := fun k h => hb k (by omega) h
  clear hb
  obtain ⟨hasc, hmost⟩ := modP_asc hall
  have f3 := c_spec_l9OneofsOk b m (by omega) (by omega)
  have f4 := c_spec_l9Jumps b m (by omega) hasc
  have f5 := c_spec_l9SameInts b true m.jumps (jumpsT m.ops) (by have := hsm.2.2; omega)
  simp only [cw, ModT.enc] at f3 f4 f5
  cases q3 : oneofsB m.ops with
  | false =>
    have no := no fun hp => by rw [hp.2.1] at q3; exact absurd q3 (by decide)
    rw [q3] at f3
    simp [hjl, f3, no]
    exact .b (by kernel_rfl)
  | true =>
    rw [q3] at f3
    by_cases hz : m.jumps = []
    · have hz' : (0 < m.jumps.length) = False := by rw [hz]; simp
      have ih' := ih' ⟨hall, q3, Or.inl hz⟩
      simp [hjl, f3, hz', hwi]
      exact ⟨.b (by kernel_rfl), ih' _ (by simp)⟩
    · have hz' : (0 < m.jumps.length) = True := eq_true (List.length_pos_iff.mpr hz)
      by_cases hJ : m.jumps = jumpsT m.ops
      · have ih' := ih' ⟨hall, q3, Or.inr hJ⟩
        rw [decide_eq_true hJ] at f5
        simp [hjl, f3, hz', f4, f5, hwi]
        exact ⟨.b (by kernel_rfl), ih' _ (by simp)⟩
      · have no := no fun hp => by
          cases hp.2.2 with
          | inl h => exact hz h
          | inr h => exact hJ h
        rw [decide_eq_false hJ] at f5
        simp [hjl, f3, hz', f4, f5, no]
        exact .b (by kernel_rfl)

end Go.Proofs.YtckojpaklblnpaaDoor.Th
