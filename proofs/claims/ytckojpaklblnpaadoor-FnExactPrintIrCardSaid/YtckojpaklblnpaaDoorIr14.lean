/- IRs: impl.IrOk. -/
import Derived.Test.YtckojpaklblnpaaDoorComm
import Derived.Test.YtckojpaklblnpaaDoorIr13
set_option linter.unusedVariables false
set_option linter.unusedSimpArgs false
set_option maxRecDepth 10000
set_option maxHeartbeats 2000000
namespace Go.Proofs.YtckojpaklblnpaaDoor.Th
open Go Go.RowKit Go.Proofs.YtckojpaklblnpaaDoor.Ev

theorem c_impl_IrOkS1 (b b' : Bool) (ms : List ModT) (m : ModT) (h : m.ops.length ≤ 2 ^ 40) (hms : ms.length ≤ 2 ^ 40) : cw f_impl_IrOkS1 [.agg b' m.enc, .ptr 0 [(0, 0)] 0] [boxI b ms] = some (.lit (.bool (!opsOkB ms m.ops)), [some (boxI b ms)]) := by
  refine callW_run (by simp) fs_impl_IrOkS1 rfl rfl rfl ?_
  have hc := c_impl_opsOk b b' ms m.ops h hms
  simp only [cw, encM] at hc
  simp [ModT.enc, hc]

theorem c_slices_Equal_Lint_nil (b : Bool) (l : List Int) (h : l.length ≤ 2 ^ 50) : cw f_slices_Equal_Lint_int [.val b (.sl 1 (l.map encI)), .nils] [] = some (.lit (.bool (decide (l = []))), []) := by
  refine callW_run (by simp) fs_slices_Equal_Lint_int rfl rfl rfl ?_
  cases l with
  | nil =>
    simp
    refine Mc.loop_ind (α := Nat) _ _ _ _ (fun i => I_slices_Equal_Lint_int_0 (.val b (.sl 1 [])) .nils (.lit (.int .i64 0)) (.lit (.int .i64 0)) []) (fun i => 0) (fun i => True) 0 _ (by simp) (by simp) ?_
    intro i _ ih
    simp
  | cons x r =>
    have hn : ¬ ((r.length : Int) + 1 = 0) := by omega
    simp [hn]

def mimP (ms : List ModT) (m : ModT) : Prop := (m.jumps = [] ∨ m.jumps = jumpsT m.ops) ∧ ∀ j (h : j < m.ops.length), marksB ms m.ops j m.ops[j] = true
def implP (ms : List ModT) : Prop := (1 ≤ (ms.length : Int) ∧ (ms.length : Int) ≤ 30) ∧ (∀ m ∈ ms, opsOkB ms m.ops = true) ∧ ∀ j (h : j < ms.length), mimP ms ms[j]

theorem fineB_parts {ms : List ModT} {ops : List OpT} {i : Nat} {x : OpT} (h : fineB ms ops i x = true) : numOkB x.num = true ∧ prevB ops x i = true ∧ (1 ≤ x.kind ∧ x.kind ≤ 17) ∧ 0 ≤ x.oneof ∧ (!x.rep || decide (x.oneof = 0)) = true ∧ (0 ≤ x.ref ∧ x.ref ≤ refsT ms x - 1) := by
  unfold fineB at h
  simp only [Bool.and_eq_true, decide_eq_true_eq] at h
  exact ⟨h.2.1, h.1, h.2.2.1, h.2.2.2.1, h.2.2.2.2.1, h.2.2.2.2.2⟩

open Classical in
theorem opsOkB_parts {ms : List ModT} {ops : List OpT} (h : opsOkB ms ops = true) : allFine ms ops ∧ ops.length ≤ 40 ∧ most ops ≤ ops.length ∧ oneofsB ops = true := by
  unfold opsOkB endB at h
  simp only [Bool.and_eq_true, decide_eq_true_eq] at h
  exact ⟨h.1, h.2.1, h.2.2.1, h.2.2.2⟩

theorem fine_asc {ms : List ModT} {ops : List OpT} (h : allFine ms ops) : Asc ops :=
  asc_of (fun j hj => (fineB_parts (h j hj)).2.1) (fun j hj => (fineB_parts (h j hj)).1)
theorem fine_ref {ms : List ModT} {ops : List OpT} (h : allFine ms ops) {j : Nat} (hj : j < ops.length) : ops[j].kind = 16 → 0 ≤ ops[j].ref ∧ ops[j].ref < ms.length := by
  intro hk
  have := (fineB_parts (h j hj)).2.2.2.2.2
  unfold refsT at this
  rw [if_pos hk] at this
  omega

open Classical in
noncomputable def implB (ms : List ModT) : Bool := decide (implP ms)

open Classical in
theorem c_impl_IrOk (b : Bool) (ms : List ModT) (hms : ms.length ≤ 2 ^ 40) (hs : ∀ m ∈ ms, m.Small) : cw f_impl_IrOk [.agg b (encM ms)] [] = some (.lit (.bool (implB ms)), []) := by
  refine callW_run (by simp) fs_impl_IrOk rfl rfl rfl ?_
  have f1 := c_impl_within (ms.length : Int) 1 30
  have f2 := c_slices_ContainsFunc_Limpl_Mod_impl_Mod b ms f_impl_IrOkS1 1 [.im b (.sl 3 (ms.map ModT.enc))] (fun m => !opsOkB ms m.ops) (fun b' m hm => c_impl_IrOkS1 b b' ms m (hs m hm).1 hms) (by omega)
  simp only [cw] at f1 f2
  unfold implB
  by_cases h0 : 1 ≤ (ms.length : Int) ∧ (ms.length : Int) ≤ 30
  rotate_left
  · have hn : ¬ implP ms := fun hh => h0 hh.1
    rw [decide_eq_false h0] at f1
    simp [encM, f1, hn]
  rw [decide_eq_true h0] at f1
  cases q1 : ms.any fun m => !opsOkB ms m.ops with
  | true =>
    have hn : ¬ implP ms := fun hh => by
      obtain ⟨m, hm, he⟩ := List.any_eq_true.mp q1
      rw [hh.2.1 m hm] at he
      exact absurd he (by decide)
    rw [q1] at f2
    simp [encM, f1, f2, hn]
  | false =>
  have hfine : ∀ m ∈ ms, opsOkB ms m.ops = true := fun m hm => by
    have := List.any_eq_false.mp q1 m hm
    simpa using this
  rw [q1] at f2
  simp [encM, f1, f2]
  clear f1 f2 q1
  refine Mc.loop_ind (α := Nat) _ _ _ _ (fun j => I_impl_IrOk_0 (.ptr 72 [(0, 0)] 0) (.val b (.sl 3 (ms.map ModT.enc))) (.lit (.int .i64 ms.length)) (.lit (.int .i64 j)) [(72, boxI b ms)]) (fun j => ms.length - j) (fun j => j ≤ ms.length ∧ ∀ k (_ : k < j) (h : k < ms.length), mimP ms ms[k]) 0 _ (by simp) (by simp) ?_
  intro i ⟨hi, ha⟩ ih
  by_cases hl : i < ms.length
  rotate_left
  · have hy : implP ms := ⟨h0, hfine, fun k h => ha k (by omega) h⟩
    simp [hl, hy]
  have no : ¬ mimP ms ms[i] → decide (implP ms) = false := fun hn => decide_eq_false fun hh => hn (hh.2.2 i hl)
  have ih' := fun hm : mimP ms ms[i] => fun σ' hσ' => ih (i + 1) σ' hσ' ⟨by omega, fun k h1 h2 => by
    by_cases hki : k = i
    · subst hki; exact hm
    · exact ha k (by omega) h2⟩ (by omega)
  clear ih
  have hsm := hs ms[i] (List.getElem_mem hl)
  obtain ⟨hF, hm40, hmost, h1s⟩ := opsOkB_parts (hfine ms[i] (List.getElem_mem hl))
  have hwi := wrap_add i (by omega)
  refine cut2 _ fun c hc => ?_
  generalize hm : ms[i] = m at no ih' hm40 hsm hF
  generalize decide (implP ms) = res at no ih' ⊢
  simp [hl]
  subst hc
  have hasc := fine_asc hF
  have f4 := c_impl_jumpsOf b m (by omega) hasc
  have f5 := c_slices_Equal_Lint_int b true m.jumps (jumpsT m.ops) (by have := hsm.2.2; omega)
  have f5' := c_slices_Equal_Lint_nil b m.jumps (by have := hsm.2.2; omega)
  simp only [cw, ModT.enc] at f4 f5 f5'
  rw [Mc.at_seq, Mc.at_block]
  refine cut2 _ fun c hc => ?_
  by_cases hJ : ¬ (m.jumps = [] ∨ m.jumps = jumpsT m.ops)
  · have no := no fun hp => hJ hp.1
    have hz : ¬ m.jumps = [] := fun h => hJ (Or.inl h)
    have hz' : (0 < m.jumps.length) = True := eq_true (List.length_pos_iff.mpr hz)
    have hJ' : ¬ m.jumps = jumpsT m.ops := fun h => hJ (Or.inr h)
    rw [decide_eq_false hJ'] at f5
    rw [decide_eq_false hz] at f5'
    by_cases q : jumpsT m.ops = []
    · rw [if_pos q] at f4
      simp [hl, hm, ModT.enc, hz', f4, f5', no]
      exact .b (by kernel_rfl)
    · rw [if_neg q] at f4
      simp [hl, hm, ModT.enc, hz', f4, f5, no]
      exact .b (by kernel_rfl)
  have hJ : m.jumps = [] ∨ m.jumps = jumpsT m.ops := Classical.not_not.mp hJ
  refine cutK _ fun K hK => ?_
  have T8 : ∀ σ, σ.keep (E.trim f_impl_IrOk 8) = J_impl_IrOk_8 (.ptr 72 [(0, 0)] 0) (.ptr 96 [(0, 0)] 0) (.val b (.sl 3 (ms.map ModT.enc))) (.lit (.int .i64 ms.length)) (.lit (.int .i64 i)) [(72, boxI b ms), (96, boxM b m)] → Mc.at ⟨E, callW E fs, f_impl_IrOk, [ResultVar.tmp 2], 0⟩ c K σ = some (.lit (.bool res), []) := by
    intro σ hσ
    subst hc
    subst hK
    rw [Mc.at_seq]
    refine (at_region_of _ _ _ _ _ _ hσ).trans ?_
    clear hσ f4 f5 f5'
    simp [hl]
    refine Mc.loop_ind (α := Nat) _ _ _ _ (fun j => I_impl_IrOk_1 (.ptr 72 [(0, 0)] 0) (.ptr 96 [(0, 0)] 0) (.val b (.sl 3 (ms.map ModT.enc))) (.lit (.int .i64 ms.length)) (.lit (.int .i64 i)) (.lit (.int .i64 m.ops.length)) (.lit (.int .i64 j)) [(72, boxI b ms), (96, boxM b m)]) (fun j => m.ops.length - j) (fun j => j ≤ m.ops.length ∧ ∀ k (_ : k < j) (h : k < m.ops.length), marksB ms m.ops k m.ops[k] = true) 0 _ (by simp) (by simp) ?_
    intro j ⟨hj, hb⟩ ih
    by_cases hjl : j < m.ops.length
    · have f2 := marksOk_head b b ms m.ops j hjl (by omega) m.ops[j] rfl (hsm.2.1 _ (List.getElem_mem hjl)) (fine_ref hF hjl)
      have no : marksB ms m.ops j m.ops[j] = false → res = false := fun hh => no fun hp => by rw [hp.2 j hjl] at hh; exact absurd hh (by decide)
      simp only [cw, encM] at f2
      clear ih'
      cases hq : marksB ms m.ops j m.ops[j] with
      | false =>
        rw [hq] at f2
        simp [hjl, f2, no hq]
      | true =>
        rw [hq] at f2
        simp [hjl, f2, wrap_add j (by omega)]
        refine ih (j + 1) _ (by simp) ⟨by omega, fun k h1 h2 => ?_⟩ (by omega)
        by_cases hkj : k = j
        · subst hkj; exact hq
        · exact hb k (by omega) h2
    clear ih
    have hall : ∀ k (h : k < m.ops.length), marksB ms m.ops k m.ops[k] = true := fun k h => hb k (by omega) h
    clear hb
    have ih' := ih' ⟨hJ, hall⟩
    simp [hjl, hwi]
    exact ih' _ (by simp)
  clear hc hK ih' no
  by_cases hz : m.jumps = []
  · have hz' : (0 < m.jumps.length) = False := by rw [hz]; simp
    simp [hl, hm, ModT.enc, hz']
    exact ⟨.b (by kernel_rfl), T8 _ (by simp)⟩
  · have hz' : (0 < m.jumps.length) = True := eq_true (List.length_pos_iff.mpr hz)
    have hJ : m.jumps = jumpsT m.ops := hJ.resolve_left hz
    have q : ¬ jumpsT m.ops = [] := fun h => hz (hJ.trans h)
    rw [decide_eq_true hJ] at f5
    rw [if_neg q] at f4
    simp [hl, hm, ModT.enc, hz', f4, f5]
    exact ⟨.b (by kernel_rfl), T8 _ (by simp)⟩

end Go.Proofs.YtckojpaklblnpaaDoor.Th
