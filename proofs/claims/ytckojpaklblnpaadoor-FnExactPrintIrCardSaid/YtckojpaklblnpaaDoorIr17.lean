/- FnExactIrStats: the law. -/
import Derived.Test.YtckojpaklblnpaaDoorComm
import Derived.Test.YtckojpaklblnpaaDoorIr16
import Derived.Test.YtckojpaklblnpaaDoorIr2
import Derived.Test.YtckojpaklblnpaaDoorIr3
set_option linter.unusedVariables false
set_option linter.unusedSimpArgs false
set_option maxRecDepth 10000
set_option maxHeartbeats 2000000
namespace Go.Proofs.YtckojpaklblnpaaDoor.Th
open Go Go.RowKit Go.Proofs.YtckojpaklblnpaaDoor.Ev

open Go.Proofs.YtckojpaklblnpaaDoor.Wire

def ModT.sz (m : ModT) (k : Int) : Int := if szOpL m.ops k < 0 then -1 else szF m.jumps (szOpL m.ops k)
def szModL (l : List ModT) (k : Int) : Int := if k - l.length < 0 then -1 else szL ModT.sz l (k - l.length)

theorem szOpL_le (l : List OpT) (k : Int) (hk : 0 ≤ k) : szOpL l k ≤ k := by
  unfold szOpL
  split
  · omega
  · have := szL_le l (fun y _ k' hk' => OpT.sz_le y k' hk') (k - l.length) (by omega)
    omega
theorem ModT.sz_le (m : ModT) (k : Int) (hk : 0 ≤ k) : m.sz k ≤ k := by
  have := szOpL_le m.ops k hk
  unfold ModT.sz
  split
  · omega
  · have := szF_le m.jumps (szOpL m.ops k) (by omega)
    omega
theorem ModT.small_of (m : ModT) (k : Int) (hk : 0 ≤ k) (hk2 : k ≤ 2 ^ 40) (h : 0 ≤ m.sz k) : m.Small := by
  have hle := szOpL_le m.ops k hk
  unfold ModT.sz at h
  split at h
  · omega
  · rename_i h1
    have h2 := szF_ok m.jumps _ h
    rw [h2] at h
    clear h2
    unfold szOpL at h1 hle h
    split at h1
    · omega
    · rename_i h3
      rw [if_neg h3] at h hle
      refine ⟨by omega, fun y hy => ?_, by omega⟩
      obtain ⟨k', a1, a2, a3⟩ := szL_mem m.ops (fun z _ k hk => OpT.sz_le z k hk) (k - m.ops.length) (by omega) (by omega) y hy
      exact OpT.small_of y k' a1 (by omega) a3
theorem szModL_small (l : List ModT) (k : Int) (hk : 0 ≤ k) (hk2 : k ≤ 2 ^ 40) (h : 0 ≤ szModL l k) : l.length ≤ 2 ^ 40 ∧ ∀ m ∈ l, m.Small := by
  unfold szModL at h
  split at h
  · omega
  · rename_i h3
    refine ⟨by omega, fun y hy => ?_⟩
    obtain ⟨k', a1, a2, a3⟩ := szL_mem l (fun z _ k hk => ModT.sz_le z k hk) _ (by omega) h y hy
    exact ModT.small_of y k' a1 (by omega) a3
theorem szModL_neg (l : List ModT) (k : Int) (h : szModL l k < 0) : szModL l k = -1 := by
  unfold szModL at h ⊢
  split
  · rfl
  · rename_i h1
    rw [if_neg h1] at h
    exact szL_neg l _ (by omega) h

def ModT.Fits (m : ModT) : Prop := m.ops.length ≤ maxLen ∧ (∀ y ∈ m.ops, y.Fits) ∧ m.jumps.length ≤ maxLen

theorem szLe_laws_szModS (x : ModT) (k : Int) (h : 0 ≤ k) : x.sz k ≤ k := ModT.sz_le x k h

theorem c_laws_szModS' (b : Bool) (l : List ModT) (left : Int) (h : l.length ≤ maxLen) (h1 : left ≤ 2 ^ 50) (h2 : 0 ≤ left) (hin : ∀ x ∈ l, ∀ k : Int, 0 ≤ k → k ≤ 2 ^ 50 → cw f_laws_szMod [.agg b x.enc, .lit (.int .i64 k)] [] = some (.lit (.int .i64 (x.sz k)), [])) : cw f_laws_szModS [.val b (.sl 3 (l.map ModT.enc)), .lit (.int .i64 left)] [] = some (.lit (.int .i64 (if left - l.length < 0 then -1 else szL ModT.sz l (left - l.length))), []) := by
  refine callW_run (by simp) fs_laws_szModS rfl rfl rfl ?_
  have hw : IntKind.wrap .i64 (left - l.length) = left - l.length := i64_wrap (by unfold maxLen at h; omega) (by omega)
  by_cases hl0 : left - l.length < 0
  · simp [hl0, hw]
  · simp [hl0, hw]
    refine Mc.loop_ind (α := Nat × Int) _ _ _ _ (fun x => I_laws_szModS_0 (.val b (.sl 3 (l.map ModT.enc))) (.lit (.int .i64 x.2)) (.lit (.int .i64 x.1)) []) (fun x => l.length - x.1) (fun x => x.1 ≤ l.length ∧ 0 ≤ x.2 ∧ x.2 ≤ 2 ^ 50 ∧ szL ModT.sz (l.drop x.1) x.2 = szL ModT.sz l (left - l.length)) (0, left - l.length) _ (by simp) (by simp; omega) ?_
    intro ⟨i, k⟩ ⟨hi, hk1, hk2, ha⟩ ih
    dsimp only at hi hk1 hk2 ha
    by_cases hl : i < l.length
    · have hc := hin l[i] (List.getElem_mem hl) k hk1 hk2
      simp only [cw, ModT.enc] at hc
      rw [List.drop_eq_getElem_cons hl, szL] at ha
      have hle := szLe_laws_szModS l[i] k hk1
      generalize hr : ModT.sz l[i] k = r at hc ha hle
      by_cases hneg : r < 0
      · rw [if_pos hneg] at ha
        simp [hl, ModT.enc, hc, hneg, ← ha]
      · rw [if_neg hneg] at ha
        simp [hl, ModT.enc, hc, hneg, wrap_add i (by omega)]
        refine ih (i + 1, r) _ (by simp) ⟨by simp; omega, by simp; omega, by simp; omega, ha⟩ (by simp; omega)
    · rw [List.drop_eq_nil_of_le (by omega), szL] at ha
      simp [hl, ← ha]


theorem c_laws_szMod (b : Bool) (m : ModT) (hf : m.Fits) (k : Int) (hk1 : 0 ≤ k) (hk2 : k ≤ 2 ^ 50) : cw f_laws_szMod [.agg b m.enc, .lit (.int .i64 k)] [] = some (.lit (.int .i64 (m.sz k)), []) := by
  obtain ⟨h1, h2, h3⟩ := hf
  refine callW_run (by simp) fs_laws_szMod rfl rfl rfl ?_
  have hc1 := c_laws_szOpS' b m.ops k h1 hk2 hk1 (fun y hy k a1 a2 => c_laws_szOp b y (h2 y hy) k a1 a2)
  rw [show (if k - (m.ops.length : Int) < 0 then -1 else szL OpT.sz m.ops (k - m.ops.length)) = szOpL m.ops k from rfl] at hc1
  have hle := szOpL_le m.ops k hk1
  have hneg := szOpL_neg m.ops k
  simp only [cw] at hc1
  unfold ModT.sz
  generalize szOpL m.ops k = r at hc1 hle hneg ⊢
  by_cases hr : r < 0
  · have := hneg hr
    subst this
    simp [ModT.enc, hc1]
  · have hc2 := c_laws_szIntS b m.jumps r h3 (by omega) (by omega)
    simp only [cw] at hc2
    rw [if_neg hr]
    unfold szF
    by_cases hn : r - (m.jumps.length : Int) < 0
    · rw [if_pos hn] at hc2
      simp [ModT.enc, hc1, hr, hc2, hn]
    · rw [if_neg hn] at hc2
      simp [ModT.enc, hc1, hr, hc2, hn]

theorem c_laws_szIR (b : Bool) (l : List ModT) (k : Int) (h : l.length ≤ maxLen) (hf : ∀ m ∈ l, m.Fits) (hk1 : 0 ≤ k) (hk2 : k ≤ 2 ^ 50) : cw f_laws_szIR [.agg b (encM l), .lit (.int .i64 k)] [] = some (.lit (.int .i64 (szModL l k)), []) := by
  refine callW_run (by simp) fs_laws_szIR rfl rfl rfl ?_
  have hc1 := c_laws_szModS' b l k h hk2 hk1 (fun m hm k a1 a2 => c_laws_szMod b m (hf m hm) k a1 a2)
  rw [show (if k - (l.length : Int) < 0 then -1 else szL ModT.sz l (k - l.length)) = szModL l k from rfl] at hc1
  have hneg := szModL_neg l k
  simp only [cw] at hc1
  generalize szModL l k = r at hc1 hneg ⊢
  by_cases hr : r < 0
  · have := hneg hr
    subst this
    simp [encM, hc1]
  · simp [encM, hc1, hr]

theorem list18 (cs : List Int) (h : cs.length = 18) : ∃ c0 c1 c2 c3 c4 c5 c6 c7 c8 c9 c10 c11 c12 c13 c14 c15 c16 c17 : Int, cs = [c0, c1, c2, c3, c4, c5, c6, c7, c8, c9, c10, c11, c12, c13, c14, c15, c16, c17] := by
  cases cs with
  | nil => simp at h
  | cons c0 cs =>
  cases cs with
  | nil => simp at h
  | cons c1 cs =>
  cases cs with
  | nil => simp at h
  | cons c2 cs =>
  cases cs with
  | nil => simp at h
  | cons c3 cs =>
  cases cs with
  | nil => simp at h
  | cons c4 cs =>
  cases cs with
  | nil => simp at h
  | cons c5 cs =>
  cases cs with
  | nil => simp at h
  | cons c6 cs =>
  cases cs with
  | nil => simp at h
  | cons c7 cs =>
  cases cs with
  | nil => simp at h
  | cons c8 cs =>
  cases cs with
  | nil => simp at h
  | cons c9 cs =>
  cases cs with
  | nil => simp at h
  | cons c10 cs =>
  cases cs with
  | nil => simp at h
  | cons c11 cs =>
  cases cs with
  | nil => simp at h
  | cons c12 cs =>
  cases cs with
  | nil => simp at h
  | cons c13 cs =>
  cases cs with
  | nil => simp at h
  | cons c14 cs =>
  cases cs with
  | nil => simp at h
  | cons c15 cs =>
  cases cs with
  | nil => simp at h
  | cons c16 cs =>
  cases cs with
  | nil => simp at h
  | cons c17 cs =>
  cases cs with
  | cons x y => simp at h
  | nil => exact ⟨c0, c1, c2, c3, c4, c5, c6, c7, c8, c9, c10, c11, c12, c13, c14, c15, c16, c17, rfl⟩

end Go.Proofs.YtckojpaklblnpaaDoor.Th
