/- IRs: how great they are. -/
import Derived.Test.YtckojpaklblnpaaDoorComm
import Derived.Test.YtckojpaklblnpaaDoorIr
import Derived.Test.YtckojpaklblnpaaDoorBytesS
import Derived.Test.YtckojpaklblnpaaDoorWire
set_option linter.unusedVariables false
set_option linter.unusedSimpArgs false
set_option maxRecDepth 10000
set_option maxHeartbeats 2000000
namespace Go.Proofs.YtckojpaklblnpaaDoor.Th
open Go Go.RowKit Go.Proofs.YtckojpaklblnpaaDoor.Ev

open Go.Proofs.YtckojpaklblnpaaDoor.Wire

mutual
def OpT.sz : OpT → Int → Int
  | .mk _ _ _ _ _ t _ _ i, k => if szF t k < 0 then -1 else if szF t k - i.length < 0 then -1 else szOps i (szF t k - i.length)
def szOps : List OpT → Int → Int
  | [], k => k
  | x :: r, k => if x.sz k < 0 then -1 else szOps r (x.sz k)
end

theorem szOps_eq : ∀ (l : List OpT) (k : Int), szOps l k = szL OpT.sz l k
  | [], _ => by simp [szOps, szL]
  | x :: r, k => by simp only [szOps, szL, szOps_eq r]

def szOpL (l : List OpT) (k : Int) : Int := if k - l.length < 0 then -1 else szL OpT.sz l (k - l.length)

theorem OpT.sz_eq (x : OpT) (k : Int) : x.sz k = if szF x.tag k < 0 then -1 else szOpL x.inl (szF x.tag k) := by
  cases x
  simp only [OpT.sz, szOps_eq, tag, inl, szOpL]
  rfl

theorem szL_le {α : Type} {f : α → Int → Int} : ∀ (l : List α), (∀ x ∈ l, ∀ k, 0 ≤ k → f x k ≤ k) → ∀ k, 0 ≤ k → szL f l k ≤ k
  | [], _, k, _ => by simp [szL]
  | x :: r, h, k, hk => by
    rw [szL]
    have h1 := h x (by simp) k hk
    split
    · omega
    · have := szL_le r (fun y hy => h y (by simp [hy])) (f x k) (by omega)
      omega

theorem OpT.sz_le (x : OpT) (k : Int) (hk : 0 ≤ k) : x.sz k ≤ k := by
  rw [OpT.sz_eq]
  have h1 := szF_le x.tag k hk
  split
  · omega
  · unfold szOpL
    split
    · omega
    · have := szL_le x.inl (fun y hy k' hk' => OpT.sz_le y k' hk') (szF x.tag k - x.inl.length) (by omega)
      omega
termination_by SizeOf.sizeOf x
decreasing_by exact OpT.mem_lt hy

theorem szL_mem {α : Type} {f : α → Int → Int} : ∀ (l : List α), (∀ x ∈ l, ∀ k, 0 ≤ k → f x k ≤ k) → ∀ k, 0 ≤ k → 0 ≤ szL f l k → ∀ x ∈ l, ∃ k', 0 ≤ k' ∧ k' ≤ k ∧ 0 ≤ f x k'
  | [], _, _, _, _, _, h => by cases h
  | x :: r, h, k, hk, hs, y, hy => by
    rw [szL] at hs
    have h1 := h x (by simp) k hk
    split at hs
    · omega
    · rcases List.mem_cons.mp hy with rfl | hy
      · exact ⟨k, hk, Int.le_refl _, by omega⟩
      · obtain ⟨k', a1, a2, a3⟩ := szL_mem r (fun z hz => h z (by simp [hz])) (f x k) (by omega) hs y hy
        exact ⟨k', a1, by omega, a3⟩

theorem szF_ok {α : Type} (a : List α) (k : Int) (h : 0 ≤ szF a k) : szF a k = k - a.length := by
  unfold szF at h ⊢
  split
  · rename_i h1; rw [if_pos h1] at h; omega
  · rfl

theorem OpT.small_of (x : OpT) (k : Int) (hk : 0 ≤ k) (hk2 : k ≤ 2 ^ 40) (h : 0 ≤ x.sz k) : x.Small := by
  rw [OpT.sz_eq] at h
  split at h
  · omega
  · rename_i h1
    have h2 := szF_ok x.tag k (by omega)
    unfold szOpL at h
    split at h
    · omega
    · rename_i h3
      refine ⟨x, by omega, by omega, fun y hy => ?_⟩
      obtain ⟨k', a1, a2, a3⟩ := szL_mem x.inl (fun z _ k hk => OpT.sz_le z k hk) _ (by omega) h y hy
      exact OpT.small_of y k' a1 (by omega) a3
termination_by SizeOf.sizeOf x
decreasing_by exact OpT.mem_lt hy

theorem szL_neg {α : Type} {f : α → Int → Int} : ∀ (l : List α) (k : Int), 0 ≤ k → szL f l k < 0 → szL f l k = -1
  | [], k, hk, h => by rw [szL] at h; omega
  | x :: r, k, hk, h => by
    rw [szL] at h ⊢
    split
    · rfl
    · rename_i h1
      rw [if_neg h1] at h
      exact szL_neg r _ (by omega) h

theorem szOpL_neg (l : List OpT) (k : Int) (h : szOpL l k < 0) : szOpL l k = -1 := by
  unfold szOpL at h ⊢
  split
  · rfl
  · rename_i h1
    rw [if_neg h1] at h
    exact szL_neg l _ (by omega) h

/-- No list in it is longer than a list may be. -/
inductive OpT.Fits : OpT → Prop
  | mk (x : OpT) (h1 : x.tag.length ≤ maxLen) (h2 : x.inl.length ≤ maxLen) (h3 : ∀ y ∈ x.inl, OpT.Fits y) (h4 : IsB x.tag) : OpT.Fits x

theorem OpT.Fits.inv {x : OpT} (h : x.Fits) : x.tag.length ≤ maxLen ∧ x.inl.length ≤ maxLen ∧ (∀ y ∈ x.inl, y.Fits) ∧ IsB x.tag := by
  cases h with
  | mk _ h1 h2 h3 h4 => exact ⟨h1, h2, h3, h4⟩

theorem szLe_laws_szOpS (x : OpT) (k : Int) (h : 0 ≤ k) : x.sz k ≤ k := OpT.sz_le x k h

theorem c_laws_szOpS' (b : Bool) (l : List OpT) (left : Int) (h : l.length ≤ maxLen) (h1 : left ≤ 2 ^ 50) (h2 : 0 ≤ left) (hin : ∀ x ∈ l, ∀ k : Int, 0 ≤ k → k ≤ 2 ^ 50 → cw f_laws_szOp [.agg b x.enc, .lit (.int .i64 k)] [] = some (.lit (.int .i64 (x.sz k)), [])) : cw f_laws_szOpS [.val b (.sl 9 (l.map OpT.enc)), .lit (.int .i64 left)] [] = some (.lit (.int .i64 (if left - l.length < 0 then -1 else szL OpT.sz l (left - l.length))), []) := by
  refine callW_run (by simp) fs_laws_szOpS rfl rfl rfl ?_
  have hw : IntKind.wrap .i64 (left - l.length) = left - l.length := i64_wrap (by unfold maxLen at h; omega) (by omega)
  by_cases hl0 : left - l.length < 0
  · simp [hl0, hw]
  · simp [hl0, hw]
    refine Mc.loop_ind (α := Nat × Int) _ _ _ _ (fun x => I_laws_szOpS_0 (.val b (.sl 9 (l.map OpT.enc))) (.lit (.int .i64 x.2)) (.lit (.int .i64 x.1)) []) (fun x => l.length - x.1) (fun x => x.1 ≤ l.length ∧ 0 ≤ x.2 ∧ x.2 ≤ 2 ^ 50 ∧ szL OpT.sz (l.drop x.1) x.2 = szL OpT.sz l (left - l.length)) (0, left - l.length) _ (by simp) (by simp; omega) ?_
    intro ⟨i, k⟩ ⟨hi, hk1, hk2, ha⟩ ih
    dsimp only at hi hk1 hk2 ha
    by_cases hl : i < l.length
    · have hc := hin l[i] (List.getElem_mem hl) k hk1 hk2
      simp only [cw, OpT.enc_eq] at hc
      rw [List.drop_eq_getElem_cons hl, szL] at ha
      have hle := szLe_laws_szOpS l[i] k hk1
      generalize hr : OpT.sz l[i] k = r at hc ha hle
      by_cases hneg : r < 0
      · rw [if_pos hneg] at ha
        simp [hl, OpT.enc_eq, hc, hneg, ← ha]
      · rw [if_neg hneg] at ha
        simp [hl, OpT.enc_eq, hc, hneg, wrap_add i (by omega)]
        refine ih (i + 1, r) _ (by simp) ⟨by simp; omega, by simp; omega, by simp; omega, ha⟩ (by simp; omega)
    · rw [List.drop_eq_nil_of_le (by omega), szL] at ha
      simp [hl, ← ha]

theorem c_laws_szOp (b : Bool) (x : OpT) (hf : x.Fits) (k : Int) (hk1 : 0 ≤ k) (hk2 : k ≤ 2 ^ 50) : cw f_laws_szOp [.agg b x.enc, .lit (.int .i64 k)] [] = some (.lit (.int .i64 (x.sz k)), []) := by
  obtain ⟨h1, h2, h3, h4⟩ := hf.inv
  have hc1 := c_laws_szByteS b x.tag k h1 hk2 hk1
  have hle := szF_le x.tag k hk1
  rw [show (if k - (x.tag.length : Int) < 0 then -1 else k - x.tag.length) = szF x.tag k from rfl] at hc1
  rw [OpT.sz_eq]
  refine callW_run (by simp) fs_laws_szOp rfl rfl rfl ?_
  simp only [cw] at hc1
  by_cases hn : szF x.tag k < 0
  · rw [if_pos hn]
    simp [OpT.enc_eq, hc1, hn]
  · rw [if_neg hn]
    have hc2 := c_laws_szOpS' b x.inl (szF x.tag k) h2 (by omega) (by omega) (fun y hy k hk1 hk2 => c_laws_szOp b y (h3 y hy) k hk1 hk2)
    rw [show (if szF x.tag k - (x.inl.length : Int) < 0 then -1 else szL OpT.sz x.inl (szF x.tag k - x.inl.length)) = szOpL x.inl (szF x.tag k) from rfl] at hc2
    simp only [cw] at hc2
    have hneg := szOpL_neg x.inl (szF x.tag k)
    generalize szOpL x.inl (szF x.tag k) = r at hc2 hneg ⊢
    by_cases hr : r < 0
    · have := hneg hr
      subst this
      simp [OpT.enc_eq, hc1, hn, hc2]
    · simp [OpT.enc_eq, hc1, hn, hc2, hr]
termination_by SizeOf.sizeOf x
decreasing_by exact OpT.mem_lt hy

end Go.Proofs.YtckojpaklblnpaaDoor.Th
