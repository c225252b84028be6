/- Slices of bytes: what the harness does with them. -/
import Derived.Test.YtckojpaklblnpaaDoorComm
set_option linter.unusedVariables false
set_option linter.unusedSimpArgs false
set_option maxRecDepth 10000
set_option maxHeartbeats 2000000
namespace Go.Proofs.YtckojpaklblnpaaDoor.Th
open Go Go.RowKit Go.Proofs.YtckojpaklblnpaaDoor.Ev

/-- What the harness writes into a slice: bytes that count up. -/
def marks (k : Int) (n : Nat) : List Int := (List.range n).map fun (j : Nat) => (k + (j : Int)) % 256

@[simp] theorem marks_length (k : Int) (n : Nat) : (marks k n).length = n := by simp [marks]
theorem marks_succ (k : Int) (n : Nat) : marks k (n + 1) = marks k n ++ [(k + (n : Int)) % 256] := by simp [marks, List.range_succ]
theorem marks_get (k : Int) (n i : Nat) (h : i < (marks k n).length) : (marks k n)[i] = (k + (i : Int)) % 256 := by simp [marks]
theorem wrap_u8 (k : Int) : IntKind.wrap .u8 k = k % 256 := by simp [IntKind.wrap, IntKind.bits, IntKind.signed]


theorem c_laws_toByteS (b : Bool) (l : List Int) (h : l.length ≤ 2 ^ 40) : cw f_laws_toByteS [.val b (.sl 1 (l.map encB))] [] = some (.ov [.ow (.sl 1 (l.map encB))] false, []) := by
  refine callW_run (by simp) fs_laws_toByteS rfl rfl rfl ?_
  simp [maxBytes]
  rw [if_pos (by omega)]
  simp
  refine Mc.loop_ind (α := Nat × List (List T)) _ _ _ _ (fun x => I_laws_toByteS_0 (.val b (.sl 1 (l.map encB))) (.vw 88 [] 0 1 false) (.lit (.int .i64 x.1)) [(88, { cells := [.ow (.sl 1 x.2)], var := true })]) (fun x => l.length - x.1) (fun x => x.1 ≤ l.length ∧ x.2.length = l.length ∧ (∀ r ∈ x.2, r.length = 1) ∧ x.2.take x.1 = (l.take x.1).map encB) (0, List.replicate l.length [.lit (.int .u8 0)]) _ (by simp) (by simp) ?_
  intro ⟨i, rows⟩ ⟨hi, hn, h3, ha⟩ ih
  dsimp only at hi hn ha h3
  by_cases hl : i < l.length
  · have hl' : i < rows.length := by omega
    have hr : rows[i].length = 1 := h3 _ (List.getElem_mem hl')
    have hd : List.drop 1 (List.map C.ow rows[i]) = [] := List.drop_eq_nil_of_le (by simp [hr])
    have hd' : List.drop 1 rows[i] = [] := List.drop_eq_nil_of_le (by simp [hr])
    simp [hl, hl', encB, wrap_add i (by omega), hr, hd, hd']
    refine ih (i + 1, rows.set i (encB l[i])) _ (by simp [encB]) ⟨by simp; omega, by simpa using hn, set_all h3 (by simp [encB]), ?_⟩ (by simp; omega)
    simp only [take_set _ _ _ hl', take_next _ _ hl, ha, List.map_append, List.map_cons, List.map_nil]
  · simp [hl]
    rw [List.take_of_length_le (by omega), List.take_of_length_le (by omega)] at ha
    rw [ha]

theorem c_laws_eqByteS (b b' : Bool) (l k : List Int) (h : l.length ≤ 2 ^ 50) : cw f_laws_eqByteS [.val b (.sl 1 (l.map encB)), .val b' (.sl 1 (k.map encB))] [] = some (.lit (.bool (decide (l = k))), []) := by
  refine callW_run (by simp) fs_laws_eqByteS rfl rfl rfl ?_
  by_cases hlen : l.length = k.length
  · simp [hlen]
    refine Mc.loop_ind (α := Nat) _ _ _ _ (fun i => I_laws_eqByteS_0 (.val b (.sl 1 (l.map encB))) (.val b' (.sl 1 (k.map encB))) (.lit (.int .i64 i)) []) (fun i => l.length - i) (fun i => i ≤ l.length ∧ l.take i = k.take i) 0 _ (by simp) (by simp) ?_
    intro i ⟨hi, ha⟩ ih
    by_cases hl : i < l.length
    · have hl' : i < k.length := by omega
      by_cases ho : l[i] = k[i]
      · skip
        simp [hl, hl', encB, ho, wrap_add i (by omega)]
        refine ⟨.b (by kernel_rfl), ih (i + 1) _ (by simp) ⟨by omega, ?_⟩ (by omega)⟩
        rw [take_next l i hl, take_next k i hl', ha, ho]
      · skip
        simp [hl, hl', encB, ho]
        refine ⟨.b (by kernel_rfl), ?_⟩
        intro e
        subst e
        exact ho rfl
    · simp [hl]
      rw [List.take_of_length_le (by omega), List.take_of_length_le (by omega)] at ha
      exact ha
  · simp [hlen]
    intro e
    subst e
    exact hlen rfl

theorem c_laws_eqByteS_nil (b' : Bool) (k : List Int) : cw f_laws_eqByteS [.nils, .val b' (.sl 1 (k.map encB))] [] = some (.lit (.bool (decide ([] = k))), []) := by
  refine callW_run (by simp) fs_laws_eqByteS rfl rfl rfl ?_
  cases k with
  | nil => simp [Mc.at_loop]
  | cons a r =>
    have : ¬ ((0 : Int) = (r.length : Int) + 1) := by omega
    simp [this]

end Go.Proofs.YtckojpaklblnpaaDoor.Th
