/- FnExactPutStream: what its functions compute. -/
import Derived.Test.YtckojpaklblnpaaDoorBytesS
import Derived.Test.YtckojpaklblnpaaDoorRecord
set_option linter.unusedVariables false
set_option linter.unusedSimpArgs false
set_option maxRecDepth 10000
set_option maxHeartbeats 2000000
namespace Go.Proofs.YtckojpaklblnpaaDoor.Th
open Go Go.RowKit Go.Proofs.YtckojpaklblnpaaDoor.Ev Go.Proofs.YtckojpaklblnpaaDoor.Wire

theorem record_le (x : List Int) (h : x.length ≤ 5000) : (record x).length ≤ 5014 := by
  unfold record
  rw [if_neg (by omega)]
  have := varint_short x.length (by omega)
  simp [fixedN_len]
  omega

theorem record_pos (x : List Int) (h : x.length ≤ 5000) : 0 < (record x).length := by
  unfold record
  rw [if_neg (by omega)]
  simp [fixedN_len]
  omega

/-- The records of the first of some slices. -/
def pre (ls : List (List Int)) (i : Nat) : List Int := ((ls.take i).map record).flatten
theorem pre_zero (ls : List (List Int)) : pre ls 0 = [] := by simp [pre]
theorem pre_succ (ls : List (List Int)) (i : Nat) (h : i < ls.length) : pre ls (i + 1) = pre ls i ++ record ls[i] := by
  unfold pre; rw [take_next ls i h, List.map_append, List.flatten_append, List.map_singleton, List.flatten_singleton]
theorem pre_all (ls : List (List Int)) (i : Nat) (h : ls.length ≤ i) : pre ls i = (ls.map record).flatten := by unfold pre; rw [List.take_of_length_le h]
theorem pre_le (ls : List (List Int)) (i : Nat) : (pre ls i).length ≤ (ls.map record).flatten.length := by
  unfold pre
  conv => rhs; rw [← List.take_append_drop i ls]
  rw [List.map_append, List.flatten_append, List.length_append]; omega

/-- A stream. -/
def streamOf (ls : List (List Int)) : List Int := if (∀ x ∈ ls, x.length ≤ 5000) ∧ (ls.map record).flatten.length ≤ 60000 then (ls.map record).flatten else []

theorem streamOf_le (ls : List (List Int)) : (streamOf ls).length ≤ 60000 := by
  unfold streamOf
  split
  · rename_i h; exact h.2
  · simp

theorem szSS_ok {ls : List (List Int)} {r : Int} (hr : (if (1048576 : Int) - ls.length < 0 then -1 else szL szF ls (1048576 - ls.length)) = r) (h : ¬ r < 0) : ls.length ≤ 1048576 ∧ (∀ x ∈ ls, x.length ≤ 1048576) ∧ sumI (ls.map List.length) ≤ 1048576 := by
  by_cases hh : (1048576 : Int) - ls.length < 0
  · rw [if_pos hh] at hr; omega
  · rw [if_neg hh] at hr
    refine ⟨by omega, ?_, ?_⟩
    · intro x hx
      have := szL_all (f := szF) (p := fun (a : List Int) k => (a.length : Int) ≤ k) (fun a k => by unfold szF; split <;> omega) (fun a k hk => by unfold szF at hk; split at hk <;> omega) (fun a k k' h1 h2 => by omega) ls (1048576 - ls.length) (by omega) x hx
      omega
    · have key : ∀ (l : List (List Int)) (k : Int), 0 ≤ k → 0 ≤ szL szF l k → sumI (l.map List.length) ≤ k := by
        intro l
        induction l with
        | nil => intro k h0 _; simpa [sumI] using h0
        | cons x r ih =>
          intro k h0 h1
          rw [szL] at h1
          split at h1
          · omega
          · rename_i hn
            have h2 := ih _ (by omega) h1
            have h3 : szF x k = k - x.length := by
              unfold szF at hn ⊢
              by_cases h4 : k - (x.length : Int) < 0
              · rw [if_pos h4] at hn; omega
              · rw [if_neg h4]
            rw [h3] at h2
            simp only [sumI, List.map_cons, List.sum_cons] at h2 ⊢
            omega
      have := key ls (1048576 - ls.length) (by omega) (by rw [hr]; omega)
      omega

end Go.Proofs.YtckojpaklblnpaaDoor.Th
