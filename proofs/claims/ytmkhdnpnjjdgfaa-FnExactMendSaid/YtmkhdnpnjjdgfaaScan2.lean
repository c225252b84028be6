/- Streams, read. -/
import Derived.Test.YtmkhdnpnjjdgfaaComm
import Derived.Test.YtmkhdnpnjjdgfaaScan
set_option linter.unusedVariables false
set_option linter.unusedSimpArgs false
set_option maxRecDepth 10000
set_option maxHeartbeats 2000000
namespace Go.Proofs.Ytmkhdnpnjjdgfaa.Th
open Go Go.RowKit Go.Proofs.Ytmkhdnpnjjdgfaa.Ev
open Go.Proofs.Ytmkhdnpnjjdgfaa.Wire

/-- What stands at a place of a stream: why it ends there; or a record, and where it ends. -/
def stepS (l : List Int) (a : Nat) : Int ⊕ (List Int × Nat) :=
  if (getVarint l a).2.2 = 1 then .inl 1
  else if (getVarint l a).2.2 ≠ 0 ∨ ¬ (0 ≤ (getVarint l a).1 ∧ (getVarint l a).1 ≤ 5000) ∨ ((varint (getVarint l a).1.toNat).length : Int) ≠ (getVarint l a).2.1 - a then .inl 2
  else if (l.length : Int) - (getVarint l a).2.1 < (getVarint l a).1 + 4 then .inl 1
  else if fixedN (sumN ((l.drop (getVarint l a).2.1.toNat).take (getVarint l a).1.toNat)) 4 ≠ (l.drop ((getVarint l a).2.1.toNat + (getVarint l a).1.toNat)).take 4 then .inl 2
  else .inr ((l.drop (getVarint l a).2.1.toNat).take (getVarint l a).1.toNat, (getVarint l a).2.1.toNat + (getVarint l a).1.toNat + 4)

/-- A stream's records, where it ends, and why. -/
def scanF (l : List Int) : Nat → Nat → List (List Int) → List (List Int) × Nat × Int
  | 0, a, acc => (acc, a, 0)
  | f + 1, a, acc => if l.length ≤ a then (acc, a, 0) else
    match stepS l a with
    | .inl c => (acc, a, c)
    | .inr (x, a') => scanF l f a' (acc ++ [x])

def scanT (l : List Int) : List (List Int) × Nat × Int := if l.length > 60000 then ([], 0, 3) else scanF l l.length 0 []

theorem stepS_lt {l : List Int} {a : Nat} {x : List Int} {a' : Nat} (h : stepS l a = .inr (x, a')) : a < a' ∧ a' ≤ l.length ∧ x.length ≤ 5000 ∧ x.length + a < a' ∧ ∀ y ∈ x, y ∈ l := by
  unfold stepS at h
  have ht := getVarint_tells l a
  generalize getVarint l a = v at h ht
  obtain ⟨x1, y1, z1⟩ := v
  dsimp only at h ht
  split at h
  · cases h
  · split at h
    · cases h
    · split at h
      · cases h
      · split at h
        · cases h
        · rename_i h1 h2 h3 h4
          simp only [Sum.inr.injEq, Prod.mk.injEq] at h
          obtain ⟨rfl, rfl⟩ := h
          refine ⟨by omega, by omega, by simp only [List.length_take, List.length_drop]; omega, by simp only [List.length_take, List.length_drop]; omega, fun y hy => List.mem_of_mem_drop (List.mem_of_mem_take hy)⟩

/-- What stands as a result of a scan. -/
def scanV (nil : Bool) (r : List (List Int) × Nat × Int) : V := .tup [if nil && r.1.isEmpty then .nils else .ov [.ow (.sl 1 (r.1.map (encS 1 encB)))] false, .lit (.int .i64 r.2.1), .lit (.int .i64 r.2.2)]


theorem c_spec_l1Same (b b' : Bool) (l k : List Int) (h : l.length ≤ 2 ^ 50) : cw f_spec_l1Same [.val b (.sl 1 (l.map encB)), .val b' (.sl 1 (k.map encB))] [] = some (.lit (.bool (decide (l = k))), []) := by
  refine callW_run (by simp) fs_spec_l1Same rfl rfl rfl ?_
  by_cases hlen : l.length = k.length
  · simp [hlen]
    refine Mc.loop_ind (α := Nat) _ _ _ _ (fun i => I_spec_l1Same_0 (.val b (.sl 1 (l.map encB))) (.val b' (.sl 1 (k.map encB))) (.lit (.int .i64 i)) []) (fun i => l.length - i) (fun i => i ≤ l.length ∧ l.take i = k.take i) 0 _ (by simp) (by simp) ?_
    intro i ⟨hi, ha⟩ ih
    by_cases hl : i < l.length
    · have hl' : i < k.length := by omega
      by_cases ho : l[i] = k[i]
      · skip
        simp [hl, hl', encB, ho, wrap_add i (by omega)]
        refine ⟨by kernel_rfl, ih (i + 1) _ (by simp) ⟨by omega, ?_⟩ (by omega)⟩
        rw [take_next l i hl, take_next k i hl', ha, ho]
      · skip
        simp [hl, hl', encB, ho]
        refine ⟨by kernel_rfl, ?_⟩
        intro e
        subst e
        exact ho rfl
    · simp [hl]
      rw [List.take_of_length_le (by omega), List.take_of_length_le (by omega)] at ha
      exact ha
  · simp [hlen]
    intro e
    subst e
    exact hlen rfl

theorem c_spec_Scan (b : Bool) (l : List Int) (hB : IsB l) (h : l.length ≤ 2 ^ 40) : cw f_spec_Scan [.val b (.sl 1 (l.map encB))] [] = some (scanV false (scanT l), []) := by
  refine callW_run (by simp) fs_spec_Scan rfl rfl rfl ?_
  unfold scanT
  by_cases hlen : 60000 < l.length
  · have hlen' : (60000 : Int) < l.length := by omega
    simp [hlen, hlen', scanV]
  · have hlen' : ¬ (60000 : Int) < l.length := by omega
    simp [hlen, hlen']
    refine Mc.loop_ind (α := Nat × Nat × List (List Int)) _ _ _ _ (fun x => I_spec_Scan_0 (.val b (.sl 1 (l.map encB))) (.vw 104 [] 0 1 false) (.lit (.int .i64 x.2.1)) [(104, { cells := [.ow (.sl 1 (x.2.2.map (encS 1 encB)))], var := true })]) (fun x => x.1) (fun x => l.length ≤ x.2.1 + x.1 ∧ x.2.1 ≤ l.length ∧ x.2.2.length ≤ x.2.1 ∧ scanF l x.1 x.2.1 x.2.2 = scanF l l.length 0 []) (l.length, 0, []) _ (by simp) (by simp) ?_
    intro ⟨f, a, acc⟩ ⟨hf, ha, hacc, hr⟩ ih
    dsimp only at hf ha hacc hr
    by_cases hl : a < l.length
    · obtain ⟨f, rfl⟩ : ∃ g, f = g + 1 := ⟨f - 1, by omega⟩
      rw [scanF, if_neg (by omega)] at hr
      have hc := c_spec_GetVarint b l hB (by omega) a
      have ht := getVarint_tells l a
      have hrg := getVarint_range l a
      simp only [cw, tri] at hc
      have hst := @stepS_lt l a
      unfold stepS at hr hst
      generalize getVarint l a = v at hc hr ht hst hrg
      obtain ⟨x, y, z⟩ := v
      dsimp only at hc hr ht hst hrg
      by_cases hz1 : z = 1
      · rw [if_pos hz1] at hr
        dsimp only at hr
        simp [hl, hc, hz1, ← hr, scanV]
      · rw [if_neg hz1] at hr hst
        have hin := c_spec_l1In x 0 5000
        simp only [cw] at hin
        by_cases hz0 : z = 0
        · subst hz0
          by_cases hx : 0 ≤ x ∧ x ≤ 5000
          · obtain ⟨n, rfl⟩ := Int.eq_ofNat_of_zero_le hx.1
            obtain ⟨p, rfl⟩ : ∃ p : Nat, y = (p : Int) := ⟨y.toNat, by omega⟩
            have hp : a < p ∧ p ≤ l.length := by omega
            have hn : n ≤ 5000 := by omega
            have hpv := c_spec_PutVarint n (by omega)
            simp only [cw] at hpv
            simp only [decide_eq_true hx] at hin
            simp only [Int.toNat_natCast] at hr hst
            have hw1 : IntKind.wrap .i64 ((p : Int) - a) = (p : Int) - a := i64_wrap (by omega) (by omega)
            by_cases hvl : ((varint n).length : Int) = (p : Int) - a
            · rw [if_neg (by simp; omega)] at hr hst
              have hw2 : IntKind.wrap .i64 ((l.length : Int) - p) = (l.length : Int) - p := i64_wrap (by omega) (by omega)
              have hw3 : IntKind.wrap .i64 ((n : Int) + 4) = (n : Int) + 4 := i64_wrap (by omega) (by omega)
              by_cases hsh : (l.length : Int) - p < (n : Int) + 4
              · rw [if_pos hsh] at hr
                simp [hl, hc, hin, hpv, hw1, hvl, hw2, hw3, hsh, ← hr, scanV]
              · rw [if_neg hsh] at hr hst
                have hpn : p + n + 4 ≤ l.length := by omega
                have hw4 : IntKind.wrap .i64 ((p : Int) + n) = (p : Int) + n := i64_wrap (by omega) (by omega)
                have hw5 : IntKind.wrap .i64 ((p : Int) + n + 4) = (p : Int) + n + 4 := i64_wrap (by omega) (by omega)
                have hx' : List.take n (List.drop p (List.map encB l)) = ((l.drop p).take n).map encB := by rw [List.map_take, List.map_drop]
                have hw' : List.take 4 (List.drop (p + n) (List.map encB l)) = ((l.drop (p + n)).take 4).map encB := by rw [List.map_take, List.map_drop]
                have hxB : IsB ((l.drop p).take n) := fun y hy => hB y (List.mem_of_mem_drop (List.mem_of_mem_take hy))
                have hxl : ((l.drop p).take n).length ≤ 2 ^ 40 := by simp only [List.length_take, List.length_drop]; omega
                generalize (l.drop p).take n = x at hr hst hx' hxB hxl
                generalize (l.drop (p + n)).take 4 = w at hr hst hw'
                have hs := c_spec_l11Sum b x hxB (by omega)
                have he := c_spec_l1Same true b (fixedN (sumN x) 4) w (by rw [fixedN_len]; omega)
                simp only [cw] at hs he
                have i1 : (p : Int) + n ≤ l.length := by omega
                have i2 : (p : Int) + n + 4 ≤ l.length := by omega
                have i3 : ((p : Int) + n).toNat = p + n := by omega
                have i4 : ((p : Int) + n + 4).toNat = p + n + 4 := by omega
                have i5 : (0 : Int) ≤ (p : Int) + n := by omega
                have i6 : (p : Int) ≤ (p : Int) + n := by omega
                have i7 : (p : Int) + n ≤ (p : Int) + n + 4 := by omega
                have i8 : p + n + 4 - (p + n) = 4 := by omega
                have hm : x.length ≤ 140737488355328 := by omega
                have hm2 : (acc.length + 1) * 24 ≤ 140737488355328 := by omega
                by_cases heq : fixedN (sumN x) 4 = w
                · rw [if_neg (by simpa using heq)] at hr hst
                  simp only [decide_eq_true heq] at he
                  dsimp only at hr
                  obtain ⟨t1, t2, t3, t4, t5⟩ := hst rfl
                  have fin := fun σ' hσ => ih (f, p + n + 4, acc ++ [x]) σ' hσ ⟨by simp; omega, by simp; omega, by simp; omega, hr⟩ (by simp)
                  clear ih
                  dsimp only at fin
                  simp [hl, hc, hin, hpv, hw1, hvl, hw2, hw3, hsh, hw4, hw5, i1, i2, i3, i4, i5, i6, i7, i8, hx', hw', hs, he, maxBytes, hm, hm2]
                  refine ⟨by kernel_rfl, ?_⟩
                  exact fin _ (by simp [encS])
                · rw [if_pos (by simpa using heq)] at hr
                  simp only [decide_eq_false heq] at he
                  dsimp only at hr
                  simp [hl, hc, hin, hpv, hw1, hvl, hw2, hw3, hsh, hw4, hw5, i1, i2, i3, i4, i5, i6, i7, i8, hx', hw', hs, he]
                  refine ⟨by kernel_rfl, ?_⟩
                  simp [← hr, scanV]
            · rw [if_pos (by right; right; exact hvl)] at hr
              simp [hl, hc, hin, hpv, hw1, hvl, ← hr, scanV]
          · rw [if_pos (by right; left; exact hx)] at hr
            simp only [decide_eq_false hx] at hin
            simp [hl, hc, hin, ← hr, scanV]
        · rw [if_pos (by left; exact hz0)] at hr
          simp [hl, hc, hz1, hz0, ← hr, scanV]
    · have hr' : scanF l f a acc = (acc, a, 0) := by cases f with | zero => rfl | succ f => rw [scanF, if_pos (by omega)]
      rw [hr'] at hr
      simp [hl, ← hr, scanV]

end Go.Proofs.Ytmkhdnpnjjdgfaa.Th
