/- Slices of slices of bytes: what the harness does with them. -/
import Derived.Test.YtmkhdnpnjjdgfaaComm
import Derived.Test.YtmkhdnpnjjdgfaaBytes
set_option linter.unusedVariables false
set_option linter.unusedSimpArgs false
set_option maxRecDepth 10000
set_option maxHeartbeats 2000000
namespace Go.Proofs.Ytmkhdnpnjjdgfaa.Th
open Go Go.RowKit Go.Proofs.Ytmkhdnpnjjdgfaa.Ev

theorem c_laws_szByteS (b : Bool) (l : List Int) (left : Int) (h : l.length ≤ maxLen) (h1 : left ≤ 2 ^ 50) (h2 : 0 ≤ left) : cw f_laws_szByteS [.val b (.sl 1 (l.map encB)), .lit (.int .i64 left)] [] = some (.lit (.int .i64 (if left - l.length < 0 then -1 else left - l.length)), []) := by
  refine callW_run (by simp) fs_laws_szByteS rfl rfl rfl ?_
  have : IntKind.wrap .i64 (left - l.length) = left - l.length := i64_wrap (by unfold maxLen at h; omega) (by omega)
  by_cases hl : left - l.length < 0 <;> simp [hl, this]

theorem szLe_laws_szByteSS (a : List Int) (k : Int) (h : 0 ≤ k) : szF a k ≤ k := szF_le a k h

theorem c_laws_szByteSS (b : Bool) (l : List (List Int)) (left : Int) (h : l.length ≤ maxLen) (h1 : left ≤ 2 ^ 50) (h2 : 0 ≤ left) (hin : ∀ x ∈ l, x.length ≤ maxLen) : cw f_laws_szByteSS [.val b (.sl 1 (l.map (encS 1 encB))), .lit (.int .i64 left)] [] = some (.lit (.int .i64 (if left - l.length < 0 then -1 else szL szF l (left - l.length))), []) := by
  refine callW_run (by simp) fs_laws_szByteSS rfl rfl rfl ?_
  have hw : IntKind.wrap .i64 (left - l.length) = left - l.length := i64_wrap (by unfold maxLen at h; omega) (by omega)
  by_cases hl0 : left - l.length < 0
  · simp [hl0, hw]
  · simp [hl0, hw]
    refine Mc.loop_ind (α := Nat × Int) _ _ _ _ (fun x => I_laws_szByteSS_0 (.val b (.sl 1 (l.map (encS 1 encB)))) (.lit (.int .i64 x.2)) (.lit (.int .i64 x.1)) []) (fun x => l.length - x.1) (fun x => x.1 ≤ l.length ∧ 0 ≤ x.2 ∧ x.2 ≤ 2 ^ 50 ∧ szL szF (l.drop x.1) x.2 = szL szF l (left - l.length)) (0, left - l.length) _ (by simp) (by simp; omega) ?_
    intro ⟨i, k⟩ ⟨hi, hk1, hk2, ha⟩ ih
    dsimp only at hi hk1 hk2 ha
    by_cases hl : i < l.length
    · have hc := c_laws_szByteS b l[i] k (hin _ (List.getElem_mem hl)) hk2 hk1
      simp only [cw, encS, encB] at hc
      rw [show (if k - (l[i].length : Int) < 0 then -1 else k - l[i].length) = szF l[i] k from rfl] at hc
      rw [List.drop_eq_getElem_cons hl, szL] at ha
      have hle := szLe_laws_szByteSS l[i] k hk1
      generalize hr : szF l[i] k = r at hc ha hle
      by_cases hneg : r < 0
      · rw [if_pos hneg] at ha
        simp [hl, encS, encB, hc, hneg, ← ha]
      · rw [if_neg hneg] at ha
        simp [hl, encS, encB, hc, hneg, wrap_add i (by omega)]
        refine ih (i + 1, r) _ (by simp) ⟨by simp; omega, by simp; omega, by simp; omega, ha⟩ (by simp; omega)
    · rw [List.drop_eq_nil_of_le (by omega), szL] at ha
      simp [hl, ← ha]

theorem c_laws_toByteSS (b : Bool) (l : List (List Int)) (h : l.length ≤ 2 ^ 40) (hin : ∀ x ∈ l, x.length ≤ 2 ^ 40) : cw f_laws_toByteSS [.val b (.sl 1 (l.map (encS 1 encB)))] [] = some (.ov [.ow (.sl 1 (l.map (encS 1 encB)))] false, []) := by
  refine callW_run (by simp) fs_laws_toByteSS rfl rfl rfl ?_
  simp [maxBytes]
  rw [if_pos (by omega)]
  simp
  refine Mc.loop_ind (α := Nat × List (List T)) _ _ _ _ (fun x => I_laws_toByteSS_0 (.val b (.sl 1 (l.map (encS 1 encB)))) (.vw 88 [] 0 1 false) (.lit (.int .i64 x.1)) [(88, { cells := [.ow (.sl 1 x.2)], var := true })]) (fun x => l.length - x.1) (fun x => x.1 ≤ l.length ∧ x.2.length = l.length ∧ (∀ r ∈ x.2, r.length = 1) ∧ x.2.take x.1 = (l.take x.1).map (encS 1 encB)) (0, List.replicate l.length [.sl 0 []]) _ (by simp) (by simp) ?_
  intro ⟨i, rows⟩ ⟨hi, hn, h3, ha⟩ ih
  dsimp only at hi hn ha h3
  by_cases hl : i < l.length
  · have hl' : i < rows.length := by omega
    have hr : rows[i].length = 1 := h3 _ (List.getElem_mem hl')
    have hd : List.drop 1 (List.map C.ow rows[i]) = [] := List.drop_eq_nil_of_le (by simp [hr])
    have hd' : List.drop 1 rows[i] = [] := List.drop_eq_nil_of_le (by simp [hr])
    have hc := c_laws_toByteS b l[i] (hin _ (List.getElem_mem hl))
    simp only [cw, encS, encB] at hc
    simp [hl, hl', encS, encB, hc, wrap_add i (by omega), hr, hd, hd']
    refine ih (i + 1, rows.set i ((encS 1 encB) l[i])) _ (by simp [encS, encB]) ⟨by simp; omega, by simpa using hn, set_all h3 (by simp [encS, encB]), ?_⟩ (by simp; omega)
    simp only [take_set _ _ _ hl', take_next _ _ hl, ha, List.map_append, List.map_cons, List.map_nil]
  · simp [hl]
    rw [List.take_of_length_le (by omega), List.take_of_length_le (by omega)] at ha
    rw [ha]

theorem c_laws_eqByteSS (b b' : Bool) (l k : List (List Int)) (h : l.length ≤ 2 ^ 50) (hin : ∀ x ∈ l, x.length ≤ 2 ^ 40) : cw f_laws_eqByteSS [.val b (.sl 1 (l.map (encS 1 encB))), .val b' (.sl 1 (k.map (encS 1 encB)))] [] = some (.lit (.bool (decide (l = k))), []) := by
  refine callW_run (by simp) fs_laws_eqByteSS rfl rfl rfl ?_
  by_cases hlen : l.length = k.length
  · simp [hlen]
    refine Mc.loop_ind (α := Nat) _ _ _ _ (fun i => I_laws_eqByteSS_0 (.val b (.sl 1 (l.map (encS 1 encB)))) (.val b' (.sl 1 (k.map (encS 1 encB)))) (.lit (.int .i64 i)) []) (fun i => l.length - i) (fun i => i ≤ l.length ∧ l.take i = k.take i) 0 _ (by simp) (by simp) ?_
    intro i ⟨hi, ha⟩ ih
    by_cases hl : i < l.length
    · have hl' : i < k.length := by omega
      have hc := c_laws_eqByteS b b' l[i] k[i] (Nat.le_trans (hin _ (List.getElem_mem hl)) (by omega))
      simp only [cw, encS, encB] at hc
      by_cases ho : l[i] = k[i]
      · skip
        simp [ho] at hc
        simp [hl, hl', encS, encB, hc, ho, wrap_add i (by omega)]
        refine ⟨.b (by kernel_rfl), ih (i + 1) _ (by simp) ⟨by omega, ?_⟩ (by omega)⟩
        rw [take_next l i hl, take_next k i hl', ha, ho]
      · skip
        simp [ho] at hc
        simp [hl, hl', encS, encB, hc, ho]
        refine ⟨.b (by kernel_rfl), ?_⟩
        intro e
        subst e
        exact ho rfl
    · simp [hl]
      rw [List.take_of_length_le (by omega), List.take_of_length_le (by omega)] at ha
      exact ha
  · simp [hlen]
    intro e
    subst e
    exact hlen rfl

/-- Bytes that a cell owns. -/
def cB (x : List Int) : List C := [C.ow (.sl 1 (x.map encB))]

/-- What the harness writes into slices: bytes that count up through all of them. -/
def marksS (k : Int) : List Nat → List (List Int)
  | [] => []
  | n :: r => marks k n :: marksS (k + n) r

def sumI (l : List Nat) : Int := ((l.sum : Nat) : Int)

@[simp] theorem marksS_length : ∀ (l : List Nat) (k : Int), (marksS k l).length = l.length
  | [], _ => rfl
  | n :: r, k => by simp [marksS, marksS_length r]

theorem marksS_succ : ∀ (l : List Nat) (k : Int) (i : Nat) (h : i < l.length), marksS k (l.take (i + 1)) = marksS k (l.take i) ++ [marks (k + sumI (l.take i)) l[i]]
  | [], _, _, h => by cases h
  | n :: r, k, 0, _ => by simp [marksS, sumI]
  | n :: r, k, i + 1, h => by
    have h' : i < r.length := by simpa using h
    simp only [List.take_succ_cons, marksS, List.cons_append, marksS_succ r (k + n) i h', List.getElem_cons_succ, sumI, List.sum_cons]
    congr 4
    omega

theorem sumI_succ (l : List Nat) (i : Nat) (h : i < l.length) : sumI (l.take (i + 1)) = sumI (l.take i) + l[i] := by
  unfold sumI; rw [take_next l i h, List.sum_append_nat]; simp

theorem sumI_le (l : List Nat) (i : Nat) : sumI (l.take i) ≤ sumI l := by
  unfold sumI
  have : l.sum = (l.take i).sum + (l.drop i).sum := by rw [← List.sum_append_nat, List.take_append_drop]
  omega

theorem sumI_nn (l : List Nat) : 0 ≤ sumI l := by unfold sumI; omega

theorem rowsToT_cB : ∀ (l : List (List Int)), rowsToT (l.map cB) = some (l.map (encS 1 encB))
  | [] => by simp
  | x :: r => by simp [rowsToT_cB r, cB, encS]

theorem c_laws_markByteSS_nil (k : Int) : cw f_laws_markByteSS [.nils, .lit (.int .i64 k)] [] = some (.lit (.int .i64 k), []) := by
  refine callW_run (by simp) fs_laws_markByteSS rfl rfl rfl ?_
  simp [Mc.at_loop]

theorem c_laws_markByteSS (vr : Bool) (ls : List (List Int)) (k : Int) (h : ls.length ≤ 2 ^ 40) (hin : ∀ x ∈ ls, x.length ≤ 2 ^ 40) (hs : sumI (ls.map List.length) ≤ 2 ^ 45) (h0 : 0 ≤ k) (h1 : k ≤ 2 ^ 45) : cw f_laws_markByteSS [.vw 0 [] 0 1 false, .lit (.int .i64 k)] [{ cells := [.ow (.sl 1 (ls.map (encS 1 encB)))], var := vr }] = some (.lit (.int .i64 (k + sumI (ls.map List.length))), [some { cells := [if ls = [] then .ow (.sl 1 []) else .own 1 ((marksS k (ls.map List.length)).map cB)], var := vr }]) := by
  refine callW_run (by simp) fs_laws_markByteSS rfl rfl rfl ?_
  simp
  refine Mc.loop_ind (α := Nat × List (List C)) _ _ _ _ (fun x => I_laws_markByteSS_0 (.vw 0 [] 0 1 false) (.lit (.int .i64 (k + sumI ((ls.map List.length).take x.1)))) (.lit (.int .i64 x.1)) [(0, { cells := [if x.1 = 0 then .ow (.sl 1 (ls.map (encS 1 encB))) else .own 1 x.2], var := vr })]) (fun x => ls.length - x.1) (fun x => x.1 ≤ ls.length ∧ x.2.length = ls.length ∧ x.2.take x.1 = (marksS k ((ls.map List.length).take x.1)).map cB ∧ x.2.drop x.1 = (ls.drop x.1).map cB) (0, ls.map cB) _ (by simp [sumI]) ⟨by simp, by simp, by simp [marksS], by simp⟩ ?_
  intro ⟨i, R⟩ ⟨hi, hn, hm, hd⟩ ih
  dsimp only at hi hn hm hd
  by_cases hl : i < ls.length
  · have hl' : i < R.length := by omega
    have hg : R[i] = cB ls[i] := by
      rw [List.drop_eq_getElem_cons hl', List.drop_eq_getElem_cons hl, List.map_cons] at hd
      exact (List.cons.inj hd).1
    have hle := sumI_le (ls.map List.length) i
    have hnn := sumI_nn ((ls.map List.length).take i)
    have hin' := hin _ (List.getElem_mem hl)
    have hss := sumI_succ (ls.map List.length) i (by simpa using hl)
    have hms := marksS_succ (ls.map List.length) k i (by simpa using hl)
    simp only [List.getElem_map] at hss hms
    have hc := c_laws_markByteS false ls[i] (k + sumI ((ls.map List.length).take i)) hin' (by omega) (by omega)
    simp only [cw] at hc
    generalize hM : marks (k + sumI ((ls.map List.length).take i)) ls[i].length = M at hc hms
    have fin := fun σ' hσ => ih (i + 1, R.set i (cB M)) σ' hσ ⟨by simp; omega, by simpa using hn, by simp only [take_set _ _ _ hl', hm, hms, List.map_append, List.map_cons, List.map_nil], by simp only [List.drop_set_of_lt (Nat.lt_succ_self i)]; rw [List.drop_eq_getElem_cons hl', List.drop_eq_getElem_cons hl, List.map_cons] at hd; exact (List.cons.inj hd).2⟩ (by simp; omega)
    clear ih
    dsimp only at fin
    rw [hss] at fin
    generalize sumI ((ls.map List.length).take i) = s at hc fin ⊢
    have hsum : k + (s + (ls[i].length : Int)) = k + s + ls[i].length := by omega
    rw [hsum] at fin
    by_cases h00 : i = 0
    · subst h00
      rw [List.drop_zero, List.drop_zero] at hd
      have w1 : IntKind.wrap .i64 1 = 1 := by decide
      have hco : List.map ((fun x => List.map C.ow x) ∘ encS 1 encB) ls = ls.map cB := List.map_congr_left fun _ _ => rfl
      simp [hl, encS, cB, hc, w1]
      exact fin _ (by simp [hd, cB, hco])
    · simp [hl, hl', hn, h00, hg, cB, hc, wrap_add i (by omega)]
      exact fin _ (by simp [cB])
  · have hi' : i = ls.length := by omega
    subst hi'
    rw [List.take_of_length_le (by omega)] at hm
    have ht : (ls.map List.length).take ls.length = ls.map List.length := List.take_of_length_le (by simp)
    rw [ht] at hm ⊢
    cases ls with
    | nil => simp
    | cons x r => simp [hm]

theorem marksS_get : ∀ (l : List Nat) (k : Int) (i : Nat) (h : i < l.length), (marksS k l)[i]'(by simpa using h) = marks (k + sumI (l.take i)) l[i]
  | [], _, _, h => by cases h
  | n :: r, k, 0, _ => by simp [marksS, sumI]
  | n :: r, k, i + 1, h => by
    have h' : i < r.length := by simpa using h
    simp only [marksS, List.getElem_cons_succ, marksS_get r (k + n) i h', List.take_succ_cons, sumI, List.sum_cons]
    congr 1
    omega

theorem c_laws_heldByteSS_nil (k : Int) : cw f_laws_heldByteSS [.nils, .lit (.int .i64 k)] [] = some (.lit (.int .i64 k), []) := by
  refine callW_run (by simp) fs_laws_heldByteSS rfl rfl rfl ?_
  simp [Mc.at_loop]

theorem c_laws_heldByteSS (b : Bool) (ns : List Nat) (k : Int) (h : ns.length ≤ 2 ^ 40) (hin : ∀ n ∈ ns, n ≤ 2 ^ 40) (hs : sumI ns ≤ 2 ^ 45) (h0 : 0 ≤ k) (h1 : k ≤ 2 ^ 45) : cw f_laws_heldByteSS [.val b (.sl 1 ((marksS k ns).map (encS 1 encB))), .lit (.int .i64 k)] [] = some (.lit (.int .i64 (k + sumI ns)), []) := by
  refine callW_run (by simp) fs_laws_heldByteSS rfl rfl rfl ?_
  simp
  refine Mc.loop_ind (α := Nat) _ _ _ _ (fun i => I_laws_heldByteSS_0 (.val b (.sl 1 ((marksS k ns).map (encS 1 encB)))) (.lit (.int .i64 (k + sumI (ns.take i)))) (.lit (.int .i64 i)) []) (fun i => ns.length - i) (fun i => i ≤ ns.length) 0 _ (by simp [sumI]) (by simp) ?_
  intro i hi ih
  by_cases hl : i < ns.length
  · have hl' : i < (marksS k ns).length := by simpa using hl
    have hle := sumI_le ns i
    have hnn := sumI_nn (ns.take i)
    have hss := sumI_succ ns i hl
    have hc := c_laws_heldByteS b ns[i] (k + sumI (ns.take i)) (hin _ (List.getElem_mem hl)) (by omega) (by omega)
    simp only [cw] at hc
    have hneg : ¬ (k + sumI (ns.take i) + (ns[i] : Int) < 0) := by omega
    have hsum : k + (sumI (ns.take i) + (ns[i] : Int)) = k + sumI (ns.take i) + ns[i] := by omega
    have fin := fun σ' hσ => ih (i + 1) σ' hσ (by omega) (by omega)
    clear ih
    rw [hss, hsum] at fin
    have hg := marksS_get ns k i hl
    simp [hl, hl', encS, hg, hc, hneg, wrap_add i (by omega)]
    exact fin _ (by simp [encS])
  · have hi' : i = ns.length := by omega
    subst hi'
    simp

end Go.Proofs.Ytmkhdnpnjjdgfaa.Th
