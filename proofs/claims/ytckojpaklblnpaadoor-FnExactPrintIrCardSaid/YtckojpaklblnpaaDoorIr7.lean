/- IRs: jumps. -/
import Derived.Test.YtckojpaklblnpaaDoorComm
import Derived.Test.YtckojpaklblnpaaDoorIr6
set_option linter.unusedVariables false
set_option linter.unusedSimpArgs false
set_option maxRecDepth 10000
set_option maxHeartbeats 2000000
namespace Go.Proofs.YtckojpaklblnpaaDoor.Th
open Go Go.RowKit Go.Proofs.YtckojpaklblnpaaDoor.Ev
open Go.Proofs.YtckojpaklblnpaaDoor.Wire

theorem idxOf_take_miss {α : Type} (p : α → Bool) (l : List α) (i : Nat) (h : i < l.length) (hp : p l[i] = false) : idxOf p (l.take (i + 1)) = idxOf p (l.take i) := by
  unfold idxOf
  rw [take_next l i h, List.findIdx?_append]
  cases hf : (l.take i).findIdx? p <;> simp [List.findIdx?_cons, hp]

theorem idxOf_take_hit {α : Type} (p : α → Bool) (l : List α) (i : Nat) (h : i < l.length) (hp : p l[i] = true) (hn : ∀ j (_ : j < i) (h' : j < l.length), p l[j] = false) : idxOf p (l.take (i + 1)) = i :=
  idxOf_at p _ i (by simp; omega) (by simpa using hp) fun j h1 h2 => by
    rw [List.getElem_take]
    exact hn j h1 (by omega)

theorem idxOf_range {α : Type} (p : α → Bool) (l : List α) : -1 ≤ idxOf p l ∧ idxOf p l < l.length ∨ idxOf p l = -1 := by
  unfold idxOf
  cases hf : l.findIdx? p with
  | none => right; rfl
  | some i =>
    obtain ⟨hi, _⟩ := List.findIdx?_eq_some_iff_getElem.mp hf
    left
    dsimp only
    omega

def isNum (k : Int) (x : OpT) : Bool := decide (x.num = k)

/-- Where the Op of a number stands. -/
def jmp (l : List OpT) (k : Nat) : Int := idxOf (isNum (k : Int)) l
def jl (l : List OpT) (n : Nat) : List Int := (List.range n).map (jmp l)
theorem jl_zero (l : List OpT) : jl l 0 = [] := rfl
theorem jl_succ (l : List OpT) (n : Nat) : jl l (n + 1) = jl l n ++ [jmp l n] := by simp [jl, List.range_succ]
theorem jl_len (l : List OpT) (n : Nat) : (jl l n).length = n := by simp [jl]

/-- What a Mod's jumps would be. -/
def jumpsT (l : List OpT) : List Int :=
  match l.getLast? with
  | none => []
  | some x => if x.num ≥ 64 then [] else jl l (x.num + 1).toNat

/-- Ops in order: numbers that ascend, from 1 on. -/
def Asc (l : List OpT) : Prop := (∀ x ∈ l, 1 ≤ x.num) ∧ ∀ i j (hi : i < l.length) (hj : j < l.length), i < j → l[i].num < l[j].num

theorem c_spec_l9Jumps (b : Bool) (m : ModT) (h : m.ops.length ≤ 2 ^ 40) (hA : Asc m.ops) : cw f_spec_l9Jumps [.agg b m.enc] [] = some (.ov [.ow (.sl 1 ((jumpsT m.ops).map encI))] false, []) := by
  refine callW_run (by simp) fs_spec_l9Jumps rfl rfl rfl ?_
  unfold jumpsT
  by_cases h0 : m.ops = []
  · simp [ModT.enc, h0]
  have hpos : 0 < m.ops.length := by cases hh : m.ops with | nil => exact absurd hh h0 | cons _ _ => simp
  have hgl : m.ops.getLast? = some (m.ops[m.ops.length - 1]'(by omega)) := by rw [List.getLast?_eq_getElem?, List.getElem?_eq_getElem]
  rw [hgl]
  dsimp only
  have h1 := hA.1 _ (List.getElem_mem (show m.ops.length - 1 < m.ops.length by omega))
  have hlt : m.ops.length - 1 < m.ops.length := by omega
  have hlen0 : ¬ m.ops.length = 0 := by omega
  have hw : IntKind.wrap .i64 ((m.ops.length : Int) - 1) = (m.ops.length : Int) - 1 := i64_wrap (by omega) (by omega)
  have hnn : ¬ ((m.ops.length : Int) - 1 < 0) := by omega
  have hto : ((m.ops.length : Int) - 1).toNat = m.ops.length - 1 := by omega
  generalize hx : m.ops[m.ops.length - 1] = x at h1
  by_cases h64 : x.num ≥ 64
  · have h64' : 64 ≤ x.num := h64
    rw [if_pos h64]
    simp [ModT.enc, hlen0, hw, hnn, hto, hlt, hx, OpT.enc_eq, h64']
  · have h64' : ¬ 64 ≤ x.num := h64
    rw [if_neg h64]
    simp [ModT.enc, hlen0, hw, hnn, hto, hlt, hx, OpT.enc_eq, h64']
    obtain ⟨N, hN⟩ : ∃ N : Nat, x.num = (N : Int) := ⟨x.num.toNat, by omega⟩
    rw [hN] at h1 h64 h64' ⊢
    have hN1 : ((N : Int) + 1).toNat = N + 1 := by omega
    refine Mc.loop_ind (α := Nat) _ _ _ _ (fun k => I_spec_l9Jumps_0 (.ptr 72 [(0, 0)] 0) (.lit (.int .i64 m.ops.length)) (.vw 96 [] 0 1 false) (.lit (.int .i64 k)) [(72, boxM b m), (96, { cells := [.ow (.sl 1 ((jl m.ops k).map encI))], var := true })]) (fun k => N + 1 - k) (fun k => k ≤ N + 1) 0 _ (by simp [jl_zero]) (by simp) ?_
    intro k hk ih
    by_cases hkl : k ≤ N
    · have hkl' : (k : Int) ≤ N := by omega
      simp [hw, hnn, hto, hlt, hx, OpT.enc_eq, hN, hkl, hkl']
      refine Mc.loop_ind (α := Nat) _ _ _ _ (fun i => I_spec_l9Jumps_1 (.ptr 72 [(0, 0)] 0) (.lit (.int .i64 m.ops.length)) (.vw 96 [] 0 1 false) (.lit (.int .i64 k)) (.lit (.int .i64 (idxOf (isNum (k : Int)) (m.ops.take i)))) (.lit (.int .i64 i)) [(72, boxM b m), (96, { cells := [.ow (.sl 1 ((jl m.ops k).map encI))], var := true })]) (fun i => m.ops.length - i) (fun i => i ≤ m.ops.length) 0 _ (by simp [idxOf]) (by simp) ?_
      intro i hi ih2
      by_cases hl : i < m.ops.length
      · by_cases hq : m.ops[i].num = (k : Int)
        · have hs := idxOf_take_hit (isNum (k : Int)) m.ops i hl (by simp [isNum, hq]) (fun j h1 h2 => by
            have := hA.2 j i h2 hl h1
            simp [isNum]
            omega)
          simp [hl, OpT.enc_eq, hq, wrap_add i (by omega)]
          exact ih2 (i + 1) _ (by simp [hs]) (by omega) (by omega)
        · have hs := idxOf_take_miss (isNum (k : Int)) m.ops i hl (by simp [isNum, hq])
          simp [hl, OpT.enc_eq, hq, wrap_add i (by omega)]
          exact ih2 (i + 1) _ (by simp [hs]) (by omega) (by omega)
      · rw [List.take_of_length_le (by omega)]
        have hjs := jl_succ m.ops k
        have hjl := jl_len m.ops k
        have hj : idxOf (isNum (k : Int)) m.ops = jmp m.ops k := rfl
        rw [hj]
        generalize jmp m.ops k = j at hjs
        generalize jl m.ops k = acc at hjs hjl
        have hm : (acc.length + 1) * 8 ≤ 140737488355328 := by omega
        simp [hl, wrap_add k (by omega), maxBytes, hm]
        exact ih (k + 1) _ (by simp [hjs, encI]) (by omega) (by omega)
    · have hkl' : ¬ (k : Int) ≤ N := by omega
      have : k = N + 1 := by omega
      subst this
      have e1 : ¬ ((N : Int) + 1 ≤ N) := by omega
      simp [hw, hnn, hto, hlt, hx, OpT.enc_eq, hN, hN1, e1]

theorem c_impl_jumpsOfS1 (b : Bool) (x : OpT) (i : Int) : cw f_impl_jumpsOfS1 [.agg b x.enc, .ptr 0 [(0, 0)] 0] [{ cells := [.own 1 [[.ow (.lit (.int .i64 i))]]], box := true }] = some (.lit (.bool (isNum i x)), [some { cells := [.own 1 [[.ow (.lit (.int .i64 i))]]], box := true }]) := by
  refine callW_run (by simp) fs_impl_jumpsOfS1 rfl rfl rfl ?_
  simp [OpT.enc_eq, isNum]

theorem c_impl_jumpsOf (b : Bool) (m : ModT) (h : m.ops.length ≤ 2 ^ 40) (hA : Asc m.ops) : cw f_impl_jumpsOf [.agg b m.enc] [] = some (if jumpsT m.ops = [] then .nils else .ov [.ow (.sl 1 ((jumpsT m.ops).map encI))] false, []) := by
  refine callW_run (by simp) fs_impl_jumpsOf rfl rfl rfl ?_
  by_cases h0 : m.ops = []
  · simp [ModT.enc, h0, jumpsT]
  have hpos : 0 < m.ops.length := by cases hh : m.ops with | nil => exact absurd hh h0 | cons _ _ => simp
  have hgl : m.ops.getLast? = some (m.ops[m.ops.length - 1]'(by omega)) := by rw [List.getLast?_eq_getElem?, List.getElem?_eq_getElem]
  have h1 := hA.1 _ (List.getElem_mem (show m.ops.length - 1 < m.ops.length by omega))
  have hlt : m.ops.length - 1 < m.ops.length := by omega
  have hlen0 : ¬ m.ops.length = 0 := by omega
  have hw : IntKind.wrap .i64 ((m.ops.length : Int) - 1) = (m.ops.length : Int) - 1 := i64_wrap (by omega) (by omega)
  have hnn : ¬ ((m.ops.length : Int) - 1 < 0) := by omega
  have hto : ((m.ops.length : Int) - 1).toNat = m.ops.length - 1 := by omega
  have hjt : jumpsT m.ops = if (m.ops[m.ops.length - 1]'(by omega)).num ≥ 64 then [] else jl m.ops ((m.ops[m.ops.length - 1]'(by omega)).num + 1).toNat := by unfold jumpsT; rw [hgl]
  generalize hx : m.ops[m.ops.length - 1] = x at h1 hjt
  by_cases h64 : x.num ≥ 64
  · have h64' : 64 ≤ x.num := h64
    rw [if_pos h64] at hjt
    rw [hjt, if_pos rfl]
    simp [ModT.enc, hlen0, hw, hnn, hto, hlt, hx, OpT.enc_eq, h64']
  · have h64' : ¬ 64 ≤ x.num := h64
    rw [if_neg h64] at hjt
    obtain ⟨N, hN⟩ : ∃ N : Nat, x.num = (N : Int) := ⟨x.num.toNat, by omega⟩
    have hN1 : ((N : Int) + 1).toNat = N + 1 := by omega
    rw [hN, hN1] at hjt
    have hne : jumpsT m.ops ≠ [] := by rw [hjt]; intro e; have := congrArg List.length e; rw [jl_len] at this; simp at this
    rw [if_neg hne, hjt]
    rw [hN] at h1 h64 h64'
    have hwN : IntKind.wrap .i64 ((N : Int) + 1) = (N : Int) + 1 := i64_wrap (by omega) (by omega)
    have hNn : ¬ ((N : Int) + 1 < 0) := by omega
    have hNm : (N + 1) * 8 ≤ 140737488355328 := by omega
    have hNp : (0 : Int) ≤ (N : Int) + 1 := by omega
    simp [ModT.enc, hlen0, hw, hnn, hto, hlt, hx, OpT.enc_eq, hN, h64', hwN, hNn, hN1, maxBytes, hNm, hNp]
    refine Mc.loop_ind (α := Nat × List (List T)) _ _ _ _ (fun x => I_impl_jumpsOf_0 (.ptr 72 [(0, 0)] 0) (.vw 96 [] 0 1 false) (.lit (.int .i64 ((N : Int) + 1))) (.lit (.int .i64 x.1)) [(72, boxM b m), (96, { cells := [.ow (.sl 1 x.2)], var := true })]) (fun x => N + 1 - x.1) (fun x => x.1 ≤ N + 1 ∧ x.2.length = N + 1 ∧ (∀ r ∈ x.2, r.length = 1) ∧ x.2.take x.1 = (jl m.ops x.1).map encI) (0, List.replicate (N + 1) [.lit (.int .i64 0)]) _ (by simp) (by simp [jl_zero]) ?_
    intro ⟨i, rows⟩ ⟨hi, hn, h3, ha⟩ ih
    dsimp only at hi hn ha h3
    by_cases hl : i < N + 1
    · have hli : (i : Int) < (N : Int) + 1 := by omega
      have hl' : i < rows.length := by omega
      have hr : rows[i].length = 1 := h3 _ (List.getElem_mem hl')
      have hd : List.drop 1 (List.map C.ow rows[i]) = [] := List.drop_eq_nil_of_le (by simp [hr])
      have hd' : List.drop 1 rows[i] = [] := List.drop_eq_nil_of_le (by simp [hr])
      have hc := c_slices_IndexFunc_Limpl_Op_impl_Op b m.ops f_impl_jumpsOfS1 1 [.ow (.lit (.int .i64 i))] (isNum (i : Int)) (fun b x _ => c_impl_jumpsOfS1 b x i) (by omega)
      have hjs := jl_succ m.ops i
      have hjj : idxOf (isNum (i : Int)) m.ops = jmp m.ops i := rfl
      rw [hjj] at hc
      simp only [cw] at hc
      generalize jmp m.ops i = j at hc hjs
      simp [hli, hl', hr, hd, hd', hc, wrap_add i (by omega)]
      refine ⟨.h [(5, 104)] ⟨⟨by kernel_rfl, by rfl⟩, trivial⟩ (by kernel_rfl), ih (i + 1, rows.set i (encI j)) _ (by simp [encI]) ⟨by simp; omega, by simpa using hn, set_all h3 (by simp [encI]), ?_⟩ (by simp; omega)⟩
      simp only [take_set _ _ _ hl', hjs, ha, List.map_append, List.map_cons, List.map_nil]
    · have hli : ¬ (i : Int) < (N : Int) + 1 := by omega
      have : i = N + 1 := by omega
      subst this
      rw [List.take_of_length_le (by omega)] at ha
      have hli2 : ¬ ((N : Int) + 1 < (N : Int) + 1) := by omega
      simp [hli2, ha]

end Go.Proofs.YtckojpaklblnpaaDoor.Th
