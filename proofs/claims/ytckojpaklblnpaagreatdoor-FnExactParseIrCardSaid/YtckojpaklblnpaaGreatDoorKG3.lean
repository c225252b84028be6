/- Parts of the proof, merged: Ir5 Ir6 Ir7 Pa0 Pa1. -/
import Derived.Test.YtckojpaklblnpaaGreatDoorKG1
import Derived.Test.YtckojpaklblnpaaGreatDoorKIr4
import Derived.Test.YtckojpaklblnpaaGreatDoorKG2
set_option linter.unusedVariables false
set_option linter.unusedSimpArgs false
set_option maxRecDepth 10000
set_option maxHeartbeats 2000000
namespace Go.Proofs.YtckojpaklblnpaaGreatDoor.Th
open Go Go.RowKit Go.Proofs.YtckojpaklblnpaaGreatDoor.Ev
open Go.Proofs.YtckojpaklblnpaaGreatDoor.Wire
def bareB (x : OpT) : Bool := decide (x.tag = []) && (!x.quick && (decide (x.run = 0) && decide (x.inl = [])))
def sameB (x y : OpT) : Bool := decide (x.num = y.num) && (decide (x.kind = y.kind) && (decide (x.ref = y.ref) && (decide (x.rep = y.rep) && decide (x.oneof = y.oneof))))
def blockB (x : OpT) : Bool := (decide (wireT x.kind = 5) || decide (wireT x.kind = 1)) && (!x.rep && decide (x.oneof = 0))
theorem c_spec_l9Plain (b : Bool) (x : OpT) : cw f_spec_l9Plain [.agg b x.enc] [] = some (.lit (.bool (bareB x)), []) := by
  refine callW_run (by simp) fs_spec_l9Plain rfl rfl rfl ?_
  unfold bareB
  simp only [OpT.enc_eq]
  by_cases h1 : x.tag = []
  rotate_left
  · simp [h1]
  by_cases h2 : x.quick = true
  · simp [h1, h2]
  by_cases h3 : x.run = 0
  rotate_left
  · simp [h1, h2, h3]
  by_cases h4 : x.inl = [] <;> simp [h1, h2, h3, h4]
theorem c_impl_isBare (b : Bool) (x : OpT) : cw f_impl_isBare [.agg b x.enc] [] = some (.lit (.bool (bareB x)), []) := by
  refine callW_run (by simp) fs_impl_isBare rfl rfl rfl ?_
  unfold bareB
  simp only [OpT.enc_eq]
  by_cases h1 : x.tag = []
  rotate_left
  · simp [h1]
  by_cases h2 : x.quick = true
  · simp [h1, h2]
  by_cases h3 : x.run = 0
  rotate_left
  · simp [h1, h2, h3]
  by_cases h4 : x.inl = [] <;> simp [h1, h2, h3, h4]
theorem c_spec_l9Same (b b' : Bool) (x y : OpT) : cw f_spec_l9Same [.agg b x.enc, .agg b' y.enc] [] = some (.lit (.bool (sameB x y)), []) := by
  refine callW_run (by simp) fs_spec_l9Same rfl rfl rfl ?_
  unfold sameB
  simp only [OpT.enc_eq]
  generalize x.num = a1, y.num = b1, x.kind = a2, y.kind = b2, x.ref = a3, y.ref = b3, x.rep = a4, y.rep = b4, x.oneof = a5, y.oneof = b5
  by_cases e1 : a1 = b1
  rotate_left
  · simp [e1]
  by_cases e2 : a2 = b2
  rotate_left
  · simp [e1, e2]
  by_cases e3 : a3 = b3
  rotate_left
  · simp [e1, e2, e3]
  by_cases e4 : a4 = b4
  rotate_left
  · simp [e1, e2, e3, e4]
  by_cases e5 : a5 = b5 <;> simp [e1, e2, e3, e4, e5]
theorem c_impl_sameField (b b' : Bool) (x y : OpT) : cw f_impl_sameField [.agg b x.enc, .agg b' y.enc] [] = some (.lit (.bool (sameB x y)), []) := by
  refine callW_run (by simp) fs_impl_sameField rfl rfl rfl ?_
  unfold sameB
  simp only [OpT.enc_eq]
  generalize x.num = a1, y.num = b1, x.kind = a2, y.kind = b2, x.ref = a3, y.ref = b3, x.rep = a4, y.rep = b4, x.oneof = a5, y.oneof = b5
  by_cases e1 : a1 = b1
  rotate_left
  · simp [e1]
  by_cases e2 : a2 = b2
  rotate_left
  · simp [e1, e2]
  by_cases e3 : a3 = b3
  rotate_left
  · simp [e1, e2, e3]
  by_cases e4 : a4 = b4
  rotate_left
  · simp [e1, e2, e3, e4]
  by_cases e5 : a5 = b5 <;> simp [e1, e2, e3, e4, e5]
theorem c_spec_l9Block (b : Bool) (x : OpT) : cw f_spec_l9Block [.agg b x.enc] [] = some (.lit (.bool (blockB x)), []) := by
  have hc := c_spec_WireOf x.kind
  refine callW_run (by simp) fs_spec_l9Block rfl rfl rfl ?_
  simp only [cw] at hc
  unfold blockB
  simp only [OpT.enc_eq]
  generalize wireT x.kind = w at hc ⊢
  generalize x.rep = r, x.oneof = o
  by_cases h5 : w = 5
  · cases r <;> by_cases ho : o = 0 <;> simp [hc, h5, ho]
  by_cases h1 : w = 1
  · cases r <;> by_cases ho : o = 0 <;> simp [hc, h1, ho]
  simp [hc, h5, h1]
theorem c_impl_mayRun (b : Bool) (x : OpT) : cw f_impl_mayRun [.agg b x.enc] [] = some (.lit (.bool (blockB x)), []) := by
  have hc := c_impl_WireOf x.kind
  refine callW_run (by simp) fs_impl_mayRun rfl rfl rfl ?_
  simp only [cw] at hc
  unfold blockB
  simp only [OpT.enc_eq]
  generalize wireT x.kind = w at hc ⊢
  generalize x.rep = r, x.oneof = o
  by_cases h5 : w = 5
  · cases r <;> by_cases ho : o = 0 <;> simp [hc, h5, ho]
  by_cases h1 : w = 1
  · cases r <;> by_cases ho : o = 0 <;> simp [hc, h1, ho]
  simp [hc, h5, h1]
theorem c_impl_marksOkS1 (b b' : Bool) (x y : OpT) : cw f_impl_marksOkS1 [.agg b x.enc, .agg b' y.enc] [] = some (.lit (.bool (bareB x && sameB x y)), []) := by
  have h1 := c_impl_isBare b x
  have h2 := c_impl_sameField b b' x y
  refine callW_run (by simp) fs_impl_marksOkS1 rfl rfl rfl ?_
  simp only [cw, OpT.enc_eq] at h1 h2
  simp only [OpT.enc_eq]
  cases hb : bareB x <;> simp [hb] at h1 <;> simp [h1, h2]
theorem c_slices_IndexFunc_Limpl_Op_impl_Op (b : Bool) (l : List OpT) (g : FuncId) (on : Nat) (orow : List C) (p : OpT → Bool) (hp : ∀ b c, c ∈ l → cw g [.agg b (c).enc, .ptr 0 [(0, 0)] 0] [{ cells := [.own on [orow]], box := true }] = some (.lit (.bool (p c)), [some { cells := [.own on [orow]], box := true }])) (h : l.length ≤ 2 ^ 50) :
    cw f_slices_IndexFunc_Limpl_Op_impl_Op [.val b (.sl 9 (l.map OpT.enc)), .fn g [.ptr 0 [(0, 0)] 0]] [{ cells := [.own on [orow]], box := true }] = some (.lit (.int .i64 (idxOf p l)), [some { cells := [.own on [orow]], box := true }]) := by
  refine callW_run (by simp) fs_slices_IndexFunc_Limpl_Op_impl_Op rfl rfl rfl ?_
  simp
  refine Mc.loop_ind (α := Nat) _ _ _ _ (fun i => I_slices_IndexFunc_Limpl_Op_impl_Op_0 (.val b (.sl 9 (l.map OpT.enc))) (.fn g [.ptr 0 [(0, 0)] 0]) (.lit (.int .i64 l.length)) (.lit (.int .i64 i)) [(0, { cells := [.own on [orow]], box := true })]) (fun i => l.length - i) (fun i => i ≤ l.length ∧ ∀ j (h : j < i) (h' : j < l.length), p l[j] = false) 0 _ (by simp) (by simp) ?_
  intro i ⟨hi, ha⟩ ih
  by_cases hl : i < l.length
  · have hc := hp b l[i] (List.getElem_mem hl)
    simp only [cw, OpT.enc_eq] at hc
    cases hq : p l[i] with
    | true =>
      simp [hl, OpT.enc_eq, hc, hq]
      exact (idxOf_at p l i hl hq ha).symm
    | false =>
      simp [hl, OpT.enc_eq, hc, hq, wrap_add i (by omega)]
      refine ih (i + 1) _ (by simp) ⟨by omega, ?_⟩ (by omega)
      intro j h1 h2
      by_cases hj : j = i
      · subst hj; exact hq
      · exact ha j (by omega) h2
  · simp [hl]
    exact (idxOf_none p l fun j h => ha j (by omega) h).symm
theorem c_slices_ContainsFunc_Limpl_Op_impl_Op (b : Bool) (l : List OpT) (g : FuncId) (on : Nat) (orow : List C) (p : OpT → Bool) (hp : ∀ b c, c ∈ l → cw g [.agg b (c).enc, .ptr 0 [(0, 0)] 0] [{ cells := [.own on [orow]], box := true }] = some (.lit (.bool (p c)), [some { cells := [.own on [orow]], box := true }])) (h : l.length ≤ 2 ^ 50) :
    cw f_slices_ContainsFunc_Limpl_Op_impl_Op [.val b (.sl 9 (l.map OpT.enc)), .fn g [.ptr 0 [(0, 0)] 0]] [{ cells := [.own on [orow]], box := true }] = some (.lit (.bool (l.any p)), [some { cells := [.own on [orow]], box := true }]) := by
  refine callW_run (by simp) fs_slices_ContainsFunc_Limpl_Op_impl_Op rfl rfl rfl ?_
  have hc := c_slices_IndexFunc_Limpl_Op_impl_Op b l g on orow p hp h
  simp only [cw] at hc
  simp [hc, idxOf_any]
theorem c_slices_IndexFunc_Limpl_Mod_impl_Mod (b : Bool) (l : List ModT) (g : FuncId) (on : Nat) (orow : List C) (p : ModT → Bool) (hp : ∀ b c, c ∈ l → cw g [.agg b (c).enc, .ptr 0 [(0, 0)] 0] [{ cells := [.own on [orow]], box := true }] = some (.lit (.bool (p c)), [some { cells := [.own on [orow]], box := true }])) (h : l.length ≤ 2 ^ 50) :
    cw f_slices_IndexFunc_Limpl_Mod_impl_Mod [.val b (.sl 3 (l.map ModT.enc)), .fn g [.ptr 0 [(0, 0)] 0]] [{ cells := [.own on [orow]], box := true }] = some (.lit (.int .i64 (idxOf p l)), [some { cells := [.own on [orow]], box := true }]) := by
  refine callW_run (by simp) fs_slices_IndexFunc_Limpl_Mod_impl_Mod rfl rfl rfl ?_
  simp
  refine Mc.loop_ind (α := Nat) _ _ _ _ (fun i => I_slices_IndexFunc_Limpl_Mod_impl_Mod_0 (.val b (.sl 3 (l.map ModT.enc))) (.fn g [.ptr 0 [(0, 0)] 0]) (.lit (.int .i64 l.length)) (.lit (.int .i64 i)) [(0, { cells := [.own on [orow]], box := true })]) (fun i => l.length - i) (fun i => i ≤ l.length ∧ ∀ j (h : j < i) (h' : j < l.length), p l[j] = false) 0 _ (by simp) (by simp) ?_
  intro i ⟨hi, ha⟩ ih
  by_cases hl : i < l.length
  · have hc := hp b l[i] (List.getElem_mem hl)
    simp only [cw, ModT.enc] at hc
    cases hq : p l[i] with
    | true =>
      simp [hl, ModT.enc, hc, hq]
      exact (idxOf_at p l i hl hq ha).symm
    | false =>
      simp [hl, ModT.enc, hc, hq, wrap_add i (by omega)]
      refine ih (i + 1) _ (by simp) ⟨by omega, ?_⟩ (by omega)
      intro j h1 h2
      by_cases hj : j = i
      · subst hj; exact hq
      · exact ha j (by omega) h2
  · simp [hl]
    exact (idxOf_none p l fun j h => ha j (by omega) h).symm
theorem c_slices_ContainsFunc_Limpl_Mod_impl_Mod (b : Bool) (l : List ModT) (g : FuncId) (on : Nat) (orow : List C) (p : ModT → Bool) (hp : ∀ b c, c ∈ l → cw g [.agg b (c).enc, .ptr 0 [(0, 0)] 0] [{ cells := [.own on [orow]], box := true }] = some (.lit (.bool (p c)), [some { cells := [.own on [orow]], box := true }])) (h : l.length ≤ 2 ^ 50) :
    cw f_slices_ContainsFunc_Limpl_Mod_impl_Mod [.val b (.sl 3 (l.map ModT.enc)), .fn g [.ptr 0 [(0, 0)] 0]] [{ cells := [.own on [orow]], box := true }] = some (.lit (.bool (l.any p)), [some { cells := [.own on [orow]], box := true }]) := by
  refine callW_run (by simp) fs_slices_ContainsFunc_Limpl_Mod_impl_Mod rfl rfl rfl ?_
  have hc := c_slices_IndexFunc_Limpl_Mod_impl_Mod b l g on orow p hp h
  simp only [cw] at hc
  simp [hc, idxOf_any]
end Go.Proofs.YtckojpaklblnpaaGreatDoor.Th
set_option linter.unusedVariables false
set_option linter.unusedSimpArgs false
set_option maxRecDepth 10000
set_option maxHeartbeats 2000000
namespace Go.Proofs.YtckojpaklblnpaaGreatDoor.Th
open Go Go.RowKit Go.Proofs.YtckojpaklblnpaaGreatDoor.Ev
open Go.Proofs.YtckojpaklblnpaaGreatDoor.Wire
abbrev boxM (b : Bool) (m : ModT) : O := { cells := [.own 3 [[.im b (.sl 9 (m.ops.map OpT.enc)), .im b (.sl 1 (m.jumps.map encI)), .ow (.lit (.bool m.cached))]]], box := true }
def mostF (m : Int) (x : OpT) : Int := if x.oneof > m then x.oneof else m
def most (l : List OpT) : Int := l.foldl mostF 0
theorem c_spec_l9Oneofs (b : Bool) (m : ModT) (h : m.ops.length ≤ 2 ^ 40) : cw f_spec_l9Oneofs [.agg b m.enc] [] = some (.lit (.int .i64 (most m.ops)), []) := by
  refine callW_run (by simp) fs_spec_l9Oneofs rfl rfl rfl ?_
  simp [ModT.enc]
  refine Mc.loop_ind (α := Nat × Int) _ _ _ _ (fun x => I_spec_l9Oneofs_0 (.ptr 72 [(0, 0)] 0) (.lit (.int .i64 x.2)) (.lit (.int .i64 x.1)) [(72, boxM b m)]) (fun x => m.ops.length - x.1) (fun x => x.1 ≤ m.ops.length ∧ x.2 = (m.ops.take x.1).foldl mostF 0) (0, 0) _ (by simp) (by simp) ?_
  intro ⟨i, k⟩ ⟨hi, hk⟩ ih
  dsimp only at hi hk
  by_cases hl : i < m.ops.length
  · have hs : (m.ops.take (i + 1)).foldl mostF 0 = mostF k m.ops[i] := by rw [take_next _ i hl, List.foldl_append, ← hk, List.foldl_cons, List.foldl_nil]
    unfold mostF at hs
    by_cases hg : k < m.ops[i].oneof
    · rw [if_pos hg] at hs
      simp [hl, OpT.enc_eq, hg, wrap_add i (by omega)]
      exact ih (i + 1, m.ops[i].oneof) _ (by simp) ⟨by simp; omega, hs.symm⟩ (by simp; omega)
    · rw [if_neg hg] at hs
      simp [hl, OpT.enc_eq, hg, wrap_add i (by omega)]
      exact ih (i + 1, k) _ (by simp) ⟨by simp; omega, hs.symm⟩ (by simp; omega)
  · rw [List.take_of_length_le (by omega)] at hk
    simp [hl, hk, most]
def oneofsB (l : List OpT) : Bool := (List.range (most l).toNat).all fun j => l.any fun x => decide (x.oneof = (j : Int) + 1)
theorem c_spec_l9OneofsOk (b : Bool) (m : ModT) (h : m.ops.length ≤ 2 ^ 40) (hm : most m.ops ≤ 2 ^ 40) : cw f_spec_l9OneofsOk [.agg b m.enc] [] = some (.lit (.bool (oneofsB m.ops)), []) := by
  have hc := c_spec_l9Oneofs b m h
  have hn0 : 0 ≤ most m.ops := by
    have key : ∀ (l : List OpT) (k : Int), 0 ≤ k → 0 ≤ l.foldl mostF k := by
      intro l
      induction l with
      | nil => intro k hk; exact hk
      | cons x r ih => intro k hk; exact ih _ (by unfold mostF; split <;> omega)
    exact key _ 0 (by omega)
  refine callW_run (by simp) fs_spec_l9OneofsOk rfl rfl rfl ?_
  simp only [cw, ModT.enc] at hc
  unfold oneofsB
  obtain ⟨N, hN⟩ := Int.eq_ofNat_of_zero_le hn0
  rw [hN] at hc ⊢
  rw [Int.toNat_natCast]
  simp [ModT.enc, hc]
  refine Mc.loop_ind (α := Nat) _ _ _ _ (fun n => I_spec_l9OneofsOk_0 (.ptr 72 [(0, 0)] 0) (.lit (.int .i64 n)) [(72, boxM b m)]) (fun n => n) (fun n => n ≤ N ∧ ∀ j, n ≤ j → j < N → (m.ops.any fun x => decide (x.oneof = (j : Int) + 1)) = true) N _ (by simp) ⟨Nat.le_refl _, fun j h1 h2 => by omega⟩ ?_
  intro n ⟨hn, ha⟩ ih
  by_cases hz : n = 0
  · subst hz
    simp
    intro j hj
    have := ha j (by omega) hj
    simpa using this
  · have hp : (0 : Int) < n := by omega
    have hp' : 0 < n := by omega
    simp [hp, hp']
    refine Mc.loop_ind (α := Nat) _ _ _ _ (fun i => I_spec_l9OneofsOk_1 (.ptr 72 [(0, 0)] 0) (.lit (.int .i64 n)) (.lit (.bool ((m.ops.take i).any fun x => decide (x.oneof = (n : Int))))) (.lit (.int .i64 i)) [(72, boxM b m)]) (fun i => m.ops.length - i) (fun i => i ≤ m.ops.length) 0 _ (by simp) (by simp) ?_
    intro i hi ih2
    by_cases hl : i < m.ops.length
    · have hs : ((m.ops.take (i + 1)).any fun x => decide (x.oneof = (n : Int))) = (((m.ops.take i).any fun x => decide (x.oneof = (n : Int))) || decide (m.ops[i].oneof = (n : Int))) := by rw [take_next _ i hl, List.any_append]; simp
      generalize ((m.ops.take i).any fun x => decide (x.oneof = (n : Int))) = met at hs ⊢
      cases met with
      | true =>
        simp [hl, OpT.enc_eq, wrap_add i (by omega)]
        exact ih2 (i + 1) _ (by simp [hs]) (by omega) (by omega)
      | false =>
        simp [hl, OpT.enc_eq, wrap_add i (by omega)]
        exact ih2 (i + 1) _ (by simp [hs]) (by omega) (by omega)
    · rw [List.take_of_length_le (by omega)]
      have hw : IntKind.wrap .i64 ((n : Int) - 1) = ((n - 1 : Nat) : Int) := by rw [i64_wrap (by omega) (by omega)]; omega
      cases hq : (m.ops.any fun x => decide (x.oneof = (n : Int))) with
      | true =>
        simp [hl, hq, hw]
        refine ih (n - 1) _ (by simp) ⟨by omega, ?_⟩ (by omega)
        intro j h1 h2
        by_cases hj : j = n - 1
        · subst hj
          rw [← hq]
          congr 1
          funext x
          congr 2
          omega
        · exact ha j (by omega) h2
      | false =>
        simp [hl, hq]
        refine ⟨n - 1, by omega, ?_⟩
        intro x hx
        have := List.any_eq_false.mp hq x hx
        simp at this
        omega
end Go.Proofs.YtckojpaklblnpaaGreatDoor.Th
set_option linter.unusedVariables false
set_option linter.unusedSimpArgs false
set_option maxRecDepth 10000
set_option maxHeartbeats 2000000
namespace Go.Proofs.YtckojpaklblnpaaGreatDoor.Th
open Go Go.RowKit Go.Proofs.YtckojpaklblnpaaGreatDoor.Ev
open Go.Proofs.YtckojpaklblnpaaGreatDoor.Wire
theorem idxOf_take_miss {α : Type} (p : α → Bool) (l : List α) (i : Nat) (h : i < l.length) (hp : p l[i] = false) : idxOf p (l.take (i + 1)) = idxOf p (l.take i) := by
  unfold idxOf
  rw [take_next l i h, List.findIdx?_append]
  cases hf : (l.take i).findIdx? p <;> simp [List.findIdx?_cons, hp]
theorem idxOf_take_hit {α : Type} (p : α → Bool) (l : List α) (i : Nat) (h : i < l.length) (hp : p l[i] = true) (hn : ∀ j (_ : j < i) (h' : j < l.length), p l[j] = false) : idxOf p (l.take (i + 1)) = i :=
  idxOf_at p _ i (by simp; omega) (by simpa using hp) fun j h1 h2 => by
    rw [List.getElem_take]
    exact hn j h1 (by omega)
theorem idxOf_range {α : Type} (p : α → Bool) (l : List α) : -1 ≤ idxOf p l ∧ idxOf p l < l.length ∨ idxOf p l = -1 := by
  unfold idxOf
  cases hf : l.findIdx? p with
  | none => right; rfl
  | some i =>
    obtain ⟨hi, _⟩ := List.findIdx?_eq_some_iff_getElem.mp hf
    left
    dsimp only
    omega
def isNum (k : Int) (x : OpT) : Bool := decide (x.num = k)
def jmp (l : List OpT) (k : Nat) : Int := idxOf (isNum (k : Int)) l
def jl (l : List OpT) (n : Nat) : List Int := (List.range n).map (jmp l)
theorem jl_zero (l : List OpT) : jl l 0 = [] := rfl
theorem jl_succ (l : List OpT) (n : Nat) : jl l (n + 1) = jl l n ++ [jmp l n] := by simp [jl, List.range_succ]
theorem jl_len (l : List OpT) (n : Nat) : (jl l n).length = n := by simp [jl]
def jumpsT (l : List OpT) : List Int :=
  match l.getLast? with
  | none => []
  | some x => if x.num ≥ 64 then [] else jl l (x.num + 1).toNat
def Asc (l : List OpT) : Prop := (∀ x ∈ l, 1 ≤ x.num) ∧ ∀ i j (hi : i < l.length) (hj : j < l.length), i < j → l[i].num < l[j].num
theorem c_spec_l9Jumps (b : Bool) (m : ModT) (h : m.ops.length ≤ 2 ^ 40) (hA : Asc m.ops) : cw f_spec_l9Jumps [.agg b m.enc] [] = some (.ov [.ow (.sl 1 ((jumpsT m.ops).map encI))] false, []) := by
  refine callW_run (by simp) fs_spec_l9Jumps rfl rfl rfl ?_
  unfold jumpsT
  by_cases h0 : m.ops = []
  · simp [ModT.enc, h0]
  have hpos : 0 < m.ops.length := by cases hh : m.ops with | nil => exact absurd hh h0 | cons _ _ => simp
  have hgl : m.ops.getLast? = some (m.ops[m.ops.length - 1]'(by omega)) := by rw [List.getLast?_eq_getElem?, List.getElem?_eq_getElem]
  rw [hgl]
  dsimp only
  have h1 := hA.1 _ (List.getElem_mem (show m.ops.length - 1 < m.ops.length by omega))
  have hlt : m.ops.length - 1 < m.ops.length := by omega
  have hlen0 : ¬ m.ops.length = 0 := by omega
  have hw : IntKind.wrap .i64 ((m.ops.length : Int) - 1) = (m.ops.length : Int) - 1 := i64_wrap (by omega) (by omega)
  have hnn : ¬ ((m.ops.length : Int) - 1 < 0) := by omega
  have hto : ((m.ops.length : Int) - 1).toNat = m.ops.length - 1 := by omega
  generalize hx : m.ops[m.ops.length - 1] = x at h1
  by_cases h64 : x.num ≥ 64
  · have h64' : 64 ≤ x.num := h64
    rw [if_pos h64]
    simp [ModT.enc, hlen0, hw, hnn, hto, hlt, hx, OpT.enc_eq, h64']
  · have h64' : ¬ 64 ≤ x.num := h64
    rw [if_neg h64]
    simp [ModT.enc, hlen0, hw, hnn, hto, hlt, hx, OpT.enc_eq, h64']
    obtain ⟨N, hN⟩ : ∃ N : Nat, x.num = (N : Int) := ⟨x.num.toNat, by omega⟩
    rw [hN] at h1 h64 h64' ⊢
    have hN1 : ((N : Int) + 1).toNat = N + 1 := by omega
    refine Mc.loop_ind (α := Nat) _ _ _ _ (fun k => I_spec_l9Jumps_0 (.ptr 72 [(0, 0)] 0) (.lit (.int .i64 m.ops.length)) (.vw 96 [] 0 1 false) (.lit (.int .i64 k)) [(72, boxM b m), (96, { cells := [.ow (.sl 1 ((jl m.ops k).map encI))], var := true })]) (fun k => N + 1 - k) (fun k => k ≤ N + 1) 0 _ (by simp [jl_zero]) (by simp) ?_
    intro k hk ih
    by_cases hkl : k ≤ N
    · have hkl' : (k : Int) ≤ N := by omega
      simp [hw, hnn, hto, hlt, hx, OpT.enc_eq, hN, hkl, hkl']
      refine Mc.loop_ind (α := Nat) _ _ _ _ (fun i => I_spec_l9Jumps_1 (.ptr 72 [(0, 0)] 0) (.lit (.int .i64 m.ops.length)) (.vw 96 [] 0 1 false) (.lit (.int .i64 k)) (.lit (.int .i64 (idxOf (isNum (k : Int)) (m.ops.take i)))) (.lit (.int .i64 i)) [(72, boxM b m), (96, { cells := [.ow (.sl 1 ((jl m.ops k).map encI))], var := true })]) (fun i => m.ops.length - i) (fun i => i ≤ m.ops.length) 0 _ (by simp [idxOf]) (by simp) ?_
      intro i hi ih2
      by_cases hl : i < m.ops.length
      · by_cases hq : m.ops[i].num = (k : Int)
        · have hs := idxOf_take_hit (isNum (k : Int)) m.ops i hl (by simp [isNum, hq]) (fun j h1 h2 => by
            have := hA.2 j i h2 hl h1
            simp [isNum]
            omega)
          simp [hl, OpT.enc_eq, hq, wrap_add i (by omega)]
          exact ih2 (i + 1) _ (by simp [hs]) (by omega) (by omega)
        · have hs := idxOf_take_miss (isNum (k : Int)) m.ops i hl (by simp [isNum, hq])
          simp [hl, OpT.enc_eq, hq, wrap_add i (by omega)]
          exact ih2 (i + 1) _ (by simp [hs]) (by omega) (by omega)
      · rw [List.take_of_length_le (by omega)]
        have hjs := jl_succ m.ops k
        have hjl := jl_len m.ops k
        have hj : idxOf (isNum (k : Int)) m.ops = jmp m.ops k := rfl
        rw [hj]
        generalize jmp m.ops k = j at hjs
        generalize jl m.ops k = acc at hjs hjl
        have hm : (acc.length + 1) * 8 ≤ 140737488355328 := by omega
        simp [hl, wrap_add k (by omega), maxBytes, hm]
        exact ih (k + 1) _ (by simp [hjs, encI]) (by omega) (by omega)
    · have hkl' : ¬ (k : Int) ≤ N := by omega
      have : k = N + 1 := by omega
      subst this
      have e1 : ¬ ((N : Int) + 1 ≤ N) := by omega
      simp [hw, hnn, hto, hlt, hx, OpT.enc_eq, hN, hN1, e1]
theorem c_impl_jumpsOfS1 (b : Bool) (x : OpT) (i : Int) : cw f_impl_jumpsOfS1 [.agg b x.enc, .ptr 0 [(0, 0)] 0] [{ cells := [.own 1 [[.ow (.lit (.int .i64 i))]]], box := true }] = some (.lit (.bool (isNum i x)), [some { cells := [.own 1 [[.ow (.lit (.int .i64 i))]]], box := true }]) := by
  refine callW_run (by simp) fs_impl_jumpsOfS1 rfl rfl rfl ?_
  simp [OpT.enc_eq, isNum]
theorem c_impl_jumpsOf (b : Bool) (m : ModT) (h : m.ops.length ≤ 2 ^ 40) (hA : Asc m.ops) : cw f_impl_jumpsOf [.agg b m.enc] [] = some (if jumpsT m.ops = [] then .nils else .ov [.ow (.sl 1 ((jumpsT m.ops).map encI))] false, []) := by
  refine callW_run (by simp) fs_impl_jumpsOf rfl rfl rfl ?_
  by_cases h0 : m.ops = []
  · simp [ModT.enc, h0, jumpsT]
  have hpos : 0 < m.ops.length := by cases hh : m.ops with | nil => exact absurd hh h0 | cons _ _ => simp
  have hgl : m.ops.getLast? = some (m.ops[m.ops.length - 1]'(by omega)) := by rw [List.getLast?_eq_getElem?, List.getElem?_eq_getElem]
  have h1 := hA.1 _ (List.getElem_mem (show m.ops.length - 1 < m.ops.length by omega))
  have hlt : m.ops.length - 1 < m.ops.length := by omega
  have hlen0 : ¬ m.ops.length = 0 := by omega
  have hw : IntKind.wrap .i64 ((m.ops.length : Int) - 1) = (m.ops.length : Int) - 1 := i64_wrap (by omega) (by omega)
  have hnn : ¬ ((m.ops.length : Int) - 1 < 0) := by omega
  have hto : ((m.ops.length : Int) - 1).toNat = m.ops.length - 1 := by omega
  have hjt : jumpsT m.ops = if (m.ops[m.ops.length - 1]'(by omega)).num ≥ 64 then [] else jl m.ops ((m.ops[m.ops.length - 1]'(by omega)).num + 1).toNat := by unfold jumpsT; rw [hgl]
  generalize hx : m.ops[m.ops.length - 1] = x at h1 hjt
  by_cases h64 : x.num ≥ 64
  · have h64' : 64 ≤ x.num := h64
    rw [if_pos h64] at hjt
    rw [hjt, if_pos rfl]
    simp [ModT.enc, hlen0, hw, hnn, hto, hlt, hx, OpT.enc_eq, h64']
  · have h64' : ¬ 64 ≤ x.num := h64
    rw [if_neg h64] at hjt
    obtain ⟨N, hN⟩ : ∃ N : Nat, x.num = (N : Int) := ⟨x.num.toNat, by omega⟩
    have hN1 : ((N : Int) + 1).toNat = N + 1 := by omega
    rw [hN, hN1] at hjt
    have hne : jumpsT m.ops ≠ [] := by rw [hjt]; intro e; have := congrArg List.length e; rw [jl_len] at this; simp at this
    rw [if_neg hne, hjt]
    rw [hN] at h1 h64 h64'
    have hwN : IntKind.wrap .i64 ((N : Int) + 1) = (N : Int) + 1 := i64_wrap (by omega) (by omega)
    have hNn : ¬ ((N : Int) + 1 < 0) := by omega
    have hNm : (N + 1) * 8 ≤ 140737488355328 := by omega
    have hNp : (0 : Int) ≤ (N : Int) + 1 := by omega
    simp [ModT.enc, hlen0, hw, hnn, hto, hlt, hx, OpT.enc_eq, hN, h64', hwN, hNn, hN1, maxBytes, hNm, hNp]
    refine Mc.loop_ind (α := Nat × List (List T)) _ _ _ _ (fun x => I_impl_jumpsOf_0 (.ptr 72 [(0, 0)] 0) (.vw 96 [] 0 1 false) (.lit (.int .i64 ((N : Int) + 1))) (.lit (.int .i64 x.1)) [(72, boxM b m), (96, { cells := [.ow (.sl 1 x.2)], var := true })]) (fun x => N + 1 - x.1) (fun x => x.1 ≤ N + 1 ∧ x.2.length = N + 1 ∧ (∀ r ∈ x.2, r.length = 1) ∧ x.2.take x.1 = (jl m.ops x.1).map encI) (0, List.replicate (N + 1) [.lit (.int .i64 0)]) _ (by simp) (by simp [jl_zero]) ?_
    intro ⟨i, rows⟩ ⟨hi, hn, h3, ha⟩ ih
    dsimp only at hi hn ha h3
    by_cases hl : i < N + 1
    · have hli : (i : Int) < (N : Int) + 1 := by omega
      have hl' : i < rows.length := by omega
      have hr : rows[i].length = 1 := h3 _ (List.getElem_mem hl')
      have hd : List.drop 1 (List.map C.ow rows[i]) = [] := List.drop_eq_nil_of_le (by simp [hr])
      have hd' : List.drop 1 rows[i] = [] := List.drop_eq_nil_of_le (by simp [hr])
      have hc := c_slices_IndexFunc_Limpl_Op_impl_Op b m.ops f_impl_jumpsOfS1 1 [.ow (.lit (.int .i64 i))] (isNum (i : Int)) (fun b x _ => c_impl_jumpsOfS1 b x i) (by omega)
      have hjs := jl_succ m.ops i
      have hjj : idxOf (isNum (i : Int)) m.ops = jmp m.ops i := rfl
      rw [hjj] at hc
      simp only [cw] at hc
      generalize jmp m.ops i = j at hc hjs
      simp [hli, hl', hr, hd, hd', hc, wrap_add i (by omega)]
      refine ⟨.h [(5, 104)] ⟨⟨by kernel_rfl, by rfl⟩, trivial⟩ (by kernel_rfl), ih (i + 1, rows.set i (encI j)) _ (by simp [encI]) ⟨by simp; omega, by simpa using hn, set_all h3 (by simp [encI]), ?_⟩ (by simp; omega)⟩
      simp only [take_set _ _ _ hl', hjs, ha, List.map_append, List.map_cons, List.map_nil]
    · have hli : ¬ (i : Int) < (N : Int) + 1 := by omega
      have : i = N + 1 := by omega
      subst this
      rw [List.take_of_length_le (by omega)] at ha
      have hli2 : ¬ ((N : Int) + 1 < (N : Int) + 1) := by omega
      simp [hli2, ha]
end Go.Proofs.YtckojpaklblnpaaGreatDoor.Th
set_option linter.unusedVariables false
set_option linter.unusedSimpArgs false
set_option maxRecDepth 10000
set_option maxHeartbeats 2000000
namespace Go.Proofs.YtckojpaklblnpaaGreatDoor.Th
open Go Go.RowKit Go.Proofs.YtckojpaklblnpaaGreatDoor.Ev
mutual
def full : T → Bool
  | .lit _ => true
  | .sl z rows => !(z == 0 && rows.isEmpty) && fullR rows
def fullL : List T → Bool
  | [] => true
  | t :: ts => full t && fullL ts
def fullR : List (List T) → Bool
  | [] => true
  | r :: rs => fullL r && fullR rs
end
mutual
theorem nrmT_full : ∀ (s : Sh) (t : T), full t = true → nrmT s t = t
  | .any, .lit _, _ => rfl
  | .any, .sl .., _ => rfl
  | .bx _, .lit _, _ => rfl
  | .bx _, .sl .., _ => rfl
  | .pk _, .lit _, _ => rfl
  | .pk _, .sl .., _ => rfl
  | .sl .., .lit _, _ => rfl
  | .sl sz sh, .sl z rows, h => by
    simp only [full, Bool.and_eq_true, Bool.not_eq_true', Bool.and_eq_false_iff, beq_eq_false_iff_ne, List.isEmpty_eq_false_iff] at h
    simp only [nrmT]
    rw [nrmRows_full sh rows h.2, if_neg (fun hh => h.1.elim (fun h => h hh.1) (fun h => h hh.2))]
theorem nrmTs_full : ∀ (sh : List Sh) (ts : List T), fullL ts = true → nrmTs sh ts = ts
  | [], [], _ => rfl
  | [], _ :: _, _ => rfl
  | _ :: _, [], _ => rfl
  | s :: ss, t :: ts, h => by
    simp only [fullL, Bool.and_eq_true] at h
    simp only [nrmTs]
    rw [nrmT_full s t h.1, nrmTs_full ss ts h.2]
theorem nrmRows_full (sh : List Sh) : ∀ (rs : List (List T)), fullR rs = true → nrmRows sh rs = rs
  | [], _ => rfl
  | r :: rs, h => by
    simp only [fullR, Bool.and_eq_true] at h
    simp only [nrmRows]
    rw [nrmTs_full sh r h.1, nrmRows_full sh rs h.2]
end
theorem nrmRows_append (sh : List Sh) : ∀ (a b : List (List T)), nrmRows sh (a ++ b) = nrmRows sh a ++ nrmRows sh b
  | [], b => rfl
  | r :: a, b => by simp only [List.cons_append, nrmRows, nrmRows_append sh a b]
theorem nrmRows_set (sh : List Sh) : ∀ (a : List (List T)) (i : Nat) (r : List T), nrmRows sh (a.set i r) = (nrmRows sh a).set i (nrmTs sh r)
  | [], _, _ => rfl
  | x :: a, 0, r => rfl
  | x :: a, i + 1, r => by simp only [List.set_cons_succ, nrmRows, nrmRows_set sh a i r]
theorem nrmRows_take (sh : List Sh) : ∀ (n : Nat) (a : List (List T)), nrmRows sh (a.take n) = (nrmRows sh a).take n
  | 0, a => by simp [nrmRows]
  | n + 1, [] => by simp [nrmRows]
  | n + 1, x :: a => by simp only [List.take_succ_cons, nrmRows, nrmRows_take sh n a]
theorem nrmRows_drop (sh : List Sh) : ∀ (n : Nat) (a : List (List T)), nrmRows sh (a.drop n) = (nrmRows sh a).drop n
  | 0, a => by simp
  | n + 1, [] => by simp [nrmRows]
  | n + 1, x :: a => by simp only [List.drop_succ_cons, nrmRows, nrmRows_drop sh n a]
attribute [simp] nrmRows_append nrmRows_set nrmRows_take nrmRows_drop
theorem nrmRows_map {α : Type} {f : α → List T} (sh : List Sh) (hf : ∀ x, fullL (f x) = true) : ∀ l : List α, nrmRows sh (l.map f) = l.map f
  | [] => rfl
  | x :: l => by simp only [List.map_cons, nrmRows, nrmRows_map sh hf l, nrmTs_full sh _ (hf x)]
theorem fullR_map {α : Type} {f : α → List T} (hf : ∀ x, fullL (f x) = true) : ∀ l : List α, fullR (l.map f) = true
  | [] => rfl
  | x :: l => by simp only [List.map_cons, fullR, hf x, fullR_map hf l, Bool.and_self]
theorem full_encI (n : Int) : fullL (encI n) = true := rfl
theorem full_encB (n : Int) : fullL (encB n) = true := rfl
@[simp] theorem nrm_encI (sh : List Sh) (l : List Int) : nrmRows sh (l.map encI) = l.map encI := nrmRows_map sh full_encI l
@[simp] theorem nrm_encB (sh : List Sh) (l : List Int) : nrmRows sh (l.map encB) = l.map encB := nrmRows_map sh full_encB l
theorem full_sl (z : Nat) (rows : List (List T)) (h : 0 < z) (hr : fullR rows = true) : full (.sl z rows) = true := by
  simp only [full, hr, Bool.and_true, Bool.not_eq_true', Bool.and_eq_false_iff, beq_eq_false_iff_ne]
  exact .inl (by omega)
theorem full_encIs (l : List Int) : fullL (encS 1 encI l) = true := by
  simp only [encS, fullL, full_sl 1 _ (by omega) (fullR_map full_encI l), Bool.and_self]
@[simp] theorem nrm_encIs (sh : List Sh) (l : List (List Int)) : nrmRows sh (l.map (encS 1 encI)) = l.map (encS 1 encI) := nrmRows_map sh full_encIs l
theorem full_OpT : ∀ (x : OpT), fullL x.enc = true
  | .mk a b c d e f g h i => by
    have hi : fullR (i.map OpT.enc) = true := by
      have key : ∀ l : List OpT, (∀ y ∈ l, fullL y.enc = true) → fullR (l.map OpT.enc) = true := by
        intro l
        induction l with
        | nil => intro _; rfl
        | cons y r ih => intro h; simp only [List.map_cons, fullR, h y (by simp), ih fun z hz => h z (by simp [hz]), Bool.and_self]
      exact key i fun y hy => full_OpT y
    simp only [OpT.enc, encOps_eq, fullL, full_sl 1 _ (by omega) (fullR_map full_encB f), full_sl 9 _ (by omega) hi]
    rfl
  termination_by x => SizeOf.sizeOf x
  decreasing_by
    have := List.sizeOf_lt_of_mem hy
    simp only [OpT.mk.sizeOf_spec]
    omega
@[simp] theorem nrm_encOp (sh : List Sh) (l : List OpT) : nrmRows sh (l.map OpT.enc) = l.map OpT.enc := nrmRows_map sh full_OpT l
def opRows (l : List OpT) : List (List T) := l.map OpT.enc
@[simp] theorem opRows_len (l : List OpT) : (opRows l).length = l.length := List.length_map _
@[simp] theorem nrm_opRows (sh : List Sh) (l : List OpT) : nrmRows sh (opRows l) = opRows l := nrmRows_map sh full_OpT l
theorem opRows_snoc (l : List OpT) (x : OpT) : opRows (l ++ [x]) = opRows l ++ [x.enc] := by simp [opRows]
theorem full_ModT (m : ModT) : fullL m.enc = true := by
  simp only [ModT.enc, fullL, full_sl 9 _ (by omega) (fullR_map full_OpT m.ops), full_sl 1 _ (by omega) (fullR_map full_encI m.jumps)]
  rfl
@[simp] theorem nrm_encMod (sh : List Sh) (l : List ModT) : nrmRows sh (l.map ModT.enc) = l.map ModT.enc := nrmRows_map sh full_ModT l
@[simp] theorem nrmTs_Op (sh : List Sh) (x : OpT) : nrmTs sh x.enc = x.enc := nrmTs_full sh _ (full_OpT x)
@[simp] theorem nrmTs_Mod (sh : List Sh) (x : ModT) : nrmTs sh x.enc = x.enc := nrmTs_full sh _ (full_ModT x)
def Sh.same : Sh → Bool
  | .sl .. => false
  | _ => true
theorem nrmCs_same : ∀ (sh : List Sh) (ts : List T), sh.all Sh.same = true → nrmCs sh (ts.map C.ow) = ts.map C.ow
  | [], ts, _ => by cases ts <;> rfl
  | _ :: _, [], _ => rfl
  | s :: ss, t :: ts, h => by
    simp only [List.all_cons, Bool.and_eq_true] at h
    simp only [List.map_cons, nrmCs, nrmCs_same ss ts h.2, nrmC_ow]
    cases s with
    | sl sz row => simp [Sh.same] at h
    | _ => cases t <;> rfl
theorem nrmCRows_same (sh : List Sh) (h : sh.all Sh.same = true) : ∀ l : List (List T), nrmCRows sh (l.map (·.map C.ow)) = l.map (·.map C.ow)
  | [] => rfl
  | r :: l => by simp only [List.map_cons, nrmCRows, nrmCs_same sh r h, nrmCRows_same sh h l]
theorem nrmCRows_set (sh : List Sh) : ∀ (l : List (List C)) (i : Nat) (r : List C), nrmCRows sh (l.set i r) = (nrmCRows sh l).set i (nrmCs sh r)
  | [], _, _ => rfl
  | x :: l, 0, r => rfl
  | x :: l, i + 1, r => by simp only [List.set_cons_succ, nrmCRows, nrmCRows_set sh l i r]
theorem nrmCs_ow : ∀ (sh : List Sh) (ts : List T), nrmCs sh (ts.map C.ow) = (nrmTs sh ts).map C.ow := fun sh ts => (nrmTs_map sh ts).symm
theorem nrmCRows_ow (sh : List Sh) : ∀ l : List (List T), nrmCRows sh (l.map (·.map C.ow)) = (nrmRows sh l).map (·.map C.ow)
  | [] => rfl
  | r :: l => by simp only [List.map_cons, nrmCRows, nrmRows, nrmCs_ow, nrmCRows_ow sh l]
theorem ownedRows_ow (l : List (List T)) : ownedRows (l.map (·.map C.ow)) = some l := by
  have h1 : ∀ r : List T, ownedAll (r.map C.ow) = some r := by
    intro r
    induction r with
    | nil => rfl
    | cons t r ih => simp [ih]
  induction l with
  | nil => rfl
  | cons r l ih => simp only [List.map_cons, ownedRows, h1 r, ih]
theorem ownedRows_set (l : List (List T)) (i : Nat) (r : List C) : ownedRows ((l.map (·.map C.ow)).set i r) = if i < l.length then (ownedAll r).map (fun t => l.set i t) else some l := by
  have h1 : ∀ r : List T, ownedAll (r.map C.ow) = some r := by
    intro r
    induction r with
    | nil => rfl
    | cons t r ih => simp [ih]
  induction l generalizing i with
  | nil => rfl
  | cons x l ih =>
    cases i with
    | zero =>
      simp only [List.map_cons, List.set_cons_zero, ownedRows]
      rw [ownedRows_ow]
      cases ownedAll r with
      | none => simp
      | some t => simp
    | succ i =>
      simp only [List.map_cons, List.set_cons_succ, ownedRows, h1 x, ih i]
      by_cases hi : i < l.length
      · rw [if_pos hi, if_pos (by simpa using hi)]
        cases ownedAll r <;> simp
      · rw [if_neg hi, if_neg (by simpa using hi)]
end Go.Proofs.YtckojpaklblnpaaGreatDoor.Th
set_option linter.unusedVariables false
set_option linter.unusedSimpArgs false
set_option maxRecDepth 10000
set_option maxHeartbeats 2000000
namespace Go.Proofs.YtckojpaklblnpaaGreatDoor.Th
open Go Go.RowKit Go.Proofs.YtckojpaklblnpaaGreatDoor.Ev
theorem str_inj (a b : List UInt8) : (str a = str b) = (a = b) := by
  apply propext
  constructor
  · intro h
    have h2 : a.toArray = b.toArray := congrArg ByteArray.data h
    have := congrArg Array.toList h2
    simpa using this
  · rintro rfl; rfl
attribute [simp] str_inj
theorem c_impl_bitOf (b : Bool) (n : Int) : cw f_impl_bitOf [.lit (.bool b), .lit (.int .i64 n)] [] = some (.lit (.int .i64 (if b then n else 0)), []) := by
  refine callW_run (by simp) fs_impl_bitOf rfl rfl rfl ?_
  cases b <;> simp
def isW (w : List UInt8) (x : List UInt8) : Bool := decide (w = x)
theorem c_slices_Index (b : Bool) (l : List (List UInt8)) (w : List UInt8) (h : l.length ≤ 2 ^ 50) : cw f_slices_Index_Lstring_string [.val b (.sl 1 (l.map encW)), .lit (.string (str w))] [] = some (.lit (.int .i64 (idxOf (isW w) l)), []) := by
  refine callW_run (by simp) fs_slices_Index_Lstring_string rfl rfl rfl ?_
  simp
  refine Mc.loop_ind (α := Nat) _ _ _ _ (fun i => I_slices_Index_Lstring_string_0 (.val b (.sl 1 (l.map encW))) (.lit (.string (str w))) (.lit (.int .i64 l.length)) (.lit (.int .i64 i)) []) (fun i => l.length - i) (fun i => i ≤ l.length ∧ ∀ j (h : j < i) (h' : j < l.length), isW w l[j] = false) 0 _ (by simp) (by simp) ?_
  intro i ⟨hi, ha⟩ ih
  by_cases hl : i < l.length
  · by_cases hq : w = l[i]
    · subst hq
      simp [hl, encW]
      exact (idxOf_at (isW l[i]) l i hl (by simp [isW]) ha).symm
    · simp [hl, encW, hq, wrap_add i (by omega)]
      refine ih (i + 1) _ (by simp) ⟨by omega, ?_⟩ (by omega)
      intro j h1 h2
      by_cases hj : j = i
      · subst hj; simp [isW, hq]
      · exact ha j (by omega) h2
  · simp [hl]
    exact (idxOf_none (isW w) l fun j h => ha j (by omega) h).symm
def kindOf (w : List UInt8) : Int := idxOf (isW w) kindList + 1
theorem kindOf_range (w : List UInt8) : 0 ≤ kindOf w ∧ kindOf w ≤ 15 := by
  unfold kindOf
  rcases idxOf_range (isW w) kindList with h | h
  · have : (kindList.length : Int) = 15 := rfl
    omega
  · omega
theorem c_impl_KindOf (w : List UInt8) : cw f_impl_KindOf [.lit (.string (str w))] [] = some (.lit (.int .i64 (kindOf w)), []) := by
  have h1 := c_impl_kindNames
  have h2 := c_slices_Index true kindList w (by decide)
  have h3 := kindOf_range w
  refine callW_run (by simp) fs_impl_KindOf rfl rfl rfl ?_
  simp only [cw] at h1 h2
  unfold kindOf at h3 ⊢
  generalize kindList = kl at h1 h2 h3 ⊢
  have hw : IntKind.wrap .i64 (idxOf (isW w) kl + 1) = idxOf (isW w) kl + 1 := i64_wrap (by omega) (by omega)
  simp [h1, h2, hw]
theorem c_spec_KindOf (w : List UInt8) : cw f_spec_KindOf [.lit (.string (str w))] [] = some (.lit (.int .i64 (kindOf w)), []) := by
  have h1 := c_spec_l4Scalars
  have hlen : kindList.length ≤ 100 := by decide
  refine callW_run (by simp) fs_spec_KindOf rfl rfl rfl ?_
  simp only [cw] at h1
  unfold kindOf
  generalize kindList = l at h1 hlen ⊢
  simp [h1]
  refine Mc.loop_ind (α := Nat) _ _ _ _ (fun i => I_spec_KindOf_0 (.lit (.string (str w))) (.vw 88 [] 0 1 false) (.lit (.int .i64 i)) [(88, { cells := [.ow (.sl 1 (l.map encW))], var := true })]) (fun i => l.length - i) (fun i => i ≤ l.length ∧ ∀ j (h : j < i) (h' : j < l.length), isW w l[j] = false) 0 _ (by simp) (by simp) ?_
  intro i ⟨hi, ha⟩ ih
  by_cases hl : i < l.length
  · by_cases hq : l[i] = w
    · simp [hl, encW, hq, wrap_add i (by omega)]
      rw [idxOf_at (isW w) l i hl (by simp [isW, hq]) ha]
    · have hq' : ¬ w = l[i] := fun h => hq h.symm
      simp [hl, encW, hq, wrap_add i (by omega)]
      refine ih (i + 1) _ (by simp) ⟨by omega, ?_⟩ (by omega)
      intro j h1 h2
      by_cases hj : j = i
      · subst hj; simp [isW, hq']
      · exact ha j (by omega) h2
  · simp [hl]
    rw [idxOf_none (isW w) l fun j h => ha j (by omega) h]
    rfl
def kindW (w : List UInt8) : Int := if w = [109, 101, 115, 115, 97, 103, 101] then 16 else if w = [101, 110, 117, 109] then 17 else kindOf w
theorem c_spec_l20Kind (w : List UInt8) : cw f_spec_l20Kind [.lit (.string (str w))] [] = some (.lit (.int .i64 (kindW w)), []) := by
  have h1 := c_spec_KindOf w
  refine callW_run (by simp) fs_spec_l20Kind rfl rfl rfl ?_
  simp only [cw] at h1
  unfold kindW
  by_cases hm : w = [109, 101, 115, 115, 97, 103, 101]
  · rw [if_pos hm, hm]
    simp
  · rw [if_neg hm]
    by_cases he : w = [101, 110, 117, 109]
    · rw [if_pos he, he]
      simp
    · rw [if_neg he]
      simp [hm, he, h1]
def bareOp (x : OpT) : OpT := .mk x.num x.kind x.ref x.rep x.oneof [] false 0 []
@[simp] theorem nrm_bare (sh : List Sh) (l : List OpT) : nrmRows sh (l.map fun x => (bareOp x).enc) = l.map fun x => (bareOp x).enc := nrmRows_map sh (fun x => full_OpT _) l
theorem c_impl_bare (b : Bool) (x : OpT) : cw f_impl_bare [.agg b x.enc] [] = some (.ov [.ow (.lit (.int .i64 x.num)), .ow (.lit (.int .i64 x.kind)), .ow (.lit (.int .i64 x.ref)), .ow (.lit (.bool x.rep)), .ow (.lit (.int .i64 x.oneof)), .ow (.sl 0 []), .ow (.lit (.bool false)), .ow (.lit (.int .i64 0)), .ow (.sl 0 [])] true, []) := by
  refine callW_run (by simp) fs_impl_bare rfl rfl rfl ?_
  simp [OpT.enc_eq]
theorem c_impl_bareAll (b : Bool) (l : List OpT) (h : l.length ≤ 2 ^ 40) : cw f_impl_bareAll [.val b (.sl 9 (l.map OpT.enc))] [] = some (.ov [.ow (.sl 9 (opRows (l.map bareOp)))] false, []) := by
  refine callW_run (by simp) fs_impl_bareAll rfl rfl rfl ?_
  simp
  refine Mc.loop_ind (α := Nat) _ _ _ _ (fun i => I_impl_bareAll_0 (.vw 88 [] 0 1 false) (.val b (.sl 9 (l.map OpT.enc))) (.lit (.int .i64 l.length)) (.lit (.int .i64 i)) [(88, { cells := [.ow (.sl 9 (opRows ((l.take i).map bareOp)))], var := true })]) (fun i => l.length - i) (fun i => i ≤ l.length) 0 _ (by simp; rfl) (by simp) ?_
  intro i hi ih
  by_cases hl : i < l.length
  · have hc := c_impl_bare b l[i]
    have hn : opRows ((l.take (i + 1)).map bareOp) = opRows ((l.take i).map bareOp) ++ [(bareOp l[i]).enc] := by
      rw [take_next l i hl, List.map_append, List.map_singleton, opRows_snoc]
    have ha : (opRows ((l.take i).map bareOp)).length = i := by simp; omega
    have hna : ∀ sh, nrmRows sh (opRows ((l.take i).map bareOp)) = opRows ((l.take i).map bareOp) := fun sh => nrm_opRows sh _
    have ih' := fun σ' hσ' => ih (i + 1) σ' hσ' (by omega) (by omega)
    clear ih
    rw [hn] at ih'
    generalize opRows ((l.take i).map bareOp) = acc at ha hna ih' ⊢
    simp only [cw, OpT.enc_eq] at hc ih'
    have hb : (i + 1) * 104 ≤ maxBytes := by unfold maxBytes; omega
    simp [hl, OpT.enc_eq, hc, ha, hb, wrap_add i (by omega)]
    exact ih' _ (by simp [hna, bareOp, OpT.num, OpT.kind, OpT.ref, OpT.rep, OpT.oneof, OpT.tag, OpT.quick, OpT.run, OpT.inl])
  · have : i = l.length := by omega
    subst this
    simp
end Go.Proofs.YtckojpaklblnpaaGreatDoor.Th
