/- IRs: Ops alike, searches. -/
import Derived.Test.YtckojpaklblnpaaDoorComm
import Derived.Test.YtckojpaklblnpaaDoorIr4
set_option linter.unusedVariables false
set_option linter.unusedSimpArgs false
set_option maxRecDepth 10000
set_option maxHeartbeats 2000000
namespace Go.Proofs.YtckojpaklblnpaaDoor.Th
open Go Go.RowKit Go.Proofs.YtckojpaklblnpaaDoor.Ev
open Go.Proofs.YtckojpaklblnpaaDoor.Wire

def bareB (x : OpT) : Bool := decide (x.tag = []) && (!x.quick && (decide (x.run = 0) && decide (x.inl = [])))
def sameB (x y : OpT) : Bool := decide (x.num = y.num) && (decide (x.kind = y.kind) && (decide (x.ref = y.ref) && (decide (x.rep = y.rep) && decide (x.oneof = y.oneof))))
def blockB (x : OpT) : Bool := (decide (wireT x.kind = 5) || decide (wireT x.kind = 1)) && (!x.rep && decide (x.oneof = 0))

theorem c_spec_l9Plain (b : Bool) (x : OpT) : cw f_spec_l9Plain [.agg b x.enc] [] = some (.lit (.bool (bareB x)), []) := by
  refine callW_run (by simp) fs_spec_l9Plain rfl rfl rfl ?_
  unfold bareB
  simp only [OpT.enc_eq]
  by_cases h1 : x.tag = []
  rotate_left
  · simp [h1]
  by_cases h2 : x.quick = true
  · simp [h1, h2]
  by_cases h3 : x.run = 0
  rotate_left
  · simp [h1, h2, h3]
  by_cases h4 : x.inl = [] <;> simp [h1, h2, h3, h4]

theorem c_impl_isBare (b : Bool) (x : OpT) : cw f_impl_isBare [.agg b x.enc] [] = some (.lit (.bool (bareB x)), []) := by
  refine callW_run (by simp) fs_impl_isBare rfl rfl rfl ?_
  unfold bareB
  simp only [OpT.enc_eq]
  by_cases h1 : x.tag = []
  rotate_left
  · simp [h1]
  by_cases h2 : x.quick = true
  · simp [h1, h2]
  by_cases h3 : x.run = 0
  rotate_left
  · simp [h1, h2, h3]
  by_cases h4 : x.inl = [] <;> simp [h1, h2, h3, h4]

theorem c_spec_l9Same (b b' : Bool) (x y : OpT) : cw f_spec_l9Same [.agg b x.enc, .agg b' y.enc] [] = some (.lit (.bool (sameB x y)), []) := by
  refine callW_run (by simp) fs_spec_l9Same rfl rfl rfl ?_
  unfold sameB
  simp only [OpT.enc_eq]
  generalize x.num = a1, y.num = b1, x.kind = a2, y.kind = b2, x.ref = a3, y.ref = b3, x.rep = a4, y.rep = b4, x.oneof = a5, y.oneof = b5
  by_cases e1 : a1 = b1
  rotate_left
  · simp [e1]
  by_cases e2 : a2 = b2
  rotate_left
  · simp [e1, e2]
  by_cases e3 : a3 = b3
  rotate_left
  · simp [e1, e2, e3]
  by_cases e4 : a4 = b4
  rotate_left
  · simp [e1, e2, e3, e4]
  by_cases e5 : a5 = b5 <;> simp [e1, e2, e3, e4, e5]

theorem c_impl_sameField (b b' : Bool) (x y : OpT) : cw f_impl_sameField [.agg b x.enc, .agg b' y.enc] [] = some (.lit (.bool (sameB x y)), []) := by
  refine callW_run (by simp) fs_impl_sameField rfl rfl rfl ?_
  unfold sameB
  simp only [OpT.enc_eq]
  generalize x.num = a1, y.num = b1, x.kind = a2, y.kind = b2, x.ref = a3, y.ref = b3, x.rep = a4, y.rep = b4, x.oneof = a5, y.oneof = b5
  by_cases e1 : a1 = b1
  rotate_left
  · simp [e1]
  by_cases e2 : a2 = b2
  rotate_left
  · simp [e1, e2]
  by_cases e3 : a3 = b3
  rotate_left
  · simp [e1, e2, e3]
  by_cases e4 : a4 = b4
  rotate_left
  · simp [e1, e2, e3, e4]
  by_cases e5 : a5 = b5 <;> simp [e1, e2, e3, e4, e5]

theorem c_spec_l9Block (b : Bool) (x : OpT) : cw f_spec_l9Block [.agg b x.enc] [] = some (.lit (.bool (blockB x)), []) := by
  have hc := c_spec_WireOf x.kind
  refine callW_run (by simp) fs_spec_l9Block rfl rfl rfl ?_
  simp only [cw] at hc
  unfold blockB
  simp only [OpT.enc_eq]
  generalize wireT x.kind = w at hc ⊢
  generalize x.rep = r, x.oneof = o
  by_cases h5 : w = 5
  · cases r <;> by_cases ho : o = 0 <;> simp [hc, h5, ho]
  by_cases h1 : w = 1
  · cases r <;> by_cases ho : o = 0 <;> simp [hc, h1, ho]
  simp [hc, h5, h1]

theorem c_impl_mayRun (b : Bool) (x : OpT) : cw f_impl_mayRun [.agg b x.enc] [] = some (.lit (.bool (blockB x)), []) := by
  have hc := c_impl_WireOf x.kind
  refine callW_run (by simp) fs_impl_mayRun rfl rfl rfl ?_
  simp only [cw] at hc
  unfold blockB
  simp only [OpT.enc_eq]
  generalize wireT x.kind = w at hc ⊢
  generalize x.rep = r, x.oneof = o
  by_cases h5 : w = 5
  · cases r <;> by_cases ho : o = 0 <;> simp [hc, h5, ho]
  by_cases h1 : w = 1
  · cases r <;> by_cases ho : o = 0 <;> simp [hc, h1, ho]
  simp [hc, h5, h1]

theorem c_impl_marksOkS1 (b b' : Bool) (x y : OpT) : cw f_impl_marksOkS1 [.agg b x.enc, .agg b' y.enc] [] = some (.lit (.bool (bareB x && sameB x y)), []) := by
  have h1 := c_impl_isBare b x
  have h2 := c_impl_sameField b b' x y
  refine callW_run (by simp) fs_impl_marksOkS1 rfl rfl rfl ?_
  simp only [cw, OpT.enc_eq] at h1 h2
  simp only [OpT.enc_eq]
  cases hb : bareB x <;> simp [hb] at h1 <;> simp [h1, h2]

/-- Are two lists of Ops alike, the first of them bare? -/
def alikeB (l k : List OpT) : Bool := decide (l.length = k.length) && (l.zip k).all fun p => bareB p.1 && sameB p.1 p.2

theorem c_slices_IndexFunc_Limpl_Op_impl_Op (b : Bool) (l : List OpT) (g : FuncId) (on : Nat) (orow : List C) (p : OpT → Bool) (hp : ∀ b c, c ∈ l → cw g [.agg b (c).enc, .ptr 0 [(0, 0)] 0] [{ cells := [.own on [orow]], box := true }] = some (.lit (.bool (p c)), [some { cells := [.own on [orow]], box := true }])) (h : l.length ≤ 2 ^ 50) :
    cw f_slices_IndexFunc_Limpl_Op_impl_Op [.val b (.sl 9 (l.map OpT.enc)), .fn g [.ptr 0 [(0, 0)] 0]] [{ cells := [.own on [orow]], box := true }] = some (.lit (.int .i64 (idxOf p l)), [some { cells := [.own on [orow]], box := true }]) := by
  refine callW_run (by simp) fs_slices_IndexFunc_Limpl_Op_impl_Op rfl rfl rfl ?_
  simp
  refine Mc.loop_ind (α := Nat) _ _ _ _ (fun i => I_slices_IndexFunc_Limpl_Op_impl_Op_0 (.val b (.sl 9 (l.map OpT.enc))) (.fn g [.ptr 0 [(0, 0)] 0]) (.lit (.int .i64 l.length)) (.lit (.int .i64 i)) [(0, { cells := [.own on [orow]], box := true })]) (fun i => l.length - i) (fun i => i ≤ l.length ∧ ∀ j (h : j < i) (h' : j < l.length), p l[j] = false) 0 _ (by simp) (by simp) ?_
  intro i ⟨hi, ha⟩ ih
  by_cases hl : i < l.length
  · have hc := hp b l[i] (List.getElem_mem hl)
    simp only [cw, OpT.enc_eq] at hc
    cases hq : p l[i] with
    | true =>
      simp [hl, OpT.enc_eq, hc, hq]
      exact (idxOf_at p l i hl hq ha).symm
    | false =>
      simp [hl, OpT.enc_eq, hc, hq, wrap_add i (by omega)]
      refine ih (i + 1) _ (by simp) ⟨by omega, ?_⟩ (by omega)
      intro j h1 h2
      by_cases hj : j = i
      · subst hj; exact hq
      · exact ha j (by omega) h2
  · simp [hl]
    exact (idxOf_none p l fun j h => ha j (by omega) h).symm

theorem c_slices_ContainsFunc_Limpl_Op_impl_Op (b : Bool) (l : List OpT) (g : FuncId) (on : Nat) (orow : List C) (p : OpT → Bool) (hp : ∀ b c, c ∈ l → cw g [.agg b (c).enc, .ptr 0 [(0, 0)] 0] [{ cells := [.own on [orow]], box := true }] = some (.lit (.bool (p c)), [some { cells := [.own on [orow]], box := true }])) (h : l.length ≤ 2 ^ 50) :
    cw f_slices_ContainsFunc_Limpl_Op_impl_Op [.val b (.sl 9 (l.map OpT.enc)), .fn g [.ptr 0 [(0, 0)] 0]] [{ cells := [.own on [orow]], box := true }] = some (.lit (.bool (l.any p)), [some { cells := [.own on [orow]], box := true }]) := by
  refine callW_run (by simp) fs_slices_ContainsFunc_Limpl_Op_impl_Op rfl rfl rfl ?_
  have hc := c_slices_IndexFunc_Limpl_Op_impl_Op b l g on orow p hp h
  simp only [cw] at hc
  simp [hc, idxOf_any]

theorem c_slices_IndexFunc_Limpl_Mod_impl_Mod (b : Bool) (l : List ModT) (g : FuncId) (on : Nat) (orow : List C) (p : ModT → Bool) (hp : ∀ b c, c ∈ l → cw g [.agg b (c).enc, .ptr 0 [(0, 0)] 0] [{ cells := [.own on [orow]], box := true }] = some (.lit (.bool (p c)), [some { cells := [.own on [orow]], box := true }])) (h : l.length ≤ 2 ^ 50) :
    cw f_slices_IndexFunc_Limpl_Mod_impl_Mod [.val b (.sl 3 (l.map ModT.enc)), .fn g [.ptr 0 [(0, 0)] 0]] [{ cells := [.own on [orow]], box := true }] = some (.lit (.int .i64 (idxOf p l)), [some { cells := [.own on [orow]], box := true }]) := by
  refine callW_run (by simp) fs_slices_IndexFunc_Limpl_Mod_impl_Mod rfl rfl rfl ?_
  simp
  refine Mc.loop_ind (α := Nat) _ _ _ _ (fun i => I_slices_IndexFunc_Limpl_Mod_impl_Mod_0 (.val b (.sl 3 (l.map ModT.enc))) (.fn g [.ptr 0 [(0, 0)] 0]) (.lit (.int .i64 l.length)) (.lit (.int .i64 i)) [(0, { cells := [.own on [orow]], box := true })]) (fun i => l.length - i) (fun i => i ≤ l.length ∧ ∀ j (h : j < i) (h' : j < l.length), p l[j] = false) 0 _ (by simp) (by simp) ?_
  intro i ⟨hi, ha⟩ ih
  by_cases hl : i < l.length
  · have hc := hp b l[i] (List.getElem_mem hl)
    simp only [cw, ModT.enc] at hc
    cases hq : p l[i] with
    | true =>
      simp [hl, ModT.enc, hc, hq]
      exact (idxOf_at p l i hl hq ha).symm
    | false =>
      simp [hl, ModT.enc, hc, hq, wrap_add i (by omega)]
      refine ih (i + 1) _ (by simp) ⟨by omega, ?_⟩ (by omega)
      intro j h1 h2
      by_cases hj : j = i
      · subst hj; exact hq
      · exact ha j (by omega) h2
  · simp [hl]
    exact (idxOf_none p l fun j h => ha j (by omega) h).symm

theorem c_slices_ContainsFunc_Limpl_Mod_impl_Mod (b : Bool) (l : List ModT) (g : FuncId) (on : Nat) (orow : List C) (p : ModT → Bool) (hp : ∀ b c, c ∈ l → cw g [.agg b (c).enc, .ptr 0 [(0, 0)] 0] [{ cells := [.own on [orow]], box := true }] = some (.lit (.bool (p c)), [some { cells := [.own on [orow]], box := true }])) (h : l.length ≤ 2 ^ 50) :
    cw f_slices_ContainsFunc_Limpl_Mod_impl_Mod [.val b (.sl 3 (l.map ModT.enc)), .fn g [.ptr 0 [(0, 0)] 0]] [{ cells := [.own on [orow]], box := true }] = some (.lit (.bool (l.any p)), [some { cells := [.own on [orow]], box := true }]) := by
  refine callW_run (by simp) fs_slices_ContainsFunc_Limpl_Mod_impl_Mod rfl rfl rfl ?_
  have hc := c_slices_IndexFunc_Limpl_Mod_impl_Mod b l g on orow p hp h
  simp only [cw] at hc
  simp [hc, idxOf_any]

end Go.Proofs.YtckojpaklblnpaaDoor.Th
