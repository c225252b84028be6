/- IRs: IrStats. -/
import Derived.Test.YtmkhdnpnjjdgfaaComm
import Derived.Test.YtmkhdnpnjjdgfaaIr15
set_option linter.unusedVariables false
set_option linter.unusedSimpArgs false
set_option maxRecDepth 10000
set_option maxHeartbeats 2000000
namespace Go.Proofs.Ytmkhdnpnjjdgfaa.Th
open Go Go.RowKit Go.Proofs.Ytmkhdnpnjjdgfaa.Ev

def cellsI (cs : List Int) : List C := cs.map fun n => C.ow (.lit (.int .i64 n))
def bump (cs : List Int) (k : Nat) : List Int := cs.set k (IntKind.wrap .i64 (cs.getD k 0 + 1))
def bumpM (cs : List Int) (m : ModT) : List Int := m.ops.foldl (fun cs x => bump cs x.kind.toNat) cs
def statsT (ms : List ModT) : List Int := ms.foldl bumpM ((ms.length : Int) :: List.replicate 17 0)

def encA (cs : List Int) : List T := cs.map fun n => T.lit (.int .i64 n)
abbrev boxA (cs : List Int) : O := { cells := [.own 18 [cellsI cs]], box := true }
def init (ms : List ModT) : List Int := (ms.length : Int) :: List.replicate 17 0
theorem bump_len (cs : List Int) (k : Nat) : (bump cs k).length = cs.length := by simp [bump]
theorem bumps_len : ∀ (l : List OpT) (cs : List Int), (l.foldl (fun cs x => bump cs x.kind.toNat) cs).length = cs.length := by
  intro l
  induction l with
  | nil => intro cs; rfl
  | cons x r ih => intro cs; rw [List.foldl_cons, ih, bump_len]
theorem bumpMs_len : ∀ (l : List ModT) (cs : List Int), (l.foldl bumpM cs).length = cs.length := by
  intro l
  induction l with
  | nil => intro cs; rfl
  | cons x r ih => intro cs; rw [List.foldl_cons, ih]; exact bumps_len _ _
@[simp] theorem cellsI_len (cs : List Int) : (cellsI cs).length = cs.length := by simp [cellsI]
theorem cellsI_at (cs : List Int) (k : Nat) (h : k < cs.length) : List.take 1 (List.drop k (cellsI cs)) = [C.ow (.lit (.int .i64 cs[k]))] := by
  have h' : k < (cellsI cs).length := by simpa using h
  rw [List.drop_eq_getElem_cons h']
  simp [cellsI]
theorem cellsI_set (cs : List Int) (k : Nat) (v : Int) : (cellsI cs).set k (C.ow (.lit (.int .i64 v))) = cellsI (cs.set k v) := by
  simp [cellsI, List.map_set]
theorem cellsI_free : ∀ (cs : List Int), (cellsI cs).all C.free = true := by
  intro cs
  induction cs with
  | nil => rfl
  | cons x r ih => simp [cellsI, C.free]
theorem cellsI_toT : ∀ (cs : List Int), cellsToT (cellsI cs) = some (encA cs) := by
  intro cs
  induction cs with
  | nil => rfl
  | cons x r ih =>
    have : cellsI (x :: r) = C.ow (.lit (.int .i64 x)) :: cellsI r := rfl
    rw [this]
    simp [cellsToT, ih, encA]
theorem cellsI_lent : ∀ (cs : List Int), lentAll (cellsI cs) = false := by
  intro cs
  induction cs with
  | nil => rfl
  | cons x r ih =>
    have : cellsI (x :: r) = C.ow (.lit (.int .i64 x)) :: cellsI r := rfl
    rw [this]
    simp [lentAll, ih]

theorem cellsI_put (cs : List Int) (k : Nat) (v : Int) (h : k < cs.length) : List.take k (cellsI cs) ++ C.ow (.lit (.int .i64 v)) :: List.drop (k + 1) (cellsI cs) = cellsI (cs.set k v) := by
  have h' : k < (cellsI cs).length := by simpa using h
  have := List.set_eq_take_append_cons_drop (l := cellsI cs) (i := k) (a := C.ow (.lit (.int .i64 v)))
  rw [if_pos h'] at this
  rw [← this, cellsI_set]
theorem encA_lit (b : Bool) (cs : List Int) : (encA cs).map (litC b) = cellsI cs := by simp [encA, cellsI, litC]
@[simp] theorem encA_len (cs : List Int) : (encA cs).length = cs.length := by simp [encA]

theorem c_spec_IrStats (b : Bool) (ms : List ModT) (hms : ms.length ≤ 2 ^ 40) (hs : ∀ m ∈ ms, m.Small) : cw f_spec_IrStats [.agg b (encM ms)] [] = some (.agg false (encA (if specB ms then statsT ms else List.replicate 18 0)), []) := by
  refine callW_run (by simp) fs_spec_IrStats rfl rfl rfl ?_
  have f1 := c_spec_IrOk b ms hms hs
  simp only [cw, encM] at f1
  cases q : specB ms with
  | false =>
    rw [q] at f1
    simp [encM, f1, encA]
  | true =>
  rw [q] at f1
  have hk := specB_kinds q
  simp [encM, f1]
  clear f1
  refine Mc.loop_ind (α := Nat) _ _ _ _ (fun i => I_spec_IrStats_0 (.ptr 72 [(0, 0)] 0) (.ptr 80 [(0, 0)] 0) (.ptr 88 [(0, 0)] 0) (.lit (.int .i64 i)) [(72, boxI b ms), (80, boxA (List.replicate 18 0)), (88, boxA ((ms.take i).foldl bumpM (init ms)))]) (fun i => ms.length - i) (fun i => i ≤ ms.length) 0 _ (by simp [cellsI, init]) (by simp) ?_
  intro i hi ih
  by_cases hl : i < ms.length
  rotate_left
  · have hi2 : ms.take i = ms := List.take_of_length_le (by omega)
    have hlen := bumpMs_len ms (init ms)
    have hst : statsT ms = ms.foldl bumpM (init ms) := rfl
    rw [hi2, hst]
    generalize ms.foldl bumpM (init ms) = cs at hlen ⊢
    simp [init] at hlen
    have ht : List.take 18 (cellsI cs) = cellsI cs := List.take_of_length_le (by simp [hlen])
    simp [hl, hlen, ht, cellsI_free, cellsI_toT, cellsI_lent]
    rw [if_neg]
    rotate_left
    · intro ⟨x, hx, he⟩
      obtain ⟨n, _, rfl⟩ := List.mem_map.mp hx
      exact absurd he (by simp)
    simp [cellsI_toT, cellsI_lent, hlen, encA_lit]
    rw [if_pos]
    rotate_left
    · intro x hx
      obtain ⟨n, _, rfl⟩ := List.mem_map.mp hx
      rfl
    simp [cellsI_toT, cellsI_lent, hlen, encA_lit]
  have hlen := bumpMs_len (ms.take i) (init ms)
  have ih' := fun σ' hσ' => ih (i + 1) σ' hσ' (by omega) (by omega)
  have hnx : (ms.take (i + 1)).foldl bumpM (init ms) = bumpM ((ms.take i).foldl bumpM (init ms)) ms[i] := by rw [take_next ms i hl, List.foldl_append]; rfl
  clear ih
  rw [hnx] at ih'
  generalize (ms.take i).foldl bumpM (init ms) = cs at hlen ih' ⊢
  simp [init] at hlen
  have hwi := wrap_add i (by omega)
  have hm40 := (hs ms[i] (List.getElem_mem hl)).1
  have hk := hk i hl
  refine cut1 _ fun c hc => ?_
  generalize hm : ms[i] = m at ih' hk hm40
  simp [hl]
  subst hc
  rw [Mc.at_seq, Mc.at_block]
  simp [hl, hm, ModT.enc]
  refine Mc.loop_ind (α := Nat) _ _ _ _ (fun j => I_spec_IrStats_1 (.ptr 72 [(0, 0)] 0) (.ptr 80 [(0, 0)] 0) (.ptr 88 [(0, 0)] 0) (.lit (.int .i64 i)) (.lit (.int .i64 j)) [(72, boxI b ms), (80, boxA (List.replicate 18 0)), (88, boxA ((m.ops.take j).foldl (fun cs x => bump cs x.kind.toNat) cs))]) (fun j => m.ops.length - j) (fun j => j ≤ m.ops.length) 0 _ (by simp) (by simp) ?_
  intro j hj ih
  by_cases hjl : j < m.ops.length
  rotate_left
  · have h2 : m.ops.take j = m.ops := List.take_of_length_le (by omega)
    have hb : m.ops.foldl (fun cs x => bump cs x.kind.toNat) cs = bumpM cs m := rfl
    rw [h2, hb]
    simp [hl, hm, ModT.enc, hjl, hwi]
    exact ih' _ (by simp)
  have hlen2 := bumps_len (m.ops.take j) cs
  have ih2 := fun σ' hσ' => ih (j + 1) σ' hσ' (by omega) (by omega)
  have hnx2 : (m.ops.take (j + 1)).foldl (fun cs x => bump cs x.kind.toNat) cs = bump ((m.ops.take j).foldl (fun cs x => bump cs x.kind.toNat) cs) m.ops[j].kind.toNat := by rw [take_next m.ops j hjl, List.foldl_append]; rfl
  clear ih
  rw [hnx2] at ih2
  generalize (m.ops.take j).foldl (fun cs x => bump cs x.kind.toNat) cs = cs2 at hlen2 ih2 ⊢
  rw [hlen] at hlen2
  obtain ⟨hk1, hk2⟩ := hk j hjl
  obtain ⟨k, hkk⟩ : ∃ k : Nat, m.ops[j].kind = k := ⟨m.ops[j].kind.toNat, by omega⟩
  have hk18 : k < 18 := by omega
  have hk18' : (k : Int) < 18 := by omega
  have hk18'' : k + 1 ≤ 18 := by omega
  have hat := cellsI_at cs2 k (by omega)
  simp [hl, hm, ModT.enc, OpT.enc_eq, hjl, hkk, hk18, hk18', hk18'', hlen2, hat]
  have hb : bump cs2 k = cs2.set k (IntKind.wrap .i64 (cs2[k] + 1)) := by simp [bump, hlen2, hk18]
  rw [hkk, Int.toNat_natCast, hb] at ih2
  rw [cellsI_put cs2 k _ (by omega), wrap_add j (by omega)]
  exact ih2 _ (by simp)

theorem c_impl_IrStats (b : Bool) (ms : List ModT) (hms : ms.length ≤ 2 ^ 40) (hs : ∀ m ∈ ms, m.Small) : cw f_impl_IrStats [.agg b (encM ms)] [] = some (.agg false (encA (if specB ms then statsT ms else List.replicate 18 0)), []) := by
  refine callW_run (by simp) fs_impl_IrStats rfl rfl rfl ?_
  have f1 := c_impl_IrOk b ms hms hs
  rw [specB_eq] at f1
  simp only [cw, encM] at f1
  cases q : specB ms with
  | false =>
    rw [q] at f1
    simp [encM, f1, encA]
  | true =>
  rw [q] at f1
  have hk := specB_kinds q
  simp [encM, f1]
  clear f1
  refine Mc.loop_ind (α := Nat) _ _ _ _ (fun i => I_impl_IrStats_0 (.ptr 80 [(0, 0)] 0) (.ptr 88 [(0, 0)] 0) (.val b (.sl 3 (ms.map ModT.enc))) (.lit (.int .i64 ms.length)) (.lit (.int .i64 i)) [(80, boxA (List.replicate 18 0)), (88, boxA ((ms.take i).foldl bumpM (init ms)))]) (fun i => ms.length - i) (fun i => i ≤ ms.length) 0 _ (by simp [cellsI, init]) (by simp) ?_
  intro i hi ih
  by_cases hl : i < ms.length
  rotate_left
  · have hi2 : ms.take i = ms := List.take_of_length_le (by omega)
    have hlen := bumpMs_len ms (init ms)
    have hst : statsT ms = ms.foldl bumpM (init ms) := rfl
    rw [hi2, hst]
    generalize ms.foldl bumpM (init ms) = cs at hlen ⊢
    simp [init] at hlen
    have ht : List.take 18 (cellsI cs) = cellsI cs := List.take_of_length_le (by simp [hlen])
    simp [hl, hlen, ht, cellsI_free, cellsI_toT, cellsI_lent]
    rw [if_neg]
    rotate_left
    · intro ⟨x, hx, he⟩
      obtain ⟨n, _, rfl⟩ := List.mem_map.mp hx
      exact absurd he (by simp)
    simp [cellsI_toT, cellsI_lent, hlen, encA_lit]
    rw [if_pos]
    rotate_left
    · intro x hx
      obtain ⟨n, _, rfl⟩ := List.mem_map.mp hx
      rfl
    simp [cellsI_toT, cellsI_lent, hlen, encA_lit]
  have hlen := bumpMs_len (ms.take i) (init ms)
  have ih' := fun σ' hσ' => ih (i + 1) σ' hσ' (by omega) (by omega)
  have hnx : (ms.take (i + 1)).foldl bumpM (init ms) = bumpM ((ms.take i).foldl bumpM (init ms)) ms[i] := by rw [take_next ms i hl, List.foldl_append]; rfl
  clear ih
  rw [hnx] at ih'
  generalize (ms.take i).foldl bumpM (init ms) = cs at hlen ih' ⊢
  simp [init] at hlen
  have hwi := wrap_add i (by omega)
  have hm40 := (hs ms[i] (List.getElem_mem hl)).1
  have hk := hk i hl
  refine cut2 _ fun c hc => ?_
  generalize hm : ms[i] = m at ih' hk hm40
  simp [hl]
  subst hc
  rw [Mc.at_seq, Mc.at_block]
  simp [hl, hm, ModT.enc]
  refine Mc.loop_ind (α := Nat) _ _ _ _ (fun j => I_impl_IrStats_1 (.ptr 80 [(0, 0)] 0) (.ptr 88 [(0, 0)] 0) (.val b (.sl 3 (ms.map ModT.enc))) (.lit (.int .i64 ms.length)) (.lit (.int .i64 i)) (.val b (.sl 9 (m.ops.map OpT.enc))) (.lit (.int .i64 m.ops.length)) (.lit (.int .i64 j)) [(80, boxA (List.replicate 18 0)), (88, boxA ((m.ops.take j).foldl (fun cs x => bump cs x.kind.toNat) cs))]) (fun j => m.ops.length - j) (fun j => j ≤ m.ops.length) 0 _ (by simp) (by simp) ?_
  intro j hj ih
  by_cases hjl : j < m.ops.length
  rotate_left
  · have h2 : m.ops.take j = m.ops := List.take_of_length_le (by omega)
    have hb : m.ops.foldl (fun cs x => bump cs x.kind.toNat) cs = bumpM cs m := rfl
    rw [h2, hb]
    simp [hl, hm, ModT.enc, hjl, hwi]
    exact ih' _ (by simp)
  have hlen2 := bumps_len (m.ops.take j) cs
  have ih2 := fun σ' hσ' => ih (j + 1) σ' hσ' (by omega) (by omega)
  have hnx2 : (m.ops.take (j + 1)).foldl (fun cs x => bump cs x.kind.toNat) cs = bump ((m.ops.take j).foldl (fun cs x => bump cs x.kind.toNat) cs) m.ops[j].kind.toNat := by rw [take_next m.ops j hjl, List.foldl_append]; rfl
  clear ih
  rw [hnx2] at ih2
  generalize (m.ops.take j).foldl (fun cs x => bump cs x.kind.toNat) cs = cs2 at hlen2 ih2 ⊢
  rw [hlen] at hlen2
  obtain ⟨hk1, hk2⟩ := hk j hjl
  obtain ⟨k, hkk⟩ : ∃ k : Nat, m.ops[j].kind = k := ⟨m.ops[j].kind.toNat, by omega⟩
  have hk18 : k < 18 := by omega
  have hk18' : (k : Int) < 18 := by omega
  have hk18'' : k + 1 ≤ 18 := by omega
  have hat := cellsI_at cs2 k (by omega)
  simp [hl, hm, ModT.enc, OpT.enc_eq, hjl, hkk, hk18, hk18', hk18'', hlen2, hat]
  have hb : bump cs2 k = cs2.set k (IntKind.wrap .i64 (cs2[k] + 1)) := by simp [bump, hlen2, hk18]
  rw [hkk, Int.toNat_natCast, hb] at ih2
  rw [cellsI_put cs2 k _ (by omega), wrap_add j (by omega)]
  exact ih2 _ (by simp)

end Go.Proofs.Ytmkhdnpnjjdgfaa.Th
