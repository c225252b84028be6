/- Parts of the proof, merged: Ir13 Pa6 Ir14 Ir15. -/
import Derived.Test.YtckojpaklblnpaaGreatDoorKG1
import Derived.Test.YtckojpaklblnpaaGreatDoorKIr12
import Derived.Test.YtckojpaklblnpaaGreatDoorKG4
set_option linter.unusedVariables false
set_option linter.unusedSimpArgs false
set_option maxRecDepth 10000
set_option maxHeartbeats 2000000
namespace Go.Proofs.YtckojpaklblnpaaGreatDoor.Th
open Go Go.RowKit Go.Proofs.YtckojpaklblnpaaGreatDoor.Ev
theorem prev_lt {ops : List OpT} (h : ∀ j (h : j < ops.length), prevB ops ops[j] j = true) : ∀ i j (hi : i < ops.length) (hj : j < ops.length), i < j → ops[i].num < ops[j].num := by
  intro i j hi hj hij
  induction j with
  | zero => omega
  | succ k ih =>
    have hk : k < ops.length := by omega
    have h1 := h (k + 1) hj
    have h2 : ops[k].num < ops[k + 1].num := by simpa [prevB, hk] using h1
    by_cases he : i = k
    · subst he; exact h2
    · have := ih hk (by omega); omega
theorem asc_of {ops : List OpT} (h : ∀ j (h : j < ops.length), prevB ops ops[j] j = true) (hn : ∀ j (h : j < ops.length), numOkB ops[j].num = true) : Asc ops := by
  refine ⟨fun x hx => ?_, prev_lt h⟩
  obtain ⟨i, hi, rfl⟩ := List.getElem_of_mem hx
  have := hn i hi
  simp [numOkB] at this
  omega
theorem most_le {k : Int} (l : List OpT) (h : ∀ x ∈ l, x.oneof ≤ k) (h0 : 0 ≤ k) : most l ≤ k := by
  have key : ∀ (l : List OpT) (m : Int), m ≤ k → (∀ x ∈ l, x.oneof ≤ k) → l.foldl mostF m ≤ k := by
    intro l
    induction l with
    | nil => intro m hm _; exact hm
    | cons x r ih =>
      intro m hm hx
      refine ih _ ?_ fun y hy => hx y (List.mem_cons_of_mem _ hy)
      have := hx x List.mem_cons_self
      unfold mostF
      split <;> omega
  exact key l 0 h0 h
def modP (ms : List ModT) (m : ModT) : Prop := (∀ j (h : j < m.ops.length), opOkB ms m.ops j m.ops[j] = true) ∧ oneofsB m.ops = true ∧ (m.jumps = [] ∨ m.jumps = jumpsT m.ops)
def specP (ms : List ModT) : Prop := (1 ≤ (ms.length : Int) ∧ (ms.length : Int) ≤ 30) ∧ (∀ j (h : j < ms.length), ms[j].ops.length ≤ 40) ∧ ∀ j (h : j < ms.length), modP ms ms[j]
theorem opOkB_num {ms : List ModT} {ops : List OpT} {i : Nat} {x : OpT} (h : opOkB ms ops i x = true) : numOkB x.num = true ∧ prevB ops x i = true ∧ x.oneof ≤ 40 := by
  unfold opOkB at h
  simp only [Bool.and_eq_true, decide_eq_true_eq] at h
  exact ⟨h.1, h.2.1, h.2.2.2.2.1.2⟩
theorem modP_asc {ms : List ModT} {ops : List OpT} (h : ∀ j (h : j < ops.length), opOkB ms ops j ops[j] = true) : Asc ops ∧ most ops ≤ 40 := by
  refine ⟨asc_of (fun j hj => (opOkB_num (h j hj)).2.1) (fun j hj => (opOkB_num (h j hj)).1), most_le ops (fun x hx => ?_) (by omega)⟩
  obtain ⟨i, hi, rfl⟩ := List.getElem_of_mem hx
  exact (opOkB_num (h i hi)).2.2
open Classical in
noncomputable def specB (ms : List ModT) : Bool := decide (specP ms)
open Classical in
theorem c_spec_IrOk (b : Bool) (ms : List ModT) (hms : ms.length ≤ 2 ^ 40) (hs : ∀ m ∈ ms, m.Small) : cw f_spec_IrOk [.agg b (encM ms)] [] = some (.lit (.bool (specB ms)), []) := by
  refine callW_run (by simp) fs_spec_IrOk rfl rfl rfl ?_
  have f1 := c_spec_l1In (ms.length : Int) 1 30
  simp only [cw] at f1
  unfold specB
  by_cases h0 : 1 ≤ (ms.length : Int) ∧ (ms.length : Int) ≤ 30
  rotate_left
  · have hn : ¬ specP ms := fun hh => h0 hh.1
    rw [decide_eq_false h0] at f1
    simp [encM, f1, hn]
  rw [decide_eq_true h0] at f1
  simp [encM, f1]
  refine Mc.loop_ind (α := Nat) _ _ _ _ (fun j => I_spec_IrOk_0 (.ptr 72 [(0, 0)] 0) (.lit (.int .i64 j)) [(72, boxI b ms)]) (fun j => ms.length - j) (fun j => j ≤ ms.length ∧ ∀ k (_ : k < j) (h : k < ms.length), ms[k].ops.length ≤ 40) 0 _ (by simp) (by simp) ?_
  intro j ⟨hj, ha⟩ ih
  by_cases hl : j < ms.length
  · by_cases h4 : ms[j].ops.length ≤ 40
    · have h4' : ¬ (40 : Int) < ms[j].ops.length := by omega
      simp [hl, ModT.enc, h4', wrap_add j (by omega)]
      refine ih (j + 1) _ (by simp) ⟨by omega, fun k h1 h2 => ?_⟩ (by omega)
      by_cases hkj : k = j
      · subst hkj; exact h4
      · exact ha k (by omega) h2
    · have h4' : (40 : Int) < ms[j].ops.length := by omega
      have hn : ¬ specP ms := fun hh => h4 (hh.2.1 j hl)
      simp [hl, ModT.enc, h4', hn]
  clear ih
  have h40 : ∀ k (h : k < ms.length), ms[k].ops.length ≤ 40 := fun k h => ha k (by omega) h
  simp [hl]
  clear ha hl hj
  refine Mc.loop_ind (α := Nat) _ _ _ _ (fun j => I_spec_IrOk_1 (.ptr 72 [(0, 0)] 0) (.lit (.int .i64 j)) [(72, boxI b ms)]) (fun j => ms.length - j) (fun j => j ≤ ms.length ∧ ∀ k (_ : k < j) (h : k < ms.length), modP ms ms[k]) 0 _ (by simp) (by simp) ?_
  intro i ⟨hi, ha⟩ ih
  by_cases hl : i < ms.length
  rotate_left
  · have hy : specP ms := ⟨h0, h40, fun k h => ha k (by omega) h⟩
    simp [hl, hy]
  have no : ¬ modP ms ms[i] → decide (specP ms) = false := fun hn => decide_eq_false fun hh => hn (hh.2.2 i hl)
  have ih' := fun hm : modP ms ms[i] => fun σ' hσ' => ih (i + 1) σ' hσ' ⟨by omega, fun k h1 h2 => by
    by_cases hki : k = i
    · subst hki; exact hm
    · exact ha k (by omega) h2⟩ (by omega)
  clear ih
  have hm40 := h40 i hl
  have hsm := hs ms[i] (List.getElem_mem hl)
  have hwi := wrap_add i (by omega)
  refine cut1 _ fun c hc => ?_
  generalize hm : ms[i] = m at no ih' hm40 hsm
  generalize decide (specP ms) = res at no ih' ⊢
  simp [hl]
  subst hc
  rw [Mc.at_seq, Mc.at_block]
  simp [hl, hm, ModT.enc]
  refine Mc.loop_ind (α := Nat) _ _ _ _ (fun j => I_spec_IrOk_2 (.ptr 72 [(0, 0)] 0) (.lit (.int .i64 i)) (.ptr 104 [(0, 0)] 0) (.lit (.int .i64 j)) [(72, boxI b ms), (104, boxM b m)]) (fun j => m.ops.length - j) (fun j => j ≤ m.ops.length ∧ ∀ k (_ : k < j) (h : k < m.ops.length), opOkB ms m.ops k m.ops[k] = true) 0 _ (by simp) (by simp) ?_
  intro j ⟨hj, hb⟩ ih
  by_cases hjl : j < m.ops.length
  · have f2 := c_spec_l9OpOk b b ms m j hjl (by omega) (by omega) (hsm.2.1 _ (List.getElem_mem hjl))
    have no : opOkB ms m.ops j m.ops[j] = false → res = false := fun hh => no fun hp => by rw [hp.1 j hjl] at hh; exact absurd hh (by decide)
    simp only [cw, encM, ModT.enc] at f2
    clear ih'
    cases hq : opOkB ms m.ops j m.ops[j] with
    | false =>
      rw [hq] at f2
      simp [hjl, f2, no hq]
    | true =>
      rw [hq] at f2
      simp [hjl, f2, wrap_add j (by omega)]
      refine ih (j + 1) _ (by simp) ⟨by omega, fun k h1 h2 => ?_⟩ (by omega)
      by_cases hkj : k = j
      · subst hkj; exact hq
      · exact hb k (by omega) h2
  clear ih
  have hall : ∀ k (h : k < m.ops.length), opOkB ms m.ops k m.ops[k] = true := fun k h => hb k (by omega) h
  clear hb
  obtain ⟨hasc, hmost⟩ := modP_asc hall
  have f3 := c_spec_l9OneofsOk b m (by omega) (by omega)
  have f4 := c_spec_l9Jumps b m (by omega) hasc
  have f5 := c_spec_l9SameInts b true m.jumps (jumpsT m.ops) (by have := hsm.2.2; omega)
  simp only [cw, ModT.enc] at f3 f4 f5
  cases q3 : oneofsB m.ops with
  | false =>
    have no := no fun hp => by rw [hp.2.1] at q3; exact absurd q3 (by decide)
    rw [q3] at f3
    simp [hjl, f3, no]
    exact .b (by kernel_rfl)
  | true =>
    rw [q3] at f3
    by_cases hz : m.jumps = []
    · have hz' : (0 < m.jumps.length) = False := by rw [hz]; simp
      have ih' := ih' ⟨hall, q3, Or.inl hz⟩
      simp [hjl, f3, hz', hwi]
      exact ⟨.b (by kernel_rfl), ih' _ (by simp)⟩
    · have hz' : (0 < m.jumps.length) = True := eq_true (List.length_pos_iff.mpr hz)
      by_cases hJ : m.jumps = jumpsT m.ops
      · have ih' := ih' ⟨hall, q3, Or.inr hJ⟩
        rw [decide_eq_true hJ] at f5
        simp [hjl, f3, hz', f4, f5, hwi]
        exact ⟨.b (by kernel_rfl), ih' _ (by simp)⟩
      · have no := no fun hp => by
          cases hp.2.2 with
          | inl h => exact hz h
          | inr h => exact hJ h
        rw [decide_eq_false hJ] at f5
        simp [hjl, f3, hz', f4, f5, no]
        exact .b (by kernel_rfl)
end Go.Proofs.YtckojpaklblnpaaGreatDoor.Th
set_option linter.unusedVariables false
set_option linter.unusedSimpArgs false
set_option maxRecDepth 10000
set_option maxHeartbeats 2000000
namespace Go.Proofs.YtckojpaklblnpaaGreatDoor.Th
open Go Go.RowKit Go.Proofs.YtckojpaklblnpaaGreatDoor.Ev
open Go.Proofs.YtckojpaklblnpaaGreatDoor.Wire
theorem Mc.loop_indP {α : Type} (m : Mc) (c : Code) (K : List Fr) (Q : Option (V × List (Option O)) → Prop) (Inv : α → F) (μ : α → Nat) (P : α → Prop) (a : α) (σ : F) (h0 : keepAt m.e m.f c σ = Inv a) (hP : P a)
    (step : ∀ a, P a → (∀ a' σ', keepAt m.e m.f c σ' = Inv a' → P a' → μ a' < μ a → Q (m.at (.loop c) K σ')) → Q (m.at c (.lp c :: K) (Inv a))) : Q (m.at (.loop c) K σ) := by
  generalize hn : μ a = n
  induction n using Nat.strongRecOn generalizing a σ with
  | ind n ih =>
    rw [Mc.at_loop, h0]
    exact step a hP fun a' σ' h1 h2 h3 => ih (μ a') (by omega) a' σ' h1 h2 rfl
def Ans (Q : V → List (Option O) → Prop) (r : Option (V × List (Option O))) : Prop := ∃ v os, r = some (v, os) ∧ Q v os
theorem callW_runQ {e : Env} {fs : FuncId → Option Func} {f : FuncId} {fn : Func} {args : List S} {obs : List O} {c : Code} {n : Nat} {rs : List ResultVar} {Q : V → List (Option O) → Prop} (hx : e.ext f = none) (hf : fs f = some fn) (hb : fn.body = some c) (hn : fn.ntmps = n) (hr : fn.results.toList = rs) (hu : unOk c args obs (e.un f) = true)
    (h : Ans Q (Mc.at ⟨e, callW e fs, f, rs, obs.length⟩ c [] { sl := args ++ List.replicate (n - args.length) .undef, ob := enterObs obs 0 })) : Ans Q (callW e fs f args obs) := by
  obtain ⟨v, os, h1, h2⟩ := h
  exact ⟨v, os, callW_runU hx hf hb hn hr hu h1, h2⟩
theorem cutGP (n : Nat) (m : Mc) (Q : Option (V × List (Option O)) → Prop) {g : Code} {K : List Fr} {σ : F} (h : ∀ c, c = Code.drop n g → Q (m.at (Code.graft n g c) K σ)) : Q (m.at g K σ) := by
  have := h _ rfl
  rwa [graft_drop] at this
theorem cutKP (m : Mc) (Q : Option (V × List (Option O)) → Prop) {c : Code} {K : List Fr} {σ : F} (h : ∀ K', K' = K → Q (m.at c K' σ)) : Q (m.at c K σ) := h _ rfl
theorem at_regionP (m : Mc) (Q : Option (V × List (Option O)) → Prop) (id : Nat) (ops : Array Oper) (K : List Fr) (σ τ : F) (h : σ.keep (m.e.trim m.f id) = τ) (hq : Q (m.ops ops ops.toList K τ)) : Q (m.at (.region id ops false) K σ) := by
  rw [at_region_of m id ops K σ τ h]
  exact hq
theorem at_of {α : Type} {l : List α} {i : Nat} {x : α} (h : l[i]? = some x) : ∀ h' : i < l.length, l[i] = x := fun h' => by
  rw [List.getElem?_eq_getElem h'] at h
  exact Option.some.inj h
theorem putTag_len (n w : Int) : (putTag n w).length ≤ 2 ^ 40 := by
  unfold putTag
  split
  · rename_i h
    have := varint_len 4 (8 * n + w).toNat (by omega)
    omega
  · simp
def bit (f n : Int) : Bool := !decide (bits .and .i64 f n = 0)
def inlOk (ms : List ModT) (x : OpT) : Bool := decide (x.kind = 16) && (decide (0 ≤ x.ref ∧ x.ref ≤ (ms.length : Int) - 1) && !decide (refOps ms x.ref = []))
def inlL (ms : List ModT) (x : OpT) (f : Int) : List OpT := if bit f 8 = true then (refOps ms x.ref).map bareOp else []
def tagL (x : OpT) (f : Int) : List Int := if bit f 4 = true then tagT x else []
def opL (ms : List ModT) (x : OpT) (f : Int) : OpT := .mk x.num x.kind x.ref x.rep x.oneof (tagL x f) x.quick x.run (inlL ms x f)
def okOp (st : Bool) (ms : List ModT) (x : OpT) (f : Int) : Bool := (!(st && bit f 4) || !decide (tagT x = [])) && (!bit f 8 || inlOk ms x)
def opsL (ms : List ModT) (ops : List OpT) (fs : List Int) : List OpT := List.zipWith (opL ms) ops fs
def jmpF (st : Bool) (l : List OpT) : List Int := if st then jumpsT l else jumpsL l
def modL (st : Bool) (ms : List ModT) (m : ModT) (j : Int) (fs : List Int) : ModT := ⟨opsL ms m.ops fs, if bit j 1 = true then jmpF st m.ops else [], m.cached⟩
def layL (st : Bool) (ms : List ModT) (fl : List Int) (fo : List (List Int)) : List ModT := List.zipWith (fun m (p : Int × List Int) => modL st ms m p.1 p.2) ms (fl.zip fo)
def okMod (st : Bool) (ms : List ModT) (m : ModT) (j : Int) (fs : List Int) : Prop := (bit j 1 = true → jmpF st m.ops ≠ []) ∧ ∀ i (h : i < m.ops.length) (h' : i < fs.length), okOp st ms m.ops[i] fs[i] = true
def okAll (st : Bool) (ms : List ModT) (fl : List Int) (fo : List (List Int)) : Prop := ∀ k (h : k < ms.length) (h1 : k < fl.length) (h2 : k < fo.length), okMod st ms ms[k] fl[k] fo[k]
structure Raw (ms : List ModT) (fl : List Int) (fo : List (List Int)) : Prop where
  len : ms.length ≤ 2 ^ 40
  hfl : fl.length = ms.length
  hfo : fo.length = ms.length
  ops : ∀ k (h : k < ms.length) (h2 : k < fo.length), fo[k].length = ms[k].ops.length
  small : ∀ m ∈ ms, m.ops.length ≤ 2 ^ 40
  plain : ∀ m ∈ ms, ∀ x ∈ m.ops, Plain x
  jumps : ∀ m ∈ ms, m.jumps = []
abbrev boxL (R : List (List T)) : O := { cells := [.own 1 [[.ow (.sl 3 R)]]], box := true }
def Sk (a b : List ModT) : Prop := a.length = b.length ∧ ∀ j (h : j < a.length) (h' : j < b.length), a[j].ops.map bareOp = b[j].ops.map bareOp
theorem Sk.ref {a b : List ModT} (h : Sk a b) (r : Int) : (refOps a r).map bareOp = (refOps b r).map bareOp := by
  unfold refOps
  by_cases hr : r.toNat < a.length
  · rw [List.getElem?_eq_getElem hr, List.getElem?_eq_getElem (by rw [← h.1]; exact hr)]
    exact h.2 _ hr _
  · rw [List.getElem?_eq_none (by omega), List.getElem?_eq_none (by rw [← h.1]; omega)]
theorem Sk.empty {a b : List ModT} (h : Sk a b) (r : Int) : (refOps a r = []) = (refOps b r = []) := by
  have := congrArg List.length (h.ref r)
  simp only [List.length_map] at this
  rw [← List.length_eq_zero_iff, ← List.length_eq_zero_iff, this]
theorem bare_opL (ms : List ModT) (x : OpT) (f : Int) : bareOp (opL ms x f) = bareOp x := rfl
theorem tagT_of {x y : OpT} (h : bareOp x = bareOp y) : tagT x = tagT y := by
  simp only [bareOp, OpT.mk.injEq] at h
  unfold tagT owire
  rw [h.1, h.2.1, h.2.2.2.1]
def LQ (st : Bool) (ms : List ModT) (fl : List Int) (fo : List (List Int)) (v : V) (os : List (Option O)) : Prop :=
  (okAll st ms fl fo ∧ v = .lit (.bool (if st then specB (layL st ms fl fo) else true)) ∧ os = [some { cells := [.ow (.sl 3 ((layL st ms fl fo).map ModT.enc))] }]) ∨ (¬ okAll st ms fl fo ∧ v = .lit (.bool false) ∧ ∃ c, C.lent c = false ∧ os = [some { cells := [c] }])
structure OpsAt (st : Bool) (ms : List ModT) (ops : List OpT) (fs : List Int) (i : Nat) (Os : List OpT) : Prop where
  len : Os.length = ops.length
  done : ∀ j (h : j < i) (h1 : j < ops.length) (h2 : j < fs.length) (h3 : j < Os.length), okOp st ms ops[j] fs[j] = true ∧ Os[j] = opL ms ops[j] fs[j]
  rest : ∀ j (h : i ≤ j) (h1 : j < ops.length) (h3 : j < Os.length), Os[j] = ops[j]
theorem OpsAt.bare {st : Bool} {ms : List ModT} {ops : List OpT} {fs : List Int} {i : Nat} {Os : List OpT} (h : OpsAt st ms ops fs i Os) (hf : fs.length = ops.length) : Os.map bareOp = ops.map bareOp := by
  apply List.ext_getElem
  · simp [h.len]
  · intro j h1 h2
    simp only [List.length_map] at h1 h2
    simp only [List.getElem_map]
    by_cases hj : j < i
    · rw [(h.done j hj h2 (by omega) h1).2, bare_opL]
    · rw [h.rest j (by omega) h2 h1]
theorem OpsAt.next {st : Bool} {ms : List ModT} {ops : List OpT} {fs : List Int} {i : Nat} {Os : List OpT} (h : OpsAt st ms ops fs i Os) (hf : fs.length = ops.length) (hi : i < ops.length) (hok : okOp st ms ops[i] (fs[i]'(by omega)) = true) : OpsAt st ms ops fs (i + 1) (Os.set i (opL ms ops[i] (fs[i]'(by omega)))) where
  len := by simp [h.len]
  done j hj h1 h2 h3 := by
    by_cases hji : j = i
    · subst hji
      exact ⟨hok, by simp⟩
    · rw [List.getElem_set_ne (Ne.symm hji)]
      exact h.done j (by omega) h1 h2 (by simpa using h3)
  rest j hj h1 h3 := by
    rw [List.getElem_set_ne (by omega)]
    exact h.rest j (by omega) h1 (by simpa using h3)
theorem OpsAt.full {st : Bool} {ms : List ModT} {ops : List OpT} {fs : List Int} {Os : List OpT} (h : OpsAt st ms ops fs ops.length Os) (hf : fs.length = ops.length) : Os = opsL ms ops fs ∧ ∀ i (h : i < ops.length) (h' : i < fs.length), okOp st ms ops[i] fs[i] = true := by
  refine ⟨?_, fun i hi hi' => (h.done i hi hi hi' (by rw [h.len]; exact hi)).1⟩
  apply List.ext_getElem
  · simp [opsL, h.len, hf]
  · intro j h1 h2
    have hj : j < ops.length := by rw [← h.len]; exact h1
    rw [(h.done j hj hj (by omega) h1).2]
    simp [opsL]
structure ModsAt (st : Bool) (ms : List ModT) (fl : List Int) (fo : List (List Int)) (k : Nat) (L : List ModT) : Prop where
  len : L.length = ms.length
  done : ∀ j (h : j < k) (h1 : j < ms.length) (h2 : j < fl.length) (h3 : j < fo.length) (h4 : j < L.length), okMod st ms ms[j] fl[j] fo[j] ∧ L[j] = modL st ms ms[j] fl[j] fo[j]
  rest : ∀ j (h : k ≤ j) (h1 : j < ms.length) (h4 : j < L.length), L[j] = ms[j]
theorem bare_opsL (ms : List ModT) (ops : List OpT) (fs : List Int) (h : fs.length = ops.length) : (opsL ms ops fs).map bareOp = ops.map bareOp := by
  apply List.ext_getElem
  · simp [opsL, h]
  · intro j h1 h2
    simp [opsL, bare_opL]
theorem ModsAt.sk {st : Bool} {ms : List ModT} {fl : List Int} {fo : List (List Int)} {k : Nat} {L : List ModT} (h : ModsAt st ms fl fo k L) (hr : Raw ms fl fo) (Os : List OpT) (J : List Int) (c : Bool) (hk : k < ms.length) (hO : Os.map bareOp = ms[k].ops.map bareOp) : Sk (L.set k ⟨Os, J, c⟩) ms := by
  refine ⟨by simp [h.len], fun j h1 h2 => ?_⟩
  have hl : j < L.length := by simpa using h1
  by_cases hj : k = j
  · subst hj
    rw [List.getElem_set_self]
    exact hO
  · rw [List.getElem_set_ne hj]
    by_cases hlt : j < k
    · rw [(h.done j hlt h2 (by rw [hr.hfl]; exact h2) (by rw [hr.hfo]; exact h2) hl).2]
      exact bare_opsL _ _ _ (hr.ops j h2 (by rw [hr.hfo]; exact h2))
    · rw [h.rest j (by omega) h2 hl]
theorem ModsAt.next {st : Bool} {ms : List ModT} {fl : List Int} {fo : List (List Int)} {k : Nat} {L : List ModT} (h : ModsAt st ms fl fo k L) (hr : Raw ms fl fo) (hk : k < ms.length) (hok : okMod st ms ms[k] (fl[k]'(by rw [hr.hfl]; exact hk)) (fo[k]'(by rw [hr.hfo]; exact hk))) : ModsAt st ms fl fo (k + 1) (L.set k (modL st ms ms[k] (fl[k]'(by rw [hr.hfl]; exact hk)) (fo[k]'(by rw [hr.hfo]; exact hk)))) where
  len := by simp [h.len]
  done j hj h1 h2 h3 h4 := by
    by_cases hjk : j = k
    · subst hjk
      exact ⟨hok, by simp⟩
    · rw [List.getElem_set_ne (Ne.symm hjk)]
      exact h.done j (by omega) h1 h2 h3 (by simpa using h4)
  rest j hj h1 h4 := by
    rw [List.getElem_set_ne (by omega)]
    exact h.rest j (by omega) h1 (by simpa using h4)
theorem ModsAt.full {st : Bool} {ms : List ModT} {fl : List Int} {fo : List (List Int)} {L : List ModT} (h : ModsAt st ms fl fo ms.length L) (hr : Raw ms fl fo) : L = layL st ms fl fo ∧ okAll st ms fl fo := by
  constructor
  · apply List.ext_getElem
    · simp [layL, h.len, hr.hfl, hr.hfo]
    · intro j h1 h2
      have hj : j < ms.length := by rw [← h.len]; exact h1
      rw [(h.done j hj hj (by rw [hr.hfl]; exact hj) (by rw [hr.hfo]; exact hj) h1).2]
      simp [layL]
  · intro k hk h1 h2
    exact (h.done k hk hk h1 h2 (by rw [h.len]; exact hk)).1
theorem small_layL {st : Bool} {ms : List ModT} {fl : List Int} {fo : List (List Int)} (hr : Raw ms fl fo) : (layL st ms fl fo).length ≤ 2 ^ 40 ∧ ∀ m ∈ layL st ms fl fo, m.Small := by
  constructor
  · have := hr.len
    simp [layL]
    omega
  · intro m hm
    obtain ⟨j, hj, rfl⟩ := List.getElem_of_mem hm
    simp only [layL, List.length_zipWith, List.length_zip] at hj
    have e : (layL st ms fl fo)[j]'(by simp [layL]; omega) = modL st ms (ms[j]'(by omega)) (fl[j]'(by omega)) (fo[j]'(by omega)) := by simp [layL]
    rw [e]
    have hj1 : j < ms.length := by omega
    have hsm := hr.small ms[j] (List.getElem_mem hj1)
    have hof := hr.ops j hj1 (by omega)
    refine ⟨by simp [modL, opsL]; omega, fun y hy => ?_, ?_⟩
    · obtain ⟨i, hi, rfl⟩ := List.getElem_of_mem hy
      simp only [modL, opsL, List.getElem_zipWith]
      simp only [modL, opsL, List.length_zipWith] at hi
      have hin : ∀ f, (inlL ms (ms[j].ops[i]'(by omega)) f).length ≤ 2 ^ 40 := by
        intro f
        unfold inlL
        split
        · simp only [List.length_map]
          unfold refOps
          split
          · rename_i m0 hm0
            exact hr.small _ (List.mem_of_getElem? hm0)
          · simp
        · simp
      refine OpT.Small.mk _ ?_ (hin _) ?_
      · show (tagL _ _).length ≤ _
        unfold tagL
        split
        · exact putTag_len _ _
        · simp
      · intro z hz
        have hz' : z ∈ inlL ms (ms[j].ops[i]'(by omega)) (fo[j][i]'(by omega)) := hz
        unfold inlL at hz'
        split at hz'
        · obtain ⟨u, _, rfl⟩ := List.mem_map.mp hz'
          exact OpT.Small.mk _ (by simp [bareOp, OpT.tag]) (by simp [bareOp, OpT.inl]) (fun w hw => by simp [bareOp, OpT.inl] at hw)
        · cases hz'
    · simp only [modL]
      split
      · unfold jmpF
        split
        · unfold jumpsT
          split
          · simp
          · split
            · simp
            · rw [jl_len]; omega
        · unfold jumpsL
          split
          · simp
          · split
            · simp
            · rw [jlL_len]; omega
      · simp
end Go.Proofs.YtckojpaklblnpaaGreatDoor.Th
set_option linter.unusedVariables false
set_option linter.unusedSimpArgs false
set_option maxRecDepth 10000
set_option maxHeartbeats 2000000
namespace Go.Proofs.YtckojpaklblnpaaGreatDoor.Th
open Go Go.RowKit Go.Proofs.YtckojpaklblnpaaGreatDoor.Ev
theorem c_impl_IrOkS1 (b b' : Bool) (ms : List ModT) (m : ModT) (h : m.ops.length ≤ 2 ^ 40) (hms : ms.length ≤ 2 ^ 40) : cw f_impl_IrOkS1 [.agg b' m.enc, .ptr 0 [(0, 0)] 0] [boxI b ms] = some (.lit (.bool (!opsOkB ms m.ops)), [some (boxI b ms)]) := by
  refine callW_run (by simp) fs_impl_IrOkS1 rfl rfl rfl ?_
  have hc := c_impl_opsOk b b' ms m.ops h hms
  simp only [cw, encM] at hc
  simp [ModT.enc, hc]
theorem c_slices_Equal_Lint_nil (b : Bool) (l : List Int) (h : l.length ≤ 2 ^ 50) : cw f_slices_Equal_Lint_int [.val b (.sl 1 (l.map encI)), .nils] [] = some (.lit (.bool (decide (l = []))), []) := by
  refine callW_run (by simp) fs_slices_Equal_Lint_int rfl rfl rfl ?_
  cases l with
  | nil =>
    simp
    refine Mc.loop_ind (α := Nat) _ _ _ _ (fun i => I_slices_Equal_Lint_int_0 (.val b (.sl 1 [])) .nils (.lit (.int .i64 0)) (.lit (.int .i64 0)) []) (fun i => 0) (fun i => True) 0 _ (by simp) (by simp) ?_
    intro i _ ih
    simp
  | cons x r =>
    have hn : ¬ ((r.length : Int) + 1 = 0) := by omega
    simp [hn]
def mimP (ms : List ModT) (m : ModT) : Prop := (m.jumps = [] ∨ m.jumps = jumpsT m.ops) ∧ ∀ j (h : j < m.ops.length), marksB ms m.ops j m.ops[j] = true
def implP (ms : List ModT) : Prop := (1 ≤ (ms.length : Int) ∧ (ms.length : Int) ≤ 30) ∧ (∀ m ∈ ms, opsOkB ms m.ops = true) ∧ ∀ j (h : j < ms.length), mimP ms ms[j]
theorem fineB_parts {ms : List ModT} {ops : List OpT} {i : Nat} {x : OpT} (h : fineB ms ops i x = true) : numOkB x.num = true ∧ prevB ops x i = true ∧ (1 ≤ x.kind ∧ x.kind ≤ 17) ∧ 0 ≤ x.oneof ∧ (!x.rep || decide (x.oneof = 0)) = true ∧ (0 ≤ x.ref ∧ x.ref ≤ refsT ms x - 1) := by
  unfold fineB at h
  simp only [Bool.and_eq_true, decide_eq_true_eq] at h
  exact ⟨h.2.1, h.1, h.2.2.1, h.2.2.2.1, h.2.2.2.2.1, h.2.2.2.2.2⟩
open Classical in
theorem opsOkB_parts {ms : List ModT} {ops : List OpT} (h : opsOkB ms ops = true) : allFine ms ops ∧ ops.length ≤ 40 ∧ most ops ≤ ops.length ∧ oneofsB ops = true := by
  unfold opsOkB endB at h
  simp only [Bool.and_eq_true, decide_eq_true_eq] at h
  exact ⟨h.1, h.2.1, h.2.2.1, h.2.2.2⟩
theorem fine_asc {ms : List ModT} {ops : List OpT} (h : allFine ms ops) : Asc ops :=
  asc_of (fun j hj => (fineB_parts (h j hj)).2.1) (fun j hj => (fineB_parts (h j hj)).1)
theorem fine_ref {ms : List ModT} {ops : List OpT} (h : allFine ms ops) {j : Nat} (hj : j < ops.length) : ops[j].kind = 16 → 0 ≤ ops[j].ref ∧ ops[j].ref < ms.length := by
  intro hk
  have := (fineB_parts (h j hj)).2.2.2.2.2
  unfold refsT at this
  rw [if_pos hk] at this
  omega
open Classical in
noncomputable def implB (ms : List ModT) : Bool := decide (implP ms)
open Classical in
theorem c_impl_IrOk (b : Bool) (ms : List ModT) (hms : ms.length ≤ 2 ^ 40) (hs : ∀ m ∈ ms, m.Small) : cw f_impl_IrOk [.agg b (encM ms)] [] = some (.lit (.bool (implB ms)), []) := by
  refine callW_run (by simp) fs_impl_IrOk rfl rfl rfl ?_
  have f1 := c_impl_within (ms.length : Int) 1 30
  have f2 := c_slices_ContainsFunc_Limpl_Mod_impl_Mod b ms f_impl_IrOkS1 1 [.im b (.sl 3 (ms.map ModT.enc))] (fun m => !opsOkB ms m.ops) (fun b' m hm => c_impl_IrOkS1 b b' ms m (hs m hm).1 hms) (by omega)
  simp only [cw] at f1 f2
  unfold implB
  by_cases h0 : 1 ≤ (ms.length : Int) ∧ (ms.length : Int) ≤ 30
  rotate_left
  · have hn : ¬ implP ms := fun hh => h0 hh.1
    rw [decide_eq_false h0] at f1
    simp [encM, f1, hn]
  rw [decide_eq_true h0] at f1
  cases q1 : ms.any fun m => !opsOkB ms m.ops with
  | true =>
    have hn : ¬ implP ms := fun hh => by
      obtain ⟨m, hm, he⟩ := List.any_eq_true.mp q1
      rw [hh.2.1 m hm] at he
      exact absurd he (by decide)
    rw [q1] at f2
    simp [encM, f1, f2, hn]
  | false =>
  have hfine : ∀ m ∈ ms, opsOkB ms m.ops = true := fun m hm => by
    have := List.any_eq_false.mp q1 m hm
    simpa using this
  rw [q1] at f2
  simp [encM, f1, f2]
  clear f1 f2 q1
  refine Mc.loop_ind (α := Nat) _ _ _ _ (fun j => I_impl_IrOk_0 (.ptr 72 [(0, 0)] 0) (.val b (.sl 3 (ms.map ModT.enc))) (.lit (.int .i64 ms.length)) (.lit (.int .i64 j)) [(72, boxI b ms)]) (fun j => ms.length - j) (fun j => j ≤ ms.length ∧ ∀ k (_ : k < j) (h : k < ms.length), mimP ms ms[k]) 0 _ (by simp) (by simp) ?_
  intro i ⟨hi, ha⟩ ih
  by_cases hl : i < ms.length
  rotate_left
  · have hy : implP ms := ⟨h0, hfine, fun k h => ha k (by omega) h⟩
    simp [hl, hy]
  have no : ¬ mimP ms ms[i] → decide (implP ms) = false := fun hn => decide_eq_false fun hh => hn (hh.2.2 i hl)
  have ih' := fun hm : mimP ms ms[i] => fun σ' hσ' => ih (i + 1) σ' hσ' ⟨by omega, fun k h1 h2 => by
    by_cases hki : k = i
    · subst hki; exact hm
    · exact ha k (by omega) h2⟩ (by omega)
  clear ih
  have hsm := hs ms[i] (List.getElem_mem hl)
  obtain ⟨hF, hm40, hmost, h1s⟩ := opsOkB_parts (hfine ms[i] (List.getElem_mem hl))
  have hwi := wrap_add i (by omega)
  refine cut2 _ fun c hc => ?_
  generalize hm : ms[i] = m at no ih' hm40 hsm hF
  generalize decide (implP ms) = res at no ih' ⊢
  simp [hl]
  subst hc
  have hasc := fine_asc hF
  have f4 := c_impl_jumpsOf b m (by omega) hasc
  have f5 := c_slices_Equal_Lint_int b true m.jumps (jumpsT m.ops) (by have := hsm.2.2; omega)
  have f5' := c_slices_Equal_Lint_nil b m.jumps (by have := hsm.2.2; omega)
  simp only [cw, ModT.enc] at f4 f5 f5'
  rw [Mc.at_seq, Mc.at_block]
  refine cut2 _ fun c hc => ?_
  by_cases hJ : ¬ (m.jumps = [] ∨ m.jumps = jumpsT m.ops)
  · have no := no fun hp => hJ hp.1
    have hz : ¬ m.jumps = [] := fun h => hJ (Or.inl h)
    have hz' : (0 < m.jumps.length) = True := eq_true (List.length_pos_iff.mpr hz)
    have hJ' : ¬ m.jumps = jumpsT m.ops := fun h => hJ (Or.inr h)
    rw [decide_eq_false hJ'] at f5
    rw [decide_eq_false hz] at f5'
    by_cases q : jumpsT m.ops = []
    · rw [if_pos q] at f4
      simp [hl, hm, ModT.enc, hz', f4, f5', no]
      exact .b (by kernel_rfl)
    · rw [if_neg q] at f4
      simp [hl, hm, ModT.enc, hz', f4, f5, no]
      exact .b (by kernel_rfl)
  have hJ : m.jumps = [] ∨ m.jumps = jumpsT m.ops := Classical.not_not.mp hJ
  refine cutK _ fun K hK => ?_
  have T8 : ∀ σ, σ.keep (E.trim f_impl_IrOk 8) = J_impl_IrOk_8 (.ptr 72 [(0, 0)] 0) (.ptr 96 [(0, 0)] 0) (.val b (.sl 3 (ms.map ModT.enc))) (.lit (.int .i64 ms.length)) (.lit (.int .i64 i)) [(72, boxI b ms), (96, boxM b m)] → Mc.at ⟨E, callW E fs, f_impl_IrOk, [ResultVar.tmp 2], 0⟩ c K σ = some (.lit (.bool res), []) := by
    intro σ hσ
    subst hc
    subst hK
    rw [Mc.at_seq]
    refine (at_region_of _ _ _ _ _ _ hσ).trans ?_
    clear hσ f4 f5 f5'
    simp [hl]
    refine Mc.loop_ind (α := Nat) _ _ _ _ (fun j => I_impl_IrOk_1 (.ptr 72 [(0, 0)] 0) (.ptr 96 [(0, 0)] 0) (.val b (.sl 3 (ms.map ModT.enc))) (.lit (.int .i64 ms.length)) (.lit (.int .i64 i)) (.lit (.int .i64 m.ops.length)) (.lit (.int .i64 j)) [(72, boxI b ms), (96, boxM b m)]) (fun j => m.ops.length - j) (fun j => j ≤ m.ops.length ∧ ∀ k (_ : k < j) (h : k < m.ops.length), marksB ms m.ops k m.ops[k] = true) 0 _ (by simp) (by simp) ?_
    intro j ⟨hj, hb⟩ ih
    by_cases hjl : j < m.ops.length
    · have f2 := marksOk_head b b ms m.ops j hjl (by omega) m.ops[j] rfl (hsm.2.1 _ (List.getElem_mem hjl)) (fine_ref hF hjl)
      have no : marksB ms m.ops j m.ops[j] = false → res = false := fun hh => no fun hp => by rw [hp.2 j hjl] at hh; exact absurd hh (by decide)
      simp only [cw, encM] at f2
      clear ih'
      cases hq : marksB ms m.ops j m.ops[j] with
      | false =>
        rw [hq] at f2
        simp [hjl, f2, no hq]
      | true =>
        rw [hq] at f2
        simp [hjl, f2, wrap_add j (by omega)]
        refine ih (j + 1) _ (by simp) ⟨by omega, fun k h1 h2 => ?_⟩ (by omega)
        by_cases hkj : k = j
        · subst hkj; exact hq
        · exact hb k (by omega) h2
    clear ih
    have hall : ∀ k (h : k < m.ops.length), marksB ms m.ops k m.ops[k] = true := fun k h => hb k (by omega) h
    clear hb
    have ih' := ih' ⟨hJ, hall⟩
    simp [hjl, hwi]
    exact ih' _ (by simp)
  clear hc hK ih' no
  by_cases hz : m.jumps = []
  · have hz' : (0 < m.jumps.length) = False := by rw [hz]; simp
    simp [hl, hm, ModT.enc, hz']
    exact ⟨.b (by kernel_rfl), T8 _ (by simp)⟩
  · have hz' : (0 < m.jumps.length) = True := eq_true (List.length_pos_iff.mpr hz)
    have hJ : m.jumps = jumpsT m.ops := hJ.resolve_left hz
    have q : ¬ jumpsT m.ops = [] := fun h => hz (hJ.trans h)
    rw [decide_eq_true hJ] at f5
    rw [if_neg q] at f4
    simp [hl, hm, ModT.enc, hz', f4, f5]
    exact ⟨.b (by kernel_rfl), T8 _ (by simp)⟩
end Go.Proofs.YtckojpaklblnpaaGreatDoor.Th
set_option linter.unusedVariables false
set_option linter.unusedSimpArgs false
set_option maxRecDepth 10000
set_option maxHeartbeats 2000000
namespace Go.Proofs.YtckojpaklblnpaaGreatDoor.Th
open Go Go.RowKit Go.Proofs.YtckojpaklblnpaaGreatDoor.Ev
theorem pigeon : ∀ (N : Nat) (l : List Int), (∀ j : Nat, j < N → ((j : Int) + 1) ∈ l) → N ≤ l.length := by
  intro N
  induction N with
  | zero => intro l _; omega
  | succ n ih =>
    intro l h
    have hm : ((n : Int) + 1) ∈ l := h n (by omega)
    have h2 := ih (l.erase ((n : Int) + 1)) fun j hj => (List.mem_erase_of_ne (by omega)).mpr (h j (by omega))
    rw [List.length_erase_of_mem hm] at h2
    have := List.length_pos_of_mem hm
    omega
theorem most_len {l : List OpT} (h : oneofsB l = true) : most l ≤ l.length := by
  have h0 := most_nonneg l
  have := pigeon (most l).toNat (l.map OpT.oneof) fun j hj => by
    unfold oneofsB at h
    have h1 := List.all_eq_true.mp h j (List.mem_range.mpr hj)
    obtain ⟨x, hx, he⟩ := List.any_eq_true.mp h1
    exact List.mem_map.mpr ⟨x, hx, by simpa using he⟩
  rw [List.length_map] at this
  omega
theorem le_most (l : List OpT) : ∀ x ∈ l, x.oneof ≤ most l := by
  have key : ∀ (l : List OpT) (m : Int), m ≤ l.foldl mostF m ∧ ∀ x ∈ l, x.oneof ≤ l.foldl mostF m := by
    intro l
    induction l with
    | nil => intro m; exact ⟨Int.le_refl _, fun x hx => by cases hx⟩
    | cons y r ih =>
      intro m
      have h1 := ih (mostF m y)
      have h2 : m ≤ mostF m y := by unfold mostF; split <;> omega
      have h3 : y.oneof ≤ mostF m y := by unfold mostF; split <;> omega
      refine ⟨Int.le_trans h2 h1.1, fun x hx => ?_⟩
      cases hx with
      | head => exact Int.le_trans h3 h1.1
      | tail _ hx => exact h1.2 x hx
  exact (key l 0).2
theorem opOkB_iff (ms : List ModT) (ops : List OpT) (i : Nat) (x : OpT) : opOkB ms ops i x = true ↔ fineB ms ops i x = true ∧ x.oneof ≤ 40 ∧ marksB ms ops i x = true := by
  unfold opOkB fineB marksB
  simp only [Bool.and_eq_true, decide_eq_true_eq]
  constructor
  · intro ⟨h1, h2, h3, h4, h5, h6, h7, h8, h9, h10⟩
    exact ⟨⟨h2, h1, h3, h5.1, h6, h4⟩, h5.2, h7, h8, h10, h9⟩
  · intro ⟨⟨h2, h1, h3, h5, h6, h4⟩, h5', h7, h8, h10, h9⟩
    exact ⟨h1, h2, h3, h4, ⟨h5, h5'⟩, h6, h7, h8, h9, h10⟩
open Classical in
theorem opsOkB_of {ms : List ModT} {ops : List OpT} (h : allFine ms ops) (h1 : ops.length ≤ 40) (h2 : oneofsB ops = true) : opsOkB ms ops = true := by
  unfold opsOkB endB
  simp only [Bool.and_eq_true, decide_eq_true_eq]
  exact ⟨h, h1, most_len h2, h2⟩
theorem spec_iff_impl (ms : List ModT) : specP ms ↔ implP ms := by
  constructor
  · intro ⟨h1, h2, h3⟩
    refine ⟨h1, fun m hm => ?_, fun j hj => ⟨(h3 j hj).2.2, fun k hk => ((opOkB_iff ..).mp ((h3 j hj).1 k hk)).2.2⟩⟩
    obtain ⟨j, hj, rfl⟩ := List.getElem_of_mem hm
    exact opsOkB_of (fun k hk => ((opOkB_iff ..).mp ((h3 j hj).1 k hk)).1) (h2 j hj) (h3 j hj).2.1
  · intro ⟨h1, h2, h3⟩
    refine ⟨h1, fun j hj => (opsOkB_parts (h2 _ (List.getElem_mem hj))).2.1, fun j hj => ⟨fun k hk => ?_, (opsOkB_parts (h2 _ (List.getElem_mem hj))).2.2.2, (h3 j hj).1⟩⟩
    obtain ⟨q1, q2, q3, q4⟩ := opsOkB_parts (h2 _ (List.getElem_mem hj))
    have := le_most _ _ (List.getElem_mem hk)
    exact (opOkB_iff ..).mpr ⟨q1 k hk, by omega, (h3 j hj).2 k hk⟩
theorem specB_eq (ms : List ModT) : implB ms = specB ms := by
  unfold implB specB
  exact decide_eq_decide.mpr (spec_iff_impl ms).symm
open Classical in
theorem specB_len {ms : List ModT} (h : specB ms = true) : ms.length ≤ 30 := by
  unfold specB at h
  have := (of_decide_eq_true h).1
  omega
end Go.Proofs.YtckojpaklblnpaaGreatDoor.Th
