/- The evaluator as a machine: a code, what is to be done behind it, a state. Each step is an equation; a loop is done by induction. -/
import Derived.Test.YtckojpaklblnpaaDoorLim
set_option linter.unusedVariables false
set_option linter.unusedSimpArgs false
namespace Go.Proofs.YtckojpaklblnpaaDoor.Ev
open Go

/-- What is left to do behind a code. -/
inductive Fr where
  | seq (c : Code)
  | blk (id : Nat)
  | lp (c : Code)

/-- What a call stands in. -/
structure Mc where
  e : Env
  run : Rn
  f : FuncId
  res : List ResultVar
  nobs : Nat

noncomputable def Mc.go (m : Mc) : List Fr → Option (Ex × F) → Option (V × List (Option O))
  | [], o => outF m.e m.res m.nobs o
  | .seq b :: K, o => m.go K (match o with | some (.normal, σ) => codeW m.e m.run m.f b σ | r => r)
  | .blk id :: K, o => m.go K (match o with | some (.exit j, σ') => if j = id then some (.normal, σ') else some (.exit j, σ') | r => r)
  | .lp c :: K, o => m.go K (match o with | some (.normal, σ) => iterW (round m.e m.f c (codeW m.e m.run m.f c)) σ | r => r)

theorem Mc.go_none (m : Mc) : ∀ K, m.go K none = none
  | [] => rfl
  | .seq _ :: K => m.go_none K
  | .blk _ :: K => m.go_none K
  | .lp _ :: K => m.go_none K

/-- A code. -/
noncomputable def Mc.at (m : Mc) (c : Code) (K : List Fr) (σ : F) : Option (V × List (Option O)) := m.go K (codeW m.e m.run m.f c σ)
/-- A code's end. -/
noncomputable def Mc.ret (m : Mc) (ex : Ex) (K : List Fr) (σ : F) : Option (V × List (Option O)) := m.go K (some (ex, σ))
/-- Operations. -/
noncomputable def Mc.ops (m : Mc) (ops : Array Oper) (l : List Oper) (K : List Fr) (σ : F) : Option (V × List (Option O)) := m.go K ((opsOf m.e m.run ops σ l).map (Ex.normal, ·))
open Classical in
/-- What is drawn. -/
noncomputable def Mc.drawn (m : Mc) (ops : Array Oper) (K : List Fr) : Option (List (Nat × Res) × F) → Option (V × List (Option O))
  | some (l, τ) => if DrawOk ops l then m.ret .normal K τ else none
  | none => none
noncomputable def Mc.cond (m : Mc) (x y : Code) (K : List Fr) (σ : F) : Option Bool → Option (V × List (Option O))
  | some b => if b then m.at x K σ else m.at y K σ
  | none => none

theorem callW_run {e : Env} {fs : FuncId → Option Func} {f : FuncId} {fn : Func} {args : List S} {obs : List O} {c : Code} {n : Nat} {rs : List ResultVar} {x} (hx : e.ext f = none) (hf : fs f = some fn) (hb : fn.body = some c) (hn : fn.ntmps = n) (hr : fn.results.toList = rs)
    (h : Mc.at ⟨e, callW e fs, f, rs, obs.length⟩ c [] { sl := args ++ List.replicate (n - args.length) .undef, ob := enterObs obs 0 } = some x) : callW e fs f args obs = some x := by
  refine callW_of hx hf ?_
  unfold runW
  rw [hb]
  subst hn hr
  exact h

theorem Mc.at_seq (m : Mc) (a b : Code) (K : List Fr) (σ : F) : m.at (.seq a b) K σ = m.at a (.seq b :: K) σ := by
  unfold Mc.at
  simp only [codeW, Mc.go]
  rfl
theorem Mc.at_block (m : Mc) (id : Nat) (c : Code) (K : List Fr) (σ : F) : m.at (.block id c) K σ = m.at c (.blk id :: K) σ := by
  unfold Mc.at
  simp only [codeW, Mc.go]
  rfl
theorem Mc.at_scope (m : Mc) (c : Code) (K : List Fr) (σ : F) : m.at (.scope c) K σ = m.at c K σ := rfl
theorem Mc.at_skip (m : Mc) (K : List Fr) (σ : F) : m.at .skip K σ = m.ret .normal K σ := rfl
theorem Mc.at_exit (m : Mc) (id : Nat) (K : List Fr) (σ : F) : m.at (.exit id) K σ = m.ret (.exit id) K σ := rfl
theorem Mc.at_ret (m : Mc) (K : List Fr) (σ : F) : m.at .ret K σ = m.ret .ret K σ := rfl
theorem Mc.at_region (m : Mc) (id : Nat) (ops : Array Oper) (K : List Fr) (σ : F) : m.at (.region id ops false) K σ = m.ops ops ops.toList K (σ.keep (m.e.trim m.f id)) := rfl
theorem Mc.at_drawn (m : Mc) (id : Nat) (ops : Array Oper) (K : List Fr) (σ : F) : m.at (.region id ops true) K σ = m.drawn ops K (drawRun m.e m.run ops 0 ops.toList (σ.keep (m.e.trim m.f id))) := by
  unfold Mc.at Mc.drawn
  simp only [codeW, if_true]
  cases drawRun m.e m.run ops 0 ops.toList (σ.keep (m.e.trim m.f id)) with
  | none => exact m.go_none K
  | some x =>
    obtain ⟨l, τ⟩ := x
    dsimp only
    unfold drawnF
    split
    · rfl
    · exact m.go_none K
theorem Mc.at_cond (m : Mc) (c : Operand) (x y : Code) (K : List Fr) (σ : F) : m.at (.cond c x y) K σ = m.cond x y K σ (boolOf? (σ.rd c)) := by
  unfold Mc.at Mc.cond
  simp only [codeW]
  cases boolOf? (σ.rd c) with
  | none => exact m.go_none K
  | some b => cases b <;> rfl

theorem Mc.ops_nil (m : Mc) (ops : Array Oper) (K : List Fr) (σ : F) : m.ops ops [] K σ = m.ret .normal K σ := rfl
/-- One operation that is to be done for sure. -/
theorem Mc.ops_cons (m : Mc) (ops : Array Oper) (d : Option Nat) (op : Op) (ty : TypeId) (pos : String) (af : Array Edge) (r : List Oper) (K : List Fr) (σ : F) :
    m.ops ops (⟨d, op, ty, pos, af, none⟩ :: r) K σ = match opOf m.e m.run σ ⟨d, op, 0, "", #[], none⟩ with | some σ' => m.ops ops r K σ' | none => none := by
  unfold Mc.ops
  simp only [opsOf, guardOf, if_true]
  have e1 : opOf m.e m.run σ ⟨d, op, ty, pos, af, none⟩ = opOf m.e m.run σ ⟨d, op, 0, "", #[], none⟩ := by
    cases op with
    | call c => obtain ⟨callee, args, at_⟩ := c; cases callee with
      | builtin b => cases b <;> rfl
      | _ => rfl
    | makeFunc fn _ _ => cases fn <;> rfl
    | slice _ _ _ _ m => cases m <;> rfl
    | _ => rfl
  rw [e1]
  cases opOf m.e m.run σ ⟨d, op, 0, "", #[], none⟩ with
  | none => exact m.go_none K
  | some σ' => rfl
/-- One operation that hangs on a test. -/
theorem Mc.ops_guard (m : Mc) (ops : Array Oper) (d : Option Nat) (op : Op) (ty : TypeId) (pos : String) (af : Array Edge) (g : Nat) (b : Bool) (r : List Oper) (K : List Fr) (σ : F) :
    m.ops ops (⟨d, op, ty, pos, af, some (g, b)⟩ :: r) K σ = match guardOf ops σ ⟨d, .move (.tmp 0), 0, "", #[], some (g, b)⟩ with
      | some b => if b then (match opOf m.e m.run σ ⟨d, op, 0, "", #[], none⟩ with | some σ' => m.ops ops r K σ' | none => none) else m.ops ops r K (σ.put d .undef)
      | none => none := by
  unfold Mc.ops
  have e0 : guardOf ops σ ⟨d, op, ty, pos, af, some (g, b)⟩ = guardOf ops σ ⟨d, .move (.tmp 0), 0, "", #[], some (g, b)⟩ := rfl
  simp only [opsOf]
  rw [e0]
  cases guardOf ops σ ⟨d, .move (.tmp 0), 0, "", #[], some (g, b)⟩ with
  | none => exact m.go_none K
  | some x =>
    cases x with
    | false => rfl
    | true =>
      simp only [if_true]
      have e1 : opOf m.e m.run σ ⟨d, op, ty, pos, af, some (g, b)⟩ = opOf m.e m.run σ ⟨d, op, 0, "", #[], none⟩ := by
        cases op with
        | call c => obtain ⟨callee, args, at_⟩ := c; cases callee with
          | builtin b => cases b <;> rfl
          | _ => rfl
        | makeFunc fn _ _ => cases fn <;> rfl
        | slice _ _ _ _ m => cases m <;> rfl
        | _ => rfl
      rw [e1]
      cases opOf m.e m.run σ ⟨d, op, 0, "", #[], none⟩ with
      | none => exact m.go_none K
      | some σ' => rfl

theorem Mc.ret_nil (m : Mc) (ex : Ex) (σ : F) : m.ret ex [] σ = outF m.e m.res m.nobs (some (ex, σ)) := rfl
theorem Mc.normal_seq (m : Mc) (b : Code) (K : List Fr) (σ : F) : m.ret .normal (.seq b :: K) σ = m.at b K σ := rfl
theorem Mc.exit_seq (m : Mc) (j : Nat) (b : Code) (K : List Fr) (σ : F) : m.ret (.exit j) (.seq b :: K) σ = m.ret (.exit j) K σ := rfl
theorem Mc.ret_seq (m : Mc) (b : Code) (K : List Fr) (σ : F) : m.ret .ret (.seq b :: K) σ = m.ret .ret K σ := rfl
theorem Mc.normal_blk (m : Mc) (id : Nat) (K : List Fr) (σ : F) : m.ret .normal (.blk id :: K) σ = m.ret .normal K σ := rfl
theorem Mc.exit_blk (m : Mc) (j id : Nat) (K : List Fr) (σ : F) : m.ret (.exit j) (.blk id :: K) σ = if j = id then m.ret .normal K σ else m.ret (.exit j) K σ := by
  unfold Mc.ret
  simp only [Mc.go]
  split <;> rfl
theorem Mc.ret_blk (m : Mc) (id : Nat) (K : List Fr) (σ : F) : m.ret .ret (.blk id :: K) σ = m.ret .ret K σ := rfl
theorem Mc.exit_lp (m : Mc) (j : Nat) (c : Code) (K : List Fr) (σ : F) : m.ret (.exit j) (.lp c :: K) σ = m.ret (.exit j) K σ := rfl
theorem Mc.ret_lp (m : Mc) (c : Code) (K : List Fr) (σ : F) : m.ret .ret (.lp c :: K) σ = m.ret .ret K σ := rfl
theorem Mc.normal_lp (m : Mc) (c : Code) (K : List Fr) (σ : F) : m.ret .normal (.lp c :: K) σ = m.at (.loop c) K σ := rfl

/-- A loop's round. -/
theorem Mc.at_loop (m : Mc) (c : Code) (K : List Fr) (σ : F) : m.at (.loop c) K σ = m.at c (.lp c :: K) (keepAt m.e m.f c σ) := by
  unfold Mc.at
  simp only [codeW, Mc.go]
  rw [iterW_eq]
  unfold round
  cases codeW m.e m.run m.f c (keepAt m.e m.f c σ) with
  | none => rfl
  | some x =>
    obtain ⟨ex, τ⟩ := x
    cases ex <;> rfl

/-- A loop, by induction over what its head is like. -/
theorem Mc.loop_ind {α : Type} (m : Mc) (c : Code) (K : List Fr) (R : Option (V × List (Option O))) (Inv : α → F) (μ : α → Nat) (P : α → Prop) (a : α) (σ : F) (h0 : keepAt m.e m.f c σ = Inv a) (hP : P a)
    (step : ∀ a, P a → (∀ a' σ', keepAt m.e m.f c σ' = Inv a' → P a' → μ a' < μ a → m.at (.loop c) K σ' = R) → m.at c (.lp c :: K) (Inv a) = R) : m.at (.loop c) K σ = R := by
  generalize hn : μ a = n
  induction n using Nat.strongRecOn generalizing a σ with
  | ind n ih =>
    rw [Mc.at_loop, h0]
    exact step a hP fun a' σ' h1 h2 h3 => ih (μ a') (by omega) a' σ' h1 h2 rfl

end Go.Proofs.YtckojpaklblnpaaDoor.Ev
