/- Parts of the proof, merged: Mach Simp Comm Law. -/
import Derived.Test.YtckojpaklblnpaaGreatDoorKLim
import Derived.Test.YtckojpaklblnpaaGreatDoorKTbl
import Derived.Test.YtckojpaklblnpaaGreatDoorKEd
import Derived.Test.YtckojpaklblnpaaGreatDoorRows
import Derived.WalkKit
import Derived.ProofKit
import Derived.OpenShut
import Derived.ShutString
import Derived.ChangeOld
import Derived.Below
import Derived.SizedLaws
set_option linter.unusedVariables false
set_option linter.unusedSimpArgs false
namespace Go.Proofs.YtckojpaklblnpaaGreatDoor.Ev
open Go
inductive Fr where
  | seq (c : Code)
  | blk (id : Nat)
  | lp (c : Code)
  | test (x : Code) (τ : F)
structure Mc where
  e : Env
  run : Rn
  f : FuncId
  res : List ResultVar
  nobs : Nat
open Classical in
noncomputable def Mc.go (m : Mc) : List Fr → Option (Ex × F) → Option (V × List (Option O))
  | [], o => outF m.e m.f m.res m.nobs o
  | .seq b :: K, o => m.go K (match o with | some (.normal, σ) => codeW m.e m.run m.f b σ | r => r)
  | .blk id :: K, o => m.go K (match o with | some (.exit j, σ') => if j = id then some (.normal, σ') else some (.exit j, σ') | r => r)
  | .lp c :: K, o => m.go K (match o with | some (.normal, σ) => iterW (round m.e m.f c (codeW m.e m.run m.f c)) σ | r => r)
  | .test x τ :: _, o => if ∃ a, o = some (.normal, a) ∧ joinAt m.e m.f x a = τ then some (.tup [], []) else none
open Classical in
theorem Mc.go_test (m : Mc) (x : Code) (τ : F) (K : List Fr) (o : Option (Ex × F)) : m.go (.test x τ :: K) o = if ∃ a, o = some (.normal, a) ∧ joinAt m.e m.f x a = τ then some (.tup [], []) else none := rfl
theorem Mc.go_none (m : Mc) : ∀ K, m.go K none = none
  | [] => rfl
  | .seq _ :: K => m.go_none K
  | .blk _ :: K => m.go_none K
  | .lp _ :: K => m.go_none K
  | .test _ _ :: _ => by rw [Mc.go_test]; simp
noncomputable def Mc.at (m : Mc) (c : Code) (K : List Fr) (σ : F) : Option (V × List (Option O)) := m.go K (codeW m.e m.run m.f c σ)
noncomputable def Mc.ret (m : Mc) (ex : Ex) (K : List Fr) (σ : F) : Option (V × List (Option O)) := m.go K (some (ex, σ))
noncomputable def Mc.ops (m : Mc) (ops : Array Oper) (l : List Oper) (K : List Fr) (σ : F) : Option (V × List (Option O)) := m.go K ((opsOf m.e m.run ops σ l).map (Ex.normal, ·))
open Classical in
noncomputable def Mc.drawn (m : Mc) (ops : Array Oper) (K : List Fr) : Option (List (Nat × Res) × F) → Option (V × List (Option O))
  | some (l, τ) => if DrawOk ops l then m.ret .normal K τ else none
  | none => none
noncomputable def Mc.drawnC (m : Mc) (ops : Array Oper) (K : List Fr) (σ : F) (r : Option (List (Nat × Res) × F)) : Option (Nat × Nat) → Option (V × List (Option O))
  | some (k, t) => if choiceB ops = true ∧ k < σ.sl.length ∧ t < σ.sl.length then m.ret .normal K ((σ.put (some k) .dead).put (some t) .yn) else none
  | none => m.drawn ops K r
noncomputable def Mc.yn (m : Mc) (x y : Code) (K : List Fr) (σ : F) (s : S) : Option (V × List (Option O)) :=
  if s.isYn then m.go K (bothF m.e m.f x (codeW m.e m.run m.f x σ) (codeW m.e m.run m.f y σ)) else none
noncomputable def Mc.cond (m : Mc) (x y : Code) (K : List Fr) (σ : F) (s : S) : Option Bool → Option (V × List (Option O))
  | some b => if b then m.at x K σ else m.at y K σ
  | none => m.yn x y K σ s
theorem callW_runU {e : Env} {fs : FuncId → Option Func} {f : FuncId} {fn : Func} {args : List S} {obs : List O} {c : Code} {n : Nat} {rs : List ResultVar} {x} (hx : e.ext f = none) (hf : fs f = some fn) (hb : fn.body = some c) (hn : fn.ntmps = n) (hr : fn.results.toList = rs) (hu : unOk c args obs (e.un f) = true)
    (h : Mc.at ⟨e, callW e fs, f, rs, obs.length⟩ c [] { sl := args ++ List.replicate (n - args.length) .undef, ob := enterObs obs 0 } = some x) : callW e fs f args obs = some x := by
  refine callW_of hx hf ?_
  unfold runW
  rw [hb]
  dsimp only
  rw [if_pos hu]
  subst hn hr
  exact h
theorem callW_run {e : Env} {fs : FuncId → Option Func} {f : FuncId} {fn : Func} {args : List S} {obs : List O} {c : Code} {n : Nat} {rs : List ResultVar} {x} (hx : e.ext f = none ∧ e.un f = []) (hf : fs f = some fn) (hb : fn.body = some c) (hn : fn.ntmps = n) (hr : fn.results.toList = rs)
    (h : Mc.at ⟨e, callW e fs, f, rs, obs.length⟩ c [] { sl := args ++ List.replicate (n - args.length) .undef, ob := enterObs obs 0 } = some x) : callW e fs f args obs = some x :=
  callW_runU hx.1 hf hb hn hr (by rw [hx.2]; rfl) h
theorem Mc.at_seq (m : Mc) (a b : Code) (K : List Fr) (σ : F) : m.at (.seq a b) K σ = m.at a (.seq b :: K) σ := by
  unfold Mc.at
  simp only [codeW, Mc.go]
  rfl
theorem Mc.at_block (m : Mc) (id : Nat) (c : Code) (K : List Fr) (σ : F) : m.at (.block id c) K σ = m.at c (.blk id :: K) σ := by
  unfold Mc.at
  simp only [codeW, Mc.go]
  rfl
theorem Mc.at_scope (m : Mc) (c : Code) (K : List Fr) (σ : F) : m.at (.scope c) K σ = m.at c K σ := rfl
theorem Mc.at_skip (m : Mc) (K : List Fr) (σ : F) : m.at .skip K σ = m.ret .normal K σ := rfl
theorem Mc.at_exit (m : Mc) (id : Nat) (K : List Fr) (σ : F) : m.at (.exit id) K σ = m.ret (.exit id) K σ := rfl
theorem Mc.at_ret (m : Mc) (K : List Fr) (σ : F) : m.at .ret K σ = m.ret .ret K σ := rfl
theorem Mc.at_region (m : Mc) (id : Nat) (ops : Array Oper) (K : List Fr) (σ : F) : m.at (.region id ops false) K σ = m.ops ops ops.toList K (σ.keep (m.e.trim m.f id)) := rfl
theorem Mc.at_drawn (m : Mc) (id : Nat) (ops : Array Oper) (K : List Fr) (σ : F) : m.at (.region id ops true) K σ = m.drawnC ops K (σ.keep (m.e.trim m.f id)) (drawRun m.e m.run (m.e.gho m.f id) ops 0 ops.toList (σ.keep (m.e.trim m.f id))) (choiceOf m.e ops) := by
  unfold Mc.at Mc.drawnC
  simp only [codeW, if_true]
  cases choiceOf m.e ops with
  | some ch =>
    obtain ⟨k, t⟩ := ch
    simp only [drawnR]
    split
    · rfl
    · exact m.go_none K
  | none =>
    simp only [drawnR]
    unfold Mc.drawn
    cases drawRun m.e m.run (m.e.gho m.f id) ops 0 ops.toList (σ.keep (m.e.trim m.f id)) with
    | none => exact m.go_none K
    | some x =>
      obtain ⟨l, τ⟩ := x
      dsimp only
      unfold drawnF
      split
      · rfl
      · exact m.go_none K
theorem Mc.at_cond (m : Mc) (c : Operand) (x y : Code) (K : List Fr) (σ : F) : m.at (.cond c x y) K σ = m.cond x y K σ (σ.rd c) (boolOf? (σ.rd c)) := by
  unfold Mc.at Mc.cond
  simp only [codeW]
  cases boolOf? (σ.rd c) with
  | none =>
    dsimp only
    unfold Mc.yn
    split
    · rfl
    · exact m.go_none K
  | some b => cases b <;> rfl
theorem Mc.at_yn (m : Mc) (x y : Code) (K : List Fr) (σ τ : F) (hx : m.at x [.test x τ] σ = some (.tup [], [])) (hy : m.at y [.test x τ] σ = some (.tup [], [])) : m.yn x y K σ .yn = m.ret .normal K τ := by
  unfold Mc.at at hx hy
  rw [Mc.go_test] at hx hy
  unfold Mc.yn
  split at hx
  · rename_i h1
    split at hy
    · rename_i h2
      obtain ⟨a, ha, ha'⟩ := h1
      obtain ⟨b, hb, hb'⟩ := h2
      rw [ha, hb]
      simp only [S.isYn, if_true, bothF]
      rw [if_pos (ha'.trans hb'.symm), ha']
      rfl
    · cases hy
  · cases hx
theorem Mc.ret_test (m : Mc) (x : Code) (σ τ : F) (K : List Fr) (h : joinAt m.e m.f x σ = τ) : m.ret .normal (.test x τ :: K) σ = some (.tup [], []) := by
  unfold Mc.ret
  rw [Mc.go_test, if_pos ⟨σ, rfl, h⟩]
theorem Mc.ops_nil (m : Mc) (ops : Array Oper) (K : List Fr) (σ : F) : m.ops ops [] K σ = m.ret .normal K σ := rfl
theorem Mc.ops_cons (m : Mc) (ops : Array Oper) (d : Option Nat) (op : Op) (ty : TypeId) (pos : String) (af : Array Edge) (r : List Oper) (K : List Fr) (σ : F) :
    m.ops ops (⟨d, op, ty, pos, af, none⟩ :: r) K σ = match opOf m.e m.run σ ⟨d, op, 0, "", #[], none⟩ with | some σ' => m.ops ops r K σ' | none => none := by
  unfold Mc.ops
  simp only [opsOf, guardOf, if_true]
  have e1 : opOf m.e m.run σ ⟨d, op, ty, pos, af, none⟩ = opOf m.e m.run σ ⟨d, op, 0, "", #[], none⟩ := by
    cases op with
    | call c => obtain ⟨callee, args, at_⟩ := c; cases callee with
      | builtin b => cases b <;> rfl
      | _ => rfl
    | makeFunc fn _ _ => cases fn <;> rfl
    | slice _ _ _ _ m => cases m <;> rfl
    | _ => rfl
  rw [e1]
  cases opOf m.e m.run σ ⟨d, op, 0, "", #[], none⟩ with
  | none => exact m.go_none K
  | some σ' => rfl
theorem Mc.ops_guard (m : Mc) (ops : Array Oper) (d : Option Nat) (op : Op) (ty : TypeId) (pos : String) (af : Array Edge) (g : Nat) (b : Bool) (r : List Oper) (K : List Fr) (σ : F) :
    m.ops ops (⟨d, op, ty, pos, af, some (g, b)⟩ :: r) K σ = match guardOf ops σ ⟨d, .move (.tmp 0), 0, "", #[], some (g, b)⟩ with
      | some b => if b then (match opOf m.e m.run σ ⟨d, op, 0, "", #[], none⟩ with | some σ' => m.ops ops r K σ' | none => none) else m.ops ops r K (σ.put d .undef)
      | none => none := by
  unfold Mc.ops
  have e0 : guardOf ops σ ⟨d, op, ty, pos, af, some (g, b)⟩ = guardOf ops σ ⟨d, .move (.tmp 0), 0, "", #[], some (g, b)⟩ := rfl
  simp only [opsOf]
  rw [e0]
  cases guardOf ops σ ⟨d, .move (.tmp 0), 0, "", #[], some (g, b)⟩ with
  | none => exact m.go_none K
  | some x =>
    cases x with
    | false => rfl
    | true =>
      simp only [if_true]
      have e1 : opOf m.e m.run σ ⟨d, op, ty, pos, af, some (g, b)⟩ = opOf m.e m.run σ ⟨d, op, 0, "", #[], none⟩ := by
        cases op with
        | call c => obtain ⟨callee, args, at_⟩ := c; cases callee with
          | builtin b => cases b <;> rfl
          | _ => rfl
        | makeFunc fn _ _ => cases fn <;> rfl
        | slice _ _ _ _ m => cases m <;> rfl
        | _ => rfl
      rw [e1]
      cases opOf m.e m.run σ ⟨d, op, 0, "", #[], none⟩ with
      | none => exact m.go_none K
      | some σ' => rfl
theorem Mc.ret_nil (m : Mc) (ex : Ex) (σ : F) : m.ret ex [] σ = outF m.e m.f m.res m.nobs (some (ex, σ)) := rfl
theorem Mc.normal_seq (m : Mc) (b : Code) (K : List Fr) (σ : F) : m.ret .normal (.seq b :: K) σ = m.at b K σ := rfl
theorem Mc.exit_seq (m : Mc) (j : Nat) (b : Code) (K : List Fr) (σ : F) : m.ret (.exit j) (.seq b :: K) σ = m.ret (.exit j) K σ := rfl
theorem Mc.ret_seq (m : Mc) (b : Code) (K : List Fr) (σ : F) : m.ret .ret (.seq b :: K) σ = m.ret .ret K σ := rfl
theorem Mc.normal_blk (m : Mc) (id : Nat) (K : List Fr) (σ : F) : m.ret .normal (.blk id :: K) σ = m.ret .normal K σ := rfl
theorem Mc.exit_blk (m : Mc) (j id : Nat) (K : List Fr) (σ : F) : m.ret (.exit j) (.blk id :: K) σ = if j = id then m.ret .normal K σ else m.ret (.exit j) K σ := by
  unfold Mc.ret
  simp only [Mc.go]
  split <;> rfl
theorem Mc.ret_blk (m : Mc) (id : Nat) (K : List Fr) (σ : F) : m.ret .ret (.blk id :: K) σ = m.ret .ret K σ := rfl
theorem Mc.exit_lp (m : Mc) (j : Nat) (c : Code) (K : List Fr) (σ : F) : m.ret (.exit j) (.lp c :: K) σ = m.ret (.exit j) K σ := rfl
theorem Mc.ret_lp (m : Mc) (c : Code) (K : List Fr) (σ : F) : m.ret .ret (.lp c :: K) σ = m.ret .ret K σ := rfl
theorem Mc.normal_lp (m : Mc) (c : Code) (K : List Fr) (σ : F) : m.ret .normal (.lp c :: K) σ = m.at (.loop c) K σ := rfl
theorem Mc.at_loop (m : Mc) (c : Code) (K : List Fr) (σ : F) : m.at (.loop c) K σ = m.at c (.lp c :: K) (keepAt m.e m.f c σ) := by
  unfold Mc.at
  simp only [codeW, Mc.go]
  rw [iterW_eq]
  unfold round
  cases codeW m.e m.run m.f c (keepAt m.e m.f c σ) with
  | none => rfl
  | some x =>
    obtain ⟨ex, τ⟩ := x
    cases ex <;> rfl
theorem Mc.loop_ind {α : Type} (m : Mc) (c : Code) (K : List Fr) (R : Option (V × List (Option O))) (Inv : α → F) (μ : α → Nat) (P : α → Prop) (a : α) (σ : F) (h0 : keepAt m.e m.f c σ = Inv a) (hP : P a)
    (step : ∀ a, P a → (∀ a' σ', keepAt m.e m.f c σ' = Inv a' → P a' → μ a' < μ a → m.at (.loop c) K σ' = R) → m.at c (.lp c :: K) (Inv a) = R) : m.at (.loop c) K σ = R := by
  generalize hn : μ a = n
  induction n using Nat.strongRecOn generalizing a σ with
  | ind n ih =>
    rw [Mc.at_loop, h0]
    exact step a hP fun a' σ' h1 h2 h3 => ih (μ a') (by omega) a' σ' h1 h2 rfl
end Go.Proofs.YtckojpaklblnpaaGreatDoor.Ev
set_option linter.unusedVariables false
set_option linter.unusedSimpArgs false
set_option maxHeartbeats 4000000
namespace Go.Proofs.YtckojpaklblnpaaGreatDoor.Ev
open Go
theorem i64_wrap {n : Int} (h1 : -9223372036854775808 ≤ n) (h2 : n ≤ 9223372036854775807) : IntKind.wrap .i64 n = n := by
  unfold IntKind.wrap
  simp [IntKind.signed, IntKind.bits]
  omega
@[simp] theorem natCast_eq (a b : Nat) : ((a : Int) = (b : Int)) = (a = b) := by simp only [Int.ofNat_inj]
@[simp] theorem natCast_neg (n : Nat) : ¬ ((n : Int) < 0) := by omega
@[simp] theorem natCast_toNat (n : Nat) : (n : Int).toNat = n := Int.toNat_natCast n
@[simp] theorem castSucc_neg (n : Nat) : ¬ ((n : Int) + 1 < 0) := by omega
@[simp] theorem castSucc_toNat (n : Nat) : ((n : Int) + 1).toNat = n + 1 := by omega
attribute [simp] opOf guardOf F.rd constS cellT cellsT F.put F.at_ binOp_ binInt binStr unOp_ liT boolOf? intOf? enterObs resSlots outMany outOne ptrsOk packV leaveObs outF unboxes unbox1 F.tidys F.tidy F.told storeKeep rowLen nrmT nrmTs nrmRows nrmC nrmCs nrmCRows boxKeep unOk Mc.cond
attribute [simp] Ev.look drop_ put_ F.new F.del killAll killAlls killAt killAts killThru killThrus F.swap rekey rekeys Ev.keyOf newKey F.cells F.write getRow setRow C.row C.setRow C.rows C.sz C.len C.free C.copy C.toT cellsToT rowsToT C.owned ownedAll ownedRows litC lentAll C.lent lentRows T.isLit setRange F.freeOf F.free1 F.take F.view F.made ofT partCells fieldPlaces placesOf fillAt chunk packRows appendTo F.append F.source lenS addrOf elemAt sliceIt szOk optInt bytesT through S.ag
attribute [simp] F.call lendArgs F.lend F.unlend unlendAll F.borrow borrowAll F.push numOf S.renum S.renums S.keys S.keyss dedup looks backs F.back sift stillV stillP rowOk dropAll apartL recvOne recvMany recvAll F.done V.lent lentVs lentO S.ok S.oks F.keep F.only maskSl pick keepAt headOf isAgg
@[simp] theorem app_slot (rs : List Nat) (cs : List S) (rk : List Qry) (os : List Seen) (d : Option Nat) (s : S) (σ : F) : (Res.slot rs cs rk os d s).app σ = σ.put d s := rfl
@[simp] theorem app_effG (rs ks : List Nat) (α β : F) (d : Option Nat) (gv gp : List (Nat × List (Nat × Nat))) (σ : F) : (Res.eff rs ks α d β gv gp).app σ = { sl := setO (σ.sl.map (sift (fun k p => stillV d ks β.ob k p || gv.contains (k, p)) (fun k p => stillP d ks β.ob k p || gp.contains (k, p)))) d (match d with | some d => β.at_ d | none => .dead), ob := β.ob ++ dropAll ks σ.ob } := rfl
@[simp] theorem app_eff (rs ks : List Nat) (α β : F) (d : Option Nat) (σ : F) : (Res.eff rs ks α d β [] []).app σ = { sl := setO (σ.sl.map (sift (stillV d ks β.ob) (stillP d ks β.ob))) d (match d with | some d => β.at_ d | none => .dead), ob := β.ob ++ dropAll ks σ.ob } := by
  have e1 : (Res.eff rs ks α d β [] []).sf = sift (stillV d ks β.ob) (stillP d ks β.ob) := by
    funext s
    simp only [Res.sf, Res.okS, List.contains_nil, Bool.or_false]
    rfl
  simp only [Res.app, e1]
  rfl
attribute [simp] Mc.drawn Mc.drawnC choiceOf drawRun resOf effG ghostsOf aliveV aliveP inRange toldBy slotOp rkOf wholes viewO elemO Qry.ask setO nodupB Oper.looksAt Op.operands Call.operands
attribute [simp] Mc.at_seq Mc.at_block Mc.at_scope Mc.at_skip Mc.at_exit Mc.at_ret Mc.at_region Mc.at_drawn Mc.at_cond Mc.ops_nil Mc.ops_cons Mc.ops_guard Mc.ret_nil Mc.normal_seq Mc.exit_seq Mc.ret_seq Mc.normal_blk Mc.exit_blk Mc.ret_blk Mc.exit_lp Mc.ret_lp Mc.normal_lp
end Go.Proofs.YtckojpaklblnpaaGreatDoor.Ev
set_option linter.unusedVariables false
set_option linter.unusedSimpArgs false
namespace Go.Proofs.YtckojpaklblnpaaGreatDoor.Th
open Go Go.RowKit Go.Proofs.YtckojpaklblnpaaGreatDoor.Ev
noncomputable abbrev cw : Rn := callW E fs
theorem take_set {α : Type} (rows : List α) (i : Nat) (x : α) (h : i < rows.length) : (rows.set i x).take (i + 1) = rows.take i ++ [x] := by
  rw [List.take_succ_eq_append_getElem (by simpa using h)]
  simp [List.take_set_of_le]
theorem set_all {α : Type} {rows : List α} {p : α → Prop} (h : ∀ r ∈ rows, p r) {i : Nat} {x : α} (hx : p x) : ∀ r ∈ rows.set i x, p r := by
  intro r hr
  rcases List.mem_or_eq_of_mem_set hr with h1 | h1
  · exact h r h1
  · exact h1 ▸ hx
theorem take_next {α : Type} (l : List α) (i : Nat) (h : i < l.length) : l.take (i + 1) = l.take i ++ [l[i]] := List.take_succ_eq_append_getElem h
theorem wrap_add (i : Nat) (h : i < 2 ^ 62) : IntKind.wrap .i64 ((i : Int) + 1) = (i : Int) + 1 := i64_wrap (by omega) (by omega)
def idxOf {α : Type} (p : α → Bool) (l : List α) : Int := match l.findIdx? p with | some i => i | none => -1
theorem idxOf_none {α : Type} (p : α → Bool) (l : List α) (h : ∀ j (h : j < l.length), p l[j] = false) : idxOf p l = -1 := by
  unfold idxOf
  have : l.findIdx? p = none := by
    rw [List.findIdx?_eq_none_iff]
    intro x hx
    obtain ⟨j, hj, rfl⟩ := List.getElem_of_mem hx
    exact h j hj
  rw [this]
theorem idxOf_at {α : Type} (p : α → Bool) (l : List α) (i : Nat) (hi : i < l.length) (hp : p l[i] = true) (h : ∀ j (_ : j < i) (h' : j < l.length), p l[j] = false) : idxOf p l = i := by
  unfold idxOf
  have : l.findIdx? p = some i := by
    rw [List.findIdx?_eq_some_iff_getElem]
    exact ⟨hi, hp, fun j hj => by simp [h j hj (by omega)]⟩
  rw [this]
def encI (n : Int) : List T := [.lit (.int .i64 n)]
def encB (n : Int) : List T := [.lit (.int .u8 n)]
def encS {α : Type} (sz : Nat) (enc : α → List T) (l : List α) : List T := [.sl sz (l.map enc)]
theorem idxOf_any {α : Type} (p : α → Bool) (l : List α) : decide (idxOf p l ≥ 0) = l.any p := by
  unfold idxOf
  cases h : l.findIdx? p with
  | none =>
    rw [List.findIdx?_eq_none_iff] at h
    have : l.any p = false := by simpa using h
    simp [this]
  | some i =>
    obtain ⟨hi, hp, _⟩ := List.findIdx?_eq_some_iff_getElem.mp h
    have : l.any p = true := List.any_eq_true.mpr ⟨l[i], List.getElem_mem hi, hp⟩
    simp [this]
theorem cut1 (m : Mc) {a g : Code} {K : List Fr} {σ : F} {x} (h : ∀ c, c = g → m.at (.seq a c) K σ = x) : m.at (.seq a g) K σ = x := h _ rfl
theorem cut2 (m : Mc) {a b g : Code} {K : List Fr} {σ : F} {x} (h : ∀ c, c = g → m.at (.seq a (.seq b c)) K σ = x) : m.at (.seq a (.seq b g)) K σ = x := h _ rfl
theorem cut3 (m : Mc) {a b d g : Code} {K : List Fr} {σ : F} {x} (h : ∀ c, c = g → m.at (.seq a (.seq b (.seq d c))) K σ = x) : m.at (.seq a (.seq b (.seq d g))) K σ = x := h _ rfl
theorem cut4 (m : Mc) {a b d e g : Code} {K : List Fr} {σ : F} {x} (h : ∀ c, c = g → m.at (.seq a (.seq b (.seq d (.seq e c)))) K σ = x) : m.at (.seq a (.seq b (.seq d (.seq e g)))) K σ = x := h _ rfl
theorem cutK (m : Mc) {c : Code} {K : List Fr} {σ : F} {x} (h : ∀ K', K' = K → m.at c K' σ = x) : m.at c K σ = x := h _ rfl
theorem at_region_of (m : Mc) (id : Nat) (ops : Array Oper) (K : List Fr) (σ τ : F) (h : σ.keep (m.e.trim m.f id) = τ) : m.at (.region id ops false) K σ = m.ops ops ops.toList K τ := by rw [Mc.at_region, h]
theorem at_drawn_of (m : Mc) (id : Nat) (ops : Array Oper) (K : List Fr) (σ τ : F) (h : σ.keep (m.e.trim m.f id) = τ) (hc : choiceOf m.e ops = none := by simp) : m.at (.region id ops true) K σ = m.drawn ops K (drawRun m.e m.run (m.e.gho m.f id) ops 0 ops.toList τ) := by rw [Mc.at_drawn, h, hc]; rfl
def Code.drop : Nat → Code → Code
  | 0, c => c
  | n + 1, .seq _ b => Code.drop n b
  | _, c => c
def Code.graft : Nat → Code → Code → Code
  | 0, _, c => c
  | n + 1, .seq a b, c => .seq a (Code.graft n b c)
  | _, g, _ => g
theorem graft_drop : ∀ (n : Nat) (g : Code), Code.graft n g (Code.drop n g) = g
  | 0, _ => rfl
  | n + 1, g => by
    cases g with
    | seq a b => simp only [Code.drop, Code.graft, graft_drop n b]
    | _ => rfl
theorem cutG (n : Nat) (m : Mc) {g : Code} {K : List Fr} {σ : F} {x} (h : ∀ c, c = Code.drop n g → m.at (Code.graft n g c) K σ = x) : m.at g K σ = x := by
  have := h _ rfl
  rwa [graft_drop] at this
end Go.Proofs.YtckojpaklblnpaaGreatDoor.Th
set_option linter.unusedVariables false
set_option linter.unusedSimpArgs false
set_option maxRecDepth 100000
namespace Go.Proofs.YtckojpaklblnpaaGreatDoor.Th
open Go Go.RowKit Go.Proofs.YtckojpaklblnpaaGreatDoor.Ev Go.ChangeShapes Go.WideShapes
theorem envOk : EnvOk Tryz.prog E := ⟨fun t v h => tvOf_ok Tryz.prog h⟩
theorem noNum : (Tryz.prog.funcs.all fun fn => !(fn.name == "runtime.NumGoroutine")) = true := by kernel_rfl
theorem fsOk (f : FuncId) (fn : Func) (h : fs f = some fn) : Tryz.prog.funcs[f]? = some fn ∧ (fn.name == "runtime.NumGoroutine") = false := by
  refine ⟨h, ?_⟩
  have h1 : Tryz.prog.funcs[f]? = some fn := h
  have h2 := noNum
  rw [Array.all_eq_true] at h2
  obtain ⟨hi, he⟩ := Array.getElem?_eq_some_iff.mp h1
  have := h2 f hi
  rw [he] at this
  simpa using this
theorem follows : Tryz.prog.follows .mixedOrders = true := by kernel_rfl
theorem valOf_string {w : World} {r : Reach} {base : Nat} {t : TypeId} {v : Value} (ht : Tryz.prog.underlying t = some .string) (h : Value.okWide Tryz.prog w r base t v) : Ev.valOf false v.cells.toList v := by
  obtain ⟨s, rfl⟩ := okWide_string ht h
  simp [Ev.valOf, Value.cells]
theorem law_callsP (hext : ∀ f g, E.ext f = some g → ∀ args obs v os, g args obs = some (v, os) → RunIs Tryz.prog f args obs v os) {f : FuncId} {fn : Func} (hf : Tryz.prog.funcs[f]? = some fn) (hb : fn.body.isSome = true) {args : List S} {vals : List Value} {w : World} (hpin : Ev.Pin w (All w))
    (hargs : SlotRs w (All w) [] (fun _ => []) args vals) (h : cw f args [] = some (.lit (.bool true), [])) : Calls Tryz.prog f vals.toArray w (fun e w' => e = .returned (.bool true) ∧ Below w.heap.size w w') := by
  obtain ⟨k, hk⟩ := callW_to h
  exact law_holds (pcall_sound envOk follows fsOk hext k) hf hb (fsOk f fn hf).2 hpin hargs hk
theorem own : ownKnob Tryz.prog.godebug = none := by kernel_rfl
theorem laidOut : laidOutB Tryz.prog = true := by kernel_rfl
end Go.Proofs.YtckojpaklblnpaaGreatDoor.Th
