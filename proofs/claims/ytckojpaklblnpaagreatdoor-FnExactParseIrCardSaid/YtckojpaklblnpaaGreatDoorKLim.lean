/- The evaluator without fuel: what it answers with enough of it. -/
import Derived.Test.YtckojpaklblnpaaGreatDoorKEa
set_option linter.unusedVariables false
set_option linter.unusedSimpArgs false
namespace Go.Proofs.YtckojpaklblnpaaGreatDoor.Ev
open Go
abbrev Rn := FuncId → List S → List O → Option (V × List (Option O))
abbrev Qs := List (FuncId × List S × List O × (V × List (Option O)))
def Agree (L : Qs) (run : Rn) : Prop := ∀ q ∈ L, run q.1 q.2.1 q.2.2.1 = some q.2.2.2
theorem Agree.nil {run : Rn} : Agree [] run := fun _ h => by cases h
theorem Agree.left {L M : Qs} {run : Rn} (h : Agree (L ++ M) run) : Agree L run := fun q hq => h q (List.mem_append_left _ hq)
theorem Agree.right {L M : Qs} {run : Rn} (h : Agree (L ++ M) run) : Agree M run := fun q hq => h q (List.mem_append_right _ hq)
theorem Agree.both {L M : Qs} {run : Rn} (h : Agree L run) (k : Agree M run) : Agree (L ++ M) run := fun q hq => (List.mem_append.mp hq).elim (h q) (k q)
def Asks {α : Type} (g : Rn → Option α) : Prop := ∀ run x, g run = some x → ∃ L, Agree L run ∧ ∀ run', Agree L run' → g run' = some x
theorem asks_const {α : Type} (c : Option α) : Asks fun _ => c := fun _ _ h => ⟨[], .nil, fun _ _ => h⟩
theorem asks_of {α : Type} {g : Rn → Option α} (h : ∀ r r', g r = g r') : Asks g := fun r x hx => ⟨[], .nil, fun r' _ => by rw [h r' r]; exact hx⟩
theorem Asks.bind {α β : Type} {g : Rn → Option α} {h : Rn → α → Option β} (hg : Asks g) (hh : ∀ a, Asks fun run => h run a) : Asks fun run => match g run with | some a => h run a | none => none := by
  intro run x hx
  cases hr : g run with
  | none => simp [hr] at hx
  | some a =>
    simp only [hr] at hx
    obtain ⟨L, l1, l2⟩ := hg run a hr
    obtain ⟨M, m1, m2⟩ := hh a run x hx
    exact ⟨L ++ M, l1.both m1, fun run' h' => by dsimp only; rw [l2 run' h'.left]; exact m2 run' h'.right⟩
theorem Asks.map {α β : Type} {g : Rn → Option α} {c : α → Option β} (hg : Asks g) : Asks fun run => match g run with | some a => c a | none => none := hg.bind (h := fun _ a => c a) fun a => asks_const (c a)
theorem Asks.by {α β : Type} {g : Rn → Option α} {k : Rn → Option β} (h : α → Rn → Option β) (hg : Asks g) (hh : ∀ a, Asks (h a)) (hk : ∀ run a, g run = some a → k run = h a run) (hn : ∀ run, g run = none → k run = none) : Asks k := by
  have e : k = fun run => match g run with | some a => h a run | none => none := by
    funext run
    cases hr : g run with
    | none => exact hn run hr
    | some a => exact hk run a hr
  rw [e]
  exact hg.bind (h := fun run a => h a run) hh
theorem asks_Fcall (σ : F) (e : Env) (d : Option Nat) (f : FuncId) (args : List S) : Asks fun run => σ.call e run d f args := by
  unfold F.call
  dsimp only
  cases lendArgs (e.how f) σ.sl.length args.length 0 { σ with sl := σ.sl ++ args } with
  | none => exact asks_const none
  | some x =>
    obtain ⟨σ1, pls⟩ := x
    dsimp only
    cases borrowAll (e.how f) σ1 0 ((σ1.sl.drop σ.sl.length).take args.length) with
    | none => exact asks_const none
    | some y =>
      obtain ⟨xs, bs⟩ := y
      dsimp only
      cases looks σ1.ob (dedup (S.keyss xs)) with
      | none => exact asks_const none
      | some obs =>
        dsimp only
        split
        · intro run x hx
          dsimp only at hx
          cases hr : run f (S.renums (numOf (dedup (S.keyss xs))) xs) obs with
          | none => rw [hr] at hx; cases hx
          | some a =>
            rw [hr] at hx
            refine ⟨[(f, _, obs, a)], fun q hq => by simp only [List.mem_singleton] at hq; subst hq; exact hr, fun run' h' => ?_⟩
            have := h' _ (List.mem_singleton.mpr rfl)
            dsimp only at this ⊢
            rw [this]
            exact hx
        · exact asks_const none
theorem asks_op (e : Env) (σ : F) (o : Oper) : Asks fun run => opOf e run σ o := by
  obtain ⟨dst, op, ty, pos, after, gd⟩ := o
  cases op with
  | call c =>
    obtain ⟨callee, args, at_⟩ := c
    cases callee with
    | value f =>
      have e1 : (fun run => opOf e run σ ⟨dst, .call ⟨.value f, args, at_⟩, ty, pos, after, gd⟩) = fun run => match σ.rd f with | .fn g caps => σ.call e run dst g (args.toList.map σ.rd ++ caps) | _ => none := rfl
      rw [e1]
      cases σ.rd f with
      | fn g caps => exact asks_Fcall σ e dst g _
      | _ => exact asks_const none
    | builtin b => cases b <;> exact asks_of fun _ _ => rfl
    | _ => exact asks_of fun _ _ => rfl
  | makeFunc fn _ _ => cases fn <;> exact asks_of fun _ _ => rfl
  | slice _ _ _ _ m => cases m <;> exact asks_of fun _ _ => rfl
  | _ => exact asks_of fun _ _ => rfl
theorem asks_ops (e : Env) (ops : Array Oper) : ∀ (l : List Oper) (σ : F), Asks fun run => opsOf e run ops σ l
  | [], σ => asks_of fun _ _ => rfl
  | o :: r, σ => by
    cases hg : guardOf ops σ o with
    | none => exact asks_of fun _ _ => by simp only [opsOf, hg]
    | some b =>
      cases b with
      | true => exact (asks_op e σ o).by (fun σ' run => opsOf e run ops σ' r) (fun σ' => asks_ops e ops r σ') (fun run a ha => by simp only [opsOf, hg, ha, if_true]) (fun run ha => by simp only [opsOf, hg, ha, if_true])
      | false =>
        have e1 : (fun run => opsOf e run ops σ (o :: r)) = fun run => opsOf e run ops (σ.put o.dst .undef) r := by funext run; simp [opsOf, hg]
        rw [e1]
        exact asks_ops e ops r _
theorem asks_res (e : Env) (gh : Bool) (ops : Array Oper) (σ : F) (o : Oper) : Asks fun run => resOf e run gh ops σ o := by
  cases hg : guardOf ops σ o with
  | none => exact asks_of fun _ _ => by simp only [resOf, hg]
  | some b =>
    cases b with
    | false => exact asks_of fun _ _ => by simp only [resOf, hg]
    | true =>
      by_cases hs : slotOp e o.op = true
      · exact (asks_op e σ o).by (fun σ' _ => some (.slot (o.looksAt ops) ((o.looksAt ops).map σ.at_) (rkOf e σ o.op) ((rkOf e σ o.op).map (Qry.ask σ.ob)) o.dst (match o.dst with | some d => σ'.at_ d | none => .dead))) (fun _ => asks_const _) (fun run a ha => by simp only [resOf, hg, hs, ha, if_true]; rfl) (fun run ha => by simp only [resOf, hg, hs, ha, if_true])
      · cases gh with
        | false => exact (asks_op e (σ.only (o.looksAt ops) (S.keyss ((o.looksAt ops).map σ.at_) ++ (σ.ob.map (·.1)).filter (newKey o.dst))) o).by (fun β _ => if β.ob.all (fun x => (S.keyss ((o.looksAt ops).map σ.at_) ++ (σ.ob.map (·.1)).filter (newKey o.dst)).contains x.1 || (look σ.ob x.1).isNone) && nodupB (β.ob.map (·.1)) then some (.eff (o.looksAt ops) (S.keyss ((o.looksAt ops).map σ.at_) ++ (σ.ob.map (·.1)).filter (newKey o.dst)) (σ.only (o.looksAt ops) (S.keyss ((o.looksAt ops).map σ.at_) ++ (σ.ob.map (·.1)).filter (newKey o.dst))) o.dst β [] []) else none) (fun _ => asks_const _) (fun run a ha => by simp only [resOf, hg, hs, ha]; rfl) (fun run ha => by simp only [resOf, hg, hs, ha]; rfl)
        | true =>
          have key : ∀ (α : F) (gs : List S) (ks : List Nat), Asks fun run => effG e run o (o.looksAt ops) ks α gs σ := fun α gs ks =>
            (asks_op e { sl := α.sl ++ gs, ob := α.ob } o).by (fun β _ => if β.ob.all (fun x => ks.contains x.1 || (look σ.ob x.1).isNone) && nodupB (β.ob.map (·.1)) && inRange α.sl.length (o.looksAt ops) o.dst && inRange α.sl.length [] (toldBy σ o) then
              some (.eff (o.looksAt ops) ks α (toldBy σ o) { sl := β.sl.take α.sl.length, ob := β.ob } (aliveV β.ob gs (β.sl.drop α.sl.length)) (aliveP gs (β.sl.drop α.sl.length))) else none) (fun _ => asks_const _) (fun run a ha => by simp only [effG, ha]) (fun run ha => by simp only [effG, ha])
          refine cast (congrArg Asks (funext fun run => ?_)) (key (σ.only (o.looksAt ops) (S.keyss ((o.looksAt ops).map σ.at_) ++ (σ.ob.map (·.1)).filter (newKey o.dst))) (ghostsOf (σ.only (o.looksAt ops) (S.keyss ((o.looksAt ops).map σ.at_) ++ (σ.ob.map (·.1)).filter (newKey o.dst))).ob (S.keyss ((o.looksAt ops).map σ.at_) ++ (σ.ob.map (·.1)).filter (newKey o.dst)) σ.sl) (S.keyss ((o.looksAt ops).map σ.at_) ++ (σ.ob.map (·.1)).filter (newKey o.dst)))
          simp only [resOf, hg, hs, if_true]
          rfl
theorem asks_draw (e : Env) (gh : Bool) (ops : Array Oper) : ∀ (l : List Oper) (i : Nat) (σ : F), Asks fun run => drawRun e run gh ops i l σ
  | [], i, σ => asks_of fun _ _ => rfl
  | o :: r, i, σ =>
    (asks_res e gh ops σ o).by (fun R run => match drawRun e run gh ops (i + 1) r (R.app σ) with | some x => some ((i, R) :: x.1, x.2) | none => none) (fun R => (asks_draw e gh ops r (i + 1) (R.app σ)).by (fun x _ => some ((i, R) :: x.1, x.2)) (fun _ => asks_const _) (fun run a ha => by simp only [ha]) (fun run ha => by simp only [ha]))
      (fun run R hR => by simp only [drawRun, hR]; cases drawRun e run gh ops (i + 1) r (R.app σ) <;> rfl) (fun run hR => by simp only [drawRun, hR])
theorem iter_mono {b b' : F → Option (Ex × F)} (hb : ∀ σ x, b σ = some x → b' σ = some x) : ∀ {n n' : Nat} {σ : F} {x}, n ≤ n' → iter b n σ = some x → iter b' n' σ = some x
  | 0, _, _, _, _, h => by cases h
  | n + 1, 0, _, _, hn, h => by omega
  | n + 1, n' + 1, σ, x, hn, h => by
    simp only [iter] at h ⊢
    cases hr : b σ with
    | none => rw [hr] at h; cases h
    | some y =>
      rw [hr] at h
      rw [hb σ y hr]
      obtain ⟨ex, τ⟩ := y
      cases ex with
      | normal => exact iter_mono hb (by omega) h
      | _ => exact h
theorem asks_code (e : Env) (f : FuncId) : ∀ (c : Code) (n : Nat) (σ : F) (run : Rn) (x : Ex × F), codeOf e run f n c σ = some x →
    ∃ L, Agree L run ∧ ∀ run' n', Agree L run' → n ≤ n' → codeOf e run' f n' c σ = some x := by
  intro c
  induction c with
  | region id ops draw =>
    intro n σ run x h
    have hA : Asks fun run => codeOf e run f n (.region id ops draw) σ := by
      cases draw with
      | true =>
        cases hch : choiceOf e ops with
        | none => exact (asks_draw e (e.gho f id) ops ops.toList 0 (σ.keep (e.trim f id))).by (fun y _ => drawnF ops y.1 y.2) (fun _ => asks_const _) (fun run a ha => by simp only [codeOf, ha, if_true, hch, drawnR]) (fun run ha => by simp only [codeOf, ha, if_true, hch, drawnR])
        | some ch => exact asks_of fun r r' => by simp only [codeOf, if_true, hch, drawnR]
      | false => exact (asks_ops e ops ops.toList (σ.keep (e.trim f id))).by (fun τ _ => some (Ex.normal, τ)) (fun _ => asks_const _) (fun run a ha => by simp [codeOf, ha]) (fun run ha => by simp [codeOf, ha])
    obtain ⟨L, l1, l2⟩ := hA run x h
    exact ⟨L, l1, fun run' n' ha _ => l2 run' ha⟩
  | seq a b iha ihb =>
    intro n σ run x h
    simp only [codeOf] at h
    cases hr : codeOf e run f n a σ with
    | none => rw [hr] at h; cases h
    | some y =>
      rw [hr] at h
      obtain ⟨L, l1, l2⟩ := iha n σ run y hr
      obtain ⟨ex, τ⟩ := y
      cases ex with
      | normal =>
        obtain ⟨M, m1, m2⟩ := ihb n τ run x h
        refine ⟨L ++ M, l1.both m1, fun run' n' ha hn => ?_⟩
        simp only [codeOf]
        rw [l2 run' n' ha.left hn]
        exact m2 run' n' ha.right hn
      | _ =>
        refine ⟨L, l1, fun run' n' ha hn => ?_⟩
        simp only [codeOf]
        rw [l2 run' n' ha hn]
        exact h
  | cond c a b iha ihb =>
    intro n σ run x h
    simp only [codeOf] at h
    cases hr : boolOf? (σ.rd c) with
    | none =>
      rw [hr] at h
      dsimp only at h
      split at h
      · rename_i hyn
        cases h1 : codeOf e run f n a σ with
        | none => rw [h1] at h; simp [bothF] at h
        | some y1 => cases h2 : codeOf e run f n b σ with
          | none => rw [h1, h2] at h; obtain ⟨ex, τ⟩ := y1; cases ex <;> simp [bothF] at h
          | some y2 =>
            rw [h1, h2] at h
            obtain ⟨L, l1, l2⟩ := iha n σ run _ h1
            obtain ⟨M, m1, m2⟩ := ihb n σ run _ h2
            refine ⟨L ++ M, l1.both m1, fun run' n' ha hn => ?_⟩
            simp only [codeOf, hr]
            rw [if_pos hyn, l2 run' n' ha.left hn, m2 run' n' ha.right hn]
            exact h
      · cases h
    | some y =>
      rw [hr] at h
      cases y with
      | true =>
        obtain ⟨L, l1, l2⟩ := iha n σ run x h
        refine ⟨L, l1, fun run' n' ha hn => ?_⟩
        simp only [codeOf, hr]
        exact l2 run' n' ha hn
      | false =>
        obtain ⟨L, l1, l2⟩ := ihb n σ run x h
        refine ⟨L, l1, fun run' n' ha hn => ?_⟩
        simp only [codeOf, hr]
        exact l2 run' n' ha hn
  | block id c ih =>
    intro n σ run x h
    simp only [codeOf] at h
    cases hr : codeOf e run f n c σ with
    | none => rw [hr] at h; cases h
    | some y =>
      rw [hr] at h
      obtain ⟨L, l1, l2⟩ := ih n σ run y hr
      refine ⟨L, l1, fun run' n' ha hn => ?_⟩
      simp only [codeOf]
      rw [l2 run' n' ha hn]
      exact h
  | loop c ih =>
    intro n σ run x h
    have h' : iter (round e f c (codeOf e run f n c)) n σ = some x := h
    have key : ∀ m σ x, iter (round e f c (codeOf e run f n c)) m σ = some x → ∃ L, Agree L run ∧ ∀ run' n', Agree L run' → n ≤ n' → ∀ m', m ≤ m' → iter (round e f c (codeOf e run' f n' c)) m' σ = some x := by
      intro m
      induction m with
      | zero => intro σ x h; cases h
      | succ m ihm =>
        intro σ x h
        simp only [iter] at h
        cases hr : round e f c (codeOf e run f n c) σ with
        | none => rw [hr] at h; cases h
        | some y =>
          rw [hr] at h
          obtain ⟨L, l1, l2⟩ := ih n (keepAt e f c σ) run y hr
          obtain ⟨ex, τ⟩ := y
          cases ex with
          | normal =>
            obtain ⟨M, m1, m2⟩ := ihm τ x h
            refine ⟨L ++ M, l1.both m1, fun run' n' ha hn m' hm => ?_⟩
            obtain ⟨m', rfl⟩ : ∃ k, m' = k + 1 := ⟨m' - 1, by omega⟩
            simp only [iter]
            have : round e f c (codeOf e run' f n' c) σ = some (.normal, τ) := l2 run' n' ha.left hn
            rw [this]
            exact m2 run' n' ha.right hn m' (by omega)
          | _ =>
            refine ⟨L, l1, fun run' n' ha hn m' hm => ?_⟩
            obtain ⟨m', rfl⟩ : ∃ k, m' = k + 1 := ⟨m' - 1, by omega⟩
            simp only [iter]
            have := l2 run' n' ha hn
            unfold round
            rw [this]
            exact h
    obtain ⟨L, l1, l2⟩ := key n σ x h'
    exact ⟨L, l1, fun run' n' ha hn => l2 run' n' ha hn n' hn⟩
  | scope c ih =>
    intro n σ run x h
    exact ih n σ run x h
  | _ => intro n σ run x h; first | (cases h; done) | exact ⟨[], .nil, fun _ _ _ _ => h⟩
theorem code_mono {e : Env} {f : FuncId} {c : Code} {n n' : Nat} {σ : F} {run : Rn} {x} (h : codeOf e run f n c σ = some x) (hn : n ≤ n') : codeOf e run f n' c σ = some x := by
  obtain ⟨L, l1, l2⟩ := asks_code e f c n σ run x h
  exact l2 run n' l1 hn
noncomputable def lim {α : Type} (g : Nat → Option α) : Option α :=
  open Classical in if h : ∃ n, (g n).isSome = true then g h.choose else none
theorem lim_of {α : Type} {g : Nat → Option α} (hm : ∀ n n' x, n ≤ n' → g n = some x → g n' = some x) {n : Nat} {x : α} (h : g n = some x) : lim g = some x := by
  unfold lim
  have hex : ∃ n, (g n).isSome = true := ⟨n, by rw [h]; rfl⟩
  rw [dif_pos hex]
  obtain ⟨y, hy⟩ := Option.isSome_iff_exists.mp hex.choose_spec
  rw [hy]
  have h1 := hm _ (max hex.choose n) _ (Nat.le_max_left _ _) hy
  have h2 := hm _ (max hex.choose n) _ (Nat.le_max_right _ _) h
  rw [h1] at h2
  exact h2
theorem lim_to {α : Type} {g : Nat → Option α} {x : α} (h : lim g = some x) : ∃ n, g n = some x := by
  unfold lim at h
  split at h
  · exact ⟨_, h⟩
  · cases h
noncomputable def iterW (body : F → Option (Ex × F)) (σ : F) : Option (Ex × F) := lim fun n => iter body n σ
theorem iterW_to {body : F → Option (Ex × F)} {σ : F} {x} (h : iterW body σ = some x) : ∃ n, iter body n σ = some x := lim_to h
theorem iterW_of {body : F → Option (Ex × F)} {σ : F} {n : Nat} {x} (h : iter body n σ = some x) : iterW body σ = some x :=
  lim_of (g := fun n => iter body n σ) (fun _ _ _ hn h => iter_mono (fun _ _ h => h) hn h) h
theorem iterW_eq (body : F → Option (Ex × F)) (σ : F) : iterW body σ = match body σ with | some (.normal, σ') => iterW body σ' | r => r := by
  cases hb : body σ with
  | none =>
    show iterW body σ = none
    cases h : iterW body σ with
    | none => rfl
    | some x =>
      obtain ⟨n, hn⟩ := iterW_to h
      cases n with
      | zero => cases hn
      | succ n => simp only [iter, hb] at hn; cases hn
  | some y =>
    obtain ⟨ex, τ⟩ := y
    cases ex with
    | normal =>
      show iterW body σ = iterW body τ
      cases h : iterW body τ with
      | some x =>
        obtain ⟨n, hn⟩ := iterW_to h
        exact iterW_of (n := n + 1) (by simp only [iter, hb]; exact hn)
      | none =>
        cases h2 : iterW body σ with
        | none => rfl
        | some x =>
          obtain ⟨n, hn⟩ := iterW_to h2
          cases n with
          | zero => cases hn
          | succ n =>
            simp only [iter, hb] at hn
            rw [iterW_of hn] at h
            cases h
    | _ => exact iterW_of (n := 1) (by simp only [iter, hb])
noncomputable def codeW (e : Env) (run : Rn) (f : FuncId) : Code → F → Option (Ex × F)
  | .skip, σ => some (.normal, σ)
  | .region id ops draw, σ =>
    if draw then drawnR ops (σ.keep (e.trim f id)) (choiceOf e ops) (drawRun e run (e.gho f id) ops 0 ops.toList (σ.keep (e.trim f id)))
    else (opsOf e run ops (σ.keep (e.trim f id)) ops.toList).map (Ex.normal, ·)
  | .seq a b, σ => match codeW e run f a σ with
    | some (.normal, σ') => codeW e run f b σ'
    | r => r
  | .cond c x y, σ => match boolOf? (σ.rd c) with
    | some b => if b then codeW e run f x σ else codeW e run f y σ
    | none => if (σ.rd c).isYn then bothF e f x (codeW e run f x σ) (codeW e run f y σ) else none
  | .block id c, σ => match codeW e run f c σ with
    | some (.exit j, σ') => if j = id then some (.normal, σ') else some (.exit j, σ')
    | r => r
  | .loop c, σ => iterW (round e f c (codeW e run f c)) σ
  | .exit id, σ => some (.exit id, σ)
  | .scope c, σ => codeW e run f c σ
  | .ret, σ => some (.ret, σ)
  | _, _ => none
theorem codeW_to (e : Env) (run : Rn) (f : FuncId) : ∀ (c : Code) (σ : F) (x : Ex × F), codeW e run f c σ = some x → ∃ n, codeOf e run f n c σ = some x := by
  intro c
  induction c with
  | region id ops draw => intro σ x h; exact ⟨0, h⟩
  | seq a b iha ihb =>
    intro σ x h
    simp only [codeW] at h
    cases hr : codeW e run f a σ with
    | none => rw [hr] at h; cases h
    | some y =>
      rw [hr] at h
      obtain ⟨n, hn⟩ := iha σ y hr
      obtain ⟨ex, τ⟩ := y
      cases ex with
      | normal =>
        obtain ⟨m, hm⟩ := ihb τ x h
        refine ⟨max n m, ?_⟩
        simp only [codeOf]
        rw [code_mono hn (Nat.le_max_left n m)]
        exact code_mono hm (Nat.le_max_right n m)
      | _ => exact ⟨n, by simp only [codeOf]; rw [hn]; exact h⟩
  | cond c a b iha ihb =>
    intro σ x h
    simp only [codeW] at h
    cases hr : boolOf? (σ.rd c) with
    | none =>
      rw [hr] at h
      dsimp only at h
      split at h
      · rename_i hyn
        cases h1 : codeW e run f a σ with
        | none => rw [h1] at h; simp [bothF] at h
        | some y1 => cases h2 : codeW e run f b σ with
          | none => rw [h1, h2] at h; obtain ⟨ex, τ⟩ := y1; cases ex <;> simp [bothF] at h
          | some y2 =>
            rw [h1, h2] at h
            obtain ⟨n, hn⟩ := iha σ _ h1
            obtain ⟨m, hm⟩ := ihb σ _ h2
            refine ⟨max n m, ?_⟩
            simp only [codeOf, hr]
            rw [if_pos hyn, code_mono hn (Nat.le_max_left n m), code_mono hm (Nat.le_max_right n m)]
            exact h
      · cases h
    | some y =>
      rw [hr] at h
      cases y with
      | true => obtain ⟨n, hn⟩ := iha σ x h; exact ⟨n, by simp only [codeOf, hr]; exact hn⟩
      | false => obtain ⟨n, hn⟩ := ihb σ x h; exact ⟨n, by simp only [codeOf, hr]; exact hn⟩
  | block id c ih =>
    intro σ x h
    simp only [codeW] at h
    cases hr : codeW e run f c σ with
    | none => rw [hr] at h; cases h
    | some y =>
      rw [hr] at h
      obtain ⟨n, hn⟩ := ih σ y hr
      exact ⟨n, by simp only [codeOf]; rw [hn]; exact h⟩
  | loop c ih =>
    intro σ x h
    obtain ⟨m, hm⟩ := iterW_to (show iterW (round e f c (codeW e run f c)) σ = some x from h)
    have key : ∀ m σ x, iter (round e f c (codeW e run f c)) m σ = some x → ∃ n, ∀ n', n ≤ n' → iter (round e f c (codeOf e run f n' c)) n' σ = some x ∧ iter (round e f c (codeOf e run f n' c)) m σ = some x := by
      intro m
      induction m with
      | zero => intro σ x h; cases h
      | succ m ihm =>
        intro σ x h
        simp only [iter] at h
        cases hr : round e f c (codeW e run f c) σ with
        | none => rw [hr] at h; cases h
        | some y =>
          rw [hr] at h
          obtain ⟨n, hn⟩ := ih (keepAt e f c σ) y hr
          obtain ⟨ex, τ⟩ := y
          cases ex with
          | normal =>
            obtain ⟨k, hk⟩ := ihm τ x h
            refine ⟨max (max n k) (m + 1), fun n' hn' => ?_⟩
            have h1 : round e f c (codeOf e run f n' c) σ = some (.normal, τ) := code_mono hn (by omega)
            have h2 : iter (round e f c (codeOf e run f n' c)) (m + 1) σ = some x := by
              simp only [iter, h1]
              exact (hk n' (by omega)).2
            exact ⟨iter_mono (fun _ _ h => h) (by omega) h2, h2⟩
          | _ =>
            refine ⟨max n (m + 1), fun n' hn' => ?_⟩
            have h1 := code_mono (n' := n') hn (by omega)
            have h2 : iter (round e f c (codeOf e run f n' c)) (m + 1) σ = some x := by
              simp only [iter]
              unfold round
              rw [h1]
              exact h
            exact ⟨iter_mono (fun _ _ h => h) (by omega) h2, h2⟩
    obtain ⟨n, hn⟩ := key m σ x hm
    exact ⟨n, (hn n (Nat.le_refl n)).1⟩
  | scope c ih => intro σ x h; exact ih σ x h
  | _ => intro σ x h; exact ⟨0, h⟩
def outF (e : Env) (f : FuncId) (rs : List ResultVar) (nobs : Nat) : Option (Ex × F) → Option (V × List (Option O))
  | some (ex, σ0) =>
      let σ := unboxes (e.un f) (σ0.tidys (e.nrmX f))
      if ex = .normal ∨ ex = .ret then
        match resSlots e σ rs with
        | some ss => match outMany nobs ss.length σ.sl.length { σ with sl := σ.sl ++ ss } with
          | some (vs, σ') => if ptrsOk σ' σ.sl.length vs then some (packV vs, leaveObs σ' 0 nobs) else none
          | none => none
        | none => none
      else none
  | none => none
noncomputable def runW (e : Env) (run : Rn) (f : FuncId) (fn : Func) (args : List S) (obs : List O) : Option (V × List (Option O)) :=
  match fn.body with
  | some c => if unOk c args obs (e.un f) then outF e f fn.results.toList obs.length (codeW e run f c { sl := args ++ List.replicate (fn.ntmps - args.length) .undef, ob := enterObs obs 0 }) else none
  | none => none
theorem runFn_eq (e : Env) (run : Rn) (f : FuncId) (n : Nat) (fn : Func) (args : List S) (obs : List O) : runFn e run f n fn args obs = match fn.body with
  | some c => if unOk c args obs (e.un f) then outF e f fn.results.toList obs.length (codeOf e run f n c { sl := args ++ List.replicate (fn.ntmps - args.length) .undef, ob := enterObs obs 0 }) else none
  | none => none := by
  unfold runFn outF
  cases fn.body with
  | none => rfl
  | some c =>
    dsimp only
    split
    · cases codeOf e run f n c { sl := args ++ List.replicate (fn.ntmps - args.length) .undef, ob := enterObs obs 0 } with
      | none => rfl
      | some x => obtain ⟨ex, σ⟩ := x; rfl
    · rfl
theorem asks_run {e : Env} {run : Rn} {f : FuncId} {n : Nat} {fn : Func} {args : List S} {obs : List O} {x} (h : runFn e run f n fn args obs = some x) :
    ∃ L, Agree L run ∧ ∀ run' n', Agree L run' → n ≤ n' → runFn e run' f n' fn args obs = some x := by
  rw [runFn_eq] at h
  cases hb : fn.body with
  | none => rw [hb] at h; cases h
  | some c =>
    rw [hb] at h
    dsimp only at h
    split at h
    rotate_left
    · cases h
    rename_i hun
    cases hr : codeOf e run f n c { sl := args ++ List.replicate (fn.ntmps - args.length) .undef, ob := enterObs obs 0 } with
    | none => rw [hr] at h; cases h
    | some y =>
      rw [hr] at h
      obtain ⟨L, l1, l2⟩ := asks_code e f c n _ run y hr
      refine ⟨L, l1, fun run' n' ha hn => ?_⟩
      rw [runFn_eq, hb]
      dsimp only
      rw [if_pos hun, l2 run' n' ha hn]
      exact h
theorem runW_to {e : Env} {run : Rn} {f : FuncId} {fn : Func} {args : List S} {obs : List O} {x} (h : runW e run f fn args obs = some x) : ∃ n, runFn e run f n fn args obs = some x := by
  unfold runW at h
  cases hb : fn.body with
  | none => rw [hb] at h; cases h
  | some c =>
    rw [hb] at h
    dsimp only at h
    split at h
    rotate_left
    · cases h
    rename_i hun
    cases hr : codeW e run f c { sl := args ++ List.replicate (fn.ntmps - args.length) .undef, ob := enterObs obs 0 } with
    | none => rw [hr] at h; cases h
    | some y =>
      rw [hr] at h
      obtain ⟨n, hn⟩ := codeW_to e run f c _ y hr
      refine ⟨n, ?_⟩
      rw [runFn_eq, hb]
      dsimp only
      rw [if_pos hun, hn]
      exact h
theorem pcall_mono (e : Env) (fs : FuncId → Option Func) : ∀ {k k' : Nat} {f : FuncId} {args : List S} {obs : List O} {x}, k ≤ k' → pcall e fs k f args obs = some x → pcall e fs k' f args obs = some x
  | 0, _, _, _, _, _, _, h => by cases h
  | k + 1, 0, _, _, _, _, hk, _ => by omega
  | k + 1, k' + 1, f, args, obs, x, hk, h => by
    simp only [pcall] at h ⊢
    cases hx : e.ext f with
    | some g => rw [hx] at h; exact h
    | none =>
      rw [hx] at h
      dsimp only at h ⊢
      cases hf : fs f with
      | none => rw [hf] at h; cases h
      | some fn =>
        rw [hf] at h
        dsimp only at h ⊢
        obtain ⟨L, l1, l2⟩ := asks_run h
        exact l2 _ _ (fun q hq => pcall_mono e fs (by omega) (l1 q hq)) (by omega)
noncomputable def callW (e : Env) (fs : FuncId → Option Func) : Rn := fun f args obs => lim fun k => pcall e fs k f args obs
theorem callW_to {e : Env} {fs : FuncId → Option Func} {f : FuncId} {args : List S} {obs : List O} {x} (h : callW e fs f args obs = some x) : ∃ k, pcall e fs k f args obs = some x := lim_to h
theorem callW_at {e : Env} {fs : FuncId → Option Func} {f : FuncId} {args : List S} {obs : List O} {k : Nat} {x} (h : pcall e fs k f args obs = some x) : callW e fs f args obs = some x :=
  lim_of (g := fun k => pcall e fs k f args obs) (fun _ _ _ hn h => pcall_mono e fs hn h) h
theorem callW_ext {e : Env} {fs : FuncId → Option Func} {f : FuncId} {args : List S} {obs : List O} {g} {x} (hg : e.ext f = some g) (h : g args obs = some x) : callW e fs f args obs = some x :=
  callW_at (k := 1) (by simp only [pcall, hg]; exact h)
theorem callW_of {e : Env} {fs : FuncId → Option Func} {f : FuncId} {fn : Func} {args : List S} {obs : List O} {x} (hx : e.ext f = none) (hf : fs f = some fn) (h : runW e (callW e fs) f fn args obs = some x) : callW e fs f args obs = some x := by
  obtain ⟨n, hn⟩ := runW_to h
  obtain ⟨L, l1, l2⟩ := asks_run hn
  have key : ∀ L : Qs, Agree L (callW e fs) → ∃ k, ∀ k', k ≤ k' → Agree L (pcall e fs k') := by
    intro L
    induction L with
    | nil => intro _; exact ⟨0, fun _ _ => .nil⟩
    | cons q L ih =>
      intro ha
      obtain ⟨k, hk⟩ := ih fun p hp => ha p (List.mem_cons_of_mem _ hp)
      obtain ⟨j, hj⟩ := callW_to (ha q (by simp))
      refine ⟨max k j, fun k' hk' p hp => ?_⟩
      rcases List.mem_cons.mp hp with rfl | hp
      · exact pcall_mono e fs (by omega) hj
      · exact hk k' (by omega) p hp
  obtain ⟨k, hk⟩ := key L l1
  refine callW_at (k := max n k + 1) ?_
  simp only [pcall, hx, hf]
  exact l2 _ _ (hk _ (Nat.le_max_right n k)) (Nat.le_max_left n k)
end Go.Proofs.YtckojpaklblnpaaGreatDoor.Ev
