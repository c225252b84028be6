/- One operation, whichever: what the evaluator told, the machine does. -/
import Derived.Test.YtmkhdnpnjjdgfaaRename
set_option linter.unusedVariables false
set_option linter.unusedSimpArgs false
namespace Go.Proofs.Ytmkhdnpnjjdgfaa.Ev
open Go Go.RowKit

/-- What is known of an operation that the evaluator does. -/
def OpDone (P : Program) (e : Env) (o : Oper) (σ σ' : F) : Prop :=
  OpStill P o σ σ' ∨ (stillOp e o.op = false ∧ OpNew P o σ σ') ∨ (stillOp e o.op = false ∧ newOp o.op = false ∧ OpOk P o σ σ')

theorem OpDone.ok {P : Program} {e : Env} {o : Oper} {σ σ' : F} (h : OpDone P e o σ σ') : OpOk P o σ σ' :=
  h.elim OpStill.ok (·.elim (·.2.ok) (·.2.2))

theorem OpDone.still {P : Program} {e : Env} {o : Oper} {σ σ' : F} (h : OpDone P e o σ σ') (hs : stillOp e o.op = true) : OpStill P o σ σ' := by
  rcases h with h | ⟨h, _⟩ | ⟨h, _⟩
  · exact h
  · rw [hs] at h; cases h
  · rw [hs] at h; cases h

theorem OpDone.new {P : Program} {e : Env} {o : Oper} {σ σ' : F} (h : OpDone P e o σ σ') (hn : newOp o.op = true) : OpNew P o σ σ' := by
  rcases h with h | ⟨_, h⟩ | ⟨_, h, _⟩
  · exact h.new
  · exact h
  · rw [hn] at h; cases h

theorem op_done {P : Program} {e : Env} (he : EnvOk P e) {run : FuncId → List S → List O → Option (V × List (Option O))} {σ σ' : F} (o : Oper) (h : opOf e run σ o = some σ')
    (hcall : ∀ c f g caps, o.op = .call c → c.callee = .value f → σ.rd f = .fn g caps → σ.call e run o.dst g (c.args.toList.map σ.rd ++ caps) = some σ' → OpOk P o σ σ') : OpDone P e o σ σ' := by
  obtain ⟨d, op, ty, pos, after, gd⟩ := o
  cases op with
  | move x =>
    simp only [opOf] at h
    split at h
    · rename_i hx
      simp only [Option.some.injEq] at h
      subst h
      rw [← hx]
      exact .inl (ok_move x)
    · simp only [Option.some.injEq] at h
      subst h
      exact .inl (ok_move x)
  | assign x =>
    simp only [opOf] at h
    split at h
    · rename_i k n ag dd hx
      split at h
      · rename_i ob hl
        split at h
        · rename_i hc
          simp only [Bool.and_eq_true, decide_eq_true_eq, Bool.not_eq_true'] at hc
          simp only [Option.some.injEq] at h
          subst h
          exact .inl (ok_rename x dd k n ag ob hx hl (by simpa using hc.2))
        · simp only [Option.some.injEq] at h
          subst h
          rw [← hx]
          exact .inl (ok_assign x)
      · cases h
    · simp only [Option.some.injEq] at h
      subst h
      exact .inl (ok_assign x)
  | pick c a b =>
    simp only [opOf] at h
    split at h
    · rename_i x hx
      simp only [Option.some.injEq] at h
      subst h
      exact .inl (ok_pick c a b x hx)
    · cases h
  | alloc t =>
    simp only [opOf] at h
    split at h
    · rename_i dd v hv
      simp only [Option.some.injEq] at h
      subst h
      exact .inr (.inl ⟨rfl, ok_alloc he t v dd hv⟩)
    · cases h
  | box t x =>
    simp only [opOf] at h
    split at h
    · rename_i dd
      split at h
      · rename_i cs σ1 ht
        split at h
        · rename_i hpos
          simp only [Option.some.injEq] at h
          subst h
          exact .inr (.inl ⟨rfl, ok_box t x dd cs σ1 ht hpos⟩)
        · cases h
      · cases h
    · cases h
  | build t parts =>
    simp only [opOf] at h
    split at h
    · rename_i v hv
      split at h
      · rename_i place l σ1 hpl hp
        split at h
        · rename_i cs hf
          simp only [Option.some.injEq] at h
          subst h
          exact .inl (ok_build he t v parts place l cs σ1 d hv hpl hp hf)
        · cases h
      · cases h
    · cases h
  | buildSlice t len parts =>
    simp only [opOf] at h
    split at h
    · rename_i el _ _ _ _ dd ht
      split at h
      · rename_i v hv
        split at h
        · rename_i l σ1 hp
          split at h
          · rename_i hlen
            split at h
            · rename_i cs hf
              simp only [Option.some.injEq] at h
              subst h
              exact .inr (.inl ⟨rfl, ok_buildSlice he t el _ v len parts l cs σ1 dd ht rfl hv hp hlen hf⟩)
            · cases h
          · cases h
        · cases h
      · cases h
    · cases h
  | load t a =>
    simp only [opOf] at h
    split at h
    · rename_i v hv
      split at h
      · rename_i k p off ha
        split at h
        · rename_i cs hc
          split at h
          · simp only [Option.some.injEq] at h
            subst h
            exact .inl (ok_load_ptr he t v a k p off cs hv ha hc _ (.inl rfl))
          · simp only [Option.some.injEq] at h
            subst h
            exact .inl (ok_load_ptr he t v a k p off cs hv ha hc _ (.inr rfl))
        · cases h
      · rename_i b ts ha
        split at h
        · rename_i hl
          simp only [Option.some.injEq] at h
          subst h
          exact .inl (ok_load_pt he t v a b ts hv ha hl)
        · cases h
      · cases h
    · cases h
  | store t a x =>
    simp only [opOf] at h
    split at h
    · rename_i v hv
      split at h
      · rename_i cs σ1 ht
        split at h
        · rename_i hcs
          split at h
          · rename_i k p off ha
            simp only [Option.map_eq_some_iff] at h
            obtain ⟨σ2, hw, rfl⟩ := h
            exact .inr (.inr ⟨rfl, rfl, ok_store he t v a x cs σ1 σ2 k p off hv ht hcs ha hw⟩)
          · cases h
        · cases h
      · cases h
    · cases h
  | nilCheck x =>
    simp only [opOf] at h
    split at h
    all_goals first
      | (rename_i hx
         simp only [Option.some.injEq] at h
         subst h
         rw [← hx]
         exact .inl (ok_nilCheck x (by rw [hx]; trivial)))
      | cases h
  | binOp op t x y t2 =>
    simp only [opOf] at h
    split at h
    · rename_i s hs
      simp only [Option.some.injEq] at h
      subst h
      refine .inl (ok_bin op t x y t2 _ s ?_ hs)
      intro hb
      split at hb
      · rename_i ht
        exact he.und ht
      · cases hb
    · cases h
  | unOp op t x =>
    simp only [opOf] at h
    split at h
    · rename_i s hs
      simp only [Option.some.injEq] at h
      subst h
      exact .inl (ok_un op t x s hs)
    · cases h
  | convert src dst x =>
    simp only [opOf] at h
    split at h
    · rename_i a b ha hb
      split at h
      · rename_i k k0 n hk hx
        simp only [Option.some.injEq] at h
        subst h
        exact .inl (ok_convert_int src dst x k k0 n (by rw [he.und ha]; rfl) (by rw [he.und hb, hk]) hx)
      · rename_i s hk hx
        simp only [Option.some.injEq] at h
        subst h
        exact .inl (ok_convert_string src dst x s (by rw [he.und ha]; rfl) (by rw [he.und hb, hk]) hx)
      · rename_i el s hk1 hk2 hx
        split at h
        · rename_i dd _ _ _ hv
          split at h
          · rename_i hsz
            simp only [Option.some.injEq] at h
            subst h
            exact .inr (.inl ⟨by obtain ⟨bd, _, _, _, _⟩ := b; simp only at hk2; subst hk2; simp [stillOp, hb], ok_strBytes he src dst el a b _ x s dd ha hk1 hb hk2 hv rfl rfl hx hsz⟩)
          · cases h
        · cases h
      · rename_i el hk1 hk2 _
        split at h
        · rename_i sz rows _ _ _ _ hf hv
          split at h
          · rename_i bs hbs
            simp only [Option.some.injEq] at h
            subst h
            exact .inl (ok_bytesString he src dst el a b _ x sz rows bs ha hk1 hb hk2 hv rfl hf hbs)
          · cases h
        · cases h
      · cases h
    · cases h
  | makeFunc f first captured =>
    cases f with
    | func g =>
      simp only [opOf] at h
      split at h
      · rename_i hf
        simp only [Option.some.injEq] at h
        subst h
        exact .inl (ok_makeFunc g first captured hf)
      · cases h
    | _ => simp [opOf] at h
  | makeSlice t l c =>
    simp only [opOf] at h
    split at h
    · rename_i el _ _ _ _ dd ht
      split at h
      · rename_i v n m hv hn hm
        split at h
        · rename_i hc
          simp only [Option.some.injEq] at h
          subst h
          exact .inr (.inl ⟨rfl, ok_makeSlice he t el _ v l c n m dd ht rfl hv hn hm hc⟩)
        · cases h
      · cases h
    · cases h
  | slice t x lo hi mx =>
    cases mx with
    | some m => simp [opOf] at h
    | none =>
      simp only [opOf] at h
      split at h
      · rename_i l hh hl hhh
        split at h
        · rename_i s hs
          simp only [Option.some.injEq] at h
          subst h
          exact .inl (ok_slice he t x lo hi l hh s hl hhh hs)
        · cases h
      · cases h
  | fieldAddr t x f =>
    simp only [opOf] at h
    split at h
    · rename_i fs _ _ _ _ ht
      split at h
      · rename_i fd hfd
        split at h
        · rename_i hw
          obtain ⟨w0, hw0⟩ := Option.isSome_iff_exists.mp hw
          split at h
          · rename_i k p o' hx
            simp only [Option.some.injEq] at h
            subst h
            exact .inl (ok_fieldAddr he t _ w0 x f fs fd _ ht rfl hfd hw0 (.inl ⟨k, p, o', hx, rfl⟩))
          · rename_i b ts hx
            simp only [Option.some.injEq] at h
            subst h
            exact .inl (ok_fieldAddr he t _ w0 x f fs fd _ ht rfl hfd hw0 (.inr ⟨b, ts, hx, rfl⟩))
          · cases h
        · cases h
      · cases h
    · cases h
  | field t x f =>
    simp only [opOf] at h
    split at h
    · rename_i fs _ _ _ _ ht
      split at h
      · rename_i fd hfd
        split at h
        · rename_i w0 hw0
          split at h
          · rename_i b ts hx
            split at h
            · rename_i hl
              simp only [Option.some.injEq] at h
              subst h
              exact .inl (ok_field_agg he t _ w0 x f fs fd b ts ht rfl hfd hw0 hx hl)
            · cases h
          · rename_i k p off n hx
            split at h
            · rename_i hl
              split at h
              · rename_i cs hc
                simp only [Option.some.injEq] at h
                subst h
                exact .inl (ok_field_vw he t _ w0 x f fs fd k p off n cs ht rfl hfd hw0 hx hl hc)
              · cases h
            · cases h
          · cases h
        · cases h
      · cases h
    · cases h
  | indexAddr t x i =>
    simp only [opOf] at h
    split at h
    · rename_i s hs
      simp only [Option.some.injEq] at h
      subst h
      exact .inl (ok_indexAddr he t x i s hs)
    · cases h
  | index t x i =>
    simp only [opOf] at h
    split at h
    · rename_i s n ht hx hn
      split at h
      · rename_i h0
        split at h
        · rename_i b hb
          simp only [Option.some.injEq] at h
          subst h
          exact .inl (ok_index_str he t _ x i s n b ht rfl hx hn h0 hb)
        · cases h
      · cases h
    · rename_i len el _ _ _ _ b ts n ht hx hn
      split at h
      · rename_i w0 hw0
        split at h
        · rename_i h0
          simp only [Option.some.injEq] at h
          subst h
          exact .inl (ok_index_arr he t el _ w0 x i len n b ts ht rfl hw0 hx hn h0)
        · cases h
      · cases h
    · cases h
  | extract x i =>
    simp only [opOf] at h
    split at h
    · rename_i xs hx
      split at h
      · rename_i s hs
        simp only [Option.some.injEq] at h
        subst h
        exact .inl (ok_extract x i xs s hx hs)
      · cases h
    · cases h
  | call c =>
    simp only [opOf] at h
    split at h
    · rename_i hb
      split at h
      · rename_i x t ha hat
        split at h
        · rename_i n el _ _ _ _ hn ht
          split at h
          · cases h
          · rename_i hx
            simp only [Option.some.injEq] at h
            subst h
            exact .inl (ok_len he c t _ x n hb ha hat ht hn (.inl ⟨el, rfl, fun v hv => hx v hv⟩))
        · rename_i n _ _ _ _ hn ht
          split at h
          · rename_i v hx
            simp only [Option.some.injEq] at h
            subst h
            exact .inl (ok_len he c t _ x n hb ha hat ht hn (.inr ⟨rfl, v, hx⟩))
          · cases h
        · cases h
      · cases h
    · rename_i hb
      split at h
      · rename_i a x st xt ha hat
        split at h
        · rename_i k _ _ _ _ hx
          split at h
          · rename_i el _ _ _ _ n ht hn
            split at h
            · rename_i v hv
              split at h
              · rename_i hc
                exact .inr (.inr ⟨by simp [stillOp, hb], rfl, ok_appendMake he c st xt el _ _ v k n a x σ' d hb ha hat hx rfl ht rfl hv hn hc.2.1 h⟩)
              · cases h
            · cases h
          · cases h
        · rename_i xv hx0 hx
          refine .inr (.inr ⟨by simp [stillOp, hb], rfl, ok_append he c st xt xv a x σ' d hb ha hat hx (fun k hk => by
            obtain ⟨desc, cells, bytes, zero, agg⟩ := xv
            simp only at hk
            subst hk
            exact hx0 _ _ _ _ _ rfl) h⟩)
        · cases h
      · cases h
    · rename_i hb
      split at h
      · rename_i x t ha hat
        split at h
        · rename_i el _ _ _ _ hx ht
          simp only [Option.some.injEq] at h
          subst h
          exact .inl (ok_cap he c t el _ x hb ha hat ht rfl hx)
        · cases h
      · cases h
    · rename_i hb
      split at h
      · rename_i x y ha
        split at h
        · rename_i a b k a' hxi hyi hx
          simp only [Option.some.injEq] at h
          subst h
          have : a = a' := by rw [hx] at hxi; simpa [intOf?] using hxi.symm
          subst this
          exact .inl (ok_minmax c x y k k a b false (by simpa using hb) ha hx hyi)
        · cases h
      · cases h
    · rename_i hb
      split at h
      · rename_i x y ha
        split at h
        · rename_i a b k a' hxi hyi hx
          simp only [Option.some.injEq] at h
          subst h
          have : a = a' := by rw [hx] at hxi; simpa [intOf?] using hxi.symm
          subst this
          exact .inl (ok_minmax c x y k k a b true (by simpa using hb) ha hx hyi)
        · cases h
      · cases h
    · cases h
    · rename_i f hb
      split at h
      · rename_i g caps hf
        exact .inr (.inr ⟨by simp [stillOp, hb], rfl, hcall c f g caps rfl hb hf h⟩)
      · cases h
    · cases h
  | _ => simp [opOf] at h

end Go.Proofs.Ytmkhdnpnjjdgfaa.Ev
