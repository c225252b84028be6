/- The evaluator and its soundness, part 3: Op Keep Local Swap Draw Order Code Args Back Recv Call. -/
import Derived.Test.YtckojpaklblnpaaDoorEb
import Derived.StillTail
import Derived.Deep.LoopGhost
import Derived.Scope
import Derived.BigCall
/- One operation, whichever: what the evaluator told, the machine does. -/
set_option linter.unusedVariables false
set_option linter.unusedSimpArgs false
namespace Go.Proofs.YtckojpaklblnpaaDoor.Ev
open Go Go.RowKit

/-- What is known of an operation that the evaluator does. -/
def OpDone (P : Program) (e : Env) (o : Oper) (σ σ' : F) : Prop :=
  OpStill P o σ σ' ∨ (stillOp e o.op = false ∧ OpNew P o σ σ') ∨ (stillOp e o.op = false ∧ newOp o.op = false ∧ OpOk P o σ σ')

theorem OpDone.ok {P : Program} {e : Env} {o : Oper} {σ σ' : F} (h : OpDone P e o σ σ') : OpOk P o σ σ' :=
  h.elim OpStill.ok (·.elim (·.2.ok) (·.2.2))

theorem OpDone.still {P : Program} {e : Env} {o : Oper} {σ σ' : F} (h : OpDone P e o σ σ') (hs : stillOp e o.op = true) : OpStill P o σ σ' := by
  rcases h with h | ⟨h, _⟩ | ⟨h, _⟩
  · exact h
  · rw [hs] at h; cases h
  · rw [hs] at h; cases h

theorem OpDone.new {P : Program} {e : Env} {o : Oper} {σ σ' : F} (h : OpDone P e o σ σ') (hn : newOp o.op = true) : OpNew P o σ σ' := by
  rcases h with h | ⟨_, h⟩ | ⟨_, h, _⟩
  · exact h.new
  · exact h
  · rw [hn] at h; cases h

theorem op_done {P : Program} {e : Env} (he : EnvOk P e) {run : FuncId → List S → List O → Option (V × List (Option O))} {σ σ' : F} (o : Oper) (h : opOf e run σ o = some σ')
    (hcall : ∀ c f g caps, o.op = .call c → c.callee = .value f → σ.rd f = .fn g caps → σ.call e run o.dst g (c.args.toList.map σ.rd ++ caps) = some σ' → OpOk P o σ σ') : OpDone P e o σ σ' := by
  obtain ⟨d, op, ty, pos, after, gd⟩ := o
  cases op with
  | move x =>
    simp only [opOf] at h
    split at h
    · rename_i hx
      simp only [Option.some.injEq] at h
      subst h
      rw [← hx]
      exact .inl (ok_move x)
    · simp only [Option.some.injEq] at h
      subst h
      exact .inl (ok_move x)
  | assign x =>
    simp only [opOf] at h
    split at h
    · rename_i k n ag dd hx
      split at h
      · rename_i ob hl
        split at h
        · rename_i hc
          simp only [Bool.and_eq_true, decide_eq_true_eq, Bool.not_eq_true'] at hc
          simp only [Option.some.injEq] at h
          subst h
          exact .inl (ok_rename x dd k n ag ob hx hl (by simpa using hc.2))
        · simp only [Option.some.injEq] at h
          subst h
          rw [← hx]
          exact .inl (ok_assign x)
      · cases h
    · simp only [Option.some.injEq] at h
      subst h
      exact .inl (ok_assign x)
  | pick c a b =>
    simp only [opOf] at h
    split at h
    · rename_i x hx
      simp only [Option.some.injEq] at h
      subst h
      exact .inl (ok_pick c a b x hx)
    · cases h
  | alloc t =>
    simp only [opOf] at h
    split at h
    · rename_i dd v hv
      simp only [Option.some.injEq] at h
      subst h
      exact .inr (.inl ⟨rfl, ok_alloc he t v dd hv⟩)
    · cases h
  | box t x =>
    simp only [opOf] at h
    split at h
    · rename_i dd
      split at h
      · rename_i cs σ1 ht
        split at h
        · rename_i hpos
          simp only [Option.some.injEq] at h
          subst h
          exact .inr (.inl ⟨rfl, ok_box t x dd cs σ1 ht hpos⟩)
        · cases h
      · cases h
    · cases h
  | build t parts =>
    simp only [opOf] at h
    split at h
    · rename_i v hv
      split at h
      · rename_i place l σ1 hpl hp
        split at h
        · rename_i cs hf
          simp only [Option.some.injEq] at h
          subst h
          exact .inl (ok_build he t v parts place l cs σ1 d hv hpl hp hf)
        · cases h
      · cases h
    · cases h
  | buildSlice t len parts =>
    simp only [opOf] at h
    split at h
    · rename_i el _ _ _ _ dd ht
      split at h
      · rename_i v hv
        split at h
        · rename_i l σ1 hp
          split at h
          · rename_i hlen
            split at h
            · rename_i cs hf
              simp only [Option.some.injEq] at h
              subst h
              exact .inr (.inl ⟨rfl, ok_buildSlice he t el _ v len parts l cs σ1 dd ht rfl hv hp hlen hf⟩)
            · cases h
          · cases h
        · cases h
      · cases h
    · cases h
  | load t a =>
    simp only [opOf] at h
    split at h
    · rename_i v hv
      split at h
      · rename_i k p off ha
        split at h
        · rename_i cs hc
          split at h
          · simp only [Option.some.injEq] at h
            subst h
            exact .inl (ok_load_ptr he t v a k p off cs hv ha hc _ (.inl rfl))
          · simp only [Option.some.injEq] at h
            subst h
            exact .inl (ok_load_ptr he t v a k p off cs hv ha hc _ (.inr rfl))
        · cases h
      · rename_i b ts ha
        split at h
        · rename_i hl
          simp only [Option.some.injEq] at h
          subst h
          exact .inl (ok_load_pt he t v a b ts hv ha hl)
        · cases h
      · cases h
    · cases h
  | store t a x =>
    simp only [opOf] at h
    split at h
    · rename_i v hv
      split at h
      · rename_i cs σ1 ht
        split at h
        · rename_i hcs
          split at h
          · rename_i k p off ha
            simp only [Option.map_eq_some_iff] at h
            obtain ⟨σ2, hw, rfl⟩ := h
            exact .inr (.inr ⟨rfl, rfl, ok_store he t v a x cs σ1 σ2 k p off hv ht hcs ha hw⟩)
          · cases h
        · cases h
      · cases h
    · cases h
  | nilCheck x =>
    simp only [opOf] at h
    split at h
    all_goals first
      | (rename_i hx
         simp only [Option.some.injEq] at h
         subst h
         rw [← hx]
         exact .inl (ok_nilCheck x (by rw [hx]; trivial)))
      | cases h
  | binOp op t x y t2 =>
    simp only [opOf] at h
    split at h
    · rename_i s hs
      simp only [Option.some.injEq] at h
      subst h
      refine .inl (ok_bin op t x y t2 _ s ?_ hs)
      intro hb
      split at hb
      · rename_i ht
        exact he.und ht
      · cases hb
    · cases h
  | unOp op t x =>
    simp only [opOf] at h
    split at h
    · rename_i s hs
      simp only [Option.some.injEq] at h
      subst h
      exact .inl (ok_un op t x s hs)
    · cases h
  | convert src dst x =>
    simp only [opOf] at h
    split at h
    · rename_i a b ha hb
      split at h
      · rename_i k k0 n hk hx
        simp only [Option.some.injEq] at h
        subst h
        exact .inl (ok_convert_int src dst x k k0 n (by rw [he.und ha]; rfl) (by rw [he.und hb, hk]) hx)
      · rename_i s hk hx
        simp only [Option.some.injEq] at h
        subst h
        exact .inl (ok_convert_string src dst x s (by rw [he.und ha]; rfl) (by rw [he.und hb, hk]) hx)
      · rename_i el s hk1 hk2 hx
        split at h
        · rename_i dd _ _ _ hv
          split at h
          · rename_i hsz
            simp only [Option.some.injEq] at h
            subst h
            exact .inr (.inl ⟨by obtain ⟨bd, _, _, _, _⟩ := b; simp only at hk2; subst hk2; simp [stillOp, hb], ok_strBytes he src dst el a b _ x s dd ha hk1 hb hk2 hv rfl rfl hx hsz⟩)
          · cases h
        · cases h
      · rename_i el hk1 hk2 _
        split at h
        · rename_i sz rows _ _ _ _ hf hv
          split at h
          · rename_i bs hbs
            simp only [Option.some.injEq] at h
            subst h
            exact .inl (ok_bytesString he src dst el a b _ x sz rows bs ha hk1 hb hk2 hv rfl hf hbs)
          · cases h
        · cases h
      · cases h
    · cases h
  | makeFunc f first captured =>
    cases f with
    | func g =>
      simp only [opOf] at h
      split at h
      · rename_i hf
        simp only [Option.some.injEq] at h
        subst h
        exact .inl (ok_makeFunc g first captured hf)
      · cases h
    | _ => simp [opOf] at h
  | makeSlice t l c =>
    simp only [opOf] at h
    split at h
    · rename_i el _ _ _ _ dd ht
      split at h
      · rename_i v n m hv hn hm
        split at h
        · rename_i hc
          simp only [Option.some.injEq] at h
          subst h
          exact .inr (.inl ⟨rfl, ok_makeSlice he t el _ v l c n m dd ht rfl hv hn hm hc⟩)
        · cases h
      · cases h
    · cases h
  | slice t x lo hi mx =>
    cases mx with
    | some m => simp [opOf] at h
    | none =>
      simp only [opOf] at h
      split at h
      · rename_i l hh hl hhh
        split at h
        · rename_i s hs
          simp only [Option.some.injEq] at h
          subst h
          exact .inl (ok_slice he t x lo hi l hh s hl hhh hs)
        · cases h
      · cases h
  | fieldAddr t x f =>
    simp only [opOf] at h
    split at h
    · rename_i fs _ _ _ _ ht
      split at h
      · rename_i fd hfd
        split at h
        · rename_i hw
          obtain ⟨w0, hw0⟩ := Option.isSome_iff_exists.mp hw
          split at h
          · rename_i k p o' hx
            simp only [Option.some.injEq] at h
            subst h
            exact .inl (ok_fieldAddr he t _ w0 x f fs fd _ ht rfl hfd hw0 (.inl ⟨k, p, o', hx, rfl⟩))
          · rename_i b ts hx
            simp only [Option.some.injEq] at h
            subst h
            exact .inl (ok_fieldAddr he t _ w0 x f fs fd _ ht rfl hfd hw0 (.inr ⟨b, ts, hx, rfl⟩))
          · cases h
        · cases h
      · cases h
    · cases h
  | field t x f =>
    simp only [opOf] at h
    split at h
    · rename_i fs _ _ _ _ ht
      split at h
      · rename_i fd hfd
        split at h
        · rename_i w0 hw0
          split at h
          · rename_i b ts hx
            split at h
            · rename_i hl
              simp only [Option.some.injEq] at h
              subst h
              exact .inl (ok_field_agg he t _ w0 x f fs fd b ts ht rfl hfd hw0 hx hl)
            · cases h
          · rename_i k p off n hx
            split at h
            · rename_i hl
              split at h
              · rename_i cs hc
                simp only [Option.some.injEq] at h
                subst h
                exact .inl (ok_field_vw he t _ w0 x f fs fd k p off n cs ht rfl hfd hw0 hx hl hc)
              · cases h
            · cases h
          · cases h
        · cases h
      · cases h
    · cases h
  | indexAddr t x i =>
    simp only [opOf] at h
    split at h
    · rename_i s hs
      simp only [Option.some.injEq] at h
      subst h
      exact .inl (ok_indexAddr he t x i s hs)
    · cases h
  | index t x i =>
    simp only [opOf] at h
    split at h
    · rename_i s n ht hx hn
      split at h
      · rename_i h0
        split at h
        · rename_i b hb
          simp only [Option.some.injEq] at h
          subst h
          exact .inl (ok_index_str he t _ x i s n b ht rfl hx hn h0 hb)
        · cases h
      · cases h
    · rename_i len el _ _ _ _ b ts n ht hx hn
      split at h
      · rename_i w0 hw0
        split at h
        · rename_i h0
          simp only [Option.some.injEq] at h
          subst h
          exact .inl (ok_index_arr he t el _ w0 x i len n b ts ht rfl hw0 hx hn h0)
        · cases h
      · cases h
    · cases h
  | extract x i =>
    simp only [opOf] at h
    split at h
    · rename_i xs hx
      split at h
      · rename_i s hs
        simp only [Option.some.injEq] at h
        subst h
        exact .inl (ok_extract x i xs s hx hs)
      · cases h
    · cases h
  | call c =>
    simp only [opOf] at h
    split at h
    · rename_i hb
      split at h
      · rename_i x t ha hat
        split at h
        · rename_i n el _ _ _ _ hn ht
          split at h
          · cases h
          · rename_i hx
            simp only [Option.some.injEq] at h
            subst h
            exact .inl (ok_len he c t _ x n hb ha hat ht hn (.inl ⟨el, rfl, fun v hv => hx v hv⟩))
        · rename_i n _ _ _ _ hn ht
          split at h
          · rename_i v hx
            simp only [Option.some.injEq] at h
            subst h
            exact .inl (ok_len he c t _ x n hb ha hat ht hn (.inr ⟨rfl, v, hx⟩))
          · cases h
        · cases h
      · cases h
    · rename_i hb
      split at h
      · rename_i a x st xt ha hat
        split at h
        · rename_i k _ _ _ _ hx
          split at h
          · rename_i el _ _ _ _ n ht hn
            split at h
            · rename_i v hv
              split at h
              · rename_i hc
                exact .inr (.inr ⟨by simp [stillOp, hb], rfl, ok_appendMake he c st xt el _ _ v k n a x σ' d hb ha hat hx rfl ht rfl hv hn hc.2.1 h⟩)
              · cases h
            · cases h
          · cases h
        · rename_i xv hx0 hx
          refine .inr (.inr ⟨by simp [stillOp, hb], rfl, ok_append he c st xt xv a x σ' d hb ha hat hx (fun k hk => by
            obtain ⟨desc, cells, bytes, zero, agg⟩ := xv
            simp only at hk
            subst hk
            exact hx0 _ _ _ _ _ rfl) h⟩)
        · cases h
      · cases h
    · rename_i hb
      split at h
      · rename_i x t ha hat
        split at h
        · rename_i el _ _ _ _ hx ht
          simp only [Option.some.injEq] at h
          subst h
          exact .inl (ok_cap he c t el _ x hb ha hat ht rfl hx)
        · cases h
      · cases h
    · rename_i hb
      split at h
      · rename_i x y ha
        split at h
        · rename_i a b k a' hxi hyi hx
          simp only [Option.some.injEq] at h
          subst h
          have : a = a' := by rw [hx] at hxi; simpa [intOf?] using hxi.symm
          subst this
          exact .inl (ok_minmax c x y k k a b false (by simpa using hb) ha hx hyi)
        · cases h
      · cases h
    · rename_i hb
      split at h
      · rename_i x y ha
        split at h
        · rename_i a b k a' hxi hyi hx
          simp only [Option.some.injEq] at h
          subst h
          have : a = a' := by rw [hx] at hxi; simpa [intOf?] using hxi.symm
          subst this
          exact .inl (ok_minmax c x y k k a b true (by simpa using hb) ha hx hyi)
        · cases h
      · cases h
    · cases h
    · rename_i f hb
      split at h
      · rename_i g caps hf
        exact .inr (.inr ⟨by simp [stillOp, hb], rfl, hcall c f g caps rfl hb hf h⟩)
      · cases h
    · cases h
  | _ => simp [opOf] at h

end Go.Proofs.YtckojpaklblnpaaDoor.Ev

/- What may be forgotten: slots, objects; and what stands beside an operation. -/
set_option linter.unusedVariables false
set_option linter.unusedSimpArgs false
namespace Go.Proofs.YtckojpaklblnpaaDoor.Ev
open Go Go.RowKit

/-- Handles that the tests let pass stand for the same elsewhere. -/
structure Over (w w' : World) (Φ Φ' : Bool → Nat → Prop) (ob ob' : List (Nat × O)) (ρ ρ' : Nat → List Value) (tv tp : Nat → List (Nat × Nat) → Bool) : Prop where
  mono : ∀ x b, Φ x b → Φ' x b
  ro : ∀ x b, Φ x b → w'.heap[b]? = w.heap[b]?
  vals : ∀ k p, tv k p = true → ∀ o vs, look ob k = some o → valsAt w o.cells (ρ k) p = some vs → ∃ o', look ob' k = some o' ∧ valsAt w' o'.cells (ρ' k) p = some vs
  addr : ∀ k p, tp k p = true → ∀ o g a, look ob k = some o → addrAt w o.cells (ρ k) p = some (g, a) → ∃ o', look ob' k = some o' ∧ addrAt w' o'.cells (ρ' k) p = some (g, a)

section
variable {w w' : World} {Φ Φ' : Bool → Nat → Prop} {ob ob' : List (Nat × O)} {ρ ρ' : Nat → List Value} {tv tp : Nat → List (Nat × Nat) → Bool}

mutual
theorem Over.slot (C : Over w w' Φ Φ' ob ob' ρ ρ' tv tp) : ∀ (s : S) (v : Value), S.ok tv tp s = true → SlotR w Φ ob ρ s v → SlotR w' Φ' ob' ρ' s v
  | .dead, v, _, h => by simp only [SlotR]
  | .undef, v, _, h => by simpa only [SlotR] using h
  | .nils, v, _, h => by simpa only [SlotR] using h
  | .lit x, v, _, h => by simpa only [SlotR] using h
  | .val b t, v, _, h => by
    simp only [SlotR] at h ⊢
    exact IsT.mono (C.mono b) (C.ro b) t v h
  | .agg b ts, v, _, h => by
    simp only [SlotR] at h ⊢
    obtain ⟨vs, h1, h2⟩ := h
    exact ⟨vs, h1, IsTs.mono (C.mono b) (C.ro b) ts vs h2⟩
  | .pt b ts, v, _, h => by
    simp only [SlotR] at h ⊢
    obtain ⟨g, o, cur, e, fz, h1, h2, h3, h4⟩ := h
    exact ⟨g, o, cur, e, fz, h1, C.mono b g h2, (C.ro b g h2).trans h3, IsTs.mono (C.mono b) (C.ro b) ts _ h4⟩
  | .vw k p off n ag, v, hk, h => by
    simp only [S.ok] at hk
    simp only [SlotR] at h ⊢
    obtain ⟨o, vs, h1, h2, h3, h4⟩ := h
    obtain ⟨o', e1, e2⟩ := C.vals k p hk o vs h1 h2
    exact ⟨o', vs, e1, e2, h3, h4⟩
  | .sub k p off sz lo hi, v, hk, h => by
    simp only [S.ok] at hk
    simp only [SlotR] at h ⊢
    obtain ⟨o, vs, a, len, cap, h1, h2, h3⟩ := h
    obtain ⟨o', e1, e2⟩ := C.vals k p hk o vs h1 h2
    exact ⟨o', vs, a, len, cap, e1, e2, h3⟩
  | .ptr k p off, v, hk, h => by
    simp only [S.ok] at hk
    simp only [SlotR] at h ⊢
    obtain ⟨o, g, a, h1, h2, h3⟩ := h
    obtain ⟨o', e1, e2⟩ := C.addr k p hk o g a h1 h2
    exact ⟨o', g, a, e1, e2, h3⟩
  | .fn g caps, v, hk, h => by
    simp only [S.ok] at hk
    simp only [SlotR] at h ⊢
    obtain ⟨vs, h1, h2⟩ := h
    exact ⟨vs, h1, C.slots caps vs hk h2⟩
  | .tup xs, v, hk, h => by
    simp only [S.ok] at hk
    simp only [SlotR] at h ⊢
    obtain ⟨vs, h1, h2⟩ := h
    exact ⟨vs, h1, C.slots xs vs hk h2⟩
theorem Over.slots (C : Over w w' Φ Φ' ob ob' ρ ρ' tv tp) : ∀ (ss : List S) (vs : List Value), S.oks tv tp ss = true → SlotRs w Φ ob ρ ss vs → SlotRs w' Φ' ob' ρ' ss vs
  | [], vs, _, h => by simpa only [SlotRs] using h
  | s :: ss, vs, hk, h => by
    simp only [S.oks, Bool.and_eq_true] at hk
    simp only [SlotRs] at h ⊢
    obtain ⟨v, vs', h1, h2, h3⟩ := h
    exact ⟨v, vs', h1, C.slot s v hk.1 h2, C.slots ss vs' hk.2 h3⟩
end

theorem Over.sift (C : Over w w' Φ Φ' ob ob' ρ ρ' tv tp) {s : S} {v : Value} (h : SlotR w Φ ob ρ s v) : SlotR w' Φ' ob' ρ' (Ev.sift tv tp s) v := by
  unfold Ev.sift
  split
  · rename_i hk
    exact C.slot s v hk h
  · simp only [SlotR]

end

/-! ### the objects of some keys -/

theorem look_of_mem {ob : List (Nat × O)} {k : Nat} (h : k ∈ ob.map (·.1)) : ∃ o, look ob k = some o := by
  induction ob with
  | nil => simp at h
  | cons x r ih =>
    obtain ⟨i, y⟩ := x
    simp only [look]
    by_cases hik : i = k
    · exact ⟨y, by rw [if_pos hik]⟩
    · simp only [List.map_cons, List.mem_cons] at h
      rw [if_neg hik]
      exact ih (h.resolve_left (fun e => hik e.symm))

theorem look_cons {ob : List (Nat × O)} {i k : Nat} {o : O} : look ((i, o) :: ob) k = if i = k then some o else look ob k := rfl

/-- A table all of whose objects stand in another one. -/
theorem IsOb.submap {w : World} {Φ : Bool → Nat → Prop} {ρ : Nat → List Value} : ∀ {ob' ob : List (Nat × O)} {B : List Nat}, IsOb w Φ ρ ob B → (ob.map (·.1)).Nodup → B.Nodup → (ob'.map (·.1)).Nodup → (∀ k o, look ob' k = some o → look ob k = some o) →
    ∃ B', IsOb w Φ ρ ob' B' ∧ B'.Nodup ∧ ∀ b ∈ B', b ∈ B
  | [], ob, B, _, _, _, _, _ => ⟨[], rfl, List.nodup_nil, by simp⟩
  | (k, o) :: r, ob, B, h, hk, hB, hk', hl => by
    simp only [List.map_cons, List.nodup_cons] at hk'
    have h1 := hl k o (by simp [look])
    obtain ⟨X, Bk, Y, rfl, e2, _, e4, _⟩ := IsOb.focus h hk h1
    have hnd := hB
    simp only [List.nodup_append, List.mem_append, ne_eq] at hnd
    obtain ⟨n1, ⟨n2, n3, n4⟩, n5⟩ := hnd
    have hXY : (X ++ Y).Nodup := by
      simp only [List.nodup_append, ne_eq]
      exact ⟨n1, n3, fun a ha b hb => n5 a ha b (.inr hb)⟩
    obtain ⟨B', r1, r2, r3⟩ := IsOb.submap (ob' := r) e4 (hk.sublist (drop_sub _ _)) hXY hk'.2 (fun j oj hj => by
      have hjk : j ≠ k := by rintro rfl; exact hk'.1 (look_mem hj)
      rw [look_drop hk, if_neg hjk]
      refine hl j oj ?_
      rw [look_cons, if_neg (fun e => hjk e.symm)]
      exact hj)
    refine ⟨Bk ++ B', ⟨Bk, B', rfl, e2, r1⟩, ?_, fun b hb => ?_⟩
    · simp only [List.nodup_append, ne_eq]
      refine ⟨n2, r2, fun a ha b hb e => ?_⟩
      subst e
      rcases List.mem_append.mp (r3 a hb) with hx | hy
      · exact n5 a hx a (.inl ha) rfl
      · exact n4 a ha a hy rfl
    · rcases List.mem_append.mp hb with hb | hb
      · simp [hb]
      · rcases List.mem_append.mp (r3 b hb) with hx | hx <;> simp [hx]

/-- Two tables apart in one. -/
theorem IsOb.split {w : World} {Φ : Bool → Nat → Prop} {ρ : Nat → List Value} : ∀ {ob1 ob2 ob : List (Nat × O)} {B : List Nat}, IsOb w Φ ρ ob B → (ob.map (·.1)).Nodup → B.Nodup → (ob1.map (·.1)).Nodup → (ob2.map (·.1)).Nodup →
    (∀ k o, look ob1 k = some o → look ob k = some o) → (∀ k o, look ob2 k = some o → look ob k = some o) → (∀ k ∈ ob1.map (·.1), k ∉ ob2.map (·.1)) →
    ∃ B1 B2, IsOb w Φ ρ ob1 B1 ∧ IsOb w Φ ρ ob2 B2 ∧ (B1 ++ B2).Nodup ∧ ∀ b ∈ B1 ++ B2, b ∈ B
  | [], ob2, ob, B, h, hk, hB, _, hk2, _, hl2, _ => by
    obtain ⟨B', r1, r2, r3⟩ := h.submap hk hB hk2 hl2
    exact ⟨[], B', rfl, r1, by simpa using r2, by simpa using r3⟩
  | (k, o) :: r, ob2, ob, B, h, hk, hB, hk1, hk2, hl1, hl2, hd => by
    simp only [List.map_cons, List.nodup_cons] at hk1
    have h1 := hl1 k o (by simp [look])
    obtain ⟨X, Bk, Y, rfl, e2, _, e4, _⟩ := IsOb.focus h hk h1
    have hnd := hB
    simp only [List.nodup_append, List.mem_append, ne_eq] at hnd
    obtain ⟨n1, ⟨n2, n3, n4⟩, n5⟩ := hnd
    have hXY : (X ++ Y).Nodup := by
      simp only [List.nodup_append, ne_eq]
      exact ⟨n1, n3, fun a ha b hb => n5 a ha b (.inr hb)⟩
    have hk2k : k ∉ ob2.map (·.1) := hd k (by simp)
    obtain ⟨B1, B2, r1, r2, r3, r4⟩ := IsOb.split (ob1 := r) (ob2 := ob2) e4 (hk.sublist (drop_sub _ _)) hXY hk1.2 hk2 (fun j oj hj => by
      have hjk : j ≠ k := by rintro rfl; exact hk1.1 (look_mem hj)
      rw [look_drop hk, if_neg hjk]
      refine hl1 j oj ?_
      rw [look_cons, if_neg (fun e => hjk e.symm)]
      exact hj) (fun j oj hj => by
      have hjk : j ≠ k := by rintro rfl; exact hk2k (look_mem hj)
      rw [look_drop hk, if_neg hjk]
      exact hl2 j oj hj) (fun j hj => hd j (by simp at hj ⊢; exact .inr hj))
    have hap : ∀ a ∈ Bk, a ∉ B1 ++ B2 := fun a ha hb => by
      rcases List.mem_append.mp (r4 a hb) with hx | hy
      · exact n5 a hx a (.inl ha) rfl
      · exact n4 a ha a hy rfl
    refine ⟨Bk ++ B1, B2, ⟨Bk, B1, rfl, e2, r1⟩, r2, ?_, fun b hb => ?_⟩
    · rw [List.append_assoc, List.nodup_append]
      exact ⟨n2, r3, fun a ha b hb e => hap a ha (by rw [e]; exact hb)⟩
    · rw [List.append_assoc] at hb
      rcases List.mem_append.mp hb with hb | hb
      · simp [hb]
      · rcases List.mem_append.mp (r4 b hb) with hx | hx <;> simp [hx]

theorem IsOb.append {w : World} {Φ : Bool → Nat → Prop} {ρ : Nat → List Value} : ∀ {ob1 ob2 : List (Nat × O)} {B1 B2 : List Nat}, IsOb w Φ ρ ob1 B1 → IsOb w Φ ρ ob2 B2 → IsOb w Φ ρ (ob1 ++ ob2) (B1 ++ B2)
  | [], _, _, _, h, k => by rw [show _ = [] from h]; exact k
  | (i, o) :: r, _, _, _, h, k => by
    obtain ⟨C1, C2, rfl, h2, h3⟩ := h
    exact ⟨C1, C2 ++ _, by rw [List.append_assoc], h2, h3.append k⟩

theorem look_append {ob1 ob2 : List (Nat × O)} {k : Nat} : look (ob1 ++ ob2) k = match look ob1 k with | some o => some o | none => look ob2 k := by
  induction ob1 with
  | nil => rfl
  | cons x r ih =>
    obtain ⟨i, y⟩ := x
    simp only [List.cons_append, look]
    split
    · rfl
    · exact ih

theorem look_filter {ob : List (Nat × O)} {q : Nat → Bool} {k : Nat} : look (ob.filter fun x => q x.1) k = if q k then look ob k else none := by
  induction ob with
  | nil => simp [look]
  | cons x r ih =>
    obtain ⟨i, y⟩ := x
    simp only [List.filter_cons]
    by_cases hik : i = k
    · subst hik
      by_cases hq : q i = true
      · simp [hq, look]
      · simp [hq, ih]
    · by_cases hq : q i = true
      · simp only [hq, if_true, look]
        rw [if_neg hik, if_neg hik, ih]
      · simp only [hq, Bool.false_eq_true, if_false, look]
        rw [if_neg hik, ih]

theorem look_dropAll {ob : List (Nat × O)} {ks : List Nat} {k : Nat} : look (dropAll ks ob) k = if ks.contains k then none else look ob k := by
  unfold dropAll
  rw [look_filter (q := fun k => !ks.contains k)]
  cases ks.contains k <;> rfl

theorem dropAll_nodup {ob : List (Nat × O)} {ks : List Nat} (h : (ob.map (·.1)).Nodup) : ((dropAll ks ob).map (·.1)).Nodup :=
  h.sublist (List.Sublist.map _ List.filter_sublist)

theorem pick_look : ∀ {ks : List Nat} {ob : List (Nat × O)} {k : Nat}, (ob.map (·.1)).Nodup → look (pick ob ks) k = if ks.contains k then look ob k else none
  | [], ob, k, _ => by simp [pick, look]
  | i :: r, ob, k, h => by
    simp only [pick]
    cases hl : look ob i with
    | none =>
      simp only
      rw [pick_look h]
      by_cases hki : k = i
      · subst hki; simp [hl]
      · simp [hki]
    | some o =>
      simp only [look_cons]
      by_cases hki : i = k
      · subst hki; simp [hl]
      · have hki' : ¬k = i := fun e => hki e.symm
        rw [if_neg hki, pick_look (h.sublist (drop_sub _ _)), look_drop h, if_neg hki']
        simp only [List.contains_cons, beq_iff_eq, hki', Bool.or_eq_true, false_or]

theorem pick_nodup : ∀ {ks : List Nat} {ob : List (Nat × O)}, (ob.map (·.1)).Nodup → ((pick ob ks).map (·.1)).Nodup
  | [], ob, _ => by simp [pick]
  | i :: r, ob, h => by
    simp only [pick]
    cases hl : look ob i with
    | none => exact pick_nodup h
    | some o =>
      simp only [List.map_cons, List.nodup_cons]
      refine ⟨fun hm => ?_, pick_nodup (h.sublist (drop_sub _ _))⟩
      obtain ⟨o', ho'⟩ := look_of_mem hm
      rw [pick_look (h.sublist (drop_sub _ _)), look_drop h] at ho'
      simp at ho'

theorem pick_sub {ks : List Nat} {ob : List (Nat × O)} (h : (ob.map (·.1)).Nodup) {k : Nat} {o : O} (hl : look (pick ob ks) k = some o) : look ob k = some o := by
  rw [pick_look h] at hl
  split at hl
  · exact hl
  · cases hl

/-! ### forgetting -/

theorem maskSl_slots {w w' : World} {Φ Φ' : Bool → Nat → Prop} {ob ob' : List (Nat × O)} {ρ ρ' : Nat → List Value} (C : Over w w' Φ Φ' ob ob' ρ ρ' (fun k _ => (look ob' k).isSome) (fun k _ => (look ob' k).isSome)) (ss : List Nat) :
    ∀ (l : List S) (vs : List Value) (i : Nat), SlotRs w Φ ob ρ l vs → SlotRs w' Φ' ob' ρ' (maskSl ob' ss i l) vs
  | [], vs, i, h => by simpa only [maskSl, SlotRs] using h
  | s :: r, vs, i, h => by
    simp only [SlotRs] at h
    obtain ⟨v, vs', rfl, h2, h3⟩ := h
    simp only [maskSl, SlotRs]
    refine ⟨v, vs', rfl, ?_, maskSl_slots C ss r vs' (i + 1) h3⟩
    split
    · exact C.sift h2
    · simp only [SlotR]

theorem over_sub {w : World} {Φ : Bool → Nat → Prop} {ob ob' : List (Nat × O)} {ρ : Nat → List Value} (hl : ∀ k o, look ob' k = some o → look ob k = some o) :
    Over w w Φ Φ ob ob' ρ ρ (fun k _ => (look ob' k).isSome) (fun k _ => (look ob' k).isSome) where
  mono _ _ h := h
  ro _ _ _ := rfl
  vals k p hk o vs h1 h2 := by
    obtain ⟨o', ho'⟩ := Option.isSome_iff_exists.mp hk
    have := hl k o' ho'
    rw [h1] at this
    cases this
    exact ⟨o, ho', h2⟩
  addr k p hk o g a h1 h2 := by
    obtain ⟨o', ho'⟩ := Option.isSome_iff_exists.mp hk
    have := hl k o' ho'
    rw [h1] at this
    cases this
    exact ⟨o, ho', h2⟩

/-- Some slots, some objects. -/
theorem Rel.only {w : World} {Φ : Bool → Nat → Prop} {σ : F} {tm : List Value} {ρ : Nat → List Value} {B : List Nat} (h : Rel w Φ σ tm ρ B) (ss ks : List Nat) : ∃ B', Rel w Φ (σ.only ss ks) tm ρ B' ∧ ∀ b ∈ B', b ∈ B := by
  obtain ⟨B', r1, r2, r3⟩ := h.obs.submap h.keys h.nd (pick_nodup (ks := ks) h.keys) (fun k o hl => pick_sub h.keys hl)
  exact ⟨B', ⟨r1, r2, pick_nodup h.keys, fun b hb => h.disj b (r3 b hb), fun b hb => h.lt b (r3 b hb), h.ltΦ, h.sub, maskSl_slots (over_sub fun k o hl => pick_sub h.keys hl) ss _ _ 0 h.slots⟩, r3⟩

theorem Rel.forget {w : World} {Φ : Bool → Nat → Prop} {σ : F} {tm : List Value} {ρ : Nat → List Value} {B : List Nat} (h : Rel w Φ σ tm ρ B) (m : Option (List Nat)) : ∃ B', Rel w Φ (σ.keep m) tm ρ B' ∧ ∀ b ∈ B', b ∈ B := by
  unfold F.keep
  split
  · exact ⟨B, h, fun _ hb => hb⟩
  · exact h.only _ _

/-- The same table in another order. -/
theorem Rel.perm {w : World} {Φ : Bool → Nat → Prop} {σ : F} {tm : List Value} {ρ : Nat → List Value} {B : List Nat} (h : Rel w Φ σ tm ρ B) {ob : List (Nat × O)} (hk : (ob.map (·.1)).Nodup) (hl : ∀ k, Ev.look ob k = Ev.look σ.ob k) : ∃ B', Rel w Φ { sl := σ.sl, ob } tm ρ B' ∧ ∀ b ∈ B', b ∈ B := by
  obtain ⟨B', r1, r2, r3⟩ := h.obs.submap h.keys h.nd hk (fun k o hh => by rw [← hl]; exact hh)
  refine ⟨B', ⟨r1, r2, hk, fun b hb => h.disj b (r3 b hb), fun b hb => h.lt b (r3 b hb), h.ltΦ, h.sub, ?_⟩, r3⟩
  have C := carry_same (w' := w) (Φ' := Φ) (ρ' := ρ) (ob' := ob) h.obs h.keys (Keeps.refl _ _ _) (fun k o hh => ⟨by rw [hl]; exact hh, rfl⟩)
  exact C.slots σ.sl tm h.slots

theorem Next.of_sub {w w' : World} {Φ Φ' : Bool → Nat → Prop} {ρ ρ' : Nat → List Value} {B B0 B' : List Nat} (h : Next w Φ ρ B0 w' Φ' ρ' B') (hs : ∀ b ∈ B0, b ∈ B) : Next w Φ ρ B w' Φ' ρ' B' where
  os := h.os
  tape := h.tape
  output := h.output
  size := h.size
  block b hb hn := h.block b hb (fun hb0 => hn (hs b hb0))
  own b hb := (h.own b hb).imp (hs b) id
  mono := h.mono
  fresh x b hb := (h.fresh x b hb).imp id (Or.imp (hs b) id)
  lent := h.lent
  imp := h.imp

theorem Next.to_sub {w w' : World} {Φ Φ' : Bool → Nat → Prop} {ρ ρ' : Nat → List Value} {B B' B1 : List Nat} (h : Next w Φ ρ B w' Φ' ρ' B') (hs : ∀ b ∈ B1, b ∈ B') : Next w Φ ρ B w' Φ' ρ' B1 where
  os := h.os
  tape := h.tape
  output := h.output
  size := h.size
  block := h.block
  own b hb := h.own b (hs b hb)
  mono := h.mono
  fresh := h.fresh
  lent := h.lent
  imp := h.imp

end Go.Proofs.YtckojpaklblnpaaDoor.Ev

/- Operations that put a slot hang on what they look at alone. -/
set_option linter.unusedVariables false
set_option linter.unusedSimpArgs false
namespace Go.Proofs.YtckojpaklblnpaaDoor.Ev
open Go Go.RowKit

section
variable {e : Env} {run : FuncId → List S → List O → Option (V × List (Option O))} {σ τ : F}

theorem cells_congr {k : Nat} (h : look τ.ob k = look σ.ob k) (p : List (Nat × Nat)) (off n : Nat) : τ.cells k p off n = σ.cells k p off n := by
  unfold F.cells
  rw [h]

theorem freeOf_congr {s : S} (h : ∀ k ∈ s.keys, look τ.ob k = look σ.ob k) : τ.freeOf s = σ.freeOf s := by
  cases s with
  | vw k p off n ag => simp only [F.freeOf, cells_congr (h k (by simp [S.keys]))]
  | sub k p off sz lo hi => simp only [F.freeOf, cells_congr (h k (by simp [S.keys]))]
  | _ => rfl

theorem free1_congr {s : S} (h : ∀ k ∈ s.keys, look τ.ob k = look σ.ob k) : τ.free1 s = σ.free1 s := by
  have hf := freeOf_congr h
  cases s with
  | vw k p off n ag => cases ag <;> simp only [F.free1, hf]
  | _ => simp only [F.free1, hf]

theorem lenS_congr {s : S} (h : ∀ k ∈ s.keys, look τ.ob k = look σ.ob k) : lenS τ s = lenS σ s := by
  cases s with
  | vw k p off n ag =>
    have hc := cells_congr (h k (by simp [S.keys])) p off 1
    rcases n with _ | _ | n <;> cases ag <;> first | rfl | simp only [lenS, hc]
  | lit v => cases v <;> rfl
  | val b t => cases t <;> rfl
  | _ => rfl

theorem sliceIt_congr {t : TypeId} {s : S} {l h' : Option Int} (h : ∀ k ∈ s.keys, look τ.ob k = look σ.ob k) : sliceIt e τ t s l h' = sliceIt e σ t s l h' := by
  have hl := lenS_congr h
  unfold sliceIt
  rw [hl]
  split
  · rename_i v n hv hn
    simp only
    split
    · obtain ⟨desc, a1, a2, a3, a4⟩ := v
      cases s with
      | vw k p off n ag =>
        have hc := cells_congr (h k (by simp [S.keys])) p off 1
        cases desc <;> first
          | rfl
          | (rcases n with _ | _ | n <;> cases ag <;> first | rfl | simp only [hc])
      | lit v => cases desc <;> cases v <;> rfl
      | val b t => cases desc <;> cases t <;> rfl
      | _ => cases desc <;> rfl
    · rfl
  · rfl

theorem addrOf_congr {t : TypeId} {s i : S} (h : ∀ k ∈ s.keys, look τ.ob k = look σ.ob k) : addrOf e τ t s i = addrOf e σ t s i := by
  unfold addrOf
  split
  · rename_i m v hm hv
    split
    · rfl
    · obtain ⟨desc, a1, a2, a3, a4⟩ := v
      cases s with
      | vw k p off n ag =>
        have hc := cells_congr (h k (by simp [S.keys])) p off 1
        cases desc <;> first
          | rfl
          | (rcases n with _ | _ | n <;> cases ag <;> first | rfl | simp only [hc])
      | sub k p off sz lo hi =>
        have hc := cells_congr (h k (by simp [S.keys])) p off 1
        cases desc <;> first
          | rfl
          | simp only [hc]
      | val b t => cases desc <;> cases t <;> rfl
      | _ => cases desc <;> rfl
  · rfl

theorem still_local (o : Oper) {σ' : F} (hs : slotOp e o.op = true) (hrd : ∀ x ∈ o.op.operands, τ.rd x = σ.rd x) (hob : ∀ k ∈ rkOf σ o.op, look τ.ob k = look σ.ob k) (h : opOf e run σ o = some σ') :
    ∃ s, σ' = σ.put o.dst s ∧ opOf e run τ o = some (τ.put o.dst s) := by
  obtain ⟨d, op, ty, pos, after, gd⟩ := o
  simp only at hs hrd hob ⊢
  cases op with
  | move x =>
    have e1 := hrd x (by simp [Op.operands])
    simp only [opOf] at h ⊢
    rw [e1]
    split at h <;> (simp only [Option.some.injEq] at h; exact ⟨_, h.symm, rfl⟩)
  | pick c a b =>
    have e1 := hrd c (by simp [Op.operands])
    have e2 := hrd a (by simp [Op.operands])
    have e3 := hrd b (by simp [Op.operands])
    simp only [opOf] at h ⊢
    rw [e1, e2, e3]
    split at h
    · simp only [Option.some.injEq] at h
      exact ⟨_, h.symm, rfl⟩
    · cases h
  | load t a =>
    have e1 := hrd a (by simp [Op.operands])
    simp only [rkOf] at hob
    simp only [opOf] at h ⊢
    rw [e1]
    split at h
    · split at h
      · rename_i k p off ha
        rw [ha] at hob
        rw [cells_congr (hob k (by simp [S.keys]))]
        split at h
        · split at h
          · rename_i hh
            rw [if_pos hh]
            simp only [Option.some.injEq] at h
            exact ⟨_, h.symm, rfl⟩
          · rename_i hh
            rw [if_neg hh]
            simp only [Option.some.injEq] at h
            exact ⟨_, h.symm, rfl⟩
        · cases h
      · split at h
        · rename_i hh
          rw [if_pos hh]
          simp only [Option.some.injEq] at h
          exact ⟨_, h.symm, rfl⟩
        · cases h
      · cases h
    · cases h
  | nilCheck x =>
    have e1 := hrd x (by simp [Op.operands])
    simp only [opOf] at h ⊢
    rw [e1]
    split at h
    all_goals first
      | (simp only [Option.some.injEq] at h; exact ⟨_, h.symm, rfl⟩)
      | cases h
  | binOp op t x y t2 =>
    have e1 := hrd x (by simp [Op.operands])
    have e2 := hrd y (by simp [Op.operands])
    simp only [opOf] at h ⊢
    rw [e1, e2]
    split at h
    · simp only [Option.some.injEq] at h
      exact ⟨_, h.symm, rfl⟩
    · cases h
  | unOp op t x =>
    have e1 := hrd x (by simp [Op.operands])
    simp only [opOf] at h ⊢
    rw [e1]
    split at h
    · simp only [Option.some.injEq] at h
      exact ⟨_, h.symm, rfl⟩
    · cases h
  | convert src dst x =>
    have e1 := hrd x (by simp [Op.operands])
    simp only [rkOf] at hob
    simp only [opOf] at h ⊢
    rw [e1]
    split at h
    · rename_i a b ha hb
      obtain ⟨ad, a1, a2, a3, a4⟩ := a
      obtain ⟨bd, b1, b2, b3, b4⟩ := b
      simp only [ha, hb] at h ⊢
      have hf := free1_congr hob
      generalize σ.rd x = s at h hf ⊢
      split at h
      · simp only [Option.some.injEq] at h
        exact ⟨_, h.symm, rfl⟩
      · simp only [Option.some.injEq] at h
        exact ⟨_, h.symm, by cases ad <;> rfl⟩
      · simp [slotOp, hb] at hs
      · split at h
        · rename_i hfr hel
          split at h
          · rename_i hbs
            simp only [Option.some.injEq] at h
            refine ⟨_, h.symm, ?_⟩
            have : ∀ v, s ≠ .lit v := by
              rintro v rfl
              simp [F.free1, F.freeOf] at hfr
            cases s <;> first | exact absurd rfl (this _) | simp only [hf, hfr, hel, hbs]
          · cases h
        · cases h
      · cases h
    · cases h
  | makeFunc f first captured =>
    cases f with
    | func g =>
      simp only [opOf] at h ⊢
      have e1 : captured.toList.map τ.rd = captured.toList.map σ.rd := List.map_congr_left fun x hx => hrd x (by
        simp only [Op.operands, Array.mem_append]
        exact .inr (by simpa using hx))
      rw [e1]
      split at h
      · rename_i hh
        rw [if_pos hh]
        simp only [Option.some.injEq] at h
        exact ⟨_, h.symm, rfl⟩
      · cases h
    | _ => simp [opOf] at h
  | slice t x lo hi mx =>
    cases mx with
    | some m => simp [opOf] at h
    | none =>
      have e1 := hrd x (by simp [Op.operands])
      have e2 : optInt τ lo = optInt σ lo := by
        cases lo with
        | none => rfl
        | some y => simp only [optInt]; rw [hrd y (by simp [Op.operands])]
      have e3 : optInt τ hi = optInt σ hi := by
        cases hi with
        | none => rfl
        | some y => simp only [optInt]; rw [hrd y (by simp [Op.operands])]
      simp only [rkOf] at hob
      simp only [opOf] at h ⊢
      rw [e1, e2, e3]
      split at h
      · rw [sliceIt_congr hob]
        split at h
        · simp only [Option.some.injEq] at h
          exact ⟨_, h.symm, rfl⟩
        · cases h
      · cases h
  | fieldAddr t x f =>
    have e1 := hrd x (by simp [Op.operands])
    simp only [opOf] at h ⊢
    rw [e1]
    split at h
    · split at h
      · split at h
        · rename_i hh
          rw [if_pos hh]
          split at h
          · simp only [Option.some.injEq] at h
            exact ⟨_, h.symm, rfl⟩
          · simp only [Option.some.injEq] at h
            exact ⟨_, h.symm, rfl⟩
          · cases h
        · cases h
      · cases h
    · cases h
  | field t x f =>
    have e1 := hrd x (by simp [Op.operands])
    simp only [rkOf] at hob
    simp only [opOf] at h ⊢
    rw [e1]
    split at h
    · split at h
      · split at h
        · split at h
          · split at h
            · rename_i hh
              rw [if_pos hh]
              simp only [Option.some.injEq] at h
              exact ⟨_, h.symm, rfl⟩
            · cases h
          · rename_i k p off n hx
            rw [hx] at hob
            rw [cells_congr (hob k (by simp [S.keys]))]
            split at h
            · rename_i hh
              rw [if_pos hh]
              split at h
              · simp only [Option.some.injEq] at h
                exact ⟨_, h.symm, rfl⟩
              · cases h
            · cases h
          · cases h
        · cases h
      · cases h
    · cases h
  | indexAddr t x i =>
    have e1 := hrd x (by simp [Op.operands])
    have e2 := hrd i (by simp [Op.operands])
    simp only [rkOf] at hob
    simp only [opOf] at h ⊢
    rw [e1, e2, addrOf_congr hob]
    split at h
    · simp only [Option.some.injEq] at h
      exact ⟨_, h.symm, rfl⟩
    · cases h
  | index t x i =>
    have e1 := hrd x (by simp [Op.operands])
    have e2 := hrd i (by simp [Op.operands])
    simp only [opOf] at h ⊢
    rw [e1, e2]
    split at h
    · split at h
      · rename_i hh
        rw [if_pos hh]
        split at h
        · simp only [Option.some.injEq] at h
          exact ⟨_, h.symm, rfl⟩
        · cases h
      · cases h
    · split at h
      · split at h
        · rename_i hh
          rw [if_pos hh]
          simp only [Option.some.injEq] at h
          exact ⟨_, h.symm, rfl⟩
        · cases h
      · cases h
    · cases h
  | extract x i =>
    have e1 := hrd x (by simp [Op.operands])
    simp only [opOf] at h ⊢
    rw [e1]
    split at h
    · split at h
      · simp only [Option.some.injEq] at h
        exact ⟨_, h.symm, rfl⟩
      · cases h
    · cases h
  | call c =>
    have key : ∀ x ∈ c.args, τ.rd x = σ.rd x := fun x hx => hrd x (by
      simp only [Op.operands, Call.operands]
      split <;> simp [hx])
    simp only [rkOf] at hob
    simp only [opOf] at h ⊢
    split at h
    · rename_i hb
      split at h
      · rename_i x t ha hat
        have ex := key x (by have : x ∈ c.args.toList := by rw [ha]; simp
                             simpa using this)
        have hk : ∀ k ∈ (σ.rd x).keys, look τ.ob k = look σ.ob k := fun k hk => hob k (by rw [ha]; simp [S.keyss, hk])
        simp only [ex, lenS_congr hk]
        split at h
        · split at h
          · cases h
          · simp only [Option.some.injEq] at h
            exact ⟨_, h.symm, rfl⟩
        · split at h
          · simp only [Option.some.injEq] at h
            exact ⟨_, h.symm, rfl⟩
          · cases h
        · cases h
      · cases h
    · rename_i hb
      simp [slotOp, hb] at hs
    · rename_i hb
      split at h
      · rename_i x t ha hat
        have ex := key x (by have : x ∈ c.args.toList := by rw [ha]; simp
                             simpa using this)
        simp only [ex]
        split at h
        · simp only [Option.some.injEq] at h
          exact ⟨_, h.symm, rfl⟩
        · cases h
      · cases h
    · rename_i hb
      split at h
      · rename_i x y ha
        have ex := key x (by have : x ∈ c.args.toList := by rw [ha]; simp
                             simpa using this)
        have ey := key y (by have : y ∈ c.args.toList := by rw [ha]; simp
                             simpa using this)
        simp only [ex, ey]
        split at h
        · simp only [Option.some.injEq] at h
          exact ⟨_, h.symm, rfl⟩
        · cases h
      · cases h
    · rename_i hb
      split at h
      · rename_i x y ha
        have ex := key x (by have : x ∈ c.args.toList := by rw [ha]; simp
                             simpa using this)
        have ey := key y (by have : y ∈ c.args.toList := by rw [ha]; simp
                             simpa using this)
        simp only [ex, ey]
        split at h
        · simp only [Option.some.injEq] at h
          exact ⟨_, h.symm, rfl⟩
        · cases h
      · cases h
    · cases h
    · rename_i f hb
      simp [slotOp, hb] at hs
    · cases h
  | _ => simp [slotOp] at hs

end

end Go.Proofs.YtckojpaklblnpaaDoor.Ev

/- Operations of a region that may come up in either order: the states that they lead to. -/
set_option linter.unusedVariables false
set_option linter.unusedSimpArgs false
namespace Go.Proofs.YtckojpaklblnpaaDoor.Ev
open Go Go.RowKit

/-- The same slots; the same objects, in whatever order. -/
structure Eqv (σ τ : F) : Prop where
  sl : σ.sl = τ.sl
  ob : ∀ k, look σ.ob k = look τ.ob k
  nd : (σ.ob.map (·.1)).Nodup
  nd' : (τ.ob.map (·.1)).Nodup

theorem Eqv.refl {σ : F} (h : (σ.ob.map (·.1)).Nodup) : Eqv σ σ := ⟨rfl, fun _ => rfl, h, h⟩
theorem Eqv.symm {σ τ : F} (h : Eqv σ τ) : Eqv τ σ := ⟨h.sl.symm, fun k => (h.ob k).symm, h.nd', h.nd⟩
theorem Eqv.trans {σ τ υ : F} (h : Eqv σ τ) (k : Eqv τ υ) : Eqv σ υ := ⟨h.sl.trans k.sl, fun j => (h.ob j).trans (k.ob j), h.nd, k.nd'⟩

theorem pick_congr : ∀ {ks : List Nat} {ob ob' : List (Nat × O)}, (ob.map (·.1)).Nodup → (ob'.map (·.1)).Nodup → (∀ k ∈ ks, look ob k = look ob' k) → pick ob ks = pick ob' ks
  | [], _, _, _, _, _ => rfl
  | k :: r, ob, ob', h, h', hl => by
    have e := hl k (by simp)
    simp only [pick, e]
    cases hk : look ob' k with
    | none => exact pick_congr h h' fun j hj => hl j (by simp [hj])
    | some o =>
      simp only
      rw [pick_congr (ob := drop_ ob k) (ob' := drop_ ob' k) (h.sublist (drop_sub _ _)) (h'.sublist (drop_sub _ _)) (fun j hj => by
        rw [look_drop h, look_drop h', hl j (by simp [hj])])]

theorem maskSl_congr {ob : List (Nat × O)} {ss : List Nat} : ∀ {l l' : List S} {i : Nat}, l.length = l'.length → (∀ t ∈ ss, i ≤ t → l.getD (t - i) .dead = l'.getD (t - i) .dead) → maskSl ob ss i l = maskSl ob ss i l'
  | [], [], _, _, _ => rfl
  | s :: r, s' :: r', i, hlen, h => by
    simp only [maskSl]
    rw [maskSl_congr (l := r) (l' := r') (i := i + 1) (by simpa using hlen) (fun t ht hi => by
      have := h t ht (by omega)
      have e : t - i = (t - (i + 1)) + 1 := by omega
      rw [e] at this
      simpa using this)]
    by_cases hc : ss.contains i = true
    · have := h i (by simpa using hc) (Nat.le_refl _)
      simp only [Nat.sub_self, List.getD_cons_zero] at this
      rw [this]
    · rw [if_neg hc, if_neg hc]

theorem only_congr {σ τ : F} {ss ks : List Nat} (h : (σ.ob.map (·.1)).Nodup) (h' : (τ.ob.map (·.1)).Nodup) (hlen : σ.sl.length = τ.sl.length) (hs : ∀ t ∈ ss, σ.at_ t = τ.at_ t) (hk : ∀ k ∈ ks, look σ.ob k = look τ.ob k) : σ.only ss ks = τ.only ss ks := by
  unfold F.only
  rw [pick_congr h h' hk, maskSl_congr (i := 0) hlen (fun t ht _ => by simpa [F.at_] using hs t ht)]

theorem Eqv.only {σ τ : F} (h : Eqv σ τ) (ss ks : List Nat) : σ.only ss ks = τ.only ss ks :=
  only_congr h.nd h.nd' (by rw [h.sl]) (fun t _ => by unfold F.at_; rw [h.sl]) (fun k _ => h.ob k)

/-- What an operation asks of the state that it comes up in. -/
def Res.pre (R : Res) (σ : F) : Prop :=
  match R with
  | .slot rs cs rk os _ _ => rs.map σ.at_ = cs ∧ rk.map (look σ.ob) = os
  | .eff rs ks α _ β => σ.only rs ks = α ∧ (∀ k ∈ β.ob.map (·.1), k ∉ ks → look σ.ob k = none) ∧ (β.ob.map (·.1)).Nodup

theorem Eqv.pre {σ τ : F} (h : Eqv σ τ) {R : Res} (hp : R.pre σ) : R.pre τ := by
  have hat : σ.at_ = τ.at_ := by funext t; unfold F.at_; rw [h.sl]
  cases R with
  | slot rs cs rk os d s =>
    simp only [Res.pre] at hp ⊢
    rw [← hat]
    refine ⟨hp.1, ?_⟩
    rw [← hp.2]
    exact List.map_congr_left fun k _ => (h.ob k).symm
  | eff rs ks α d β =>
    simp only [Res.pre] at hp ⊢
    refine ⟨by rw [← h.only]; exact hp.1, fun k hk hn => by rw [← h.ob]; exact hp.2.1 k hk hn, hp.2.2⟩

theorem app_nd {R : Res} {σ : F} (h : (σ.ob.map (·.1)).Nodup) (hp : R.pre σ) : ((R.app σ).ob.map (·.1)).Nodup := by
  cases R with
  | slot rs cs rk os d s => cases d <;> exact h
  | eff rs ks α d β =>
    simp only [Res.pre] at hp
    simp only [Res.app, List.map_append]
    rw [List.nodup_append]
    refine ⟨hp.2.2, dropAll_nodup h, fun a ha b hb e => ?_⟩
    subst e
    obtain ⟨o, ho⟩ := look_of_mem hb
    rw [look_dropAll] at ho
    by_cases hk : ks.contains a = true
    · rw [if_pos hk] at ho; cases ho
    · rw [if_neg hk, hp.2.1 a ha (by simpa using hk)] at ho
      cases ho

theorem app_look_slot {rs : List Nat} {cs : List S} {rk : List Nat} {os : List (Option O)} {d : Option Nat} {s : S} {σ : F} (k : Nat) : look ((Res.slot rs cs rk os d s).app σ).ob k = look σ.ob k := by
  cases d <;> rfl

theorem app_look_eff {rs ks : List Nat} {α : F} {d : Option Nat} {β σ : F} (k : Nat) : look ((Res.eff rs ks α d β).app σ).ob k = match look β.ob k with | some o => some o | none => if ks.contains k then none else look σ.ob k := by
  simp only [Res.app]
  rw [look_append, look_dropAll]
  all_goals (cases look β.ob k <;> rfl)

theorem look_none_of {ob : List (Nat × O)} {k : Nat} (h : k ∉ ob.map (·.1)) : look ob k = none := by
  cases hl : look ob k with
  | none => rfl
  | some o => exact absurd (look_mem hl) h

/-- Objects that nobody touches. -/
theorem app_look {R : Res} {σ : F} {k : Nat} (h : k ∉ R.tk) : look (R.app σ).ob k = look σ.ob k := by
  cases R with
  | slot rs cs rk os d s => exact app_look_slot k
  | eff rs ks α d β =>
    simp only [Res.tk, List.mem_append, not_or] at h
    rw [app_look_eff, look_none_of h.2]
    simp [h.1]

theorem Eqv.app {σ τ : F} (h : Eqv σ τ) {R : Res} (hp : R.pre σ) : Eqv (R.app σ) (R.app τ) := by
  refine ⟨?_, ?_, app_nd h.nd hp, app_nd h.nd' (h.pre hp)⟩
  · cases R with
    | slot rs cs rk os d s => cases d <;> simp [Res.app, F.put, h.sl]
    | eff rs ks α d β => simp [Res.app, h.sl]
  · intro k
    cases R with
    | slot rs cs rk os d s => rw [app_look_slot, app_look_slot]; exact h.ob k
    | eff rs ks α d β => rw [app_look_eff, app_look_eff, h.ob]

theorem setO_length (l : List S) (d : Option Nat) (s : S) : (setO l d s).length = l.length := by cases d <;> simp [setO]

theorem app_length {R : Res} {σ : F} : (R.app σ).sl.length = σ.sl.length := by
  cases R with
  | slot rs cs rk os d s => cases d <;> simp [Res.app, F.put]
  | eff rs ks α d β => simp [Res.app, setO_length]

theorem sf_slot {rs : List Nat} {cs : List S} {rk : List Nat} {os : List (Option O)} {d : Option Nat} {s x : S} : (Res.slot rs cs rk os d s).sf x = x := by simp [Res.sf, Res.okS]

theorem app_sl (R : Res) (σ : F) : (R.app σ).sl = setO (σ.sl.map R.sf) R.dst R.out := by
  cases R with
  | slot rs cs rk os d s =>
    have : σ.sl.map (Res.slot rs cs rk os d s).sf = σ.sl := by
      rw [show (Res.slot rs cs rk os d s).sf = id from funext fun x => sf_slot]
      simp
    rw [this]
    cases d <;> rfl
  | eff rs ks α d β => rfl

theorem sf_dead (R : Res) : R.sf .dead = .dead := by unfold Res.sf; split <;> rfl

theorem sf_ok {R : Res} {s : S} (h : R.okS s = true) : R.sf s = s := by unfold Res.sf; rw [if_pos h]

theorem getD_setO {l : List S} {d : Option Nat} {s x : S} {t : Nat} (h : ∀ j, d = some j → j ≠ t) : (setO l d s).getD t x = l.getD t x := by
  cases d with
  | none => rfl
  | some j =>
    have := h j rfl
    simp only [setO, List.getD_eq_getElem?_getD]
    rw [List.getElem?_set_ne this]

theorem getD_map_sf (R : Res) (l : List S) (t : Nat) : (l.map R.sf).getD t .dead = R.sf (l.getD t .dead) := by
  rw [List.getD_eq_getElem?_getD, List.getD_eq_getElem?_getD, List.getElem?_map]
  cases l[t]? with
  | none => exact (sf_dead R).symm
  | some x => rfl

theorem app_at {R : Res} {σ : F} {t : Nat} (h : ∀ j, R.dst = some j → j ≠ t) : (R.app σ).at_ t = R.sf (σ.at_ t) := by
  unfold F.at_
  rw [app_sl, getD_setO h, getD_map_sf]

theorem app_at_alive {R : Res} {σ : F} {t : Nat} (h : ∀ j, R.dst = some j → j ≠ t) (hd : (R.app σ).at_ t ≠ .dead) : σ.at_ t = (R.app σ).at_ t := by
  rw [app_at h] at hd ⊢
  unfold Res.sf at hd ⊢
  split
  · rfl
  · rename_i hh; rw [if_neg hh] at hd; exact absurd rfl hd

/-- An object that an operation leaves as it was. -/
def Still (R : Res) (k : Nat) : Prop := ∀ σ : F, (σ.ob.map (·.1)).Nodup → R.pre σ → look (R.app σ).ob k = look σ.ob k

theorem still_of {R : Res} {k : Nat} (h : stillE R k) : Still R k := by
  intro σ hn hp
  cases R with
  | slot rs cs rk os d s => exact app_look_slot k
  | eff rs ks α d β =>
    simp only [stillE] at h
    simp only [Res.pre] at hp
    obtain ⟨h1, h2⟩ := h
    have e : look α.ob k = look σ.ob k := by
      rw [← hp.1]
      show look (pick σ.ob ks) k = _
      rw [pick_look hn, if_pos h1]
    rw [app_look_eff, h1, ← e, ← h2]
    cases look β.ob k <;> rfl

/-- Two operations that may come up in either order. -/
structure Indep (a b : Res) : Prop where
  d1 : ∀ d, a.dst = some d → d ∉ b.rs
  d2 : ∀ d, a.dst = some d → b.dst ≠ some d
  d3 : ∀ d, b.dst = some d → d ∉ a.rs
  k1 : ∀ k ∈ a.tk, k ∈ b.rks → Still a k
  k2 : ∀ k ∈ b.tk, k ∈ a.rks → Still b k
  k3 : ∀ k ∈ a.tk, k ∈ b.tk → Still a k ∧ Still b k
  c1 : ∀ c ∈ b.cont, c ≠ .dead
  c2 : ∀ c ∈ a.cont, c ≠ .dead ∧ b.okS c = true
  o1 : b.okS a.out = true
  o2 : a.okS b.out = true

theorem apartL_is {a b : List Nat} (h : apartL a b = true) : ∀ k ∈ a, k ∉ b := by
  intro k hk hb
  have := List.all_eq_true.mp h k hk
  simp [hb] at this

theorem isDead_is {s : S} (h : s.isDead = false) : s ≠ .dead := by rintro rfl; cases h

theorem indepH_of {hs : List (Nat × Nat)} {i j : Nat} {a b : Res} (sa : ∀ k, hs.contains (i, k) = true → Still a k) (sb : ∀ k, hs.contains (j, k) = true → Still b k) (h : indepH hs i j a b = true) : Indep a b := by
  unfold indepH at h
  simp only [Bool.and_eq_true] at h
  obtain ⟨⟨⟨⟨⟨⟨⟨⟨h1, h2⟩, h3⟩, h4⟩, h5⟩, h6⟩, h7⟩, h8⟩, h9⟩ := h
  refine ⟨?_, ?_, ?_, fun k hk hb => ?_, fun k hk hb => ?_, fun k hk hb => ?_, ?_, ?_, h8, h9⟩
  · intro d hd
    rw [hd] at h1
    simp only [Bool.and_eq_true, Bool.not_eq_true', List.contains_eq_mem, decide_eq_false_iff_not] at h1
    exact h1.1
  · intro d hd
    rw [hd] at h1
    simp only [Bool.and_eq_true, bne_iff_ne, ne_eq] at h1
    exact h1.2
  · intro d hd
    rw [hd] at h2
    simpa using h2
  · have := List.all_eq_true.mp h3 k hk
    rw [List.contains_iff_mem.mpr hb] at this
    exact sa k (by simpa using this)
  · have := List.all_eq_true.mp h4 k hk
    rw [List.contains_iff_mem.mpr hb] at this
    exact sb k (by simpa using this)
  · have := List.all_eq_true.mp h5 k hk
    rw [List.contains_iff_mem.mpr hb] at this
    simp only [Bool.not_true, Bool.false_or, Bool.and_eq_true] at this
    exact ⟨sa k this.1, sb k this.2⟩
  · intro c hc
    have := List.all_eq_true.mp h6 c hc
    exact isDead_is (by simpa using this)
  · intro c hc
    have := List.all_eq_true.mp h7 c hc
    simp only [Bool.and_eq_true, Bool.not_eq_true'] at this
    exact ⟨isDead_is this.1, this.2⟩

theorem apart_all {a b : List Nat} {f : Nat → Bool} (h : apartL a b = true) : a.all (fun k => !b.contains k || f k) = true := by
  rw [List.all_eq_true]
  intro k hk
  have := apartL_is h k hk
  simp [this]

theorem indep_of {a b : Res} (h : indepB a b = true) : Indep a b := by
  refine indepH_of (hs := []) (i := 0) (j := 0) (fun k h => by simp at h) (fun k h => by simp at h) ?_
  unfold indepB at h
  unfold indepH
  simp only [Bool.and_eq_true] at h ⊢
  obtain ⟨⟨⟨⟨⟨⟨⟨⟨h1, h2⟩, h3⟩, h4⟩, h5⟩, h6⟩, h7⟩, h8⟩, h9⟩ := h
  exact ⟨⟨⟨⟨⟨⟨⟨⟨h1, h2⟩, apart_all h3⟩, apart_all h4⟩, apart_all h5⟩, h6⟩, h7⟩, h8⟩, h9⟩

/-- What a state says where it is asked hangs on a few slots and objects. -/
theorem pre_congr {R : Res} {σ τ : F} (hn : (σ.ob.map (·.1)).Nodup) (hn' : (τ.ob.map (·.1)).Nodup) (hlen : σ.sl.length = τ.sl.length) (hp : R.pre σ) (hs : ∀ t ∈ R.rs, σ.at_ t = τ.at_ t) (hk : ∀ k ∈ R.rks, look σ.ob k = look τ.ob k)
    (hnew : ∀ k ∈ R.tk, look σ.ob k = look τ.ob k) : R.pre τ := by
  cases R with
  | slot rs cs rk os d s =>
    simp only [Res.pre, Res.rs, Res.rks] at hp hs hk ⊢
    refine ⟨?_, ?_⟩
    · rw [← hp.1]; exact List.map_congr_left fun t ht => (hs t ht).symm
    · rw [← hp.2]; exact List.map_congr_left fun k hk' => (hk k hk').symm
  | eff rs ks α d β =>
    simp only [Res.pre, Res.rs, Res.rks, Res.tk] at hp hs hk hnew ⊢
    refine ⟨?_, fun k hk' hn => ?_, hp.2.2⟩
    · rw [← hp.1]; exact (only_congr hn hn' hlen hs hk).symm
    · rw [← hnew k (List.mem_append.mpr (.inr hk'))]; exact hp.2.1 k hk' hn

theorem mem_cont_slot {R : Res} {σ : F} (hp : R.pre σ) {t : Nat} (ht : t ∈ R.rs) : (∃ c ∈ R.cont, σ.at_ t = c) ∨ ∃ c ∈ R.cont, (c = σ.at_ t ∨ c = .dead) := by
  cases R with
  | slot rs cs rk os d s =>
    simp only [Res.pre, Res.rs] at hp ht
    left
    refine ⟨σ.at_ t, ?_, rfl⟩
    simp only [Res.cont]
    rw [← hp.1]
    exact List.mem_map_of_mem ht
  | eff rs ks α d β =>
    simp only [Res.pre, Res.rs] at hp ht
    right
    refine ⟨α.at_ t, ?_, ?_⟩
    · simp only [Res.cont]; exact List.mem_map_of_mem ht
    · rw [← hp.1]
      have key : ∀ (l : List S) (i j : Nat), (maskSl (pick σ.ob ks) rs i l).getD j .dead = l.getD j .dead ∨ (maskSl (pick σ.ob ks) rs i l).getD j .dead = .dead := by
        intro l
        induction l with
        | nil => intro i j; left; simp [maskSl]
        | cons s r ih =>
          intro i j
          cases j with
          | zero =>
            simp only [maskSl, List.getD_cons_zero]
            split
            · unfold sift; split <;> simp
            · simp
          | succ j => simpa [maskSl] using ih (i + 1) j
      exact key σ.sl 0 t

/-- A slot that is looked at, and is alive, is what it is told to be. -/
theorem cont_alive {R : Res} {σ : F} (hp : R.pre σ) (h : ∀ c ∈ R.cont, c ≠ .dead) {t : Nat} (ht : t ∈ R.rs) : σ.at_ t ∈ R.cont := by
  rcases mem_cont_slot hp ht with ⟨c, hc, e⟩ | ⟨c, hc, e | e⟩
  · rw [e]; exact hc
  · rw [← e]; exact hc
  · exact absurd e (h c hc)

theorem setO_map {l : List S} {d : Option Nat} {s : S} (f : S → S) : (setO l d s).map f = setO (l.map f) d (f s) := by
  cases d with
  | none => rfl
  | some d => simp only [setO, List.map_set]

theorem setO_comm {l : List S} {d d' : Option Nat} {s s' : S} (h : ∀ j, d = some j → d' ≠ some j) : setO (setO l d s) d' s' = setO (setO l d' s') d s := by
  cases d with
  | none => cases d' <;> rfl
  | some j =>
    cases d' with
    | none => rfl
    | some j' =>
      have : j ≠ j' := by rintro rfl; exact h j rfl rfl
      simp only [setO]
      exact List.set_comm _ _ this

theorem sf_comm (a b : Res) (s : S) : a.sf (b.sf s) = b.sf (a.sf s) := by
  unfold Res.sf
  by_cases ha : a.okS s = true <;> by_cases hb : b.okS s = true <;> simp [ha, hb]

/-- The swap. -/
theorem swap {a b : Res} {σ : F} (hn : (σ.ob.map (·.1)).Nodup) (hi : Indep a b) (ha : a.pre σ) (hb : b.pre (a.app σ)) : b.pre σ ∧ a.pre (b.app σ) ∧ Eqv (a.app (b.app σ)) (b.app (a.app σ)) := by
  have la : ∀ k, (k ∈ a.tk → Still a k) → look (a.app σ).ob k = look σ.ob k := fun k h => by
    by_cases hk : k ∈ a.tk
    · exact h hk σ hn ha
    · exact app_look hk
  have hb' : b.pre σ := by
    refine pre_congr (app_nd hn ha) hn app_length hb (fun t ht => ?_) (fun k hk => la k fun h => hi.k1 k h hk) (fun k hk => la k fun h => (hi.k3 k h hk).1)
    have hd : ∀ j, a.dst = some j → j ≠ t := by rintro j hj rfl; exact hi.d1 j hj ht
    exact (app_at_alive hd (hi.c1 _ (cont_alive hb hi.c1 ht))).symm
  have lb : ∀ k, (k ∈ b.tk → Still b k) → look (b.app σ).ob k = look σ.ob k := fun k h => by
    by_cases hk : k ∈ b.tk
    · exact h hk σ hn hb'
    · exact app_look hk
  have ha' : a.pre (b.app σ) := by
    refine pre_congr hn (app_nd hn hb') app_length.symm ha (fun t ht => ?_) (fun k hk => (lb k fun h => hi.k2 k h hk).symm) (fun k hk => (lb k fun h => (hi.k3 k hk h).2).symm)
    have hd : ∀ j, b.dst = some j → j ≠ t := by rintro j hj rfl; exact hi.d3 j hj ht
    rw [app_at hd, sf_ok]
    exact (hi.c2 _ (cont_alive ha (fun c hc => (hi.c2 c hc).1) ht)).2
  refine ⟨hb', ha', ?_, ?_, app_nd (app_nd hn hb') ha', app_nd (app_nd hn ha) hb⟩
  · rw [app_sl, app_sl, app_sl, app_sl, setO_map, setO_map, sf_ok hi.o1, sf_ok hi.o2, setO_comm hi.d2, List.map_map, List.map_map]
    congr 2
    apply List.map_congr_left
    intro s _
    exact sf_comm a b s
  · intro k
    by_cases hka : k ∈ a.tk
    · by_cases hkb : k ∈ b.tk
      · obtain ⟨s1, s2⟩ := hi.k3 k hka hkb
        rw [s1 _ (app_nd hn hb') ha', s2 _ (app_nd hn ha) hb, s1 σ hn ha, s2 σ hn hb']
      · rw [app_look (R := b) hkb]
        cases a with
        | slot rs cs rk os d s => simp [Res.tk] at hka
        | eff rs ks α d β => rw [app_look_eff, app_look_eff, app_look hkb]
    · rw [app_look hka]
      by_cases hkb : k ∈ b.tk
      · cases b with
        | slot rs cs rk os d s => simp [Res.tk] at hkb
        | eff rs ks α d β => rw [app_look_eff, app_look_eff, app_look hka]
      · rw [app_look hkb, app_look hkb, app_look hka]

/-- From one state to another, operation by operation. -/
def Seq : F → List (Nat × Res) → F → Prop
  | σ, [], τ => Eqv σ τ
  | σ, (_, R) :: l, τ => R.pre σ ∧ Seq (R.app σ) l τ

theorem Seq.congr : ∀ {l : List (Nat × Res)} {σ σ' τ : F}, Eqv σ σ' → Seq σ l τ → Seq σ' l τ
  | [], _, _, _, h, k => h.symm.trans k
  | (_, R) :: l, _, _, _, h, k => ⟨h.pre k.1, Seq.congr (h.app k.1) k.2⟩

theorem Seq.front : ∀ {l1 l2 : List (Nat × Res)} {j : Nat} {R : Res} {σ τ : F}, (σ.ob.map (·.1)).Nodup → Seq σ (l1 ++ (j, R) :: l2) τ → (∀ x ∈ l1, Indep x.2 R) → R.pre σ ∧ Seq (R.app σ) (l1 ++ l2) τ
  | [], l2, j, R, σ, τ, hn, h, _ => h
  | (i, A) :: l1, l2, j, R, σ, τ, hn, h, hi => by
    obtain ⟨h1, h2⟩ := h
    obtain ⟨h3, h4⟩ := Seq.front (app_nd hn h1) h2 (fun x hx => hi x (by simp [hx]))
    obtain ⟨s1, s2, s3⟩ := swap hn (hi (i, A) (by simp)) h1 h3
    exact ⟨s1, s2, h4.congr s3.symm⟩

end Go.Proofs.YtckojpaklblnpaaDoor.Ev

/- Regions that draw their order: every order comes to what the evaluator told. -/
set_option linter.unusedVariables false
set_option linter.unnecessarySimpa false
set_option linter.unusedSimpArgs false
namespace Go.Proofs.YtckojpaklblnpaaDoor.Ev
open Go Go.RowKit

/-- Every operation that the evaluator does is done so by the machine (calls among them: told of by 'run'). -/
def RunOk (P : Program) (e : Env) (run : FuncId → List S → List O → Option (V × List (Option O))) : Prop :=
  ∀ (σ σ' : F) (o : Oper) (c : Call) (f : Operand) (g : FuncId) (caps : List S), o.op = .call c → c.callee = .value f → σ.rd f = .fn g caps → σ.call e run o.dst g (c.args.toList.map σ.rd ++ caps) = some σ' → OpOk P o σ σ'

section
variable {P : Program} {e : Env} {run : FuncId → List S → List O → Option (V × List (Option O))}

theorem done_of (he : EnvOk P e) (hrun : RunOk P e run) {σ σ' : F} (o : Oper) (h : opOf e run σ o = some σ') : OpDone P e o σ σ' :=
  op_done he o h (fun c f g caps a b c' d => hrun σ σ' o c f g caps a b c' d)

theorem yielded_is {w : World} {Φ : Bool → Nat → Prop} {σ : F} {tm : List Value} {ρ : Nat → List Value} {B : List Nat} (hR : Rel w Φ σ tm ρ B) {ops : Array Oper} {g d : Nat} {og : Oper} (hg : ops[g]? = some og) (hd : og.dst = some d) :
    (∀ x, σ.at_ d = .lit (.bool x) → yielded ops tm.toArray g = some x) ∧ (σ.at_ d = .undef → yielded ops tm.toArray g = none) := by
  have hs := hR.slots.get d
  have hlt : ∀ s, σ.at_ d = s → s ≠ .dead → d < tm.length := by
    intro s h hne
    rcases Nat.lt_or_ge d tm.length with h1 | h1
    · exact h1
    · have : σ.sl.length ≤ d := by rw [← hR.slots.length]; exact h1
      unfold F.at_ at h
      rw [List.getD_eq_getElem?_getD, List.getElem?_eq_none this] at h
      exact absurd h.symm hne
  constructor
  · intro x hx
    have h1 := hlt _ hx (by simp)
    unfold F.at_ at hx
    rw [hx] at hs
    have hv := slot_lit hs
    rw [List.getD_eq_getElem?_getD, List.getElem?_eq_getElem h1] at hv
    simp only [Option.getD_some] at hv
    simp [yielded, hg, hd, h1, hv]
  · intro hx
    have h1 := hlt _ hx (by simp)
    unfold F.at_ at hx
    rw [hx] at hs
    simp only [SlotR] at hs
    rw [List.getD_eq_getElem?_getD, List.getElem?_eq_getElem h1] at hs
    simp only [Option.getD_some] at hs
    simp [yielded, hg, hd, h1, hs, undef]

/-- What the evaluator says of a guard is so. -/
theorem guard_is {ops : Array Oper} {σ : F} {o : Oper} {b : Bool} (h : guardOf ops σ o = some b) {w : World} {Φ : Bool → Nat → Prop} {tm : List Value} {ρ : Nat → List Value} {B : List Nat} (hR : Rel w Φ σ tm ρ B) : Region.wanted o (yielded ops tm.toArray) = b := by
  unfold guardOf at h
  split at h
  · rename_i hg
    simp only [Option.some.injEq] at h
    subst h
    simp [Region.wanted, hg]
  · rename_i g b' hg
    split at h
    · rename_i og hog
      split at h
      · rename_i d hod
        obtain ⟨y1, y2⟩ := yielded_is hR hog hod
        split at h
        · rename_i x hx
          simp only [Option.some.injEq] at h
          subst h
          simp [Region.wanted, hg, y1 x hx]
        · rename_i hx
          simp only [Option.some.injEq] at h
          subst h
          simp [Region.wanted, hg, y2 hx]
        · cases h
      · cases h
    · cases h

theorem guard_congr {ops : Array Oper} {σ τ : F} {o : Oper} (h : ∀ t ∈ o.looksAt ops, τ.at_ t = σ.at_ t) : guardOf ops τ o = guardOf ops σ o := by
  unfold guardOf
  cases hg : o.guard with
  | none => rfl
  | some gb =>
    obtain ⟨g, b⟩ := gb
    simp only
    cases hog : ops[g]? with
    | none => rfl
    | some og =>
      simp only
      cases hod : og.dst with
      | none => rfl
      | some d =>
        simp only
        rw [h d (by simp [Oper.looksAt, hg, hog, hod])]

theorem rd_congr {ops : Array Oper} {σ τ : F} {o : Oper} (h : ∀ t ∈ o.looksAt ops, τ.at_ t = σ.at_ t) : ∀ x ∈ o.op.operands, τ.rd x = σ.rd x := by
  intro x hx
  cases x with
  | tmp t =>
    simp only [F.rd]
    apply h t
    unfold Oper.looksAt
    refine List.mem_append.mpr (.inl (List.mem_filterMap.mpr ⟨.tmp t, by simpa using hx, rfl⟩))
  | _ => rfl

/-- In whatever state that is as it asks an operation comes to the same. -/
def Loc (P : Program) (ops : Array Oper) (n i : Nat) (R : Res) : Prop :=
  ∀ (τ : F) (w : World) (Φ : Bool → Nat → Prop) (tm : List Value) (ρ : Nat → List Value) (B : List Nat) (ds : List Deferred) (K : Act → World → Prop) (Q : Exit → Act → World → Prop), τ.sl.length = n → R.pre τ → Rel w Φ τ tm ρ B →
    (∀ tm' w' Φ' ρ' B', Rel w' Φ' (R.app τ) tm' ρ' B' → Next w Φ ρ B w' Φ' ρ' B' → K ⟨tm'.toArray, ds⟩ w') → wpOp P ops Q i K ⟨tm.toArray, ds⟩ w

theorem wpOp_wanted {ops : Array Oper} {i : Nat} {o : Oper} (ho : ops[i]? = some o) {a : Act} (hw : Region.wanted o (yielded ops a.tmps) = true) {w : World} {K : Act → World → Prop} {Q : Exit → Act → World → Prop} (h : o.wp P a w K Q) : wpOp P ops Q i K a w := by
  unfold wpOp
  simp only [ho, hw, if_true]
  exact .inl h

theorem wpOp_not {ops : Array Oper} {i : Nat} {o : Oper} (ho : ops[i]? = some o) {a : Act} (hw : Region.wanted o (yielded ops a.tmps) = false) {w : World} {K : Act → World → Prop} {Q : Exit → Act → World → Prop} (h : K (a.put o.dst undef) w) : wpOp P ops Q i K a w := by
  unfold wpOp
  simp only [ho, hw, Bool.false_eq_true, if_false]
  exact h

theorem map_eq_at {rs : List Nat} {σ τ : F} (h : rs.map τ.at_ = rs.map σ.at_) : ∀ t ∈ rs, τ.at_ t = σ.at_ t := by
  induction rs with
  | nil => intro t ht; cases ht
  | cons r rs ih =>
    simp only [List.map_cons, List.cons.injEq] at h
    intro t ht
    rcases List.mem_cons.mp ht with rfl | ht
    · exact h.1
    · exact ih h.2 t ht

theorem map_eq_look {rk : List Nat} {σ τ : F} (h : rk.map (look τ.ob) = rk.map (look σ.ob)) : ∀ k ∈ rk, look τ.ob k = look σ.ob k := by
  induction rk with
  | nil => intro t ht; cases ht
  | cons r rs ih =>
    simp only [List.map_cons, List.cons.injEq] at h
    intro t ht
    rcases List.mem_cons.mp ht with rfl | ht
    · exact h.1
    · exact ih h.2 t ht

theorem put_same {σ : F} {d : Option Nat} {s s' : S} (h : ∀ j, d = some j → j < σ.sl.length → s = s') : σ.put d s = σ.put d s' := by
  cases d with
  | none => rfl
  | some j =>
    simp only [F.put]
    by_cases hj : j < σ.sl.length
    · rw [h j rfl hj]
    · rw [List.set_eq_of_length_le (by omega), List.set_eq_of_length_le (by omega)]

/-- An operation whose result is known to hand: its act is the old one with the result in its slot. -/
theorem wp_put {o : Oper} {a : Act} {w : World} {K : Act → World → Prop} {Q : Exit → Act → World → Prop} (hK : ∀ a' w', K a' w' → a'.defers = a.defers) (h : o.wp P a w K Q) : o.wp P a w (fun a' w' => (∃ v, a' = a.put o.dst v) ∧ K a' w') Q := by
  unfold Oper.wp at *
  generalize (execOp a.eval o).run P w = r at *
  cases r with
  | ok n w' =>
    cases n <;> simp only [Oper.upon] at h ⊢
    case value u => exact ⟨⟨u, rfl⟩, h⟩
    case skip => exact ⟨⟨undef, rfl⟩, h⟩
    case defer d =>
      have := hK _ _ h
      have e : (({ a with defers := d :: a.defers } : Act).put o.dst undef).defers = d :: a.defers := by cases o.dst <;> rfl
      rw [e] at this
      exact absurd this (by simp)
    case enter f args =>
      refine Calls.mono h fun e w'' he => ?_
      cases e with
      | returned u => exact ⟨⟨u, rfl⟩, he⟩
      | panicked c => exact he
      | outgrown => exact he
    case row row args => exact Rows.mono h fun u w'' he => ⟨⟨u, rfl⟩, he⟩
  | halt x w' => cases x <;> simp only [Oper.upon] at h ⊢ <;> exact h

theorem slots_map {w w' : World} {Φ Φ' : Bool → Nat → Prop} {ob ob' : List (Nat × O)} {ρ ρ' : Nat → List Value} {f : S → S} (hf : ∀ s v, SlotR w Φ ob ρ s v → SlotR w' Φ' ob' ρ' (f s) v) : ∀ {l : List S} {vs : List Value}, SlotRs w Φ ob ρ l vs → SlotRs w' Φ' ob' ρ' (l.map f) vs
  | [], vs, h => by simpa only [List.map_nil, SlotRs] using h
  | s :: r, vs, h => by
    simp only [SlotRs] at h
    obtain ⟨v, vs', rfl, h2, h3⟩ := h
    simp only [List.map_cons, SlotRs]
    exact ⟨v, vs', rfl, hf s v h2, slots_map hf h3⟩

theorem setO_slots {w : World} {Φ : Bool → Nat → Prop} {ob : List (Nat × O)} {ρ : Nat → List Value} {l : List S} {tm : List Value} (h : SlotRs w Φ ob ρ l tm) {d : Option Nat} {s : S} {v : Value} (hs : ∀ j, d = some j → j < tm.length → SlotR w Φ ob ρ s v) : SlotRs w Φ ob ρ (setO l d s) (putL tm d v) := by
  cases d with
  | none => exact h
  | some j =>
    by_cases hj : j < tm.length
    · exact h.set j s v (hs j rfl hj)
    · simp only [setO, putL]
      have hl := h.length
      rw [List.set_eq_of_length_le (by omega), List.set_eq_of_length_le (by omega)]
      exact h

theorem stepAt_zero {w : World} {x : C} {v : Value} {g o : Nat} {r : List C} {rv : List Value} (h : stepAt w x v 0 = some (g, o, r, rv)) : o = 0 ∧ ∃ ad n cap, v = .slice (some ad) n cap ∧ g = ad.block := by
  unfold stepAt at h
  split at h
  · rename_i r1 sz ad n cap h1 h2
    split at h
    · simp only [Option.some.injEq, Prod.mk.injEq, Nat.zero_mul] at h
      exact ⟨h.2.1.symm, ad, n, cap, rfl, h.1.symm⟩
    · cases h
  · cases h

/-- What stands beside an operation stands behind it, too. -/
theorem frame_eff {o : Oper} {rs ks : List Nat} {α β σ : F} (hop : OpOk P o α β) (hp : (Res.eff rs ks α o.dst β).pre σ) {w : World} {Φ : Bool → Nat → Prop} {tm : List Value} {ρ : Nat → List Value} {B : List Nat} {ds : List Deferred} {K : Act → World → Prop} {Q : Exit → Act → World → Prop} (hR : Rel w Φ σ tm ρ B)
    (hK : ∀ tm' w' Φ' ρ' B', Rel w' Φ' ((Res.eff rs ks α o.dst β).app σ) tm' ρ' B' → Next w Φ ρ B w' Φ' ρ' B' → K ⟨tm'.toArray, ds⟩ w') : o.wp P ⟨tm.toArray, ds⟩ w K Q := by
  simp only [Res.pre] at hp
  obtain ⟨hα, hclash, hnd⟩ := hp
  have hpk := pick_nodup (ks := ks) hR.keys
  obtain ⟨B1, B2, r1, r2, r3, r4⟩ := hR.obs.split (ob1 := pick σ.ob ks) (ob2 := dropAll ks σ.ob) hR.keys hR.nd hpk (dropAll_nodup hR.keys) (fun k o hl => pick_sub hR.keys hl) (fun k o hl => by
    rw [look_dropAll] at hl
    split at hl
    · cases hl
    · exact hl) (fun k hk hk' => by
    obtain ⟨o1, h1⟩ := look_of_mem hk
    obtain ⟨o2, h2⟩ := look_of_mem hk'
    rw [pick_look hR.keys] at h1
    rw [look_dropAll] at h2
    split at h1
    · rename_i hc; rw [if_pos hc] at h2; cases h2
    · cases h1)
  have m1 : ∀ b ∈ B1, b ∈ B := fun b hb => r4 b (List.mem_append.mpr (.inl hb))
  have m2 : ∀ b ∈ B2, b ∈ B := fun b hb => r4 b (List.mem_append.mpr (.inr hb))
  have hnd12 := r3
  rw [List.nodup_append] at hnd12
  obtain ⟨n1, n2, n3⟩ := hnd12
  have hRα : Rel w Φ α tm ρ B1 := by
    rw [← hα]
    exact ⟨r1, n1, hpk, fun b hb => hR.disj b (m1 b hb), fun b hb => hR.lt b (m1 b hb), hR.ltΦ, hR.sub, maskSl_slots (over_sub fun k o hl => pick_sub hR.keys hl) rs _ _ 0 hR.slots⟩
  have h1 := hop w Φ tm ρ B1 ds (fun a' w' => ∃ tm' Φ' ρ' B', a' = ⟨tm'.toArray, ds⟩ ∧ Rel w' Φ' β tm' ρ' B' ∧ Next w Φ ρ B1 w' Φ' ρ' B' ∧ Same o.dst ρ ρ') Q hRα (fun tm' w' Φ' ρ' B' a b c => ⟨tm', Φ', ρ', B', rfl, a, b, c⟩)
  refine Oper.wp_mono ?_ (wp_put (by rintro a' w' ⟨tm', Φ', ρ', B', rfl, _⟩; rfl) h1)
  rintro a' w' ⟨⟨v, e1⟩, tm', Φ', ρ', B', rfl, hRβ, hN, hS⟩
  have etm : tm' = putL tm o.dst v := by
    rw [act_put] at e1
    have := congrArg Act.tmps e1
    simpa using this
  have hkβ : ∀ k ∈ β.ob.map (·.1), look (dropAll ks σ.ob) k = none := by
    intro k hk
    rw [look_dropAll]
    split
    · rfl
    · rename_i hc; exact hclash k hk (by simpa using hc)
  have hblk : ∀ b ∈ B2, w'.heap[b]? = w.heap[b]? := fun b hb => hN.block b (hR.lt b (m2 b hb)) (fun hb1 => n3 b hb1 b hb rfl)
  have hro : ∀ x b, Φ x b → w'.heap[b]? = w.heap[b]? := fun x b hb => hN.block b (hR.ltΦ x b hb) (fun hb1 => hR.disj b (m1 b hb1) x hb)
  -- ρ of the whole
  let ρ'' : Nat → List Value := fun k => if (β.ob.map (·.1)).contains k then ρ' k else ρ k
  have ρin : ∀ k ∈ β.ob.map (·.1), ρ'' k = ρ' k := fun k hk => by simp only [ρ'']; rw [if_pos (by simpa using hk)]
  have ρout : ∀ k, k ∉ β.ob.map (·.1) → ρ'' k = ρ k := fun k hk => by simp only [ρ'']; rw [if_neg (by simpa using hk)]
  have hdk : ∀ k ∈ (dropAll ks σ.ob).map (·.1), k ∉ β.ob.map (·.1) := fun k hk hk' => by
    obtain ⟨o2, h2⟩ := look_of_mem hk
    rw [hkβ k hk'] at h2
    cases h2
  have hobs : IsOb w' Φ' ρ'' (β.ob ++ dropAll ks σ.ob) (B' ++ B2) := by
    refine IsOb.append (hRβ.obs.keep (Keeps.refl _ _ _) ρin) (r2.keep ⟨hN.mono, hro, hblk⟩ fun k hk => ρout k (hdk k hk))
  have hapart : ∀ b ∈ B', b ∉ B2 := fun b hb hb2 => by
    rcases hN.own b hb with h | h
    · exact n3 b h b hb2 rfl
    · exact absurd (hR.lt b (m2 b hb2)) (Nat.not_lt.mpr h)
  have hnd' : (B' ++ B2).Nodup := by
    rw [List.nodup_append]
    exact ⟨hRβ.nd, n2, fun a ha b hb e => hapart a ha (by rw [e]; exact hb)⟩
  have hkeys : ((β.ob ++ dropAll ks σ.ob).map (·.1)).Nodup := by
    rw [List.map_append, List.nodup_append]
    refine ⟨hnd, dropAll_nodup hR.keys, fun a ha b hb e => ?_⟩
    subst e
    exact hdk a hb ha
  have hlook : ∀ k, look (β.ob ++ dropAll ks σ.ob) k = match look β.ob k with | some o => some o | none => look (dropAll ks σ.ob) k := fun k => look_append
  have hover : Over w w' Φ Φ' σ.ob (β.ob ++ dropAll ks σ.ob) ρ ρ'' (stillV o.dst ks β.ob) (stillP o.dst ks β.ob) := by
    have side : ∀ k ob1, ks.contains k = false → look σ.ob k = some ob1 → k ∉ β.ob.map (·.1) ∧ look (β.ob ++ dropAll ks σ.ob) k = some ob1 ∧ ∃ Bk, (∀ b ∈ Bk, w'.heap[b]? = w.heap[b]?) ∧ IsCs w Φ ob1.cells (ρ k) Bk := by
      intro k ob1 hc hl
      have hkb : k ∉ β.ob.map (·.1) := fun hk => by
        rw [hclash k hk (by simpa using hc)] at hl
        cases hl
      have hl2 : look (dropAll ks σ.ob) k = some ob1 := by rw [look_dropAll, hc]; exact hl
      obtain ⟨Bk, q1, q2⟩ := look_is r2 (dropAll_nodup hR.keys) hl2
      exact ⟨hkb, by rw [hlook, look_none_of hkb]; exact hl2, Bk, fun b hb => hblk b (q1 b hb), q2⟩
    refine ⟨hN.mono, hro, ?_, ?_⟩
    · intro k p hk o1 vs hl hv
      unfold stillV at hk
      cases hc : ks.contains k with
      | false =>
        obtain ⟨q1, q2, Bk, q3, q4⟩ := side k o1 hc hl
        exact ⟨o1, q2, by rw [ρout k q1, (keep_vals q4 q3 p).1]; exact hv⟩
      | true =>
        rw [hc] at hk
        simp only [Bool.not_true, Bool.false_or, Bool.and_eq_true, Bool.not_eq_true', List.isEmpty_iff] at hk
        obtain ⟨⟨rfl, hnk⟩, hsome⟩ := hk
        obtain ⟨o2, ho2⟩ := Option.isSome_iff_exists.mp hsome
        refine ⟨o2, by rw [hlook, ho2], ?_⟩
        simp only [valsAt] at hv ⊢
        rw [ρin k (look_mem ho2), hS k hnk]
        exact hv
    · intro k p hk o1 g a hl hv
      unfold stillP at hk
      cases hc : ks.contains k with
      | false =>
        obtain ⟨q1, q2, Bk, q3, q4⟩ := side k o1 hc hl
        exact ⟨o1, q2, by rw [ρout k q1, (keep_vals q4 q3 p).2]; exact hv⟩
      | true =>
        rw [hc] at hk
        simp only [Bool.not_true, Bool.false_or, Bool.and_eq_true, Bool.not_eq_true', beq_iff_eq] at hk
        obtain ⟨⟨rfl, hnk⟩, hrow⟩ := hk
        unfold rowOk at hrow
        split at hrow
        · rename_i o2 ho2
          split at hrow
          · rename_i c' cr' hcells
            obtain ⟨r, hr⟩ := Option.isSome_iff_exists.mp hrow
            refine ⟨o2, by rw [hlook, ho2], ?_⟩
            rw [ρin k (look_mem ho2), hS k hnk]
            simp only [addrAt] at hv
            cases hx : o1.cells[0]? with
            | none => simp [hx] at hv
            | some x =>
              cases hv0 : (ρ k)[0]? with
              | none => simp [hx, hv0] at hv
              | some v0 =>
                simp only [hx, hv0] at hv
                cases hst : stepAt w x v0 0 with
                | none => simp [hst] at hv
                | some q =>
                  obtain ⟨g0, a0, r0, rv0⟩ := q
                  simp only [hst, Option.some.injEq, Prod.mk.injEq] at hv
                  obtain ⟨rfl, rfl⟩ := hv
                  obtain ⟨Bk, q1, q2⟩ := look_is hRβ.obs hRβ.keys ho2
                  rw [hS k hnk] at q2
                  have hx2 : o2.cells[0]? = some c' := by rw [hcells]; rfl
                  obtain ⟨Bx, q3, q4⟩ := q2.at_ hx2 hv0
                  obtain ⟨g1, a1, rv1, Br, s1, s2, _⟩ := stepAt_row q4 hr
                  simp only [addrAt, hx2, hv0, s1]
                  obtain ⟨z1, ad, n1, c1, z2, z3⟩ := stepAt_zero hst
                  obtain ⟨y1, ad', n2, c2, y2, y3⟩ := stepAt_zero s1
                  rw [z2] at y2
                  simp only [Value.slice.injEq, Option.some.injEq] at y2
                  rw [z1, y1, z3, y3, y2.1]
          · cases hrow
        · cases hrow
  refine hK tm' w' Φ' ρ'' (B' ++ B2) ⟨hobs, hnd', hkeys, ?_, ?_, hRβ.ltΦ, hRβ.sub, ?_⟩ ⟨hN.os, hN.tape, hN.output, hN.size, fun b hb hn => hN.block b hb (fun hb1 => hn (m1 b hb1)), ?_, hN.mono, fun x b hb => (hN.fresh x b hb).imp id (Or.imp (m1 b) id), hN.lent, ?_⟩
  · intro b hb x hx
    rcases List.mem_append.mp hb with hb | hb
    · exact hRβ.disj b hb x hx
    · rcases hN.fresh x b hx with h | h | h
      · exact hR.disj b (m2 b hb) x h
      · exact n3 b h b hb rfl
      · exact absurd (hR.lt b (m2 b hb)) (Nat.not_lt.mpr h)
  · intro b hb
    rcases List.mem_append.mp hb with hb | hb
    · exact hRβ.lt b hb
    · exact Nat.lt_of_lt_of_le (hR.lt b (m2 b hb)) hN.size
  · rw [etm]
    simp only [Res.app]
    refine setO_slots (slots_map (fun s v hs => ?_) hR.slots) fun j hj hlt => ?_
    · exact hover.sift hs
    · have hs := hRβ.slots.get j
      have C := carry_same (w' := w') (Φ' := Φ') (ρ' := ρ'') (ob' := β.ob ++ dropAll ks σ.ob) hRβ.obs hRβ.keys (Keeps.refl _ _ _) (fun k o1 hl => ⟨by rw [hlook, hl], ρin k (look_mem hl)⟩)
      have h2 := C.slot _ _ hs
      rw [etm, hj] at h2
      have e2 : (putL tm (some j) v).getD j undef = v := by
        simp only [putL, List.getD_eq_getElem?_getD, List.getElem?_set_self hlt, Option.getD_some]
      rw [e2] at h2
      simp only [Res.out, hj]
      exact h2
  · intro b hb
    rcases List.mem_append.mp hb with hb | hb
    · exact (hN.own b hb).imp (m1 b) id
    · exact .inl (m2 b hb)
  · intro j hj
    by_cases hk : j ∈ β.ob.map (·.1)
    · rw [ρin j hk]; exact hN.imp j hj
    · exact ρout j hk

theorem nodupB_is : ∀ {l : List Nat}, nodupB l = true → l.Nodup
  | [], _ => List.nodup_nil
  | x :: r, h => by
    simp only [nodupB, Bool.and_eq_true, Bool.not_eq_true', List.contains_eq_mem, decide_eq_false_iff_not] at h
    exact List.nodup_cons.mpr ⟨h.1, nodupB_is h.2⟩

/-- What the evaluator tells of an operation of such a region. -/
theorem res_is (he : EnvOk P e) (hrun : RunOk P e run) {ops : Array Oper} {σ : F} {i : Nat} {o : Oper} {R : Res} (ho : ops[i]? = some o) (h : resOf e run ops σ o = some R) : R.pre σ ∧ Loc P ops σ.sl.length i R := by
  unfold resOf at h
  split at h
  · rename_i hg
    split at h
    · rename_i hs
      split at h
      · rename_i σ' hop
        simp only [Option.some.injEq] at h
        subst h
        refine ⟨⟨rfl, rfl⟩, ?_⟩
        intro τ w Φ tm ρ B ds K Q hlen hp hR hK
        simp only [Res.pre] at hp
        have hat := map_eq_at hp.1
        have hlk := map_eq_look hp.2
        obtain ⟨s, e1, e2⟩ := still_local (run := run) (τ := τ) o hs (rd_congr hat) hlk hop
        refine wpOp_wanted ho ?_ ((done_of he hrun o e2).ok w Φ tm ρ B ds K Q hR fun tm' w' Φ' ρ' B' a b _ => hK tm' w' Φ' ρ' B' ?_ b)
        · exact guard_is (b := true) (by rw [guard_congr hat]; exact hg) hR
        · simp only [Res.app]
          rw [put_same (s' := s)]
          · exact a
          · intro j hj hlt
            simp only [hj]
            rw [e1, hj]
            simp only [F.at_, F.put]
            rw [List.getD_eq_getElem?_getD, List.getElem?_set_self (by omega)]
            rfl
      · cases h
    · rename_i hs
      simp only at h
      split at h
      · rename_i β hop
        split at h
        · rename_i hc
          simp only [Option.some.injEq] at h
          subst h
          simp only [Bool.and_eq_true] at hc
          refine ⟨⟨rfl, fun k hk hn => ?_, nodupB_is hc.2⟩, ?_⟩
          · obtain ⟨x, hx, rfl⟩ := List.mem_map.mp hk
            have := List.all_eq_true.mp hc.1 x hx
            simp only [Bool.or_eq_true, Option.isNone_iff_eq_none] at this
            exact this.resolve_left (by simpa using hn)
          · intro τ w Φ tm ρ B ds K Q hlen hp hR hK
            refine wpOp_wanted ho ?_ (frame_eff (done_of he hrun o hop).ok hp hR hK)
            have hp1 : τ.only (o.looksAt ops) _ = σ.only (o.looksAt ops) _ := hp.1
            -- the guard
            have hgα : guardOf ops (σ.only (o.looksAt ops) (S.keyss ((o.looksAt ops).map σ.at_) ++ (σ.ob.map (·.1)).filter (newKey o.dst))) o = some true := by
              unfold guardOf at hg ⊢
              cases hgd : o.guard with
              | none => rfl
              | some gb =>
                obtain ⟨g, b⟩ := gb
                rw [hgd] at hg
                simp only at hg ⊢
                cases hog : ops[g]? with
                | none => simp [hog] at hg
                | some og =>
                  simp only [hog] at hg ⊢
                  cases hod : og.dst with
                  | none => simp [hod] at hg
                  | some d =>
                    simp only [hod] at hg ⊢
                    have hmem : d ∈ o.looksAt ops := by simp [Oper.looksAt, hgd, hog, hod]
                    have hmask : ∀ (ob : List (Nat × O)) (x : S), σ.at_ d = x → (∀ tv tp, S.ok tv tp x = true) → (maskSl ob (o.looksAt ops) 0 σ.sl).getD d .dead = x := by
                      intro ob x hx hok
                      have key : ∀ (l : List S) (i j : Nat), i + j = d → l.getD j .dead = x → (maskSl ob (o.looksAt ops) i l).getD j .dead = x := by
                        intro l
                        induction l with
                        | nil => intro i j _ h; simpa [maskSl] using h
                        | cons s r ih =>
                          intro i j hij h
                          cases j with
                          | zero =>
                            simp only [List.getD_cons_zero] at h
                            simp only [maskSl, List.getD_cons_zero]
                            rw [if_pos (by rw [show i = d by omega]; simpa using hmem), h]
                            unfold sift
                            rw [if_pos (hok _ _)]
                          | succ j =>
                            simp only [List.getD_cons_succ] at h
                            simp only [maskSl, List.getD_cons_succ]
                            exact ih (i + 1) j (by omega) h
                      exact key σ.sl 0 d (by omega) hx
                    split at hg
                    · rename_i x hx
                      have := hmask (pick σ.ob (S.keyss ((o.looksAt ops).map σ.at_) ++ (σ.ob.map (·.1)).filter (newKey o.dst))) _ hx (fun _ _ => rfl)
                      simp only [F.only, F.at_]
                      rw [this]
                      simpa using hg
                    · rename_i hx
                      have := hmask (pick σ.ob (S.keyss ((o.looksAt ops).map σ.at_) ++ (σ.ob.map (·.1)).filter (newKey o.dst))) _ hx (fun _ _ => rfl)
                      simp only [F.only, F.at_]
                      rw [this]
                      simpa using hg
                    · cases hg
            obtain ⟨B', hRo, _⟩ := hR.only (o.looksAt ops) (S.keyss ((o.looksAt ops).map σ.at_) ++ (σ.ob.map (·.1)).filter (newKey o.dst))
            rw [hp1] at hRo
            exact guard_is hgα hRo
        · cases h
      · cases h
  · rename_i hg
    simp only [Option.some.injEq] at h
    subst h
    refine ⟨⟨rfl, rfl⟩, ?_⟩
    intro τ w Φ tm ρ B ds K Q hlen hp hR hK
    simp only [Res.pre] at hp
    have hat := map_eq_at hp.1
    refine wpOp_not ho ?_ ?_
    · exact guard_is (b := false) (by rw [guard_congr hat]; exact hg) hR
    · rw [act_put]
      exact hK _ _ _ _ _ (hR.put o.dst (by simp only [SlotR])) (Next.refl _ _ _ _)
  · cases h

end

end Go.Proofs.YtckojpaklblnpaaDoor.Ev

/- Regions that draw their order: whatever order is picked. -/
set_option linter.unusedVariables false
set_option linter.unusedSimpArgs false
namespace Go.Proofs.YtckojpaklblnpaaDoor.Ev
open Go Go.RowKit

/-- Whom each operation waits for. -/
structure Deps (ops : Array Oper) (dm : List (List Nat)) : Prop where
  lt : ∀ j oj, ops[j]? = some oj → ∀ e ∈ oj.after, Region.binds .any e = true → e.on < j
  dep : ∀ j oj, ops[j]? = some oj → ∀ a ∈ dm.getD j [], ∃ e ∈ oj.after, Region.binds .any e = true ∧ (e.on = a ∨ a ∈ dm.getD e.on [])

theorem deps_of {ops : Array Oper} {dm : List (List Nat)} (h : depB ops dm = true) : Deps ops dm := by
  have key : ∀ j oj, ops[j]? = some oj → (oj.after.toList.all (fun e => !Region.binds .any e || decide (e.on < j)) &&
      (dm.getD j []).all fun a => oj.after.toList.any fun e => Region.binds .any e && (e.on == a || (dm.getD e.on []).contains a)) = true := by
    intro j oj hj
    have hlt : j < ops.size := (Array.getElem?_eq_some_iff.mp hj).1
    have := List.all_eq_true.mp h j (List.mem_range.mpr hlt)
    simpa only [hj] using this
  refine ⟨fun j oj hj e he hb => ?_, fun j oj hj a ha => ?_⟩
  · have h1 := key j oj hj
    simp only [Bool.and_eq_true] at h1
    have h2 := List.all_eq_true.mp h1.1 e (by simpa using he)
    simpa [hb] using h2
  · have h1 := key j oj hj
    simp only [Bool.and_eq_true] at h1
    have h2 := List.all_eq_true.mp h1.2 a ha
    obtain ⟨e, he, h3⟩ := List.any_eq_true.mp h2
    simp only [Bool.and_eq_true, Bool.or_eq_true, beq_iff_eq] at h3
    exact ⟨e, by simpa using he, h3.1, h3.2.imp id (fun h => by simpa using h)⟩

/-- What has come up, and what has not. -/
structure Left (ops : Array Oper) (dm : List (List Nat)) (listed : Array Bool) (l : List (Nat × Res)) : Prop where
  size : listed.size = ops.size
  mem : ∀ i, i < ops.size → (listed.getD i true = false ↔ i ∈ l.map (·.1))
  lt : ∀ x ∈ l, x.1 < ops.size
  nd : (l.map (·.1)).Nodup
  closed : ∀ j oj, ops[j]? = some oj → listed.getD j false = true → ∀ e ∈ oj.after, Region.binds .any e = true → listed.getD e.on false = true
  pairs : l.Pairwise (fun a b => a.1 ∈ dm.getD b.1 [] ∨ Indep a.2 b.2)

theorem dep_listed {ops : Array Oper} {dm : List (List Nat)} (hd : Deps ops dm) {listed : Array Bool} (hc : ∀ j oj, ops[j]? = some oj → listed.getD j false = true → ∀ e ∈ oj.after, Region.binds .any e = true → listed.getD e.on false = true) :
    ∀ (m j : Nat), j < m → ∀ oj, ops[j]? = some oj → (∀ e ∈ oj.after, Region.binds .any e = true → listed.getD e.on false = true) → ∀ a ∈ dm.getD j [], listed.getD a false = true := by
  intro m
  induction m with
  | zero => intro j hj; exact absurd hj (Nat.not_lt_zero _)
  | succ m ih =>
    intro j hjm oj hj hall a ha
    obtain ⟨e, he, hb, h | h⟩ := hd.dep j oj hj a ha
    · rw [← h]; exact hall e he hb
    · have hlt := hd.lt j oj hj e he hb
      have hjs : j < ops.size := (Array.getElem?_eq_some_iff.mp hj).1
      obtain ⟨oe, hoe⟩ : ∃ oe, ops[e.on]? = some oe := ⟨ops[e.on]'(by omega), by simp [show e.on < ops.size by omega]⟩
      exact ih e.on (by omega) oe hoe (hc e.on oe hoe (hall e he hb)) a h

theorem getD_true_false {listed : Array Bool} {i : Nat} (hi : i < listed.size) : listed.getD i true = listed.getD i false := by simp [hi]

theorem ready_some {ops : Array Oper} {dm : List (List Nat)} (hd : Deps ops dm) {listed : Array Bool} {l : List (Nat × Res)} (hL : Left ops dm listed l) (hne : l ≠ []) : Region.ready .any ops listed ≠ [] := by
  -- the least one that has not come up
  have hex : ∃ i, i < ops.size ∧ listed.getD i true = false := by
    cases l with
    | nil => exact absurd rfl hne
    | cons x r => exact ⟨x.1, hL.lt x (by simp), (hL.mem x.1 (hL.lt x (by simp))).mpr (by simp)⟩
  obtain ⟨i, ⟨hi, hu⟩, hmin⟩ : ∃ i, (i < ops.size ∧ listed.getD i true = false) ∧ ∀ j, j < i → ¬(j < ops.size ∧ listed.getD j true = false) := by
    have key : ∀ n i, i ≤ n → i < ops.size ∧ listed.getD i true = false → ∃ i, (i < ops.size ∧ listed.getD i true = false) ∧ ∀ j, j < i → ¬(j < ops.size ∧ listed.getD j true = false) := by
      intro n
      induction n with
      | zero => intro i hi h; exact ⟨i, h, fun j hj => by omega⟩
      | succ n ih =>
        intro i hi h
        by_cases hh : ∃ j, j < i ∧ (j < ops.size ∧ listed.getD j true = false)
        · obtain ⟨j, hj, h2⟩ := hh
          exact ih j (by omega) h2
        · exact ⟨i, h, fun j hj h2 => hh ⟨j, hj, h2⟩⟩
    obtain ⟨i, h⟩ := hex
    exact key i i (Nat.le_refl _) h
  have hoi : ops[i]? = some (ops[i]'hi) := by simp [hi]
  have : i ∈ Region.ready .any ops listed := by
    rw [mem_ready]
    refine ⟨hu, _, hoi, fun e he hb => ?_⟩
    have hlt := hd.lt i _ hoi e he hb
    have h1 := hmin e.on hlt
    have h2 : e.on < ops.size := by omega
    rw [← getD_true_false (by rw [hL.size]; exact h2)]
    cases hh : listed.getD e.on true with
    | true => rfl
    | false => exact absurd ⟨h2, hh⟩ h1
  intro h
  rw [h] at this
  cases this

theorem Seq.run {P : Program} {ops : Array Oper} {dm : List (List Nat)} (hd : Deps ops dm) {n : Nat} {τ : F} {ds : List Deferred} {Q : Exit → Act → World → Prop} :
    ∀ (fuel : Nat) (l : List (Nat × Res)) (listed : Array Bool) (σ : F) (w : World) (Φ : Bool → Nat → Prop) (tm : List Value) (ρ : Nat → List Value) (B : List Nat), l.length = fuel → Left ops dm listed l → (∀ x ∈ l, Loc P ops n x.1 x.2) → σ.sl.length = n → Seq σ l τ → Rel w Φ σ tm ρ B →
      (∀ tm' w' Φ' ρ' B', Rel w' Φ' τ tm' ρ' B' → Next w Φ ρ B w' Φ' ρ' B' → Q .normal ⟨tm'.toArray, ds⟩ w') → wpAny P .any ops Q fuel listed ⟨tm.toArray, ds⟩ w := by
  have fin : ∀ (listed : Array Bool) (σ : F) (w : World) (Φ : Bool → Nat → Prop) (tm : List Value) (ρ : Nat → List Value) (B : List Nat), Seq σ [] τ → Rel w Φ σ tm ρ B →
      (∀ tm' w' Φ' ρ' B', Rel w' Φ' τ tm' ρ' B' → Next w Φ ρ B w' Φ' ρ' B' → Q .normal ⟨tm'.toArray, ds⟩ w') → Q .normal ⟨tm.toArray, ds⟩ w := by
    intro listed σ w Φ tm ρ B hS hR hQ
    have hE : Eqv σ τ := hS
    obtain ⟨B', hR', hs⟩ := hR.perm (ob := τ.ob) hE.nd' (fun k => (hE.ob k).symm)
    rw [hE.sl] at hR'
    exact hQ _ _ _ _ _ hR' ((Next.refl w Φ ρ B).to_sub hs)
  intro fuel
  induction fuel with
  | zero =>
    intro l listed σ w Φ tm ρ B hlen hL hloc hn hS hR hQ
    have hl : l = [] := List.length_eq_zero_iff.mp hlen
    subst hl
    refine ⟨?_, fin listed σ w Φ tm ρ B hS hR hQ⟩
    cases hr : Region.ready .any ops listed with
    | nil => rfl
    | cons i r =>
      have hm : i ∈ Region.ready .any ops listed := by rw [hr]; simp
      obtain ⟨hu, oi, hoi, _⟩ := mem_ready.1 hm
      have := (hL.mem i (Array.getElem?_eq_some_iff.mp hoi).1).mp hu
      simp at this
  | succ fuel ih =>
    intro l listed σ w Φ tm ρ B hlen hL hloc hn hS hR hQ
    have hne : l ≠ [] := by rintro rfl; simp at hlen
    refine ⟨fun h => absurd h (ready_some hd hL hne), fun j hj => ?_⟩
    obtain ⟨hu, oj, hoj, hall⟩ := mem_ready.1 hj
    have hjs : j < ops.size := (Array.getElem?_eq_some_iff.mp hoj).1
    obtain ⟨x, hx, hxj⟩ := List.mem_map.mp ((hL.mem j hjs).mp hu)
    obtain ⟨i, R⟩ := x
    simp only at hxj
    subst hxj
    obtain ⟨l1, l2, rfl⟩ := List.append_of_mem hx
    have hp := hL.pairs
    rw [List.pairwise_append] at hp
    have hnd := hL.nd
    simp only [List.map_append, List.map_cons] at hnd
    have hind : ∀ y ∈ l1, Indep y.2 R := by
      intro y hy
      rcases hp.2.2 y hy (i, R) (by simp) with h | h
      · exfalso
        have h1 := dep_listed hd hL.closed (i + 1) i (Nat.lt_succ_self i) oj hoj hall y.1 h
        have h2 := (hL.mem y.1 (hL.lt y (by simp [hy]))).mpr (List.mem_map_of_mem (by simp [hy]))
        rw [getD_true_false (by rw [hL.size]; exact hL.lt y (by simp [hy])), h1] at h2
        cases h2
      · exact h
    obtain ⟨s1, s2⟩ := Seq.front hR.keys hS hind
    refine hloc (i, R) (by simp) σ w Φ tm ρ B ds _ Q hn s1 hR fun tm' w' Φ' ρ' B' hR' hN => ?_
    have hnotin : i ∉ (l1 ++ l2).map (·.1) := by
      rw [List.nodup_append] at hnd
      simp only [List.nodup_cons] at hnd
      simp only [List.map_append, List.mem_append, not_or]
      exact ⟨fun h => hnd.2.2 i h i (by simp) rfl, hnd.2.1.1⟩
    have hL' : Left ops dm (listed.setIfInBounds i true) (l1 ++ l2) := by
      refine ⟨by simp [hL.size], fun k hk => ?_, fun y hy => hL.lt y (by simp at hy ⊢; rcases hy with h | h <;> simp [h]), ?_, fun k ok hok hl e he hb => ?_, ?_⟩
      · by_cases hki : i = k
        · subst hki
          constructor
          · intro h; simp [show i < listed.size by rw [hL.size]; exact hk] at h
          · intro h; exact absurd h hnotin
        · rw [getD_set_ne true hki, hL.mem k hk]
          simp only [List.map_append, List.map_cons, List.mem_append, List.mem_cons]
          constructor
          · rintro (h | h | h)
            · exact .inl h
            · exact absurd h.symm hki
            · exact .inr h
          · rintro (h | h)
            · exact .inl h
            · exact .inr (.inr h)
      · rw [List.map_append]
        exact hnd.sublist (List.Sublist.append (List.Sublist.refl _) (List.sublist_cons_self _ _))
      · by_cases hki : i = k
        · subst hki
          rw [hoj] at hok
          cases hok
          exact getD_set_true (hall e he hb)
        · rw [getD_set_ne false hki] at hl
          exact getD_set_true (hL.closed k ok hok hl e he hb)
      · rw [List.pairwise_append]
        exact ⟨hp.1, (List.pairwise_cons.mp hp.2.1).2, fun a ha b hb => hp.2.2 a ha b (by simp [hb])⟩
    exact ih (l1 ++ l2) _ (R.app σ) w' Φ' tm' ρ' B' (by simp at hlen ⊢; omega) hL' (fun y hy => hloc y (by simp at hy ⊢; rcases hy with h | h <;> simp [h])) (by rw [app_length]; exact hn) s2 hR' fun tm2 w2 Φ2 ρ2 B2 a b => hQ _ _ _ _ _ a (hN.trans b)

section
variable {P : Program} {e : Env} {run : FuncId → List S → List O → Option (V × List (Option O))}

theorem drawRun_is (he : EnvOk P e) (hrun : RunOk P e run) {ops : Array Oper} : ∀ (os : List Oper) (i : Nat) (σ τ : F) (l : List (Nat × Res)), (∀ j, os[j]? = ops[i + j]?) → drawRun e run ops i os σ = some (l, τ) → (σ.ob.map (·.1)).Nodup →
    Seq σ l τ ∧ (∀ x ∈ l, Loc P ops σ.sl.length x.1 x.2) ∧ l.map (·.1) = (List.range os.length).map (i + ·)
  | [], i, σ, τ, l, _, h, hn => by
    simp only [drawRun, Option.some.injEq, Prod.mk.injEq] at h
    obtain ⟨rfl, rfl⟩ := h
    exact ⟨Eqv.refl hn, by simp, by simp⟩
  | o :: os, i, σ, τ, l, hos, h, hn => by
    simp only [drawRun] at h
    split at h
    · rename_i R hR
      split at h
      · rename_i l' τ' hl
        simp only [Option.some.injEq, Prod.mk.injEq] at h
        obtain ⟨rfl, rfl⟩ := h
        have ho : ops[i]? = some o := by have := hos 0; simpa using this.symm
        obtain ⟨h1, h2⟩ := res_is he hrun ho hR
        obtain ⟨h3, h4, h5⟩ := drawRun_is he hrun os (i + 1) (R.app σ) τ' l' (fun j => by have := hos (j + 1); simpa [Nat.add_assoc, Nat.add_comm 1 j] using this) hl (app_nd hn h1)
        refine ⟨⟨h1, h3⟩, fun x hx => ?_, ?_⟩
        · rcases List.mem_cons.mp hx with rfl | hx
          · exact h2
          · have := h4 x hx
            rw [app_length] at this
            exact this
        · simp only [List.map_cons, h5, List.length_cons, List.range_succ_eq_map, List.map_map, Nat.add_zero, List.cons.injEq, true_and]
          exact List.map_congr_left fun k _ => by simp; omega
      · cases h
    · cases h

theorem pairs_of {dm : List (List Nat)} : ∀ {l : List (Nat × Res)}, pairsB dm l = true → l.Pairwise (fun a b => a.1 ∈ dm.getD b.1 [] ∨ Indep a.2 b.2)
  | [], _ => List.Pairwise.nil
  | (i, R) :: l, h => by
    simp only [pairsB, Bool.and_eq_true] at h
    refine List.Pairwise.cons (fun b hb => ?_) (pairs_of h.2)
    have := List.all_eq_true.mp h.1 b hb
    simp only [Bool.or_eq_true] at this
    exact this.imp (fun h => by simpa using h) indep_of

theorem stillH_get : ∀ {hs : List (Nat × Nat)} {l : List (Nat × Res)}, stillH hs l → ∀ i k, hs.contains (i, k) = true → ∃ x, l[i]? = some x ∧ stillE x.2 k
  | [], l, _, i, k, h => by simp at h
  | (i', k') :: hs, l, hh, i, k, h => by
    simp only [stillH] at hh
    simp only [List.contains_cons, Bool.or_eq_true, beq_iff_eq, Prod.mk.injEq] at h
    rcases h with ⟨rfl, rfl⟩ | h
    · cases hx : l[i]? with
      | none => rw [hx] at hh; exact hh.1.elim
      | some x => rw [hx] at hh; exact ⟨x, rfl, hh.1⟩
    · exact stillH_get hh.2 i k h

theorem pairsH_of {hs : List (Nat × Nat)} {dm : List (List Nat)} : ∀ {l : List (Nat × Res)}, (∀ x ∈ l, ∀ k, hs.contains (x.1, k) = true → Still x.2 k) → pairsH hs dm l = true → l.Pairwise (fun a b => a.1 ∈ dm.getD b.1 [] ∨ Indep a.2 b.2)
  | [], _, _ => List.Pairwise.nil
  | (i, R) :: l, hs', h => by
    simp only [pairsH, Bool.and_eq_true] at h
    refine List.Pairwise.cons (fun b hb => ?_) (pairsH_of (fun x hx => hs' x (by simp [hx])) h.2)
    have := List.all_eq_true.mp h.1 b hb
    simp only [Bool.or_eq_true] at this
    exact this.imp (fun h => by simpa using h) (indepH_of (hs' (i, R) (by simp)) (hs' b (by simp [hb])))

theorem drawOk_of {ops : Array Oper} {l : List (Nat × Res)} (hids : l.map (·.1) = List.range ops.size) (h : DrawOk ops l) : depB ops (depMat ops.toList) = true ∧ l.Pairwise (fun a b => a.1 ∈ (depMat ops.toList).getD b.1 [] ∨ Indep a.2 b.2) := by
  cases h with
  | b h =>
    unfold drawB at h
    simp only [Bool.and_eq_true] at h
    exact ⟨h.1.2, pairs_of h.2⟩
  | h hs h1 h2 =>
    unfold drawH at h2
    simp only [Bool.and_eq_true] at h2
    refine ⟨h2.1.2, pairsH_of (fun x hx k hk => ?_) h2.2⟩
    obtain ⟨y, hy, hs⟩ := stillH_get h1 _ k hk
    obtain ⟨j, hj⟩ := List.mem_iff_getElem?.mp hx
    have e : x.1 = j := by
      have h3 : (l.map (·.1))[j]? = some x.1 := by rw [List.getElem?_map, hj]; rfl
      rw [hids] at h3
      rw [List.getElem?_range (by
        have := (List.getElem?_eq_some_iff.mp h3).1
        simpa using this)] at h3
      exact (Option.some.inj h3).symm
    rw [e, hj] at hy
    cases hy
    exact still_of hs

/-- A region that draws its order. -/
theorem ok_draw (he : EnvOk P e) (hrun : RunOk P e run) (hm : P.follows .mixedOrders = true) {id : Nat} {ops : Array Oper} {σ τ : F} {l : List (Nat × Res)} (h : drawRun e run ops 0 ops.toList σ = some (l, τ)) (hB : DrawOk ops l)
    (w : World) (Φ : Bool → Nat → Prop) (tm : List Value) (ρ : Nat → List Value) (B : List Nat) (ds : List Deferred) (Q : Exit → Act → World → Prop) (hR : Rel w Φ σ tm ρ B)
    (hQ : ∀ tm' w' Φ' ρ' B', Rel w' Φ' τ tm' ρ' B' → Next w Φ ρ B w' Φ' ρ' B' → Q .normal ⟨tm'.toArray, ds⟩ w') : (Code.region id ops true).wp P Q ⟨tm.toArray, ds⟩ w := by
  obtain ⟨h1, h2, h3⟩ := drawRun_is he hrun ops.toList 0 σ τ l (fun j => by simp) h hR.keys
  have hids : l.map (·.1) = List.range ops.size := by
    rw [h3]
    simp
  obtain ⟨hdb, hpb⟩ := drawOk_of hids hB
  have hlen : l.length = ops.size := by
    have := congrArg List.length hids
    simpa using this
  refine wp_region_any hm ?_
  rw [← hlen]
  have hR' : Rel { w with drawn := w.drawn + 1 } Φ σ tm ρ B := hR.keep (w' := { w with drawn := w.drawn + 1 }) ⟨fun _ _ h => h, fun _ _ _ => rfl, fun _ _ => rfl⟩ (Nat.le_refl _)
  refine Seq.run (deps_of hdb) l.length l _ σ _ Φ tm ρ B rfl ?_ h2 rfl h1 hR' fun tm' w' Φ' ρ' B' a b => hQ tm' w' Φ' ρ' B' a ?_
  · refine ⟨by simp [hlen], fun i hi => ?_, fun x hx => ?_, by rw [hids]; exact List.nodup_range, fun j oj _ hl => ?_, hpb⟩
    · rw [hids]
      simp only [List.mem_range, hi, iff_true]
      simp [hlen, hi]
    · have : x.1 ∈ l.map (·.1) := List.mem_map_of_mem hx
      rw [hids] at this
      simpa using this
    · simp only [Array.getD_eq_getD_getElem?] at hl
      by_cases hj : j < l.length
      · simp [hj] at hl
      · simp [hj] at hl
  · have n0 : Next w Φ ρ B { w with drawn := w.drawn + 1 } Φ ρ B := ⟨rfl, rfl, rfl, Nat.le_refl _, fun _ _ _ => rfl, fun _ h => .inl h, fun _ _ h => h, fun _ _ h => .inl h, fun _ h => .inl h, fun _ _ => rfl⟩
    exact n0.trans b

end

end Go.Proofs.YtckojpaklblnpaaDoor.Ev

/- Regions in their lexical order, and code. -/
set_option linter.unusedVariables false
set_option linter.unusedSimpArgs false
namespace Go.Proofs.YtckojpaklblnpaaDoor.Ev
open Go Go.RowKit

section
variable {P : Program} {e : Env} {run : FuncId → List S → List O → Option (V × List (Option O))}

/-- A list of operations, in its order. -/
theorem ok_ops (he : EnvOk P e) (hrun : RunOk P e run) (ops : Array Oper) : ∀ (l : List Oper) (σ σ' : F), opsOf e run ops σ l = some σ' →
    ∀ (w : World) (Φ : Bool → Nat → Prop) (tm : List Value) (ρ : Nat → List Value) (B : List Nat) (ds : List Deferred) (Q : Exit → Act → World → Prop), Rel w Φ σ tm ρ B →
      (∀ tm' w' Φ' ρ' B', Rel w' Φ' σ' tm' ρ' B' → Next w Φ ρ B w' Φ' ρ' B' → Q .normal ⟨tm'.toArray, ds⟩ w') → wpList P ops Q l ⟨tm.toArray, ds⟩ w
  | [], σ, σ', h, w, Φ, tm, ρ, B, ds, Q, hR, hQ => by
    simp only [opsOf, Option.some.injEq] at h
    subst h
    exact wpList_nil (hQ _ _ _ _ _ hR (Next.refl _ _ _ _))
  | o :: r, σ, σ', h, w, Φ, tm, ρ, B, ds, Q, hR, hQ => by
    simp only [opsOf] at h
    refine wpList_step fun K hK => ?_
    split at h
    · rename_i b hgd
      have hw := guard_is hgd hR
      cases b with
      | true =>
        rw [if_pos hw]
        simp only [if_true] at h
        split at h
        · rename_i σ1 h1
          refine (done_of he hrun o h1).ok w Φ tm ρ B ds K Q hR fun tm' w' Φ' ρ' B' hR' hn _ => hK _ _ ?_
          exact ok_ops he hrun ops r σ1 σ' h w' Φ' tm' ρ' B' ds Q hR' fun tm2 w2 Φ2 ρ2 B2 hR2 hn2 => hQ _ _ _ _ _ hR2 (hn.trans hn2)
        · cases h
      | false =>
        simp only [Bool.false_eq_true, if_false] at h
        rw [hw]
        simp only [Bool.false_eq_true, if_false]
        rw [act_put]
        refine hK _ _ ?_
        exact ok_ops he hrun ops r _ σ' h w Φ _ ρ B ds Q (hR.put o.dst (by simp only [SlotR])) hQ
    · cases h

def exOf : Ex → Exit
  | .normal => .normal
  | .exit id => .exit id
  | .ret => .ret

theorem keepAt_is (f : FuncId) (c : Code) {w : World} {Φ : Bool → Nat → Prop} {σ : F} {tm : List Value} {ρ : Nat → List Value} {B : List Nat} (h : Rel w Φ σ tm ρ B) : ∃ B', Rel w Φ (keepAt e f c σ) tm ρ B' ∧ ∀ b ∈ B', b ∈ B := by
  unfold keepAt
  split
  · exact h.forget _
  · exact ⟨B, h, fun _ hb => hb⟩

theorem ok_code (he : EnvOk P e) (hrun : RunOk P e run) (hm : P.follows .mixedOrders = true) (f : FuncId) (n : Nat) : ∀ (c : Code) (σ : F) (ex : Ex) (σ' : F), codeOf e run f n c σ = some (ex, σ') →
    ∀ (w : World) (Φ : Bool → Nat → Prop) (tm : List Value) (ρ : Nat → List Value) (B : List Nat) (ds : List Deferred) (Q : Exit → Act → World → Prop), Rel w Φ σ tm ρ B →
      (∀ tm' w' Φ' ρ' B', Rel w' Φ' σ' tm' ρ' B' → Next w Φ ρ B w' Φ' ρ' B' → Q (exOf ex) ⟨tm'.toArray, ds⟩ w') → c.wp P Q ⟨tm.toArray, ds⟩ w := by
  intro c
  induction c with
  | skip =>
    intro σ ex σ' h w Φ tm ρ B ds Q hR hQ
    simp only [codeOf, Option.some.injEq, Prod.mk.injEq] at h
    obtain ⟨rfl, rfl⟩ := h
    exact wp_skip (hQ _ _ _ _ _ hR (Next.refl _ _ _ _))
  | region id ops draw =>
    intro σ ex σ' h w Φ tm ρ B ds Q hR hQ
    cases draw with
    | false =>
      simp only [codeOf, Bool.false_eq_true, if_false, Option.map_eq_some_iff, Prod.mk.injEq] at h
      obtain ⟨σ1, h1, rfl, rfl⟩ := h
      obtain ⟨B0, hR0, hs⟩ := hR.forget (e.trim f id)
      exact wp_region_list (ok_ops he hrun ops ops.toList _ σ1 h1 w Φ tm ρ B0 ds Q hR0 fun tm' w' Φ' ρ' B' a b => hQ tm' w' Φ' ρ' B' a (((Next.refl w Φ ρ B).to_sub hs).trans b))
    | true =>
      simp only [codeOf, if_true] at h
      split at h
      · rename_i l τ h1
        unfold drawnF at h
        split at h
        · rename_i hB
          simp only [Option.some.injEq, Prod.mk.injEq] at h
          obtain ⟨rfl, rfl⟩ := h
          obtain ⟨B0, hR0, hs⟩ := hR.forget (e.trim f id)
          exact ok_draw he hrun hm h1 hB w Φ tm ρ B0 ds Q hR0 fun tm' w' Φ' ρ' B' a b => hQ tm' w' Φ' ρ' B' a (((Next.refl w Φ ρ B).to_sub hs).trans b)
        · cases h
      · cases h
  | seq a b iha ihb =>
    intro σ ex σ' h w Φ tm ρ B ds Q hR hQ
    simp only [codeOf] at h
    refine wp_seq ?_
    split at h
    · rename_i σ1 h1
      refine iha σ .normal σ1 h1 w Φ tm ρ B ds _ hR fun tm1 w1 Φ1 ρ1 B1 hR1 hn1 => ?_
      exact ihb σ1 ex σ' h w1 Φ1 tm1 ρ1 B1 ds Q hR1 fun tm2 w2 Φ2 ρ2 B2 hR2 hn2 => hQ _ _ _ _ _ hR2 (hn1.trans hn2)
    · rename_i hne
      refine iha σ ex σ' h w Φ tm ρ B ds _ hR fun tm1 w1 Φ1 ρ1 B1 hR1 hn1 => ?_
      have := hQ _ _ _ _ _ hR1 hn1
      cases ex with
      | normal => exact absurd h (by intro h; exact hne _ h)
      | exit id => exact this
      | ret => exact this
  | cond c x y ihx ihy =>
    intro σ ex σ' h w Φ tm ρ B ds Q hR hQ
    simp only [codeOf] at h
    split at h
    · rename_i b hb
      have hc := boolOf_is hb (hR.rd (ds := ds) c)
      refine wp_cond hc ?_
      cases b with
      | true => exact ihx σ ex σ' h w Φ tm ρ B ds Q hR hQ
      | false => exact ihy σ ex σ' h w Φ tm ρ B ds Q hR hQ
    · cases h
  | block id c ih =>
    intro σ ex σ' h w Φ tm ρ B ds Q hR hQ
    simp only [codeOf] at h
    refine wp_block ?_
    split at h
    · rename_i j σ1 h1
      refine ih σ (.exit j) σ1 h1 w Φ tm ρ B ds _ hR fun tm1 w1 Φ1 ρ1 B1 hR1 hn1 => ?_
      simp only [exOf, Exit.inBlock]
      split at h
      · rename_i hj
        simp only [Option.some.injEq, Prod.mk.injEq] at h
        obtain ⟨rfl, rfl⟩ := h
        rw [if_pos hj]
        exact hQ _ _ _ _ _ hR1 hn1
      · rename_i hj
        simp only [Option.some.injEq, Prod.mk.injEq] at h
        obtain ⟨rfl, rfl⟩ := h
        rw [if_neg hj]
        exact hQ _ _ _ _ _ hR1 hn1
    · rename_i hne
      refine ih σ ex σ' h w Φ tm ρ B ds _ hR fun tm1 w1 Φ1 ρ1 B1 hR1 hn1 => ?_
      have := hQ _ _ _ _ _ hR1 hn1
      cases ex with
      | normal => exact this
      | exit id => exact absurd h (by intro h; exact hne _ _ h)
      | ret => exact this
  | loop c ih =>
    intro σ ex σ' h w Φ tm ρ B ds Q hR hQ
    simp only [codeOf] at h
    refine wp_loop_ghost (fun k a w1 => ∃ σ1 tm1 Φ1 ρ1 B1, a = ⟨tm1.toArray, ds⟩ ∧ Rel w1 Φ1 σ1 tm1 ρ1 B1 ∧ Next w Φ ρ B w1 Φ1 ρ1 B1 ∧ iter (round e f c (codeOf e run f n c)) k σ1 = some (ex, σ')) n ⟨σ, tm, Φ, ρ, B, rfl, hR, Next.refl _ _ _ _, h⟩ ?_
    rintro k a w1 ⟨σ1, tm1, Φ1, ρ1, B1, rfl, hR0, hn1, hi⟩
    obtain ⟨B0, hR1, hs⟩ := keepAt_is (e := e) f c hR0
    have hn1 := hn1.to_sub hs
    cases k with
    | zero => simp [iter] at hi
    | succ k =>
      simp only [iter, round] at hi
      split at hi
      · rename_i σ2 h2
        refine ih _ .normal σ2 h2 w1 Φ1 tm1 ρ1 B0 ds _ hR1 fun tm2 w2 Φ2 ρ2 B2 hR2 hn2 => ?_
        exact ⟨k, Nat.lt_succ_self k, σ2, tm2, Φ2, ρ2, B2, rfl, hR2, hn1.trans hn2, hi⟩
      · rename_i hne
        refine ih _ ex σ' hi w1 Φ1 tm1 ρ1 B0 ds _ hR1 fun tm2 w2 Φ2 ρ2 B2 hR2 hn2 => ?_
        have := hQ _ _ _ _ _ hR2 (hn1.trans hn2)
        cases ex with
        | normal => exact absurd hi (by intro h; exact hne _ h)
        | exit id => exact this
        | ret => exact this
  | exit id =>
    intro σ ex σ' h w Φ tm ρ B ds Q hR hQ
    simp only [codeOf, Option.some.injEq, Prod.mk.injEq] at h
    obtain ⟨rfl, rfl⟩ := h
    exact wp_exit (hQ _ _ _ _ _ hR (Next.refl _ _ _ _))
  | ret =>
    intro σ ex σ' h w Φ tm ρ B ds Q hR hQ
    simp only [codeOf, Option.some.injEq, Prod.mk.injEq] at h
    obtain ⟨rfl, rfl⟩ := h
    exact wp_ret (hQ _ _ _ _ _ hR (Next.refl _ _ _ _))
  | scope c ih =>
    intro σ ex σ' h w Φ tm ρ B ds Q hR hQ
    simp only [codeOf] at h
    refine wp_scope_straight ?_
    refine ih σ ex σ' h w Φ tm ρ B ds _ hR fun tm1 w1 Φ1 ρ1 B1 hR1 hn1 => ?_
    have := hQ _ _ _ _ _ hR1 hn1
    cases ex <;> exact this
  | _ => intro σ ex σ' h; simp [codeOf] at h

end

end Go.Proofs.YtckojpaklblnpaaDoor.Ev

/- Arguments of a call: what is handed over, lent, read. -/
set_option linter.unusedVariables false
set_option linter.unusedSimpArgs false
namespace Go.Proofs.YtckojpaklblnpaaDoor.Ev
open Go Go.RowKit

theorem SlotRs.append {w : World} {Φ : Bool → Nat → Prop} {ob : List (Nat × O)} {ρ : Nat → List Value} : ∀ {xs ys : List S} {us vs : List Value}, SlotRs w Φ ob ρ xs us → SlotRs w Φ ob ρ ys vs → SlotRs w Φ ob ρ (xs ++ ys) (us ++ vs)
  | [], ys, us, vs, h, k => by simp only [SlotRs] at h; subst h; exact k
  | x :: xs, ys, us, vs, h, k => by
    simp only [SlotRs] at h
    obtain ⟨v, us', rfl, h2, h3⟩ := h
    simp only [List.cons_append, SlotRs]
    exact ⟨v, us' ++ vs, rfl, h2, h3.append k⟩

theorem SlotRs.take {w : World} {Φ : Bool → Nat → Prop} {ob : List (Nat × O)} {ρ : Nat → List Value} : ∀ {xs : List S} {us : List Value}, SlotRs w Φ ob ρ xs us → ∀ n, SlotRs w Φ ob ρ (xs.take n) (us.take n)
  | [], us, h, n => by simp only [SlotRs] at h; subst h; simp only [List.take_nil, SlotRs]
  | x :: xs, us, h, 0 => by simp only [List.take_zero, SlotRs]
  | x :: xs, us, h, n + 1 => by
    simp only [SlotRs] at h
    obtain ⟨v, us', rfl, h2, h3⟩ := h
    simp only [List.take_succ_cons, SlotRs]
    exact ⟨v, _, rfl, h2, h3.take n⟩

theorem SlotRs.drop {w : World} {Φ : Bool → Nat → Prop} {ob : List (Nat × O)} {ρ : Nat → List Value} : ∀ {xs : List S} {us : List Value}, SlotRs w Φ ob ρ xs us → ∀ n, SlotRs w Φ ob ρ (xs.drop n) (us.drop n)
  | [], us, h, n => by simp only [SlotRs] at h; subst h; simp only [List.drop_nil, SlotRs]
  | x :: xs, us, h, 0 => by simpa only [List.drop_zero] using h
  | x :: xs, us, h, n + 1 => by
    simp only [SlotRs] at h
    obtain ⟨v, us', rfl, h2, h3⟩ := h
    simp only [List.drop_succ_cons]
    exact h3.drop n

theorem Rel.more {w : World} {Φ : Bool → Nat → Prop} {σ : F} {tm : List Value} {ρ : Nat → List Value} {B : List Nat} (h : Rel w Φ σ tm ρ B) {xs : List S} {vs : List Value} (hx : SlotRs w Φ σ.ob ρ xs vs) : Rel w Φ { σ with sl := σ.sl ++ xs } (tm ++ vs) ρ B :=
  { h with slots := h.slots.append hx }

theorem Rel.push {w : World} {Φ : Bool → Nat → Prop} {σ : F} {tm : List Value} {ρ : Nat → List Value} {B : List Nat} (h : Rel w Φ σ tm ρ B) {s : S} {v : Value} (hs : SlotR w Φ σ.ob ρ s v) : Rel w Φ (σ.push s) (tm ++ [v]) ρ B :=
  h.more (by simp only [SlotRs]; exact ⟨v, [], rfl, hs, rfl⟩)

theorem Rel.short {w : World} {Φ : Bool → Nat → Prop} {σ : F} {tm : List Value} {ρ : Nat → List Value} {B : List Nat} (h : Rel w Φ σ tm ρ B) (n : Nat) : Rel w Φ { σ with sl := σ.sl.take n } (tm.take n) ρ B :=
  { h with slots := h.slots.take n }

/-- What is not in the objects may be told as one likes. -/
theorem Rel.rho {w : World} {Φ : Bool → Nat → Prop} {σ : F} {tm : List Value} {ρ ρ' : Nat → List Value} {B : List Nat} (h : Rel w Φ σ tm ρ B) (hρ : ∀ k ∈ σ.ob.map (·.1), ρ' k = ρ k) : Rel w Φ σ tm ρ' B where
  obs := h.obs.keep (Keeps.refl _ _ _) hρ
  nd := h.nd
  keys := h.keys
  disj := h.disj
  lt := h.lt
  ltΦ := h.ltΦ
  sub := h.sub
  slots := by
    have C := carry_same (w' := w) (Φ' := Φ) (ρ' := ρ') (ob' := σ.ob) h.obs h.keys (Keeps.refl _ _ _) (fun k o hl => ⟨hl, hρ k (look_mem hl)⟩)
    exact C.slots σ.sl tm h.slots

theorem slot_at {w : World} {Φ : Bool → Nat → Prop} {σ : F} {tm : List Value} {ρ : Nat → List Value} {B : List Nat} (h : Rel w Φ σ tm ρ B) {t : Nat} {s : S} (hs : σ.at_ t = s) (hd : s ≠ .dead) : ∃ v, tm[t]? = some v ∧ t < σ.sl.length ∧ SlotR w Φ σ.ob ρ s v := by
  have h1 := h.slots.get t
  have hl := h.slots.length
  unfold F.at_ at hs
  rw [hs] at h1
  rcases Nat.lt_or_ge t σ.sl.length with hlt | hge
  · refine ⟨tm[t]'(by omega), by simp, hlt, ?_⟩
    rw [List.getD_eq_getElem?_getD, List.getElem?_eq_getElem (by omega)] at h1
    exact h1
  · rw [List.getD_eq_getElem?_getD, List.getElem?_eq_none hge] at hs
    exact absurd hs.symm hd

theorem Rel.put_at {w : World} {Φ : Bool → Nat → Prop} {σ : F} {tm : List Value} {ρ : Nat → List Value} {B : List Nat} (h : Rel w Φ σ tm ρ B) {t : Nat} {s : S} {v : Value} (hv : tm[t]? = some v) (hs : SlotR w Φ σ.ob ρ s v) : Rel w Φ (σ.put (some t) s) tm ρ B := by
  have := h.put (some t) hs
  have e : putL tm (some t) v = tm := by
    simp only [putL]
    obtain ⟨hlt, rfl⟩ := List.getElem?_eq_some_iff.mp hv
    exact List.set_getElem_self hlt
  rw [e] at this
  exact this

theorem killAlls_length (k : Nat) : ∀ l : List S, (killAlls k l).length = l.length
  | [] => rfl
  | s :: r => by simp [killAlls, killAlls_length k r]

theorem killAts_length (k : Nat) (p : List (Nat × Nat)) (off n : Nat) : ∀ l : List S, (killAts k p off n l).length = l.length
  | [] => rfl
  | s :: r => by simp [killAts, killAts_length k p off n r]

/-- A place becomes an object of its own. -/
theorem lend_is {w : World} {Φ : Bool → Nat → Prop} {σ σ' : F} {tm : List Value} {ρ : Nat → List Value} {B : List Nat} {t tk : Nat} {pls : List (Nat × Nat)} (h : Rel w Φ σ tm ρ B) (hl : σ.lend t tk = some (σ', pls)) :
    ∃ gh ρ' B', Rel w Φ σ' (tm ++ gh) ρ' B' ∧ (∀ b ∈ B', b ∈ B) ∧ (∀ k, k ≠ tk → ρ' k = ρ k) ∧ (∀ pl ∈ pls, pl.2 = tk ∧ (tm ++ gh)[pl.1]? = some (.agg (ρ' tk).toArray)) ∧ σ'.sl.length = σ.sl.length + gh.length := by
  unfold F.lend at hl
  split at hl
  · rename_i k p off n ag hat
    split at hl
    · rename_i o hlo
      split at hl
      · simp only [Option.some.injEq, Prod.mk.injEq] at hl
        obtain ⟨rfl, rfl⟩ := hl
        exact ⟨[], ρ, B, by simpa using h, fun _ hb => hb, fun _ _ => rfl, by simp, by simp⟩
      · split at hl
        · rename_i cs hc
          split at hl
          · rename_i σ1 hw
            split at hl
            · rename_i hcond
              simp only [Bool.and_eq_true, Option.isNone_iff_eq_none, decide_eq_true_eq] at hcond
              simp only [Option.some.injEq, Prod.mk.injEq] at hl
              obtain ⟨rfl, rfl⟩ := hl
              obtain ⟨v, hv, hlt, hs⟩ := slot_at h hat (by simp)
              simp only [SlotR] at hs
              obtain ⟨o1, vs, q1, q2, q3, q4⟩ := hs
              obtain ⟨o2, vs2, Bc, c1, c2, c3, c4, c5, c6, c7⟩ := h.cells hc
              rw [hlo] at q1 c1; cases q1; cases c1
              rw [q2] at c2; cases c2
              obtain ⟨o3, r, cs', w1, w2, w3, w4, w5, rfl⟩ := write_some hw
              rw [hlo] at w1; cases w1
              obtain ⟨g, a, cur, et, fz, a1, a2, a3, a4, a5⟩ := c7 w2
              have hlen : (cs.map fun c => if c.free then c else C.hole).length = n := by simp [c6]
              have hov := h.over (w' := w) (new := cs.map fun c => if c.free then c else C.hole) (nv := (vs.drop off).take n) (L := []) hlo w3 w2 w4 w5 a1 a2 a2 rfl (fun _ _ => rfl) (by rw [hlen]; exact a5.symm) (fun _ _ => rfl) rfl (holes_is c5) Loose.nil
              obtain ⟨B1, Y, vs', r1, r2, r3, r4, r5, r6, _⟩ := hov
              rw [q2] at r2; cases r2
              obtain ⟨o4, r', d1, d2, d3, d4⟩ := cells_some hc
              rw [hlo] at d1; cases d1
              rw [w3] at d2; cases d2
              rw [hlen, ← d4] at r3
              -- the place in the state with holes
              obtain ⟨Bk, hBk, hndk, hck⟩ := h.look hlo
              have hpath := write_path (new := cs.map fun c => if c.free then c else C.hole) (w' := w) (off := off) a2 a2 rfl p o.cells (ρ k) Bk r a cs' hck hndk w3 w2 a1 (fun _ _ => rfl) (fun _ _ _ => rfl) w4 w5
              obtain ⟨X9, hvals⟩ := hpath
              clear X9
              have hpl := place p o.cells (ρ k) Bk r hck hndk w3 w2
              obtain ⟨g9, a9, cur9, e9, fz9, _, _, _, rv9, p1, p2, _, _, p5, _, p7, p8, _, _⟩ := hpl
              rw [a1] at p1; simp only [Option.some.injEq, Prod.mk.injEq] at p1; obtain ⟨rfl, rfl⟩ := p1
              rw [a2] at p5; simp only [Option.some.injEq, Obj.cells.injEq] at p5; obtain ⟨rfl, rfl, rfl⟩ := p5
              rw [q2] at p2; cases p2
              rw [← p8] at hvals
              have hlp : look (put_ σ.ob k { o with cells := cs' }) k = some { o with cells := cs' } := by rw [look_put, if_pos rfl, hlo]; rfl
              have hg1 : SlotR w Φ (put_ σ.ob k { o with cells := cs' }) ρ (.vw k p off n true) (.agg ((vs.drop off).take n).toArray) := by
                simp only [SlotR]
                exact ⟨_, vs, hlp, hvals, q3, rfl⟩
              have hR2 := r1.push hg1
              have hvl : ((vs.drop off).take n).length = n := c5.length.trans c6
              have hdt : (((vs.drop off).take n).drop 0).take n = (vs.drop off).take n := by rw [List.drop_zero]; exact List.take_of_length_le (by omega)
              obtain ⟨B', hR3, hs3⟩ := hR2.new tk { cells := cs } ((vs.drop off).take n) Y r3 r4
              refine ⟨[.agg ((vs.drop off).take n).toArray], _, _, hR3.put_at (t := t) (v := v) ?_ ?_, ?_, ?_, ?_, ?_⟩
              · rw [List.getElem?_append_left (by rw [h.slots.length]; exact hlt)]; exact hv
              · simp only [SlotR]
                refine ⟨{ cells := cs }, (vs.drop off).take n, by simp [F.new, Ev.look], by simp [valsAt], by omega, ?_⟩
                rw [hdt]
                exact q4
              · intro b hb
                rcases List.mem_append.mp hb with hb | hb
                · exact r6 b hb
                · exact (r5 b (hs3.subset hb)).elim id (by simp)
              · intro j hj
                simp [hj]
              · intro pl hpl
                simp only [List.mem_singleton] at hpl
                subst hpl
                refine ⟨rfl, ?_⟩
                rw [← h.slots.length]
                simp
              · simp [F.put, F.new, F.push, killAlls_length, killAts_length]
            · cases hl
          · cases hl
        · cases hl
    · cases hl
  · simp only [Option.some.injEq, Prod.mk.injEq] at hl
    obtain ⟨rfl, rfl⟩ := hl
    exact ⟨[], ρ, B, by simpa using h, fun _ hb => hb, fun _ _ => rfl, by simp, by simp⟩

theorem lendArgs_is {w : World} {Φ : Bool → Nat → Prop} {how : Nat → Nat} {n0 : Nat} : ∀ (m i : Nat) {σ σ' : F} {tm : List Value} {ρ : Nat → List Value} {B : List Nat} {pls : List (Nat × Nat)}, Rel w Φ σ tm ρ B → lendArgs how n0 m i σ = some (σ', pls) →
    ∃ gh ρ' B', Rel w Φ σ' (tm ++ gh) ρ' B' ∧ (∀ b ∈ B', b ∈ B) ∧ (∀ k, k < keyOf (100000 + i) 0 → ρ' k = ρ k) ∧ (∀ pl ∈ pls, keyOf (100000 + i) 0 ≤ pl.2 ∧ (tm ++ gh)[pl.1]? = some (.agg (ρ' pl.2).toArray)) ∧ σ'.sl.length = σ.sl.length + gh.length
  | 0, i, σ, σ', tm, ρ, B, pls, h, hl => by
    simp only [lendArgs, Option.some.injEq, Prod.mk.injEq] at hl
    obtain ⟨rfl, rfl⟩ := hl
    exact ⟨[], ρ, B, by simpa using h, fun _ hb => hb, fun _ _ => rfl, by simp, by simp⟩
  | m + 1, i, σ, σ', tm, ρ, B, pls, h, hl => by
    simp only [lendArgs] at hl
    split at hl
    · split at hl
      · rename_i σ1 pl h1
        split at hl
        · rename_i σ2 pls2 h2
          simp only [Option.some.injEq, Prod.mk.injEq] at hl
          obtain ⟨rfl, rfl⟩ := hl
          obtain ⟨g1, ρ1, B1, r1, r2, r3, r4, r5⟩ := lend_is h h1
          obtain ⟨g2, ρ2, B2, s1, s2, s3, s4, s5⟩ := lendArgs_is m (i + 1) r1 h2
          have hlt : keyOf (100000 + i) 0 < keyOf (100000 + (i + 1)) 0 := by unfold keyOf; omega
          rw [List.append_assoc] at s1 s4
          refine ⟨g1 ++ g2, ρ2, B2, s1, fun b hb => r2 b (s2 b hb), fun k hk => ?_, fun q hq => ?_, by rw [s5, r5, List.length_append]; omega⟩
          · rw [s3 k (Nat.lt_trans hk hlt), r3 k (Nat.ne_of_lt hk)]
          · rcases List.mem_append.mp hq with hq | hq
            · obtain ⟨e1, e2⟩ := r4 q hq
              refine ⟨by rw [e1]; exact Nat.le_refl _, ?_⟩
              rw [e1, s3 _ hlt, ← List.append_assoc]
              have hlt2 := (List.getElem?_eq_some_iff.mp e2).1
              rw [List.getElem?_append_left hlt2]
              exact e2
            · obtain ⟨e1, e2⟩ := s4 q hq
              exact ⟨Nat.le_trans (Nat.le_of_lt hlt) e1, e2⟩
        · cases hl
      · cases hl
    · obtain ⟨g2, ρ2, B2, s1, s2, s3, s4, s5⟩ := lendArgs_is m (i + 1) h hl
      have hlt : keyOf (100000 + i) 0 < keyOf (100000 + (i + 1)) 0 := by unfold keyOf; omega
      exact ⟨g2, ρ2, B2, s1, s2, fun k hk => s3 k (Nat.lt_trans hk hlt), fun q hq => ⟨Nat.le_trans (Nat.le_of_lt hlt) (s4 q hq).1, (s4 q hq).2⟩, s5⟩

/-- What was lent comes back. -/
theorem unlend_is {w : World} {Φ : Bool → Nat → Prop} {σ σ' : F} {tm : List Value} {ρ : Nat → List Value} {B : List Nat} {pl : Nat × Nat} (h : Rel w Φ σ tm ρ B) (hg : tm[pl.1]? = some (.agg (ρ pl.2).toArray)) (hu : σ.unlend pl = some σ') :
    ∃ B', Rel w Φ σ' tm ρ B' ∧ ∀ b ∈ B', b ∈ B := by
  unfold F.unlend at hu
  split at hu
  · simp only [Option.some.injEq] at hu
    subst hu
    exact ⟨B, h, fun _ hb => hb⟩
  · rename_i o ho
    split at hu
    · rename_i k p off n hat
      split at hu
      · rename_i hc
        obtain ⟨hn, hkk⟩ := hc
        obtain ⟨v, hv, _, hs⟩ := slot_at h hat (by simp)
        rw [hg] at hv
        simp only [Option.some.injEq] at hv
        subst hv
        simp only [SlotR, if_true] at hs
        obtain ⟨o1, vs, q1, q2, q3, q4⟩ := hs
        simp only [Value.agg.injEq] at q4
        have q5 : ρ pl.2 = (vs.drop off).take n := by simpa using congrArg Array.toList q4
        obtain ⟨B1, r1, r2, r3⟩ := h.del pl.2
        obtain ⟨L, l1, l2, l3⟩ := r3 o ho
        obtain ⟨o2, r, cs', w1, w2, w3, w4, w5, rfl⟩ := write_some hu
        have hl1 : look (σ.del pl.2).ob k = look σ.ob k := by
          simp only [F.del]
          rw [look_drop h.keys, if_neg hkk]
        have hlo1 := hl1.symm.trans w1
        rw [q1] at hlo1; cases hlo1
        have hcells : (σ.del pl.2).cells k p off o.cells.length = some ((r.drop off).take o.cells.length) := by
          unfold F.cells
          simp only [w1, w3, if_pos w4]
        obtain ⟨o3, vs3, Bc, c1, c2, c3, c4, c5, c6, c7⟩ := r1.cells hcells
        rw [w1] at c1; cases c1
        rw [q2] at c2; cases c2
        obtain ⟨g, a, cur, et, fz, a1, a2, a3, a4, a5⟩ := c7 w2
        rw [hn] at a5
        have hov := r1.over (w' := w) (new := o.cells) (nv := ρ pl.2) (L := L) w1 w3 w2 w4 w5 a1 a2 a2 rfl (fun _ _ => rfl) (by rw [hn, ← a5, q5]) (fun _ _ => rfl) rfl l1 l2
        obtain ⟨B', Y, vs', t1, _, _, _, t5, _, _⟩ := hov
        exact ⟨B', t1, fun b hb => (t5 b hb).elim (fun hh => r2.subset hh) (l3 b)⟩
      · cases hu
    · cases hu

theorem unlendAll_is {w : World} {Φ : Bool → Nat → Prop} {tm : List Value} {ρ : Nat → List Value} : ∀ {pls : List (Nat × Nat)} {σ σ' : F} {B : List Nat}, Rel w Φ σ tm ρ B → (∀ pl ∈ pls, tm[pl.1]? = some (.agg (ρ pl.2).toArray)) → unlendAll σ pls = some σ' →
    ∃ B', Rel w Φ σ' tm ρ B' ∧ ∀ b ∈ B', b ∈ B
  | [], σ, σ', B, h, _, hu => by
    simp only [unlendAll, Option.some.injEq] at hu
    subst hu
    exact ⟨B, h, fun _ hb => hb⟩
  | pl :: r, σ, σ', B, h, hg, hu => by
    simp only [unlendAll] at hu
    split at hu
    · rename_i σ1 h1
      obtain ⟨B1, r1, r2⟩ := unlendAll_is h (fun q hq => hg q (by simp [hq])) h1
      obtain ⟨B2, s1, s2⟩ := unlend_is r1 (hg pl (by simp)) hu
      exact ⟨B2, s1, fun b hb => r2 b (s2 b hb)⟩
    · cases hu

/-! ### what is handed over to be read -/

mutual
theorem ok_keys {tv tp : Nat → List (Nat × Nat) → Bool} : ∀ (s : S), (∀ k ∈ s.keys, ∀ p, tv k p = true ∧ tp k p = true) → S.ok tv tp s = true
  | .vw k p _ _ _, h => by simp only [S.ok]; exact (h k (by simp [S.keys]) p).1
  | .sub k p _ _ _ _, h => by simp only [S.ok]; exact (h k (by simp [S.keys]) p).1
  | .ptr k p _, h => by simp only [S.ok]; exact (h k (by simp [S.keys]) p).2
  | .fn _ caps, h => by simp only [S.ok]; exact oks_keys caps (by simpa only [S.keys] using h)
  | .tup xs, h => by simp only [S.ok]; exact oks_keys xs (by simpa only [S.keys] using h)
  | .dead, _ | .undef, _ | .nils, _ | .lit _, _ | .val _ _, _ | .agg _ _, _ | .pt _ _, _ => by simp only [S.ok]
theorem oks_keys {tv tp : Nat → List (Nat × Nat) → Bool} : ∀ (ss : List S), (∀ k ∈ S.keyss ss, ∀ p, tv k p = true ∧ tp k p = true) → S.oks tv tp ss = true
  | [], _ => rfl
  | s :: r, h => by
    simp only [S.keyss, List.mem_append] at h
    simp only [S.oks, ok_keys s (fun k hk => h k (.inl hk)), oks_keys r (fun k hk => h k (.inr hk)), Bool.and_self]
end

/-- The objects of a list of keys. -/
def zipO : List Nat → List O → List (Nat × O)
  | k :: ks, o :: os => (k, o) :: zipO ks os
  | _, _ => []

theorem looks_zip : ∀ {ks : List Nat} {ob : List (Nat × O)} {os : List O}, looks ob ks = some os → os.length = ks.length ∧ (zipO ks os).map (·.1) = ks ∧ ∀ k o, look (zipO ks os) k = some o → look ob k = some o
  | [], ob, os, h => by
    simp only [looks, Option.some.injEq] at h
    subst h
    exact ⟨rfl, rfl, fun k o h => by simp [zipO, look] at h⟩
  | k :: r, ob, os, h => by
    simp only [looks] at h
    split at h
    · rename_i o os' h1 h2
      simp only [Option.some.injEq] at h
      subst h
      obtain ⟨e1, e2, e3⟩ := looks_zip h2
      refine ⟨by simp [e1], by simp [zipO, e2], fun j oj hj => ?_⟩
      simp only [zipO, look] at hj
      split at hj
      · rename_i hkj
        simp only [Option.some.injEq] at hj
        subst hj hkj
        exact h1
      · exact e3 j oj hj
    · cases h

theorem dedup_mem {l : List Nat} {k : Nat} : k ∈ dedup l ↔ k ∈ l := by
  induction l with
  | nil => simp [dedup]
  | cons x r ih =>
    simp only [dedup]
    split
    · rename_i hc
      rw [ih]
      constructor
      · intro h; simp [h]
      · intro h
        rcases List.mem_cons.mp h with rfl | h
        · simpa using hc
        · exact h
    · simp [ih]

theorem dedup_nodup : ∀ (l : List Nat), (dedup l).Nodup
  | [] => by simp [dedup]
  | x :: r => by
    simp only [dedup]
    split
    · exact dedup_nodup r
    · rename_i hc
      exact List.nodup_cons.mpr ⟨fun h => hc (by simpa using dedup_mem.mp h), dedup_nodup r⟩

/-- The callee's read-only memory: what is so anyway; while something is lent, whatever the caller keeps. -/
def lentΦ (Φ : Bool → Nat → Prop) (bs B2 : List Nat) : Bool → Nat → Prop := fun x b => Φ x b ∨ (bs ≠ [] ∧ x = true ∧ b ∈ B2)

theorem borrow_is {w : World} {Φ : Bool → Nat → Prop} {σ : F} {tm : List Value} {ρ : Nat → List Value} {B B2 : List Nat} {ks bs0 bs : List Nat} {ob : List (Nat × O)} (h : Rel w Φ σ tm ρ B) (h2 : Rel w Φ { sl := [], ob := dropAll ks σ.ob } [] ρ B2) (hap : ∀ k ∈ bs, k ∉ ks) (hbs : bs ≠ [] → bs0 ≠ [])
    (hob : ∀ k o, look σ.ob k = some o → k ∈ ks → look ob k = some o) {s x : S} {v : Value} (hx : σ.borrow s = some (x, bs)) (hk : ∀ k ∈ x.keys, k ∈ ks) (hs : SlotR w Φ σ.ob ρ s v) : SlotR w (lentΦ Φ bs0 B2) ob ρ x v := by
  have over : ∀ (y : S), (∀ k ∈ y.keys, k ∈ ks) → SlotR w Φ σ.ob ρ y v → SlotR w (lentΦ Φ bs0 B2) ob ρ y v := by
    intro y hy hs
    have C : Over w w Φ (lentΦ Φ bs0 B2) σ.ob ob ρ ρ (fun k _ => ks.contains k) (fun k _ => ks.contains k) := ⟨fun _ _ hb => .inl hb, fun _ _ _ => rfl,
      fun k p hk o vs hl hv => ⟨o, hob k o hl (by simpa using hk), hv⟩, fun k p hk o g a hl hv => ⟨o, hob k o hl (by simpa using hk), hv⟩⟩
    exact C.slot y v (ok_keys y fun k hk p => by simp [hy k hk]) hs
  have lower : ∀ (k : Nat), k ∉ ks → ∀ (y : S), (∀ j ∈ y.keys, j = k) → SlotR w Φ σ.ob ρ y v → SlotR w Φ (dropAll ks σ.ob) ρ y v := by
    intro k hk y hy hs
    have C : Over w w Φ Φ σ.ob (dropAll ks σ.ob) ρ ρ (fun j _ => !ks.contains j) (fun j _ => !ks.contains j) := ⟨fun _ _ hb => hb, fun _ _ _ => rfl,
      fun j p hj o vs hl hv => ⟨o, by rw [look_dropAll]; simp only [Bool.not_eq_true'] at hj; rw [hj]; exact hl, hv⟩, fun j p hj o g a hl hv => ⟨o, by rw [look_dropAll]; simp only [Bool.not_eq_true'] at hj; rw [hj]; exact hl, hv⟩⟩
    exact C.slot y v (ok_keys y fun j hj p => by rw [hy j hj]; simp [hk]) hs
  have read : ∀ (k : Nat), k ∉ ks → bs = [k] → ∀ (y : S) (ts : List T), (∀ j ∈ y.keys, j = k) → σ.freeOf y = some ts → SlotR w Φ σ.ob ρ y v → IsTs w (lentΦ Φ bs0 B2 true) ts v.cells.toList := by
    intro k hk hbk y ts hy hf hs
    have e : F.freeOf { sl := [], ob := dropAll ks σ.ob } y = some ts := by
      rw [freeOf_congr (σ := σ)]
      · exact hf
      · intro j hj
        rw [hy j hj]
        simp only
        rw [look_dropAll, if_neg (by simpa using hk)]
    have := freeOf_is h2 e (lower k hk y hy hs)
    refine IsTs.mono (fun b hb => ?_) (fun _ _ => rfl) _ _ this
    rcases hb with hb | hb
    · exact .inl hb
    · exact .inr ⟨hbs (by rw [hbk]; simp), rfl, hb⟩
  unfold F.borrow at hx
  split at hx
  · rename_i k p off n ag
    split at hx
    · rename_i ts hts
      simp only [Option.some.injEq, Prod.mk.injEq] at hx
      obtain ⟨rfl, rfl⟩ := hx
      have hr := read k (hap k (by simp)) rfl _ ts (by simp [S.keys]) hts hs
      simp only [SlotR] at hs
      obtain ⟨o, vs, q1, q2, q3, q4⟩ := hs
      cases ag with
      | true =>
        simp only [if_true] at q4
        subst q4
        exact ofT_is hr (by simp [valOf, Value.cells])
      | false =>
        simp only [Bool.false_eq_true, if_false] at q4
        simp only [F.freeOf] at hts
        split at hts
        · rename_i cs hc
          obtain ⟨o', vs', Bc, c1, c2, c3, c4, c5, c6, _⟩ := h.cells hc
          rw [q1] at c1; cases c1
          rw [q2] at c2; cases c2
          have e : v.cells.toList = [v] := by rw [vw_cells (ag := false) c5 (by simpa using q4), q4]
          rw [e] at hr
          exact ofT_is hr (by simp [valOf])
        · cases hts
    · cases hx
  · rename_i k p off sz lo hi
    split at hx
    · rename_i ts hts
      simp only [Option.some.injEq, Prod.mk.injEq] at hx
      obtain ⟨rfl, rfl⟩ := hx
      have hr := read k (hap k (by simp)) rfl _ ts (by simp [S.keys]) hts hs
      simp only [SlotR] at hs
      obtain ⟨o, vs, a, len, cap, _, _, _, _, _, _, _, a', _, rfl⟩ := hs
      rw [one_cells (one_slice _ _ _)] at hr
      exact ofT_is hr (by simp [valOf])
    · cases hx
  · simp only [Option.some.injEq, Prod.mk.injEq] at hx
    obtain ⟨rfl, rfl⟩ := hx
    exact over s hk hs

theorem borrowAll_is {w : World} {Φ : Bool → Nat → Prop} {σ : F} {tm : List Value} {ρ : Nat → List Value} {B B2 : List Nat} {ks bs0 : List Nat} {ob : List (Nat × O)} {how : Nat → Nat} (h : Rel w Φ σ tm ρ B) (h2 : Rel w Φ { sl := [], ob := dropAll ks σ.ob } [] ρ B2)
    (hob : ∀ k o, look σ.ob k = some o → k ∈ ks → look ob k = some o) : ∀ {ss xs : List S} {i : Nat} {bs : List Nat} {vs : List Value}, borrowAll how σ i ss = some (xs, bs) → (∀ k ∈ bs, k ∉ ks) → (bs ≠ [] → bs0 ≠ []) → (∀ k ∈ S.keyss xs, k ∈ ks) → SlotRs w Φ σ.ob ρ ss vs → SlotRs w (lentΦ Φ bs0 B2) ob ρ xs vs
  | [], xs, i, bs, vs, hx, _, _, _, hs => by
    simp only [borrowAll, Option.some.injEq, Prod.mk.injEq] at hx
    obtain ⟨rfl, rfl⟩ := hx
    simpa only [SlotRs] using hs
  | s :: r, xs, i, bs, vs, hx, hap, hbs, hk, hs => by
    simp only [borrowAll] at hx
    split at hx
    · rename_i x b xs' bs' h1 h3
      simp only [Option.some.injEq, Prod.mk.injEq] at hx
      obtain ⟨rfl, rfl⟩ := hx
      simp only [SlotRs] at hs
      obtain ⟨v, vs', rfl, s1, s2⟩ := hs
      simp only [S.keyss, List.mem_append] at hk
      simp only [SlotRs]
      refine ⟨v, vs', rfl, ?_, borrowAll_is h h2 hob h3 (fun k hkb => hap k (List.mem_append.mpr (.inr hkb))) (fun hne => hbs (by simp [hne])) (fun k hkx => hk k (.inr hkx)) s2⟩
      split at h1
      · simp only [Option.some.injEq, Prod.mk.injEq] at h1
        obtain ⟨rfl, rfl⟩ := h1
        have C : Over w w Φ (lentΦ Φ bs0 B2) σ.ob ob ρ ρ (fun k _ => ks.contains k) (fun k _ => ks.contains k) := ⟨fun _ _ hb => .inl hb, fun _ _ _ => rfl,
          fun k p hk o vs hl hv => ⟨o, hob k o hl (by simpa using hk), hv⟩, fun k p hk o g a hl hv => ⟨o, hob k o hl (by simpa using hk), hv⟩⟩
        exact C.slot s v (ok_keys s fun k hk' p => by simp [hk k (.inl hk')]) s1
      · exact borrow_is h h2 (fun k hkb => hap k (List.mem_append.mpr (.inl hkb))) (fun hne => hbs (by simp [hne])) hob h1 (fun k hkx => hk k (.inl hkx)) s1
    · cases hx

end Go.Proofs.YtckojpaklblnpaaDoor.Ev

/- The caller's state behind a call. -/
set_option linter.unusedVariables false
set_option linter.unusedSimpArgs false
namespace Go.Proofs.YtckojpaklblnpaaDoor.Ev
open Go Go.RowKit

theorem back_rel {w w' : World} {Φ Φ' : Bool → Nat → Prop} {σ : F} {tm : List Value} {ρ ρ' : Nat → List Value} {B B' B2 : List Nat} {ks : List Nat} {β : List (Nat × O)} {d : Option Nat} (h : Rel w Φ σ tm ρ B)
    (h2 : IsOb w Φ ρ (dropAll ks σ.ob) B2) (m2 : ∀ b ∈ B2, b ∈ B) (n2 : B2.Nodup)
    (hβ : IsOb w' Φ' ρ' β B') (hβk : (β.map (·.1)).Nodup) (hβn : B'.Nodup) (hβs : ∀ k ∈ β.map (·.1), k ∉ ks → look σ.ob k = none)
    (hd' : ∀ b ∈ B', ∀ x, ¬Φ' x b) (hlt' : ∀ b ∈ B', b < w'.heap.size) (hap : ∀ b ∈ B', b ∉ B2)
    (hsz : w.heap.size ≤ w'.heap.size) (mono : ∀ x b, Φ x b → Φ' x b) (ro : ∀ x b, Φ x b → w'.heap[b]? = w.heap[b]?) (blk : ∀ b ∈ B2, w'.heap[b]? = w.heap[b]?)
    (hd2 : ∀ b ∈ B2, ∀ x, ¬Φ' x b) (hltΦ : ∀ x b, Φ' x b → b < w'.heap.size) (hsub : ∀ b, Φ' false b → Φ' true b)
    (hS : ∀ k ∈ ks, newKey d k = false → ρ' k = ρ k) :
    Rel w' Φ' { sl := σ.sl.map (sift (stillV d ks β) (stillP d ks β)), ob := β ++ dropAll ks σ.ob } tm (fun k => if (β.map (·.1)).contains k then ρ' k else ρ k) (B' ++ B2) := by
  have hkβ : ∀ k ∈ β.map (·.1), look (dropAll ks σ.ob) k = none := by
    intro k hk
    rw [look_dropAll]
    split
    · rfl
    · rename_i hc; exact hβs k hk (by simpa using hc)
  let ρ'' : Nat → List Value := fun k => if (β.map (·.1)).contains k then ρ' k else ρ k
  have ρin : ∀ k ∈ β.map (·.1), ρ'' k = ρ' k := fun k hk => by simp only [ρ'']; rw [if_pos (by simpa using hk)]
  have ρout : ∀ k, k ∉ β.map (·.1) → ρ'' k = ρ k := fun k hk => by simp only [ρ'']; rw [if_neg (by simpa using hk)]
  have hdk : ∀ k ∈ (dropAll ks σ.ob).map (·.1), k ∉ β.map (·.1) := fun k hk hk' => by
    obtain ⟨o2, h2⟩ := look_of_mem hk
    rw [hkβ k hk'] at h2
    cases h2
  have hobs : IsOb w' Φ' ρ'' (β ++ dropAll ks σ.ob) (B' ++ B2) := by
    refine IsOb.append (hβ.keep (Keeps.refl _ _ _) ρin) (h2.keep ⟨mono, ro, blk⟩ fun k hk => ρout k (hdk k hk))
  have hnd' : (B' ++ B2).Nodup := by
    rw [List.nodup_append]
    exact ⟨hβn, n2, fun a ha b hb e => hap a ha (by rw [e]; exact hb)⟩
  have hkeys : ((β ++ dropAll ks σ.ob).map (·.1)).Nodup := by
    rw [List.map_append, List.nodup_append]
    refine ⟨hβk, dropAll_nodup h.keys, fun a ha b hb e => ?_⟩
    subst e
    exact hdk a hb ha
  have hlook : ∀ k, look (β ++ dropAll ks σ.ob) k = match look β k with | some o => some o | none => look (dropAll ks σ.ob) k := fun k => look_append
  have hover : Over w w' Φ Φ' σ.ob (β ++ dropAll ks σ.ob) ρ ρ'' (stillV d ks β) (stillP d ks β) := by
    have side : ∀ k ob1, ks.contains k = false → look σ.ob k = some ob1 → k ∉ β.map (·.1) ∧ look (β ++ dropAll ks σ.ob) k = some ob1 ∧ ∃ Bk, (∀ b ∈ Bk, w'.heap[b]? = w.heap[b]?) ∧ IsCs w Φ ob1.cells (ρ k) Bk := by
      intro k ob1 hc hl
      have hkb : k ∉ β.map (·.1) := fun hk => by
        rw [hβs k hk (by simpa using hc)] at hl
        cases hl
      have hl2 : look (dropAll ks σ.ob) k = some ob1 := by rw [look_dropAll, hc]; exact hl
      obtain ⟨Bk, q1, q2⟩ := look_is h2 (dropAll_nodup h.keys) hl2
      exact ⟨hkb, by rw [hlook, look_none_of hkb]; exact hl2, Bk, fun b hb => blk b (q1 b hb), q2⟩
    refine ⟨mono, ro, ?_, ?_⟩
    · intro k p hk o1 vs hl hv
      unfold stillV at hk
      cases hc : ks.contains k with
      | false =>
        obtain ⟨q1, q2, Bk, q3, q4⟩ := side k o1 hc hl
        exact ⟨o1, q2, by rw [ρout k q1, (keep_vals q4 q3 p).1]; exact hv⟩
      | true =>
        rw [hc] at hk
        simp only [Bool.not_true, Bool.false_or, Bool.and_eq_true, Bool.not_eq_true', List.isEmpty_iff] at hk
        obtain ⟨⟨rfl, hnk⟩, hsome⟩ := hk
        obtain ⟨o2, ho2⟩ := Option.isSome_iff_exists.mp hsome
        refine ⟨o2, by rw [hlook, ho2], ?_⟩
        simp only [valsAt] at hv ⊢
        rw [ρin k (look_mem ho2), hS k (by simpa using hc) hnk]
        exact hv
    · intro k p hk o1 g a hl hv
      unfold stillP at hk
      cases hc : ks.contains k with
      | false =>
        obtain ⟨q1, q2, Bk, q3, q4⟩ := side k o1 hc hl
        exact ⟨o1, q2, by rw [ρout k q1, (keep_vals q4 q3 p).2]; exact hv⟩
      | true =>
        rw [hc] at hk
        simp only [Bool.not_true, Bool.false_or, Bool.and_eq_true, Bool.not_eq_true', beq_iff_eq] at hk
        obtain ⟨⟨rfl, hnk⟩, hrow⟩ := hk
        unfold rowOk at hrow
        split at hrow
        · rename_i o2 ho2
          split at hrow
          · rename_i c' cr' hcells
            obtain ⟨r, hr⟩ := Option.isSome_iff_exists.mp hrow
            refine ⟨o2, by rw [hlook, ho2], ?_⟩
            rw [ρin k (look_mem ho2), hS k (by simpa using hc) hnk]
            simp only [addrAt] at hv
            cases hx : o1.cells[0]? with
            | none => simp [hx] at hv
            | some x =>
              cases hv0 : (ρ k)[0]? with
              | none => simp [hx, hv0] at hv
              | some v0 =>
                simp only [hx, hv0] at hv
                cases hst : stepAt w x v0 0 with
                | none => simp [hst] at hv
                | some q =>
                  obtain ⟨g0, a0, r0, rv0⟩ := q
                  simp only [hst, Option.some.injEq, Prod.mk.injEq] at hv
                  obtain ⟨rfl, rfl⟩ := hv
                  obtain ⟨Bk, q1, q2⟩ := look_is hβ hβk ho2
                  rw [hS k (by simpa using hc) hnk] at q2
                  have hx2 : o2.cells[0]? = some c' := by rw [hcells]; rfl
                  obtain ⟨Bx, q3, q4⟩ := q2.at_ hx2 hv0
                  obtain ⟨g1, a1, rv1, Br, s1, s2, _⟩ := stepAt_row q4 hr
                  simp only [addrAt, hx2, hv0, s1]
                  obtain ⟨z1, ad, n1, c1, z2, z3⟩ := stepAt_zero hst
                  obtain ⟨y1, ad', n2, c2, y2, y3⟩ := stepAt_zero s1
                  rw [z2] at y2
                  simp only [Value.slice.injEq, Option.some.injEq] at y2
                  rw [z1, y1, z3, y3, y2.1]
          · cases hrow
        · cases hrow
  refine ⟨hobs, hnd', hkeys, ?_, ?_, hltΦ, ⟨hsub, h.sub.2.next (fun b hb => mono false b hb) (fun b hb => ro false b hb)⟩, ?_⟩
  · intro b hb x hx
    rcases List.mem_append.mp hb with hb | hb
    · exact hd' b hb x hx
    · exact hd2 b hb x hx
  · intro b hb
    rcases List.mem_append.mp hb with hb | hb
    · exact hlt' b hb
    · exact Nat.lt_of_lt_of_le (h.lt b (m2 b hb)) hsz
  · exact slots_map (fun s v hs => hover.sift hs) h.slots

/-! ### the objects that are handed over, under numbers of their own -/

theorem numOf_get : ∀ {ks : List Nat} {k : Nat}, k ∈ ks → ks[numOf ks k]? = some k
  | [], k, h => by cases h
  | j :: r, k, h => by
    simp only [numOf]
    split
    · rename_i e; simp [e]
    · rename_i e
      rcases List.mem_cons.mp h with rfl | h
      · exact absurd rfl e
      · simp [numOf_get h]

theorem numOf_map : ∀ {ks : List Nat}, ks.Nodup → ks.map (numOf ks) = List.range ks.length
  | [], _ => rfl
  | j :: r, h => by
    simp only [List.nodup_cons] at h
    rw [List.map_cons, List.length_cons, List.range_succ_eq_map, ← numOf_map h.2, List.map_map]
    congr 1
    · simp [numOf]
    · apply List.map_congr_left
      intro k hk
      have : j ≠ k := by rintro rfl; exact h.1 hk
      simp [numOf, this]

theorem enter_look : ∀ {obs : List O} {i j : Nat}, look (enterObs obs i) (i + j) = obs[j]?
  | [], i, j => rfl
  | o :: r, i, 0 => by simp [enterObs, look]
  | o :: r, i, j + 1 => by
    simp only [enterObs, look]
    rw [if_neg (by omega)]
    have := enter_look (obs := r) (i := i + 1) (j := j)
    rw [show i + 1 + j = i + (j + 1) by omega] at this
    simpa using this

theorem zip_look : ∀ {ks : List Nat} {obs : List O} {j k : Nat}, ks.Nodup → ks[j]? = some k → look (zipO ks obs) k = obs[j]?
  | [], _, _, _, _, h => by simp at h
  | i :: r, [], j, k, _, _ => by simp [zipO, look]
  | i :: r, o :: os, 0, k, hn, h => by
    simp only [List.getElem?_cons_zero, Option.some.injEq] at h
    subst h
    simp [zipO, look]
  | i :: r, o :: os, j + 1, k, hn, h => by
    simp only [List.nodup_cons] at hn
    simp only [List.getElem?_cons_succ] at h ⊢
    have : i ≠ k := by
      rintro rfl
      exact hn.1 (List.mem_of_getElem? h)
    simp only [zipO, look]
    rw [if_neg this]
    exact zip_look hn.2 h

theorem enter_keys : ∀ (obs : List O) (i : Nat), (enterObs obs i).map (·.1) = (List.range obs.length).map (i + ·)
  | [], i => rfl
  | o :: r, i => by
    simp only [enterObs, List.map_cons, List.length_cons, List.range_succ_eq_map, enter_keys r (i + 1), List.map_map, Nat.add_zero]
    congr 1
    apply List.map_congr_left
    intro x _
    simp
    omega

theorem enter_is {w : World} {Φ : Bool → Nat → Prop} {ρ ρ' : Nat → List Value} : ∀ {ks : List Nat} {obs : List O} {i : Nat} {B : List Nat}, obs.length = ks.length → IsOb w Φ ρ (zipO ks obs) B → (∀ j k, ks[j]? = some k → ρ' (i + j) = ρ k) → IsOb w Φ ρ' (enterObs obs i) B
  | [], [], i, B, _, h, _ => h
  | [], _ :: _, _, _, hl, _, _ => by simp at hl
  | _ :: _, [], _, _, hl, _, _ => by simp at hl
  | k :: r, o :: os, i, B, hl, h, hρ => by
    obtain ⟨B1, B2, rfl, h2, h3⟩ := h
    refine ⟨B1, B2, rfl, ?_, enter_is (by simpa using hl) h3 fun j k' hj => ?_⟩
    · have := hρ 0 k rfl
      rw [Nat.add_zero] at this
      rw [this]
      exact h2
    · have := hρ (j + 1) k' (by simpa using hj)
      rw [show i + (j + 1) = i + 1 + j by omega] at this
      exact this

theorem enter_rel {w : World} {Φ : Bool → Nat → Prop} {ρ : Nat → List Value} {ks : List Nat} {obs : List O} {xs : List S} {vs : List Value} {B : List Nat} (hk : ks.Nodup) (hlen : obs.length = ks.length) (ho : IsOb w Φ ρ (zipO ks obs) B) (hs : SlotRs w Φ (zipO ks obs) ρ xs vs)
    (nd : B.Nodup) (disj : ∀ b ∈ B, ∀ x, ¬Φ x b) (lt : ∀ b ∈ B, b < w.heap.size) (ltΦ : ∀ x b, Φ x b → b < w.heap.size) (sub : Subs w Φ) :
    Rel w Φ { sl := S.renums (numOf ks) xs, ob := enterObs obs 0 } vs (fun j => ρ (ks.getD j 0)) B where
  obs := enter_is hlen ho fun j k hj => by simp [List.getD_eq_getElem?_getD, hj]
  nd := nd
  keys := by
    rw [enter_keys]
    simpa using List.nodup_range
  disj := disj
  lt := lt
  ltΦ := ltΦ
  sub := sub
  slots := by
    have key : ∀ k o, look (zipO ks obs) k = some o → look (enterObs obs 0) (numOf ks k) = some o ∧ ks.getD (numOf ks k) 0 = k := by
      intro k o hl
      have hm : k ∈ ks := by
        have := look_mem hl
        have e : ∀ {ks : List Nat} {obs : List O}, ∀ x ∈ (zipO ks obs).map (·.1), x ∈ ks := by
          intro ks
          induction ks with
          | nil => intro obs x hx; simp [zipO] at hx
          | cons i r ih =>
            intro obs x hx
            cases obs with
            | nil => simp [zipO] at hx
            | cons o os =>
              simp only [zipO, List.map_cons, List.mem_cons] at hx ⊢
              exact hx.imp id (ih x)
        exact e k this
      have hg := numOf_get hm
      refine ⟨?_, by simp [List.getD_eq_getElem?_getD, hg]⟩
      have := enter_look (obs := obs) (i := 0) (j := numOf ks k)
      rw [Nat.zero_add] at this
      rw [this, ← zip_look hk hg]
      exact hl
    have C : Carry w w Φ Φ (zipO ks obs) (enterObs obs 0) ρ (fun j => ρ (ks.getD j 0)) (S.renum (numOf ks)) (S.renums (numOf ks)) := by
      refine { mono := fun _ _ h => h, ro := fun _ _ _ => rfl, nil := rfl, cons := fun _ _ => rfl, fn := fun _ _ => rfl, tup := fun _ => rfl, rest := fun s hs => by cases s <;> first | rfl | exact hs.elim, vals := ?_, sub := ?_, ptr := ?_ }
      · intro k p off n
        refine .inr ⟨numOf ks k, fun ag => rfl, fun o vs h1 h2 h3 => ?_⟩
        obtain ⟨e1, e2⟩ := key k o h1
        exact ⟨o, vs, e1, by rw [e2]; exact h2, h3, rfl⟩
      · intro k p off sz lo hi
        refine .inr ⟨numOf ks k, rfl, fun o vs h1 h2 h3 => ?_⟩
        obtain ⟨e1, e2⟩ := key k o h1
        exact ⟨o, vs, e1, by rw [e2]; exact h2, h3, rfl⟩
      · intro k p off
        refine .inr ⟨numOf ks k, rfl, fun o g a h1 h2 => ?_⟩
        obtain ⟨e1, e2⟩ := key k o h1
        exact ⟨o, e1, by rw [e2]; exact h2⟩
    exact C.slots xs vs hs

theorem backs_look : ∀ {ks : List Nat} {os : List (Option O)} {j k : Nat}, ks.Nodup → ks[j]? = some k → look (backs ks os) k = (os[j]?).join
  | [], _, _, _, _, h => by simp at h
  | i :: r, [], j, k, _, _ => by simp [backs, look]
  | i :: r, o :: os, j, k, hn, h => by
    simp only [List.nodup_cons] at hn
    cases j with
    | zero =>
      simp only [List.getElem?_cons_zero, Option.some.injEq] at h
      subst h
      cases o with
      | some o => simp [backs, look]
      | none =>
        simp only [backs, List.getElem?_cons_zero, Option.join_some]
        cases hl : look (backs r os) i with
        | none => rfl
        | some o =>
          exfalso
          have e : ∀ {ks : List Nat} {os : List (Option O)}, ∀ x ∈ (backs ks os).map (·.1), x ∈ ks := by
            intro ks
            induction ks with
            | nil => intro obs x hx; simp [backs] at hx
            | cons i r ih =>
              intro obs x hx
              cases obs with
              | nil => simp [backs] at hx
              | cons o os =>
                cases o with
                | none => simp only [backs] at hx; exact List.mem_cons.mpr (.inr (ih x hx))
                | some o =>
                  simp only [backs, List.map_cons, List.mem_cons] at hx ⊢
                  exact hx.imp id (ih x)
          exact hn.1 (e i (look_mem hl))
    | succ j =>
      simp only [List.getElem?_cons_succ] at h ⊢
      have hik : i ≠ k := by
        rintro rfl
        exact hn.1 (List.mem_of_getElem? h)
      cases o with
      | some o =>
        simp only [backs, look]
        rw [if_neg hik]
        exact backs_look hn.2 h
      | none =>
        simp only [backs]
        exact backs_look hn.2 h

theorem backs_mem : ∀ {ks : List Nat} {os : List (Option O)}, ∀ x ∈ (backs ks os).map (·.1), x ∈ ks
  | [], _, x, hx => by simp [backs] at hx
  | i :: r, [], x, hx => by simp [backs] at hx
  | i :: r, none :: os, x, hx => by simp only [backs] at hx; exact List.mem_cons.mpr (.inr (backs_mem x hx))
  | i :: r, some o :: os, x, hx => by
    simp only [backs, List.map_cons, List.mem_cons] at hx ⊢
    exact hx.imp id (backs_mem x)

theorem backs_nodup : ∀ {ks : List Nat} {os : List (Option O)}, ks.Nodup → ((backs ks os).map (·.1)).Nodup
  | [], _, _ => by simp [backs]
  | i :: r, [], _ => by simp [backs]
  | i :: r, none :: os, h => by simp only [List.nodup_cons] at h; exact backs_nodup (ks := r) h.2
  | i :: r, some o :: os, h => by
    simp only [List.nodup_cons] at h
    simp only [backs, List.map_cons, List.nodup_cons]
    exact ⟨fun hm => h.1 (backs_mem i hm), backs_nodup h.2⟩

theorem backs_is {w : World} {Φ : Bool → Nat → Prop} {ρ : Nat → List Value} (g : Nat → Nat) : ∀ {ks : List Nat} {os : List (Option O)} {B : List Nat}, IsOb w Φ ρ (backs (ks.map g) os) B → IsOb w Φ (fun k => ρ (g k)) (backs ks os) B
  | [], _, _, h => h
  | i :: r, [], _, h => h
  | i :: r, none :: os, _, h => backs_is g (ks := r) h
  | i :: r, some o :: os, _, h => by
    obtain ⟨B1, B2, rfl, h2, h3⟩ := h
    exact ⟨B1, B2, rfl, h2, backs_is g (ks := r) h3⟩

/-! ### what holds nothing lent -/

section
variable {w : World} {Φ Φ' : Bool → Nat → Prop}

mutual
theorem IsC.plain (hf : ∀ b, Φ false b → Φ' false b) : ∀ (c : C) (v : Value) (B : List Nat), (C.lent c = true → ∀ b, Φ true b → Φ' true b) → IsC w Φ c v B → IsC w Φ' c v B
  | .im x t, v, B, ht, h => by
    simp only [IsC] at h ⊢
    refine ⟨h.1, ?_⟩
    cases t with
    | lit y => simpa only [IsT] using h.2
    | sl sz rows =>
      refine IsT.mono (fun b hb => ?_) (fun _ _ => rfl) _ _ h.2
      cases x with
      | false => exact hf b hb
      | true => exact ht (by simp [C.lent, T.isLit]) b hb
  | .ow t, v, B, ht, h => by simpa only [IsC] using h
  | .own sz rows, v, B, ht, h => by
    simp only [IsC] at h ⊢
    exact h.imp (fun _ _ => rfl) fun vs B' _ h' => IsCRows.plain hf sz rows vs B' (fun hl => ht (by simpa only [C.lent] using hl)) h'
  | .hole, v, B, ht, h => by simpa only [IsC] using h
theorem IsCs.plain (hf : ∀ b, Φ false b → Φ' false b) : ∀ (cs : List C) (vs : List Value) (B : List Nat), (lentAll cs = true → ∀ b, Φ true b → Φ' true b) → IsCs w Φ cs vs B → IsCs w Φ' cs vs B
  | [], _, _, _, h => by simpa only [IsCs] using h
  | c :: cs, vs, B, ht, h => by
    simp only [IsCs] at h ⊢
    obtain ⟨v, vs', B1, B2, h1, h2, h3, h4⟩ := h
    exact ⟨v, vs', B1, B2, h1, h2, IsC.plain hf c v B1 (fun hl => ht (by simp [lentAll, hl])) h3, IsCs.plain hf cs vs' B2 (fun hl => ht (by simp [lentAll, hl])) h4⟩
theorem IsCRows.plain (hf : ∀ b, Φ false b → Φ' false b) (sz : Nat) : ∀ (rs : List (List C)) (vs : List Value) (B : List Nat), (lentRows rs = true → ∀ b, Φ true b → Φ' true b) → IsCRows w Φ sz rs vs B → IsCRows w Φ' sz rs vs B
  | [], _, _, _, h => by simpa only [IsCRows] using h
  | r :: rs, vs, B, ht, h => by
    simp only [IsCRows] at h ⊢
    obtain ⟨B1, B2, h1, h2, h3, h4⟩ := h
    exact ⟨B1, B2, h1, h2, IsCs.plain hf r _ B1 (fun hl => ht (by simp [lentRows, hl])) h3, IsCRows.plain hf sz rs _ B2 (fun hl => ht (by simp [lentRows, hl])) h4⟩
end

theorem backs_plain {ρ : Nat → List Value} (hf : ∀ b, Φ false b → Φ' false b) : ∀ {ks : List Nat} {os : List (Option O)} {B : List Nat}, (lentO os = true → ∀ b, Φ true b → Φ' true b) → IsOb w Φ ρ (backs ks os) B → IsOb w Φ' ρ (backs ks os) B
  | [], _, _, _, h => h
  | i :: r, [], _, _, h => h
  | i :: r, none :: os, _, ht, h => backs_plain hf (ks := r) (fun hl => ht (by simpa only [lentO] using hl)) h
  | i :: r, some o :: os, _, ht, h => by
    obtain ⟨B1, B2, rfl, h2, h3⟩ := h
    exact ⟨B1, B2, rfl, IsCs.plain hf _ _ _ (fun hl => ht (by simp [lentO, hl])) h2, backs_plain hf (fun hl => ht (by simp [lentO, hl])) h3⟩

end

end Go.Proofs.YtckojpaklblnpaaDoor.Ev

/- Results of a call, in the caller. -/
set_option linter.unusedVariables false
set_option linter.unusedSimpArgs false
namespace Go.Proofs.YtckojpaklblnpaaDoor.Ev
open Go Go.RowKit

/-- A result and what it stands for: its blocks are its own. -/
def VR (w : World) (Φ : Bool → Nat → Prop) (ob : List (Nat × O)) (ρ : Nat → List Value) : V → Value → List Nat → Prop
  | .lit x, v, B => v = x ∧ one x ∧ B = []
  | .val b t, v, B => IsT w (Φ b) t v ∧ B = []
  | .agg b ts, v, B => (∃ vs, v = .agg vs.toArray ∧ IsTs w (Φ b) ts vs) ∧ B = []
  | .nils, v, B => v = .slice none 0 0 ∧ B = []
  | .ov cells ag, v, B => ∃ vs, IsCs w Φ cells vs B ∧ valOf ag vs v
  | .op cells, v, B => ∃ vs g a, IsCs w Φ cells vs B ∧ addrAt w cells vs [(0, 0)] = some (g, a) ∧ v = .pointer (some ⟨g, a, none⟩)
  | .ptr k p off, v, B => SlotR w Φ ob ρ (.ptr k p off) v ∧ B = []
  | .tup _, _, _ => False

def VRs (w : World) (Φ : Bool → Nat → Prop) (ob : List (Nat × O)) (ρ : Nat → List Value) : List V → List Value → List Nat → Prop
  | [], vs, B => vs = [] ∧ B = []
  | x :: r, vs, B => ∃ v vs' B1 B2, vs = v :: vs' ∧ B = B1 ++ B2 ∧ VR w Φ ob ρ x v B1 ∧ VRs w Φ ob ρ r vs' B2

def VRt (w : World) (Φ : Bool → Nat → Prop) (ob : List (Nat × O)) (ρ : Nat → List Value) : V → Value → List Nat → Prop
  | .tup vs, v, B => ∃ l, v = .tuple l.toArray ∧ VRs w Φ ob ρ vs l B
  | x, v, B => VR w Φ ob ρ x v B

theorem vrt_one {w : World} {Φ : Bool → Nat → Prop} {ob : List (Nat × O)} {ρ : Nat → List Value} {x : V} {v : Value} {B : List Nat} (hx : ∀ vs, x ≠ .tup vs) (h : VRt w Φ ob ρ x v B) : VR w Φ ob ρ x v B := by
  cases x with
  | tup vs => exact absurd rfl (hx vs)
  | _ => exact h

theorem T.lit_of {t : T} (h : t.isLit = true) : ∃ x, t = .lit x := by
  cases t with
  | lit x => exact ⟨x, rfl⟩
  | sl _ _ => cases h

theorem lits_plain {w : World} {φ φ' : Nat → Prop} : ∀ {ts : List T} {vs : List Value}, ts.any (fun t => !t.isLit) = false → IsTs w φ ts vs → IsTs w φ' ts vs
  | [], vs, _, h => by simpa only [IsTs] using h
  | t :: ts, vs, hl, h => by
    simp only [List.any_cons, Bool.or_eq_false_iff, Bool.not_eq_false'] at hl
    obtain ⟨x, rfl⟩ := T.lit_of hl.1
    simp only [IsTs, IsT] at h ⊢
    obtain ⟨v, vs', h1, h2, h3⟩ := h
    exact ⟨v, vs', h1, h2, lits_plain hl.2 h3⟩

theorem VR.plain {w : World} {Φ Φ' : Bool → Nat → Prop} {ob : List (Nat × O)} {ρ : Nat → List Value} (hf : ∀ b, Φ false b → Φ' false b) {x : V} {v : Value} {B : List Nat} (ht : x.lent = true → ∀ b, Φ true b → Φ' true b) (h : VR w Φ ob ρ x v B) : VR w Φ' ob ρ x v B := by
  cases x with
  | lit y => exact h
  | val b t =>
    simp only [VR] at h ⊢
    refine ⟨?_, h.2⟩
    cases t with
    | lit y => simpa only [IsT] using h.1
    | sl sz rows =>
      refine IsT.mono (fun c hc => ?_) (fun _ _ => rfl) _ _ h.1
      cases b with
      | false => exact hf c hc
      | true => exact ht (by simp [V.lent, T.isLit]) c hc
  | agg b ts =>
    simp only [VR] at h ⊢
    obtain ⟨⟨vs, h1, h2⟩, h3⟩ := h
    refine ⟨⟨vs, h1, ?_⟩, h3⟩
    cases b with
    | false => exact IsTs.mono hf (fun _ _ => rfl) _ _ h2
    | true =>
      cases hl : ts.any (fun t => !t.isLit) with
      | false => exact lits_plain hl h2
      | true => exact IsTs.mono (ht (by simp [V.lent, hl])) (fun _ _ => rfl) _ _ h2
  | nils => exact h
  | ov cells ag =>
    simp only [VR] at h ⊢
    obtain ⟨vs, h1, h2⟩ := h
    exact ⟨vs, IsCs.plain hf _ _ _ (fun hl => ht (by simpa only [V.lent] using hl)) h1, h2⟩
  | op cells =>
    simp only [VR] at h ⊢
    obtain ⟨vs, g, a, h1, h2⟩ := h
    exact ⟨vs, g, a, IsCs.plain hf _ _ _ (fun hl => ht (by simpa only [V.lent] using hl)) h1, h2⟩
  | ptr k p off =>
    simp only [VR, SlotR] at h ⊢
    exact h
  | tup vs => exact h

theorem VRs.plain {w : World} {Φ Φ' : Bool → Nat → Prop} {ob : List (Nat × O)} {ρ : Nat → List Value} (hf : ∀ b, Φ false b → Φ' false b) : ∀ {xs : List V} {vs : List Value} {B : List Nat}, (lentVs xs = true → ∀ b, Φ true b → Φ' true b) → VRs w Φ ob ρ xs vs B → VRs w Φ' ob ρ xs vs B
  | [], _, _, _, h => h
  | x :: r, _, _, ht, h => by
    obtain ⟨v, vs', B1, B2, h1, h2, h3, h4⟩ := h
    exact ⟨v, vs', B1, B2, h1, h2, h3.plain hf (fun hl => ht (by simp [lentVs, hl])), h4.plain hf (fun hl => ht (by simp [lentVs, hl]))⟩

theorem VRt.plain {w : World} {Φ Φ' : Bool → Nat → Prop} {ob : List (Nat × O)} {ρ : Nat → List Value} (hf : ∀ b, Φ false b → Φ' false b) {x : V} {v : Value} {B : List Nat} (ht : x.lent = true → ∀ b, Φ true b → Φ' true b) (h : VRt w Φ ob ρ x v B) : VRt w Φ' ob ρ x v B := by
  cases x with
  | tup vs =>
    obtain ⟨l, h1, h2⟩ := h
    exact ⟨l, h1, h2.plain hf (fun hl => ht (by simpa only [V.lent] using hl))⟩
  | _ => exact VR.plain (w := w) (ob := ob) (ρ := ρ) hf ht h

/-- Imports' objects, under the caller's keys. -/
def Trans (keys : List Nat) (d : Nat) (obC : List (Nat × O)) (ρC : Nat → List Value) (ob : List (Nat × O)) (ρ : Nat → List Value) : Prop :=
  ∀ k key o, keys[k]? = some key → newKey (some d) key = false → look obC k = some o → look ob key = some o ∧ ρ key = ρC k

theorem Trans.new {keys : List Nat} {d j : Nat} {obC : List (Nat × O)} {ρC ρ : Nat → List Value} {σ : F} (h : Trans keys d obC ρC σ.ob ρ) (hj : j < 8) (hk : (σ.ob.map (·.1)).Nodup) (o0 : O) (vs : List Value) : Trans keys d obC ρC (σ.new (keyOf d j) o0).ob (fun i => if i = keyOf d j then vs else ρ i) := by
  intro k key o h1 h2 h3
  have hne := newKey_keyOf hj h2
  obtain ⟨e1, e2⟩ := h k key o h1 h2 h3
  refine ⟨?_, by show (if key = keyOf d j then vs else ρ key) = ρC k; rw [if_neg hne]; exact e2⟩
  simp only [F.new, look]
  rw [if_neg (fun e => hne e.symm), look_drop hk, if_neg hne]
  exact e1

theorem newKey_self (d j : Nat) (hj : j < 8) : newKey (some d) (keyOf d j) = true := by
  simp only [newKey, keyOf, beq_iff_eq]
  omega

theorem recvOne_is {w : World} {Φ : Bool → Nat → Prop} {σ σ' : F} {tm : List Value} {ρ ρC : Nat → List Value} {B L : List Nat} {keys : List Nat} {d j : Nat} {obC : List (Nat × O)} {x : V} {v : Value} (hj : j < 8) (h : Rel w Φ σ tm ρ B) (hL : Loose w Φ B L) (hv : VR w Φ obC ρC x v L) (hT : Trans keys d obC ρC σ.ob ρ) (hr : recvOne σ keys d j x = some σ') :
    ∃ ρ' B', Rel w Φ σ' (tm ++ [v]) ρ' B' ∧ (∀ b ∈ B', b ∈ B ∨ b ∈ L) ∧ (∀ k, newKey (some d) k = false → ρ' k = ρ k) ∧ Trans keys d obC ρC σ'.ob ρ' ∧ σ'.sl.length = σ.sl.length + 1 := by
  have easy : ∀ s, SlotR w Φ σ.ob ρ s v → σ' = σ.push s → ∃ ρ' B', Rel w Φ σ' (tm ++ [v]) ρ' B' ∧ (∀ b ∈ B', b ∈ B ∨ b ∈ L) ∧ (∀ k, newKey (some d) k = false → ρ' k = ρ k) ∧ Trans keys d obC ρC σ'.ob ρ' ∧ σ'.sl.length = σ.sl.length + 1 := by
    rintro s hs rfl
    exact ⟨ρ, B, h.push hs, fun b hb => .inl hb, fun _ _ => rfl, hT, by simp [F.push]⟩
  have made : ∀ (o : O) (vs : List Value) (s : S), IsCs w Φ o.cells vs L → SlotR w Φ (σ.new (keyOf d j) o).ob (fun i => if i = keyOf d j then vs else ρ i) s v → σ' = (σ.new (keyOf d j) o).push s → ∃ ρ' B', Rel w Φ σ' (tm ++ [v]) ρ' B' ∧ (∀ b ∈ B', b ∈ B ∨ b ∈ L) ∧ (∀ k, newKey (some d) k = false → ρ' k = ρ k) ∧ Trans keys d obC ρC σ'.ob ρ' ∧ σ'.sl.length = σ.sl.length + 1 := by
    rintro o vs s hc hs rfl
    obtain ⟨B', h1, h2⟩ := h.new (keyOf d j) o vs L hc hL
    refine ⟨_, _, h1.push hs, fun b hb => ?_, fun k hk => ?_, hT.new hj h.keys o vs, by simp [F.push, F.new, killAlls_length]⟩
    · rcases List.mem_append.mp hb with hb | hb
      · exact .inr hb
      · exact .inl (h2.subset hb)
    · rw [if_neg (newKey_keyOf hj hk)]
  cases x with
  | lit y =>
    simp only [recvOne, Option.some.injEq] at hr
    simp only [VR] at hv
    exact easy (.lit y) (by simp only [SlotR]; exact ⟨hv.1, hv.2.1⟩) hr.symm
  | val b t =>
    simp only [recvOne, Option.some.injEq] at hr
    simp only [VR] at hv
    exact easy (.val b t) (by simp only [SlotR]; exact hv.1) hr.symm
  | agg b ts =>
    simp only [recvOne, Option.some.injEq] at hr
    simp only [VR] at hv
    exact easy (.agg b ts) (by simp only [SlotR]; exact hv.1) hr.symm
  | nils =>
    simp only [recvOne, Option.some.injEq] at hr
    simp only [VR] at hv
    exact easy .nils (by simp only [SlotR]; exact hv.1) hr.symm
  | ov cells ag =>
    simp only [recvOne, Option.some.injEq] at hr
    simp only [VR] at hv
    obtain ⟨vs, h1, h2⟩ := hv
    refine made { cells } vs _ h1 ?_ hr.symm
    have hl := h1.length
    simp only [SlotR]
    refine ⟨{ cells }, vs, by simp [F.new, look], by simp [valsAt], by omega, ?_⟩
    rw [List.drop_zero, ← hl, List.take_length]
    simpa only [valOf] using h2
  | op cells =>
    simp only [recvOne, Option.some.injEq] at hr
    simp only [VR] at hv
    obtain ⟨vs, g, a, h1, h2, h3⟩ := hv
    refine made { cells, box := true } vs _ h1 ?_ hr.symm
    simp only [SlotR]
    exact ⟨{ cells, box := true }, g, a, by simp [F.new, look], by simpa using h2, by rw [h3]; simp⟩
  | ptr k p off =>
    simp only [recvOne] at hr
    simp only [VR, SlotR] at hv
    obtain ⟨⟨o, g, a, h1, h2, h3⟩, _⟩ := hv
    split at hr
    · rename_i key hkey
      split at hr
      · cases hr
      · rename_i hnk
        simp only [Option.some.injEq] at hr
        obtain ⟨e1, e2⟩ := hT k key o hkey (by simpa using hnk) h1
        exact easy _ (by simp only [SlotR]; exact ⟨o, g, a, e1, by rw [e2]; exact h2, h3⟩) hr.symm
    · cases hr
  | tup vs => exact hv.elim

theorem recvMany_is {w : World} {Φ : Bool → Nat → Prop} {ρC : Nat → List Value} {keys : List Nat} {d : Nat} {obC : List (Nat × O)} : ∀ {xs : List V} {σ σ' : F} {tm vs : List Value} {ρ : Nat → List Value} {B L : List Nat} {j : Nat}, Rel w Φ σ tm ρ B → Loose w Φ B L → VRs w Φ obC ρC xs vs L → Trans keys d obC ρC σ.ob ρ → recvMany keys d σ j xs = some σ' →
    ∃ ρ' B', Rel w Φ σ' (tm ++ vs) ρ' B' ∧ (∀ b ∈ B', b ∈ B ∨ b ∈ L) ∧ (∀ k, newKey (some d) k = false → ρ' k = ρ k)
  | [], σ, σ', tm, vs, ρ, B, L, j, h, hL, hv, hT, hr => by
    simp only [recvMany, Option.some.injEq] at hr
    subst hr
    obtain ⟨rfl, rfl⟩ := hv
    exact ⟨ρ, B, by simpa using h, fun b hb => .inl hb, fun _ _ => rfl⟩
  | x :: r, σ, σ', tm, vs, ρ, B, L, j, h, hL, hv, hT, hr => by
    obtain ⟨v, vs', B1, B2, rfl, rfl, h3, h4⟩ := hv
    simp only [recvMany] at hr
    split at hr
    · rename_i hj
      split at hr
      · rename_i σ1 h1
        have hnd := hL.nd
        rw [List.nodup_append] at hnd
        have hL1 : Loose w Φ B B1 := ⟨hnd.1, fun b hb => hL.apart b (by simp [hb]), fun b hb => hL.lt b (by simp [hb]), fun b hb => hL.disj b (by simp [hb])⟩
        obtain ⟨ρ1, C1, r1, r2, r3, r4, _⟩ := recvOne_is hj h hL1 h3 hT h1
        have hL2 : Loose w Φ C1 B2 := ⟨hnd.2.1, fun b hb hb' => by
          rcases r2 b hb' with hh | hh
          · exact hL.apart b (by simp [hb]) hh
          · exact hnd.2.2 b hh b hb rfl, fun b hb => hL.lt b (by simp [hb]), fun b hb => hL.disj b (by simp [hb])⟩
        obtain ⟨ρ2, C2, s1, s2, s3⟩ := recvMany_is r1 hL2 h4 r4 hr
        rw [List.append_assoc] at s1
        refine ⟨ρ2, C2, s1, fun b hb => ?_, fun k hk => (s3 k hk).trans (r3 k hk)⟩
        rcases s2 b hb with hh | hh
        · exact (r2 b hh).imp id (fun hh => by simp [hh])
        · exact .inr (by simp [hh])
      · cases hr
    · cases hr

/-- The values that come back, one behind the other. -/
def Outs (d : Option Nat) (v : V) (val : Value) (outs : List Value) : Prop :=
  match d with
  | none => outs = []
  | some _ => match v with
    | .tup _ => val = .tuple outs.toArray
    | _ => outs = [val]

theorem recvAll_is {w : World} {Φ : Bool → Nat → Prop} {ρ ρC : Nat → List Value} {keys : List Nat} {d : Option Nat} {obC : List (Nat × O)} {x : V} {val : Value} {σ σ' : F} {tm : List Value} {B L : List Nat} (h : Rel w Φ σ tm ρ B) (hL : Loose w Φ B L) (hv : VRt w Φ obC ρC x val L) (hT : ∀ k key o, keys[k]? = some key → look obC k = some o → look σ.ob key = some o ∧ ρ key = ρC k) (hr : recvAll σ keys d x = some σ') :
    ∃ outs ρ' B', Rel w Φ σ' (tm ++ outs) ρ' B' ∧ Outs d x val outs ∧ (∀ b ∈ B', b ∈ B ∨ b ∈ L) ∧ (∀ k, newKey d k = false → ρ' k = ρ k) ∧ (∀ j, d = some j → j < 100000) := by
  unfold recvAll at hr
  split at hr
  · simp only [Option.some.injEq] at hr
    subst hr
    exact ⟨[], ρ, B, by simpa using h, rfl, fun b hb => .inl hb, fun _ _ => rfl, fun j hj => by cases hj⟩
  · rename_i d'
    split at hr
    · rename_i hd
      have hT' : Trans keys d' obC ρC σ.ob ρ := fun k key o h1 _ h3 => hT k key o h1 h3
      have one : (∀ vs, x ≠ .tup vs) → Outs (some d') x val [val] → recvOne σ keys d' 0 x = some σ' → ∃ outs ρ' B', Rel w Φ σ' (tm ++ outs) ρ' B' ∧ Outs (some d') x val outs ∧ (∀ b ∈ B', b ∈ B ∨ b ∈ L) ∧ (∀ k, newKey (some d') k = false → ρ' k = ρ k) ∧ (∀ j, some d' = some j → j < 100000) := by
        intro hx hO hr
        obtain ⟨ρ', B', r1, r2, r3, _⟩ := recvOne_is (by decide) h hL (vrt_one hx hv) hT' hr
        exact ⟨[val], ρ', B', r1, hO, r2, r3, fun j hj => by simp only [Option.some.injEq] at hj; omega⟩
      cases x with
      | tup vs =>
        simp only at hr
        obtain ⟨l, rfl, h2⟩ := hv
        obtain ⟨ρ', B', r1, r2, r3⟩ := recvMany_is h hL h2 hT' hr
        exact ⟨l, ρ', B', r1, rfl, r2, r3, fun j hj => by simp only [Option.some.injEq] at hj; omega⟩
      | _ =>
        exact one (fun vs h => by cases h) rfl hr
    · cases hr

theorem done_is {w : World} {Φ : Bool → Nat → Prop} {ρ : Nat → List Value} {d : Option Nat} {x : V} {val : Value} {σ σ' : F} {tm mid outs : List Value} {B : List Nat} (h : Rel w Φ σ (tm ++ mid ++ outs) ρ B) (ho : Outs d x val outs) (hd : σ.done tm.length (tm ++ mid).length d x = some σ') :
    Rel w Φ σ' (putL tm d val) ρ B ∧ ∀ k ∈ σ.ob.map (·.1), k < keyOf 100000 0 := by
  unfold F.done at hd
  split at hd
  · rename_i hall
    have hkeys : ∀ k ∈ σ.ob.map (·.1), k < keyOf 100000 0 := by
      intro k hk
      obtain ⟨y, hy, rfl⟩ := List.mem_map.mp hk
      simpa using List.all_eq_true.mp hall y hy
    refine ⟨?_, hkeys⟩
    have h0 := h.short tm.length
    rw [List.append_assoc, List.take_left] at h0
    have h1 := h.slots.drop (tm ++ mid).length
    rw [List.drop_left] at h1
    cases d with
    | none =>
      simp only [Option.some.injEq] at hd
      subst hd
      exact h0
    | some d =>
      simp only at hd
      have last : ∀ s, σ.sl.drop (tm ++ mid).length = [s] → outs = [val] → Rel w Φ (F.put { σ with sl := σ.sl.take tm.length } (some d) s) (putL tm (some d) val) ρ B := by
        intro s hs he
        rw [hs, he] at h1
        simp only [SlotRs] at h1
        obtain ⟨v, vs', e, h2, _⟩ := h1
        simp only [List.cons.injEq] at e
        rw [← e.1] at h2
        exact h0.put (some d) h2
      cases x with
      | tup vs =>
        simp only [Option.some.injEq] at hd
        subst hd
        simp only [Outs] at ho
        subst ho
        refine h0.put (some d) ?_
        simp only [SlotR]
        exact ⟨outs, rfl, h1⟩
      | _ =>
        simp only at hd
        simp only [Outs] at ho
        split at hd
        · rename_i s hs
          simp only [Option.some.injEq] at hd
          subst hd
          exact last s hs ho
        · cases hd
  · cases hd

end Go.Proofs.YtckojpaklblnpaaDoor.Ev

/- Calls. -/
set_option linter.unusedVariables false
set_option linter.unusedSimpArgs false
namespace Go.Proofs.YtckojpaklblnpaaDoor.Ev
open Go Go.RowKit

/-- A function is entered, or answers outright. -/
def Enters (P : Program) (f : FuncId) (args : Array Value) (w : World) (R : Ending → World → Prop) : Prop :=
  match (callFunc f args).run P w with
  | .ok (.enter g as) w' => Calls P g as w' R
  | .ok (.value u) w' => R (.returned u) w'
  | _ => False

/-- What comes back of a call. -/
def Came (w : World) (Φ : Bool → Nat → Prop) (ρ : Nat → List Value) (B : List Nat) (n : Nat) (v : V) (os : List (Option O)) : Ending → World → Prop := fun e w' =>
  ∃ val Φ' ρ' B1 B2, e = .returned val ∧ Rel w' Φ' { sl := [], ob := backs (List.range n) os } [] ρ' B1 ∧ Loose w' Φ' B1 B2 ∧ VRt w' Φ' (backs (List.range n) os) ρ' v val B2 ∧ Next w Φ ρ B w' Φ' ρ' (B1 ++ B2)

/-- A call answers as told. -/
def RunIs (P : Program) (f : FuncId) (args : List S) (obs : List O) (v : V) (os : List (Option O)) : Prop :=
  ∀ (w : World) (Φ : Bool → Nat → Prop) (vals : List Value) (ρ : Nat → List Value) (B : List Nat), Rel w Φ { sl := args, ob := enterObs obs 0 } vals ρ B →
    Enters P f vals.toArray w (Came w Φ ρ B obs.length v os)

def RunSound (P : Program) (run : FuncId → List S → List O → Option (V × List (Option O))) : Prop :=
  ∀ f args obs v os, obs.length < 64 → run f args obs = some (v, os) → RunIs P f args obs v os

theorem looks_get : ∀ {ks : List Nat} {ob : List (Nat × O)} {os : List O}, looks ob ks = some os → ∀ k ∈ ks, look (zipO ks os) k = look ob k
  | [], _, _, _, k, hk => by cases hk
  | i :: r, ob, os, h, k, hk => by
    simp only [looks] at h
    split at h
    · rename_i o os' h1 h2
      simp only [Option.some.injEq] at h
      subst h
      simp only [zipO, look]
      split
      · rename_i e; subst e; exact h1.symm
      · rename_i e
        rcases List.mem_cons.mp hk with rfl | hk
        · exact absurd rfl e
        · exact looks_get h2 k hk
    · cases h

theorem run_callee {P : Program} {o : Oper} {c : Call} {f : Operand} {a : Act} {g : FuncId} {vs : Array Value} (ho : o.op = .call c) (hc : c.callee = .value f) (hf : a.eval f = .func (.func g) #[] vs) (w : World) :
    (execOp a.eval o).run P w = (callFunc g (c.args.map a.eval ++ vs)).run P w := by
  simp only [execOp, ho, resolve, hc, hf, Deferred.ofValue]
  simp [invoke]

theorem upon_enters {P : Program} {o : Oper} {a : Act} {w : World} {f : FuncId} {args : Array Value} {R : Ending → World → Prop} {K : Act → World → Prop} {Q : Exit → Act → World → Prop} (h : Enters P f args w R) (hR : ∀ e w', R e w' → ∃ v, e = .returned v ∧ K (a.put o.dst v) w') : o.upon P a K Q ((callFunc f args).run P w) := by
  unfold Enters at h
  generalize (callFunc f args).run P w = r at h
  cases r with
  | ok n w' =>
    cases n <;> simp only at h
    case value u =>
      obtain ⟨v, e, hk⟩ := hR _ _ h
      cases e
      exact hk
    case enter g as =>
      rw [Oper.upon_enter]
      refine Calls.mono h fun e w'' he => ?_
      obtain ⟨v, rfl, hk⟩ := hR _ _ he
      exact hk
  | halt x w' => exact h.elim

theorem done_keys {σ σ' : F} {n0 n1 : Nat} {d : Option Nat} {v : V} (h : σ.done n0 n1 d v = some σ') : ∀ k ∈ σ'.ob.map (·.1), k ∈ σ.ob.map (·.1) := by
  unfold F.done at h
  split at h
  · split at h
    · simp only [Option.some.injEq] at h
      subst h
      exact fun _ hk => hk
    · split at h
      · simp only [Option.some.injEq] at h
        subst h
        exact fun _ hk => hk
      · split at h
        · simp only [Option.some.injEq] at h
          subst h
          exact fun _ hk => hk
        · cases h
  · cases h

theorem runOk_of {P : Program} {e : Env} {run : FuncId → List S → List O → Option (V × List (Option O))} (hs : RunSound P run) : RunOk P e run := by
  intro σ σ' o c f g caps hop hcal hrd hcall w Φ tm ρ B ds K Q hR hK
  have hfv := hR.rd (ds := ds) f
  rw [hrd] at hfv
  simp only [SlotR] at hfv
  obtain ⟨cv, hfe, hcv⟩ := hfv
  have hargs : SlotRs w Φ σ.ob ρ (c.args.toList.map σ.rd) (c.args.toList.map (⟨tm.toArray, ds⟩ : Act).eval) := by
    generalize c.args.toList = l
    induction l with
    | nil => simp only [List.map_nil, SlotRs]
    | cons x l ih => simp only [List.map_cons, SlotRs]; exact ⟨_, _, rfl, hR.rd x, ih⟩
  have hall := hargs.append hcv
  generalize hav : c.args.toList.map (⟨tm.toArray, ds⟩ : Act).eval ++ cv = av at hall
  have hvals : c.args.map (⟨tm.toArray, ds⟩ : Act).eval ++ cv.toArray = av.toArray := by
    rw [← hav]
    apply Array.ext'
    simp
  generalize hxs : c.args.toList.map σ.rd ++ caps = as at hall hcall
  unfold F.call at hcall
  simp only at hcall
  split at hcall
  · rename_i σ1 pls hlend
    split at hcall
    · rename_i xs bs hbor
      split at hcall
      · rename_i obs hlooks
        split at hcall
        · rename_i hchk
          obtain ⟨hap, h64⟩ := hchk
          split at hcall
          · rename_i v os hrunv
            split at hcall
            · rename_i hlent
              obtain ⟨hlent, hoslen⟩ := hlent
              split at hcall
              · rename_i σ2 hrecv
                split at hcall
                · rename_i σ3 hunl
                  -- the frame with its arguments
                  have hlenT := hR.slots.length
                  have hlenA := hall.length
                  obtain ⟨gh, ρ1, B1, hR1, hB1, hρ1, hgh, hlen1⟩ := lendArgs_is as.length 0 (hR.more hall) hlend
                  generalize hks : dedup (S.keyss xs) = ks at *
                  have hksn : ks.Nodup := by rw [← hks]; exact dedup_nodup _
                  have hksm : ∀ k ∈ S.keyss xs, k ∈ ks := fun k hk => by rw [← hks]; exact dedup_mem.mpr hk
                  obtain ⟨z1, z2, z3⟩ := looks_zip hlooks
                  have hapart : ∀ k ∈ bs, k ∉ ks := fun k hkb hkk => apartL_is hap k hkk hkb
                  obtain ⟨A1, A2, s1, s2, s3, s4⟩ := hR1.obs.split (ob1 := zipO ks obs) (ob2 := dropAll ks σ1.ob) hR1.keys hR1.nd (by rw [z2]; exact hksn) (dropAll_nodup hR1.keys) z3 (fun k o hl => by
                    rw [look_dropAll] at hl
                    split at hl
                    · cases hl
                    · exact hl) (fun k hk hk' => by
                    rw [z2] at hk
                    obtain ⟨o2, h2⟩ := look_of_mem hk'
                    rw [look_dropAll, if_pos (by simpa using hk)] at h2
                    cases h2)
                  rw [List.nodup_append] at s3
                  obtain ⟨t1, t2, t3⟩ := s3
                  have m1 : ∀ b ∈ A1, b ∈ B1 := fun b hb => s4 b (List.mem_append.mpr (.inl hb))
                  have m2 : ∀ b ∈ A2, b ∈ B1 := fun b hb => s4 b (List.mem_append.mpr (.inr hb))
                  have hlow : Rel w Φ { sl := [], ob := dropAll ks σ1.ob } [] ρ1 A2 := ⟨s2, t2, dropAll_nodup hR1.keys, fun b hb => hR1.disj b (m2 b hb), fun b hb => hR1.lt b (m2 b hb), hR1.ltΦ, hR1.sub, by simp only [SlotRs]⟩
                  have hsl : SlotRs w Φ σ1.ob ρ1 ((σ1.sl.drop σ.sl.length).take as.length) av := by
                    have := (hR1.slots.drop σ.sl.length).take as.length
                    rw [List.append_assoc, ← hlenT, List.drop_left, ← hlenA, List.take_left] at this
                    rw [← hlenT, ← hlenA]
                    exact this
                  have hxslots := borrowAll_is (bs0 := bs) (ob := zipO ks obs) hR1 hlow (fun k o hl hk => by rw [looks_get hlooks k hk]; exact hl) hbor hapart id hksm hsl
                  have hentry := enter_rel hksn z1 (s1.keep ⟨fun x b hb => .inl hb, fun _ _ _ => rfl, fun _ _ => rfl⟩ (fun _ _ => rfl)) hxslots t1 (fun b hb x hx => by
                    rcases hx with hx | ⟨_, _, hx⟩
                    · exact hR1.disj b (m1 b hb) x hx
                    · exact t3 b hb b hx rfl) (fun b hb => hR1.lt b (m1 b hb)) (fun x b hb => by
                    rcases hb with hb | ⟨_, _, hb⟩
                    · exact hR1.ltΦ x b hb
                    · exact hR1.lt b (m2 b hb)) ⟨fun b hb => (by
                    rcases hb with hb | ⟨_, hh, _⟩
                    · exact .inl (hR1.sub.1 b hb)
                    · cases hh), hR1.sub.2.next (fun b hb => .inl hb) (fun _ _ => rfl)⟩
                  have hent := hs g _ obs v os h64 hrunv w _ av _ A1 hentry
                  unfold Oper.wp
                  rw [run_callee hop hcal hfe, hvals]
                  refine upon_enters hent ?_
                  rintro en w' ⟨val, Φ', ρ', C1, C2, rfl, hRr, hL, hv, hN⟩
                  refine ⟨val, rfl, ?_⟩
                  rw [act_put]
                  -- what the caller reads from now on
                  let Φn : Bool → Nat → Prop := fun x b => Φ' x b ∧ b ∉ A2
                  have hdA : ∀ x b, Φ x b → b ∉ A2 := fun x b hb hb2 => hR1.disj b (m2 b hb2) x hb
                  have hnew : ∀ b, w.heap.size ≤ b → b ∉ A2 := fun b hb hb2 => absurd (hR1.lt b (m2 b hb2)) (Nat.not_lt.mpr hb)
                  have h12 : ∀ b ∈ A1, b ∉ A2 := fun b hb hb2 => t3 b hb b hb2 rfl
                  have hf : ∀ b, Φ' false b → Φn false b := fun b hb => ⟨hb, by
                    rcases hN.fresh false b hb with (hh | ⟨_, hh, _⟩) | hh | hh
                    · exact hdA _ b hh
                    · cases hh
                    · exact h12 b hh
                    · exact hnew b hh⟩
                  have ht : bs = [] → ∀ b, Φ' true b → Φn true b := fun hbs b hb => ⟨hb, by
                    rcases hN.fresh true b hb with (hh | ⟨hh, _⟩) | hh | hh
                    · exact hdA _ b hh
                    · exact absurd hbs hh
                    · exact h12 b hh
                    · exact hnew b hh⟩
                  have hlt : (v.lent = true ∨ lentO os = true) → bs = [] := by
                    intro hh
                    simp only [Bool.or_eq_true, List.isEmpty_iff, Bool.and_eq_true, Bool.not_eq_true'] at hlent
                    rcases hlent with h0 | ⟨h1, h2⟩
                    · exact h0
                    · rcases hh with hh | hh
                      · rw [h1] at hh; cases hh
                      · rw [h2] at hh; cases hh
                  have hmono : ∀ x b, Φ x b → Φn x b := fun x b hb => ⟨hN.mono x b (.inl hb), hdA x b hb⟩
                  have hblk : ∀ b ∈ A2, w'.heap[b]? = w.heap[b]? := fun b hb => hN.block b (hR1.lt b (m2 b hb)) (fun hb1 => h12 b hb1 hb)
                  have hro : ∀ x b, Φ x b → w'.heap[b]? = w.heap[b]? := fun x b hb => hN.block b (hR1.ltΦ x b hb) (fun hb1 => hR1.disj b (m1 b hb1) x hb)
                  have hown : ∀ b ∈ C1 ++ C2, b ∉ A2 := fun b hb => (hN.own b hb).elim (h12 b) (hnew b)
                  have hrange : List.range obs.length = ks.map (numOf ks) := by rw [numOf_map hksn, z1]
                  have hβ : IsOb w' Φn (fun k => ρ' (numOf ks k)) (backs ks os) C1 := by
                    have h0 := hRr.obs
                    simp only at h0
                    rw [hrange] at h0
                    exact backs_plain hf (fun hl => ht (hlt (.inr hl))) (backs_is (numOf ks) h0)
                  have hρk : ∀ k ∈ ks, ρ' (numOf ks k) = ρ1 k := by
                    intro k hk
                    have hgk := numOf_get hk
                    have hl64 : numOf ks k < 64 := by
                      have := (List.getElem?_eq_some_iff.mp hgk).1
                      omega
                    rw [hN.imp _ hl64]
                    simp [List.getD_eq_getElem?_getD, hgk]
                  have hback := back_rel (d := none) (ρ' := fun k => ρ' (numOf ks k)) (Φ' := Φn) (β := backs ks os) (ks := ks) hR1 s2 m2 t2 hβ (backs_nodup hksn) hRr.nd (fun k hk hn => absurd (backs_mem k hk) hn)
                    (fun b hb x hx => hRr.disj b hb x hx.1) hRr.lt (fun b hb => hown b (List.mem_append.mpr (.inl hb))) hN.size hmono hro hblk (fun b hb x hx => hx.2 hb) (fun x b hx => hRr.ltΦ x b hx.1) (fun b hb => ⟨hRr.sub.1 b hb.1, hb.2⟩) (fun k hk _ => hρk k hk)
                  have hρe : (fun k => if ((backs ks os).map (·.1)).contains k then ρ' (numOf ks k) else ρ1 k) = ρ1 := by
                    funext k
                    split
                    · rename_i hc
                      exact hρk k (backs_mem k (by simpa using hc))
                    · rfl
                  rw [hρe] at hback
                  have hLn : Loose w' Φn (C1 ++ A2) C2 := ⟨hL.nd, fun b hb hb' => by
                    rcases List.mem_append.mp hb' with hh | hh
                    · exact hL.apart b hb hh
                    · exact hown b (List.mem_append.mpr (.inr hb)) hh, hL.lt, fun b hb x hx => hL.disj b hb x hx.1⟩
                  have hvn := VRt.plain (Φ' := Φn) hf (fun hl => ht (hlt (.inl hl))) hv
                  obtain ⟨outs, ρ2, B2, hR2, hO, hB2, hρ2, hd⟩ := recvAll_is (d := o.dst) hback hLn hvn (fun k key ob hk hl => by
                    have hkr : (List.range obs.length)[k]? = some k := by
                      have := (List.getElem?_eq_some_iff.mp hk).1
                      rw [List.getElem?_range (by omega)]
                    rw [backs_look List.nodup_range hkr] at hl
                    have e1 := backs_look (os := os) hksn hk
                    refine ⟨?_, ?_⟩
                    · simp only [F.back]
                      rw [look_append, e1, hl]
                    · have e2 : numOf ks key = k := by
                        have h9 := congrArg (fun l => l[k]?) hrange
                        simp only [hkr, List.getElem?_map, hk, Option.map_some, Option.some.injEq] at h9
                        exact h9.symm
                      rw [← hρk key (List.mem_of_getElem? hk), e2]) hrecv
                  have hghost : ∀ pl ∈ pls, (tm ++ av ++ gh ++ outs)[pl.1]? = some (.agg (ρ2 pl.2).toArray) := by
                    intro pl hpl
                    obtain ⟨g1, g2⟩ := hgh pl hpl
                    rw [List.getElem?_append_left (List.getElem?_eq_some_iff.mp g2).1, g2, hρ2 pl.2]
                    cases hdd : o.dst with
                    | none => rfl
                    | some j =>
                      have := hd j hdd
                      simp only [newKey, beq_eq_false_iff_ne, ne_eq]
                      simp only [keyOf] at g1
                      omega
                  obtain ⟨B3, hR3, hB3⟩ := unlendAll_is hR2 hghost hunl
                  have hlenn : σ1.sl.length = (tm ++ (av ++ gh)).length := by rw [hlen1]; simp [hlenT, hlenA]; omega
                  rw [← hlenT, hlenn] at hcall
                  have hR3' : Rel w' Φn σ3 (tm ++ (av ++ gh) ++ outs) ρ2 B3 := by rw [← List.append_assoc tm]; exact hR3
                  obtain ⟨hfin, hkeys⟩ := done_is hR3' hO hcall
                  have hB3s : ∀ b ∈ B3, b ∈ B ∨ w.heap.size ≤ b := by
                    intro b hb
                    have : b ∈ C1 ++ C2 ∨ b ∈ A2 := by
                      rcases hB2 b (hB3 b hb) with hh | hh
                      · rcases List.mem_append.mp hh with hh | hh
                        · exact .inl (List.mem_append.mpr (.inl hh))
                        · exact .inr hh
                      · exact .inl (List.mem_append.mpr (.inr hh))
                    rcases this with hh | hh
                    · exact (hN.own b hh).imp (fun h1 => hB1 b (m1 b h1)) id
                    · exact .inl (hB1 b (m2 b hh))
                  have hlast := hfin.rho (ρ' := fun k => if k < keyOf 100000 0 then ρ2 k else ρ k) (fun k hk => by
                    have hkk : k < keyOf 100000 0 := hkeys k (done_keys hcall k hk)
                    show (if k < keyOf 100000 0 then ρ2 k else ρ k) = ρ2 k
                    rw [if_pos hkk])
                  have hsame : Same o.dst ρ (fun k => if k < keyOf 100000 0 then ρ2 k else ρ k) := by
                    intro k hk
                    show (if k < keyOf 100000 0 then ρ2 k else ρ k) = ρ k
                    split
                    · rename_i hkk
                      rw [hρ2 k hk, hρ1 k (by simpa using hkk)]
                    · rfl
                  refine hK _ _ _ _ _ hlast ⟨hN.os, hN.tape, hN.output, hN.size, fun b hb hn => hN.block b hb (fun hb1 => hn (hB1 b (m1 b hb1))), hB3s, hmono, ?_, ?_, hsame.imp⟩ hsame
                  · intro x b hb
                    rcases hN.fresh x b hb.1 with (hh | ⟨_, _, hh⟩) | hh | hh
                    · exact .inl hh
                    · exact absurd hh hb.2
                    · exact .inr (.inl (hB1 b (m1 b hh)))
                    · exact .inr (.inr hh)
                  · intro b hb
                    rcases hN.lent b hb.1 with (hh | ⟨_, _, hh⟩) | hh
                    · exact .inl hh
                    · exact absurd hh hb.2
                    · exact .inr (hf b hh)
                · cases hcall
              · cases hcall
            · cases hcall
          · cases hcall
        · cases hcall
      · cases hcall
    · cases hcall
  · cases hcall

end Go.Proofs.YtckojpaklblnpaaDoor.Ev
