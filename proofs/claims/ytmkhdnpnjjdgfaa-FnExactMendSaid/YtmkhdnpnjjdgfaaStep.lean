/- The plain operations: what the evaluator tells of a slot, the machine puts there. -/
import Derived.Test.YtmkhdnpnjjdgfaaTab
import Derived.Tactics
import Derived.Laws.Entries
import Derived.Laws.Cells
set_option linter.unusedVariables false
set_option linter.unusedSimpArgs false
namespace Go.Proofs.Ytmkhdnpnjjdgfaa.Ev
open Go Go.RowKit

/-- A world further on: below nothing has turned but what was owned; what is owned now was so, or is new. -/
structure Next (w : World) (Φ : Bool → Nat → Prop) (ρ : Nat → List Value) (B : List Nat) (w' : World) (Φ' : Bool → Nat → Prop) (ρ' : Nat → List Value) (B' : List Nat) : Prop where
  os : w'.os = w.os
  tape : w'.tape = w.tape
  output : w'.output = w.output
  size : w.heap.size ≤ w'.heap.size
  block : ∀ b, b < w.heap.size → b ∉ B → w'.heap[b]? = w.heap[b]?
  own : ∀ b ∈ B', b ∈ B ∨ w.heap.size ≤ b
  mono : ∀ x b, Φ x b → Φ' x b
  fresh : ∀ x b, Φ' x b → Φ x b ∨ b ∈ B ∨ w.heap.size ≤ b
  lent : ∀ b, Φ' true b → Φ true b ∨ Φ' false b
  imp : ∀ j, j < 64 → ρ' j = ρ j

theorem Next.refl (w : World) (Φ : Bool → Nat → Prop) (ρ : Nat → List Value) (B : List Nat) : Next w Φ ρ B w Φ ρ B :=
  ⟨rfl, rfl, rfl, Nat.le_refl _, fun _ _ _ => rfl, fun _ h => .inl h, fun _ _ h => h, fun _ _ h => .inl h, fun _ h => .inl h, fun _ _ => rfl⟩

theorem Next.trans {w w1 w2 : World} {Φ Φ1 Φ2 : Bool → Nat → Prop} {ρ ρ1 ρ2 : Nat → List Value} {B B1 B2 : List Nat} (h : Next w Φ ρ B w1 Φ1 ρ1 B1) (k : Next w1 Φ1 ρ1 B1 w2 Φ2 ρ2 B2) : Next w Φ ρ B w2 Φ2 ρ2 B2 where
  os := k.os.trans h.os
  tape := k.tape.trans h.tape
  output := k.output.trans h.output
  size := Nat.le_trans h.size k.size
  block b hb hn := (k.block b (Nat.lt_of_lt_of_le hb h.size) (fun hb1 => (h.own b hb1).elim hn (fun hh => absurd hb (Nat.not_lt.mpr hh)))).trans (h.block b hb hn)
  own b hb := (k.own b hb).elim (h.own b) (fun hh => .inr (Nat.le_trans h.size hh))
  mono x b hb := k.mono x b (h.mono x b hb)
  fresh x b hb := (k.fresh x b hb).elim (h.fresh x b) (fun hh => hh.elim (fun hb1 => .inr (h.own b hb1)) (fun hge => .inr (.inr (Nat.le_trans h.size hge))))
  lent b hb := (k.lent b hb).elim (fun h1 => (h.lent b h1).elim .inl (fun h2 => .inr (k.mono false b h2))) .inr
  imp j hj := (k.imp j hj).trans (h.imp j hj)

/-- The same objects and slots, in a world that was drawn. -/
theorem put_list (tm : List Value) (d : Nat) (v : Value) : tm.toArray.setIfInBounds d v = (tm.set d v).toArray := by simp

def putL (tm : List Value) (d : Option Nat) (v : Value) : List Value := match d with | some d => tm.set d v | none => tm

theorem act_put (tm : List Value) (ds : List Deferred) (d : Option Nat) (v : Value) : Act.put ⟨tm.toArray, ds⟩ d v = ⟨(putL tm d v).toArray, ds⟩ := by
  cases d <;> simp [Act.put, putL]

theorem Rel.put {w : World} {Φ : Bool → Nat → Prop} {σ : F} {tm : List Value} {ρ : Nat → List Value} {B : List Nat} (h : Rel w Φ σ tm ρ B) {s : S} {v : Value} (d : Option Nat) (hs : SlotR w Φ σ.ob ρ s v) : Rel w Φ (σ.put d s) (putL tm d v) ρ B := by
  cases d with
  | none => exact h
  | some d => exact { h with slots := h.slots.set d s v hs }

/-! ### operands -/

theorem cellT_one {v : Value} {t : T} (h : cellT v = some t) : one v := by
  cases v <;> first | rfl | (simp [cellT] at h; done)

theorem cellT_is {w : World} {φ : Nat → Prop} {v : Value} {t : T} (h : cellT v = some t) : IsT w φ t v := by
  have h1 := cellT_one h
  unfold cellT at h
  split at h <;> simp at h
  · subst h
    simp only [IsT]
    exact ⟨none, 0, rfl, Nat.le_refl _, .inl trivial⟩
  all_goals
    subst h
    simp only [IsT]
    exact ⟨trivial, h1⟩

theorem cellsT_is {w : World} {φ : Nat → Prop} : ∀ {vs : List Value} {ts : List T}, cellsT vs = some ts → IsTs w φ ts vs
  | [], ts, h => by simp only [cellsT, Option.some.injEq] at h; subst h; simp only [IsTs]
  | v :: vs, ts, h => by
    simp only [cellsT] at h
    cases h1 : cellT v with
    | none => simp [h1] at h
    | some t =>
      cases h2 : cellsT vs with
      | none => simp [h1, h2] at h
      | some ts' =>
        simp only [h1, h2, Option.some.injEq] at h
        subst h
        simp only [IsTs]
        exact ⟨v, vs, rfl, cellT_is h1, cellsT_is h2⟩

theorem cellT_lit {v x : Value} (h : cellT v = some (.lit x)) : v = x ∧ one x := by
  have := cellT_is (w := default) (φ := fun _ => True) h
  simpa only [IsT] using this

theorem constS_is {w : World} {Φ : Bool → Nat → Prop} {ob : List (Nat × O)} {ρ : Nat → List Value} (v : Value) : SlotR w Φ ob ρ (constS v) v := by
  unfold constS
  split
  · simp only [SlotR]
  · split
    · rename_i ts hts
      simp only [SlotR]
      exact ⟨_, by simp, cellsT_is hts⟩
    · simp only [SlotR]
  · split
    · rename_i x hx
      simp only [SlotR]
      exact cellT_lit hx
    · simp only [SlotR]

theorem Rel.rd {w : World} {Φ : Bool → Nat → Prop} {σ : F} {tm : List Value} {ρ : Nat → List Value} {B : List Nat} {ds : List Deferred} (h : Rel w Φ σ tm ρ B) (x : Operand) : SlotR w Φ σ.ob ρ (σ.rd x) ((⟨tm.toArray, ds⟩ : Act).eval x) := by
  cases x with
  | tmp t =>
    have := h.slots.get t
    simpa [F.rd, F.at_, Act.eval] using this
  | const v => exact constS_is v
  | global g => simp only [F.rd, SlotR]
  | func f =>
    simp only [F.rd, SlotR, Act.eval]
    exact ⟨[], rfl, by simp only [SlotRs]⟩

/-- What the types' table says holds of the program. -/
structure EnvOk (P : Program) (e : Env) : Prop where
  ty : ∀ t v, e.ty t = some v → ∃ i z, P.info? t = some i ∧ P.underlying t = some v.desc ∧ i.size = v.cells ∧ i.bytes = v.bytes ∧ i.zero = some z ∧ cellsT z.cells.toList = some v.zero ∧ z.cells.size = v.cells ∧ v.agg = isAggDesc v.desc ∧ isAggValue z = v.agg ∧ 0 < v.cells

theorem tvOf_ok (P : Program) {t : TypeId} {v : TV} (h : tvOf P t = some v) : ∃ i z, P.info? t = some i ∧ P.underlying t = some v.desc ∧ i.size = v.cells ∧ i.bytes = v.bytes ∧ i.zero = some z ∧ cellsT z.cells.toList = some v.zero ∧ z.cells.size = v.cells ∧ v.agg = isAggDesc v.desc ∧ isAggValue z = v.agg ∧ 0 < v.cells := by
  unfold tvOf at h
  cases h1 : P.info? t with
  | none => simp [h1] at h
  | some i =>
    cases h2 : P.underlying t with
    | none => simp [h1, h2] at h
    | some d =>
      simp only [h1, h2] at h
      cases h3 : i.zero with
      | none => simp [h3] at h
      | some z =>
        simp only [h3] at h
        cases h4 : cellsT z.cells.toList with
        | none => simp [h4] at h
        | some ts =>
          simp only [h4] at h
          split at h
          · rename_i hc
            simp only [Option.some.injEq] at h
            subst h
            exact ⟨i, z, rfl, rfl, rfl, rfl, h3, h4, hc.1, rfl, hc.2.1, hc.2.2⟩
          · cases h

/-! ### an operation whose answer is a value, the world as it was -/

/-- What an operation with this destination does not make lies where it lay. -/
def Same (d : Option Nat) (ρ ρ' : Nat → List Value) : Prop := ∀ k, newKey d k = false → ρ' k = ρ k

theorem Same.refl (d : Option Nat) (ρ : Nat → List Value) : Same d ρ ρ := fun _ _ => rfl

theorem newKey_lt {d : Option Nat} {k : Nat} (h : k < 64) : newKey d k = false := by
  cases d with
  | none => rfl
  | some d => simp only [newKey, beq_eq_false_iff_ne]; omega

theorem newKey_keyOf {d j k : Nat} (hj : j < 8) (h : newKey (some d) k = false) : k ≠ keyOf d j := by
  simp only [newKey, beq_eq_false_iff_ne] at h
  unfold keyOf
  omega

theorem Same.imp {d : Option Nat} {ρ ρ' : Nat → List Value} (h : Same d ρ ρ') : ∀ j, j < 64 → ρ' j = ρ j := fun j hj => h j (newKey_lt hj)

/-- The operation is done: from any state that it stands for the machine comes to one that its answer stands for. -/
def OpOk (P : Program) (o : Oper) (σ σ' : F) : Prop :=
  ∀ (w : World) (Φ : Bool → Nat → Prop) (tm : List Value) (ρ : Nat → List Value) (B : List Nat) (ds : List Deferred) (K : Act → World → Prop) (Q : Exit → Act → World → Prop), Rel w Φ σ tm ρ B →
    (∀ tm' w' Φ' ρ' B', Rel w' Φ' σ' tm' ρ' B' → Next w Φ ρ B w' Φ' ρ' B' → Same o.dst ρ ρ' → K ⟨tm'.toArray, ds⟩ w') → o.wp P ⟨tm.toArray, ds⟩ w K Q

/-- What was there is as it was. -/
def Old (w w2 : World) : Prop := ∀ b, b < w.heap.size → w2.heap[b]? = w.heap[b]?

theorem Old.refl (w : World) : Old w w := fun _ _ => rfl

theorem Old.get {w w2 : World} (h : Old w w2) {b : Nat} {o : Obj} (hb : w.heap[b]? = some o) : w2.heap[b]? = some o := by
  rw [h b (Array.getElem?_eq_some_iff.mp hb).1]; exact hb

/-- The operation only yields a value, the same one wherever what was there is as it was. -/
def OpStill (P : Program) (o : Oper) (σ σ' : F) : Prop :=
  ∀ (w : World) (Φ : Bool → Nat → Prop) (tm : List Value) (ρ : Nat → List Value) (B : List Nat) (ds : List Deferred), Rel w Φ σ tm ρ B →
    ∃ v ρ' B', (∀ w2, Old w w2 → (execOp (⟨tm.toArray, ds⟩ : Act).eval o).run P w2 = .ok (.value v) w2) ∧ Rel w Φ σ' (putL tm o.dst v) ρ' B' ∧ (∀ b ∈ B', b ∈ B) ∧ Same o.dst ρ ρ'

/-- The operation is done, and what was there is as it was. -/
def OpNew (P : Program) (o : Oper) (σ σ' : F) : Prop :=
  ∀ (w : World) (Φ : Bool → Nat → Prop) (tm : List Value) (ρ : Nat → List Value) (B : List Nat) (ds : List Deferred) (K : Act → World → Prop) (Q : Exit → Act → World → Prop), Rel w Φ σ tm ρ B →
    (∀ tm' w' Φ' ρ' B', Rel w' Φ' σ' tm' ρ' B' → Next w Φ ρ B w' Φ' ρ' B' → Same o.dst ρ ρ' → Old w w' → K ⟨tm'.toArray, ds⟩ w') → o.wp P ⟨tm.toArray, ds⟩ w K Q

theorem OpNew.ok {P : Program} {o : Oper} {σ σ' : F} (h : OpNew P o σ σ') : OpOk P o σ σ' :=
  fun w Φ tm ρ B ds K Q hR hK => h w Φ tm ρ B ds K Q hR fun tm' w' Φ' ρ' B' a b c _ => hK tm' w' Φ' ρ' B' a b c

theorem OpStill.new {P : Program} {o : Oper} {σ σ' : F} (h : OpStill P o σ σ') : OpNew P o σ σ' := by
  intro w Φ tm ρ B ds K Q hR hK
  obtain ⟨v, ρ', B', h1, h2, h3, h4⟩ := h w Φ tm ρ B ds hR
  unfold Oper.wp
  rw [h1 w (Old.refl w), Oper.upon_value, act_put]
  exact hK _ _ _ _ _ h2 ⟨rfl, rfl, rfl, Nat.le_refl _, fun _ _ _ => rfl, fun b hb => .inl (h3 b hb), fun _ _ h => h, fun _ _ h => .inl h, fun _ h => .inl h, h4.imp⟩ h4 (Old.refl w)

theorem OpStill.ok {P : Program} {o : Oper} {σ σ' : F} (h : OpStill P o σ σ') : OpOk P o σ σ' := h.new.ok

theorem opVal {P : Program} {o : Oper} {σ : F} {s : S} (h : ∀ (w : World) (Φ : Bool → Nat → Prop) (tm : List Value) (ρ : Nat → List Value) (B : List Nat) (ds : List Deferred), Rel w Φ σ tm ρ B →
    ∃ v, (∀ w2, Old w w2 → (execOp (⟨tm.toArray, ds⟩ : Act).eval o).run P w2 = .ok (.value v) w2) ∧ SlotR w Φ σ.ob ρ s v) : OpStill P o σ (σ.put o.dst s) := by
  intro w Φ tm ρ B ds hR
  obtain ⟨v, h1, h2⟩ := h w Φ tm ρ B ds hR
  exact ⟨v, ρ, B, h1, hR.put o.dst h2, fun _ h => h, fun _ _ => rfl⟩

section
variable {P : Program} {σ : F} {d : Option Tmp} {ty : TypeId} {pos : String} {after : Array Edge} {gd : Option (Nat × Bool)}

theorem ok_move (x : Operand) : OpStill P ⟨d, .move x, ty, pos, after, gd⟩ σ (σ.put d (σ.rd x)) :=
  opVal (o := ⟨d, .move x, ty, pos, after, gd⟩) fun _ _ tm _ _ ds hR => ⟨(⟨tm.toArray, ds⟩ : Act).eval x, fun _ _ => by simp [execOp], hR.rd x⟩

theorem ok_assign (x : Operand) : OpStill P ⟨d, .assign x, ty, pos, after, gd⟩ σ (σ.put d (σ.rd x)) :=
  opVal (o := ⟨d, .assign x, ty, pos, after, gd⟩) fun _ _ tm _ _ ds hR => ⟨(⟨tm.toArray, ds⟩ : Act).eval x, fun _ _ => by simp [execOp], hR.rd x⟩

theorem boolOf_is {w : World} {Φ : Bool → Nat → Prop} {ob : List (Nat × O)} {ρ : Nat → List Value} {s : S} {v : Value} {b : Bool} (h : boolOf? s = some b) (hs : SlotR w Φ ob ρ s v) : v = .bool b := by
  unfold boolOf? at h
  split at h
  · simp only [Option.some.injEq] at h
    subst h
    simp only [SlotR] at hs
    exact hs.1
  · cases h

theorem intOf_is {w : World} {Φ : Bool → Nat → Prop} {ob : List (Nat × O)} {ρ : Nat → List Value} {s : S} {v : Value} {n : Int} (h : intOf? s = some n) (hs : SlotR w Φ ob ρ s v) : ∃ k, v = .int k n := by
  unfold intOf? at h
  split at h
  · simp only [Option.some.injEq] at h
    subst h
    simp only [SlotR] at hs
    exact ⟨_, hs.1⟩
  · cases h

theorem ok_pick (c a b : Operand) (x : Bool) (h : boolOf? (σ.rd c) = some x) : OpStill P ⟨d, .pick c a b, ty, pos, after, gd⟩ σ (σ.put d (if x then σ.rd a else σ.rd b)) :=
  opVal (o := ⟨d, .pick c a b, ty, pos, after, gd⟩) fun w Φ tm ρ B ds hR => by
    have hc := boolOf_is h (hR.rd (ds := ds) c)
    cases x
    · exact ⟨(⟨tm.toArray, ds⟩ : Act).eval b, fun _ _ => by simp [execOp, hc, asBool], hR.rd b⟩
    · exact ⟨(⟨tm.toArray, ds⟩ : Act).eval a, fun _ _ => by simp [execOp, hc, asBool], hR.rd a⟩

theorem ok_makeFunc (g : FuncId) (first captured : Array Operand) (hf : first.isEmpty = true) : OpStill P ⟨d, .makeFunc (.func g) first captured, ty, pos, after, gd⟩ σ (σ.put d (.fn g (captured.toList.map σ.rd))) :=
  opVal (o := ⟨d, .makeFunc (.func g) first captured, ty, pos, after, gd⟩) fun w Φ tm ρ B ds hR => by
    have hf' : first = #[] := by simpa using hf
    subst hf'
    refine ⟨.func (.func g) #[] (captured.map (⟨tm.toArray, ds⟩ : Act).eval), fun _ _ => by simp [execOp, Instr.makeFunc], ?_⟩
    simp only [SlotR]
    refine ⟨captured.toList.map (⟨tm.toArray, ds⟩ : Act).eval, by rw [← Array.toList_map], ?_⟩
    generalize captured.toList = l
    induction l with
    | nil => simp only [List.map_nil, SlotRs]
    | cons x l ih => simp only [List.map_cons, SlotRs]; exact ⟨_, _, rfl, hR.rd x, ih⟩

theorem SlotRs.nth {w : World} {Φ : Bool → Nat → Prop} {ob : List (Nat × O)} {ρ : Nat → List Value} : ∀ {ss : List S} {vs : List Value}, SlotRs w Φ ob ρ ss vs → ∀ {i : Nat} {s : S}, ss[i]? = some s → ∃ v, vs[i]? = some v ∧ SlotR w Φ ob ρ s v
  | [], _, _, i, s, hs => by simp at hs
  | s0 :: ss, _, h, 0, s, hs => by
    simp only [SlotRs] at h
    obtain ⟨v, vs', rfl, h2, _⟩ := h
    simp only [List.getElem?_cons_zero, Option.some.injEq] at hs
    subst hs
    exact ⟨v, rfl, h2⟩
  | s0 :: ss, _, h, i + 1, s, hs => by
    simp only [SlotRs] at h
    obtain ⟨v, vs', rfl, _, h3⟩ := h
    simp only [List.getElem?_cons_succ] at hs ⊢
    exact h3.nth hs

theorem ok_extract (x : Operand) (i : Nat) (xs : List S) (s : S) (hx : σ.rd x = .tup xs) (hs : xs[i]? = some s) : OpStill P ⟨d, .extract x i, ty, pos, after, gd⟩ σ (σ.put d s) :=
  opVal (o := ⟨d, .extract x i, ty, pos, after, gd⟩) fun w Φ tm ρ B ds hR => by
    have h := hR.rd (ds := ds) x
    rw [hx] at h
    simp only [SlotR] at h
    obtain ⟨vs, h1, h2⟩ := h
    obtain ⟨v, h3, h4⟩ := h2.nth hs
    exact ⟨v, fun _ _ => by simp [execOp, h1, Instr.extract, h3], h4⟩

end

end Go.Proofs.Ytmkhdnpnjjdgfaa.Ev
