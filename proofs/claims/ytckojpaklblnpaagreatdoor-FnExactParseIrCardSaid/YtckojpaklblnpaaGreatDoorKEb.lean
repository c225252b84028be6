/- The evaluator and its soundness, part 2: Step Plain Load Addr Field Value Own Take Taken Store Make Pack New Grow. -/
import Derived.Test.YtckojpaklblnpaaGreatDoorKEa
import Derived.Tactics
import Derived.Laws.Entries
import Derived.Laws.Cells
import Derived.Laws.Strings
import Derived.Laws.StructEq
import Derived.Laws.BytesArg
import Derived.Laws.IdiomCopy
import Derived.Laws.MakeOwn
import Derived.Laws.IdiomStrings
import Derived.Laws.OwnMore
import Derived.Laws.Append
/- The plain operations: what the evaluator tells of a slot, the machine puts there. -/
set_option linter.unusedVariables false
set_option linter.unusedSimpArgs false
namespace Go.Proofs.YtckojpaklblnpaaGreatDoor.Ev
open Go Go.RowKit
structure Next (w : World) (Φ : Bool → Nat → Prop) (ρ : Nat → List Value) (B : List Nat) (w' : World) (Φ' : Bool → Nat → Prop) (ρ' : Nat → List Value) (B' : List Nat) : Prop where
  os : w'.os = w.os
  tape : w'.tape = w.tape
  output : w'.output = w.output
  size : w.heap.size ≤ w'.heap.size
  block : ∀ b, b < w.heap.size → b ∉ B → w'.heap[b]? = w.heap[b]?
  own : ∀ b ∈ B', b ∈ B ∨ w.heap.size ≤ b
  mono : ∀ x b, Φ x b → Φ' x b
  fresh : ∀ x b, Φ' x b → Φ x b ∨ b ∈ B ∨ w.heap.size ≤ b
  lent : ∀ b, Φ' true b → Φ true b ∨ Φ' false b
  imp : ∀ j, j < 64 → ρ' j = ρ j
theorem Next.refl (w : World) (Φ : Bool → Nat → Prop) (ρ : Nat → List Value) (B : List Nat) : Next w Φ ρ B w Φ ρ B :=
  ⟨rfl, rfl, rfl, Nat.le_refl _, fun _ _ _ => rfl, fun _ h => .inl h, fun _ _ h => h, fun _ _ h => .inl h, fun _ h => .inl h, fun _ _ => rfl⟩
theorem Next.trans {w w1 w2 : World} {Φ Φ1 Φ2 : Bool → Nat → Prop} {ρ ρ1 ρ2 : Nat → List Value} {B B1 B2 : List Nat} (h : Next w Φ ρ B w1 Φ1 ρ1 B1) (k : Next w1 Φ1 ρ1 B1 w2 Φ2 ρ2 B2) : Next w Φ ρ B w2 Φ2 ρ2 B2 where
  os := k.os.trans h.os
  tape := k.tape.trans h.tape
  output := k.output.trans h.output
  size := Nat.le_trans h.size k.size
  block b hb hn := (k.block b (Nat.lt_of_lt_of_le hb h.size) (fun hb1 => (h.own b hb1).elim hn (fun hh => absurd hb (Nat.not_lt.mpr hh)))).trans (h.block b hb hn)
  own b hb := (k.own b hb).elim (h.own b) (fun hh => .inr (Nat.le_trans h.size hh))
  mono x b hb := k.mono x b (h.mono x b hb)
  fresh x b hb := (k.fresh x b hb).elim (h.fresh x b) (fun hh => hh.elim (fun hb1 => .inr (h.own b hb1)) (fun hge => .inr (.inr (Nat.le_trans h.size hge))))
  lent b hb := (k.lent b hb).elim (fun h1 => (h.lent b h1).elim .inl (fun h2 => .inr (k.mono false b h2))) .inr
  imp j hj := (k.imp j hj).trans (h.imp j hj)
def putL (tm : List Value) (d : Option Nat) (v : Value) : List Value := match d with | some d => tm.set d v | none => tm
theorem act_put (tm : List Value) (ds : List Deferred) (d : Option Nat) (v : Value) : Act.put ⟨tm.toArray, ds⟩ d v = ⟨(putL tm d v).toArray, ds⟩ := by
  cases d <;> simp [Act.put, putL]
theorem Rel.put {w : World} {Φ : Bool → Nat → Prop} {σ : F} {tm : List Value} {ρ : Nat → List Value} {B : List Nat} (h : Rel w Φ σ tm ρ B) {s : S} {v : Value} (d : Option Nat) (hs : SlotR w Φ σ.ob ρ s v) : Rel w Φ (σ.put d s) (putL tm d v) ρ B := by
  cases d with
  | none => exact h
  | some d => exact { h with slots := h.slots.set d s v hs }
/-! ### operands -/
theorem cellT_one {v : Value} {t : T} (h : cellT v = some t) : one v := by
  cases v <;> first | rfl | (simp [cellT] at h; done)
theorem cellT_is {w : World} {φ : Nat → Prop} {v : Value} {t : T} (h : cellT v = some t) : IsT w φ t v := by
  have h1 := cellT_one h
  unfold cellT at h
  split at h <;> simp at h
  · subst h
    simp only [IsT]
    exact ⟨none, 0, rfl, Nat.le_refl _, .inl trivial⟩
  all_goals
    subst h
    simp only [IsT]
    exact ⟨trivial, h1⟩
theorem cellsT_is {w : World} {φ : Nat → Prop} : ∀ {vs : List Value} {ts : List T}, cellsT vs = some ts → IsTs w φ ts vs
  | [], ts, h => by simp only [cellsT, Option.some.injEq] at h; subst h; simp only [IsTs]
  | v :: vs, ts, h => by
    simp only [cellsT] at h
    cases h1 : cellT v with
    | none => simp [h1] at h
    | some t =>
      cases h2 : cellsT vs with
      | none => simp [h1, h2] at h
      | some ts' =>
        simp only [h1, h2, Option.some.injEq] at h
        subst h
        simp only [IsTs]
        exact ⟨v, vs, rfl, cellT_is h1, cellsT_is h2⟩
theorem cellT_lit {v x : Value} (h : cellT v = some (.lit x)) : v = x ∧ one x := by
  have := cellT_is (w := default) (φ := fun _ => True) h
  simpa only [IsT] using this
theorem constS_is {w : World} {Φ : Bool → Nat → Prop} {ob : List (Nat × O)} {ρ : Nat → List Value} (v : Value) : SlotR w Φ ob ρ (constS v) v := by
  unfold constS
  split
  · simp only [SlotR]
  · split
    · rename_i ts hts
      simp only [SlotR]
      exact ⟨_, by simp, cellsT_is hts⟩
    · simp only [SlotR]
  · split
    · rename_i x hx
      simp only [SlotR]
      exact cellT_lit hx
    · simp only [SlotR]
theorem Rel.rd {w : World} {Φ : Bool → Nat → Prop} {σ : F} {tm : List Value} {ρ : Nat → List Value} {B : List Nat} {ds : List Deferred} (h : Rel w Φ σ tm ρ B) (x : Operand) : SlotR w Φ σ.ob ρ (σ.rd x) ((⟨tm.toArray, ds⟩ : Act).eval x) := by
  cases x with
  | tmp t =>
    have := h.slots.get t
    simpa [F.rd, F.at_, Act.eval] using this
  | const v => exact constS_is v
  | global g => simp only [F.rd, SlotR]
  | func f =>
    simp only [F.rd, SlotR, Act.eval]
    exact ⟨[], rfl, by simp only [SlotRs]⟩
structure EnvOk (P : Program) (e : Env) : Prop where
  ty : ∀ t v, e.ty t = some v → ∃ i z, P.info? t = some i ∧ P.underlying t = some v.desc ∧ i.size = v.cells ∧ i.bytes = v.bytes ∧ i.zero = some z ∧ cellsT z.cells.toList = some v.zero ∧ z.cells.size = v.cells ∧ v.agg = isAggDesc v.desc ∧ isAggValue z = v.agg ∧ 0 < v.cells
theorem tvOf_ok (P : Program) {t : TypeId} {v : TV} (h : tvOf P t = some v) : ∃ i z, P.info? t = some i ∧ P.underlying t = some v.desc ∧ i.size = v.cells ∧ i.bytes = v.bytes ∧ i.zero = some z ∧ cellsT z.cells.toList = some v.zero ∧ z.cells.size = v.cells ∧ v.agg = isAggDesc v.desc ∧ isAggValue z = v.agg ∧ 0 < v.cells := by
  unfold tvOf at h
  cases h1 : P.info? t with
  | none => simp [h1] at h
  | some i =>
    cases h2 : P.underlying t with
    | none => simp [h1, h2] at h
    | some d =>
      simp only [h1, h2] at h
      cases h3 : i.zero with
      | none => simp [h3] at h
      | some z =>
        simp only [h3] at h
        cases h4 : cellsT z.cells.toList with
        | none => simp [h4] at h
        | some ts =>
          simp only [h4] at h
          split at h
          · rename_i hc
            simp only [Option.some.injEq] at h
            subst h
            exact ⟨i, z, rfl, rfl, rfl, rfl, h3, h4, hc.1, rfl, hc.2.1, hc.2.2⟩
          · cases h
/-! ### an operation whose answer is a value, the world as it was -/
def Same (d : Option Nat) (ρ ρ' : Nat → List Value) : Prop := ∀ k, newKey d k = false → ρ' k = ρ k
theorem Same.refl (d : Option Nat) (ρ : Nat → List Value) : Same d ρ ρ := fun _ _ => rfl
theorem newKey_lt {d : Option Nat} {k : Nat} (h : k < 64) : newKey d k = false := by
  cases d with
  | none => rfl
  | some d => simp only [newKey, beq_eq_false_iff_ne]; omega
theorem newKey_keyOf {d j k : Nat} (hj : j < 8) (h : newKey (some d) k = false) : k ≠ keyOf d j := by
  simp only [newKey, beq_eq_false_iff_ne] at h
  unfold keyOf
  omega
theorem Same.imp {d : Option Nat} {ρ ρ' : Nat → List Value} (h : Same d ρ ρ') : ∀ j, j < 64 → ρ' j = ρ j := fun j hj => h j (newKey_lt hj)
def OpOk (P : Program) (o : Oper) (σ σ' : F) : Prop :=
  ∀ (w : World) (Φ : Bool → Nat → Prop) (tm : List Value) (ρ : Nat → List Value) (B : List Nat) (ds : List Deferred) (K : Act → World → Prop) (Q : Exit → Act → World → Prop), Rel w Φ σ tm ρ B →
    (∀ tm' w' Φ' ρ' B', Rel w' Φ' σ' tm' ρ' B' → Next w Φ ρ B w' Φ' ρ' B' → Same o.dst ρ ρ' → K ⟨tm'.toArray, ds⟩ w') → o.wp P ⟨tm.toArray, ds⟩ w K Q
def Old (w w2 : World) : Prop := ∀ b, b < w.heap.size → w2.heap[b]? = w.heap[b]?
theorem Old.refl (w : World) : Old w w := fun _ _ => rfl
theorem Old.get {w w2 : World} (h : Old w w2) {b : Nat} {o : Obj} (hb : w.heap[b]? = some o) : w2.heap[b]? = some o := by
  rw [h b (Array.getElem?_eq_some_iff.mp hb).1]; exact hb
def OpStill (P : Program) (o : Oper) (σ σ' : F) : Prop :=
  ∀ (w : World) (Φ : Bool → Nat → Prop) (tm : List Value) (ρ : Nat → List Value) (B : List Nat) (ds : List Deferred), Rel w Φ σ tm ρ B →
    ∃ v ρ' B', (∀ w2, Old w w2 → (execOp (⟨tm.toArray, ds⟩ : Act).eval o).run P w2 = .ok (.value v) w2) ∧ Rel w Φ σ' (putL tm o.dst v) ρ' B' ∧ (∀ b ∈ B', b ∈ B) ∧ Same o.dst ρ ρ'
def OpNew (P : Program) (o : Oper) (σ σ' : F) : Prop :=
  ∀ (w : World) (Φ : Bool → Nat → Prop) (tm : List Value) (ρ : Nat → List Value) (B : List Nat) (ds : List Deferred) (K : Act → World → Prop) (Q : Exit → Act → World → Prop), Rel w Φ σ tm ρ B →
    (∀ tm' w' Φ' ρ' B', Rel w' Φ' σ' tm' ρ' B' → Next w Φ ρ B w' Φ' ρ' B' → Same o.dst ρ ρ' → Old w w' → K ⟨tm'.toArray, ds⟩ w') → o.wp P ⟨tm.toArray, ds⟩ w K Q
theorem OpNew.ok {P : Program} {o : Oper} {σ σ' : F} (h : OpNew P o σ σ') : OpOk P o σ σ' :=
  fun w Φ tm ρ B ds K Q hR hK => h w Φ tm ρ B ds K Q hR fun tm' w' Φ' ρ' B' a b c _ => hK tm' w' Φ' ρ' B' a b c
theorem OpStill.new {P : Program} {o : Oper} {σ σ' : F} (h : OpStill P o σ σ') : OpNew P o σ σ' := by
  intro w Φ tm ρ B ds K Q hR hK
  obtain ⟨v, ρ', B', h1, h2, h3, h4⟩ := h w Φ tm ρ B ds hR
  unfold Oper.wp
  rw [h1 w (Old.refl w), Oper.upon_value, act_put]
  exact hK _ _ _ _ _ h2 ⟨rfl, rfl, rfl, Nat.le_refl _, fun _ _ _ => rfl, fun b hb => .inl (h3 b hb), fun _ _ h => h, fun _ _ h => .inl h, fun _ h => .inl h, h4.imp⟩ h4 (Old.refl w)
theorem OpStill.ok {P : Program} {o : Oper} {σ σ' : F} (h : OpStill P o σ σ') : OpOk P o σ σ' := h.new.ok
theorem opVal {P : Program} {o : Oper} {σ : F} {s : S} (h : ∀ (w : World) (Φ : Bool → Nat → Prop) (tm : List Value) (ρ : Nat → List Value) (B : List Nat) (ds : List Deferred), Rel w Φ σ tm ρ B →
    ∃ v, (∀ w2, Old w w2 → (execOp (⟨tm.toArray, ds⟩ : Act).eval o).run P w2 = .ok (.value v) w2) ∧ SlotR w Φ σ.ob ρ s v) : OpStill P o σ (σ.put o.dst s) := by
  intro w Φ tm ρ B ds hR
  obtain ⟨v, h1, h2⟩ := h w Φ tm ρ B ds hR
  exact ⟨v, ρ, B, h1, hR.put o.dst h2, fun _ h => h, fun _ _ => rfl⟩
section
variable {P : Program} {σ : F} {d : Option Tmp} {ty : TypeId} {pos : String} {after : Array Edge} {gd : Option (Nat × Bool)}
theorem ok_move (x : Operand) : OpStill P ⟨d, .move x, ty, pos, after, gd⟩ σ (σ.put d (σ.rd x)) :=
  opVal (o := ⟨d, .move x, ty, pos, after, gd⟩) fun _ _ tm _ _ ds hR => ⟨(⟨tm.toArray, ds⟩ : Act).eval x, fun _ _ => by simp [execOp], hR.rd x⟩
theorem ok_assign (x : Operand) : OpStill P ⟨d, .assign x, ty, pos, after, gd⟩ σ (σ.put d (σ.rd x)) :=
  opVal (o := ⟨d, .assign x, ty, pos, after, gd⟩) fun _ _ tm _ _ ds hR => ⟨(⟨tm.toArray, ds⟩ : Act).eval x, fun _ _ => by simp [execOp], hR.rd x⟩
theorem boolOf_is {w : World} {Φ : Bool → Nat → Prop} {ob : List (Nat × O)} {ρ : Nat → List Value} {s : S} {v : Value} {b : Bool} (h : boolOf? s = some b) (hs : SlotR w Φ ob ρ s v) : v = .bool b := by
  unfold boolOf? at h
  split at h
  · simp only [Option.some.injEq] at h
    subst h
    simp only [SlotR] at hs
    exact hs.1
  · cases h
theorem intOf_is {w : World} {Φ : Bool → Nat → Prop} {ob : List (Nat × O)} {ρ : Nat → List Value} {s : S} {v : Value} {n : Int} (h : intOf? s = some n) (hs : SlotR w Φ ob ρ s v) : ∃ k, v = .int k n := by
  unfold intOf? at h
  split at h
  · simp only [Option.some.injEq] at h
    subst h
    simp only [SlotR] at hs
    exact ⟨_, hs.1⟩
  · cases h
theorem ok_pick (c a b : Operand) (x : Bool) (h : boolOf? (σ.rd c) = some x) : OpStill P ⟨d, .pick c a b, ty, pos, after, gd⟩ σ (σ.put d (if x then σ.rd a else σ.rd b)) :=
  opVal (o := ⟨d, .pick c a b, ty, pos, after, gd⟩) fun w Φ tm ρ B ds hR => by
    have hc := boolOf_is h (hR.rd (ds := ds) c)
    cases x
    · exact ⟨(⟨tm.toArray, ds⟩ : Act).eval b, fun _ _ => by simp [execOp, hc, asBool], hR.rd b⟩
    · exact ⟨(⟨tm.toArray, ds⟩ : Act).eval a, fun _ _ => by simp [execOp, hc, asBool], hR.rd a⟩
theorem ok_makeFunc (g : FuncId) (first captured : Array Operand) (hf : first.isEmpty = true) : OpStill P ⟨d, .makeFunc (.func g) first captured, ty, pos, after, gd⟩ σ (σ.put d (.fn g (captured.toList.map σ.rd))) :=
  opVal (o := ⟨d, .makeFunc (.func g) first captured, ty, pos, after, gd⟩) fun w Φ tm ρ B ds hR => by
    have hf' : first = #[] := by simpa using hf
    subst hf'
    refine ⟨.func (.func g) #[] (captured.map (⟨tm.toArray, ds⟩ : Act).eval), fun _ _ => by simp [execOp, Instr.makeFunc], ?_⟩
    simp only [SlotR]
    refine ⟨captured.toList.map (⟨tm.toArray, ds⟩ : Act).eval, by rw [← Array.toList_map], ?_⟩
    generalize captured.toList = l
    induction l with
    | nil => simp only [List.map_nil, SlotRs]
    | cons x l ih => simp only [List.map_cons, SlotRs]; exact ⟨_, _, rfl, hR.rd x, ih⟩
theorem SlotRs.nth {w : World} {Φ : Bool → Nat → Prop} {ob : List (Nat × O)} {ρ : Nat → List Value} : ∀ {ss : List S} {vs : List Value}, SlotRs w Φ ob ρ ss vs → ∀ {i : Nat} {s : S}, ss[i]? = some s → ∃ v, vs[i]? = some v ∧ SlotR w Φ ob ρ s v
  | [], _, _, i, s, hs => by simp at hs
  | s0 :: ss, _, h, 0, s, hs => by
    simp only [SlotRs] at h
    obtain ⟨v, vs', rfl, h2, _⟩ := h
    simp only [List.getElem?_cons_zero, Option.some.injEq] at hs
    subst hs
    exact ⟨v, rfl, h2⟩
  | s0 :: ss, _, h, i + 1, s, hs => by
    simp only [SlotRs] at h
    obtain ⟨v, vs', rfl, _, h3⟩ := h
    simp only [List.getElem?_cons_succ] at hs ⊢
    exact h3.nth hs
theorem ok_extract (x : Operand) (i : Nat) (xs : List S) (s : S) (hx : σ.rd x = .tup xs) (hs : xs[i]? = some s) : OpStill P ⟨d, .extract x i, ty, pos, after, gd⟩ σ (σ.put d s) :=
  opVal (o := ⟨d, .extract x i, ty, pos, after, gd⟩) fun w Φ tm ρ B ds hR => by
    have h := hR.rd (ds := ds) x
    rw [hx] at h
    simp only [SlotR] at h
    obtain ⟨vs, h1, h2⟩ := h
    obtain ⟨v, h3, h4⟩ := h2.nth hs
    exact ⟨v, fun _ _ => by simp [execOp, h1, Instr.extract, h3], h4⟩
end
end Go.Proofs.YtckojpaklblnpaaGreatDoor.Ev
/- Arithmetic, conversions, lengths: operations of plain values. -/
set_option linter.unusedVariables false
set_option linter.unusedSimpArgs false
namespace Go.Proofs.YtckojpaklblnpaaGreatDoor.Ev
open Go Go.RowKit
section
variable {P : Program} {σ : F} {d : Option Tmp} {ty : TypeId} {pos : String} {after : Array Edge} {gd : Option (Nat × Bool)}
theorem slot_lit {w : World} {Φ : Bool → Nat → Prop} {ob : List (Nat × O)} {ρ : Nat → List Value} {x v : Value} (h : SlotR w Φ ob ρ (.lit x) v) : v = x := by
  simp only [SlotR] at h; exact h.1
theorem lit_slot {w : World} {Φ : Bool → Nat → Prop} {ob : List (Nat × O)} {ρ : Nat → List Value} {x : Value} (h : one x) : SlotR w Φ ob ρ (.lit x) x := by
  simp only [SlotR]; exact ⟨trivial, h⟩
theorem run_binInt {w : World} {op : BinOp} {k : IntKind} {a b : Int} {v : Value} (t : TypeId) (h : binInt op k a b = some v) (h1 : op ≠ .shl) (h2 : op ≠ .shr) : (binOp op t (.int k a) (.int k b)).run P w = .ok v w ∧ one v := by
  cases op <;> simp only [binInt, Option.some.injEq, reduceCtorEq] at h
  case quo =>
    split at h
    · cases h
    · rename_i hb
      simp only [Option.some.injEq] at h
      subst h
      exact ⟨by simp [binOp, Op.intDiv, hb], rfl⟩
  case rem =>
    split at h
    · cases h
    · rename_i hb
      simp only [Option.some.injEq] at h
      subst h
      exact ⟨by simp [binOp, Op.intDiv, hb], rfl⟩
  case neq =>
    subst h
    refine ⟨?_, rfl⟩
    simp only [binOp_neq, Sem.run_pure]
    by_cases hab : a = b <;> simp [hab]
  case eql =>
    subst h
    refine ⟨?_, rfl⟩
    simp only [binOp_eql, Sem.run_pure]
    by_cases hab : a = b <;> simp [hab]
  all_goals
    subst h
    refine ⟨?_, rfl⟩
    simp [binOp, Op.intArith, Op.intCmp]
    try rfl
theorem eq_str (a b : ByteArray) : (a.toList == b.toList) = decide (a = b) := by
  rw [Bool.eq_iff_iff]
  simp only [beq_iff_eq, decide_eq_true_eq]
  constructor
  · intro h
    rw [ByteArray.toList_eq, ByteArray.toList_eq] at h
    cases a; cases b
    simp at h
    rw [h]
  · rintro rfl; rfl
theorem run_binStr {w : World} {op : BinOp} {a b : ByteArray} {v : Value} (t : TypeId) (h : binStr op a b = some v) : (binOp op t (.string a) (.string b)).run P w = .ok v w ∧ one v := by
  have he := eq_str a b
  cases op <;> simp only [binStr, Option.some.injEq, reduceCtorEq] at h
  case add =>
    split at h
    · rename_i hb
      simp only [Option.some.injEq] at h
      subst h
      refine ⟨?_, rfl⟩
      have hb' : ¬(((a.size + b.size : Nat) : Int) > IntKind.i64.max) := by rw [IntKind.max_i64]; omega
      simp only [binOp, Op.stringOp, if_neg hb', Sem.run_pure]
    · cases h
  all_goals
    subst h
    refine ⟨?_, rfl⟩
    simp [binOp, Op.stringOp, he]
theorem run_binBool {w : World} {op : BinOp} {a b : Bool} {t : TypeId} (ht : P.underlying t = some .bool) :
    (op = .eql → (binOp op t (.bool a) (.bool b)).run P w = .ok (.bool (a == b)) w) ∧ (op = .neq → (binOp op t (.bool a) (.bool b)).run P w = .ok (.bool (!(a == b))) w) := by
  have he : (Op.equal t (.bool a) (.bool b)).run P w = .ok (a == b) w := run_equalIn_bool w 9999 t a b ht
  constructor
  · rintro rfl
    rw [show binOp .eql t (.bool a) (.bool b) = (do pure (.bool (← Op.equal t (.bool a) (.bool b)))) from rfl]
    simp only [Sem.run_bind, he, Result.andThen_ok, Sem.run_pure]
  · rintro rfl
    rw [show binOp .neq t (.bool a) (.bool b) = (do pure (.bool (!(← Op.equal t (.bool a) (.bool b))))) from rfl]
    simp only [Sem.run_bind, he, Result.andThen_ok, Sem.run_pure]
theorem ok_bin (op : BinOp) (t : TypeId) (x y : Operand) (pt : TypeId) (isB : Bool) (s : S) (hb : isB = true → P.underlying t = some .bool) (h : binOp_ op isB (σ.rd x) (σ.rd y) = some s) :
    OpStill P ⟨d, .binOp op t x y pt, ty, pos, after, gd⟩ σ (σ.put d s) :=
  opVal (o := ⟨d, .binOp op t x y pt, ty, pos, after, gd⟩) fun w Φ tm ρ B ds hR => by
    have hx := hR.rd (ds := ds) x
    have hy := hR.rd (ds := ds) y
    simp only [execOp]
    unfold binOp_ at h
    split at h
    · rename_i k a k' b e1 e2
      rw [e1] at hx
      rw [e2] at hy
      rw [slot_lit hx, slot_lit hy]
      simp only [eqGuard_at_int]
      split at h
      · split at h
        · cases h
        · rename_i hneg
          simp only [Option.some.injEq] at h
          subst h
          refine ⟨_, ?_, lit_slot (x := .int k (k.wrap (a * 2 ^ min b.toNat k.bits))) rfl⟩
          intro w2 _
          simp [binOp, Op.shift, hneg]
      · split at h
        · cases h
        · rename_i hneg
          simp only [Option.some.injEq] at h
          subst h
          refine ⟨_, ?_, lit_slot (x := .int k (a / 2 ^ min b.toNat k.bits)) rfl⟩
          intro w2 _
          simp [binOp, Op.shift, hneg]
          exact Int.fdiv_eq_ediv_of_nonneg _ (Int.pow_nonneg (by decide))
      · rename_i h1 h2
        split at h
        · rename_i hk
          subst hk
          simp only [Option.map_eq_some_iff] at h
          obtain ⟨v, hv, rfl⟩ := h
          refine ⟨v, fun w2 _ => ?_, lit_slot (run_binInt (P := P) (w := w) t hv h1 h2).2⟩
          obtain ⟨r1, r2⟩ := run_binInt (P := P) (w := w2) t hv h1 h2
          simp [r1]
        · cases h
    · rename_i a b e1 e2
      rw [e1] at hx
      rw [e2] at hy
      rw [slot_lit hx, slot_lit hy]
      simp only [eqGuard_at_string]
      simp only [Option.map_eq_some_iff] at h
      obtain ⟨v, hv, rfl⟩ := h
      refine ⟨v, fun w2 _ => ?_, lit_slot (run_binStr (P := P) (w := w) t hv).2⟩
      obtain ⟨r1, r2⟩ := run_binStr (P := P) (w := w2) t hv
      simp [r1]
    · rename_i a b e1 e2
      rw [e1] at hx
      rw [e2] at hy
      rw [slot_lit hx, slot_lit hy]
      simp only [eqGuard_at_bool]
      split at h
      · rename_i hB
        have ht := hb hB
        split at h
        · simp only [Option.some.injEq] at h
          subst h
          exact ⟨.bool (a == b), fun w2 _ => by simp [(run_binBool (w := w2) (a := a) (b := b) ht).1 rfl], lit_slot rfl⟩
        · simp only [Option.some.injEq] at h
          subst h
          exact ⟨.bool (!(a == b)), fun w2 _ => by simp [(run_binBool (w := w2) (a := a) (b := b) ht).2 rfl], lit_slot rfl⟩
        · cases h
      · cases h
    · cases h
theorem ok_un (op : UnOp) (t : TypeId) (x : Operand) (s : S) (h : unOp_ op (σ.rd x) = some s) :
    OpStill P ⟨d, .unOp op t x, ty, pos, after, gd⟩ σ (σ.put d s) :=
  opVal (o := ⟨d, .unOp op t x, ty, pos, after, gd⟩) fun w Φ tm ρ B ds hR => by
    have hx := hR.rd (ds := ds) x
    simp only [execOp]
    unfold unOp_ at h
    split at h
    · rename_i b e1
      rw [e1] at hx
      rw [slot_lit hx]
      simp only [Option.some.injEq] at h
      subst h
      exact ⟨.bool (!b), fun _ _ => by simp [Op.unary], lit_slot rfl⟩
    · rename_i k n e1
      rw [e1] at hx
      rw [slot_lit hx]
      simp only [Option.some.injEq] at h
      subst h
      exact ⟨.int k (k.wrap (0 - n)), fun _ _ => by simp [Op.unary, Op.intArith], lit_slot rfl⟩
    · rename_i k n e1
      rw [e1] at hx
      rw [slot_lit hx]
      simp only [Option.some.injEq] at h
      subst h
      exact ⟨.int k (bits .xor k (if k.signed then -1 else k.max) n), fun _ _ => by simp only [Op.unary, intBits_xor, Sem.run_bind, Sem.run_pure, Result.andThen_ok], lit_slot rfl⟩
    · cases h
theorem ok_nilCheck (x : Operand) (h : match σ.rd x with | .ptr .. => True | .pt .. => True | .fn .. => True | _ => False) : OpStill P ⟨d, .nilCheck x, ty, pos, after, gd⟩ σ (σ.put d (σ.rd x)) :=
  opVal (o := ⟨d, .nilCheck x, ty, pos, after, gd⟩) fun w Φ tm ρ B ds hR => by
    have hx := hR.rd (ds := ds) x
    refine ⟨_, fun w2 _ => ?_, hx⟩
    simp only [execOp]
    generalize hs : σ.rd x = s at h hx
    cases s with
    | ptr k p off =>
      simp only [SlotR] at hx
      obtain ⟨o, g, a, _, _, e⟩ := hx
      rw [e]; rfl
    | pt b ts =>
      simp only [SlotR] at hx
      obtain ⟨g, o, cur, e, fz, e, _⟩ := hx
      rw [e]; rfl
    | fn g caps =>
      simp only [SlotR] at hx
      obtain ⟨vs, e, _⟩ := hx
      rw [e]; rfl
    | _ => exact h.elim
theorem ok_convert_int (src dst : TypeId) (x : Operand) (k k0 : IntKind) (n : Int) (hs : (P.underlying src).isSome = true) (hd : P.underlying dst = some (.int k)) (hx : σ.rd x = .lit (.int k0 n)) :
    OpStill P ⟨d, .convert src dst x, ty, pos, after, gd⟩ σ (σ.put d (liT (.int k (k.wrap n)))) :=
  opVal (o := ⟨d, .convert src dst x, ty, pos, after, gd⟩) fun w Φ tm ρ B ds hR => by
    have h := hR.rd (ds := ds) x
    rw [hx] at h
    refine ⟨.int k (k.wrap n), fun w2 _ => ?_, lit_slot rfl⟩
    obtain ⟨sd, hs'⟩ := Option.isSome_iff_exists.mp hs
    simp [execOp, slot_lit h, convert, run_underlying hs', run_underlying hd, Conv.intToInt]
theorem ok_convert_string (src dst : TypeId) (x : Operand) (b : ByteArray) (hs : (P.underlying src).isSome = true) (hd : P.underlying dst = some .string) (hx : σ.rd x = .lit (.string b)) :
    OpStill P ⟨d, .convert src dst x, ty, pos, after, gd⟩ σ (σ.put d (liT (.string b))) :=
  opVal (o := ⟨d, .convert src dst x, ty, pos, after, gd⟩) fun w Φ tm ρ B ds hR => by
    have h := hR.rd (ds := ds) x
    rw [hx] at h
    refine ⟨.string b, fun w2 _ => ?_, lit_slot rfl⟩
    obtain ⟨sd, hs'⟩ := Option.isSome_iff_exists.mp hs
    simp [execOp, slot_lit h, convert, run_underlying hs', run_underlying hd]
end
end Go.Proofs.YtckojpaklblnpaaGreatDoor.Ev
/- Reading: cells of a place, values out of them. -/
set_option linter.unusedVariables false
set_option linter.unusedSimpArgs false
namespace Go.Proofs.YtckojpaklblnpaaGreatDoor.Ev
open Go Go.RowKit
theorem IsCs.split {w : World} {Φ : Bool → Nat → Prop} : ∀ (n : Nat) {cs : List C} {vs : List Value} {B : List Nat}, IsCs w Φ cs vs B → ∃ B1 B2, B = B1 ++ B2 ∧ IsCs w Φ (cs.take n) (vs.take n) B1 ∧ IsCs w Φ (cs.drop n) (vs.drop n) B2
  | 0, cs, vs, B, h => ⟨[], B, rfl, by simp [IsCs], by simpa using h⟩
  | n + 1, [], vs, B, h => by
    simp only [IsCs] at h
    obtain ⟨rfl, rfl⟩ := h
    exact ⟨[], [], rfl, by simp [IsCs], by simp [IsCs]⟩
  | n + 1, c :: cs, vs, B, h => by
    simp only [IsCs] at h
    obtain ⟨v, vs', B1, B2, rfl, rfl, h3, h4⟩ := h
    obtain ⟨B3, B4, rfl, h5, h6⟩ := h4.split n
    refine ⟨B1 ++ B3, B4, by simp [List.append_assoc], ?_, by simpa using h6⟩
    simp only [List.take_succ_cons, IsCs]
    exact ⟨v, vs'.take n, B1, B3, rfl, rfl, h3, h5⟩
theorem IsCs.append {w : World} {Φ : Bool → Nat → Prop} : ∀ {cs ds : List C} {vs us : List Value} {B D : List Nat}, IsCs w Φ cs vs B → IsCs w Φ ds us D → IsCs w Φ (cs ++ ds) (vs ++ us) (B ++ D)
  | [], ds, vs, us, B, D, h, k => by
    simp only [IsCs] at h
    obtain ⟨rfl, rfl⟩ := h
    simpa using k
  | c :: cs, ds, vs, us, B, D, h, k => by
    simp only [IsCs] at h
    obtain ⟨v, vs', B1, B2, rfl, rfl, h3, h4⟩ := h
    simp only [List.cons_append, IsCs]
    exact ⟨v, vs' ++ us, B1, B2 ++ D, rfl, by simp [List.append_assoc], h3, h4.append k⟩
theorem IsCs.range {w : World} {Φ : Bool → Nat → Prop} (a n : Nat) {cs : List C} {vs : List Value} {B : List Nat} (h : IsCs w Φ cs vs B) :
    ∃ X Y Z, B = X ++ (Y ++ Z) ∧ IsCs w Φ (cs.take a) (vs.take a) X ∧ IsCs w Φ ((cs.drop a).take n) ((vs.drop a).take n) Y ∧ IsCs w Φ (cs.drop (a + n)) (vs.drop (a + n)) Z := by
  obtain ⟨X, B2, rfl, h1, h2⟩ := h.split a
  obtain ⟨Y, Z, rfl, h3, h4⟩ := h2.split n
  exact ⟨X, Y, Z, rfl, h1, h3, by simpa using h4⟩
theorem IsTs.take {w : World} {φ : Nat → Prop} : ∀ (n : Nat) {ts : List T} {vs : List Value}, IsTs w φ ts vs → IsTs w φ (ts.take n) (vs.take n)
  | 0, ts, vs, h => by simp [IsTs]
  | n + 1, [], vs, h => by simp only [IsTs] at h; subst h; simp [IsTs]
  | n + 1, t :: ts, vs, h => by
    simp only [IsTs] at h
    obtain ⟨v, vs', rfl, h2, h3⟩ := h
    simp only [List.take_succ_cons, IsTs]
    exact ⟨v, vs'.take n, rfl, h2, h3.take n⟩
theorem IsTs.drop {w : World} {φ : Nat → Prop} : ∀ (n : Nat) {ts : List T} {vs : List Value}, IsTs w φ ts vs → IsTs w φ (ts.drop n) (vs.drop n)
  | 0, ts, vs, h => by simpa using h
  | n + 1, [], vs, h => by simp only [IsTs] at h; subst h; simp [IsTs]
  | n + 1, t :: ts, vs, h => by
    simp only [IsTs] at h
    obtain ⟨v, vs', rfl, h2, h3⟩ := h
    simpa using h3.drop n
theorem IsCs.path {w : World} {Φ : Bool → Nat → Prop} {cs : List C} {vs : List Value} {B : List Nat} {p : List (Nat × Nat)} {r : List C} (h : IsCs w Φ cs vs B) (hnd : B.Nodup) (hr : getRow cs p = some r) :
    ∃ rv Br, valsAt w cs vs p = some rv ∧ (∀ b ∈ Br, b ∈ B) ∧ IsCs w Φ r rv Br ∧
      (p ≠ [] → ∃ g a cur e fz, addrAt w cs vs p = some (g, a) ∧ w.heap[g]? = some (.cells cur e fz) ∧ g ∈ B ∧ a + r.length ≤ cur.size ∧ rv = (cur.toList.drop a).take r.length) := by
  by_cases hp : p = []
  · subst hp
    simp only [getRow, Option.some.injEq] at hr
    subst hr
    exact ⟨vs, B, rfl, fun _ h => h, h, fun h => absurd rfl h⟩
  · obtain ⟨g, o, cur, e, fz, X, Br, Y, rv, h1, h2, rfl, h4, h5, h6, h7, h8, h9, _⟩ := place p cs vs B r h hnd hr hp
    exact ⟨rv, Br, h2, fun b hb => by simp [hb], h9, fun _ => ⟨g, o, cur, e, fz, h1, h5, by simp [h4], h7, h8⟩⟩
theorem cells_some {σ : F} {k : Nat} {p : List (Nat × Nat)} {off n : Nat} {cs : List C} (h : σ.cells k p off n = some cs) : ∃ o r, look σ.ob k = some o ∧ getRow o.cells p = some r ∧ off + n ≤ r.length ∧ cs = (r.drop off).take n := by
  unfold F.cells at h
  cases h1 : look σ.ob k with
  | none => simp [h1] at h
  | some o =>
    cases h2 : getRow o.cells p with
    | none => simp [h1, h2] at h
    | some r =>
      simp only [h1, h2] at h
      split at h
      · rename_i hl
        simp only [Option.some.injEq] at h
        exact ⟨o, r, rfl, h2, hl, h.symm⟩
      · cases h
theorem Rel.look {w : World} {Φ : Bool → Nat → Prop} {σ : F} {tm : List Value} {ρ : Nat → List Value} {B : List Nat} (h : Rel w Φ σ tm ρ B) {k : Nat} {o : O} (hl : look σ.ob k = some o) : ∃ Bk, (∀ b ∈ Bk, b ∈ B) ∧ Bk.Nodup ∧ IsCs w Φ o.cells (ρ k) Bk := by
  obtain ⟨X, Bk, Y, rfl, e2, _⟩ := IsOb.focus h.obs h.keys hl
  have hnd := h.nd
  simp only [List.nodup_append] at hnd
  exact ⟨Bk, fun b hb => by simp [hb], hnd.2.1.1, e2⟩
theorem Rel.cells {w : World} {Φ : Bool → Nat → Prop} {σ : F} {tm : List Value} {ρ : Nat → List Value} {B : List Nat} (h : Rel w Φ σ tm ρ B) {k : Nat} {p : List (Nat × Nat)} {off n : Nat} {cs : List C} (hc : σ.cells k p off n = some cs) :
    ∃ o vs Bc, Ev.look σ.ob k = some o ∧ valsAt w o.cells (ρ k) p = some vs ∧ off + n ≤ vs.length ∧ (∀ b ∈ Bc, b ∈ B) ∧ IsCs w Φ cs ((vs.drop off).take n) Bc ∧ cs.length = n ∧
      (p ≠ [] → ∃ g a cur e fz, addrAt w o.cells (ρ k) p = some (g, a) ∧ w.heap[g]? = some (.cells cur e fz) ∧ g ∈ B ∧ a + (off + n) ≤ cur.size ∧ (vs.drop off).take n = (cur.toList.drop (a + off)).take n) := by
  obtain ⟨o, r, h1, h2, h3, rfl⟩ := cells_some hc
  obtain ⟨Bk, hB, hnd, hk⟩ := h.look h1
  obtain ⟨rv, Br, p1, p2, p3, p4⟩ := hk.path hnd h2
  obtain ⟨X, Y, Z, e, q1, q2, q3⟩ := p3.range off n
  refine ⟨o, rv, Y, h1, p1, by rw [p3.length]; exact h3, fun b hb => hB b (p2 b (by rw [e]; simp [hb])), q2, by simp; omega, fun hp => ?_⟩
  obtain ⟨g, a, cur, e, fz, a1, a2, a3, a4, rfl⟩ := p4 hp
  refine ⟨g, a, cur, e, fz, a1, a2, hB g a3, by omega, ?_⟩
  rw [List.drop_take, List.take_take, List.drop_drop, Nat.min_eq_left (by omega)]
/-! ### read-only cells -/
theorem isLit_any {w : World} {φ φ' : Nat → Prop} {t : T} {v : Value} (ht : t.isLit = true) (h : IsT w φ t v) : IsT w φ' t v := by
  cases t with
  | lit x => simpa only [IsT] using h
  | sl sz rows => cases ht
theorem lentAll_cons (c : C) (cs : List C) : lentAll (c :: cs) = (C.lent c || lentAll cs) := rfl
theorem free_is {w : World} {Φ : Bool → Nat → Prop} (hsub : ∀ b, Φ false b → Φ true b) : ∀ {cs : List C} {ts : List T} {vs : List Value} {B : List Nat} (b : Bool), cs.all C.free = true → cellsToT cs = some ts → (lentAll cs = true → b = true) → IsCs w Φ cs vs B → B = [] ∧ IsTs w (Φ b) ts vs
  | [], ts, vs, B, b, _, h, _, hc => by
    simp only [cellsToT, Option.some.injEq] at h
    subst h
    simp only [IsCs] at hc
    simp only [IsTs]
    exact ⟨hc.2, hc.1⟩
  | c :: cs, ts, vs, B, b, hf, h, hl, hc => by
    simp only [List.all_cons, Bool.and_eq_true] at hf
    simp only [cellsToT] at h
    rw [lentAll_cons] at hl
    simp only [Bool.or_eq_true] at hl
    cases h1 : c.toT with
    | none => simp [h1] at h
    | some t =>
      cases h2 : cellsToT cs with
      | none => simp [h1, h2] at h
      | some ts' =>
        simp only [h1, h2, Option.some.injEq] at h
        subst h
        simp only [IsCs] at hc
        obtain ⟨v, vs', B1, B2, rfl, rfl, h3, h4⟩ := hc
        obtain ⟨rfl, h5⟩ := free_is hsub b hf.2 h2 (fun hh => hl (.inr hh)) h4
        simp only [IsTs]
        cases c with
        | im x t0 =>
          simp only [C.toT, Option.some.injEq] at h1
          subst h1
          simp only [IsC] at h3
          obtain ⟨rfl, h3⟩ := h3
          refine ⟨rfl, v, vs', rfl, ?_, h5⟩
          by_cases hlit : t0.isLit = true
          · exact isLit_any hlit h3
          · cases x with
            | false => cases b with
              | false => exact h3
              | true => exact IsT.mono hsub (fun _ _ => rfl) _ _ h3
            | true =>
              have : b = true := hl (.inl (by simp [C.lent, hlit]))
              subst this
              exact h3
        | ow t0 =>
          cases t0 with
          | lit x =>
            simp only [C.toT, Option.some.injEq] at h1
            subst h1
            simp only [IsC, IsO] at h3
            obtain ⟨rfl, h3, rfl⟩ := h3
            refine ⟨rfl, v, vs', rfl, ?_, h5⟩
            simp only [IsT]; exact ⟨trivial, h3⟩
          | sl _ _ => simp [C.free] at hf
        | own _ _ => simp [C.free] at hf
        | hole => simp [C.free] at hf
def valOf (ag : Bool) (vs : List Value) (v : Value) : Prop := if ag then v = .agg vs.toArray else vs = [v]
theorem ofT_is {w : World} {Φ : Bool → Nat → Prop} {ob : List (Nat × O)} {ρ : Nat → List Value} {b ag : Bool} {ts : List T} {vs : List Value} {v : Value} (h : IsTs w (Φ b) ts vs) (hv : valOf ag vs v) : SlotR w Φ ob ρ (ofT b ag ts) v := by
  unfold ofT
  cases ag with
  | true =>
    simp only [valOf, if_true] at hv ⊢
    simp only [SlotR]
    exact ⟨vs, hv, h⟩
  | false =>
    simp only [valOf, Bool.false_eq_true, if_false] at hv ⊢
    subst hv
    split
    · rename_i x
      simp only [IsTs, IsT] at h
      obtain ⟨v', vs', e, h2, rfl⟩ := h
      simp only [List.cons.injEq, and_true] at e
      subst e
      simpa only [SlotR] using h2
    · rename_i t _
      simp only [IsTs] at h
      obtain ⟨v', vs', e, h2, rfl⟩ := h
      simp only [List.cons.injEq, and_true] at e
      subst e
      simpa only [SlotR] using h2
    · simp only [SlotR]
theorem view_is {w : World} {Φ : Bool → Nat → Prop} {σ : F} {tm : List Value} {ρ : Nat → List Value} {B : List Nat} (h : Rel w Φ σ tm ρ B) {k : Nat} {p : List (Nat × Nat)} {off n : Nat} {cs : List C} {o : O} {vs : List Value} {Bc : List Nat} {ag : Bool} {v : Value}
    (hl : Ev.look σ.ob k = some o) (hv : valsAt w o.cells (ρ k) p = some vs) (hn : off + n ≤ vs.length) (hc : IsCs w Φ cs ((vs.drop off).take n) Bc) (hval : valOf ag ((vs.drop off).take n) v) : SlotR w Φ σ.ob ρ (F.view k p off n ag cs) v := by
  unfold F.view
  split
  · rename_i hf
    split
    · rename_i ts hts
      exact ofT_is (free_is h.sub.1 (lentAll cs) hf hts (fun h => h) hc).2 hval
    · simp only [SlotR]
  · simp only [SlotR]
    exact ⟨o, vs, hl, hv, hn, hval⟩
/-! ### types -/
section
variable {P : Program} {e : Env}
theorem EnvOk.one (he : EnvOk P e) {t : TypeId} {v : TV} (h : e.ty t = some v) (ha : v.agg = false) : v.cells = 1 := by
  obtain ⟨i, z, _, _, _, _, _, _, h7, _, h9, _⟩ := he.ty t v h
  rw [ha] at h9
  rw [← h7]
  cases z <;> first | rfl | (simp [isAggValue] at h9; done)
theorem EnvOk.und (he : EnvOk P e) {t : TypeId} {v : TV} (h : e.ty t = some v) : P.underlying t = some v.desc := (he.ty t v h).choose_spec.choose_spec.2.1
theorem EnvOk.run_sizeOf (he : EnvOk P e) {t : TypeId} {v : TV} (h : e.ty t = some v) (w : World) : (sizeOf t).run P w = .ok v.cells w := by
  obtain ⟨i, z, h1, _, h3, _⟩ := he.ty t v h
  simp [sizeOf, typeInfo, h1, h3]
theorem EnvOk.run_isAgg (he : EnvOk P e) {t : TypeId} {v : TV} (h : e.ty t = some v) (w : World) : (Go.isAgg t).run P w = .ok v.agg w := by
  obtain ⟨i, z, h1, h2, h3, h4, h5, h6, h7, h8, h9, h10⟩ := he.ty t v h
  rw [h8]
  simp only [Go.isAgg, Sem.run_bind, run_underlying h2, Result.andThen_ok]
  cases hd : v.desc <;> simp [isAggDesc]
theorem EnvOk.run_zero (he : EnvOk P e) {t : TypeId} {v : TV} (h : e.ty t = some v) : ∃ z, (∀ w, (zeroValue t).run P w = .ok z w) ∧ cellsT z.cells.toList = some v.zero ∧ z.cells.size = v.cells := by
  obtain ⟨i, z, h1, h2, h3, h4, h5, h6, h7, h8, h9, h10⟩ := he.ty t v h
  exact ⟨z, fun w => by simp [zeroValue, typeInfo, h1, h5], h6, h7⟩
theorem EnvOk.run_bytes (he : EnvOk P e) {t : TypeId} {v : TV} (h : e.ty t = some v) (w : World) : ∃ i, (typeInfo t).run P w = .ok i w ∧ i.bytes = v.bytes ∧ i.size = v.cells := by
  obtain ⟨i, z, h1, h2, h3, h4, h5, h6, h7, h8, h9, h10⟩ := he.ty t v h
  exact ⟨i, by simp [typeInfo, h1], h4, h3⟩
/-! ### load -/
theorem run_loadVar (he : EnvOk P e) {t : TypeId} {v : TV} (h : e.ty t = some v) {w : World} {g a : Nat} {cur : Array Value} {et : TypeId} {fz : Nat × Nat} (hg : w.heap[g]? = some (.cells cur et fz)) (hs : a + v.cells ≤ cur.size) :
    ∃ x, (loadVar t ⟨g, a, none⟩).run P w = .ok x w ∧ valOf v.agg ((cur.toList.drop a).take v.cells) x := by
  have hcell : ∀ j, w.cell? ⟨g, j, none⟩ = cur[j]? := fun j => by simp [World.cell?, hg]
  cases ha : v.agg with
  | true =>
    refine ⟨.agg ((cur.toList.drop a).take v.cells).toArray, ?_, by simp [valOf]⟩
    have hl : ((cur.toList.drop a).take v.cells).length = v.cells := by simp; omega
    have := run_loadCells_list (P := P) w ⟨g, a, none⟩ ((cur.toList.drop a).take v.cells) (fun j x hj => by
      rw [List.getElem?_take] at hj
      split at hj
      · rw [List.getElem?_drop] at hj
        rw [Addr.add_lit, hcell]
        simpa using hj
      · cases hj)
    rw [hl] at this
    simp only [loadVar, Sem.run_bind, he.run_isAgg h, ha, Result.andThen_ok, if_true, he.run_sizeOf h, this, Sem.run_pure]
  | false =>
    have h1 := he.one h ha
    rw [h1] at hs ⊢
    obtain ⟨x, hx⟩ : ∃ x, cur[a]? = some x := ⟨cur[a]'(by omega), by simp [show a < cur.size by omega]⟩
    refine ⟨x, ?_, ?_⟩
    · simp only [loadVar, Sem.run_bind, he.run_isAgg h, ha, Result.andThen_ok, Bool.false_eq_true, if_false, run_load, hcell, hx]
    · simp only [valOf, Bool.false_eq_true, if_false]
      have hx' : cur.toList[a]? = some x := by simpa using hx
      obtain ⟨hlt, rfl⟩ := List.getElem?_eq_some_iff.mp hx'
      rw [List.drop_eq_getElem_cons hlt]
      simp
variable {σ : F} {d : Option Tmp} {ty : TypeId} {pos : String} {after : Array Edge} {gd : Option (Nat × Bool)}
theorem valOf_eq {ag : Bool} {vs : List Value} {x y : Value} (h : valOf ag vs x) (k : valOf ag vs y) : x = y := by
  unfold valOf at h k
  cases ag with
  | true => simp only [if_true] at h k; rw [h, k]
  | false =>
    simp only [Bool.false_eq_true, if_false] at h k
    rw [h] at k
    simpa using k
theorem ok_load_ptr (he : EnvOk P e) (t : TypeId) (v : TV) (x : Operand) (k : Nat) (p : List (Nat × Nat)) (off : Nat) (cs : List C) (h : e.ty t = some v) (hx : σ.rd x = .ptr k p off) (hc : σ.cells k p off v.cells = some cs) (s : S) (hs : s = .dead ∨ s = F.view k p off v.cells v.agg cs) :
    OpStill P ⟨d, .load t x, ty, pos, after, gd⟩ σ (σ.put d s) :=
  opVal (o := ⟨d, .load t x, ty, pos, after, gd⟩) fun w Φ tm ρ B ds hR => by
    have hr := hR.rd (ds := ds) x
    rw [hx] at hr
    simp only [SlotR] at hr
    obtain ⟨o, g, a, h1, h2, h3⟩ := hr
    obtain ⟨o', vs, Bc, c1, c2, c3, c4, c5, c6, c7⟩ := hR.cells hc
    rw [h1] at c1
    cases c1
    have hp : p ≠ [] := by rintro rfl; simp [addrAt] at h2
    obtain ⟨g', a', cur, et, fz, q1, q2, q3, q4, q5⟩ := c7 hp
    rw [h2] at q1
    cases q1
    obtain ⟨x', r1, r2⟩ := run_loadVar he h (a := a + off) q2 (by omega)
    rw [← q5] at r2
    refine ⟨x', fun w2 hw2 => ?_, ?_⟩
    · obtain ⟨x2, s1, s2⟩ := run_loadVar he h (a := a + off) (hw2.get q2) (by omega)
      rw [← q5] at s2
      rw [valOf_eq r2 s2]
      simp only [execOp, h3, Instr.loadAt, Instr.sureAddr, Sem.run_bind, Sem.run_pure, Result.andThen_ok, s1]
    · rcases hs with rfl | rfl
      · simp only [SlotR]
      · exact view_is hR h1 c2 c3 c5 r2
theorem ok_load_pt (he : EnvOk P e) (t : TypeId) (v : TV) (x : Operand) (b : Bool) (ts : List T) (h : e.ty t = some v) (hx : σ.rd x = .pt b ts) (hl : v.cells ≤ ts.length) :
    OpStill P ⟨d, .load t x, ty, pos, after, gd⟩ σ (σ.put d (ofT b v.agg (ts.take v.cells))) :=
  opVal (o := ⟨d, .load t x, ty, pos, after, gd⟩) fun w Φ tm ρ B ds hR => by
    have hr := hR.rd (ds := ds) x
    rw [hx] at hr
    simp only [SlotR] at hr
    obtain ⟨g, o, cur, et, fz, h1, h2, h3, h4⟩ := hr
    have hlen := h4.length
    have hpos : 0 < v.cells := (he.ty t v h).choose_spec.choose_spec.2.2.2.2.2.2.2.2.2
    simp only [List.length_take, List.length_drop, Array.length_toList] at hlen
    obtain ⟨x', r1, r2⟩ := run_loadVar he h (a := o) h3 (by omega)
    refine ⟨x', fun w2 hw2 => ?_, ?_⟩
    · obtain ⟨x2, s1, s2⟩ := run_loadVar he h (a := o) (hw2.get h3) (by omega)
      rw [valOf_eq r2 s2]
      simp only [execOp, h1, Instr.loadAt, Instr.sureAddr, Sem.run_bind, Sem.run_pure, Result.andThen_ok, s1]
    · have := h4.take v.cells
      rw [List.take_take, Nat.min_eq_left hl] at this
      exact ofT_is this r2
end
end Go.Proofs.YtckojpaklblnpaaGreatDoor.Ev
/- Addresses, fields, elements, slices of slices. -/
set_option linter.unusedVariables false
set_option linter.unusedSimpArgs false
namespace Go.Proofs.YtckojpaklblnpaaGreatDoor.Ev
open Go Go.RowKit
theorem addrAt_snoc {w : World} : ∀ (p : List (Nat × Nat)) (cs : List C) (vs : List Value) (r : List C) (rv : List Value) (c i : Nat) (x : C) (v : Value) (g o : Nat) (r2 : List C) (rv2 : List Value), getRow cs p = some r → valsAt w cs vs p = some rv → r[c]? = some x → rv[c]? = some v → stepAt w x v i = some (g, o, r2, rv2) →
    addrAt w cs vs (p ++ [(c, i)]) = some (g, o)
  | [], cs, vs, r, rv, c, i, x, v, g, o, r2, rv2, h1, h2, h3, h4, h5 => by
    simp only [getRow, Option.some.injEq] at h1
    simp only [valsAt, Option.some.injEq] at h2
    subst h1 h2
    simp [addrAt, h3, h4, h5]
  | (c0, i0) :: p, cs, vs, r, rv, c, i, x, v, g, o, r2, rv2, h1, h2, h3, h4, h5 => by
    obtain ⟨x0, r0, e1, e2, e3⟩ := getRow_cons h1
    simp only [valsAt, e1] at h2
    cases hv : vs[c0]? with
    | none => simp [hv] at h2
    | some v0 =>
      simp only [hv] at h2
      cases hs : stepAt w x0 v0 i0 with
      | none => simp [hs] at h2
      | some q =>
        obtain ⟨g0, o0, r1, rv1⟩ := q
        simp only [hs] at h2
        have := stepAt_some hs
        rw [e2] at this
        cases this
        have ih := addrAt_snoc p r0 rv1 r rv c i x v g o r2 rv2 e3 h2 h3 h4 h5
        cases p with
        | nil => simpa [addrAt, e1, hv, hs] using ih
        | cons q p => simpa [addrAt, e1, hv, hs] using ih
theorem IsTRows.at_ {w : World} {φ : Nat → Prop} {sz : Nat} : ∀ {rows : List (List T)} {vs : List Value} {i : Nat} {r : List T}, IsTRows w φ sz rows vs → rows[i]? = some r → r.length = sz ∧ IsTs w φ r ((vs.drop (i * sz)).take sz)
  | [], _, _, _, _, h => by simp at h
  | r0 :: rs, vs, 0, r, hh, h => by
    simp only [List.getElem?_cons_zero, Option.some.injEq] at h
    subst h
    simp only [IsTRows] at hh
    simpa using ⟨hh.1, hh.2.1⟩
  | r0 :: rs, vs, i + 1, r, hh, h => by
    simp only [List.getElem?_cons_succ] at h
    simp only [IsTRows] at hh
    have := IsTRows.at_ hh.2.2 h
    rw [List.drop_drop] at this
    rwa [Nat.succ_mul, Nat.add_comm]
theorem IsTRows.drop {w : World} {φ : Nat → Prop} {sz : Nat} : ∀ (n : Nat) {rows : List (List T)} {vs : List Value}, IsTRows w φ sz rows vs → IsTRows w φ sz (rows.drop n) (vs.drop (n * sz))
  | 0, _, _, h => by simpa using h
  | n + 1, [], _, h => by simp only [List.drop_nil, IsTRows]
  | n + 1, r :: rs, vs, h => by
    simp only [IsTRows] at h
    have := h.2.2.drop n
    rw [List.drop_drop] at this
    simpa [Nat.succ_mul, Nat.add_comm] using this
theorem IsTRows.take {w : World} {φ : Nat → Prop} {sz : Nat} : ∀ (n : Nat) {rows : List (List T)} {vs : List Value}, IsTRows w φ sz rows vs → IsTRows w φ sz (rows.take n) vs
  | 0, _, _, h => by simp only [List.take_zero, IsTRows]
  | n + 1, [], _, h => by simp only [List.take_nil, IsTRows]
  | n + 1, r :: rs, vs, h => by
    simp only [IsTRows] at h
    simp only [List.take_succ_cons, IsTRows]
    exact ⟨h.1, h.2.1, h.2.2.take n⟩
theorem IsT.elem {w : World} {Φ : Bool → Nat → Prop} {ob : List (Nat × O)} {ρ : Nat → List Value} {b : Bool} {sz : Nat} {rows : List (List T)} {v : Value} {i : Nat} {r : List T} (h : IsT w (Φ b) (.sl sz rows) v) (hr : rows[i]? = some r) :
    ∃ g o cap, v = .slice (some ⟨g, o, none⟩) rows.length cap ∧ i < rows.length ∧ SlotR w Φ ob ρ (.pt b r) (.pointer (some ⟨g, o + i * sz, none⟩)) := by
  simp only [IsT] at h
  obtain ⟨a, cap, rfl, h2, h3⟩ := h
  have hlt : i < rows.length := by
    rcases Nat.lt_or_ge i rows.length with h | h
    · exact h
    · simp [List.getElem?_eq_none h] at hr
  rcases h3 with rfl | ⟨g, o, cur, e, fz, rfl, h4, h5, h6⟩
  · simp at hr
  · obtain ⟨h7, h8⟩ := h6.at_ hr
    refine ⟨g, o, cap, rfl, hlt, ?_⟩
    simp only [SlotR]
    rw [List.drop_drop] at h8
    exact ⟨g, o + i * sz, cur, e, fz, rfl, h4, h5, by rw [h7]; exact h8⟩
theorem elem_is {w : World} {Φ : Bool → Nat → Prop} {σ : F} {tm : List Value} {ρ : Nat → List Value} {B : List Nat} (hR : Rel w Φ σ tm ρ B) {m k : Nat} {p : List (Nat × Nat)} {off : Nat} {c : C} {i : Nat} {s : S} {o : O} {vs : List Value} {v : Value}
    (hc : σ.cells k p off 1 = some [c]) (hl : Ev.look σ.ob k = some o) (hv : valsAt w o.cells (ρ k) p = some vs) (hx : (vs.drop off).take 1 = [v]) (h : elemAt m k p off c i = some s) :
    ∃ g o len cap, v = .slice (some ⟨g, o, none⟩) len cap ∧ i < len ∧ SlotR w Φ σ.ob ρ s (.pointer (some ⟨g, o + i * m, none⟩)) := by
  obtain ⟨o', vs', Bc, c1, c2, c3, c4, c5, c6, _⟩ := hR.cells hc
  rw [hl] at c1; cases c1
  rw [hv] at c2; cases c2
  rw [hx] at c5
  simp only [IsCs] at c5
  obtain ⟨v', vs'', B1, B2, e1, _, hC, _⟩ := c5
  simp only [List.cons.injEq] at e1
  obtain ⟨rfl, rfl⟩ := e1
  obtain ⟨o2, r, d1, d2, d3, d4⟩ := cells_some hc
  rw [hl] at d1; cases d1
  have hrc : r[off]? = some c := by
    have : ((r.drop off).take 1)[0]? = some c := by rw [← d4]; rfl
    rw [List.getElem?_take] at this
    simpa using this
  have hvc : vs[off]? = some v := by
    have : ((vs.drop off).take 1)[0]? = some v := by rw [hx]; rfl
    rw [List.getElem?_take] at this
    simpa using this
  have main : (c.sz = some m ∧ ∃ r2, c.row i = some r2) → s = .ptr k (p ++ [(off, i)]) 0 → ∃ g o len cap, v = .slice (some ⟨g, o, none⟩) len cap ∧ i < len ∧ SlotR w Φ σ.ob ρ s (.pointer (some ⟨g, o + i * m, none⟩)) := by
    rintro ⟨h1, r2, h2⟩ rfl
    obtain ⟨g, n, cap, cur, e, fz, X, Br, Y, sz, rfl, hsz, hn, hin, hnc, hcap, hheap, hfz, hcur, rfl, hrl, hrc', _, _⟩ := hC.row h2
    rw [h1] at hsz
    cases hsz
    refine ⟨g, 0, n, cap, rfl, hin, ?_⟩
    simp only [SlotR]
    refine ⟨o, g, i * m, hl, ?_, by simp⟩
    exact addrAt_snoc p o.cells (ρ k) r vs off i c _ g (i * m) r2 ((cur.toList.drop (i * m)).take m) d2 hv hrc hvc (by simp [stepAt, h2, h1, hheap])
  unfold elemAt at h
  split at h
  · rename_i b sz rows
    split at h
    · rename_i hsz
      subst hsz
      simp only [Option.map_eq_some_iff] at h
      obtain ⟨r', hr', rfl⟩ := h
      simp only [IsC] at hC
      obtain ⟨g, o, cap, rfl, hlt, hs⟩ := hC.2.elem (ob := σ.ob) (ρ := ρ) hr'
      exact ⟨g, o, _, cap, rfl, hlt, hs⟩
    · cases h
  · split at h
    · rename_i hsz
      simp only [Option.map_eq_some_iff] at h
      obtain ⟨r', hr', rfl⟩ := h
      exact main ⟨hsz, r', hr'⟩ rfl
    · cases h
section
variable {P : Program} {e : Env}
theorem run_indexAt_sl {t el : TypeId} {m : Nat} {g o len cap i : Nat} {k : IntKind} {w : World} (ht : P.underlying t = some (.slice el)) (hm : (sizeOf el).run P w = .ok m w) (hi : i < len) :
    (Instr.indexAt t (.slice (some ⟨g, o, none⟩) len cap) (.int k (i : Int))).run P w = .ok (.pointer (some ⟨g, o + i * m, none⟩)) w := by
  have h1 : (0 : Int) ≤ i ∧ (i : Int) < len := by omega
  simp [Instr.indexAt, asIntOf, run_underlying ht, h1, hm, Addr.add_lit]
  intro h2; omega
theorem run_indexAt_arr {t el : TypeId} {m n : Nat} {g o i : Nat} {k : IntKind} {w : World} (ht : P.underlying t = some (.array n el)) (hm : (sizeOf el).run P w = .ok m w) (hi : i < n) :
    (Instr.indexAt t (.pointer (some ⟨g, o, none⟩)) (.int k (i : Int))).run P w = .ok (.pointer (some ⟨g, o + i * m, none⟩)) w := by
  have h1 : (0 : Int) ≤ i ∧ (i : Int) < n := by omega
  simp [Instr.indexAt, asIntOf, run_underlying ht, h1, hm, Addr.add_lit, Instr.sureAddr]
  intro h2; omega
theorem run_fieldAt {t : TypeId} {fs : Array Field} {f : Nat} {fd : Field} {m g o : Nat} {w : World} (ht : P.underlying t = some (.struct fs)) (hf : fs[f]? = some fd) (hm : (sizeOf fd.type).run P w = .ok m w) (hpos : m ≠ 0) :
    (Instr.fieldAt t (.pointer (some ⟨g, o, none⟩)) f).run P w = .ok (.pointer (some ⟨g, o + fd.offset, none⟩)) w := by
  simp [Instr.fieldAt, run_underlying ht, hf, Instr.sureAddr, fieldPlace, hm, hpos, Addr.add_lit]
theorem EnvOk.pos (he : EnvOk P e) {t : TypeId} {v : TV} (h : e.ty t = some v) : 0 < v.cells := (he.ty t v h).choose_spec.choose_spec.2.2.2.2.2.2.2.2.2
variable {σ : F} {d : Option Tmp} {ty : TypeId} {pos : String} {after : Array Edge} {gd : Option (Nat × Bool)}
theorem addr_is (he : EnvOk P e) {w : World} {Φ : Bool → Nat → Prop} {tm : List Value} {ρ : Nat → List Value} {B : List Nat} (hR : Rel w Φ σ tm ρ B) {t : TypeId} {x i s : S} {xv iv : Value} (hx : SlotR w Φ σ.ob ρ x xv) (hi : SlotR w Φ σ.ob ρ i iv) (h : addrOf e σ t x i = some s) :
    ∃ v, (∀ w2, (Instr.indexAt t xv iv).run P w2 = .ok v w2) ∧ SlotR w Φ σ.ob ρ s v := by
  unfold addrOf at h
  split at h
  · rename_i n v hn hv
    obtain ⟨k, rfl⟩ := intOf_is hn hi
    split at h
    · cases h
    · rename_i hneg
      obtain ⟨j, rfl⟩ := Int.eq_ofNat_of_zero_le (Int.not_lt.mp hneg)
      simp only [Int.toNat_natCast] at h
      split at h
      · rename_i el hd
        have hu := he.und hv
        rw [hd] at hu
        split at h
        · rename_i m hm
          have hsz := fun w2 => he.run_sizeOf hm w2
          split at h
          · rename_i b sz rows
            split at h
            · rename_i hs
              subst hs
              simp only [Option.map_eq_some_iff] at h
              obtain ⟨r, hr, rfl⟩ := h
              simp only [SlotR] at hx
              obtain ⟨g, o, cap, rfl, hlt, hS⟩ := hx.elem (ob := σ.ob) (ρ := ρ) hr
              exact ⟨_, fun w2 => run_indexAt_sl hu (hsz w2) hlt, hS⟩
            · cases h
          · rename_i kk p off
            split at h
            · rename_i c hc
              simp only [SlotR] at hx
              obtain ⟨o, vs, h1, h2, h3, h4⟩ := hx
              simp only [Bool.false_eq_true, if_false] at h4
              obtain ⟨g, o, len, cap, rfl, hlt, hS⟩ := elem_is hR hc h1 h2 h4 h
              exact ⟨_, fun w2 => run_indexAt_sl hu (hsz w2) hlt, hS⟩
            · cases h
          · rename_i kk p off sz lo hi'
            split at h
            · rename_i hcond
              obtain ⟨hlo, rfl⟩ := hcond
              split at h
              · rename_i c hc
                simp only [SlotR] at hx
                obtain ⟨o, vs, a, len, cap, h1, h2, h3, h4, h5, h6, hcap, a', ha', rfl⟩ := hx
                obtain ⟨g, o, len', cap', e1, hlt, hS⟩ := elem_is hR hc h1 h2 h4 h
                simp only [Value.slice.injEq] at e1
                obtain ⟨rfl, rfl, rfl⟩ := e1
                rw [ha' (by omega)]
                simp only [Option.map_some, Addr.add_lit]
                have := fun w2 => run_indexAt_sl (P := P) (g := g) (o := o + lo * m.cells) (cap := cap - lo) (k := k) hu (hsz w2) (show j < hi' - lo by omega)
                refine ⟨_, this, ?_⟩
                have e3 : o + lo * m.cells + j * m.cells = o + (lo + j) * m.cells := by rw [Nat.add_mul]; omega
                rw [e3]
                exact hS
              · cases h
            · cases h
          · cases h
        · cases h
      · rename_i len el hd
        have hu := he.und hv
        rw [hd] at hu
        split at h
        · rename_i m hm
          have hsz := fun w2 => he.run_sizeOf hm w2
          split at h
          · rename_i hlt
            split at h
            · rename_i kk p off
              simp only [Option.some.injEq] at h
              subst h
              simp only [SlotR] at hx
              obtain ⟨o, g, a, h1, h2, rfl⟩ := hx
              refine ⟨_, fun w2 => run_indexAt_arr hu (hsz w2) hlt, ?_⟩
              simp only [SlotR]
              exact ⟨o, g, a, h1, h2, by rw [Nat.add_assoc]⟩
            · rename_i b ts
              simp only [Option.some.injEq] at h
              subst h
              simp only [SlotR] at hx
              obtain ⟨g, o, cur, et, fz, rfl, h2, h3, h4⟩ := hx
              refine ⟨_, fun w2 => run_indexAt_arr hu (hsz w2) hlt, ?_⟩
              simp only [SlotR]
              refine ⟨g, _, cur, et, fz, rfl, h2, h3, ?_⟩
              have := h4.drop (j * m.cells)
              rw [List.drop_take, List.drop_drop] at this
              rw [List.length_drop]
              exact this
            · cases h
          · cases h
        · cases h
      · cases h
  · cases h
theorem ok_indexAddr (he : EnvOk P e) (t : TypeId) (x i : Operand) (s : S) (h : addrOf e σ t (σ.rd x) (σ.rd i) = some s) : OpStill P ⟨d, .indexAddr t x i, ty, pos, after, gd⟩ σ (σ.put d s) :=
  opVal (o := ⟨d, .indexAddr t x i, ty, pos, after, gd⟩) fun w Φ tm ρ B ds hR => by
    obtain ⟨v, h1, h2⟩ := addr_is he hR (hR.rd (ds := ds) x) (hR.rd (ds := ds) i) h
    exact ⟨v, fun w2 _ => by simp only [execOp, Sem.run_bind, h1, Result.andThen_ok, Sem.run_pure], h2⟩
theorem ok_fieldAddr (he : EnvOk P e) (t : TypeId) (tv w0 : TV) (x : Operand) (f : Nat) (fs : Array Field) (fd : Field) (s : S) (ht : e.ty t = some tv) (hd : tv.desc = .struct fs) (hf : fs[f]? = some fd) (hw : e.ty fd.type = some w0)
    (h : (∃ k p o, σ.rd x = .ptr k p o ∧ s = .ptr k p (o + fd.offset)) ∨ (∃ b ts, σ.rd x = .pt b ts ∧ s = .pt b (ts.drop fd.offset))) : OpStill P ⟨d, .fieldAddr t x f, ty, pos, after, gd⟩ σ (σ.put d s) :=
  opVal (o := ⟨d, .fieldAddr t x f, ty, pos, after, gd⟩) fun w Φ tm ρ B ds hR => by
    have hu := he.und ht
    rw [hd] at hu
    have hr := hR.rd (ds := ds) x
    have hsz := fun w2 => he.run_sizeOf hw w2
    have hpos : w0.cells ≠ 0 := Nat.ne_of_gt (he.pos hw)
    rcases h with ⟨k, p, o', hx, rfl⟩ | ⟨b, ts, hx, rfl⟩
    · rw [hx] at hr
      simp only [SlotR] at hr
      obtain ⟨o, g, a, h1, h2, h3⟩ := hr
      refine ⟨.pointer (some ⟨g, a + o' + fd.offset, none⟩), fun w2 _ => ?_, ?_⟩
      · simp only [execOp, h3, Sem.run_bind, run_fieldAt hu hf (hsz w2) hpos, Result.andThen_ok, Sem.run_pure]
      · simp only [SlotR]
        exact ⟨o, g, a, h1, h2, by rw [Nat.add_assoc]⟩
    · rw [hx] at hr
      simp only [SlotR] at hr
      obtain ⟨g, o, cur, et, fz, h1, h2, h3, h4⟩ := hr
      refine ⟨.pointer (some ⟨g, o + fd.offset, none⟩), fun w2 _ => ?_, ?_⟩
      · simp only [execOp, h1, Sem.run_bind, run_fieldAt hu hf (hsz w2) hpos, Result.andThen_ok, Sem.run_pure]
      · simp only [SlotR]
        refine ⟨g, _, cur, et, fz, rfl, h2, h3, ?_⟩
        have := h4.drop fd.offset
        rw [List.drop_take, List.drop_drop] at this
        rw [List.length_drop]
        exact this
end
end Go.Proofs.YtckojpaklblnpaaGreatDoor.Ev
/- Fields and elements of values, slices of slices, lengths, bytes to a string. -/
set_option linter.unusedVariables false
set_option linter.unusedSimpArgs false
namespace Go.Proofs.YtckojpaklblnpaaGreatDoor.Ev
open Go Go.RowKit
theorem IsC.len_is {w : World} {Φ : Bool → Nat → Prop} {c : C} {v : Value} {B : List Nat} {n : Nat} (h : IsC w Φ c v B) (hn : c.len = some n) : ∃ a cap, v = .slice a n cap ∧ n ≤ cap := by
  have own : ∀ {sz m : Nat} {R : List Value → List Nat → Prop}, OwnSl w sz m v B R → m = n → ∃ a cap, v = .slice a n cap ∧ n ≤ cap := by
    intro sz m R h e
    subst e
    rcases h with ⟨rfl, rfl, _⟩ | ⟨g, cap, cur, e, fz, B', rfl, _, _, h4, _⟩
    · exact ⟨none, 0, rfl, Nat.le_refl _⟩
    · exact ⟨_, cap, rfl, h4.2⟩
  cases c with
  | im b t =>
    cases t with
    | lit x => simp [C.len] at hn
    | sl sz rows =>
      simp only [C.len, Option.some.injEq] at hn
      subst hn
      simp only [IsC, IsT] at h
      obtain ⟨_, a, cap, rfl, h2, _⟩ := h
      exact ⟨a, cap, rfl, h2⟩
  | ow t =>
    cases t with
    | lit x => simp [C.len] at hn
    | sl sz rows =>
      simp only [C.len, Option.some.injEq] at hn
      simp only [IsC, IsO] at h
      exact own h hn
  | own sz rows =>
    simp only [C.len, Option.some.injEq] at hn
    simp only [IsC] at h
    exact own h hn
  | hole => simp [C.len] at hn
theorem IsT.slice {w : World} {φ : Nat → Prop} {sz : Nat} {rows : List (List T)} {a : Option Addr} {len cap lo hi : Nat} (h : IsT w φ (.sl sz rows) (.slice a len cap)) (h1 : lo ≤ hi) (h2 : hi ≤ rows.length) :
    ∀ a', (cap ≠ lo → a' = a.map (·.add (lo * sz))) → IsT w φ (.sl sz ((rows.drop lo).take (hi - lo))) (.slice a' (hi - lo) (cap - lo)) := by
  intro a2 ha2
  simp only [IsT] at h ⊢
  obtain ⟨a', cap', e, h4, h5⟩ := h
  simp only [Value.slice.injEq] at e
  obtain ⟨rfl, rfl, rfl⟩ := e
  have hl : ((rows.drop lo).take (hi - lo)).length = hi - lo := by simp; omega
  refine ⟨_, cap - lo, by rw [hl], by rw [hl]; omega, ?_⟩
  by_cases hh : hi = lo
  · left; simp [hh]
  · right
    rcases h5 with rfl | ⟨b, o, cur, e, fz, rfl, h6, h7, h8⟩
    · simp at h2; omega
    · rw [ha2 (by omega)]
      refine ⟨b, o + lo * sz, cur, e, fz, by simp [Addr.add_lit], h6, h7, ?_⟩
      have := (h8.drop lo).take (hi - lo)
      rw [List.drop_drop] at this
      exact this
theorem one_cells {v : Value} (h : one v) : v.cells.toList = [v] := by
  cases v <;> first | rfl | (simp [one, Value.oneCell'] at h; done)
theorem take_one {w : World} {Φ : Bool → Nat → Prop} {c : C} {vs : List Value} {off : Nat} {B : List Nat} (h : IsCs w Φ [c] ((vs.drop off).take 1) B) : ∃ v, (vs.drop off).take 1 = [v] ∧ IsC w Φ c v B := by
  simp only [IsCs] at h
  obtain ⟨v, vs', B1, B2, e, rfl, h3, rfl, rfl⟩ := h
  exact ⟨v, e, by simpa using h3⟩
theorem freeOf_is {w : World} {Φ : Bool → Nat → Prop} {σ : F} {tm : List Value} {ρ : Nat → List Value} {B : List Nat} (hR : Rel w Φ σ tm ρ B) {s : S} {v : Value} {ts : List T} (h : σ.freeOf s = some ts) (hs : SlotR w Φ σ.ob ρ s v) :
    IsTs w (fun b => Φ true b ∨ b ∈ B) ts v.cells.toList := by
  have hΦ : ∀ x b, Φ x b → (Φ true b ∨ b ∈ B) := fun x b hb => .inl (by cases x; exact hR.sub.1 b hb; exact hb)
  unfold F.freeOf at h
  split at h
  · simp only [Option.some.injEq] at h
    subst h
    simp only [SlotR] at hs
    obtain ⟨rfl, h1⟩ := hs
    rw [one_cells h1]
    simp only [IsTs, IsT]
    exact ⟨_, [], rfl, ⟨rfl, h1⟩, rfl⟩
  · simp only [Option.some.injEq] at h
    subst h
    simp only [SlotR] at hs
    rw [one_cells hs.one]
    simp only [IsTs]
    exact ⟨v, [], rfl, IsT.mono (hΦ _) (fun _ _ => rfl) _ _ hs, rfl⟩
  · simp only [Option.some.injEq] at h
    subst h
    simp only [SlotR] at hs
    obtain ⟨vs, rfl, h2⟩ := hs
    exact IsTs.mono (hΦ _) (fun _ _ => rfl) _ _ h2
  · simp only [Option.some.injEq] at h
    subst h
    simp only [SlotR] at hs
    subst hs
    rw [one_cells (one_slice _ _ _)]
    simp only [IsTs, IsT]
    exact ⟨_, [], rfl, ⟨none, 0, rfl, Nat.le_refl _, .inl trivial⟩, rfl⟩
  · rename_i k p off n ag
    split at h
    · rename_i cs hc
      obtain ⟨o, vs, Bc, c1, c2, c3, c4, c5, c6, _⟩ := hR.cells hc
      simp only [SlotR] at hs
      obtain ⟨o', vs', h1, h2, h3, h4⟩ := hs
      rw [h1] at c1; cases c1
      rw [h2] at c2; cases c2
      have := IsCs.toT hΦ cs ts _ Bc h (fun b hb => .inr (c4 b hb)) c5
      cases ag with
      | true =>
        simp only [if_true] at h4
        subst h4
        simpa [Value.cells] using this
      | false =>
        simp only [Bool.false_eq_true, if_false] at h4
        rw [h4] at this c5
        have h1v : one v := by
          cases cs with
          | nil => simp [IsCs] at c5
          | cons c cs =>
            simp only [IsCs] at c5
            obtain ⟨v', vs', B1, B2, e, _, hC, _⟩ := c5
            simp only [List.cons.injEq] at e
            rw [e.1]
            exact hC.one
        rw [one_cells h1v]
        exact this
    · cases h
  · rename_i k p off sz lo hi
    split at h
    · rename_i c hc
      obtain ⟨o, vs, Bc, c1, c2, c3, c4, c5, c6, _⟩ := hR.cells hc
      simp only [SlotR] at hs
      obtain ⟨o', vs', a, len, cap, h1, h2, h3, h4, h5, h6, h7, a', ha', rfl⟩ := hs
      rw [h1] at c1; cases c1
      rw [h2] at c2; cases c2
      obtain ⟨v', e1, hC⟩ := take_one c5
      rw [h4] at e1
      simp only [List.cons.injEq, and_true] at e1
      subst e1
      split at h
      · rename_i sz' rows hct
        split at h
        · rename_i hcond
          simp only [Option.some.injEq] at h
          subst h
          obtain ⟨rfl, hlo, hhi⟩ := hcond
          have := IsC.toT hΦ c _ _ Bc hct (fun b hb => .inr (c4 b hb)) hC
          rw [one_cells (one_slice _ _ _)]
          simp only [IsTs]
          exact ⟨_, [], rfl, this.slice hlo hhi a' ha', rfl⟩
        · cases h
      · cases h
    · cases h
  · cases h
theorem free1_is {w : World} {Φ : Bool → Nat → Prop} {σ : F} {tm : List Value} {ρ : Nat → List Value} {B : List Nat} (hR : Rel w Φ σ tm ρ B) {s : S} {v : Value} {t : T} (h : σ.free1 s = some t) (hs : SlotR w Φ σ.ob ρ s v) :
    IsT w (fun b => Φ true b ∨ b ∈ B) t v := by
  have main : (∀ b ts, s ≠ .agg b ts) → (∀ k p off n, s ≠ .vw k p off n true) → ∀ t, σ.freeOf s = some [t] → IsT w (fun b => Φ true b ∨ b ∈ B) t v := by
    intro n1 n2 t ht
    have h1 := freeOf_is hR ht hs
    have h2 : one v := by
      cases s with
      | agg b ts => exact absurd rfl (n1 b ts)
      | vw k p off n ag =>
        cases ag with
        | true => exact absurd rfl (n2 k p off n)
        | false =>
          simp only [F.freeOf] at ht
          split at ht
          · rename_i cs hc
            obtain ⟨o, vs, Bc, c1, c2, c3, c4, c5, c6, _⟩ := hR.cells hc
            simp only [SlotR, Bool.false_eq_true, if_false] at hs
            obtain ⟨o', vs', q1, q2, q3, q4⟩ := hs
            rw [q1] at c1; cases c1
            rw [q2] at c2; cases c2
            rw [q4] at c5
            cases cs with
            | nil => simp [IsCs] at c5
            | cons c cs =>
              simp only [IsCs] at c5
              obtain ⟨v', vs', B1, B2, e, _, hC, _⟩ := c5
              simp only [List.cons.injEq] at e
              rw [e.1]
              exact hC.one
          · cases ht
      | lit x => simp only [SlotR] at hs; rw [hs.1]; exact hs.2
      | val b t => simp only [SlotR] at hs; exact hs.one
      | nils => simp only [SlotR] at hs; subst hs; exact one_slice _ _ _
      | sub k p off sz lo hi => simp only [SlotR] at hs; obtain ⟨o, vs, a, len, cap, _, _, _, _, _, _, _, a', _, rfl⟩ := hs; exact one_slice _ _ _
      | _ => simp [F.freeOf] at ht
    rw [one_cells h2] at h1
    simp only [IsTs] at h1
    obtain ⟨v', vs', e, h3, _⟩ := h1
    simp only [List.cons.injEq] at e
    rw [e.1]
    exact h3
  unfold F.free1 at h
  split at h
  · cases h
  · cases h
  · rename_i n1 n2
    split at h
    · rename_i t' ht
      simp only [Option.some.injEq] at h
      subst h
      exact main (fun b ts => n1 b ts) (fun k p off n => n2 k p off n) _ ht
    · cases h
theorem lenS_is {w : World} {Φ : Bool → Nat → Prop} {σ : F} {tm : List Value} {ρ : Nat → List Value} {B : List Nat} (hR : Rel w Φ σ tm ρ B) {s : S} {v : Value} {n : Nat} (h : lenS σ s = some n) (hs : SlotR w Φ σ.ob ρ s v) :
    (∃ b, s = .lit (.string b) ∧ v = .string b ∧ b.size = n) ∨ ((∀ x, s ≠ .lit x) ∧ ∃ a cap, v = .slice a n cap ∧ n ≤ cap) := by
  unfold lenS at h
  split at h
  · simp only [Option.some.injEq] at h
    subst h
    simp only [SlotR] at hs
    subst hs
    exact .inr ⟨fun _ e => (by cases e), none, 0, rfl, Nat.le_refl _⟩
  · simp only [Option.some.injEq] at h
    exact .inl ⟨_, rfl, slot_lit hs, h⟩
  · simp only [Option.some.injEq] at h
    subst h
    simp only [SlotR, IsT] at hs
    obtain ⟨a, cap, rfl, h2, _⟩ := hs
    exact .inr ⟨fun _ e => (by cases e), a, cap, rfl, h2⟩
  · split at h
    · rename_i c hc
      obtain ⟨o, vs, Bc, c1, c2, c3, c4, c5, c6, _⟩ := hR.cells hc
      simp only [SlotR, Bool.false_eq_true, if_false] at hs
      obtain ⟨o', vs', h1, h2, h3, h4⟩ := hs
      rw [h1] at c1; cases c1
      rw [h2] at c2; cases c2
      obtain ⟨v', e1, hC⟩ := take_one c5
      rw [h4] at e1
      simp only [List.cons.injEq, and_true] at e1
      subst e1
      obtain ⟨a, cap, rfl, hle⟩ := hC.len_is h
      exact .inr ⟨fun _ e => (by cases e), a, cap, rfl, hle⟩
    · cases h
  · simp only [Option.some.injEq] at h
    subst h
    simp only [SlotR] at hs
    obtain ⟨o, vs, a, len, cap, h1, h2, h3, h4, h5, h6, h7, a', ha', rfl⟩ := hs
    exact .inr ⟨fun _ e => (by cases e), _, _, rfl, by omega⟩
  · cases h
/-! ### slices of slices -/
def OptV : Option Value → Option Int → Prop
  | none, none => True
  | some v, some n => ∃ k, v = .int k n
  | _, _ => False
section
variable {P : Program} {e : Env}
theorem run_bound {k : IntKind} {n : Int} {y : Nat} {code : BoundsCode} {w : World} (h : 0 ≤ n) (h2 : n ≤ y) : (Instr.sliceBound (.int k n) y code).run P w = .ok n.toNat w := by
  have : 0 ≤ n ∧ n ≤ y := ⟨h, h2⟩
  simp only [Instr.sliceBound, asIntOf, Sem.run_bind, Sem.run_pure, Result.andThen_ok, this, and_self, if_true]
theorem run_bounds {isS : Bool} {len cap : Nat} {lo hi : Option Value} {l h : Option Int} {w : World} (hl : OptV lo l) (hh : OptV hi h) (h0 : 0 ≤ l.getD 0) (h1 : l.getD 0 ≤ h.getD len) (h2 : h.getD len ≤ len) (h3 : len ≤ cap) :
    (Instr.sliceBounds isS len cap lo hi none).run P w = .ok ((l.getD 0).toNat, (h.getD len).toNat, cap) w := by
  cases hi with
  | none =>
    cases h with
    | some n => exact hh.elim
    | none =>
      simp only [Option.getD_none] at h1 h2
      cases lo with
      | none =>
        cases l with
        | some n => exact hl.elim
        | none => simp [Instr.sliceBounds]
      | some v =>
        cases l with
        | none => exact hl.elim
        | some n =>
          obtain ⟨k, rfl⟩ := hl
          simp only [Option.getD_some] at h0 h1
          simp [Instr.sliceBounds, run_bound h0 h1]
  | some v =>
    cases h with
    | none => exact hh.elim
    | some m =>
      obtain ⟨k, rfl⟩ := hh
      simp only [Option.getD_some] at h1 h2
      have hm0 : 0 ≤ m := by omega
      have hm1 : m ≤ (cap : Int) := by omega
      cases lo with
      | none =>
        cases l with
        | some n => exact hl.elim
        | none => simp [Instr.sliceBounds, run_bound hm0 hm1]
      | some v =>
        cases l with
        | none => exact hl.elim
        | some n =>
          obtain ⟨k, rfl⟩ := hl
          simp only [Option.getD_some] at h0 h1
          have hn1 : n ≤ (m.toNat : Int) := by omega
          simp [Instr.sliceBounds, run_bound hm0 hm1, run_bound h0 hn1]
theorem run_slice_sl {t el : TypeId} {m : Nat} {a : Option Addr} {len cap : Nat} {lo hi : Option Value} {l h : Option Int} {w : World} (ht : P.underlying t = some (.slice el)) (hm : (sizeOf el).run P w = .ok m w) (hl : OptV lo l) (hh : OptV hi h) (h0 : 0 ≤ l.getD 0) (h1 : l.getD 0 ≤ h.getD len) (h2 : h.getD len ≤ len) (h3 : len ≤ cap) :
    (Instr.sliceAt t (.slice a len cap) lo hi none).run P w = .ok (.slice (if cap = (l.getD 0).toNat then a else a.map (·.add ((l.getD 0).toNat * m))) ((h.getD len).toNat - (l.getD 0).toNat) (cap - (l.getD 0).toNat)) w := by
  simp only [Instr.sliceAt, Sem.run_bind, run_underlying ht, Result.andThen_ok, Instr.slice, run_bounds hl hh h0 h1 h2 h3, hm, Sem.run_pure]
theorem run_slice_str {t : TypeId} {s : ByteArray} {lo hi : Option Value} {l h : Option Int} {w : World} (ht : P.underlying t = some .string) (hl : OptV lo l) (hh : OptV hi h) (h0 : 0 ≤ l.getD 0) (h1 : l.getD 0 ≤ h.getD s.size) (h2 : h.getD s.size ≤ s.size) :
    (Instr.sliceAt t (.string s) lo hi none).run P w = .ok (.string (s.extract (l.getD 0).toNat (h.getD s.size).toNat)) w := by
  simp only [Instr.sliceAt, Sem.run_bind, run_underlying ht, Result.andThen_ok, Instr.slice, Option.isSome_none, Bool.false_eq_true, if_false, Sem.run_pure, run_bounds hl hh h0 h1 h2 (Nat.le_refl _)]
theorem szOk_is (he : EnvOk P e) {el : TypeId} {sz n : Nat} (h : szOk e el sz n = true) : ∃ m, (∀ w, (sizeOf el).run P w = .ok m w) ∧ (n = 0 ∨ m = sz) := by
  unfold szOk at h
  split at h
  · rename_i w0 hw
    refine ⟨w0.cells, fun w => he.run_sizeOf hw w, ?_⟩
    simpa using h
  · cases h
theorem slice_is (he : EnvOk P e) {σ : F} {w : World} {Φ : Bool → Nat → Prop} {tm : List Value} {ρ : Nat → List Value} {B : List Nat} (hR : Rel w Φ σ tm ρ B) {t : TypeId} {x s : S} {xv : Value} {lo hi : Option Value} {l h : Option Int} (hx : SlotR w Φ σ.ob ρ x xv) (hl : OptV lo l) (hh : OptV hi h) (hs : sliceIt e σ t x l h = some s) :
    ∃ v, (∀ w2, (Instr.sliceAt t xv lo hi none).run P w2 = .ok v w2) ∧ SlotR w Φ σ.ob ρ s v := by
  unfold sliceIt at hs
  split at hs
  · rename_i tv n ht hn
    have hu := he.und ht
    have hlen := lenS_is hR hn hx
    simp only at hs
    split at hs
    · rename_i hc
      obtain ⟨h0, h1, h2⟩ := hc
      have e0 : (l.getD 0).toNat ≤ (h.getD n).toNat := by omega
      have e1 : (h.getD n).toNat ≤ n := by omega
      split at hs
      · rename_i el hd
        split at hs
        · rename_i hel
          simp only [Option.some.injEq] at hs
          subst hs
          obtain ⟨w0, hw0⟩ := Option.isSome_iff_exists.mp hel
          simp only [lenS, Option.some.injEq] at hn
          subst hn
          simp only [SlotR] at hx
          subst hx
          rw [hd] at hu
          refine ⟨_, fun w2 => run_slice_sl hu (he.run_sizeOf hw0 w2) hl hh h0 h1 h2 (Nat.le_refl _), ?_⟩
          have e3 : (l.getD 0).toNat = 0 := by omega
          have e4 : (h.getD ((0 : Nat) : Int)).toNat = 0 := by omega
          simp only [SlotR, e3, e4]
          rfl
        · cases hs
      · rename_i b hd
        simp only [Option.some.injEq] at hs
        subst hs
        rw [hd] at hu
        simp only [lenS, Option.some.injEq] at hn
        subst hn
        rw [slot_lit hx]
        exact ⟨_, fun w2 => run_slice_str hu hl hh h0 h1 h2, lit_slot rfl⟩
      · rename_i el b sz rows hd
        split at hs
        · rename_i hsz
          simp only [Option.some.injEq] at hs
          subst hs
          rw [hd] at hu
          obtain ⟨m, hm, hmz⟩ := szOk_is he hsz
          simp only [lenS, Option.some.injEq] at hn
          subst hn
          simp only [SlotR] at hx ⊢
          have hx' := hx
          simp only [IsT] at hx'
          obtain ⟨a, cap, rfl, hcap, _⟩ := hx'
          refine ⟨_, fun w2 => run_slice_sl hu (hm w2) hl hh h0 h1 h2 hcap, ?_⟩
          have e5 : (l.getD 0).toNat * m = (l.getD 0).toNat * sz := by
            rcases hmz with h | h
            · rw [show (l.getD 0).toNat = 0 by omega, Nat.zero_mul, Nat.zero_mul]
            · rw [h]
          rw [e5]
          exact hx.slice e0 e1 _ (fun hne => by rw [if_neg hne])
        · cases hs
      · rename_i el k p off hd
        split at hs
        · rename_i c hc
          split at hs
          · rename_i sz hcsz
            split at hs
            · rename_i hsz
              simp only [Option.some.injEq] at hs
              subst hs
              rw [hd] at hu
              obtain ⟨m, hm, hmz⟩ := szOk_is he hsz
              rcases hlen with ⟨b, e, _⟩ | ⟨_, a, cap, rfl, hcap⟩
              · cases e
              · simp only [SlotR, Bool.false_eq_true, if_false] at hx ⊢
                obtain ⟨o, vs, q1, q2, q3, q4⟩ := hx
                refine ⟨_, fun w2 => run_slice_sl hu (hm w2) hl hh h0 h1 h2 hcap, o, vs, a, n, cap, q1, q2, q3, q4, e0, e1, hcap, _, ?_, rfl⟩
                have e5 : (l.getD 0).toNat * m = (l.getD 0).toNat * sz := by
                  rcases hmz with h | h
                  · rw [show (l.getD 0).toNat = 0 by omega, Nat.zero_mul, Nat.zero_mul]
                  · rw [h]
                rw [e5]
                intro hne
                rw [if_neg hne]
            · cases hs
          · cases hs
        · cases hs
      · rename_i el k p off sz lo' hi' hd
        split at hs
        · rename_i hsz
          simp only [Option.some.injEq] at hs
          subst hs
          rw [hd] at hu
          obtain ⟨m, hm, hmz⟩ := szOk_is he hsz
          simp only [lenS, Option.some.injEq] at hn
          subst hn
          simp only [SlotR] at hx ⊢
          obtain ⟨o, vs, a, len, cap, q1, q2, q3, q4, q5, q6, q7, a', ha', rfl⟩ := hx
          have e5 : (l.getD 0).toNat * m = (l.getD 0).toNat * sz := by
            rcases hmz with h | h
            · rw [show (l.getD 0).toNat = 0 by omega, Nat.zero_mul, Nat.zero_mul]
            · rw [h]
          have hrun := fun w2 => run_slice_sl (P := P) (a := a') (w := w2) hu (hm w2) hl hh h0 h1 h2 (show hi' - lo' ≤ cap - lo' by omega)
          rw [e5] at hrun
          clear hlen
          generalize (l.getD 0).toNat = L at *
          generalize (h.getD ((hi' - lo' : Nat) : Int)).toNat = H at *
          have e6 : lo' + H - (lo' + L) = H - L := by omega
          have e7 : cap - (lo' + L) = cap - lo' - L := by omega
          refine ⟨_, hrun, o, vs, a, len, cap, q1, q2, q3, q4, by omega, by omega, q7, _, ?_, by rw [e6, e7]⟩
          intro hne
          rw [if_neg (by omega), ha' (by omega)]
          cases a with
          | none => rfl
          | some a =>
            simp only [Option.map_some, Addr.add, Nat.add_mul]
            by_cases c3 : lo' * sz = 0
            · simp [c3]
            · by_cases c4 : L * sz = 0
              · simp [c3, c4]
              · simp [c3, c4, Nat.add_assoc]
        · cases hs
      · cases hs
    · cases hs
  · cases hs
end
end Go.Proofs.YtckojpaklblnpaaGreatDoor.Ev
/- The last of the plain operations. -/
set_option linter.unusedVariables false
set_option linter.unusedSimpArgs false
namespace Go.Proofs.YtckojpaklblnpaaGreatDoor.Ev
open Go Go.RowKit
section
variable {P : Program} {e : Env} {σ : F} {d : Option Tmp} {ty : TypeId} {pos : String} {after : Array Edge} {gd : Option (Nat × Bool)}
theorem optInt_is {w : World} {Φ : Bool → Nat → Prop} {tm : List Value} {ρ : Nat → List Value} {B : List Nat} {ds : List Deferred} (hR : Rel w Φ σ tm ρ B) {x : Option Operand} {n : Option Int} (h : optInt σ x = some n) : OptV (x.map (⟨tm.toArray, ds⟩ : Act).eval) n := by
  cases x with
  | none =>
    simp only [optInt, Option.some.injEq] at h
    subst h
    trivial
  | some x =>
    simp only [optInt, Option.map_eq_some_iff] at h
    obtain ⟨m, hm, rfl⟩ := h
    exact intOf_is hm (hR.rd x)
theorem ok_slice (he : EnvOk P e) (t : TypeId) (x : Operand) (lo hi : Option Operand) (l h : Option Int) (s : S) (hl : optInt σ lo = some l) (hh : optInt σ hi = some h) (hs : sliceIt e σ t (σ.rd x) l h = some s) :
    OpStill P ⟨d, .slice t x lo hi none, ty, pos, after, gd⟩ σ (σ.put d s) :=
  opVal (o := ⟨d, .slice t x lo hi none, ty, pos, after, gd⟩) fun w Φ tm ρ B ds hR => by
    obtain ⟨v, h1, h2⟩ := slice_is he hR (hR.rd (ds := ds) x) (optInt_is (ds := ds) hR hl) (optInt_is (ds := ds) hR hh) hs
    exact ⟨v, fun w2 _ => by simp only [execOp, Option.map_none, Sem.run_bind, h1 w2, Result.andThen_ok, Sem.run_pure], h2⟩
theorem run_part (he : EnvOk P e) {t : TypeId} {w0 : TV} (h : e.ty t = some w0) (cs : Array Value) (off : Nat) (hfit : off + w0.cells ≤ cs.size) :
    ∃ v, (∀ w, (part t cs off).run P w = .ok v w) ∧ valOf w0.agg ((cs.toList.drop off).take w0.cells) v := by
  cases ha : w0.agg with
  | true =>
    refine ⟨.agg (cs.extract off (off + w0.cells)), fun w => ?_, ?_⟩
    · simp only [part, Sem.run_bind, he.run_isAgg h, ha, Result.andThen_ok, if_true, he.run_sizeOf h, Sem.run_pure]
    · simp only [valOf, if_true]
      congr 1
      apply Array.ext'
      simp [List.take_drop]
  | false =>
    have h1 := he.one h ha
    rw [h1] at hfit ⊢
    obtain ⟨x, hx⟩ : ∃ x, cs[off]? = some x := ⟨cs[off]'(by omega), by simp [show off < cs.size by omega]⟩
    refine ⟨x, fun w => ?_, ?_⟩
    · simp only [part, Sem.run_bind, he.run_isAgg h, ha, Result.andThen_ok, Bool.false_eq_true, if_false, hx, Sem.run_pure]
    · simp only [valOf, Bool.false_eq_true, if_false]
      have hx' : cs.toList[off]? = some x := by simpa using hx
      obtain ⟨hlt, rfl⟩ := List.getElem?_eq_some_iff.mp hx'
      rw [List.drop_eq_getElem_cons hlt]
      simp
theorem ok_field_agg (he : EnvOk P e) (t : TypeId) (tv w0 : TV) (x : Operand) (f : Nat) (fs : Array Field) (fd : Field) (b : Bool) (ts : List T) (ht : e.ty t = some tv) (hd : tv.desc = .struct fs) (hf : fs[f]? = some fd) (hw : e.ty fd.type = some w0) (hx : σ.rd x = .agg b ts) (hl : fd.offset + w0.cells ≤ ts.length) :
    OpStill P ⟨d, .field t x f, ty, pos, after, gd⟩ σ (σ.put d (ofT b w0.agg ((ts.drop fd.offset).take w0.cells))) :=
  opVal (o := ⟨d, .field t x f, ty, pos, after, gd⟩) fun w Φ tm ρ B ds hR => by
    have hu := he.und ht
    rw [hd] at hu
    have hr := hR.rd (ds := ds) x
    rw [hx] at hr
    simp only [SlotR] at hr
    obtain ⟨vs, h1, h2⟩ := hr
    obtain ⟨v, r1, r2⟩ := run_part he hw vs.toArray fd.offset (by simpa [h2.length] using hl)
    refine ⟨v, fun w2 _ => ?_, ofT_is ((h2.drop _).take _) r2⟩
    simp only [execOp, h1, Instr.field, Sem.run_bind, run_underlying hu, Result.andThen_ok, hf, asAgg, Sem.run_pure, r1]
theorem ok_field_vw (he : EnvOk P e) (t : TypeId) (tv w0 : TV) (x : Operand) (f : Nat) (fs : Array Field) (fd : Field) (k : Nat) (p : List (Nat × Nat)) (off n : Nat) (cs : List C) (ht : e.ty t = some tv) (hd : tv.desc = .struct fs) (hf : fs[f]? = some fd) (hw : e.ty fd.type = some w0) (hx : σ.rd x = .vw k p off n true) (hl : fd.offset + w0.cells ≤ n)
    (hc : σ.cells k p (off + fd.offset) w0.cells = some cs) :
    OpStill P ⟨d, .field t x f, ty, pos, after, gd⟩ σ (σ.put d (F.view k p (off + fd.offset) w0.cells w0.agg cs)) :=
  opVal (o := ⟨d, .field t x f, ty, pos, after, gd⟩) fun w Φ tm ρ B ds hR => by
    have hu := he.und ht
    rw [hd] at hu
    have hr := hR.rd (ds := ds) x
    rw [hx] at hr
    simp only [SlotR, if_true] at hr
    obtain ⟨o, vs, q1, q2, q3, h1⟩ := hr
    obtain ⟨o', vs', Bc, c1, c2, c3, c4, c5, c6, _⟩ := hR.cells hc
    rw [q1] at c1; cases c1
    rw [q2] at c2; cases c2
    obtain ⟨v, r1, r2⟩ := run_part he hw ((vs.drop off).take n).toArray fd.offset (by simp; omega)
    refine ⟨v, fun w2 _ => ?_, ?_⟩
    · simp only [execOp, h1, Instr.field, Sem.run_bind, run_underlying hu, Result.andThen_ok, hf, asAgg, Sem.run_pure, r1]
    · refine view_is hR q1 q2 c3 c5 ?_
      have e1 : (((vs.drop off).take n).drop fd.offset).take w0.cells = (vs.drop (off + fd.offset)).take w0.cells := by
        rw [List.drop_take, List.drop_drop, List.take_take, Nat.min_eq_left (by omega)]
      simpa [e1] using r2
theorem ok_index_str (he : EnvOk P e) (t : TypeId) (tv : TV) (x i : Operand) (s : ByteArray) (n : Int) (b : UInt8) (ht : e.ty t = some tv) (hd : tv.desc = .string) (hx : σ.rd x = .lit (.string s)) (hn : intOf? (σ.rd i) = some n) (h0 : 0 ≤ n) (hb : s[n.toNat]? = some b) :
    OpStill P ⟨d, .index t x i, ty, pos, after, gd⟩ σ (σ.put d (liT (.int .u8 b.toNat))) :=
  opVal (o := ⟨d, .index t x i, ty, pos, after, gd⟩) fun w Φ tm ρ B ds hR => by
    have hu := he.und ht
    rw [hd] at hu
    have hr := hR.rd (ds := ds) x
    rw [hx] at hr
    obtain ⟨k, hi⟩ := intOf_is hn (hR.rd (ds := ds) i)
    refine ⟨.int .u8 b.toNat, fun w2 _ => ?_, lit_slot rfl⟩
    simp only [execOp, slot_lit hr, hi, Instr.index, asIntOf, Sem.run_bind, Sem.run_pure, run_underlying hu, Result.andThen_ok, h0, if_true, hb]
theorem ok_index_arr (he : EnvOk P e) (t el : TypeId) (tv w0 : TV) (x i : Operand) (len : Nat) (n : Int) (b : Bool) (ts : List T) (ht : e.ty t = some tv) (hd : tv.desc = .array len el) (hw : e.ty el = some w0) (hx : σ.rd x = .agg b ts) (hn : intOf? (σ.rd i) = some n) (h0 : 0 ≤ n ∧ n < len ∧ n.toNat * w0.cells + w0.cells ≤ ts.length) :
    OpStill P ⟨d, .index t x i, ty, pos, after, gd⟩ σ (σ.put d (ofT b w0.agg ((ts.drop (n.toNat * w0.cells)).take w0.cells))) :=
  opVal (o := ⟨d, .index t x i, ty, pos, after, gd⟩) fun w Φ tm ρ B ds hR => by
    have hu := he.und ht
    rw [hd] at hu
    have hr := hR.rd (ds := ds) x
    rw [hx] at hr
    simp only [SlotR] at hr
    obtain ⟨vs, h1, h2⟩ := hr
    obtain ⟨k, hi⟩ := intOf_is hn (hR.rd (ds := ds) i)
    obtain ⟨v, r1, r2⟩ := run_part he hw vs.toArray (n.toNat * w0.cells) (by simpa [h2.length] using h0.2.2)
    refine ⟨v, fun w2 _ => ?_, ofT_is ((h2.drop _).take _) r2⟩
    have h01 : 0 ≤ n ∧ n < (len : Int) := ⟨h0.1, h0.2.1⟩
    simp only [execOp, h1, hi, Instr.index, asIntOf, Sem.run_bind, Sem.run_pure, run_underlying hu, Result.andThen_ok, if_pos h01, he.run_sizeOf hw, r1]
/-! ### builtins -/
theorem run_builtin (ρ : Operand → Value) {c : Call} {b : Builtin} {o : Oper} (w : World) (ho : o.op = .call c) (hb : c.callee = .builtin b) :
    ∃ cs, (execOp ρ o).run P w = (builtin b c.argTypes o.type cs (c.args.map ρ)).run P w :=
  ⟨_, by simp only [execOp, ho, resolve, hb, Sem.run_bind, Sem.run_pure, Result.andThen_ok, invoke]; rfl⟩
theorem ok_len (he : EnvOk P e) (c : Call) (t : TypeId) (tv : TV) (x : Operand) (n : Nat) (hb : c.callee = .builtin .len) (ha : c.args.toList = [x]) (hat : c.argTypes.toList = [t]) (ht : e.ty t = some tv) (hn : lenS σ (σ.rd x) = some n)
    (h : (∃ el, tv.desc = .slice el ∧ ∀ v, σ.rd x ≠ .lit v) ∨ (tv.desc = .string ∧ ∃ v, σ.rd x = .lit v)) :
    OpStill P ⟨d, .call c, ty, pos, after, gd⟩ σ (σ.put d (liT (.int .i64 n))) :=
  opVal (o := ⟨d, .call c, ty, pos, after, gd⟩) fun w Φ tm ρ B ds hR => by
    have hu := he.und ht
    have e1 : c.args = #[x] := Array.ext' (by simpa using ha)
    have e2 : c.argTypes = #[t] := Array.ext' (by simpa using hat)
    refine ⟨.int .i64 n, fun w2 _ => ?_, lit_slot rfl⟩
    obtain ⟨consts, hbi⟩ := run_builtin (P := P) (⟨tm.toArray, ds⟩ : Act).eval (o := ⟨d, .call c, ty, pos, after, gd⟩) w2 rfl hb
    rw [hbi]
    have hr := hR.rd (ds := ds) x
    simp only [builtin, e1, e2, List.map_toArray, List.map_cons, List.map_nil, Builtin.len_]
    rcases lenS_is hR hn hr with ⟨b, q1, q2, q3⟩ | ⟨q1, a, cap, q2, q3⟩
    · rcases h with ⟨el, _, h⟩ | ⟨hd, _⟩
      · exact absurd q1 (h _)
      · rw [hd] at hu
        simp [q2, run_underlying hu, goInt, q3]
    · rcases h with ⟨el, hd, _⟩ | ⟨_, v, h⟩
      · rw [hd] at hu
        simp [q2, run_underlying hu, goInt]
      · exact absurd h (q1 v)
theorem ok_minmax (c : Call) (x y : Operand) (k k' : IntKind) (a b : Int) (mx : Bool) (hb : c.callee = .builtin (if mx then .max else .min)) (ha : c.args.toList = [x, y]) (hx : σ.rd x = .lit (.int k a)) (hy : intOf? (σ.rd y) = some b) :
    OpStill P ⟨d, .call c, ty, pos, after, gd⟩ σ (σ.put d (liT (.int k (if mx then (if a < b then b else a) else if b < a then b else a)))) :=
  opVal (o := ⟨d, .call c, ty, pos, after, gd⟩) fun w Φ tm ρ B ds hR => by
    have e1 : c.args = #[x, y] := Array.ext' (by simpa using ha)
    refine ⟨.int k (if mx then (if a < b then b else a) else if b < a then b else a), fun w2 _ => ?_, lit_slot rfl⟩
    obtain ⟨consts, hbi⟩ := run_builtin (P := P) (⟨tm.toArray, ds⟩ : Act).eval (o := ⟨d, .call c, ty, pos, after, gd⟩) w2 rfl hb
    rw [hbi]
    have hr := hR.rd (ds := ds) x
    rw [hx] at hr
    obtain ⟨k2, hi⟩ := intOf_is hy (hR.rd (ds := ds) y)
    cases mx with
    | false =>
      simp only [Bool.false_eq_true, if_false, builtin, e1, List.map_toArray, List.map_cons, List.map_nil, Builtin.min_, slot_lit hr, hi, List.foldlM_cons, List.foldlM_nil, Builtin.min2, Sem.run_bind, Sem.run_pure, Result.andThen_ok]
    | true =>
      simp only [if_true, builtin, e1, List.map_toArray, List.map_cons, List.map_nil, Builtin.max_, slot_lit hr, hi, List.foldlM_cons, List.foldlM_nil, Builtin.max2, Sem.run_bind, Sem.run_pure, Result.andThen_ok, gt_iff_lt]
theorem ok_cap (he : EnvOk P e) (c : Call) (t el : TypeId) (tv : TV) (x : Operand) (hb : c.callee = .builtin .cap) (ha : c.args.toList = [x]) (hat : c.argTypes.toList = [t]) (ht : e.ty t = some tv) (hd : tv.desc = .slice el) (hx : σ.rd x = .nils) :
    OpStill P ⟨d, .call c, ty, pos, after, gd⟩ σ (σ.put d (liT (.int .i64 0))) :=
  opVal (o := ⟨d, .call c, ty, pos, after, gd⟩) fun w Φ tm ρ B ds hR => by
    have hu := he.und ht
    rw [hd] at hu
    have e1 : c.args = #[x] := Array.ext' (by simpa using ha)
    have e2 : c.argTypes = #[t] := Array.ext' (by simpa using hat)
    refine ⟨.int .i64 0, fun w2 _ => ?_, lit_slot rfl⟩
    obtain ⟨consts, hbi⟩ := run_builtin (P := P) (⟨tm.toArray, ds⟩ : Act).eval (o := ⟨d, .call c, ty, pos, after, gd⟩) w2 rfl hb
    rw [hbi]
    have hr := hR.rd (ds := ds) x
    rw [hx] at hr
    simp only [SlotR] at hr
    simp [builtin, e1, e2, Builtin.cap_, hr, run_underlying hu, goInt]
/-! ### bytes to a string -/
theorem bytes_rows {w : World} {φ : Nat → Prop} {sz : Nat} : ∀ {rows : List (List T)} {vs : List Value} {bs : List UInt8}, IsTRows w φ sz rows vs → bytesOf rows = some bs → ∃ ns : List Int, vs.take rows.length = ns.map (Value.int .u8) ∧ bs = ns.map (fun n => UInt8.ofNat n.toNat)
  | [], vs, bs, h, hb => by
    simp only [bytesOf, Option.some.injEq] at hb
    subst hb
    exact ⟨[], by simp, rfl⟩
  | r :: rs, vs, bs, h, hb => by
    simp only [bytesOf] at hb
    cases h1 : byteOf r with
    | none => simp [h1] at hb
    | some b =>
      cases h2 : bytesOf rs with
      | none => simp [h1, h2] at hb
      | some bs' =>
        simp only [h1, h2, Option.some.injEq] at hb
        subst hb
        unfold byteOf at h1
        split at h1
        · rename_i n
          simp only [Option.some.injEq] at h1
          subst h1
          simp only [IsTRows, List.length_cons, List.length_nil, Nat.zero_add] at h
          obtain ⟨rfl, h3, h4⟩ := h
          simp only [IsTs, IsT] at h3
          obtain ⟨v, vs', e1, ⟨rfl, _⟩, rfl⟩ := h3
          obtain ⟨ns, h5, rfl⟩ := bytes_rows h4 h2
          cases vs with
          | nil => simp at e1
          | cons v0 vs0 =>
            simp only [List.take_succ_cons, List.take_zero, List.cons.injEq, and_true] at e1
            subst e1
            simp only [List.drop_succ_cons, List.drop_zero] at h5
            exact ⟨n :: ns, by simp [h5], rfl⟩
        · cases h1
theorem bytesOf_length : ∀ {rows : List (List T)} {bs : List UInt8}, bytesOf rows = some bs → rows.length = bs.length
  | [], bs, h => by simp only [bytesOf, Option.some.injEq] at h; subst h; rfl
  | r :: rs, bs, h => by
    simp only [bytesOf] at h
    cases h1 : byteOf r with
    | none => simp [h1] at h
    | some b =>
      cases h2 : bytesOf rs with
      | none => simp [h1, h2] at h
      | some bs' =>
        simp only [h1, h2, Option.some.injEq] at h
        subst h
        simp [bytesOf_length h2]
theorem ok_bytesString (he : EnvOk P e) (src dst el : TypeId) (a b w0 : TV) (x : Operand) (sz : Nat) (rows : List (List T)) (bs : List UInt8) (hs : e.ty src = some a) (hsd : a.desc = .slice el) (hd : e.ty dst = some b) (hdd : b.desc = .string) (hw : e.ty el = some w0) (hwd : w0.desc = .int .u8) (hf : σ.free1 (σ.rd x) = some (.sl sz rows)) (hb : bytesOf rows = some bs) :
    OpStill P ⟨d, .convert src dst x, ty, pos, after, gd⟩ σ (σ.put d (liT (.string ⟨bs.toArray⟩))) :=
  opVal (o := ⟨d, .convert src dst x, ty, pos, after, gd⟩) fun w Φ tm ρ B ds hR => by
    have h1 := he.und hs; rw [hsd] at h1
    have h2 := he.und hd; rw [hdd] at h2
    have h3 := he.und hw; rw [hwd] at h3
    have hv := free1_is hR hf (hR.rd (ds := ds) x)
    refine ⟨.string ⟨bs.toArray⟩, fun w2 hw2 => ?_, lit_slot rfl⟩
    simp only [IsT] at hv
    obtain ⟨ad, cap, hev, hle, hrows⟩ := hv
    simp only [execOp, hev, Sem.run_bind]
    rcases hrows with rfl | ⟨g, o, cur, et, fz, rfl, _, hg, hrows⟩
    · simp only [bytesOf, Option.some.injEq] at hb
      subst hb
      rw [run_convert_bytes_string w2 src dst el _ _ _ h1 h3 h2]
      cases ad with
      | none => simp [Conv.bytesToString]; rfl
      | some a =>
        rw [run_bytesToString w2 a _ cap [] (by simp [loadCells, loadCellsFrom])]
        simp [Result.andThen_ok]
        rfl
    · obtain ⟨ns, e1, rfl⟩ := bytes_rows hrows hb
      have hln : rows.length = ns.length := by
        have := bytesOf_length hb
        simpa using this
      rw [run_convert_bytes_string w2 src dst el _ _ _ h1 h3 h2, run_bytesToString w2 _ _ cap ns, foldl_push_bytes]
      · simp [Result.andThen_ok]
      · have hcell : ∀ j, w2.cell? ⟨g, j, none⟩ = cur[j]? := fun j => by simp [World.cell?, hw2.get hg]
        have := run_loadCells_list (P := P) w2 ⟨g, o, none⟩ (ns.map (Value.int .u8)) (fun j x hj => by
          rw [← e1, List.getElem?_take] at hj
          split at hj
          · rw [List.getElem?_drop] at hj
            rw [Addr.add_lit, hcell]
            simpa using hj
          · cases hj)
        rw [List.length_map] at this
        rw [hln]
        exact this
end
end Go.Proofs.YtckojpaklblnpaaGreatDoor.Ev
/- Objects made, dropped, taken out of their places. -/
set_option linter.unusedVariables false
set_option linter.unusedSimpArgs false
namespace Go.Proofs.YtckojpaklblnpaaGreatDoor.Ev
open Go Go.RowKit
structure Loose (w : World) (Φ : Bool → Nat → Prop) (B L : List Nat) : Prop where
  nd : L.Nodup
  apart : ∀ b ∈ L, b ∉ B
  lt : ∀ b ∈ L, b < w.heap.size
  disj : ∀ b ∈ L, ∀ x, ¬Φ x b
theorem Loose.nil {w : World} {Φ : Bool → Nat → Prop} {B : List Nat} : Loose w Φ B [] := ⟨List.nodup_nil, by simp, by simp, by simp⟩
theorem Loose.sub {w : World} {Φ : Bool → Nat → Prop} {B B' L : List Nat} (h : Loose w Φ B L) (hs : ∀ b ∈ B', b ∈ B) : Loose w Φ B' L := ⟨h.nd, fun b hb hb' => h.apart b hb (hs b hb'), h.lt, h.disj⟩
theorem Rel.keep {w w' : World} {Φ : Bool → Nat → Prop} {σ : F} {tm : List Value} {ρ : Nat → List Value} {B : List Nat} (h : Rel w Φ σ tm ρ B) (hk : Keeps w w' Φ Φ B) (hsz : w.heap.size ≤ w'.heap.size) : Rel w' Φ σ tm ρ B where
  obs := h.obs.keep hk (fun _ _ => rfl)
  nd := h.nd
  keys := h.keys
  disj := h.disj
  lt b hb := Nat.lt_of_lt_of_le (h.lt b hb) hsz
  ltΦ x b hb := Nat.lt_of_lt_of_le (h.ltΦ x b hb) hsz
  sub := ⟨h.sub.1, h.sub.2.next (fun _ h => h) (fun b hb => hk.ro false b hb)⟩
  slots := by
    have C := carry_same (ρ' := ρ) h.obs h.keys hk (fun k o hl => ⟨hl, rfl⟩)
    exact C.slots σ.sl tm h.slots
theorem Rel.new {w : World} {Φ : Bool → Nat → Prop} {σ : F} {tm : List Value} {ρ : Nat → List Value} {B : List Nat} (h : Rel w Φ σ tm ρ B) (k : Nat) (o : O) (vs : List Value) (L : List Nat) (hc : IsCs w Φ o.cells vs L) (hL : Loose w Φ B L) :
    ∃ B', Rel w Φ (σ.new k o) tm (fun j => if j = k then vs else ρ j) (L ++ B') ∧ B'.Sublist B := by
  obtain ⟨B', hB, hs⟩ := h.obs.drop h.keys k
  have hmem : ∀ b ∈ B', b ∈ B := fun b hb => hs.subset hb
  have hρ : ∀ j ∈ (drop_ σ.ob k).map (·.1), (fun j => if j = k then vs else ρ j) j = ρ j := by
    intro j hj
    have : j ≠ k := by rintro rfl; exact drop_not h.keys hj
    simp [this]
  refine ⟨B', ⟨⟨L, B', rfl, by simpa using hc, hB.keep (Keeps.refl _ _ _) hρ⟩, ?_, ?_, ?_, ?_, h.ltΦ, h.sub, ?_⟩, hs⟩
  · rw [List.nodup_append]
    exact ⟨hL.nd, h.nd.sublist hs, fun a ha b hb e => hL.apart a ha (by rw [e]; exact hmem b hb)⟩
  · simp only [F.new, List.map_cons, List.nodup_cons]
    exact ⟨drop_not h.keys, h.keys.sublist (drop_sub _ _)⟩
  · intro b hb x
    rcases List.mem_append.mp hb with hb | hb
    · exact hL.disj b hb x
    · exact h.disj b (hmem b hb) x
  · intro b hb
    rcases List.mem_append.mp hb with hb | hb
    · exact hL.lt b hb
    · exact h.lt b (hmem b hb)
  · have C := carry_kill (w' := w) (Φ' := Φ) (ρ' := fun j => if j = k then vs else ρ j) (ob' := (k, o) :: drop_ σ.ob k) k h.obs h.keys (fun _ _ h => h) (fun _ _ _ => rfl) (fun j oj hj hl => by
      obtain ⟨Bk, hBk, _, hck⟩ := h.look hl
      refine ⟨?_, by simp [hj], Bk, fun _ _ => rfl, hck⟩
      show Ev.look ((k, o) :: drop_ σ.ob k) j = some oj
      rw [Ev.look]
      rw [if_neg (fun e => hj e.symm), look_drop h.keys, if_neg hj]
      exact hl)
    exact C.slots σ.sl tm h.slots
theorem Rel.del {w : World} {Φ : Bool → Nat → Prop} {σ : F} {tm : List Value} {ρ : Nat → List Value} {B : List Nat} (h : Rel w Φ σ tm ρ B) (k : Nat) :
    ∃ B', Rel w Φ (σ.del k) tm ρ B' ∧ B'.Sublist B ∧ ∀ o, Ev.look σ.ob k = some o → ∃ Bk, IsCs w Φ o.cells (ρ k) Bk ∧ Loose w Φ B' Bk ∧ ∀ b ∈ Bk, b ∈ B := by
  have main : ∀ B', IsOb w Φ ρ (drop_ σ.ob k) B' → B'.Sublist B → Rel w Φ (σ.del k) tm ρ B' := by
    intro B' hB hs
    refine ⟨hB, h.nd.sublist hs, h.keys.sublist (drop_sub _ _), fun b hb => h.disj b (hs.subset hb), fun b hb => h.lt b (hs.subset hb), h.ltΦ, h.sub, ?_⟩
    have C := carry_kill (w' := w) (Φ' := Φ) (ρ' := ρ) (ob' := drop_ σ.ob k) k h.obs h.keys (fun _ _ h => h) (fun _ _ _ => rfl) (fun j oj hj hl => by
      obtain ⟨Bk, hBk, _, hck⟩ := h.look hl
      refine ⟨?_, rfl, Bk, fun _ _ => rfl, hck⟩
      rw [look_drop h.keys, if_neg hj]
      exact hl)
    exact C.slots σ.sl tm h.slots
  cases hl : Ev.look σ.ob k with
  | none =>
    obtain ⟨B', hB, hs⟩ := h.obs.drop h.keys k
    exact ⟨B', main B' hB hs, hs, fun o ho => by cases ho⟩
  | some o =>
    obtain ⟨X, Bk, Y, rfl, e2, _, e4, _⟩ := IsOb.focus h.obs h.keys hl
    have hs : (X ++ Y).Sublist (X ++ (Bk ++ Y)) := List.Sublist.append (List.Sublist.refl _) (List.sublist_append_right _ _)
    refine ⟨X ++ Y, main _ e4 hs, hs, fun o' ho => ?_⟩
    cases ho
    have hnd := h.nd
    simp only [List.nodup_append, List.mem_append, ne_eq] at hnd
    refine ⟨Bk, e2, ⟨hnd.2.1.1, ?_, fun b hb => h.lt b (by simp [hb]), fun b hb => h.disj b (by simp [hb])⟩, fun b hb => by simp [hb]⟩
    intro b hb hb'
    rcases List.mem_append.mp hb' with hx | hy
    · exact hnd.2.2 b hx b (.inl hb) rfl
    · exact hnd.2.1.2.2 b hb b hy rfl
/-! ### cells that take another's place -/
theorem IsCs.setRange {w : World} {Φ : Bool → Nat → Prop} {cs new : List C} {vs nv : List Value} {B Bn : List Nat} {off : Nat} (h : IsCs w Φ cs vs B) (k : IsCs w Φ new nv Bn) (hfit : off + new.length ≤ cs.length) :
    ∃ X Y Z, B = X ++ (Y ++ Z) ∧ IsCs w Φ ((cs.drop off).take new.length) ((vs.drop off).take new.length) Y ∧ IsCs w Φ (Ev.setRange cs off new) (vs.take off ++ nv ++ vs.drop (off + nv.length)) (X ++ (Bn ++ Z)) := by
  obtain ⟨X, Y, Z, e, h1, h2, h3⟩ := h.range off new.length
  refine ⟨X, Y, Z, e, h2, ?_⟩
  rw [k.length]
  have := (h1.append k).append h3
  rw [List.append_assoc X] at this
  exact this
theorem holes_is {w : World} {Φ : Bool → Nat → Prop} : ∀ {cs : List C} {vs : List Value} {B : List Nat}, IsCs w Φ cs vs B → IsCs w Φ (cs.map fun c => if c.free then c else .hole) vs []
  | [], vs, B, h => by
    simp only [IsCs] at h
    simp only [List.map_nil, IsCs]
    exact ⟨h.1, trivial⟩
  | c :: cs, vs, B, h => by
    simp only [IsCs] at h
    obtain ⟨v, vs', B1, B2, rfl, rfl, h3, h4⟩ := h
    simp only [List.map_cons, IsCs]
    refine ⟨v, vs', [], [], rfl, rfl, ?_, holes_is h4⟩
    by_cases hf : c.free = true
    · rw [if_pos hf]
      cases c with
      | im b t => simp only [IsC] at h3 ⊢; exact ⟨trivial, h3.2⟩
      | ow t =>
        cases t with
        | lit x => simp only [IsC, IsO] at h3 ⊢; exact ⟨h3.1, h3.2.1, trivial⟩
        | sl _ _ => simp [C.free] at hf
      | own _ _ => simp [C.free] at hf
      | hole => simp [C.free] at hf
    · rw [if_neg hf]
      simp only [IsC]
      exact ⟨trivial, h3.one⟩
theorem free_blocks {w : World} {Φ : Bool → Nat → Prop} : ∀ {cs : List C} {vs : List Value} {B : List Nat}, IsCs w Φ cs vs B → cs.all C.free = true → B = []
  | [], vs, B, h, _ => by simp only [IsCs] at h; exact h.2
  | c :: cs, vs, B, h, hf => by
    simp only [List.all_cons, Bool.and_eq_true] at hf
    simp only [IsCs] at h
    obtain ⟨v, vs', B1, B2, rfl, rfl, h3, h4⟩ := h
    rw [free_blocks h4 hf.2]
    cases c with
    | im b t => simp only [IsC] at h3; simp [h3.1]
    | ow t =>
      cases t with
      | lit x => simp only [IsC, IsO] at h3; simp [h3.2.2]
      | sl _ _ => simp [C.free] at hf
    | own _ _ => simp [C.free] at hf
    | hole => simp [C.free] at hf
theorem copy_nil {z : Nat} {rows : List (List T)} (h : (C.ow (.sl z rows)).copy = true) : z = 0 ∧ rows = [] := by
  unfold C.copy at h
  split at h <;> simp_all
theorem nil_own {w : World} {v : Value} {B : List Nat} (h : IsO w (.sl 0 []) v B) : B = [] := by
  simp only [IsO] at h
  rcases h with ⟨_, _, h⟩ | ⟨g, cap, cur, e, fz, B', _, _, _, h, _⟩
  · exact h
  · exact absurd h.1 (Nat.lt_irrefl _)
theorem holes_copy {w : World} {Φ : Bool → Nat → Prop} : ∀ {cs : List C} {vs : List Value} {B : List Nat}, IsCs w Φ cs vs B → IsCs w Φ (cs.map fun c => if c.copy then c else .hole) vs []
  | [], vs, B, h => by
    simp only [IsCs] at h
    simp only [List.map_nil, IsCs]
    exact ⟨h.1, trivial⟩
  | c :: cs, vs, B, h => by
    simp only [IsCs] at h
    obtain ⟨v, vs', B1, B2, rfl, rfl, h3, h4⟩ := h
    simp only [List.map_cons, IsCs]
    refine ⟨v, vs', [], [], rfl, rfl, ?_, holes_copy h4⟩
    by_cases hf : c.copy = true
    · rw [if_pos hf]
      cases c with
      | im b t => simp only [IsC] at h3 ⊢; exact ⟨trivial, h3.2⟩
      | ow t =>
        cases t with
        | lit x => simp only [IsC, IsO] at h3 ⊢; exact ⟨h3.1, h3.2.1, trivial⟩
        | sl z rows =>
          obtain ⟨rfl, rfl⟩ := copy_nil hf
          simp only [IsC] at h3
          have := nil_own h3
          subst this
          simp only [IsC]
          exact h3
      | own _ _ => simp [C.copy] at hf
      | hole => simp [C.copy] at hf
    · rw [if_neg hf]
      simp only [IsC]
      exact ⟨trivial, h3.one⟩
theorem copy_blocks {w : World} {Φ : Bool → Nat → Prop} : ∀ {cs : List C} {vs : List Value} {B : List Nat}, IsCs w Φ cs vs B → cs.all C.copy = true → B = []
  | [], vs, B, h, _ => by simp only [IsCs] at h; exact h.2
  | c :: cs, vs, B, h, hf => by
    simp only [List.all_cons, Bool.and_eq_true] at hf
    simp only [IsCs] at h
    obtain ⟨v, vs', B1, B2, rfl, rfl, h3, h4⟩ := h
    rw [copy_blocks h4 hf.2]
    cases c with
    | im b t => simp only [IsC] at h3; simp [h3.1]
    | ow t =>
      cases t with
      | lit x => simp only [IsC, IsO] at h3; simp [h3.2.2]
      | sl z rows =>
        obtain ⟨rfl, rfl⟩ := copy_nil hf.1
        simp only [IsC] at h3
        rw [nil_own h3]
        rfl
    | own _ _ => simp [C.copy] at hf
    | hole => simp [C.copy] at hf
end Go.Proofs.YtckojpaklblnpaaGreatDoor.Ev
/- A range of a place is overwritten; a value is taken with its memory. -/
set_option linter.unusedVariables false
set_option linter.unusedSimpArgs false
namespace Go.Proofs.YtckojpaklblnpaaGreatDoor.Ev
open Go Go.RowKit
theorem nodup_swap {P Y Q L : List Nat} (h : (P ++ (Y ++ Q)).Nodup) (hL : L.Nodup) (ha : ∀ b ∈ L, b ∉ P ++ (Y ++ Q)) : (P ++ (L ++ Q)).Nodup := by
  simp only [List.nodup_append, List.mem_append, ne_eq, not_or] at h ha ⊢
  obtain ⟨h1, ⟨h2, h3, h4⟩, h5⟩ := h
  refine ⟨h1, ⟨hL, h3, fun a h b hb e => (ha a h).2.2 (e ▸ hb)⟩, ?_⟩
  rintro a h b (hb | hb) e
  · exact (ha b hb).1 (e ▸ h)
  · exact h5 a h b (.inr hb) e
theorem Rel.over {w w' : World} {Φ : Bool → Nat → Prop} {σ : F} {tm : List Value} {ρ : Nat → List Value} {B : List Nat} (h : Rel w Φ σ tm ρ B) {k : Nat} {p : List (Nat × Nat)} {off : Nat} {o : O} {row new cs' : List C} {g a : Nat} {cur cur' : Array Value} {e : TypeId} {fz : Nat × Nat} {nv : List Value} {L : List Nat}
    (hl : Ev.look σ.ob k = some o) (hrow : getRow o.cells p = some row) (hp : p ≠ []) (hfit : off + new.length ≤ row.length) (hset : setRow o.cells p (setRange row off new) = some cs')
    (ha : addrAt w o.cells (ρ k) p = some (g, a)) (hg : w.heap[g]? = some (.cells cur e fz)) (hg' : w'.heap[g]? = some (.cells cur' e fz)) (hsize : cur'.size = cur.size)
    (hout : ∀ j, j < a + off ∨ a + off + new.length ≤ j → cur'[j]? = cur[j]?) (hin : (cur'.toList.drop (a + off)).take new.length = nv) (hw : ∀ b, b ≠ g → w'.heap[b]? = w.heap[b]?) (hsz : w'.heap.size = w.heap.size)
    (hnew : IsCs w' Φ new nv L) (hL : Loose w Φ B L) :
    ∃ B' Y vs, Rel w' Φ { sl := killAts k p off new.length σ.sl, ob := put_ σ.ob k { o with cells := cs' } } tm ρ B' ∧ valsAt w o.cells (ρ k) p = some vs ∧ IsCs w' Φ ((row.drop off).take new.length) ((vs.drop off).take new.length) Y ∧ Loose w' Φ B' Y ∧ (∀ b ∈ B', b ∈ B ∨ b ∈ L) ∧ (∀ b ∈ Y, b ∈ B) ∧ g ∈ B := by
  obtain ⟨X0, Bk, Y0, rfl, e2, e3, e4, e5⟩ := IsOb.focus h.obs h.keys hl
  have hndk : Bk.Nodup := by have := h.nd; simp only [List.nodup_append] at this; exact this.2.1.1
  obtain ⟨g9, a9, cur9, e9, fz9, X1, Br, Y1, rv, f1, f2, rfl, f4, f5, f6, f7, f8, f9, f10⟩ := place p o.cells (ρ k) Bk row e2 hndk hrow hp
  rw [f1] at ha
  simp only [Option.some.injEq, Prod.mk.injEq] at ha
  obtain ⟨rfl, rfl⟩ := ha
  rw [f5] at hg
  simp only [Option.some.injEq, Obj.cells.injEq] at hg
  obtain ⟨rfl, rfl, rfl⟩ := hg
  have hnd := h.nd
  have hΦg : ∀ x, ¬Φ x g9 := h.disj g9 (by simp [f4])
  have hro : ∀ x b, Φ x b → w'.heap[b]? = w.heap[b]? := fun x b hb => hw b (by rintro rfl; exact hΦg x hb)
  have hgX0 : g9 ∉ X0 := by
    intro hc
    simp only [List.nodup_append, List.mem_append, ne_eq] at hnd
    exact hnd.2.2 g9 hc g9 (.inl (.inl f4)) rfl
  have hgr : g9 ∉ Br ++ Y1 := by
    intro hc
    simp only [List.nodup_append] at hndk
    exact hndk.2.2 g9 f4 g9 (by simpa using hc) rfl
  have hgY0 : g9 ∉ Y0 := by
    intro hc
    simp only [List.nodup_append, List.mem_append, ne_eq] at hnd
    exact hnd.2.1.2.2 g9 (.inl f4) g9 hc rfl
  have hrowW : IsCs w' Φ row rv Br := f9.keep ⟨fun _ _ h => h, hro, fun b hb => hw b (by rintro rfl; exact hgr (by simp [hb]))⟩
  obtain ⟨X, Y, Z, rfl, q1, q2⟩ := hrowW.setRange hnew hfit
  have hnvl : nv.length = new.length := hnew.length
  have hvals : (cur'.toList.drop a9).take row.length = rv.take off ++ nv ++ rv.drop (off + nv.length) := by
    subst f8
    rw [hnvl, ← hin]
    have c1 : (cur'.toList.drop a9).take off = ((cur9.toList.drop a9).take row.length).take off := by
      rw [List.take_take, Nat.min_eq_left (by omega)]
      exact slice_ext (o := a9 + off) (m := a9 + off + new.length) hout (.inl (Nat.le_refl _))
    have c2 : ((cur9.toList.drop a9).take row.length).drop (off + new.length) = (cur'.toList.drop (a9 + (off + new.length))).take (row.length - (off + new.length)) := by
      rw [List.drop_take, List.drop_drop]
      exact (slice_ext (o := a9 + off) (m := a9 + off + new.length) hout (.inr (by omega))).symm
    rw [← c1, c2]
    have c3 : ∀ (l : List Value) (x y z : Nat), x + y ≤ z → l.take z = l.take x ++ ((l.drop x).take y ++ (l.drop (x + y)).take (z - (x + y))) := by
      intro l x y z hz
      have hz2 : z = x + (y + (z - (x + y))) := by omega
      conv => lhs; rw [hz2, List.take_add, List.take_add, List.drop_drop]
    have c4 := c3 (cur'.toList.drop a9) off new.length row.length hfit
    rw [List.drop_drop, List.drop_drop] at c4
    rw [c4, List.append_assoc]
  have hcells := f10 w' Φ cur' (setRange row off new) (X ++ (L ++ Z)) cs' ⟨fun _ _ h => h, hro, fun b hb hne => hw b hne⟩ hg' hsize (fun j hj => hout j (by omega)) (by rw [hvals]; exact q2) (setRange_length hfit) hset
  have hob := e5 w' Φ { o with cells := cs' } _ ⟨fun _ _ h => h, hro, fun b hb => hw b (by rintro rfl; rcases List.mem_append.mp hb with hb | hb; exact hgX0 hb; exact hgY0 hb)⟩ hcells
  have hB : X0 ++ (X1 ++ (X ++ (Y ++ Z) ++ Y1) ++ Y0) = (X0 ++ (X1 ++ X)) ++ (Y ++ (Z ++ (Y1 ++ Y0))) := by simp [List.append_assoc]
  have hB' : X0 ++ (X1 ++ (X ++ (L ++ Z) ++ Y1) ++ Y0) = (X0 ++ (X1 ++ X)) ++ (L ++ (Z ++ (Y1 ++ Y0))) := by simp [List.append_assoc]
  have hnd' : (X0 ++ (X1 ++ (X ++ (L ++ Z) ++ Y1) ++ Y0)).Nodup := by
    rw [hB'] 
    rw [hB] at hnd
    exact nodup_swap hnd hL.nd (fun b hb => by rw [← hB]; exact hL.apart b hb)
  have hsub : ∀ b ∈ X0 ++ (X1 ++ (X ++ (L ++ Z) ++ Y1) ++ Y0), b ∈ X0 ++ (X1 ++ (X ++ (Y ++ Z) ++ Y1) ++ Y0) ∨ b ∈ L := by
    intro b hb
    rw [hB'] at hb
    rw [hB]
    simp only [List.mem_append] at hb ⊢
    rcases hb with (h | h | h) | h | h | h | h <;> simp [h]
  have hY : ∀ b ∈ Y, b ∈ X0 ++ (X1 ++ (X ++ (Y ++ Z) ++ Y1) ++ Y0) := fun b hb => by simp [hb]
  have hro' : ∀ x b, Φ x b → w'.heap[b]? = w.heap[b]? := hro
  refine ⟨_, Y, _, ⟨hob, hnd', ?_, ?_, ?_, ?_, ⟨h.sub.1, h.sub.2.next (fun _ h => h) (fun b hb => hro false b hb)⟩, ?_⟩, f2, ?_, ⟨?_, ?_, ?_, ?_⟩, hsub, hY, by simp [f4]⟩
  · rw [put_keys]; exact h.keys
  · intro b hb x
    rcases hsub b hb with hb | hb
    · exact h.disj b hb x
    · exact hL.disj b hb x
  · intro b hb
    rw [hsz]
    rcases hsub b hb with hb | hb
    · exact h.lt b hb
    · exact hL.lt b hb
  · intro x b hb
    rw [hsz]
    exact h.ltΦ x b hb
  · have C := carry_write (o1 := { o with cells := cs' }) h.obs h.keys h.nd (fun _ _ h => h) hro (fun b hb hne => hw b hne) hl hrow hp f1 f5 hg' hsize hout hfit hset
    exact C.slots σ.sl tm h.slots
  · subst f8; exact q1
  · rw [hB] at hnd
    simp only [List.nodup_append] at hnd
    exact hnd.2.1.1
  · intro b hb hb'
    rw [hB'] at hb'
    rw [hB] at hnd
    have hnL : b ∉ L := fun hbl => hL.apart b hbl (hY b hb)
    simp only [List.nodup_append, List.mem_append, ne_eq] at hnd
    simp only [List.mem_append] at hb'
    rcases hb' with h | h | h
    · exact hnd.2.2 b h b (.inl hb) rfl
    · exact hnL h
    · exact hnd.2.1.2.2 b hb b h rfl
  · intro b hb
    rw [hsz]
    exact h.lt b (hY b hb)
  · intro b hb
    exact h.disj b (hY b hb)
theorem Rel.over0 {w w' : World} {Φ : Bool → Nat → Prop} {σ : F} {tm : List Value} {ρ : Nat → List Value} {B : List Nat} (h : Rel w Φ σ tm ρ B) {k : Nat} {p : List (Nat × Nat)} {off : Nat} {o : O} {row new cs' : List C} {g a : Nat} {cur cur' : Array Value} {e : TypeId} {fz : Nat × Nat} {nv : List Value} {L : List Nat}
    (hl : Ev.look σ.ob k = some o) (hrow : getRow o.cells p = some row) (hp : p ≠ []) (hfit : off + new.length ≤ row.length) (hset : setRow o.cells p (setRange row off new) = some cs')
    (ha : addrAt w o.cells (ρ k) p = some (g, a)) (hg : w.heap[g]? = some (.cells cur e fz)) (hg' : w'.heap[g]? = some (.cells cur' e fz)) (hsize : cur'.size = cur.size) (hsm : cur' = cur)
    (hout : ∀ j, j < a + off ∨ a + off + new.length ≤ j → cur'[j]? = cur[j]?) (hin : (cur'.toList.drop (a + off)).take new.length = nv) (hw : ∀ b, b ≠ g → w'.heap[b]? = w.heap[b]?) (hsz : w'.heap.size = w.heap.size)
    (hnew : IsCs w' Φ new nv L) (hL : Loose w Φ B L) :
    ∃ B' Y vs, Rel w' Φ { sl := killThrus k p off new.length σ.sl, ob := put_ σ.ob k { o with cells := cs' } } tm ρ B' ∧ valsAt w o.cells (ρ k) p = some vs ∧ IsCs w' Φ ((row.drop off).take new.length) ((vs.drop off).take new.length) Y ∧ Loose w' Φ B' Y ∧ (∀ b ∈ B', b ∈ B ∨ b ∈ L) ∧ (∀ b ∈ Y, b ∈ B) ∧ g ∈ B := by
  obtain ⟨X0, Bk, Y0, rfl, e2, e3, e4, e5⟩ := IsOb.focus h.obs h.keys hl
  have hndk : Bk.Nodup := by have := h.nd; simp only [List.nodup_append] at this; exact this.2.1.1
  obtain ⟨g9, a9, cur9, e9, fz9, X1, Br, Y1, rv, f1, f2, rfl, f4, f5, f6, f7, f8, f9, f10⟩ := place p o.cells (ρ k) Bk row e2 hndk hrow hp
  rw [f1] at ha
  simp only [Option.some.injEq, Prod.mk.injEq] at ha
  obtain ⟨rfl, rfl⟩ := ha
  rw [f5] at hg
  simp only [Option.some.injEq, Obj.cells.injEq] at hg
  obtain ⟨rfl, rfl, rfl⟩ := hg
  have hnd := h.nd
  have hΦg : ∀ x, ¬Φ x g9 := h.disj g9 (by simp [f4])
  have hro : ∀ x b, Φ x b → w'.heap[b]? = w.heap[b]? := fun x b hb => hw b (by rintro rfl; exact hΦg x hb)
  have hgX0 : g9 ∉ X0 := by
    intro hc
    simp only [List.nodup_append, List.mem_append, ne_eq] at hnd
    exact hnd.2.2 g9 hc g9 (.inl (.inl f4)) rfl
  have hgr : g9 ∉ Br ++ Y1 := by
    intro hc
    simp only [List.nodup_append] at hndk
    exact hndk.2.2 g9 f4 g9 (by simpa using hc) rfl
  have hgY0 : g9 ∉ Y0 := by
    intro hc
    simp only [List.nodup_append, List.mem_append, ne_eq] at hnd
    exact hnd.2.1.2.2 g9 (.inl f4) g9 hc rfl
  have hrowW : IsCs w' Φ row rv Br := f9.keep ⟨fun _ _ h => h, hro, fun b hb => hw b (by rintro rfl; exact hgr (by simp [hb]))⟩
  obtain ⟨X, Y, Z, rfl, q1, q2⟩ := hrowW.setRange hnew hfit
  have hnvl : nv.length = new.length := hnew.length
  have hvals : (cur'.toList.drop a9).take row.length = rv.take off ++ nv ++ rv.drop (off + nv.length) := by
    subst f8
    rw [hnvl, ← hin]
    have c1 : (cur'.toList.drop a9).take off = ((cur9.toList.drop a9).take row.length).take off := by
      rw [List.take_take, Nat.min_eq_left (by omega)]
      exact slice_ext (o := a9 + off) (m := a9 + off + new.length) hout (.inl (Nat.le_refl _))
    have c2 : ((cur9.toList.drop a9).take row.length).drop (off + new.length) = (cur'.toList.drop (a9 + (off + new.length))).take (row.length - (off + new.length)) := by
      rw [List.drop_take, List.drop_drop]
      exact (slice_ext (o := a9 + off) (m := a9 + off + new.length) hout (.inr (by omega))).symm
    rw [← c1, c2]
    have c3 : ∀ (l : List Value) (x y z : Nat), x + y ≤ z → l.take z = l.take x ++ ((l.drop x).take y ++ (l.drop (x + y)).take (z - (x + y))) := by
      intro l x y z hz
      have hz2 : z = x + (y + (z - (x + y))) := by omega
      conv => lhs; rw [hz2, List.take_add, List.take_add, List.drop_drop]
    have c4 := c3 (cur'.toList.drop a9) off new.length row.length hfit
    rw [List.drop_drop, List.drop_drop] at c4
    rw [c4, List.append_assoc]
  have hcells := f10 w' Φ cur' (setRange row off new) (X ++ (L ++ Z)) cs' ⟨fun _ _ h => h, hro, fun b hb hne => hw b hne⟩ hg' hsize (fun j hj => hout j (by omega)) (by rw [hvals]; exact q2) (setRange_length hfit) hset
  have hob := e5 w' Φ { o with cells := cs' } _ ⟨fun _ _ h => h, hro, fun b hb => hw b (by rintro rfl; rcases List.mem_append.mp hb with hb | hb; exact hgX0 hb; exact hgY0 hb)⟩ hcells
  have hB : X0 ++ (X1 ++ (X ++ (Y ++ Z) ++ Y1) ++ Y0) = (X0 ++ (X1 ++ X)) ++ (Y ++ (Z ++ (Y1 ++ Y0))) := by simp [List.append_assoc]
  have hB' : X0 ++ (X1 ++ (X ++ (L ++ Z) ++ Y1) ++ Y0) = (X0 ++ (X1 ++ X)) ++ (L ++ (Z ++ (Y1 ++ Y0))) := by simp [List.append_assoc]
  have hnd' : (X0 ++ (X1 ++ (X ++ (L ++ Z) ++ Y1) ++ Y0)).Nodup := by
    rw [hB'] 
    rw [hB] at hnd
    exact nodup_swap hnd hL.nd (fun b hb => by rw [← hB]; exact hL.apart b hb)
  have hsub : ∀ b ∈ X0 ++ (X1 ++ (X ++ (L ++ Z) ++ Y1) ++ Y0), b ∈ X0 ++ (X1 ++ (X ++ (Y ++ Z) ++ Y1) ++ Y0) ∨ b ∈ L := by
    intro b hb
    rw [hB'] at hb
    rw [hB]
    simp only [List.mem_append] at hb ⊢
    rcases hb with (h | h | h) | h | h | h | h <;> simp [h]
  have hY : ∀ b ∈ Y, b ∈ X0 ++ (X1 ++ (X ++ (Y ++ Z) ++ Y1) ++ Y0) := fun b hb => by simp [hb]
  have hro' : ∀ x b, Φ x b → w'.heap[b]? = w.heap[b]? := hro
  refine ⟨_, Y, _, ⟨hob, hnd', ?_, ?_, ?_, ?_, ⟨h.sub.1, h.sub.2.next (fun _ h => h) (fun b hb => hro false b hb)⟩, ?_⟩, f2, ?_, ⟨?_, ?_, ?_, ?_⟩, hsub, hY, by simp [f4]⟩
  · rw [put_keys]; exact h.keys
  · intro b hb x
    rcases hsub b hb with hb | hb
    · exact h.disj b hb x
    · exact hL.disj b hb x
  · intro b hb
    rw [hsz]
    rcases hsub b hb with hb | hb
    · exact h.lt b hb
    · exact hL.lt b hb
  · intro x b hb
    rw [hsz]
    exact h.ltΦ x b hb
  · have C := carry_swap (o1 := { o with cells := cs' }) h.obs h.keys h.nd (fun _ _ h => h) hro (fun b hb hne => hw b hne) hl hrow hp f1 f5 hg' hsize hout hfit hset hsm
    exact C.slots σ.sl tm h.slots
  · subst f8; exact q1
  · rw [hB] at hnd
    simp only [List.nodup_append] at hnd
    exact hnd.2.1.1
  · intro b hb hb'
    rw [hB'] at hb'
    rw [hB] at hnd
    have hnL : b ∉ L := fun hbl => hL.apart b hbl (hY b hb)
    simp only [List.nodup_append, List.mem_append, ne_eq] at hnd
    simp only [List.mem_append] at hb'
    rcases hb' with h | h | h
    · exact hnd.2.2 b h b (.inl hb) rfl
    · exact hnL h
    · exact hnd.2.1.2.2 b hb b h rfl
  · intro b hb
    rw [hsz]
    exact h.lt b (hY b hb)
  · intro b hb
    exact h.disj b (hY b hb)
end Go.Proofs.YtckojpaklblnpaaGreatDoor.Ev
/- A value is taken with its memory; a value out of parts. -/
set_option linter.unusedVariables false
set_option linter.unusedSimpArgs false
namespace Go.Proofs.YtckojpaklblnpaaGreatDoor.Ev
open Go Go.RowKit
theorem litC_is {w : World} {Φ : Bool → Nat → Prop} {b : Bool} {t : T} {v : Value} (h : IsT w (Φ b) t v) : IsC w Φ (litC b t) v [] := by
  cases t with
  | lit x =>
    simp only [IsT] at h
    simp only [litC, IsC, IsO]
    exact ⟨h.1, h.2, trivial⟩
  | sl sz rows =>
    simp only [litC, IsC]
    exact ⟨trivial, h⟩
theorem litCs_is {w : World} {Φ : Bool → Nat → Prop} {b : Bool} : ∀ {ts : List T} {vs : List Value}, IsTs w (Φ b) ts vs → IsCs w Φ (ts.map (litC b)) vs []
  | [], vs, h => by simp only [IsTs] at h; simp only [List.map_nil, IsCs]; exact ⟨h, trivial⟩
  | t :: ts, vs, h => by
    simp only [IsTs] at h
    obtain ⟨v, vs', rfl, h2, h3⟩ := h
    simp only [List.map_cons, IsCs]
    exact ⟨v, vs', [], [], rfl, rfl, litC_is h2, litCs_is h3⟩
theorem vw_cells {w : World} {Φ : Bool → Nat → Prop} {cs : List C} {vals : List Value} {B : List Nat} {ag : Bool} {v : Value} (hc : IsCs w Φ cs vals B) (h : if ag then v = .agg vals.toArray else vals = [v]) : v.cells.toList = vals := by
  cases ag with
  | true =>
    simp only [if_true] at h
    subst h
    simp [Value.cells]
  | false =>
    simp only [Bool.false_eq_true, if_false] at h
    subst h
    cases cs with
    | nil => simp [IsCs] at hc
    | cons c cs =>
      simp only [IsCs] at hc
      obtain ⟨v', vs', B1, B2, e, _, hC, _⟩ := hc
      simp only [List.cons.injEq] at e
      rw [e.1]
      rw [one_cells hC.one]
theorem take_is {w : World} {Φ : Bool → Nat → Prop} {σ σ' : F} {tm : List Value} {ρ : Nat → List Value} {B : List Nat} (h : Rel w Φ σ tm ρ B) {s : S} {v : Value} {cs : List C} (ht : σ.take s = some (cs, σ')) (hs : SlotR w Φ σ.ob ρ s v) :
    ∃ B' L, Rel w Φ σ' tm ρ B' ∧ IsCs w Φ cs v.cells.toList L ∧ Loose w Φ B' L ∧ (∀ b ∈ B', b ∈ B) ∧ (∀ b ∈ L, b ∈ B) := by
  unfold F.take at ht
  split at ht
  · simp only [Option.some.injEq, Prod.mk.injEq] at ht
    obtain ⟨rfl, rfl⟩ := ht
    simp only [SlotR] at hs
    obtain ⟨rfl, h1⟩ := hs
    refine ⟨B, [], h, ?_, Loose.nil, fun _ h => h, by simp⟩
    rw [one_cells h1]
    simp only [IsCs, IsC, IsO]
    exact ⟨_, [], [], [], rfl, rfl, ⟨rfl, h1, rfl⟩, rfl, rfl⟩
  · simp only [Option.some.injEq, Prod.mk.injEq] at ht
    obtain ⟨rfl, rfl⟩ := ht
    simp only [SlotR] at hs
    refine ⟨B, [], h, ?_, Loose.nil, fun _ h => h, by simp⟩
    rw [one_cells hs.one]
    simp only [IsCs]
    exact ⟨_, [], [], [], rfl, rfl, litC_is hs, rfl, rfl⟩
  · simp only [Option.some.injEq, Prod.mk.injEq] at ht
    obtain ⟨rfl, rfl⟩ := ht
    simp only [SlotR] at hs
    obtain ⟨vs, rfl, h2⟩ := hs
    exact ⟨B, [], h, litCs_is h2, Loose.nil, fun _ h => h, by simp⟩
  · simp only [Option.some.injEq, Prod.mk.injEq] at ht
    obtain ⟨rfl, rfl⟩ := ht
    simp only [SlotR] at hs
    subst hs
    refine ⟨B, [], h, ?_, Loose.nil, fun _ h => h, by simp⟩
    rw [one_cells (one_slice _ _ _)]
    simp only [IsCs, IsC, IsO]
    exact ⟨_, [], [], [], rfl, rfl, .inl ⟨rfl, rfl, rfl⟩, rfl, rfl⟩
  · rename_i k p off n ag
    split at ht
    · rename_i o hl
      split at ht
      · rename_i cs0 hc
        simp only [SlotR] at hs
        obtain ⟨o1, vs, q1, q2, q3, q4⟩ := hs
        rw [hl] at q1; cases q1
        obtain ⟨o2, vs2, Bc, c1, c2, c3, c4, c5, c6, c7⟩ := h.cells hc
        rw [hl] at c1; cases c1
        rw [q2] at c2; cases c2
        have hcells := vw_cells c5 q4
        rw [hcells]
        split at ht
        · rename_i hf
          simp only [Option.some.injEq, Prod.mk.injEq] at ht
          obtain ⟨rfl, rfl⟩ := ht
          have := copy_blocks c5 hf
          subst this
          exact ⟨B, [], h, c5, Loose.nil, fun _ h => h, by simp⟩
        · split at ht
          · rename_i hw
            simp only [Bool.and_eq_true, Bool.not_eq_true', List.isEmpty_iff, decide_eq_true_eq] at hw
            obtain ⟨⟨⟨_, rfl⟩, rfl⟩, rfl⟩ := hw
            simp only [Option.some.injEq, Prod.mk.injEq] at ht
            obtain ⟨rfl, rfl⟩ := ht
            obtain ⟨B', h1, h2, h3⟩ := h.del k
            obtain ⟨Bk, h4, h5, h6⟩ := h3 o hl
            obtain ⟨o3, r, d1, d2, d3, d4⟩ := cells_some hc
            rw [hl] at d1; cases d1
            simp only [getRow, Option.some.injEq] at d2
            subst d2
            simp only [valsAt, Option.some.injEq] at q2
            subst q2
            have e1 : cs0 = o.cells := by rw [d4]; simp
            have e2 : ((ρ k).drop 0).take o.cells.length = ρ k := by
              rw [List.drop_zero, ← h4.length, List.take_length]
            rw [e1, e2]
            exact ⟨B', Bk, h1, h4, h5, fun b hb => h2.subset hb, h6⟩
          · split at ht
            · cases ht
            · rename_i hp0
              simp only [List.isEmpty_iff] at hp0
              split at ht
              · rename_i r hr
                split at ht
                · rename_i cs' hset
                  simp only [Option.some.injEq, Prod.mk.injEq] at ht
                  obtain ⟨rfl, rfl⟩ := ht
                  obtain ⟨g, a, cur, et, fz, a1, a2, a3, a4, a5⟩ := c7 hp0
                  obtain ⟨o3, r', d1, d2, d3, d4⟩ := cells_some hc
                  rw [hl] at d1; cases d1
                  rw [hr] at d2; cases d2
                  have hlen : (cs0.map fun c => if c.copy then c else C.hole).length = n := by simp [c6]
                  have hov := h.over (w' := w) (new := cs0.map fun c => if c.copy then c else C.hole) (nv := (vs.drop off).take n) (L := []) hl hr hp0 (by rw [hlen]; exact d3) hset a1 a2 a2 rfl (fun _ _ => rfl) (by rw [hlen]; exact a5.symm) (fun _ _ => rfl) rfl (holes_copy c5) Loose.nil
                  rw [hlen] at hov
                  obtain ⟨B', Y, vs', r1, r2, r3, r4, r5, r6, _⟩ := hov
                  rw [q2] at r2; cases r2
                  rw [← d4] at r3
                  exact ⟨B', Y, r1, r3, r4, fun b hb => (r5 b hb).elim (fun h => h) (by simp), r6⟩
                · cases ht
              · cases ht
      · cases ht
    · cases ht
  · cases ht
end Go.Proofs.YtckojpaklblnpaaGreatDoor.Ev
/- A store. -/
set_option linter.unusedVariables false
set_option linter.unusedSimpArgs false
namespace Go.Proofs.YtckojpaklblnpaaGreatDoor.Ev
open Go Go.RowKit
theorem setCell_heap {w : World} {g o : Nat} {v : Value} {cur : Array Value} {e : TypeId} {fz : Nat × Nat} (hg : w.heap[g]? = some (.cells cur e fz)) :
    (w.setCell ⟨g, o, none⟩ v).heap[g]? = some (.cells (cur.setIfInBounds o v) e fz) ∧ (∀ b, b ≠ g → (w.setCell ⟨g, o, none⟩ v).heap[b]? = w.heap[b]?) ∧ (w.setCell ⟨g, o, none⟩ v).heap.size = w.heap.size := by
  refine ⟨?_, ?_, ?_⟩
  · simp [World.setCell, Array.getElem?_modify, hg]
  · intro b hb
    simp [World.setCell, Array.getElem?_modify, Ne.symm hb]
  · simp [World.setCell]
theorem setCells_heap {g : Nat} {e : TypeId} {fz : Nat × Nat} : ∀ (vs : List Value) (o : Nat) (w : World) (cur : Array Value), w.heap[g]? = some (.cells cur e fz) → o + vs.length ≤ cur.size →
    ∃ cur', (w.setCells g o vs).heap[g]? = some (.cells cur' e fz) ∧ cur'.size = cur.size ∧ (∀ j, j < o ∨ o + vs.length ≤ j → cur'[j]? = cur[j]?) ∧ (cur'.toList.drop o).take vs.length = vs ∧
      (∀ b, b ≠ g → (w.setCells g o vs).heap[b]? = w.heap[b]?) ∧ (w.setCells g o vs).heap.size = w.heap.size ∧ (w.setCells g o vs).os = w.os ∧ (w.setCells g o vs).tape = w.tape ∧ (w.setCells g o vs).output = w.output
  | [], o, w, cur, hg, hl => ⟨cur, hg, rfl, fun _ _ => rfl, by simp, fun _ _ => rfl, rfl, rfl, rfl, rfl⟩
  | v :: vs, o, w, cur, hg, hl => by
    obtain ⟨h1, h2, h3⟩ := setCell_heap (o := o) (v := v) hg
    simp only [List.length_cons] at hl
    obtain ⟨cur', k1, k2, k3, k4, k5, k6, k7, k8, k9⟩ := setCells_heap vs (o + 1) (w.setCell ⟨g, o, none⟩ v) (cur.setIfInBounds o v) h1 (by simp; omega)
    refine ⟨cur', k1, by simpa using k2, ?_, ?_, fun b hb => (k5 b hb).trans (h2 b hb), k6.trans h3, k7, k8, k9⟩
    · intro j hj
      simp only [List.length_cons] at hj
      rw [k3 j (by omega), Array.getElem?_setIfInBounds, if_neg (by omega)]
    · have e1 : cur'[o]? = some v := by
        rw [k3 o (.inl (Nat.lt_succ_self _)), Array.getElem?_setIfInBounds]
        simp
        omega
      have e2 : cur'.toList[o]? = some v := by simpa using e1
      obtain ⟨hlt, e3⟩ := List.getElem?_eq_some_iff.mp e2
      rw [List.drop_eq_getElem_cons hlt, List.length_cons, List.take_succ_cons, k4, e3]
theorem IsCs.ones {w : World} {Φ : Bool → Nat → Prop} : ∀ {cs : List C} {vs : List Value} {B : List Nat}, IsCs w Φ cs vs B → ∀ v ∈ vs, v.oneCell' = true
  | [], vs, B, h => by simp only [IsCs] at h; rw [h.1]; simp
  | c :: cs, vs, B, h => by
    simp only [IsCs] at h
    obtain ⟨v, vs', B1, B2, rfl, rfl, h3, h4⟩ := h
    intro x hx
    rcases List.mem_cons.mp hx with rfl | hx
    · exact h3.one
    · exact h4.ones x hx
section
variable {P : Program} {e : Env} {σ : F} {d : Option Tmp} {ty : TypeId} {pos : String} {after : Array Edge} {gd : Option (Nat × Bool)}
theorem run_storeAt (he : EnvOk P e) {t : TypeId} {v : TV} (h : e.ty t = some v) {w : World} {g a : Nat} {cur : Array Value} {et : TypeId} {fz : Nat × Nat} {x : Value} (hx : x.cells.size = v.cells) (hg : w.heap[g]? = some (.cells cur et fz)) (hfz : ∀ j, j < cur.size → ¬(fz.1 ≤ j ∧ j < fz.2)) (hs : a + v.cells ≤ cur.size) (h1 : ∀ y ∈ x.cells.toList, y.oneCell' = true) :
    (Instr.storeAt t (.pointer (some ⟨g, a, none⟩)) x).run P w = .ok () (w.setCells g a x.cells.toList) := by
  have hlen : x.cells.toList.length = v.cells := by simpa using hx
  have := run_storeCells_cells (P := P) g a x.cells.toList 0 w (fun j hj => by simp only [World.cell?, hg]; simp; omega) (fun j hj => by
    have := hfz (a + 0 + j) (by omega)
    simp only [World.frozen?, hg]
    obtain ⟨lo, hi⟩ := fz
    simp only at this ⊢
    simp
    omega) h1
  simp only [Nat.add_zero] at this
  simp only [Instr.storeAt, Instr.sureAddr, storeVar, Sem.run_bind, Sem.run_pure, Result.andThen_ok, he.run_sizeOf h, hx, ne_eq, not_true_eq_false, if_false, this]
theorem write_some {σ σ' : F} {k : Nat} {p : List (Nat × Nat)} {off : Nat} {new : List C} (h : σ.write k p off new = some σ') :
    ∃ o r cs, look σ.ob k = some o ∧ p ≠ [] ∧ getRow o.cells p = some r ∧ off + new.length ≤ r.length ∧ setRow o.cells p (setRange r off new) = some cs ∧ σ' = { sl := killAts k p off new.length σ.sl, ob := put_ σ.ob k { o with cells := cs } } := by
  unfold F.write at h
  cases h1 : look σ.ob k with
  | none => simp [h1] at h
  | some o =>
    simp only [h1] at h
    split at h
    · cases h
    · rename_i hp
      simp only [List.isEmpty_iff] at hp
      cases h2 : getRow o.cells p with
      | none => simp [h2] at h
      | some r =>
        simp only [h2] at h
        split at h
        · rename_i hl
          cases h3 : setRow o.cells p (setRange r off new) with
          | none => simp [h3] at h
          | some cs =>
            simp only [h3, Option.some.injEq] at h
            exact ⟨o, r, cs, rfl, hp, h2, hl, h3, h.symm⟩
        · cases h
theorem swap_some {σ σ' : F} {k : Nat} {p : List (Nat × Nat)} {off : Nat} {new : List C} (h : σ.swap k p off new = some σ') :
    ∃ o r cs, look σ.ob k = some o ∧ p ≠ [] ∧ getRow o.cells p = some r ∧ off + new.length ≤ r.length ∧ setRow o.cells p (setRange r off new) = some cs ∧ σ' = { sl := killThrus k p off new.length σ.sl, ob := put_ σ.ob k { o with cells := cs } } := by
  unfold F.swap at h
  cases h1 : look σ.ob k with
  | none => simp [h1] at h
  | some o =>
    simp only [h1] at h
    split at h
    · cases h
    · rename_i hp
      simp only [List.isEmpty_iff] at hp
      cases h2 : getRow o.cells p with
      | none => simp [h2] at h
      | some r =>
        simp only [h2] at h
        split at h
        · rename_i hl
          cases h3 : setRow o.cells p (setRange r off new) with
          | none => simp [h3] at h
          | some cs =>
            simp only [h3, Option.some.injEq] at h
            exact ⟨o, r, cs, rfl, hp, h2, hl, h3, h.symm⟩
        · cases h
theorem store_is (he : EnvOk P e) {w : World} {Φ : Bool → Nat → Prop} {tm : List Value} {ρ : Nat → List Value} {B L : List Nat} (hR : Rel w Φ σ tm ρ B) {t : TypeId} {v : TV} (h : e.ty t = some v) {k : Nat} {p : List (Nat × Nat)} {off : Nat} {cs : List C} {σ' : F} {a x : Value}
    (ha : SlotR w Φ σ.ob ρ (.ptr k p off) a) (hc : IsCs w Φ cs x.cells.toList L) (hL : Loose w Φ B L) (hcs : cs.length = v.cells) (hw : σ.write k p off cs = some σ') :
    ∃ w' B', (Instr.storeAt t a x).run P w = .ok () w' ∧ Rel w' Φ σ' tm ρ B' ∧ w'.os = w.os ∧ w'.tape = w.tape ∧ w'.output = w.output ∧ w'.heap.size = w.heap.size ∧ (∀ b, b ∉ B → w'.heap[b]? = w.heap[b]?) ∧ (∀ b ∈ B', b ∈ B ∨ b ∈ L) ∧
      ∃ g ad cur' et fz, a = .pointer (some ⟨g, ad + off, none⟩) ∧ w'.heap[g]? = some (.cells cur' et fz) ∧ (cur'.toList.drop (ad + off)).take cs.length = x.cells.toList := by
  obtain ⟨o, r, cs', h1, h2, h3, h4, h5, rfl⟩ := write_some hw
  simp only [SlotR] at ha
  obtain ⟨o', g, ad, q1, q2, rfl⟩ := ha
  rw [h1] at q1; cases q1
  obtain ⟨Bk, hB, hnd, hk⟩ := hR.look h1
  obtain ⟨g9, a9, cur, et, fz, X, Br, Y, rv, f1, f2, f3, f4, f5, f6, f7, f8, f9, _⟩ := place p o.cells (ρ k) Bk r hk hnd h3 h2
  rw [q2] at f1
  simp only [Option.some.injEq, Prod.mk.injEq] at f1
  obtain ⟨rfl, rfl⟩ := f1
  have hgB : g ∈ B := hB g (by rw [f3]; simp [f4])
  have hlen : x.cells.toList.length = cs.length := hc.length
  obtain ⟨cur', s1, s2, s3, s4, s5, s6, s7, s8, s9⟩ := setCells_heap (g := g) x.cells.toList (ad + off) w cur f5 (by omega)
  have hnew : IsCs (w.setCells g (ad + off) x.cells.toList) Φ cs x.cells.toList L := hc.keep ⟨fun _ _ h => h, fun y b hb => s5 b (by rintro rfl; exact hR.disj b hgB y hb), fun b hb => s5 b (by rintro rfl; exact hL.apart b hb hgB)⟩
  obtain ⟨B', Y', vs, r1, _, _, _, r5, _⟩ := hR.over (nv := x.cells.toList) h1 h3 h2 h4 h5 q2 f5 s1 s2 (by intro j hj; exact s3 j (by omega)) (by rw [← hlen]; exact s4) s5 s6 hnew hL
  refine ⟨_, B', run_storeAt he h (by simpa [hcs] using hlen) f5 f6 (by omega) hc.ones, r1, s7, s8, s9, s6, fun b hb => s5 b (by rintro rfl; exact hb hgB), r5, _, _, _, _, _, rfl, s1, by rw [← hlen]; exact s4⟩
theorem take_cells {σ σ' : F} {k off n : Nat} {p : List (Nat × Nat)} {ag : Bool} {cs : List C} (h : σ.take (.vw k p off n ag) = some (cs, σ')) : ∃ cs', σ.cells k p off n = some cs' := by
  unfold F.take at h
  simp only at h
  split at h
  · split at h
    · rename_i cs' hc; exact ⟨cs', hc⟩
    · cases h
  · cases h
theorem constS_ptr (v : Value) {k off : Nat} {p : List (Nat × Nat)} : constS v ≠ .ptr k p off := by
  unfold constS
  split
  · simp
  · split <;> simp
  · split <;> simp
theorem through_self (off n : Nat) : ∀ p : List (Nat × Nat), through p off n p = false
  | [] => rfl
  | (c, i) :: p => by simp only [through, BEq.rfl, Bool.true_and, through_self off n p]
theorem killAts_get (k : Nat) (p : List (Nat × Nat)) (off n : Nat) : ∀ (l : List S) (t : Nat), (killAts k p off n l).getD t .dead = killAt k p off n (l.getD t .dead)
  | [], t => by simp [killAts, killAt]
  | s :: r, 0 => by simp [killAts]
  | s :: r, t + 1 => by simpa [killAts] using killAts_get k p off n r t
theorem rowLen_some {ob : List (Nat × O)} {k : Nat} {p : List (Nat × Nat)} {n : Nat} (h : rowLen ob k p = some n) : ∃ o r, look ob k = some o ∧ getRow o.cells p = some r ∧ r.length = n := by
  unfold rowLen at h
  split at h
  · rename_i o ho
    split at h
    · rename_i r hr
      simp only [Option.some.injEq] at h
      exact ⟨o, r, ho, hr, h⟩
    · cases h
  · cases h
theorem putL_same (tm : List Value) (d : Nat) : putL tm (some d) (tm.getD d Go.undef) = tm := by
  simp only [putL]
  apply List.ext_getElem?
  intro j
  by_cases hj : d = j
  · subst hj
    by_cases hl : d < tm.length
    · rw [List.getElem?_set_self hl, List.getD_eq_getElem?_getD, List.getElem?_eq_getElem hl]; rfl
    · rw [List.getElem?_eq_none (by simpa using hl), List.getElem?_eq_none (by omega)]
  · rw [List.getElem?_set_ne hj]
theorem Rel.storeKeep {w : World} {Φ : Bool → Nat → Prop} {tm : List Value} {ρ : Nat → List Value} {B : List Nat} (h : Rel w Φ σ tm ρ B) (x : Operand) (s : S) {ds : List Deferred} {k : Nat} {p : List (Nat × Nat)} {off n : Nat} (hp : p ≠ []) {g ad : Nat} {cur : Array Value} {et : TypeId} {fz : Nat × Nat}
    (ha : SlotR w Φ σ.ob ρ (.ptr k p off) (.pointer (some ⟨g, ad + off, none⟩))) (hg : w.heap[g]? = some (.cells cur et fz)) (hc : (cur.toList.drop (ad + off)).take n = ((⟨tm.toArray, ds⟩ : Act).eval x).cells.toList)
    (hs : ∀ k q off m, s = .vw k q off m true → ∃ vs, (⟨tm.toArray, ds⟩ : Act).eval x = .agg vs) (hs1 : ∀ k q off m, s = .vw k q off m false → one ((⟨tm.toArray, ds⟩ : Act).eval x)) : Rel w Φ (Ev.storeKeep σ x s k p off n) tm ρ B := by
  unfold Ev.storeKeep
  split
  rotate_left
  · exact h
  rename_i t k0 n0 ag
  split
  rotate_left
  · exact h
  rename_i m hd0 hm
  split
  rotate_left
  · exact h
  rename_i hfit
  obtain ⟨o, r, q1, q2, q3⟩ := rowLen_some hm
  obtain ⟨Bk, _, hnd, hk⟩ := h.look q1
  obtain ⟨rv, Br, p1, _, p3, p4⟩ := hk.path hnd q2
  obtain ⟨g', a', cur', e', fz', p5, p6, _, p7, p8⟩ := p4 hp
  simp only [SlotR] at ha
  obtain ⟨o', g2, a2, a3, a4, a5⟩ := ha
  rw [q1] at a3; cases a3
  rw [p5] at a4
  simp only [Option.some.injEq, Prod.mk.injEq] at a4
  obtain ⟨rfl, rfl⟩ := a4
  simp only [Value.pointer.injEq, Option.some.injEq, Addr.mk.injEq, and_true] at a5
  obtain ⟨rfl, e2⟩ := a5
  have e3 : ad = a' := by omega
  subst e3
  rw [hg] at p6
  simp only [Option.some.injEq, Obj.cells.injEq] at p6
  obtain ⟨rfl, rfl, rfl⟩ := p6
  have hrl : rv.length = m := by rw [p3.length, q3]
  have hval : (rv.drop off).take n = ((⟨tm.toArray, ds⟩ : Act).eval (.tmp t)).cells.toList := by
    rw [← hc, p8, List.drop_take, List.drop_drop, List.take_take]
    congr 1
    omega
  have hx : (⟨tm.toArray, ds⟩ : Act).eval (.tmp t) = tm.getD t Go.undef := by simp [Act.eval]
  have hslot : SlotR w Φ σ.ob ρ (.vw k p off n ag) (tm.getD t Go.undef) := by
    simp only [SlotR]
    refine ⟨o, rv, q1, p1, by omega, ?_⟩
    rw [hval, hx]
    cases ag with
    | true =>
      obtain ⟨vs, hvs⟩ := hs _ _ _ _ rfl
      rw [hx] at hvs
      rw [hvs]
      simp [Value.cells]
    | false =>
      have h1 := hs1 _ _ _ _ rfl
      rw [hx] at h1
      simp only [Bool.false_eq_true, if_false]
      exact one_cells h1
  have := h.put (some t) hslot
  rw [putL_same] at this
  exact this
theorem ok_store (he : EnvOk P e) (t : TypeId) (v : TV) (a x : Operand) (cs : List C) (σ' σ'' : F) (k : Nat) (p : List (Nat × Nat)) (off : Nat) (h : e.ty t = some v) (ht : σ.take (σ.rd x) = some (cs, σ')) (hcs : cs.length = v.cells) (ha : σ'.rd a = .ptr k p off) (hw : σ'.write k p off cs = some σ'') :
    OpOk P ⟨d, .store t a x, ty, pos, after, gd⟩ σ ((storeKeep σ'' x (σ.rd x) k p off cs.length).put d .undef) := by
  intro w Φ tm ρ B ds K Q hR hK
  obtain ⟨B1, L, hR1, hc, hL, hB1, hLB⟩ := take_is hR ht (hR.rd (ds := ds) x)
  have har := hR1.rd (ds := ds) a
  rw [ha] at har
  obtain ⟨w', B', s1, s2, s3, s4, s5, s6, s7, s8, g, ad, cur', et, fz, s9, s10, s11⟩ := store_is he hR1 h har hc hL hcs hw
  have hrd := hR.rd (ds := ds) x
  obtain ⟨o1, r1, cs1, _, hpne, _, _, _, e9⟩ := write_some hw
  have hta : ∃ ta, a = .tmp ta := by
    cases a with
    | tmp ta => exact ⟨ta, rfl⟩
    | const v => simp only [F.rd] at ha; exact absurd ha (constS_ptr v)
    | func f => simp only [F.rd] at ha; cases ha
    | global g => simp only [F.rd] at ha; cases ha
  obtain ⟨ta, rfl⟩ := hta
  have hptr : SlotR w' Φ σ''.ob ρ (.ptr k p off) (.pointer (some ⟨g, ad + off, none⟩)) := by
    have q := s2.slots.get ta
    have e1 : σ''.sl.getD ta .dead = .ptr k p off := by
      rw [e9]
      simp only
      rw [killAts_get]
      have : σ'.sl.getD ta .dead = .ptr k p off := ha
      rw [this]
      simp [killAt, through_self]
    rw [e1] at q
    have e2 : tm.getD ta Go.undef = .pointer (some ⟨g, ad + off, none⟩) := by rw [← s9]; simp [Act.eval]
    rw [e2] at q
    exact q
  have s2 := s2.storeKeep (ds := ds) x (σ.rd x) hpne hptr s10 s11 (fun k q off m e => by
    rw [e] at hrd
    simp only [SlotR] at hrd
    obtain ⟨_, _, _, _, _, e⟩ := hrd
    rw [if_pos trivial] at e
    exact ⟨_, e⟩) (fun k q off m e => by
    rw [e] at hrd
    obtain ⟨cs5, h5⟩ := take_cells (by rw [← e]; exact ht)
    obtain ⟨o6, vs6, Bc, g1, g2, g3, g4, g5, g6, _⟩ := hR.cells h5
    simp only [SlotR, Bool.false_eq_true, if_false] at hrd
    obtain ⟨o7, vs7, q1, q2, q3, q4⟩ := hrd
    rw [g1] at q1; cases q1
    rw [g2] at q2; cases q2
    rw [q4] at g5
    exact g5.ones _ (List.mem_singleton.mpr rfl))
  unfold Oper.wp
  simp only [execOp, Sem.run_bind, s1, Result.andThen_ok, Sem.run_pure]
  rw [Oper.upon_skip, act_put]
  refine hK _ _ Φ ρ B' (s2.put d (by simp only [SlotR])) ⟨s3, s4, s5, by omega, fun b hb hn => s7 b (fun hb1 => hn (hB1 b hb1)), fun b hb => ?_, fun _ _ h => h, fun _ _ h => .inl h, fun _ h => .inl h, fun _ _ => rfl⟩ (Same.refl _ _)
  exact (s8 b hb).elim (fun h => .inl (hB1 b h)) (fun h => .inl (hLB b h))
end
end Go.Proofs.YtckojpaklblnpaaGreatDoor.Ev
/- New blocks: variables, boxes, values built of parts. -/
set_option linter.unusedVariables false
set_option linter.unusedSimpArgs false
namespace Go.Proofs.YtckojpaklblnpaaGreatDoor.Ev
open Go Go.RowKit
theorem alloc_get (w : World) (o : Obj) : (w.alloc o).heap[w.heap.size]? = some o := by
  show (w.heap.push o)[w.heap.size]? = some o
  simp
theorem alloc_old (w : World) (o : Obj) {b : Nat} (h : b < w.heap.size) : (w.alloc o).heap[b]? = w.heap[b]? := by
  show (w.heap.push o)[b]? = w.heap[b]?
  simp [Array.getElem?_push, Nat.ne_of_lt h]
theorem alloc_size (w : World) (o : Obj) : (w.alloc o).heap.size = w.heap.size + 1 := by
  show (w.heap.push o).size = _
  simp
structure Grew (w w' : World) (g : Nat) (o : Obj) : Prop where
  here : g = w.heap.size
  get : w'.heap[g]? = some o
  old : ∀ b, b < w.heap.size → w'.heap[b]? = w.heap[b]?
  size : w'.heap.size = w.heap.size + 1
  os : w'.os = w.os
  tape : w'.tape = w.tape
  output : w'.output = w.output
theorem grew_alloc (w : World) (o : Obj) : Grew w (w.alloc o) w.heap.size o := ⟨rfl, alloc_get w o, fun b h => alloc_old w o h, alloc_size w o, rfl, rfl, rfl⟩
theorem Rel.grew {w w' : World} {Φ : Bool → Nat → Prop} {σ : F} {tm : List Value} {ρ : Nat → List Value} {B : List Nat} {g : Nat} {o : Obj} (h : Rel w Φ σ tm ρ B) (hg : Grew w w' g o) : Rel w' Φ σ tm ρ B :=
  h.keep ⟨fun _ _ h => h, fun x b hb => hg.old b (h.ltΦ x b hb), fun b hb => hg.old b (h.lt b hb)⟩ (by rw [hg.size]; omega)
theorem cells_grew {w w' : World} {Φ : Bool → Nat → Prop} {cs : List C} {vs : List Value} {σ : F} {tm : List Value} {ρ : Nat → List Value} {B L : List Nat} {g : Nat} {o : Obj} (h : Rel w Φ σ tm ρ B) (hL : Loose w Φ B L) (hc : IsCs w Φ cs vs L) (hg : Grew w w' g o) : IsCs w' Φ cs vs L :=
  hc.keep ⟨fun _ _ h => h, fun x b hb => hg.old b (h.ltΦ x b hb), fun b hb => hg.old b (hL.lt b hb)⟩
theorem Loose.grew {w w' : World} {Φ : Bool → Nat → Prop} {σ : F} {tm : List Value} {ρ : Nat → List Value} {B L : List Nat} {g : Nat} {o : Obj} (h : Rel w Φ σ tm ρ B) (hL : Loose w Φ B L) (hg : Grew w w' g o) : Loose w' Φ B (g :: L) where
  nd := by
    rw [List.nodup_cons]
    refine ⟨fun hc => ?_, hL.nd⟩
    have := hL.lt g hc
    rw [hg.here] at this
    omega
  apart b hb hB := by
    rcases List.mem_cons.mp hb with rfl | hb
    · have := h.lt b hB
      rw [hg.here] at this
      omega
    · exact hL.apart b hb hB
  lt b hb := by
    rw [hg.size]
    rcases List.mem_cons.mp hb with rfl | hb
    · rw [hg.here]; omega
    · have := hL.lt b hb; omega
  disj b hb x hx := by
    rcases List.mem_cons.mp hb with rfl | hb
    · have := h.ltΦ x b hx
      rw [hg.here] at this
      omega
    · exact hL.disj b hb x hx
theorem boxed_is {w : World} {Φ : Bool → Nat → Prop} {cs : List C} {xs : List Value} {L : List Nat} {g : Nat} {t : TypeId} (hg : w.heap[g]? = some (.cells xs.toArray t (0, 0))) (hc : IsCs w Φ cs xs L) (hpos : 0 < cs.length) :
    IsCs w Φ [.own cs.length [cs]] [.slice (some ⟨g, 0, none⟩) 1 1] (g :: L) ∧ addrAt w [.own cs.length [cs]] [.slice (some ⟨g, 0, none⟩) 1 1] [(0, 0)] = some (g, 0) ∧ valsAt w [.own cs.length [cs]] [.slice (some ⟨g, 0, none⟩) 1 1] [(0, 0)] = some xs := by
  refine ⟨?_, ?_, ?_⟩
  · simp only [IsCs, IsC]
    refine ⟨_, [], g :: L, [], rfl, by simp, ?_, rfl, rfl⟩
    refine .inr ⟨g, 1, xs.toArray, t, (0, 0), L, rfl, hg, fun i _ hh => by simp at hh, ⟨hpos, Nat.le_refl _⟩, by decide, by simp [hc.length], rfl, ?_⟩
    simp only [IsCRows]
    refine ⟨L, [], by simp, trivial, ?_, rfl⟩
    have : xs.toArray.toList.take cs.length = xs := by simp [← hc.length]
    rw [this]
    exact hc
  · simp [addrAt, stepAt, C.row, C.sz, hg]
  · simp [valsAt, stepAt, C.row, C.sz, hg, ← hc.length]
theorem zero_own {w : World} {v : Value} {t : T} (h : cellT v = some t) : IsO w t v [] := by
  have h1 := cellT_one h
  unfold cellT at h
  split at h <;> simp at h
  · subst h
    simp only [IsO]
    exact .inl ⟨rfl, rfl, rfl⟩
  all_goals
    subst h
    simp only [IsO]
    exact ⟨trivial, h1, trivial⟩
theorem zeros_own {w : World} {Φ : Bool → Nat → Prop} : ∀ {vs : List Value} {ts : List T}, cellsT vs = some ts → IsCs w Φ (ts.map C.ow) vs []
  | [], ts, h => by simp only [cellsT, Option.some.injEq] at h; subst h; simp only [List.map_nil, IsCs]; exact ⟨trivial, trivial⟩
  | v :: vs, ts, h => by
    simp only [cellsT] at h
    cases h1 : cellT v with
    | none => simp [h1] at h
    | some t =>
      cases h2 : cellsT vs with
      | none => simp [h1, h2] at h
      | some ts' =>
        simp only [h1, h2, Option.some.injEq] at h
        subst h
        simp only [List.map_cons, IsCs, IsC]
        exact ⟨v, vs, [], [], rfl, rfl, zero_own h1, zeros_own h2⟩
theorem Rel.boxed {w w' : World} {Φ : Bool → Nat → Prop} {σ : F} {tm : List Value} {ρ : Nat → List Value} {B L : List Nat} {g : Nat} {t : TypeId} {cs : List C} {xs : List Value} (h : Rel w Φ σ tm ρ B) (hL : Loose w Φ B L) (hc : IsCs w Φ cs xs L) (hg : Grew w w' g (.cells xs.toArray t (0, 0))) (hpos : 0 < cs.length) (d : Nat) (bx : Bool) (vr : Bool) :
    ∃ ρ' B', Rel w' Φ ((σ.new (keyOf d 0) { cells := [.own cs.length [cs]], box := bx, var := vr }).put (some d) (.ptr (keyOf d 0) [(0, 0)] 0)) (putL tm (some d) (.pointer (some ⟨g, 0, none⟩))) ρ' B' ∧ (∀ b ∈ B', b ∈ B ∨ b ∈ L ∨ b = g) ∧ Same (some d) ρ ρ' ∧ valsAt w' [.own cs.length [cs]] (ρ' (keyOf d 0)) [(0, 0)] = some xs := by
  have hR' := h.grew hg
  have hL' := hL.grew h hg
  obtain ⟨b1, b2, b3⟩ := boxed_is hg.get (cells_grew h hL hc hg) hpos
  obtain ⟨B', hR, hs⟩ := hR'.new (keyOf d 0) { cells := [.own cs.length [cs]], box := bx, var := vr } _ _ b1 hL'
  refine ⟨_, _, hR.put (some d) ?_, ?_, ?_, by simpa using b3⟩
  · simp only [SlotR]
    refine ⟨{ cells := [.own cs.length [cs]], box := bx, var := vr }, g, 0, by simp [F.new, Ev.look], ?_, rfl⟩
    simpa using b2
  · intro b hb
    rcases List.mem_append.mp hb with hb | hb
    · rcases List.mem_cons.mp hb with rfl | hb
      · exact .inr (.inr rfl)
      · exact .inr (.inl hb)
    · exact .inl (hs.subset hb)
  · intro j hj
    have : j ≠ keyOf d 0 := newKey_keyOf (by decide) hj
    simp [this]
section
variable {P : Program} {e : Env} {σ : F} {ty : TypeId} {pos : String} {after : Array Edge} {gd : Option (Nat × Bool)}
theorem Grew.next {w w' : World} {Φ : Bool → Nat → Prop} {ρ ρ' : Nat → List Value} {B B' : List Nat} {g : Nat} {o : Obj} (hg : Grew w w' g o) (hB : ∀ b ∈ B', b ∈ B ∨ b = g) (hρ : ∀ j, j < 64 → ρ' j = ρ j) : Next w Φ ρ B w' Φ ρ' B' where
  os := hg.os
  tape := hg.tape
  output := hg.output
  size := by rw [hg.size]; omega
  block b hb _ := hg.old b hb
  own b hb := (hB b hb).elim .inl (fun h => .inr (by rw [h, hg.here]; exact Nat.le_refl _))
  mono _ _ h := h
  fresh _ _ h := .inl h
  lent _ h := .inl h
  imp := hρ
theorem ok_alloc (he : EnvOk P e) (t : TypeId) (v : TV) (d : Nat) (h : e.ty t = some v) :
    OpNew P ⟨some d, .alloc t, ty, pos, after, gd⟩ σ ((σ.new (keyOf d 0) { cells := [.own v.cells [v.zero.map .ow]], box := true }).put (some d) (.ptr (keyOf d 0) [(0, 0)] 0)) := by
  intro w Φ tm ρ B ds K Q hR hK
  obtain ⟨z, h1', h2, h3⟩ := he.run_zero h
  have h1 := h1' w
  have hz := zeros_own (w := w) (Φ := Φ) h2
  have hlen : (v.zero.map C.ow).length = v.cells := by rw [← hz.length]; simpa using h3
  have hg := grew_alloc w (.cells z.cells.toList.toArray t (0, 0))
  obtain ⟨ρ', B', hR', hB', hρ', _⟩ := hR.boxed Loose.nil hz hg (by rw [hlen]; exact he.pos h) d true false
  rw [hlen] at hR'
  have hrun : (Instr.alloc t true (.tuple #[])).run P w = .ok (.pointer (some ⟨w.heap.size, 0, none⟩)) (w.alloc (.cells z.cells.toList.toArray t (0, 0))) := by
    simp only [Instr.alloc, Sem.run_bind, h1, Result.andThen_ok, newVar, newRow, run_newObj, Sem.run_pure, Array.toArray_toList]
    rfl
  unfold Oper.wp
  simp only [execOp, Sem.run_bind, hrun, Result.andThen_ok, Sem.run_pure]
  rw [Oper.upon_value, act_put]
  exact hK _ _ _ _ _ hR' (hg.next (fun b hb => (hB' b hb).elim .inl (fun h => h.elim (by simp) .inr)) hρ'.imp) hρ' hg.old
theorem Rel.boxKeep {w : World} {Φ : Bool → Nat → Prop} {σ : F} {tm : List Value} {ρ : Nat → List Value} {B : List Nat} {d n : Nat} {p : Value} (x : Operand) (s : S) {ds : List Deferred} {o : O}
    (h : Rel w Φ σ (putL tm (some d) p) ρ B) (ho : Ev.look σ.ob (keyOf d 0) = some o) (hv : valsAt w o.cells (ρ (keyOf d 0)) [(0, 0)] = some ((⟨tm.toArray, ds⟩ : Act).eval x).cells.toList) (hn : n = ((⟨tm.toArray, ds⟩ : Act).eval x).cells.toList.length)
    (hs : ∀ k q off m, s = .vw k q off m true → ∃ vs, (⟨tm.toArray, ds⟩ : Act).eval x = .agg vs) : Rel w Φ (Ev.boxKeep σ d x s n) (putL tm (some d) p) ρ B := by
  unfold Ev.boxKeep
  split
  · rename_i t k q off m
    split
    · exact h
    · rename_i htd
      obtain ⟨vs, hvs⟩ := hs k q off m rfl
      rw [hvs] at hv hn
      have hslot : SlotR w Φ σ.ob ρ (.vw (keyOf d 0) [(0, 0)] 0 n true) (.agg vs) := by
        simp only [SlotR]
        refine ⟨o, _, ho, hv, ?_, ?_⟩
        · rw [hn]; simp
        · rw [if_pos trivial, hn, List.drop_zero, List.take_of_length_le (Nat.le_refl _)]; simp [Value.cells]
      have h1 := h.put (some t) hslot
      have e : putL (putL tm (some d) p) (some t) (.agg vs) = putL tm (some d) p := by
        simp only [putL]
        by_cases ht : t < tm.length
        · have : tm[t]? = some (.agg vs) := by
            simp only [Act.eval] at hvs
            rw [← hvs]
            simp [ht]
          apply List.ext_getElem?
          intro j
          by_cases hj : t = j
          · subst hj
            rw [List.getElem?_set_self (by simpa using ht), List.getElem?_set_ne (Ne.symm htd), this]
          · rw [List.getElem?_set_ne hj]
        · rw [List.set_eq_of_length_le (by simpa using Nat.le_of_not_lt ht)]
      rw [e] at h1
      exact h1
  · exact h
theorem ok_box (t : TypeId) (x : Operand) (d : Nat) (cs : List C) (σ' : F) (ht : σ.take (σ.rd x) = some (cs, σ')) (hpos : 0 < cs.length) :
    OpNew P ⟨some d, .box t x, ty, pos, after, gd⟩ σ (boxKeep ((σ'.new (keyOf d 0) { cells := [.own cs.length [cs]], box := true }).put (some d) (.ptr (keyOf d 0) [(0, 0)] 0)) d x (σ.rd x) cs.length) := by
  intro w Φ tm ρ B ds K Q hR hK
  have hrd := hR.rd (ds := ds) x
  obtain ⟨B1, L, hR1, hc, hL, hB1, hLB⟩ := take_is hR ht hrd
  have hg := grew_alloc w (.cells ((⟨tm.toArray, ds⟩ : Act).eval x).cells.toList.toArray t (0, 0))
  obtain ⟨ρ', B', hR', hB', hρ', hvals⟩ := hR1.boxed hL hc hg hpos d true false
  have hR' := hR'.boxKeep (n := cs.length) (o := { cells := [.own cs.length [cs]], box := true }) (ds := ds) x (σ.rd x) (by simp [F.put, F.new, Ev.look]) hvals hc.length.symm (fun k q off m e => by
    rw [e] at hrd
    simp only [SlotR] at hrd
    obtain ⟨_, _, _, _, _, h⟩ := hrd
    rw [if_pos trivial] at h
    exact ⟨_, h⟩)
  have hrun : (Instr.box t ((⟨tm.toArray, ds⟩ : Act).eval x)).run P w = .ok (.pointer (some ⟨w.heap.size, 0, none⟩)) (w.alloc (.cells ((⟨tm.toArray, ds⟩ : Act).eval x).cells.toList.toArray t (0, 0))) := by
    simp only [Instr.box, Sem.run_bind, Result.andThen_ok, newVar, newRow, run_newObj, Sem.run_pure, Array.toArray_toList]
    rfl
  unfold Oper.wp
  simp only [execOp, Sem.run_bind, hrun, Result.andThen_ok, Sem.run_pure]
  rw [Oper.upon_value, act_put]
  exact hK _ _ _ _ _ hR' (hg.next (fun b hb => (hB' b hb).elim (fun h => .inl (hB1 b h)) (fun h => h.elim (fun h => .inl (hLB b h)) .inr)) hρ'.imp) hρ' hg.old
/-! ### values built of parts -/
def PartsR (w : World) (Φ : Bool → Nat → Prop) : List (Nat × List C) → List (Nat × Value) → List Nat → Prop
  | [], [], L => L = []
  | (i, cs) :: r, (j, v) :: r', L => i = j ∧ ∃ L1 L2, L = L1 ++ L2 ∧ IsCs w Φ cs v.cells.toList L1 ∧ PartsR w Φ r r' L2
  | _, _, _ => False
theorem Loose.append {w : World} {Φ : Bool → Nat → Prop} {B L L' : List Nat} (h : Loose w Φ B L) (k : Loose w Φ B L') (hd : ∀ b ∈ L, b ∉ L') : Loose w Φ B (L ++ L') where
  nd := by rw [List.nodup_append]; exact ⟨h.nd, k.nd, fun a ha b hb e => hd a ha (e ▸ hb)⟩
  apart b hb := by rcases List.mem_append.mp hb with hb | hb; exact h.apart b hb; exact k.apart b hb
  lt b hb := by rcases List.mem_append.mp hb with hb | hb; exact h.lt b hb; exact k.lt b hb
  disj b hb := by rcases List.mem_append.mp hb with hb | hb; exact h.disj b hb; exact k.disj b hb
theorem parts_is {w : World} {Φ : Bool → Nat → Prop} {tm : List Value} {ρ : Nat → List Value} {ds : List Deferred} : ∀ {xs : List (Nat × Operand)} {σ σ' : F} {B : List Nat} {l : List (Nat × List C)}, Rel w Φ σ tm ρ B → partCells σ xs = some (l, σ') →
    ∃ B' L, Rel w Φ σ' tm ρ B' ∧ PartsR w Φ l (xs.map fun (i, x) => (i, (⟨tm.toArray, ds⟩ : Act).eval x)) L ∧ Loose w Φ B' L ∧ (∀ b ∈ B', b ∈ B) ∧ (∀ b ∈ L, b ∈ B)
  | [], σ, σ', B, l, h, hp => by
    simp only [partCells, Option.some.injEq, Prod.mk.injEq] at hp
    obtain ⟨rfl, rfl⟩ := hp
    exact ⟨B, [], h, by simp [PartsR], Loose.nil, fun _ h => h, by simp⟩
  | (i, x) :: r, σ, σ', B, l, h, hp => by
    simp only [partCells] at hp
    cases h1 : σ.take (σ.rd x) with
    | none => simp [h1] at hp
    | some q =>
      obtain ⟨cs, σ1⟩ := q
      simp only [h1] at hp
      cases h2 : partCells σ1 r with
      | none => simp [h2] at hp
      | some q =>
        obtain ⟨l', σ2⟩ := q
        simp only [h2, Option.some.injEq, Prod.mk.injEq] at hp
        obtain ⟨rfl, rfl⟩ := hp
        obtain ⟨B1, L1, hR1, hc, hL, hB1, hLB⟩ := take_is h h1 (h.rd (ds := ds) x)
        obtain ⟨B2, L2, hR2, hp2, hL2, hB2, hLB2⟩ := parts_is (ds := ds) hR1 h2
        refine ⟨B2, L1 ++ L2, hR2, ⟨rfl, L1, L2, rfl, hc, hp2⟩, (hL.sub hB2).append hL2 (fun b hb hb2 => hL.apart b hb (hLB2 b hb2)), fun b hb => hB1 b (hB2 b hb), fun b hb => ?_⟩
        rcases List.mem_append.mp hb with hb | hb
        · exact hLB b hb
        · exact hB1 b (hLB2 b hb)
theorem fold_set (off : Nat) : ∀ (l : List Value) (j : Nat) (cs : Array Value), off + j + l.length ≤ cs.size → ((l.zipIdx j).foldl (fun cs (q : Value × Nat) => cs.setIfInBounds (off + q.2) q.1) cs).toList = cs.toList.take (off + j) ++ l ++ cs.toList.drop (off + j + l.length)
  | [], j, cs, h => by simp
  | v :: l, j, cs, h => by
    simp only [List.zipIdx_cons, List.foldl_cons, List.length_cons] at h ⊢
    rw [fold_set off l (j + 1) _ (by simp; omega)]
    simp only [Array.toList_setIfInBounds]
    have hlt : off + j < cs.toList.length := by rw [Array.length_toList]; omega
    rw [show off + (j + 1) = off + j + 1 by omega, List.take_succ_eq_append_getElem (by simpa using hlt), List.take_set_of_le (Nat.le_refl _), List.drop_set_of_lt (by omega)]
    have e9 : off + j + 1 + l.length = off + j + (l.length + 1) := by omega
    simp [e9]
theorem fill_is {w : World} {Φ : Bool → Nat → Prop} {place : Nat → Option (Nat × Nat)} : ∀ {l : List (Nat × List C)} {vs : List (Nat × Value)} {cells cs : List C} {arr : Array Value} {L L0 : List Nat}, PartsR w Φ l vs L → IsCs w Φ cells arr.toList L0 → L0.Nodup → L.Nodup → (∀ b ∈ L0, b ∉ L) → fillAt place cells l = some cs →
    ∃ arr' L', Instr.fill place arr vs = some arr' ∧ IsCs w Φ cs arr'.toList L' ∧ L'.Nodup ∧ (∀ b ∈ L', b ∈ L0 ∨ b ∈ L) ∧ arr'.size = arr.size
  | [], [], cells, cs, arr, L, L0, hp, hc, hn0, hn, hd, hf => by
    simp only [fillAt, Option.some.injEq] at hf
    subst hf
    exact ⟨arr, L0, rfl, hc, hn0, fun b hb => .inl hb, rfl⟩
  | [], _ :: _, _, _, _, _, _, hp, _, _, _, _, _ => hp.elim
  | _ :: _, [], _, _, _, _, _, hp, _, _, _, _, _ => by simp [PartsR] at hp
  | (i, c) :: r, (j, v) :: r', cells, cs, arr, L, L0, hp, hc, hn0, hn, hd, hf => by
    obtain ⟨rfl, L1, L2, rfl, h1, h2⟩ := hp
    simp only [fillAt] at hf
    cases hpl : place i with
    | none => simp [hpl] at hf
    | some q =>
      obtain ⟨off, sz⟩ := q
      simp only [hpl] at hf
      split at hf
      · rename_i hcond
        obtain ⟨hsz, hfit⟩ := hcond
        have hvl : v.cells.size = sz := by rw [← hsz, ← h1.length]; simp
        have hcl : cells.length = arr.size := by rw [← hc.length]; simp
        obtain ⟨X, Y, Z, rfl, _, q2⟩ := hc.setRange h1 (by rw [hsz]; exact hfit)
        simp only [List.nodup_append, List.mem_append, ne_eq] at hn hn0 hd
        have hstep : (v.cells.zipIdx.foldl (fun cs (q : Value × Nat) => cs.setIfInBounds (off + q.2) q.1) arr).toList = arr.toList.take off ++ v.cells.toList ++ arr.toList.drop (off + v.cells.toList.length) := by
          rw [← Array.foldl_toList, Array.toList_zipIdx, fold_set off v.cells.toList 0 arr (by simp; omega)]
          simp
        have harr : (v.cells.zipIdx.foldl (fun cs (q : Value × Nat) => cs.setIfInBounds (off + q.2) q.1) arr).size = arr.size := by
          rw [← Array.length_toList, hstep]
          simp
          omega
        obtain ⟨arr', L', f1, f2, f3, f4, f5⟩ := fill_is (arr := v.cells.zipIdx.foldl (fun cs (q : Value × Nat) => cs.setIfInBounds (off + q.2) q.1) arr) (L0 := X ++ (L1 ++ Z)) h2 (by rw [hstep]; exact q2) (by
            simp only [List.nodup_append, List.mem_append, ne_eq]
            refine ⟨hn0.1, ⟨hn.1, hn0.2.1.2.1, fun a ha b hb e => hd b (.inr (.inr hb)) (.inl (e ▸ ha))⟩, ?_⟩
            rintro a ha b (hb | hb) e
            · exact hd a (.inl ha) (.inl (e ▸ hb))
            · exact hn0.2.2 a ha b (.inr hb) e) hn.2.1 (by
            intro b hb hb2
            simp only [List.mem_append] at hb
            rcases hb with hb | hb | hb
            · exact hd b (.inl hb) (.inr hb2)
            · exact hn.2.2 b hb b hb2 rfl
            · exact hd b (.inr (.inr hb)) (.inr hb2)) hf
        refine ⟨arr', L', ?_, f2, f3, ?_, f5.trans harr⟩
        · simp only [Instr.fill, hpl]
          rw [if_neg (by simp [hvl]; omega)]
          exact f1
        · intro b hb
          have := f4 b hb
          simp only [List.mem_append] at this ⊢
          rcases this with (h | h | h) | h <;> simp [h]
      · cases hf
end
end Go.Proofs.YtckojpaklblnpaaGreatDoor.Ev
/- Rows of slices: joined, cut, packed; values that are made of parts. -/
set_option linter.unusedVariables false
set_option linter.unusedSimpArgs false
namespace Go.Proofs.YtckojpaklblnpaaGreatDoor.Ev
open Go Go.RowKit
theorem IsCRows.ext {w : World} {Φ : Bool → Nat → Prop} {sz : Nat} : ∀ {rows : List (List C)} {vs vs' : List Value} {B : List Nat}, IsCRows w Φ sz rows vs B → vs'.take (rows.length * sz) = vs.take (rows.length * sz) → IsCRows w Φ sz rows vs' B
  | [], vs, vs', B, h, _ => by simp only [IsCRows] at h ⊢; exact h
  | r :: rs, vs, vs', B, h, he => by
    simp only [IsCRows] at h ⊢
    obtain ⟨B1, B2, rfl, h2, h3, h4⟩ := h
    simp only [List.length_cons, Nat.succ_mul] at he
    have e1 : vs'.take sz = vs.take sz := by
      have := congrArg (List.take sz) he
      rwa [List.take_take, List.take_take, Nat.min_eq_left (by omega)] at this
    have e2 : (vs'.drop sz).take (rs.length * sz) = (vs.drop sz).take (rs.length * sz) := by
      have := congrArg (List.drop sz) he
      rwa [List.drop_take, List.drop_take, show rs.length * sz + sz - sz = rs.length * sz by omega] at this
    exact ⟨B1, B2, rfl, h2, by rw [e1]; exact h3, h4.ext e2⟩
theorem IsCRows.append {w : World} {Φ : Bool → Nat → Prop} {sz : Nat} : ∀ {rows rows' : List (List C)} {vs : List Value} {B B' : List Nat}, IsCRows w Φ sz rows vs B → IsCRows w Φ sz rows' (vs.drop (rows.length * sz)) B' → IsCRows w Φ sz (rows ++ rows') vs (B ++ B')
  | [], rows', vs, B, B', h, k => by
    simp only [IsCRows] at h
    subst h
    simpa using k
  | r :: rs, rows', vs, B, B', h, k => by
    simp only [IsCRows] at h
    obtain ⟨B1, B2, rfl, h2, h3, h4⟩ := h
    simp only [List.cons_append, IsCRows]
    refine ⟨B1, B2 ++ B', by simp [List.append_assoc], h2, h3, h4.append ?_⟩
    rw [List.drop_drop]
    rwa [List.length_cons, Nat.succ_mul, Nat.add_comm] at k
theorem packRows_is {w : World} {Φ : Bool → Nat → Prop} {sz : Nat} {rows : List (List C)} {v : Value} {B : List Nat} (h : OwnSl w sz rows.length v B (fun vs B' => IsCRows w Φ sz rows vs B')) : IsC w Φ (packRows sz rows) v B := by
  unfold packRows
  split
  · rename_i l hl
    simp only [IsC, IsO]
    rw [ownedRows_length hl]
    exact h.imp (fun _ _ => rfl) (fun vs B' _ k => IsCRows.ofOwned sz rows l vs B' hl k)
  · simp only [IsC]
    exact h
theorem chunk_is {w : World} {Φ : Bool → Nat → Prop} {sz : Nat} : ∀ (n : Nat) {cs : List C} {vs : List Value} {B : List Nat}, IsCs w Φ cs vs B → cs.length = n * sz → ∃ B', IsCRows w Φ sz (chunk sz n cs) vs B' ∧ (chunk sz n cs).length = n ∧ B'.Sublist B
  | 0, cs, vs, B, h, hl => ⟨[], by simp only [chunk, IsCRows], rfl, List.nil_sublist _⟩
  | n + 1, cs, vs, B, h, hl => by
    rw [Nat.succ_mul] at hl
    obtain ⟨B1, B2, rfl, h1, h2⟩ := h.split sz
    obtain ⟨B', h3, h4, h5⟩ := chunk_is (sz := sz) n h2 (by simp; omega)
    refine ⟨B1 ++ B', ?_, by simp [chunk, h4], List.Sublist.append (List.Sublist.refl _) h5⟩
    simp only [chunk, IsCRows]
    exact ⟨B1, B', rfl, by simp; omega, h1, h3⟩
theorem Rel.made {w : World} {Φ : Bool → Nat → Prop} {σ : F} {tm : List Value} {ρ : Nat → List Value} {B L : List Nat} {cs : List C} {vs : List Value} {ag : Bool} {v : Value} (h : Rel w Φ σ tm ρ B) (hL : Loose w Φ B L) (hc : IsCs w Φ cs vs L) (hv : valOf ag vs v) (d : Option Nat) (j : Nat) (hj : j < 8) :
    ∃ ρ' B', Rel w Φ (σ.made d j ag cs).1 tm ρ' B' ∧ SlotR w Φ (σ.made d j ag cs).1.ob ρ' (σ.made d j ag cs).2 v ∧ (∀ b ∈ B', b ∈ B ∨ b ∈ L) ∧ Same d ρ ρ' := by
  unfold F.made
  split
  · rename_i hf
    refine ⟨ρ, B, h, ?_, fun b hb => .inl hb, fun _ _ => rfl⟩
    simp only
    split
    · rename_i ts hts
      exact ofT_is (free_is h.sub.1 (lentAll cs) hf hts (fun h => h) hc).2 hv
    · simp only [SlotR]
  · split
    · rename_i d
      obtain ⟨B', hR, hs⟩ := h.new (keyOf d j) { cells := cs } vs L hc hL
      refine ⟨_, _, hR, ?_, ?_, ?_⟩
      · simp only [SlotR]
        refine ⟨{ cells := cs }, vs, by simp [F.new, Ev.look], by simp [valsAt], by rw [hc.length]; omega, ?_⟩
        have : (vs.drop 0).take cs.length = vs := by rw [List.drop_zero, ← hc.length, List.take_length]
        rw [this]
        exact hv
      · intro b hb
        rcases List.mem_append.mp hb with hb | hb
        · exact .inr hb
        · exact .inl (hs.subset hb)
      · intro i hi
        have : i ≠ keyOf d j := newKey_keyOf hj hi
        simp [this]
    · exact ⟨ρ, B, h, by simp only [SlotR], fun b hb => .inl hb, fun _ _ => rfl⟩
theorem Rel.newSlice {w : World} {Φ : Bool → Nat → Prop} {σ : F} {tm : List Value} {ρ : Nat → List Value} {B L : List Nat} {c : C} {v : Value} (h : Rel w Φ σ tm ρ B) (hL : Loose w Φ B L) (hc : IsC w Φ c v L) (d : Nat) :
    ∃ ρ' B', Rel w Φ ((σ.new (keyOf d 0) { cells := [c] }).put (some d) (.vw (keyOf d 0) [] 0 1 false)) (putL tm (some d) v) ρ' B' ∧ (∀ b ∈ B', b ∈ B ∨ b ∈ L) ∧ Same (some d) ρ ρ' := by
  obtain ⟨B', hR, hs⟩ := h.new (keyOf d 0) { cells := [c] } [v] L (by simp only [IsCs]; exact ⟨v, [], L, [], rfl, by simp, hc, rfl, rfl⟩) hL
  refine ⟨_, _, hR.put (some d) ?_, ?_, ?_⟩
  · simp only [SlotR]
    exact ⟨{ cells := [c] }, [v], by simp [F.new, Ev.look], by simp [valsAt], by simp, by simp⟩
  · intro b hb
    rcases List.mem_append.mp hb with hb | hb
    · exact .inr hb
    · exact .inl (hs.subset hb)
  · intro i hi
    have : i ≠ keyOf d 0 := newKey_keyOf (by decide) hi
    simp [this]
section
variable {P : Program} {e : Env} {σ : F} {ty : TypeId} {pos : String} {after : Array Edge} {gd : Option (Nat × Bool)}
theorem run_places (he : EnvOk P e) {w : World} : ∀ {fs : List Field} {l : List (Nat × Nat)}, fieldPlaces e fs = some l → (fs.mapM (m := Sem) fun f => do pure (f.offset, ← sizeOf f.type)).run P w = .ok l w
  | [], l, h => by
    simp only [fieldPlaces, Option.some.injEq] at h
    subst h
    simp
  | f :: r, l, h => by
    simp only [fieldPlaces] at h
    cases h1 : e.ty f.type with
    | none => simp [h1] at h
    | some w0 =>
      cases h2 : fieldPlaces e r with
      | none => simp [h1, h2] at h
      | some l' =>
        simp only [h1, h2, Option.some.injEq] at h
        subst h
        have ih := run_places he (w := w) h2
        simp only [List.mapM_cons, Sem.run_bind, he.run_sizeOf h1, Result.andThen_ok, Sem.run_pure, ih]
theorem run_placesA (he : EnvOk P e) {w : World} {fs : Array Field} {l : List (Nat × Nat)} (h : fieldPlaces e fs.toList = some l) : (fs.mapM (m := Sem) fun f => do pure (f.offset, ← sizeOf f.type)).run P w = .ok l.toArray w := by
  rw [Array.mapM_eq_mapM_toList, ← bind_pure_comp, Sem.run_bind, run_places he h]
  rfl
theorem ok_build (he : EnvOk P e) (t : TypeId) (v : TV) (parts : Array (Nat × Operand)) (place : Nat → Option (Nat × Nat)) (l : List (Nat × List C)) (cs : List C) (σ' : F) (d : Option Nat) (h : e.ty t = some v) (hpl : placesOf e v.desc = some place) (hp : partCells σ parts.toList = some (l, σ')) (hf : fillAt place (v.zero.map .ow) l = some cs) :
    OpStill P ⟨d, .build t parts, ty, pos, after, gd⟩ σ ((σ'.made d 0 true cs).1.put d (σ'.made d 0 true cs).2) := by
  intro w Φ tm ρ B ds hR
  obtain ⟨B1, L, hR1, hparts, hL, hB1, hLB⟩ := parts_is (ds := ds) hR hp
  obtain ⟨z, h1', h2, h3⟩ := he.run_zero h
  have hz := zeros_own (w := w) (Φ := Φ) h2
  obtain ⟨arr, L', f1, f2, f3, f4, f5⟩ := fill_is hparts hz List.nodup_nil hL.nd (by simp) hf
  have hL' : Loose w Φ B1 L' := ⟨f3, fun b hb => (f4 b hb).elim (by simp) (hL.apart b), fun b hb => (f4 b hb).elim (by simp) (hL.lt b), fun b hb => (f4 b hb).elim (by simp) (hL.disj b)⟩
  obtain ⟨ρ', B', hR', hS', hB', hρ'⟩ := hR1.made (ag := true) (v := .agg arr) hL' f2 (by simp [valOf]) d 0 (by decide)
  have hrun : ∀ w2, (Instr.build t (parts.map fun (i, x) => (i, (⟨tm.toArray, ds⟩ : Act).eval x))).run P w2 = .ok (.agg arr) w2 := by
    intro w2
    have h1 := h1' w2
    have hu := he.und h
    unfold placesOf at hpl
    simp only [Instr.build, Sem.run_bind, h1, Result.andThen_ok, run_underlying hu, Array.toList_map]
    split at hpl
    · rename_i fs hd
      simp only [Option.map_eq_some_iff] at hpl
      obtain ⟨lp, hlp, rfl⟩ := hpl
      have hfun : (fun (x : Nat) => lp.toArray[x]?) = fun (i : Nat) => lp[i]? := by funext i; simp
      simp only [hd, Sem.run_bind, run_placesA he (w := w2) hlp, Result.andThen_ok, hfun]
      rw [f1]
      rfl
    · rename_i n el hd
      simp only [Option.map_eq_some_iff] at hpl
      obtain ⟨w0, hw0, rfl⟩ := hpl
      simp only [hd, Sem.run_bind, he.run_sizeOf hw0, Result.andThen_ok, f1, Sem.run_pure]
    · cases hpl
  refine ⟨.agg arr, ρ', B', fun w2 _ => by simp only [execOp, Sem.run_bind, hrun w2, Result.andThen_ok, Sem.run_pure], hR'.put d hS', fun b hb => ?_, hρ'⟩
  rcases hB' b hb with hb | hb
  · exact hB1 b hb
  · rcases f4 b hb with hb | hb
    · cases hb
    · exact hLB b hb
end
end Go.Proofs.YtckojpaklblnpaaGreatDoor.Ev
/- New slices. -/
set_option linter.unusedVariables false
set_option linter.unusedSimpArgs false
namespace Go.Proofs.YtckojpaklblnpaaGreatDoor.Ev
open Go Go.RowKit
theorem made_rows {z : Array Value} {sz : Nat} (hz : z.size = sz) (hpos : 0 < sz) (n : Nat) : (madeCells z (n * sz)).toList = (List.replicate n z.toList).flatten := by
  subst hz
  have key : ∀ n, (List.range (n * z.size)).map (fun i => z[i % z.size]!) = (List.replicate n z.toList).flatten := by
    intro n
    induction n with
    | zero => simp
    | succ n ih =>
      rw [Nat.succ_mul, Nat.add_comm, List.range_add, List.map_append, List.map_map, List.replicate_succ, List.flatten_cons, ← ih]
      congr 1
      · apply List.ext_getElem
        · simp
        · intro i h1 h2
          simp at h1
          simp [Nat.mod_eq_of_lt h1, h1]
      · apply List.map_congr_left
        intro i _
        simp
  rw [madeCells, Array.toList_map, Array.toList_range]
  exact key n
theorem zeros_flat {w : World} {Φ : Bool → Nat → Prop} {zs : List Value} {ts : List T} (h : cellsT zs = some ts) : ∀ n, IsCs w Φ (List.replicate n (ts.map C.ow)).flatten (List.replicate n zs).flatten []
  | 0 => by simp [IsCs]
  | n + 1 => by
    simp only [List.replicate_succ, List.flatten_cons]
    exact (zeros_own h).append (zeros_flat h n)
theorem zeros_rows {w : World} {Φ : Bool → Nat → Prop} {zs : List Value} {ts : List T} (h : cellsT zs = some ts) {sz : Nat} (hl : zs.length = sz) : ∀ n m, n ≤ m → IsCRows w Φ sz (List.replicate n (ts.map C.ow)) (List.replicate m zs).flatten []
  | 0, m, _ => by simp only [List.replicate_zero, IsCRows]
  | n + 1, 0, hm => by omega
  | n + 1, m + 1, hm => by
    have h0 := zeros_own (w := w) (Φ := Φ) h
    simp only [List.replicate_succ, List.flatten_cons, IsCRows]
    refine ⟨[], [], rfl, by rw [← h0.length, hl], ?_, ?_⟩
    · rw [← hl, List.take_left]; exact h0
    · rw [← hl, List.drop_left, hl]; exact zeros_rows h hl n m (by omega)
section
variable {P : Program} {e : Env} {σ : F} {ty : TypeId} {pos : String} {after : Array Edge} {gd : Option (Nat × Bool)}
theorem ok_buildSlice (he : EnvOk P e) (t el : TypeId) (tv v : TV) (len : Nat) (parts : Array (Nat × Operand)) (l : List (Nat × List C)) (cs : List C) (σ' : F) (d : Nat) (h : e.ty t = some tv) (htd : tv.desc = .slice el) (hv : e.ty el = some v) (hp : partCells σ parts.toList = some (l, σ')) (hlen : len * v.cells ≤ 16777216)
    (hf : fillAt (fun i => some (i * v.cells, v.cells)) (List.replicate len (v.zero.map C.ow)).flatten l = some cs) :
    OpNew P ⟨some d, .buildSlice t len parts, ty, pos, after, gd⟩ σ ((σ'.new (keyOf d 0) { cells := [packRows v.cells (chunk v.cells len cs)] }).put (some d) (.vw (keyOf d 0) [] 0 1 false)) := by
  intro w Φ tm ρ B ds K Q hR hK
  have hu := he.und h
  rw [htd] at hu
  have hpos := he.pos hv
  obtain ⟨B1, L, hR1, hparts, hL, hB1, hLB⟩ := parts_is (ds := ds) hR hp
  obtain ⟨z, h1', h2, h3⟩ := he.run_zero hv
  have h1 := h1' w
  have hz := zeros_flat (w := w) (Φ := Φ) h2 len
  rw [← made_rows h3 hpos len] at hz
  obtain ⟨arr, L', f1, f2, f3, f4, f5⟩ := fill_is hparts hz List.nodup_nil hL.nd (by simp) hf
  rw [size_madeCells] at f5
  have hL' : Loose w Φ B1 L' := ⟨f3, fun b hb => (f4 b hb).elim (by simp) (hL.apart b), fun b hb => (f4 b hb).elim (by simp) (hL.lt b), fun b hb => (f4 b hb).elim (by simp) (hL.disj b)⟩
  have hcl : cs.length = len * v.cells := by rw [← f2.length]; simpa using f5
  obtain ⟨B2, r1, r2, r3⟩ := chunk_is len f2 hcl
  have hL2 : Loose w Φ B1 B2 := ⟨f3.sublist r3, fun b hb => hL'.apart b (r3.subset hb), fun b hb => hL'.lt b (r3.subset hb), fun b hb => hL'.disj b (r3.subset hb)⟩
  have hg := grew_alloc w (.cells arr el (0, 0))
  have hR2 := hR1.grew hg
  have hL3 := hL2.grew hR1 hg
  have hrows := r1.keep (w' := w.alloc (.cells arr el (0, 0))) ⟨fun _ _ h => h, fun x b hb => hg.old b (hR1.ltΦ x b hb), fun b hb => hg.old b (hL2.lt b hb)⟩
  have hlm : len ≤ maxLen := by
    have : len * 1 ≤ len * v.cells := Nat.mul_le_mul_left _ hpos
    simp only [maxLen]; omega
  have hC : IsC (w.alloc (.cells arr el (0, 0))) Φ (packRows v.cells (chunk v.cells len cs)) (.slice (some ⟨w.heap.size, 0, none⟩) len len) (w.heap.size :: B2) := by
    apply packRows_is
    rw [r2]
    exact .inr ⟨w.heap.size, len, arr, el, (0, 0), B2, rfl, hg.get, fun i _ hh => by simp at hh, ⟨hpos, Nat.le_refl _⟩, hlm, f5, rfl, hrows⟩
  obtain ⟨ρ', B', hR', hB', hρ'⟩ := hR2.newSlice hL3 hC d
  have hrun : (Instr.buildSlice t len (parts.map fun (i, x) => (i, (⟨tm.toArray, ds⟩ : Act).eval x))).run P w = .ok (.slice (some ⟨w.heap.size, 0, none⟩) len len) (w.alloc (.cells arr el (0, 0))) := by
    simp only [Instr.buildSlice, Sem.run_bind, run_underlying hu, Result.andThen_ok, he.run_sizeOf hv]
    rw [if_neg (by omega)]
    by_cases hn : len * v.cells = 0
    · have hl0 : len = 0 := by
        rcases Nat.mul_eq_zero.mp hn with h | h
        · exact h
        · omega
      subst hl0
      have e1 : ((Array.range (0 * v.cells)).map fun x => (#[] : Array Value)[x % (#[] : Array Value).size]!) = madeCells z.cells (0 * v.cells) := by
        apply Array.ext'
        rw [made_rows h3 hpos 0]
        simp
      simp only [hn, if_true, Sem.run_pure, Sem.run_bind, Result.andThen_ok]
      rw [hn] at e1
      rw [e1]
      rw [hn] at f1
      simp only [Array.toList_map, f1]
      rfl
    · simp only [if_neg hn, Sem.run_pure, Sem.run_bind, Result.andThen_ok, h1]
      have e1 : ((Array.range (len * v.cells)).map fun x => z.cells[x % z.cells.size]!) = madeCells z.cells (len * v.cells) := rfl
      rw [e1]
      simp only [Array.toList_map, f1]
      rfl
  unfold Oper.wp
  simp only [execOp, Sem.run_bind, hrun, Result.andThen_ok, Sem.run_pure]
  rw [Oper.upon_value, act_put]
  refine hK _ _ _ _ _ hR' (hg.next (fun b hb => ?_) hρ'.imp) hρ' hg.old
  rcases hB' b hb with hb | hb
  · exact .inl (hB1 b hb)
  · rcases List.mem_cons.mp hb with rfl | hb
    · exact .inr rfl
    · rcases f4 b (r3.subset hb) with hb | hb
      · cases hb
      · exact .inl (hLB b hb)
theorem ok_makeSlice (he : EnvOk P e) (t el : TypeId) (tv v : TV) (x y : Operand) (n m : Int) (d : Nat) (h : e.ty t = some tv) (htd : tv.desc = .slice el) (hv : e.ty el = some v) (hx : intOf? (σ.rd x) = some n) (hy : intOf? (σ.rd y) = some m) (hc : 0 < v.bytes ∧ 0 ≤ n ∧ n ≤ m ∧ m.toNat * v.bytes ≤ maxBytes) :
    OpNew P ⟨some d, .makeSlice t x y, ty, pos, after, gd⟩ σ ((σ.new (keyOf d 0) { cells := [.ow (.sl v.cells (List.replicate n.toNat v.zero))] }).put (some d) (.vw (keyOf d 0) [] 0 1 false)) := by
  intro w Φ tm ρ B ds K Q hR hK
  have hu := he.und h
  rw [htd] at hu
  have hpos := he.pos hv
  obtain ⟨i, z, i1, i2, i3, i4, i5, i6, i7, _⟩ := he.ty el v hv
  obtain ⟨kx, hxv⟩ := intOf_is hx (hR.rd (ds := ds) x)
  obtain ⟨ky, hyv⟩ := intOf_is hy (hR.rd (ds := ds) y)
  obtain ⟨c1, c2, c3, c4⟩ := hc
  obtain ⟨mm, rfl⟩ := Int.eq_ofNat_of_zero_le (Int.le_trans c2 c3)
  obtain ⟨nn, rfl⟩ := Int.eq_ofNat_of_zero_le c2
  simp only [Int.toNat_natCast, maxBytes] at c4 ⊢
  have hmm : mm ≤ 140737488355328 := by
    have : mm * 1 ≤ mm * v.bytes := Nat.mul_le_mul_left _ c1
    omega
  have hrun := run_make (P := P) w t el i z hu i1 i5 kx ky nn mm c2 c3 (by rw [i4, Int.mul_comm]; have : ((mm * v.bytes : Nat) : Int) ≤ 281474976710656 := by omega
                                                                           rwa [Int.natCast_mul] at this) (by omega)
  simp only [Int.toNat_natCast] at hrun
  rw [i3] at hrun
  have hg := grew_alloc w (.cells (madeCells z.cells (mm * v.cells)) el (0, 0))
  have hR2 := hR.grew hg
  have hL3 := (Loose.nil (w := w) (Φ := Φ) (B := B)).grew hR hg
  have hC : IsC (w.alloc (.cells (madeCells z.cells (mm * v.cells)) el (0, 0))) Φ (.ow (.sl v.cells (List.replicate nn v.zero))) (.slice (some ⟨w.heap.size, 0, none⟩) nn mm) [w.heap.size] := by
    simp only [IsC, IsO]
    rw [List.length_replicate]
    refine .inr ⟨w.heap.size, mm, _, el, (0, 0), [], rfl, hg.get, fun i _ hh => by simp at hh, ⟨hpos, by omega⟩, by simp only [maxLen]; omega, size_madeCells _ _, rfl, ?_⟩
    rw [made_rows i7 hpos mm]
    have := zeros_rows (w := w.alloc (.cells (madeCells z.cells (mm * v.cells)) el (0, 0))) (Φ := Φ) i6 (sz := v.cells) (by simpa using i7) nn mm (by omega)
    rw [← List.map_replicate] at this
    exact IsORows.ofCells this
  obtain ⟨ρ', B', hR', hB', hρ'⟩ := hR2.newSlice hL3 hC d
  unfold Oper.wp
  simp only [execOp, hxv, hyv, Sem.run_bind, hrun, Result.andThen_ok, Sem.run_pure]
  rw [Oper.upon_value, act_put]
  exact hK _ _ _ _ _ hR' (hg.next (fun b hb => (hB' b hb).elim .inl (fun hb => by simp at hb; exact .inr hb)) hρ'.imp) hρ' hg.old
theorem bytes_own {w : World} : ∀ (bs : List UInt8) (rest : List Value), IsORows w 1 (bs.map fun b => [.lit (.int .u8 b.toNat)]) (bs.map (fun b => Value.int .u8 b.toNat) ++ rest) []
  | [], rest => by simp only [List.map_nil, IsORows]
  | b :: bs, rest => by
    simp only [List.map_cons, List.cons_append, IsORows]
    refine ⟨[], [], rfl, rfl, ?_, ?_⟩
    · simp only [List.take_succ_cons, List.take_zero, IsOs, IsO]
      exact ⟨_, [], [], [], rfl, rfl, ⟨rfl, rfl, rfl⟩, rfl, rfl⟩
    · simpa using bytes_own bs rest
theorem ok_strBytes (he : EnvOk P e) (src dst el : TypeId) (a b v : TV) (x : Operand) (s : ByteArray) (d : Nat) (hs : e.ty src = some a) (hsd : a.desc = .string) (hd : e.ty dst = some b) (hdd : b.desc = .slice el) (hv : e.ty el = some v) (hvd : v.desc = .int .u8) (hvc : v.cells = 1) (hx : σ.rd x = .lit (.string s)) (hsz : s.size ≤ 9223372036854775807) :
    OpNew P ⟨some d, .convert src dst x, ty, pos, after, gd⟩ σ ((σ.new (keyOf d 0) { cells := [.ow (bytesT s)] }).put (some d) (.vw (keyOf d 0) [] 0 1 false)) := by
  intro w Φ tm ρ B ds K Q hR hK
  have h1 := he.und hs; rw [hsd] at h1
  have h2 := he.und hd; rw [hdd] at h2
  have h3 := he.und hv; rw [hvd] at h3
  have hr := hR.rd (ds := ds) x
  rw [hx] at hr
  have hrun := run_bytes_of_string (P := P) w src dst el s h1 h2 h3
  generalize hcap : grownCap w s.size 0 el = cap at hrun
  have hge : s.size ≤ cap := by rw [← hcap]; exact grownCap_ge w s.size 0 el
  have hle : cap ≤ maxLen := by rw [← hcap]; exact grownCap_le_maxLen w s.size 0 el (by simp only [maxLen]; omega)
  have hg : Grew w (w.drew.alloc (.cells (bytesRow s cap) el ((bytesRow s cap).size, (bytesRow s cap).size + 1))) w.heap.size (.cells (bytesRow s cap) el ((bytesRow s cap).size, (bytesRow s cap).size + 1)) :=
    ⟨rfl, alloc_get w.drew _, fun b h => alloc_old w.drew _ h, alloc_size w.drew _, rfl, rfl, rfl⟩
  have hR2 := hR.grew hg
  have hL3 := (Loose.nil (w := w) (Φ := Φ) (B := B)).grew hR hg
  have hrow : (bytesRow s cap).toList = s.data.toList.map (fun b => Value.int .u8 b.toNat) ++ List.replicate (cap - s.size) (.int .u8 0) := by
    simp [bytesRow]
  have hrs : (bytesRow s cap).size = cap := by
    rw [← Array.length_toList, hrow]
    have : s.data.size = s.size := rfl
    simp [this]
    omega
  have hC : IsC (w.drew.alloc (.cells (bytesRow s cap) el ((bytesRow s cap).size, (bytesRow s cap).size + 1))) Φ (.ow (bytesT s)) (.slice (some ⟨w.heap.size, 0, none⟩) s.size cap) [w.heap.size] := by
    simp only [IsC, bytesT, IsO]
    have hl : (s.data.toList.map fun b => [T.lit (.int .u8 b.toNat)]).length = s.size := by
      rw [List.length_map, Array.length_toList]; rfl
    rw [hl]
    refine .inr ⟨w.heap.size, cap, _, el, _, [], rfl, hg.get, fun i hi hh => ?_, ⟨Nat.one_pos, hge⟩, hle, by rw [hrs, Nat.mul_one], rfl, ?_⟩
    · simp only at hh; omega
    · rw [hrow]; exact bytes_own _ _
  obtain ⟨ρ', B', hR', hB', hρ'⟩ := hR2.newSlice hL3 hC d
  unfold Oper.wp
  simp only [execOp, slot_lit hr, Sem.run_bind, hrun, Result.andThen_ok, Sem.run_pure]
  rw [Oper.upon_value, act_put]
  exact hK _ _ _ _ _ hR' (hg.next (fun b hb => (hB' b hb).elim .inl (fun hb => by simp at hb; exact .inr hb)) hρ'.imp) hρ' hg.old
end
end Go.Proofs.YtckojpaklblnpaaGreatDoor.Ev
/- append: an owned slice grows. -/
set_option linter.unusedVariables false
set_option linter.unusedSimpArgs false
namespace Go.Proofs.YtckojpaklblnpaaGreatDoor.Ev
open Go Go.RowKit
theorem rows_join {w : World} {Φ : Bool → Nat → Prop} {m : Nat} {old rows : List (List C)} {cur arr news : List Value} {B L : List Nat} (h : IsCRows w Φ m old cur B) (k : IsCRows w Φ m rows news L) (hl : news.length = rows.length * m)
    (e1 : arr.take (old.length * m) = cur.take (old.length * m)) (e2 : (arr.drop (old.length * m)).take news.length = news) : IsCRows w Φ m (old ++ rows) arr (B ++ L) := by
  refine (h.ext e1).append (k.ext ?_)
  rw [← hl, e2, List.take_length]
structure Src (P : Program) (w : World) (xt el : TypeId) (m : Nat) (x : Value) (n : Nat) (news : List Value) : Prop where
  dx : ∃ d, P.underlying xt = some d ∧
    (((∀ k, d ≠ .int k) ∧ (∀ w' : World, w'.heap = w.heap → (Builtin.lenOf x).run P w' = .ok n w' ∧ (Builtin.firstCells m n x).run P w' = .ok news.toArray w')) ∨
     (∃ k k', d = .int k ∧ x = .int k' n ∧ ∃ z : Value, (∀ w' : World, (zeroValue el).run P w' = .ok z w') ∧ z.cells.size = m ∧ news = (List.replicate n z.cells.toList).flatten))
  len : news.length = n * m
  ones : ∀ v ∈ news, v.oneCell' = true
section
variable {P : Program} {e : Env}
theorem zeroCells_flat {z : Array Value} {m : Nat} (hz : z.size = m) (hpos : 0 < m) (n : Nat) : Builtin.zeroCells z n = (List.replicate n z.toList).flatten.toArray := by
  apply Array.ext'
  have := made_rows hz hpos n
  subst hz
  rw [← this]
  simp [Builtin.zeroCells, madeCells]
theorem run_append_room' (he : EnvOk P e) {st xt el ty : TypeId} {tv v : TV} {w : World} {x : Value} {n : Nat} {news : List Value} (ht : e.ty st = some tv) (htd : tv.desc = .slice el) (hv : e.ty el = some v) (hb : 0 < v.bytes) (hs : Src P w xt el v.cells x n news) (base : Option Addr) (sLen sCap : Nat) (hroom : sLen + n ≤ sCap) (hbytes : (sLen + n) * v.bytes ≤ maxBytes) (w' : World)
    (hst : (match base with | some a => storeCells (a.add (sLen * v.cells)) news | none => pure ()).run P w = .ok () w') :
    (Builtin.append_ #[st, xt] ty #[.slice base sLen sCap, x]).run P w = .ok (.slice base (sLen + n) sCap) w' := by
  have hu := he.und ht
  rw [htd] at hu
  have hpos := he.pos hv
  obtain ⟨i, hi, ib, is⟩ := he.run_bytes hv w
  obtain ⟨d, hd, hx⟩ := hs.dx
  rcases hx with ⟨hd1, hx⟩ | ⟨k, k', rfl, rfl, z, hz, hzs, rfl⟩
  · obtain ⟨l1, l2⟩ := hx w rfl
    cases d with
    | int k => exact absurd rfl (hd1 k)
    | _ =>
      simp only [Builtin.append_, List.getElem?_toArray, List.getElem?_cons_zero, List.getElem?_cons_succ, Sem.run_bind, run_underlying hu, Result.andThen_ok, he.run_sizeOf hv, run_underlying hd, Sem.run_pure, Bool.false_eq_true, if_false, l1, if_pos hroom, Bool.not_false, if_true, l2]
      cases base with
      | none => simp only [Sem.run_pure, Result.ok.injEq, true_and] at hst; subst hst; rfl
      | some a => simp only [Sem.run_bind, hst, Result.andThen_ok, Sem.run_pure]
  · have hn : n ≤ 140737488355328 := by
      have : (sLen + n) * 1 ≤ (sLen + n) * v.bytes := Nat.mul_le_mul_left _ hb
      simp only [maxBytes] at hbytes
      omega
    have wl : IntKind.i64.wrap (n : Int) = n := by rw [IntKind.wrap_i64]; omega
    have hnb : ¬ (281474976710656 < (n : Int) * v.bytes) := by
      have : n * v.bytes ≤ (sLen + n) * v.bytes := Nat.mul_le_mul_right _ (by omega)
      simp only [maxBytes] at hbytes
      have h2 : ((n * v.bytes : Nat) : Int) ≤ 281474976710656 := by omega
      rw [Int.natCast_mul] at h2
      omega
    have hap : ∀ w' : World, (if n * v.cells = 0 then (pure #[] : Sem (Array Value)) else do pure (Builtin.zeroCells (← zeroValue el).cells n)).run P w' = .ok ((List.replicate n z.cells.toList).flatten.toArray) w' := by
      intro w'
      by_cases h0 : n * v.cells = 0
      · have : n = 0 := by
          rcases Nat.mul_eq_zero.mp h0 with h | h
          · exact h
          · omega
        subst this
        simp
      · simp only [if_neg h0, Sem.run_bind, hz, Result.andThen_ok, Sem.run_pure, zeroCells_flat hzs hpos]
    have hl0 : ¬ ((n : Int) < 0) := by omega
    have hnb' : ¬ ((n : Int) * (i.bytes : Int) > 2 ^ 48) := by rw [ib]; simpa using hnb
    simp only [Builtin.append_, List.getElem?_toArray, List.getElem?_cons_zero, List.getElem?_cons_succ, Sem.run_bind, run_underlying hu, Result.andThen_ok, he.run_sizeOf hv, run_underlying hd, Sem.run_pure, if_true, asInt, asIntOf, wl, if_neg hl0, hi, if_neg hnb', Int.toNat_natCast, if_pos hroom, Bool.not_true, Bool.false_eq_true, if_false]
    rw [hap]
    simp only [Result.andThen_ok]
    cases base with
    | none => simp only [Sem.run_pure, Result.ok.injEq, true_and] at hst; subst hst; rfl
    | some a => simp only [Sem.run_bind, hst, Result.andThen_ok, Sem.run_pure]
theorem run_append_grow' (he : EnvOk P e) {st xt el ty : TypeId} {tv v : TV} {w : World} {x : Value} {n : Nat} {news old : List Value} (ht : e.ty st = some tv) (htd : tv.desc = .slice el) (hv : e.ty el = some v) (hb : 0 < v.bytes) (hs : Src P w xt el v.cells x n news) (base : Option Addr) (sLen sCap : Nat) (hroom : ¬ sLen + n ≤ sCap) (hbytes : (sLen + n) * v.bytes ≤ maxBytes)
    (hold : (Builtin.firstCells v.cells sLen (.slice base sLen sCap)).run P w.drew = .ok old.toArray w.drew) :
    ∃ z : Value, z.cells.size = v.cells ∧ (Builtin.append_ #[st, xt] ty #[.slice base sLen sCap, x]).run P w =
      .ok (.slice (some ⟨w.heap.size, 0, none⟩) (sLen + n) (grownCap w (sLen + n) sCap el)) (w.drew.alloc (.cells (old.toArray ++ news.toArray ++ Builtin.zeroCells z.cells (grownCap w (sLen + n) sCap el - (sLen + n))) el)) := by
  have hu := he.und ht
  rw [htd] at hu
  have hpos := he.pos hv
  obtain ⟨i, z0, hP, _, is, ib, i5, _, i7, _⟩ := he.ty el v hv
  have hi : ∀ w, (typeInfo el).run P w = .ok i w := fun w => by simp [typeInfo, hP]
  have hzv : ∀ w, (zeroValue el).run P w = .ok z0 w := fun w => by simp [zeroValue, typeInfo, hP, i5]
  refine ⟨z0, i7, ?_⟩
  obtain ⟨d, hd, hx⟩ := hs.dx
  have hneed : sLen + n ≤ 140737488355328 := by
    have : (sLen + n) * 1 ≤ (sLen + n) * v.bytes := Nat.mul_le_mul_left _ hb
    simp only [maxBytes] at hbytes
    omega
  have hmax : ∀ p : Prop, ¬ (((sLen + n : Nat) : Int) > IntKind.i64.max ∧ p) := by
    rintro p ⟨h, _⟩
    rw [IntKind.max_i64] at h
    omega
  have hfit : ¬ (Builtin.nextslicecap (sLen + n) sCap * i.bytes > 2 ^ 48) := by
    rw [ib]
    have := growslice_fits (need := sLen + n) (old := sCap) (bytes := v.bytes) (by omega) hbytes
    omega
  have hch : (choose (.appendCap (sLen + n) sCap el)).run P w = .ok (grownCap w (sLen + n) sCap el) w.drew := by
    rw [run_choose]
    rfl
  rcases hx with ⟨hd1, hx⟩ | ⟨k, k', rfl, rfl, z, hz, hzs, rfl⟩
  · obtain ⟨l1, _⟩ := hx w rfl
    obtain ⟨_, l2⟩ := hx w.drew rfl
    cases d with
    | int k => exact absurd rfl (hd1 k)
    | _ =>
      simp only [Builtin.append_, List.getElem?_toArray, List.getElem?_cons_zero, List.getElem?_cons_succ, Sem.run_bind, run_underlying hu, Result.andThen_ok, he.run_sizeOf hv, run_underlying hd, Sem.run_pure, Bool.false_eq_true, if_false, l1, if_neg hroom, Bool.not_false, if_true, hi, if_neg (hmax _), if_neg hfit, hch, run_askRoom, hold, l2, hzv, newRow, run_newObj]
      rfl
  · have wl : IntKind.i64.wrap (n : Int) = n := by rw [IntKind.wrap_i64]; omega
    have hnb : ¬ (281474976710656 < (n : Int) * v.bytes) := by
      have : n * v.bytes ≤ (sLen + n) * v.bytes := Nat.mul_le_mul_right _ (by omega)
      simp only [maxBytes] at hbytes
      have h2 : ((n * v.bytes : Nat) : Int) ≤ 281474976710656 := by omega
      rw [Int.natCast_mul] at h2
      omega
    have hap : ∀ w' : World, (if n * v.cells = 0 then (pure #[] : Sem (Array Value)) else do pure (Builtin.zeroCells (← zeroValue el).cells n)).run P w' = .ok ((List.replicate n z.cells.toList).flatten.toArray) w' := by
      intro w'
      by_cases h0 : n * v.cells = 0
      · have : n = 0 := by
          rcases Nat.mul_eq_zero.mp h0 with h | h
          · exact h
          · omega
        subst this
        simp
      · simp only [if_neg h0, Sem.run_bind, hz, Result.andThen_ok, Sem.run_pure, zeroCells_flat hzs hpos]
    have hl0 : ¬ ((n : Int) < 0) := by omega
    have hnb' : ¬ ((n : Int) * (i.bytes : Int) > 2 ^ 48) := by rw [ib]; simpa using hnb
    simp only [Builtin.append_, List.getElem?_toArray, List.getElem?_cons_zero, List.getElem?_cons_succ, Sem.run_bind, run_underlying hu, Result.andThen_ok, he.run_sizeOf hv, run_underlying hd, Sem.run_pure, if_true, asInt, asIntOf, wl, if_neg hl0, hi, if_neg hnb', Int.toNat_natCast, if_neg hroom, Bool.not_true, Bool.false_eq_true, if_false, if_neg (hmax _), if_neg hfit, hch, run_askRoom, hold]
    rw [hap]
    simp only [Result.andThen_ok, hzv, newRow, Sem.run_bind, run_newObj, Sem.run_pure]
    rfl
end
end Go.Proofs.YtckojpaklblnpaaGreatDoor.Ev
