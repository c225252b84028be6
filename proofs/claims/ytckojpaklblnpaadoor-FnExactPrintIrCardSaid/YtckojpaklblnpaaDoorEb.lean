/- The evaluator and its soundness, part 2: Load Addr Field Value Own Take Taken Store Make Pack New Grow Append Source AppOp Rename. -/
import Derived.Test.YtckojpaklblnpaaDoorEa
import Derived.Laws.BytesArg
import Derived.Laws.IdiomCopy
import Derived.Laws.MakeOwn
import Derived.Laws.IdiomStrings
import Derived.Laws.OwnMore
import Derived.Laws.Append
/- Reading: cells of a place, values out of them. -/
set_option linter.unusedVariables false
set_option linter.unusedSimpArgs false
namespace Go.Proofs.YtckojpaklblnpaaDoor.Ev
open Go Go.RowKit

theorem IsCs.split {w : World} {Φ : Bool → Nat → Prop} : ∀ (n : Nat) {cs : List C} {vs : List Value} {B : List Nat}, IsCs w Φ cs vs B → ∃ B1 B2, B = B1 ++ B2 ∧ IsCs w Φ (cs.take n) (vs.take n) B1 ∧ IsCs w Φ (cs.drop n) (vs.drop n) B2
  | 0, cs, vs, B, h => ⟨[], B, rfl, by simp [IsCs], by simpa using h⟩
  | n + 1, [], vs, B, h => by
    simp only [IsCs] at h
    obtain ⟨rfl, rfl⟩ := h
    exact ⟨[], [], rfl, by simp [IsCs], by simp [IsCs]⟩
  | n + 1, c :: cs, vs, B, h => by
    simp only [IsCs] at h
    obtain ⟨v, vs', B1, B2, rfl, rfl, h3, h4⟩ := h
    obtain ⟨B3, B4, rfl, h5, h6⟩ := h4.split n
    refine ⟨B1 ++ B3, B4, by simp [List.append_assoc], ?_, by simpa using h6⟩
    simp only [List.take_succ_cons, IsCs]
    exact ⟨v, vs'.take n, B1, B3, rfl, rfl, h3, h5⟩

theorem IsCs.append {w : World} {Φ : Bool → Nat → Prop} : ∀ {cs ds : List C} {vs us : List Value} {B D : List Nat}, IsCs w Φ cs vs B → IsCs w Φ ds us D → IsCs w Φ (cs ++ ds) (vs ++ us) (B ++ D)
  | [], ds, vs, us, B, D, h, k => by
    simp only [IsCs] at h
    obtain ⟨rfl, rfl⟩ := h
    simpa using k
  | c :: cs, ds, vs, us, B, D, h, k => by
    simp only [IsCs] at h
    obtain ⟨v, vs', B1, B2, rfl, rfl, h3, h4⟩ := h
    simp only [List.cons_append, IsCs]
    exact ⟨v, vs' ++ us, B1, B2 ++ D, rfl, by simp [List.append_assoc], h3, h4.append k⟩

theorem IsCs.range {w : World} {Φ : Bool → Nat → Prop} (a n : Nat) {cs : List C} {vs : List Value} {B : List Nat} (h : IsCs w Φ cs vs B) :
    ∃ X Y Z, B = X ++ (Y ++ Z) ∧ IsCs w Φ (cs.take a) (vs.take a) X ∧ IsCs w Φ ((cs.drop a).take n) ((vs.drop a).take n) Y ∧ IsCs w Φ (cs.drop (a + n)) (vs.drop (a + n)) Z := by
  obtain ⟨X, B2, rfl, h1, h2⟩ := h.split a
  obtain ⟨Y, Z, rfl, h3, h4⟩ := h2.split n
  exact ⟨X, Y, Z, rfl, h1, h3, by simpa using h4⟩

theorem IsTs.take {w : World} {φ : Nat → Prop} : ∀ (n : Nat) {ts : List T} {vs : List Value}, IsTs w φ ts vs → IsTs w φ (ts.take n) (vs.take n)
  | 0, ts, vs, h => by simp [IsTs]
  | n + 1, [], vs, h => by simp only [IsTs] at h; subst h; simp [IsTs]
  | n + 1, t :: ts, vs, h => by
    simp only [IsTs] at h
    obtain ⟨v, vs', rfl, h2, h3⟩ := h
    simp only [List.take_succ_cons, IsTs]
    exact ⟨v, vs'.take n, rfl, h2, h3.take n⟩

theorem IsTs.drop {w : World} {φ : Nat → Prop} : ∀ (n : Nat) {ts : List T} {vs : List Value}, IsTs w φ ts vs → IsTs w φ (ts.drop n) (vs.drop n)
  | 0, ts, vs, h => by simpa using h
  | n + 1, [], vs, h => by simp only [IsTs] at h; subst h; simp [IsTs]
  | n + 1, t :: ts, vs, h => by
    simp only [IsTs] at h
    obtain ⟨v, vs', rfl, h2, h3⟩ := h
    simpa using h3.drop n

/-- What a path leads to: the row's values; its block, behind one step. -/
theorem IsCs.path {w : World} {Φ : Bool → Nat → Prop} {cs : List C} {vs : List Value} {B : List Nat} {p : List (Nat × Nat)} {r : List C} (h : IsCs w Φ cs vs B) (hnd : B.Nodup) (hr : getRow cs p = some r) :
    ∃ rv Br, valsAt w cs vs p = some rv ∧ (∀ b ∈ Br, b ∈ B) ∧ IsCs w Φ r rv Br ∧
      (p ≠ [] → ∃ g a cur e fz, addrAt w cs vs p = some (g, a) ∧ w.heap[g]? = some (.cells cur e fz) ∧ g ∈ B ∧ a + r.length ≤ cur.size ∧ rv = (cur.toList.drop a).take r.length) := by
  by_cases hp : p = []
  · subst hp
    simp only [getRow, Option.some.injEq] at hr
    subst hr
    exact ⟨vs, B, rfl, fun _ h => h, h, fun h => absurd rfl h⟩
  · obtain ⟨g, o, cur, e, fz, X, Br, Y, rv, h1, h2, rfl, h4, h5, h6, h7, h8, h9, _⟩ := place p cs vs B r h hnd hr hp
    exact ⟨rv, Br, h2, fun b hb => by simp [hb], h9, fun _ => ⟨g, o, cur, e, fz, h1, h5, by simp [h4], h7, h8⟩⟩

theorem cells_some {σ : F} {k : Nat} {p : List (Nat × Nat)} {off n : Nat} {cs : List C} (h : σ.cells k p off n = some cs) : ∃ o r, look σ.ob k = some o ∧ getRow o.cells p = some r ∧ off + n ≤ r.length ∧ cs = (r.drop off).take n := by
  unfold F.cells at h
  cases h1 : look σ.ob k with
  | none => simp [h1] at h
  | some o =>
    cases h2 : getRow o.cells p with
    | none => simp [h1, h2] at h
    | some r =>
      simp only [h1, h2] at h
      split at h
      · rename_i hl
        simp only [Option.some.injEq] at h
        exact ⟨o, r, rfl, h2, hl, h.symm⟩
      · cases h

theorem Rel.look {w : World} {Φ : Bool → Nat → Prop} {σ : F} {tm : List Value} {ρ : Nat → List Value} {B : List Nat} (h : Rel w Φ σ tm ρ B) {k : Nat} {o : O} (hl : look σ.ob k = some o) : ∃ Bk, (∀ b ∈ Bk, b ∈ B) ∧ Bk.Nodup ∧ IsCs w Φ o.cells (ρ k) Bk := by
  obtain ⟨X, Bk, Y, rfl, e2, _⟩ := IsOb.focus h.obs h.keys hl
  have hnd := h.nd
  simp only [List.nodup_append] at hnd
  exact ⟨Bk, fun b hb => by simp [hb], hnd.2.1.1, e2⟩

theorem Rel.cells {w : World} {Φ : Bool → Nat → Prop} {σ : F} {tm : List Value} {ρ : Nat → List Value} {B : List Nat} (h : Rel w Φ σ tm ρ B) {k : Nat} {p : List (Nat × Nat)} {off n : Nat} {cs : List C} (hc : σ.cells k p off n = some cs) :
    ∃ o vs Bc, Ev.look σ.ob k = some o ∧ valsAt w o.cells (ρ k) p = some vs ∧ off + n ≤ vs.length ∧ (∀ b ∈ Bc, b ∈ B) ∧ IsCs w Φ cs ((vs.drop off).take n) Bc ∧ cs.length = n ∧
      (p ≠ [] → ∃ g a cur e fz, addrAt w o.cells (ρ k) p = some (g, a) ∧ w.heap[g]? = some (.cells cur e fz) ∧ g ∈ B ∧ a + (off + n) ≤ cur.size ∧ (vs.drop off).take n = (cur.toList.drop (a + off)).take n) := by
  obtain ⟨o, r, h1, h2, h3, rfl⟩ := cells_some hc
  obtain ⟨Bk, hB, hnd, hk⟩ := h.look h1
  obtain ⟨rv, Br, p1, p2, p3, p4⟩ := hk.path hnd h2
  obtain ⟨X, Y, Z, e, q1, q2, q3⟩ := p3.range off n
  refine ⟨o, rv, Y, h1, p1, by rw [p3.length]; exact h3, fun b hb => hB b (p2 b (by rw [e]; simp [hb])), q2, by simp; omega, fun hp => ?_⟩
  obtain ⟨g, a, cur, e, fz, a1, a2, a3, a4, rfl⟩ := p4 hp
  refine ⟨g, a, cur, e, fz, a1, a2, hB g a3, by omega, ?_⟩
  rw [List.drop_take, List.take_take, List.drop_drop, Nat.min_eq_left (by omega)]

/-! ### read-only cells -/

theorem isLit_any {w : World} {φ φ' : Nat → Prop} {t : T} {v : Value} (ht : t.isLit = true) (h : IsT w φ t v) : IsT w φ' t v := by
  cases t with
  | lit x => simpa only [IsT] using h
  | sl sz rows => cases ht

theorem lentAll_cons (c : C) (cs : List C) : lentAll (c :: cs) = (C.lent c || lentAll cs) := rfl

theorem free_is {w : World} {Φ : Bool → Nat → Prop} (hsub : ∀ b, Φ false b → Φ true b) : ∀ {cs : List C} {ts : List T} {vs : List Value} {B : List Nat} (b : Bool), cs.all C.free = true → cellsToT cs = some ts → (lentAll cs = true → b = true) → IsCs w Φ cs vs B → B = [] ∧ IsTs w (Φ b) ts vs
  | [], ts, vs, B, b, _, h, _, hc => by
    simp only [cellsToT, Option.some.injEq] at h
    subst h
    simp only [IsCs] at hc
    simp only [IsTs]
    exact ⟨hc.2, hc.1⟩
  | c :: cs, ts, vs, B, b, hf, h, hl, hc => by
    simp only [List.all_cons, Bool.and_eq_true] at hf
    simp only [cellsToT] at h
    rw [lentAll_cons] at hl
    simp only [Bool.or_eq_true] at hl
    cases h1 : c.toT with
    | none => simp [h1] at h
    | some t =>
      cases h2 : cellsToT cs with
      | none => simp [h1, h2] at h
      | some ts' =>
        simp only [h1, h2, Option.some.injEq] at h
        subst h
        simp only [IsCs] at hc
        obtain ⟨v, vs', B1, B2, rfl, rfl, h3, h4⟩ := hc
        obtain ⟨rfl, h5⟩ := free_is hsub b hf.2 h2 (fun hh => hl (.inr hh)) h4
        simp only [IsTs]
        cases c with
        | im x t0 =>
          simp only [C.toT, Option.some.injEq] at h1
          subst h1
          simp only [IsC] at h3
          obtain ⟨rfl, h3⟩ := h3
          refine ⟨rfl, v, vs', rfl, ?_, h5⟩
          by_cases hlit : t0.isLit = true
          · exact isLit_any hlit h3
          · cases x with
            | false => cases b with
              | false => exact h3
              | true => exact IsT.mono hsub (fun _ _ => rfl) _ _ h3
            | true =>
              have : b = true := hl (.inl (by simp [C.lent, hlit]))
              subst this
              exact h3
        | ow t0 =>
          cases t0 with
          | lit x =>
            simp only [C.toT, Option.some.injEq] at h1
            subst h1
            simp only [IsC, IsO] at h3
            obtain ⟨rfl, h3, rfl⟩ := h3
            refine ⟨rfl, v, vs', rfl, ?_, h5⟩
            simp only [IsT]; exact ⟨trivial, h3⟩
          | sl _ _ => simp [C.free] at hf
        | own _ _ => simp [C.free] at hf
        | hole => simp [C.free] at hf

/-- A value of so many cells. -/
def valOf (ag : Bool) (vs : List Value) (v : Value) : Prop := if ag then v = .agg vs.toArray else vs = [v]

theorem ofT_is {w : World} {Φ : Bool → Nat → Prop} {ob : List (Nat × O)} {ρ : Nat → List Value} {b ag : Bool} {ts : List T} {vs : List Value} {v : Value} (h : IsTs w (Φ b) ts vs) (hv : valOf ag vs v) : SlotR w Φ ob ρ (ofT b ag ts) v := by
  unfold ofT
  cases ag with
  | true =>
    simp only [valOf, if_true] at hv ⊢
    simp only [SlotR]
    exact ⟨vs, hv, h⟩
  | false =>
    simp only [valOf, Bool.false_eq_true, if_false] at hv ⊢
    subst hv
    split
    · rename_i x
      simp only [IsTs, IsT] at h
      obtain ⟨v', vs', e, h2, rfl⟩ := h
      simp only [List.cons.injEq, and_true] at e
      subst e
      simpa only [SlotR] using h2
    · rename_i t _
      simp only [IsTs] at h
      obtain ⟨v', vs', e, h2, rfl⟩ := h
      simp only [List.cons.injEq, and_true] at e
      subst e
      simpa only [SlotR] using h2
    · simp only [SlotR]

theorem view_is {w : World} {Φ : Bool → Nat → Prop} {σ : F} {tm : List Value} {ρ : Nat → List Value} {B : List Nat} (h : Rel w Φ σ tm ρ B) {k : Nat} {p : List (Nat × Nat)} {off n : Nat} {cs : List C} {o : O} {vs : List Value} {Bc : List Nat} {ag : Bool} {v : Value}
    (hl : Ev.look σ.ob k = some o) (hv : valsAt w o.cells (ρ k) p = some vs) (hn : off + n ≤ vs.length) (hc : IsCs w Φ cs ((vs.drop off).take n) Bc) (hval : valOf ag ((vs.drop off).take n) v) : SlotR w Φ σ.ob ρ (F.view k p off n ag cs) v := by
  unfold F.view
  split
  · rename_i hf
    split
    · rename_i ts hts
      exact ofT_is (free_is h.sub.1 (lentAll cs) hf hts (fun h => h) hc).2 hval
    · simp only [SlotR]
  · simp only [SlotR]
    exact ⟨o, vs, hl, hv, hn, hval⟩

/-! ### types -/

section
variable {P : Program} {e : Env}

theorem EnvOk.one (he : EnvOk P e) {t : TypeId} {v : TV} (h : e.ty t = some v) (ha : v.agg = false) : v.cells = 1 := by
  obtain ⟨i, z, _, _, _, _, _, _, h7, _, h9, _⟩ := he.ty t v h
  rw [ha] at h9
  rw [← h7]
  cases z <;> first | rfl | (simp [isAggValue] at h9; done)

theorem EnvOk.und (he : EnvOk P e) {t : TypeId} {v : TV} (h : e.ty t = some v) : P.underlying t = some v.desc := (he.ty t v h).choose_spec.choose_spec.2.1

theorem EnvOk.run_sizeOf (he : EnvOk P e) {t : TypeId} {v : TV} (h : e.ty t = some v) (w : World) : (sizeOf t).run P w = .ok v.cells w := by
  obtain ⟨i, z, h1, _, h3, _⟩ := he.ty t v h
  simp [sizeOf, typeInfo, h1, h3]

theorem EnvOk.run_isAgg (he : EnvOk P e) {t : TypeId} {v : TV} (h : e.ty t = some v) (w : World) : (Go.isAgg t).run P w = .ok v.agg w := by
  obtain ⟨i, z, h1, h2, h3, h4, h5, h6, h7, h8, h9, h10⟩ := he.ty t v h
  rw [h8]
  simp only [Go.isAgg, Sem.run_bind, run_underlying h2, Result.andThen_ok]
  cases hd : v.desc <;> simp [isAggDesc]

theorem EnvOk.run_zero (he : EnvOk P e) {t : TypeId} {v : TV} (h : e.ty t = some v) : ∃ z, (∀ w, (zeroValue t).run P w = .ok z w) ∧ cellsT z.cells.toList = some v.zero ∧ z.cells.size = v.cells := by
  obtain ⟨i, z, h1, h2, h3, h4, h5, h6, h7, h8, h9, h10⟩ := he.ty t v h
  exact ⟨z, fun w => by simp [zeroValue, typeInfo, h1, h5], h6, h7⟩

theorem EnvOk.run_bytes (he : EnvOk P e) {t : TypeId} {v : TV} (h : e.ty t = some v) (w : World) : ∃ i, (typeInfo t).run P w = .ok i w ∧ i.bytes = v.bytes ∧ i.size = v.cells := by
  obtain ⟨i, z, h1, h2, h3, h4, h5, h6, h7, h8, h9, h10⟩ := he.ty t v h
  exact ⟨i, by simp [typeInfo, h1], h4, h3⟩

/-! ### load -/

theorem run_loadVar (he : EnvOk P e) {t : TypeId} {v : TV} (h : e.ty t = some v) {w : World} {g a : Nat} {cur : Array Value} {et : TypeId} {fz : Nat × Nat} (hg : w.heap[g]? = some (.cells cur et fz)) (hs : a + v.cells ≤ cur.size) :
    ∃ x, (loadVar t ⟨g, a, none⟩).run P w = .ok x w ∧ valOf v.agg ((cur.toList.drop a).take v.cells) x := by
  have hcell : ∀ j, w.cell? ⟨g, j, none⟩ = cur[j]? := fun j => by simp [World.cell?, hg]
  cases ha : v.agg with
  | true =>
    refine ⟨.agg ((cur.toList.drop a).take v.cells).toArray, ?_, by simp [valOf]⟩
    have hl : ((cur.toList.drop a).take v.cells).length = v.cells := by simp; omega
    have := run_loadCells_list (P := P) w ⟨g, a, none⟩ ((cur.toList.drop a).take v.cells) (fun j x hj => by
      rw [List.getElem?_take] at hj
      split at hj
      · rw [List.getElem?_drop] at hj
        rw [Addr.add_lit, hcell]
        simpa using hj
      · cases hj)
    rw [hl] at this
    simp only [loadVar, Sem.run_bind, he.run_isAgg h, ha, Result.andThen_ok, if_true, he.run_sizeOf h, this, Sem.run_pure]
  | false =>
    have h1 := he.one h ha
    rw [h1] at hs ⊢
    obtain ⟨x, hx⟩ : ∃ x, cur[a]? = some x := ⟨cur[a]'(by omega), by simp [show a < cur.size by omega]⟩
    refine ⟨x, ?_, ?_⟩
    · simp only [loadVar, Sem.run_bind, he.run_isAgg h, ha, Result.andThen_ok, Bool.false_eq_true, if_false, run_load, hcell, hx]
    · simp only [valOf, Bool.false_eq_true, if_false]
      have hx' : cur.toList[a]? = some x := by simpa using hx
      obtain ⟨hlt, rfl⟩ := List.getElem?_eq_some_iff.mp hx'
      rw [List.drop_eq_getElem_cons hlt]
      simp

variable {σ : F} {d : Option Tmp} {ty : TypeId} {pos : String} {after : Array Edge} {gd : Option (Nat × Bool)}

theorem valOf_eq {ag : Bool} {vs : List Value} {x y : Value} (h : valOf ag vs x) (k : valOf ag vs y) : x = y := by
  unfold valOf at h k
  cases ag with
  | true => simp only [if_true] at h k; rw [h, k]
  | false =>
    simp only [Bool.false_eq_true, if_false] at h k
    rw [h] at k
    simpa using k

theorem ok_load_ptr (he : EnvOk P e) (t : TypeId) (v : TV) (x : Operand) (k : Nat) (p : List (Nat × Nat)) (off : Nat) (cs : List C) (h : e.ty t = some v) (hx : σ.rd x = .ptr k p off) (hc : σ.cells k p off v.cells = some cs) (s : S) (hs : s = .dead ∨ s = F.view k p off v.cells v.agg cs) :
    OpStill P ⟨d, .load t x, ty, pos, after, gd⟩ σ (σ.put d s) :=
  opVal (o := ⟨d, .load t x, ty, pos, after, gd⟩) fun w Φ tm ρ B ds hR => by
    have hr := hR.rd (ds := ds) x
    rw [hx] at hr
    simp only [SlotR] at hr
    obtain ⟨o, g, a, h1, h2, h3⟩ := hr
    obtain ⟨o', vs, Bc, c1, c2, c3, c4, c5, c6, c7⟩ := hR.cells hc
    rw [h1] at c1
    cases c1
    have hp : p ≠ [] := by rintro rfl; simp [addrAt] at h2
    obtain ⟨g', a', cur, et, fz, q1, q2, q3, q4, q5⟩ := c7 hp
    rw [h2] at q1
    cases q1
    obtain ⟨x', r1, r2⟩ := run_loadVar he h (a := a + off) q2 (by omega)
    rw [← q5] at r2
    refine ⟨x', fun w2 hw2 => ?_, ?_⟩
    · obtain ⟨x2, s1, s2⟩ := run_loadVar he h (a := a + off) (hw2.get q2) (by omega)
      rw [← q5] at s2
      rw [valOf_eq r2 s2]
      simp only [execOp, h3, Instr.loadAt, Instr.sureAddr, Sem.run_bind, Sem.run_pure, Result.andThen_ok, s1]
    · rcases hs with rfl | rfl
      · simp only [SlotR]
      · exact view_is hR h1 c2 c3 c5 r2

theorem ok_load_pt (he : EnvOk P e) (t : TypeId) (v : TV) (x : Operand) (b : Bool) (ts : List T) (h : e.ty t = some v) (hx : σ.rd x = .pt b ts) (hl : v.cells ≤ ts.length) :
    OpStill P ⟨d, .load t x, ty, pos, after, gd⟩ σ (σ.put d (ofT b v.agg (ts.take v.cells))) :=
  opVal (o := ⟨d, .load t x, ty, pos, after, gd⟩) fun w Φ tm ρ B ds hR => by
    have hr := hR.rd (ds := ds) x
    rw [hx] at hr
    simp only [SlotR] at hr
    obtain ⟨g, o, cur, et, fz, h1, h2, h3, h4⟩ := hr
    have hlen := h4.length
    have hpos : 0 < v.cells := (he.ty t v h).choose_spec.choose_spec.2.2.2.2.2.2.2.2.2
    simp only [List.length_take, List.length_drop, Array.length_toList] at hlen
    obtain ⟨x', r1, r2⟩ := run_loadVar he h (a := o) h3 (by omega)
    refine ⟨x', fun w2 hw2 => ?_, ?_⟩
    · obtain ⟨x2, s1, s2⟩ := run_loadVar he h (a := o) (hw2.get h3) (by omega)
      rw [valOf_eq r2 s2]
      simp only [execOp, h1, Instr.loadAt, Instr.sureAddr, Sem.run_bind, Sem.run_pure, Result.andThen_ok, s1]
    · have := h4.take v.cells
      rw [List.take_take, Nat.min_eq_left hl] at this
      exact ofT_is this r2

end

end Go.Proofs.YtckojpaklblnpaaDoor.Ev

/- Addresses, fields, elements, slices of slices. -/
set_option linter.unusedVariables false
set_option linter.unusedSimpArgs false
namespace Go.Proofs.YtckojpaklblnpaaDoor.Ev
open Go Go.RowKit

theorem addrAt_snoc {w : World} : ∀ (p : List (Nat × Nat)) (cs : List C) (vs : List Value) (r : List C) (rv : List Value) (c i : Nat) (x : C) (v : Value) (g o : Nat) (r2 : List C) (rv2 : List Value), getRow cs p = some r → valsAt w cs vs p = some rv → r[c]? = some x → rv[c]? = some v → stepAt w x v i = some (g, o, r2, rv2) →
    addrAt w cs vs (p ++ [(c, i)]) = some (g, o)
  | [], cs, vs, r, rv, c, i, x, v, g, o, r2, rv2, h1, h2, h3, h4, h5 => by
    simp only [getRow, Option.some.injEq] at h1
    simp only [valsAt, Option.some.injEq] at h2
    subst h1 h2
    simp [addrAt, h3, h4, h5]
  | (c0, i0) :: p, cs, vs, r, rv, c, i, x, v, g, o, r2, rv2, h1, h2, h3, h4, h5 => by
    obtain ⟨x0, r0, e1, e2, e3⟩ := getRow_cons h1
    simp only [valsAt, e1] at h2
    cases hv : vs[c0]? with
    | none => simp [hv] at h2
    | some v0 =>
      simp only [hv] at h2
      cases hs : stepAt w x0 v0 i0 with
      | none => simp [hs] at h2
      | some q =>
        obtain ⟨g0, o0, r1, rv1⟩ := q
        simp only [hs] at h2
        have := stepAt_some hs
        rw [e2] at this
        cases this
        have ih := addrAt_snoc p r0 rv1 r rv c i x v g o r2 rv2 e3 h2 h3 h4 h5
        cases p with
        | nil => simpa [addrAt, e1, hv, hs] using ih
        | cons q p => simpa [addrAt, e1, hv, hs] using ih

theorem IsTRows.at_ {w : World} {φ : Nat → Prop} {sz : Nat} : ∀ {rows : List (List T)} {vs : List Value} {i : Nat} {r : List T}, IsTRows w φ sz rows vs → rows[i]? = some r → r.length = sz ∧ IsTs w φ r ((vs.drop (i * sz)).take sz)
  | [], _, _, _, _, h => by simp at h
  | r0 :: rs, vs, 0, r, hh, h => by
    simp only [List.getElem?_cons_zero, Option.some.injEq] at h
    subst h
    simp only [IsTRows] at hh
    simpa using ⟨hh.1, hh.2.1⟩
  | r0 :: rs, vs, i + 1, r, hh, h => by
    simp only [List.getElem?_cons_succ] at h
    simp only [IsTRows] at hh
    have := IsTRows.at_ hh.2.2 h
    rw [List.drop_drop] at this
    rwa [Nat.succ_mul, Nat.add_comm]

theorem IsTRows.drop {w : World} {φ : Nat → Prop} {sz : Nat} : ∀ (n : Nat) {rows : List (List T)} {vs : List Value}, IsTRows w φ sz rows vs → IsTRows w φ sz (rows.drop n) (vs.drop (n * sz))
  | 0, _, _, h => by simpa using h
  | n + 1, [], _, h => by simp only [List.drop_nil, IsTRows]
  | n + 1, r :: rs, vs, h => by
    simp only [IsTRows] at h
    have := h.2.2.drop n
    rw [List.drop_drop] at this
    simpa [Nat.succ_mul, Nat.add_comm] using this

theorem IsTRows.take {w : World} {φ : Nat → Prop} {sz : Nat} : ∀ (n : Nat) {rows : List (List T)} {vs : List Value}, IsTRows w φ sz rows vs → IsTRows w φ sz (rows.take n) vs
  | 0, _, _, h => by simp only [List.take_zero, IsTRows]
  | n + 1, [], _, h => by simp only [List.take_nil, IsTRows]
  | n + 1, r :: rs, vs, h => by
    simp only [IsTRows] at h
    simp only [List.take_succ_cons, IsTRows]
    exact ⟨h.1, h.2.1, h.2.2.take n⟩

/-- An element of a read-only slice. -/
theorem IsT.elem {w : World} {Φ : Bool → Nat → Prop} {ob : List (Nat × O)} {ρ : Nat → List Value} {b : Bool} {sz : Nat} {rows : List (List T)} {v : Value} {i : Nat} {r : List T} (h : IsT w (Φ b) (.sl sz rows) v) (hr : rows[i]? = some r) :
    ∃ g o cap, v = .slice (some ⟨g, o, none⟩) rows.length cap ∧ i < rows.length ∧ SlotR w Φ ob ρ (.pt b r) (.pointer (some ⟨g, o + i * sz, none⟩)) := by
  simp only [IsT] at h
  obtain ⟨a, cap, rfl, h2, h3⟩ := h
  have hlt : i < rows.length := by
    rcases Nat.lt_or_ge i rows.length with h | h
    · exact h
    · simp [List.getElem?_eq_none h] at hr
  rcases h3 with rfl | ⟨g, o, cur, e, fz, rfl, h4, h5, h6⟩
  · simp at hr
  · obtain ⟨h7, h8⟩ := h6.at_ hr
    refine ⟨g, o, cap, rfl, hlt, ?_⟩
    simp only [SlotR]
    rw [List.drop_drop] at h8
    exact ⟨g, o + i * sz, cur, e, fz, rfl, h4, h5, by rw [h7]; exact h8⟩

theorem elem_is {w : World} {Φ : Bool → Nat → Prop} {σ : F} {tm : List Value} {ρ : Nat → List Value} {B : List Nat} (hR : Rel w Φ σ tm ρ B) {m k : Nat} {p : List (Nat × Nat)} {off : Nat} {c : C} {i : Nat} {s : S} {o : O} {vs : List Value} {v : Value}
    (hc : σ.cells k p off 1 = some [c]) (hl : Ev.look σ.ob k = some o) (hv : valsAt w o.cells (ρ k) p = some vs) (hx : (vs.drop off).take 1 = [v]) (h : elemAt m k p off c i = some s) :
    ∃ g o len cap, v = .slice (some ⟨g, o, none⟩) len cap ∧ i < len ∧ SlotR w Φ σ.ob ρ s (.pointer (some ⟨g, o + i * m, none⟩)) := by
  obtain ⟨o', vs', Bc, c1, c2, c3, c4, c5, c6, _⟩ := hR.cells hc
  rw [hl] at c1; cases c1
  rw [hv] at c2; cases c2
  rw [hx] at c5
  simp only [IsCs] at c5
  obtain ⟨v', vs'', B1, B2, e1, _, hC, _⟩ := c5
  simp only [List.cons.injEq] at e1
  obtain ⟨rfl, rfl⟩ := e1
  obtain ⟨o2, r, d1, d2, d3, d4⟩ := cells_some hc
  rw [hl] at d1; cases d1
  have hrc : r[off]? = some c := by
    have : ((r.drop off).take 1)[0]? = some c := by rw [← d4]; rfl
    rw [List.getElem?_take] at this
    simpa using this
  have hvc : vs[off]? = some v := by
    have : ((vs.drop off).take 1)[0]? = some v := by rw [hx]; rfl
    rw [List.getElem?_take] at this
    simpa using this
  have main : (c.sz = some m ∧ ∃ r2, c.row i = some r2) → s = .ptr k (p ++ [(off, i)]) 0 → ∃ g o len cap, v = .slice (some ⟨g, o, none⟩) len cap ∧ i < len ∧ SlotR w Φ σ.ob ρ s (.pointer (some ⟨g, o + i * m, none⟩)) := by
    rintro ⟨h1, r2, h2⟩ rfl
    obtain ⟨g, n, cap, cur, e, fz, X, Br, Y, sz, rfl, hsz, hn, hin, hnc, hcap, hheap, hfz, hcur, rfl, hrl, hrc', _, _⟩ := hC.row h2
    rw [h1] at hsz
    cases hsz
    refine ⟨g, 0, n, cap, rfl, hin, ?_⟩
    simp only [SlotR]
    refine ⟨o, g, i * m, hl, ?_, by simp⟩
    exact addrAt_snoc p o.cells (ρ k) r vs off i c _ g (i * m) r2 ((cur.toList.drop (i * m)).take m) d2 hv hrc hvc (by simp [stepAt, h2, h1, hheap])
  unfold elemAt at h
  split at h
  · rename_i b sz rows
    split at h
    · rename_i hsz
      subst hsz
      simp only [Option.map_eq_some_iff] at h
      obtain ⟨r', hr', rfl⟩ := h
      simp only [IsC] at hC
      obtain ⟨g, o, cap, rfl, hlt, hs⟩ := hC.2.elem (ob := σ.ob) (ρ := ρ) hr'
      exact ⟨g, o, _, cap, rfl, hlt, hs⟩
    · cases h
  · split at h
    · rename_i hsz
      simp only [Option.map_eq_some_iff] at h
      obtain ⟨r', hr', rfl⟩ := h
      exact main ⟨hsz, r', hr'⟩ rfl
    · cases h

section
variable {P : Program} {e : Env}

theorem run_indexAt_sl {t el : TypeId} {m : Nat} {g o len cap i : Nat} {k : IntKind} {w : World} (ht : P.underlying t = some (.slice el)) (hm : (sizeOf el).run P w = .ok m w) (hi : i < len) :
    (Instr.indexAt t (.slice (some ⟨g, o, none⟩) len cap) (.int k (i : Int))).run P w = .ok (.pointer (some ⟨g, o + i * m, none⟩)) w := by
  have h1 : (0 : Int) ≤ i ∧ (i : Int) < len := by omega
  simp [Instr.indexAt, asIntOf, run_underlying ht, h1, hm, Addr.add_lit]
  intro h2; omega

theorem run_indexAt_arr {t el : TypeId} {m n : Nat} {g o i : Nat} {k : IntKind} {w : World} (ht : P.underlying t = some (.array n el)) (hm : (sizeOf el).run P w = .ok m w) (hi : i < n) :
    (Instr.indexAt t (.pointer (some ⟨g, o, none⟩)) (.int k (i : Int))).run P w = .ok (.pointer (some ⟨g, o + i * m, none⟩)) w := by
  have h1 : (0 : Int) ≤ i ∧ (i : Int) < n := by omega
  simp [Instr.indexAt, asIntOf, run_underlying ht, h1, hm, Addr.add_lit, Instr.sureAddr]
  intro h2; omega

theorem run_fieldAt {t : TypeId} {fs : Array Field} {f : Nat} {fd : Field} {m g o : Nat} {w : World} (ht : P.underlying t = some (.struct fs)) (hf : fs[f]? = some fd) (hm : (sizeOf fd.type).run P w = .ok m w) (hpos : m ≠ 0) :
    (Instr.fieldAt t (.pointer (some ⟨g, o, none⟩)) f).run P w = .ok (.pointer (some ⟨g, o + fd.offset, none⟩)) w := by
  simp [Instr.fieldAt, run_underlying ht, hf, Instr.sureAddr, fieldPlace, hm, hpos, Addr.add_lit]

theorem EnvOk.pos (he : EnvOk P e) {t : TypeId} {v : TV} (h : e.ty t = some v) : 0 < v.cells := (he.ty t v h).choose_spec.choose_spec.2.2.2.2.2.2.2.2.2

variable {σ : F} {d : Option Tmp} {ty : TypeId} {pos : String} {after : Array Edge} {gd : Option (Nat × Bool)}

theorem addr_is (he : EnvOk P e) {w : World} {Φ : Bool → Nat → Prop} {tm : List Value} {ρ : Nat → List Value} {B : List Nat} (hR : Rel w Φ σ tm ρ B) {t : TypeId} {x i s : S} {xv iv : Value} (hx : SlotR w Φ σ.ob ρ x xv) (hi : SlotR w Φ σ.ob ρ i iv) (h : addrOf e σ t x i = some s) :
    ∃ v, (∀ w2, (Instr.indexAt t xv iv).run P w2 = .ok v w2) ∧ SlotR w Φ σ.ob ρ s v := by
  unfold addrOf at h
  split at h
  · rename_i n v hn hv
    obtain ⟨k, rfl⟩ := intOf_is hn hi
    split at h
    · cases h
    · rename_i hneg
      obtain ⟨j, rfl⟩ := Int.eq_ofNat_of_zero_le (Int.not_lt.mp hneg)
      simp only [Int.toNat_natCast] at h
      split at h
      · rename_i el hd
        have hu := he.und hv
        rw [hd] at hu
        split at h
        · rename_i m hm
          have hsz := fun w2 => he.run_sizeOf hm w2
          split at h
          · rename_i b sz rows
            split at h
            · rename_i hs
              subst hs
              simp only [Option.map_eq_some_iff] at h
              obtain ⟨r, hr, rfl⟩ := h
              simp only [SlotR] at hx
              obtain ⟨g, o, cap, rfl, hlt, hS⟩ := hx.elem (ob := σ.ob) (ρ := ρ) hr
              exact ⟨_, fun w2 => run_indexAt_sl hu (hsz w2) hlt, hS⟩
            · cases h
          · rename_i kk p off
            split at h
            · rename_i c hc
              simp only [SlotR] at hx
              obtain ⟨o, vs, h1, h2, h3, h4⟩ := hx
              simp only [Bool.false_eq_true, if_false] at h4
              obtain ⟨g, o, len, cap, rfl, hlt, hS⟩ := elem_is hR hc h1 h2 h4 h
              exact ⟨_, fun w2 => run_indexAt_sl hu (hsz w2) hlt, hS⟩
            · cases h
          · rename_i kk p off sz lo hi'
            split at h
            · rename_i hcond
              obtain ⟨hlo, rfl⟩ := hcond
              split at h
              · rename_i c hc
                simp only [SlotR] at hx
                obtain ⟨o, vs, a, len, cap, h1, h2, h3, h4, h5, h6, hcap, a', ha', rfl⟩ := hx
                obtain ⟨g, o, len', cap', e1, hlt, hS⟩ := elem_is hR hc h1 h2 h4 h
                simp only [Value.slice.injEq] at e1
                obtain ⟨rfl, rfl, rfl⟩ := e1
                rw [ha' (by omega)]
                simp only [Option.map_some, Addr.add_lit]
                have := fun w2 => run_indexAt_sl (P := P) (g := g) (o := o + lo * m.cells) (cap := cap - lo) (k := k) hu (hsz w2) (show j < hi' - lo by omega)
                refine ⟨_, this, ?_⟩
                have e3 : o + lo * m.cells + j * m.cells = o + (lo + j) * m.cells := by rw [Nat.add_mul]; omega
                rw [e3]
                exact hS
              · cases h
            · cases h
          · cases h
        · cases h
      · rename_i len el hd
        have hu := he.und hv
        rw [hd] at hu
        split at h
        · rename_i m hm
          have hsz := fun w2 => he.run_sizeOf hm w2
          split at h
          · rename_i hlt
            split at h
            · rename_i kk p off
              simp only [Option.some.injEq] at h
              subst h
              simp only [SlotR] at hx
              obtain ⟨o, g, a, h1, h2, rfl⟩ := hx
              refine ⟨_, fun w2 => run_indexAt_arr hu (hsz w2) hlt, ?_⟩
              simp only [SlotR]
              exact ⟨o, g, a, h1, h2, by rw [Nat.add_assoc]⟩
            · rename_i b ts
              simp only [Option.some.injEq] at h
              subst h
              simp only [SlotR] at hx
              obtain ⟨g, o, cur, et, fz, rfl, h2, h3, h4⟩ := hx
              refine ⟨_, fun w2 => run_indexAt_arr hu (hsz w2) hlt, ?_⟩
              simp only [SlotR]
              refine ⟨g, _, cur, et, fz, rfl, h2, h3, ?_⟩
              have := h4.drop (j * m.cells)
              rw [List.drop_take, List.drop_drop] at this
              rw [List.length_drop]
              exact this
            · cases h
          · cases h
        · cases h
      · cases h
  · cases h

theorem ok_indexAddr (he : EnvOk P e) (t : TypeId) (x i : Operand) (s : S) (h : addrOf e σ t (σ.rd x) (σ.rd i) = some s) : OpStill P ⟨d, .indexAddr t x i, ty, pos, after, gd⟩ σ (σ.put d s) :=
  opVal (o := ⟨d, .indexAddr t x i, ty, pos, after, gd⟩) fun w Φ tm ρ B ds hR => by
    obtain ⟨v, h1, h2⟩ := addr_is he hR (hR.rd (ds := ds) x) (hR.rd (ds := ds) i) h
    exact ⟨v, fun w2 _ => by simp only [execOp, Sem.run_bind, h1, Result.andThen_ok, Sem.run_pure], h2⟩

theorem ok_fieldAddr (he : EnvOk P e) (t : TypeId) (tv w0 : TV) (x : Operand) (f : Nat) (fs : Array Field) (fd : Field) (s : S) (ht : e.ty t = some tv) (hd : tv.desc = .struct fs) (hf : fs[f]? = some fd) (hw : e.ty fd.type = some w0)
    (h : (∃ k p o, σ.rd x = .ptr k p o ∧ s = .ptr k p (o + fd.offset)) ∨ (∃ b ts, σ.rd x = .pt b ts ∧ s = .pt b (ts.drop fd.offset))) : OpStill P ⟨d, .fieldAddr t x f, ty, pos, after, gd⟩ σ (σ.put d s) :=
  opVal (o := ⟨d, .fieldAddr t x f, ty, pos, after, gd⟩) fun w Φ tm ρ B ds hR => by
    have hu := he.und ht
    rw [hd] at hu
    have hr := hR.rd (ds := ds) x
    have hsz := fun w2 => he.run_sizeOf hw w2
    have hpos : w0.cells ≠ 0 := Nat.ne_of_gt (he.pos hw)
    rcases h with ⟨k, p, o', hx, rfl⟩ | ⟨b, ts, hx, rfl⟩
    · rw [hx] at hr
      simp only [SlotR] at hr
      obtain ⟨o, g, a, h1, h2, h3⟩ := hr
      refine ⟨.pointer (some ⟨g, a + o' + fd.offset, none⟩), fun w2 _ => ?_, ?_⟩
      · simp only [execOp, h3, Sem.run_bind, run_fieldAt hu hf (hsz w2) hpos, Result.andThen_ok, Sem.run_pure]
      · simp only [SlotR]
        exact ⟨o, g, a, h1, h2, by rw [Nat.add_assoc]⟩
    · rw [hx] at hr
      simp only [SlotR] at hr
      obtain ⟨g, o, cur, et, fz, h1, h2, h3, h4⟩ := hr
      refine ⟨.pointer (some ⟨g, o + fd.offset, none⟩), fun w2 _ => ?_, ?_⟩
      · simp only [execOp, h1, Sem.run_bind, run_fieldAt hu hf (hsz w2) hpos, Result.andThen_ok, Sem.run_pure]
      · simp only [SlotR]
        refine ⟨g, _, cur, et, fz, rfl, h2, h3, ?_⟩
        have := h4.drop fd.offset
        rw [List.drop_take, List.drop_drop] at this
        rw [List.length_drop]
        exact this

end

end Go.Proofs.YtckojpaklblnpaaDoor.Ev

/- Fields and elements of values, slices of slices, lengths, bytes to a string. -/
set_option linter.unusedVariables false
set_option linter.unusedSimpArgs false
namespace Go.Proofs.YtckojpaklblnpaaDoor.Ev
open Go Go.RowKit

theorem IsC.len_is {w : World} {Φ : Bool → Nat → Prop} {c : C} {v : Value} {B : List Nat} {n : Nat} (h : IsC w Φ c v B) (hn : c.len = some n) : ∃ a cap, v = .slice a n cap ∧ n ≤ cap := by
  have own : ∀ {sz m : Nat} {R : List Value → List Nat → Prop}, OwnSl w sz m v B R → m = n → ∃ a cap, v = .slice a n cap ∧ n ≤ cap := by
    intro sz m R h e
    subst e
    rcases h with ⟨rfl, rfl, _⟩ | ⟨g, cap, cur, e, fz, B', rfl, _, _, h4, _⟩
    · exact ⟨none, 0, rfl, Nat.le_refl _⟩
    · exact ⟨_, cap, rfl, h4.2⟩
  cases c with
  | im b t =>
    cases t with
    | lit x => simp [C.len] at hn
    | sl sz rows =>
      simp only [C.len, Option.some.injEq] at hn
      subst hn
      simp only [IsC, IsT] at h
      obtain ⟨_, a, cap, rfl, h2, _⟩ := h
      exact ⟨a, cap, rfl, h2⟩
  | ow t =>
    cases t with
    | lit x => simp [C.len] at hn
    | sl sz rows =>
      simp only [C.len, Option.some.injEq] at hn
      simp only [IsC, IsO] at h
      exact own h hn
  | own sz rows =>
    simp only [C.len, Option.some.injEq] at hn
    simp only [IsC] at h
    exact own h hn
  | hole => simp [C.len] at hn

theorem IsT.slice {w : World} {φ : Nat → Prop} {sz : Nat} {rows : List (List T)} {a : Option Addr} {len cap lo hi : Nat} (h : IsT w φ (.sl sz rows) (.slice a len cap)) (h1 : lo ≤ hi) (h2 : hi ≤ rows.length) :
    ∀ a', (cap ≠ lo → a' = a.map (·.add (lo * sz))) → IsT w φ (.sl sz ((rows.drop lo).take (hi - lo))) (.slice a' (hi - lo) (cap - lo)) := by
  intro a2 ha2
  simp only [IsT] at h ⊢
  obtain ⟨a', cap', e, h4, h5⟩ := h
  simp only [Value.slice.injEq] at e
  obtain ⟨rfl, rfl, rfl⟩ := e
  have hl : ((rows.drop lo).take (hi - lo)).length = hi - lo := by simp; omega
  refine ⟨_, cap - lo, by rw [hl], by rw [hl]; omega, ?_⟩
  by_cases hh : hi = lo
  · left; simp [hh]
  · right
    rcases h5 with rfl | ⟨b, o, cur, e, fz, rfl, h6, h7, h8⟩
    · simp at h2; omega
    · rw [ha2 (by omega)]
      refine ⟨b, o + lo * sz, cur, e, fz, by simp [Addr.add_lit], h6, h7, ?_⟩
      have := (h8.drop lo).take (hi - lo)
      rw [List.drop_drop] at this
      exact this

theorem one_cells {v : Value} (h : one v) : v.cells.toList = [v] := by
  cases v <;> first | rfl | (simp [one, Value.oneCell'] at h; done)

theorem take_one {w : World} {Φ : Bool → Nat → Prop} {c : C} {vs : List Value} {off : Nat} {B : List Nat} (h : IsCs w Φ [c] ((vs.drop off).take 1) B) : ∃ v, (vs.drop off).take 1 = [v] ∧ IsC w Φ c v B := by
  simp only [IsCs] at h
  obtain ⟨v, vs', B1, B2, e, rfl, h3, rfl, rfl⟩ := h
  exact ⟨v, e, by simpa using h3⟩

/-- What a slot's value is, read. -/
theorem freeOf_is {w : World} {Φ : Bool → Nat → Prop} {σ : F} {tm : List Value} {ρ : Nat → List Value} {B : List Nat} (hR : Rel w Φ σ tm ρ B) {s : S} {v : Value} {ts : List T} (h : σ.freeOf s = some ts) (hs : SlotR w Φ σ.ob ρ s v) :
    IsTs w (fun b => Φ true b ∨ b ∈ B) ts v.cells.toList := by
  have hΦ : ∀ x b, Φ x b → (Φ true b ∨ b ∈ B) := fun x b hb => .inl (by cases x; exact hR.sub.1 b hb; exact hb)
  unfold F.freeOf at h
  split at h
  · simp only [Option.some.injEq] at h
    subst h
    simp only [SlotR] at hs
    obtain ⟨rfl, h1⟩ := hs
    rw [one_cells h1]
    simp only [IsTs, IsT]
    exact ⟨_, [], rfl, ⟨rfl, h1⟩, rfl⟩
  · simp only [Option.some.injEq] at h
    subst h
    simp only [SlotR] at hs
    rw [one_cells hs.one]
    simp only [IsTs]
    exact ⟨v, [], rfl, IsT.mono (hΦ _) (fun _ _ => rfl) _ _ hs, rfl⟩
  · simp only [Option.some.injEq] at h
    subst h
    simp only [SlotR] at hs
    obtain ⟨vs, rfl, h2⟩ := hs
    exact IsTs.mono (hΦ _) (fun _ _ => rfl) _ _ h2
  · simp only [Option.some.injEq] at h
    subst h
    simp only [SlotR] at hs
    subst hs
    rw [one_cells (one_slice _ _ _)]
    simp only [IsTs, IsT]
    exact ⟨_, [], rfl, ⟨none, 0, rfl, Nat.le_refl _, .inl trivial⟩, rfl⟩
  · rename_i k p off n ag
    split at h
    · rename_i cs hc
      obtain ⟨o, vs, Bc, c1, c2, c3, c4, c5, c6, _⟩ := hR.cells hc
      simp only [SlotR] at hs
      obtain ⟨o', vs', h1, h2, h3, h4⟩ := hs
      rw [h1] at c1; cases c1
      rw [h2] at c2; cases c2
      have := IsCs.toT hΦ cs ts _ Bc h (fun b hb => .inr (c4 b hb)) c5
      cases ag with
      | true =>
        simp only [if_true] at h4
        subst h4
        simpa [Value.cells] using this
      | false =>
        simp only [Bool.false_eq_true, if_false] at h4
        rw [h4] at this c5
        have h1v : one v := by
          cases cs with
          | nil => simp [IsCs] at c5
          | cons c cs =>
            simp only [IsCs] at c5
            obtain ⟨v', vs', B1, B2, e, _, hC, _⟩ := c5
            simp only [List.cons.injEq] at e
            rw [e.1]
            exact hC.one
        rw [one_cells h1v]
        exact this
    · cases h
  · rename_i k p off sz lo hi
    split at h
    · rename_i c hc
      obtain ⟨o, vs, Bc, c1, c2, c3, c4, c5, c6, _⟩ := hR.cells hc
      simp only [SlotR] at hs
      obtain ⟨o', vs', a, len, cap, h1, h2, h3, h4, h5, h6, h7, a', ha', rfl⟩ := hs
      rw [h1] at c1; cases c1
      rw [h2] at c2; cases c2
      obtain ⟨v', e1, hC⟩ := take_one c5
      rw [h4] at e1
      simp only [List.cons.injEq, and_true] at e1
      subst e1
      split at h
      · rename_i sz' rows hct
        split at h
        · rename_i hcond
          simp only [Option.some.injEq] at h
          subst h
          obtain ⟨rfl, hlo, hhi⟩ := hcond
          have := IsC.toT hΦ c _ _ Bc hct (fun b hb => .inr (c4 b hb)) hC
          rw [one_cells (one_slice _ _ _)]
          simp only [IsTs]
          exact ⟨_, [], rfl, this.slice hlo hhi a' ha', rfl⟩
        · cases h
      · cases h
    · cases h
  · cases h

theorem free1_is {w : World} {Φ : Bool → Nat → Prop} {σ : F} {tm : List Value} {ρ : Nat → List Value} {B : List Nat} (hR : Rel w Φ σ tm ρ B) {s : S} {v : Value} {t : T} (h : σ.free1 s = some t) (hs : SlotR w Φ σ.ob ρ s v) :
    IsT w (fun b => Φ true b ∨ b ∈ B) t v := by
  have main : (∀ b ts, s ≠ .agg b ts) → (∀ k p off n, s ≠ .vw k p off n true) → ∀ t, σ.freeOf s = some [t] → IsT w (fun b => Φ true b ∨ b ∈ B) t v := by
    intro n1 n2 t ht
    have h1 := freeOf_is hR ht hs
    have h2 : one v := by
      cases s with
      | agg b ts => exact absurd rfl (n1 b ts)
      | vw k p off n ag =>
        cases ag with
        | true => exact absurd rfl (n2 k p off n)
        | false =>
          simp only [F.freeOf] at ht
          split at ht
          · rename_i cs hc
            obtain ⟨o, vs, Bc, c1, c2, c3, c4, c5, c6, _⟩ := hR.cells hc
            simp only [SlotR, Bool.false_eq_true, if_false] at hs
            obtain ⟨o', vs', q1, q2, q3, q4⟩ := hs
            rw [q1] at c1; cases c1
            rw [q2] at c2; cases c2
            rw [q4] at c5
            cases cs with
            | nil => simp [IsCs] at c5
            | cons c cs =>
              simp only [IsCs] at c5
              obtain ⟨v', vs', B1, B2, e, _, hC, _⟩ := c5
              simp only [List.cons.injEq] at e
              rw [e.1]
              exact hC.one
          · cases ht
      | lit x => simp only [SlotR] at hs; rw [hs.1]; exact hs.2
      | val b t => simp only [SlotR] at hs; exact hs.one
      | nils => simp only [SlotR] at hs; subst hs; exact one_slice _ _ _
      | sub k p off sz lo hi => simp only [SlotR] at hs; obtain ⟨o, vs, a, len, cap, _, _, _, _, _, _, _, a', _, rfl⟩ := hs; exact one_slice _ _ _
      | _ => simp [F.freeOf] at ht
    rw [one_cells h2] at h1
    simp only [IsTs] at h1
    obtain ⟨v', vs', e, h3, _⟩ := h1
    simp only [List.cons.injEq] at e
    rw [e.1]
    exact h3
  unfold F.free1 at h
  split at h
  · cases h
  · cases h
  · rename_i n1 n2
    split at h
    · rename_i t' ht
      simp only [Option.some.injEq] at h
      subst h
      exact main (fun b ts => n1 b ts) (fun k p off n => n2 k p off n) _ ht
    · cases h

theorem lenS_is {w : World} {Φ : Bool → Nat → Prop} {σ : F} {tm : List Value} {ρ : Nat → List Value} {B : List Nat} (hR : Rel w Φ σ tm ρ B) {s : S} {v : Value} {n : Nat} (h : lenS σ s = some n) (hs : SlotR w Φ σ.ob ρ s v) :
    (∃ b, s = .lit (.string b) ∧ v = .string b ∧ b.size = n) ∨ ((∀ x, s ≠ .lit x) ∧ ∃ a cap, v = .slice a n cap ∧ n ≤ cap) := by
  unfold lenS at h
  split at h
  · simp only [Option.some.injEq] at h
    subst h
    simp only [SlotR] at hs
    subst hs
    exact .inr ⟨fun _ e => (by cases e), none, 0, rfl, Nat.le_refl _⟩
  · simp only [Option.some.injEq] at h
    exact .inl ⟨_, rfl, slot_lit hs, h⟩
  · simp only [Option.some.injEq] at h
    subst h
    simp only [SlotR, IsT] at hs
    obtain ⟨a, cap, rfl, h2, _⟩ := hs
    exact .inr ⟨fun _ e => (by cases e), a, cap, rfl, h2⟩
  · split at h
    · rename_i c hc
      obtain ⟨o, vs, Bc, c1, c2, c3, c4, c5, c6, _⟩ := hR.cells hc
      simp only [SlotR, Bool.false_eq_true, if_false] at hs
      obtain ⟨o', vs', h1, h2, h3, h4⟩ := hs
      rw [h1] at c1; cases c1
      rw [h2] at c2; cases c2
      obtain ⟨v', e1, hC⟩ := take_one c5
      rw [h4] at e1
      simp only [List.cons.injEq, and_true] at e1
      subst e1
      obtain ⟨a, cap, rfl, hle⟩ := hC.len_is h
      exact .inr ⟨fun _ e => (by cases e), a, cap, rfl, hle⟩
    · cases h
  · simp only [Option.some.injEq] at h
    subst h
    simp only [SlotR] at hs
    obtain ⟨o, vs, a, len, cap, h1, h2, h3, h4, h5, h6, h7, a', ha', rfl⟩ := hs
    exact .inr ⟨fun _ e => (by cases e), _, _, rfl, by omega⟩
  · cases h


/-! ### slices of slices -/

def OptV : Option Value → Option Int → Prop
  | none, none => True
  | some v, some n => ∃ k, v = .int k n
  | _, _ => False

section
variable {P : Program} {e : Env}

theorem run_bound {k : IntKind} {n : Int} {y : Nat} {code : BoundsCode} {w : World} (h : 0 ≤ n) (h2 : n ≤ y) : (Instr.sliceBound (.int k n) y code).run P w = .ok n.toNat w := by
  have : 0 ≤ n ∧ n ≤ y := ⟨h, h2⟩
  simp only [Instr.sliceBound, asIntOf, Sem.run_bind, Sem.run_pure, Result.andThen_ok, this, and_self, if_true]

theorem run_bounds {isS : Bool} {len cap : Nat} {lo hi : Option Value} {l h : Option Int} {w : World} (hl : OptV lo l) (hh : OptV hi h) (h0 : 0 ≤ l.getD 0) (h1 : l.getD 0 ≤ h.getD len) (h2 : h.getD len ≤ len) (h3 : len ≤ cap) :
    (Instr.sliceBounds isS len cap lo hi none).run P w = .ok ((l.getD 0).toNat, (h.getD len).toNat, cap) w := by
  cases hi with
  | none =>
    cases h with
    | some n => exact hh.elim
    | none =>
      simp only [Option.getD_none] at h1 h2
      cases lo with
      | none =>
        cases l with
        | some n => exact hl.elim
        | none => simp [Instr.sliceBounds]
      | some v =>
        cases l with
        | none => exact hl.elim
        | some n =>
          obtain ⟨k, rfl⟩ := hl
          simp only [Option.getD_some] at h0 h1
          simp [Instr.sliceBounds, run_bound h0 h1]
  | some v =>
    cases h with
    | none => exact hh.elim
    | some m =>
      obtain ⟨k, rfl⟩ := hh
      simp only [Option.getD_some] at h1 h2
      have hm0 : 0 ≤ m := by omega
      have hm1 : m ≤ (cap : Int) := by omega
      cases lo with
      | none =>
        cases l with
        | some n => exact hl.elim
        | none => simp [Instr.sliceBounds, run_bound hm0 hm1]
      | some v =>
        cases l with
        | none => exact hl.elim
        | some n =>
          obtain ⟨k, rfl⟩ := hl
          simp only [Option.getD_some] at h0 h1
          have hn1 : n ≤ (m.toNat : Int) := by omega
          simp [Instr.sliceBounds, run_bound hm0 hm1, run_bound h0 hn1]

theorem run_slice_sl {t el : TypeId} {m : Nat} {a : Option Addr} {len cap : Nat} {lo hi : Option Value} {l h : Option Int} {w : World} (ht : P.underlying t = some (.slice el)) (hm : (sizeOf el).run P w = .ok m w) (hl : OptV lo l) (hh : OptV hi h) (h0 : 0 ≤ l.getD 0) (h1 : l.getD 0 ≤ h.getD len) (h2 : h.getD len ≤ len) (h3 : len ≤ cap) :
    (Instr.sliceAt t (.slice a len cap) lo hi none).run P w = .ok (.slice (if cap = (l.getD 0).toNat then a else a.map (·.add ((l.getD 0).toNat * m))) ((h.getD len).toNat - (l.getD 0).toNat) (cap - (l.getD 0).toNat)) w := by
  simp only [Instr.sliceAt, Sem.run_bind, run_underlying ht, Result.andThen_ok, Instr.slice, run_bounds hl hh h0 h1 h2 h3, hm, Sem.run_pure]

theorem run_slice_str {t : TypeId} {s : ByteArray} {lo hi : Option Value} {l h : Option Int} {w : World} (ht : P.underlying t = some .string) (hl : OptV lo l) (hh : OptV hi h) (h0 : 0 ≤ l.getD 0) (h1 : l.getD 0 ≤ h.getD s.size) (h2 : h.getD s.size ≤ s.size) :
    (Instr.sliceAt t (.string s) lo hi none).run P w = .ok (.string (s.extract (l.getD 0).toNat (h.getD s.size).toNat)) w := by
  simp only [Instr.sliceAt, Sem.run_bind, run_underlying ht, Result.andThen_ok, Instr.slice, Option.isSome_none, Bool.false_eq_true, if_false, Sem.run_pure, run_bounds hl hh h0 h1 h2 (Nat.le_refl _)]

theorem szOk_is (he : EnvOk P e) {el : TypeId} {sz n : Nat} (h : szOk e el sz n = true) : ∃ m, (∀ w, (sizeOf el).run P w = .ok m w) ∧ (n = 0 ∨ m = sz) := by
  unfold szOk at h
  split at h
  · rename_i w0 hw
    refine ⟨w0.cells, fun w => he.run_sizeOf hw w, ?_⟩
    simpa using h
  · cases h

theorem slice_is (he : EnvOk P e) {σ : F} {w : World} {Φ : Bool → Nat → Prop} {tm : List Value} {ρ : Nat → List Value} {B : List Nat} (hR : Rel w Φ σ tm ρ B) {t : TypeId} {x s : S} {xv : Value} {lo hi : Option Value} {l h : Option Int} (hx : SlotR w Φ σ.ob ρ x xv) (hl : OptV lo l) (hh : OptV hi h) (hs : sliceIt e σ t x l h = some s) :
    ∃ v, (∀ w2, (Instr.sliceAt t xv lo hi none).run P w2 = .ok v w2) ∧ SlotR w Φ σ.ob ρ s v := by
  unfold sliceIt at hs
  split at hs
  · rename_i tv n ht hn
    have hu := he.und ht
    have hlen := lenS_is hR hn hx
    simp only at hs
    split at hs
    · rename_i hc
      obtain ⟨h0, h1, h2⟩ := hc
      have e0 : (l.getD 0).toNat ≤ (h.getD n).toNat := by omega
      have e1 : (h.getD n).toNat ≤ n := by omega
      split at hs
      · rename_i el hd
        split at hs
        · rename_i hel
          simp only [Option.some.injEq] at hs
          subst hs
          obtain ⟨w0, hw0⟩ := Option.isSome_iff_exists.mp hel
          simp only [lenS, Option.some.injEq] at hn
          subst hn
          simp only [SlotR] at hx
          subst hx
          rw [hd] at hu
          refine ⟨_, fun w2 => run_slice_sl hu (he.run_sizeOf hw0 w2) hl hh h0 h1 h2 (Nat.le_refl _), ?_⟩
          have e3 : (l.getD 0).toNat = 0 := by omega
          have e4 : (h.getD ((0 : Nat) : Int)).toNat = 0 := by omega
          simp only [SlotR, e3, e4]
          rfl
        · cases hs
      · rename_i b hd
        simp only [Option.some.injEq] at hs
        subst hs
        rw [hd] at hu
        simp only [lenS, Option.some.injEq] at hn
        subst hn
        rw [slot_lit hx]
        exact ⟨_, fun w2 => run_slice_str hu hl hh h0 h1 h2, lit_slot rfl⟩
      · rename_i el b sz rows hd
        split at hs
        · rename_i hsz
          simp only [Option.some.injEq] at hs
          subst hs
          rw [hd] at hu
          obtain ⟨m, hm, hmz⟩ := szOk_is he hsz
          simp only [lenS, Option.some.injEq] at hn
          subst hn
          simp only [SlotR] at hx ⊢
          have hx' := hx
          simp only [IsT] at hx'
          obtain ⟨a, cap, rfl, hcap, _⟩ := hx'
          refine ⟨_, fun w2 => run_slice_sl hu (hm w2) hl hh h0 h1 h2 hcap, ?_⟩
          have e5 : (l.getD 0).toNat * m = (l.getD 0).toNat * sz := by
            rcases hmz with h | h
            · rw [show (l.getD 0).toNat = 0 by omega, Nat.zero_mul, Nat.zero_mul]
            · rw [h]
          rw [e5]
          exact hx.slice e0 e1 _ (fun hne => by rw [if_neg hne])
        · cases hs
      · rename_i el k p off hd
        split at hs
        · rename_i c hc
          split at hs
          · rename_i sz hcsz
            split at hs
            · rename_i hsz
              simp only [Option.some.injEq] at hs
              subst hs
              rw [hd] at hu
              obtain ⟨m, hm, hmz⟩ := szOk_is he hsz
              rcases hlen with ⟨b, e, _⟩ | ⟨_, a, cap, rfl, hcap⟩
              · cases e
              · simp only [SlotR, Bool.false_eq_true, if_false] at hx ⊢
                obtain ⟨o, vs, q1, q2, q3, q4⟩ := hx
                refine ⟨_, fun w2 => run_slice_sl hu (hm w2) hl hh h0 h1 h2 hcap, o, vs, a, n, cap, q1, q2, q3, q4, e0, e1, hcap, _, ?_, rfl⟩
                have e5 : (l.getD 0).toNat * m = (l.getD 0).toNat * sz := by
                  rcases hmz with h | h
                  · rw [show (l.getD 0).toNat = 0 by omega, Nat.zero_mul, Nat.zero_mul]
                  · rw [h]
                rw [e5]
                intro hne
                rw [if_neg hne]
            · cases hs
          · cases hs
        · cases hs
      · rename_i el k p off sz lo' hi' hd
        split at hs
        · rename_i hsz
          simp only [Option.some.injEq] at hs
          subst hs
          rw [hd] at hu
          obtain ⟨m, hm, hmz⟩ := szOk_is he hsz
          simp only [lenS, Option.some.injEq] at hn
          subst hn
          simp only [SlotR] at hx ⊢
          obtain ⟨o, vs, a, len, cap, q1, q2, q3, q4, q5, q6, q7, a', ha', rfl⟩ := hx
          have e5 : (l.getD 0).toNat * m = (l.getD 0).toNat * sz := by
            rcases hmz with h | h
            · rw [show (l.getD 0).toNat = 0 by omega, Nat.zero_mul, Nat.zero_mul]
            · rw [h]
          have hrun := fun w2 => run_slice_sl (P := P) (a := a') (w := w2) hu (hm w2) hl hh h0 h1 h2 (show hi' - lo' ≤ cap - lo' by omega)
          rw [e5] at hrun
          clear hlen
          generalize (l.getD 0).toNat = L at *
          generalize (h.getD ((hi' - lo' : Nat) : Int)).toNat = H at *
          have e6 : lo' + H - (lo' + L) = H - L := by omega
          have e7 : cap - (lo' + L) = cap - lo' - L := by omega
          refine ⟨_, hrun, o, vs, a, len, cap, q1, q2, q3, q4, by omega, by omega, q7, _, ?_, by rw [e6, e7]⟩
          intro hne
          rw [if_neg (by omega), ha' (by omega)]
          cases a with
          | none => rfl
          | some a =>
            simp only [Option.map_some, Addr.add, Nat.add_mul]
            by_cases c3 : lo' * sz = 0
            · simp [c3]
            · by_cases c4 : L * sz = 0
              · simp [c3, c4]
              · simp [c3, c4, Nat.add_assoc]
        · cases hs
      · cases hs
    · cases hs
  · cases hs

end

end Go.Proofs.YtckojpaklblnpaaDoor.Ev

/- The last of the plain operations. -/
set_option linter.unusedVariables false
set_option linter.unusedSimpArgs false
namespace Go.Proofs.YtckojpaklblnpaaDoor.Ev
open Go Go.RowKit

section
variable {P : Program} {e : Env} {σ : F} {d : Option Tmp} {ty : TypeId} {pos : String} {after : Array Edge} {gd : Option (Nat × Bool)}

theorem optInt_is {w : World} {Φ : Bool → Nat → Prop} {tm : List Value} {ρ : Nat → List Value} {B : List Nat} {ds : List Deferred} (hR : Rel w Φ σ tm ρ B) {x : Option Operand} {n : Option Int} (h : optInt σ x = some n) : OptV (x.map (⟨tm.toArray, ds⟩ : Act).eval) n := by
  cases x with
  | none =>
    simp only [optInt, Option.some.injEq] at h
    subst h
    trivial
  | some x =>
    simp only [optInt, Option.map_eq_some_iff] at h
    obtain ⟨m, hm, rfl⟩ := h
    exact intOf_is hm (hR.rd x)

theorem ok_slice (he : EnvOk P e) (t : TypeId) (x : Operand) (lo hi : Option Operand) (l h : Option Int) (s : S) (hl : optInt σ lo = some l) (hh : optInt σ hi = some h) (hs : sliceIt e σ t (σ.rd x) l h = some s) :
    OpStill P ⟨d, .slice t x lo hi none, ty, pos, after, gd⟩ σ (σ.put d s) :=
  opVal (o := ⟨d, .slice t x lo hi none, ty, pos, after, gd⟩) fun w Φ tm ρ B ds hR => by
    obtain ⟨v, h1, h2⟩ := slice_is he hR (hR.rd (ds := ds) x) (optInt_is (ds := ds) hR hl) (optInt_is (ds := ds) hR hh) hs
    exact ⟨v, fun w2 _ => by simp only [execOp, Option.map_none, Sem.run_bind, h1 w2, Result.andThen_ok, Sem.run_pure], h2⟩

theorem run_part (he : EnvOk P e) {t : TypeId} {w0 : TV} (h : e.ty t = some w0) (cs : Array Value) (off : Nat) (hfit : off + w0.cells ≤ cs.size) :
    ∃ v, (∀ w, (part t cs off).run P w = .ok v w) ∧ valOf w0.agg ((cs.toList.drop off).take w0.cells) v := by
  cases ha : w0.agg with
  | true =>
    refine ⟨.agg (cs.extract off (off + w0.cells)), fun w => ?_, ?_⟩
    · simp only [part, Sem.run_bind, he.run_isAgg h, ha, Result.andThen_ok, if_true, he.run_sizeOf h, Sem.run_pure]
    · simp only [valOf, if_true]
      congr 1
      apply Array.ext'
      simp [List.take_drop]
  | false =>
    have h1 := he.one h ha
    rw [h1] at hfit ⊢
    obtain ⟨x, hx⟩ : ∃ x, cs[off]? = some x := ⟨cs[off]'(by omega), by simp [show off < cs.size by omega]⟩
    refine ⟨x, fun w => ?_, ?_⟩
    · simp only [part, Sem.run_bind, he.run_isAgg h, ha, Result.andThen_ok, Bool.false_eq_true, if_false, hx, Sem.run_pure]
    · simp only [valOf, Bool.false_eq_true, if_false]
      have hx' : cs.toList[off]? = some x := by simpa using hx
      obtain ⟨hlt, rfl⟩ := List.getElem?_eq_some_iff.mp hx'
      rw [List.drop_eq_getElem_cons hlt]
      simp

theorem ok_field_agg (he : EnvOk P e) (t : TypeId) (tv w0 : TV) (x : Operand) (f : Nat) (fs : Array Field) (fd : Field) (b : Bool) (ts : List T) (ht : e.ty t = some tv) (hd : tv.desc = .struct fs) (hf : fs[f]? = some fd) (hw : e.ty fd.type = some w0) (hx : σ.rd x = .agg b ts) (hl : fd.offset + w0.cells ≤ ts.length) :
    OpStill P ⟨d, .field t x f, ty, pos, after, gd⟩ σ (σ.put d (ofT b w0.agg ((ts.drop fd.offset).take w0.cells))) :=
  opVal (o := ⟨d, .field t x f, ty, pos, after, gd⟩) fun w Φ tm ρ B ds hR => by
    have hu := he.und ht
    rw [hd] at hu
    have hr := hR.rd (ds := ds) x
    rw [hx] at hr
    simp only [SlotR] at hr
    obtain ⟨vs, h1, h2⟩ := hr
    obtain ⟨v, r1, r2⟩ := run_part he hw vs.toArray fd.offset (by simpa [h2.length] using hl)
    refine ⟨v, fun w2 _ => ?_, ofT_is ((h2.drop _).take _) r2⟩
    simp only [execOp, h1, Instr.field, Sem.run_bind, run_underlying hu, Result.andThen_ok, hf, asAgg, Sem.run_pure, r1]

theorem ok_field_vw (he : EnvOk P e) (t : TypeId) (tv w0 : TV) (x : Operand) (f : Nat) (fs : Array Field) (fd : Field) (k : Nat) (p : List (Nat × Nat)) (off n : Nat) (cs : List C) (ht : e.ty t = some tv) (hd : tv.desc = .struct fs) (hf : fs[f]? = some fd) (hw : e.ty fd.type = some w0) (hx : σ.rd x = .vw k p off n true) (hl : fd.offset + w0.cells ≤ n)
    (hc : σ.cells k p (off + fd.offset) w0.cells = some cs) :
    OpStill P ⟨d, .field t x f, ty, pos, after, gd⟩ σ (σ.put d (F.view k p (off + fd.offset) w0.cells w0.agg cs)) :=
  opVal (o := ⟨d, .field t x f, ty, pos, after, gd⟩) fun w Φ tm ρ B ds hR => by
    have hu := he.und ht
    rw [hd] at hu
    have hr := hR.rd (ds := ds) x
    rw [hx] at hr
    simp only [SlotR, if_true] at hr
    obtain ⟨o, vs, q1, q2, q3, h1⟩ := hr
    obtain ⟨o', vs', Bc, c1, c2, c3, c4, c5, c6, _⟩ := hR.cells hc
    rw [q1] at c1; cases c1
    rw [q2] at c2; cases c2
    obtain ⟨v, r1, r2⟩ := run_part he hw ((vs.drop off).take n).toArray fd.offset (by simp; omega)
    refine ⟨v, fun w2 _ => ?_, ?_⟩
    · simp only [execOp, h1, Instr.field, Sem.run_bind, run_underlying hu, Result.andThen_ok, hf, asAgg, Sem.run_pure, r1]
    · refine view_is hR q1 q2 c3 c5 ?_
      have e1 : (((vs.drop off).take n).drop fd.offset).take w0.cells = (vs.drop (off + fd.offset)).take w0.cells := by
        rw [List.drop_take, List.drop_drop, List.take_take, Nat.min_eq_left (by omega)]
      simpa [e1] using r2

theorem ok_index_str (he : EnvOk P e) (t : TypeId) (tv : TV) (x i : Operand) (s : ByteArray) (n : Int) (b : UInt8) (ht : e.ty t = some tv) (hd : tv.desc = .string) (hx : σ.rd x = .lit (.string s)) (hn : intOf? (σ.rd i) = some n) (h0 : 0 ≤ n) (hb : s[n.toNat]? = some b) :
    OpStill P ⟨d, .index t x i, ty, pos, after, gd⟩ σ (σ.put d (liT (.int .u8 b.toNat))) :=
  opVal (o := ⟨d, .index t x i, ty, pos, after, gd⟩) fun w Φ tm ρ B ds hR => by
    have hu := he.und ht
    rw [hd] at hu
    have hr := hR.rd (ds := ds) x
    rw [hx] at hr
    obtain ⟨k, hi⟩ := intOf_is hn (hR.rd (ds := ds) i)
    refine ⟨.int .u8 b.toNat, fun w2 _ => ?_, lit_slot rfl⟩
    simp only [execOp, slot_lit hr, hi, Instr.index, asIntOf, Sem.run_bind, Sem.run_pure, run_underlying hu, Result.andThen_ok, h0, if_true, hb]

theorem ok_index_arr (he : EnvOk P e) (t el : TypeId) (tv w0 : TV) (x i : Operand) (len : Nat) (n : Int) (b : Bool) (ts : List T) (ht : e.ty t = some tv) (hd : tv.desc = .array len el) (hw : e.ty el = some w0) (hx : σ.rd x = .agg b ts) (hn : intOf? (σ.rd i) = some n) (h0 : 0 ≤ n ∧ n < len ∧ n.toNat * w0.cells + w0.cells ≤ ts.length) :
    OpStill P ⟨d, .index t x i, ty, pos, after, gd⟩ σ (σ.put d (ofT b w0.agg ((ts.drop (n.toNat * w0.cells)).take w0.cells))) :=
  opVal (o := ⟨d, .index t x i, ty, pos, after, gd⟩) fun w Φ tm ρ B ds hR => by
    have hu := he.und ht
    rw [hd] at hu
    have hr := hR.rd (ds := ds) x
    rw [hx] at hr
    simp only [SlotR] at hr
    obtain ⟨vs, h1, h2⟩ := hr
    obtain ⟨k, hi⟩ := intOf_is hn (hR.rd (ds := ds) i)
    obtain ⟨v, r1, r2⟩ := run_part he hw vs.toArray (n.toNat * w0.cells) (by simpa [h2.length] using h0.2.2)
    refine ⟨v, fun w2 _ => ?_, ofT_is ((h2.drop _).take _) r2⟩
    have h01 : 0 ≤ n ∧ n < (len : Int) := ⟨h0.1, h0.2.1⟩
    simp only [execOp, h1, hi, Instr.index, asIntOf, Sem.run_bind, Sem.run_pure, run_underlying hu, Result.andThen_ok, if_pos h01, he.run_sizeOf hw, r1]

/-! ### builtins -/

theorem run_builtin (ρ : Operand → Value) {c : Call} {b : Builtin} {o : Oper} (w : World) (ho : o.op = .call c) (hb : c.callee = .builtin b) :
    ∃ cs, (execOp ρ o).run P w = (builtin b c.argTypes o.type cs (c.args.map ρ)).run P w :=
  ⟨_, by simp only [execOp, ho, resolve, hb, Sem.run_bind, Sem.run_pure, Result.andThen_ok, invoke]; rfl⟩

theorem ok_len (he : EnvOk P e) (c : Call) (t : TypeId) (tv : TV) (x : Operand) (n : Nat) (hb : c.callee = .builtin .len) (ha : c.args.toList = [x]) (hat : c.argTypes.toList = [t]) (ht : e.ty t = some tv) (hn : lenS σ (σ.rd x) = some n)
    (h : (∃ el, tv.desc = .slice el ∧ ∀ v, σ.rd x ≠ .lit v) ∨ (tv.desc = .string ∧ ∃ v, σ.rd x = .lit v)) :
    OpStill P ⟨d, .call c, ty, pos, after, gd⟩ σ (σ.put d (liT (.int .i64 n))) :=
  opVal (o := ⟨d, .call c, ty, pos, after, gd⟩) fun w Φ tm ρ B ds hR => by
    have hu := he.und ht
    have e1 : c.args = #[x] := Array.ext' (by simpa using ha)
    have e2 : c.argTypes = #[t] := Array.ext' (by simpa using hat)
    refine ⟨.int .i64 n, fun w2 _ => ?_, lit_slot rfl⟩
    obtain ⟨consts, hbi⟩ := run_builtin (P := P) (⟨tm.toArray, ds⟩ : Act).eval (o := ⟨d, .call c, ty, pos, after, gd⟩) w2 rfl hb
    rw [hbi]
    have hr := hR.rd (ds := ds) x
    simp only [builtin, e1, e2, List.map_toArray, List.map_cons, List.map_nil, Builtin.len_]
    rcases lenS_is hR hn hr with ⟨b, q1, q2, q3⟩ | ⟨q1, a, cap, q2, q3⟩
    · rcases h with ⟨el, _, h⟩ | ⟨hd, _⟩
      · exact absurd q1 (h _)
      · rw [hd] at hu
        simp [q2, run_underlying hu, goInt, q3]
    · rcases h with ⟨el, hd, _⟩ | ⟨_, v, h⟩
      · rw [hd] at hu
        simp [q2, run_underlying hu, goInt]
      · exact absurd h (q1 v)

theorem ok_minmax (c : Call) (x y : Operand) (k k' : IntKind) (a b : Int) (mx : Bool) (hb : c.callee = .builtin (if mx then .max else .min)) (ha : c.args.toList = [x, y]) (hx : σ.rd x = .lit (.int k a)) (hy : intOf? (σ.rd y) = some b) :
    OpStill P ⟨d, .call c, ty, pos, after, gd⟩ σ (σ.put d (liT (.int k (if mx then (if a < b then b else a) else if b < a then b else a)))) :=
  opVal (o := ⟨d, .call c, ty, pos, after, gd⟩) fun w Φ tm ρ B ds hR => by
    have e1 : c.args = #[x, y] := Array.ext' (by simpa using ha)
    refine ⟨.int k (if mx then (if a < b then b else a) else if b < a then b else a), fun w2 _ => ?_, lit_slot rfl⟩
    obtain ⟨consts, hbi⟩ := run_builtin (P := P) (⟨tm.toArray, ds⟩ : Act).eval (o := ⟨d, .call c, ty, pos, after, gd⟩) w2 rfl hb
    rw [hbi]
    have hr := hR.rd (ds := ds) x
    rw [hx] at hr
    obtain ⟨k2, hi⟩ := intOf_is hy (hR.rd (ds := ds) y)
    cases mx with
    | false =>
      simp only [Bool.false_eq_true, if_false, builtin, e1, List.map_toArray, List.map_cons, List.map_nil, Builtin.min_, slot_lit hr, hi, List.foldlM_cons, List.foldlM_nil, Builtin.min2, Sem.run_bind, Sem.run_pure, Result.andThen_ok]
    | true =>
      simp only [if_true, builtin, e1, List.map_toArray, List.map_cons, List.map_nil, Builtin.max_, slot_lit hr, hi, List.foldlM_cons, List.foldlM_nil, Builtin.max2, Sem.run_bind, Sem.run_pure, Result.andThen_ok, gt_iff_lt]

theorem ok_cap (he : EnvOk P e) (c : Call) (t el : TypeId) (tv : TV) (x : Operand) (hb : c.callee = .builtin .cap) (ha : c.args.toList = [x]) (hat : c.argTypes.toList = [t]) (ht : e.ty t = some tv) (hd : tv.desc = .slice el) (hx : σ.rd x = .nils) :
    OpStill P ⟨d, .call c, ty, pos, after, gd⟩ σ (σ.put d (liT (.int .i64 0))) :=
  opVal (o := ⟨d, .call c, ty, pos, after, gd⟩) fun w Φ tm ρ B ds hR => by
    have hu := he.und ht
    rw [hd] at hu
    have e1 : c.args = #[x] := Array.ext' (by simpa using ha)
    have e2 : c.argTypes = #[t] := Array.ext' (by simpa using hat)
    refine ⟨.int .i64 0, fun w2 _ => ?_, lit_slot rfl⟩
    obtain ⟨consts, hbi⟩ := run_builtin (P := P) (⟨tm.toArray, ds⟩ : Act).eval (o := ⟨d, .call c, ty, pos, after, gd⟩) w2 rfl hb
    rw [hbi]
    have hr := hR.rd (ds := ds) x
    rw [hx] at hr
    simp only [SlotR] at hr
    simp [builtin, e1, e2, Builtin.cap_, hr, run_underlying hu, goInt]

/-! ### bytes to a string -/

theorem bytes_rows {w : World} {φ : Nat → Prop} {sz : Nat} : ∀ {rows : List (List T)} {vs : List Value} {bs : List UInt8}, IsTRows w φ sz rows vs → bytesOf rows = some bs → ∃ ns : List Int, vs.take rows.length = ns.map (Value.int .u8) ∧ bs = ns.map (fun n => UInt8.ofNat n.toNat)
  | [], vs, bs, h, hb => by
    simp only [bytesOf, Option.some.injEq] at hb
    subst hb
    exact ⟨[], by simp, rfl⟩
  | r :: rs, vs, bs, h, hb => by
    simp only [bytesOf] at hb
    cases h1 : byteOf r with
    | none => simp [h1] at hb
    | some b =>
      cases h2 : bytesOf rs with
      | none => simp [h1, h2] at hb
      | some bs' =>
        simp only [h1, h2, Option.some.injEq] at hb
        subst hb
        unfold byteOf at h1
        split at h1
        · rename_i n
          simp only [Option.some.injEq] at h1
          subst h1
          simp only [IsTRows, List.length_cons, List.length_nil, Nat.zero_add] at h
          obtain ⟨rfl, h3, h4⟩ := h
          simp only [IsTs, IsT] at h3
          obtain ⟨v, vs', e1, ⟨rfl, _⟩, rfl⟩ := h3
          obtain ⟨ns, h5, rfl⟩ := bytes_rows h4 h2
          cases vs with
          | nil => simp at e1
          | cons v0 vs0 =>
            simp only [List.take_succ_cons, List.take_zero, List.cons.injEq, and_true] at e1
            subst e1
            simp only [List.drop_succ_cons, List.drop_zero] at h5
            exact ⟨n :: ns, by simp [h5], rfl⟩
        · cases h1

theorem bytesOf_length : ∀ {rows : List (List T)} {bs : List UInt8}, bytesOf rows = some bs → rows.length = bs.length
  | [], bs, h => by simp only [bytesOf, Option.some.injEq] at h; subst h; rfl
  | r :: rs, bs, h => by
    simp only [bytesOf] at h
    cases h1 : byteOf r with
    | none => simp [h1] at h
    | some b =>
      cases h2 : bytesOf rs with
      | none => simp [h1, h2] at h
      | some bs' =>
        simp only [h1, h2, Option.some.injEq] at h
        subst h
        simp [bytesOf_length h2]

theorem ok_bytesString (he : EnvOk P e) (src dst el : TypeId) (a b w0 : TV) (x : Operand) (sz : Nat) (rows : List (List T)) (bs : List UInt8) (hs : e.ty src = some a) (hsd : a.desc = .slice el) (hd : e.ty dst = some b) (hdd : b.desc = .string) (hw : e.ty el = some w0) (hwd : w0.desc = .int .u8) (hf : σ.free1 (σ.rd x) = some (.sl sz rows)) (hb : bytesOf rows = some bs) :
    OpStill P ⟨d, .convert src dst x, ty, pos, after, gd⟩ σ (σ.put d (liT (.string ⟨bs.toArray⟩))) :=
  opVal (o := ⟨d, .convert src dst x, ty, pos, after, gd⟩) fun w Φ tm ρ B ds hR => by
    have h1 := he.und hs; rw [hsd] at h1
    have h2 := he.und hd; rw [hdd] at h2
    have h3 := he.und hw; rw [hwd] at h3
    have hv := free1_is hR hf (hR.rd (ds := ds) x)
    refine ⟨.string ⟨bs.toArray⟩, fun w2 hw2 => ?_, lit_slot rfl⟩
    simp only [IsT] at hv
    obtain ⟨ad, cap, hev, hle, hrows⟩ := hv
    simp only [execOp, hev, Sem.run_bind]
    rcases hrows with rfl | ⟨g, o, cur, et, fz, rfl, _, hg, hrows⟩
    · simp only [bytesOf, Option.some.injEq] at hb
      subst hb
      rw [run_convert_bytes_string w2 src dst el _ _ _ h1 h3 h2]
      cases ad with
      | none => simp [Conv.bytesToString]; rfl
      | some a =>
        rw [run_bytesToString w2 a _ cap [] (by simp [loadCells, loadCellsFrom])]
        simp [Result.andThen_ok]
        rfl
    · obtain ⟨ns, e1, rfl⟩ := bytes_rows hrows hb
      have hln : rows.length = ns.length := by
        have := bytesOf_length hb
        simpa using this
      rw [run_convert_bytes_string w2 src dst el _ _ _ h1 h3 h2, run_bytesToString w2 _ _ cap ns, foldl_push_bytes]
      · simp [Result.andThen_ok]
      · have hcell : ∀ j, w2.cell? ⟨g, j, none⟩ = cur[j]? := fun j => by simp [World.cell?, hw2.get hg]
        have := run_loadCells_list (P := P) w2 ⟨g, o, none⟩ (ns.map (Value.int .u8)) (fun j x hj => by
          rw [← e1, List.getElem?_take] at hj
          split at hj
          · rw [List.getElem?_drop] at hj
            rw [Addr.add_lit, hcell]
            simpa using hj
          · cases hj)
        rw [List.length_map] at this
        rw [hln]
        exact this

end

end Go.Proofs.YtckojpaklblnpaaDoor.Ev

/- Objects made, dropped, taken out of their places. -/
set_option linter.unusedVariables false
set_option linter.unusedSimpArgs false
namespace Go.Proofs.YtckojpaklblnpaaDoor.Ev
open Go Go.RowKit

/-- Blocks that are in nobody's hands. -/
structure Loose (w : World) (Φ : Bool → Nat → Prop) (B L : List Nat) : Prop where
  nd : L.Nodup
  apart : ∀ b ∈ L, b ∉ B
  lt : ∀ b ∈ L, b < w.heap.size
  disj : ∀ b ∈ L, ∀ x, ¬Φ x b

theorem Loose.nil {w : World} {Φ : Bool → Nat → Prop} {B : List Nat} : Loose w Φ B [] := ⟨List.nodup_nil, by simp, by simp, by simp⟩

theorem Loose.sub {w : World} {Φ : Bool → Nat → Prop} {B B' L : List Nat} (h : Loose w Φ B L) (hs : ∀ b ∈ B', b ∈ B) : Loose w Φ B' L := ⟨h.nd, fun b hb hb' => h.apart b hb (hs b hb'), h.lt, h.disj⟩

theorem Rel.keep {w w' : World} {Φ : Bool → Nat → Prop} {σ : F} {tm : List Value} {ρ : Nat → List Value} {B : List Nat} (h : Rel w Φ σ tm ρ B) (hk : Keeps w w' Φ Φ B) (hsz : w.heap.size ≤ w'.heap.size) : Rel w' Φ σ tm ρ B where
  obs := h.obs.keep hk (fun _ _ => rfl)
  nd := h.nd
  keys := h.keys
  disj := h.disj
  lt b hb := Nat.lt_of_lt_of_le (h.lt b hb) hsz
  ltΦ x b hb := Nat.lt_of_lt_of_le (h.ltΦ x b hb) hsz
  sub := ⟨h.sub.1, h.sub.2.next (fun _ h => h) (fun b hb => hk.ro false b hb)⟩
  slots := by
    have C := carry_same (ρ' := ρ) h.obs h.keys hk (fun k o hl => ⟨hl, rfl⟩)
    exact C.slots σ.sl tm h.slots

/-- An object, new under its key. -/
theorem Rel.new {w : World} {Φ : Bool → Nat → Prop} {σ : F} {tm : List Value} {ρ : Nat → List Value} {B : List Nat} (h : Rel w Φ σ tm ρ B) (k : Nat) (o : O) (vs : List Value) (L : List Nat) (hc : IsCs w Φ o.cells vs L) (hL : Loose w Φ B L) :
    ∃ B', Rel w Φ (σ.new k o) tm (fun j => if j = k then vs else ρ j) (L ++ B') ∧ B'.Sublist B := by
  obtain ⟨B', hB, hs⟩ := h.obs.drop h.keys k
  have hmem : ∀ b ∈ B', b ∈ B := fun b hb => hs.subset hb
  have hρ : ∀ j ∈ (drop_ σ.ob k).map (·.1), (fun j => if j = k then vs else ρ j) j = ρ j := by
    intro j hj
    have : j ≠ k := by rintro rfl; exact drop_not h.keys hj
    simp [this]
  refine ⟨B', ⟨⟨L, B', rfl, by simpa using hc, hB.keep (Keeps.refl _ _ _) hρ⟩, ?_, ?_, ?_, ?_, h.ltΦ, h.sub, ?_⟩, hs⟩
  · rw [List.nodup_append]
    exact ⟨hL.nd, h.nd.sublist hs, fun a ha b hb e => hL.apart a ha (by rw [e]; exact hmem b hb)⟩
  · simp only [F.new, List.map_cons, List.nodup_cons]
    exact ⟨drop_not h.keys, h.keys.sublist (drop_sub _ _)⟩
  · intro b hb x
    rcases List.mem_append.mp hb with hb | hb
    · exact hL.disj b hb x
    · exact h.disj b (hmem b hb) x
  · intro b hb
    rcases List.mem_append.mp hb with hb | hb
    · exact hL.lt b hb
    · exact h.lt b (hmem b hb)
  · have C := carry_kill (w' := w) (Φ' := Φ) (ρ' := fun j => if j = k then vs else ρ j) (ob' := (k, o) :: drop_ σ.ob k) k h.obs h.keys (fun _ _ h => h) (fun _ _ _ => rfl) (fun j oj hj hl => by
      obtain ⟨Bk, hBk, _, hck⟩ := h.look hl
      refine ⟨?_, by simp [hj], Bk, fun _ _ => rfl, hck⟩
      show Ev.look ((k, o) :: drop_ σ.ob k) j = some oj
      rw [Ev.look]
      rw [if_neg (fun e => hj e.symm), look_drop h.keys, if_neg hj]
      exact hl)
    exact C.slots σ.sl tm h.slots

/-- An object, gone. -/
theorem Rel.del {w : World} {Φ : Bool → Nat → Prop} {σ : F} {tm : List Value} {ρ : Nat → List Value} {B : List Nat} (h : Rel w Φ σ tm ρ B) (k : Nat) :
    ∃ B', Rel w Φ (σ.del k) tm ρ B' ∧ B'.Sublist B ∧ ∀ o, Ev.look σ.ob k = some o → ∃ Bk, IsCs w Φ o.cells (ρ k) Bk ∧ Loose w Φ B' Bk ∧ ∀ b ∈ Bk, b ∈ B := by
  have main : ∀ B', IsOb w Φ ρ (drop_ σ.ob k) B' → B'.Sublist B → Rel w Φ (σ.del k) tm ρ B' := by
    intro B' hB hs
    refine ⟨hB, h.nd.sublist hs, h.keys.sublist (drop_sub _ _), fun b hb => h.disj b (hs.subset hb), fun b hb => h.lt b (hs.subset hb), h.ltΦ, h.sub, ?_⟩
    have C := carry_kill (w' := w) (Φ' := Φ) (ρ' := ρ) (ob' := drop_ σ.ob k) k h.obs h.keys (fun _ _ h => h) (fun _ _ _ => rfl) (fun j oj hj hl => by
      obtain ⟨Bk, hBk, _, hck⟩ := h.look hl
      refine ⟨?_, rfl, Bk, fun _ _ => rfl, hck⟩
      rw [look_drop h.keys, if_neg hj]
      exact hl)
    exact C.slots σ.sl tm h.slots
  cases hl : Ev.look σ.ob k with
  | none =>
    obtain ⟨B', hB, hs⟩ := h.obs.drop h.keys k
    exact ⟨B', main B' hB hs, hs, fun o ho => by cases ho⟩
  | some o =>
    obtain ⟨X, Bk, Y, rfl, e2, _, e4, _⟩ := IsOb.focus h.obs h.keys hl
    have hs : (X ++ Y).Sublist (X ++ (Bk ++ Y)) := List.Sublist.append (List.Sublist.refl _) (List.sublist_append_right _ _)
    refine ⟨X ++ Y, main _ e4 hs, hs, fun o' ho => ?_⟩
    cases ho
    have hnd := h.nd
    simp only [List.nodup_append, List.mem_append, ne_eq] at hnd
    refine ⟨Bk, e2, ⟨hnd.2.1.1, ?_, fun b hb => h.lt b (by simp [hb]), fun b hb => h.disj b (by simp [hb])⟩, fun b hb => by simp [hb]⟩
    intro b hb hb'
    rcases List.mem_append.mp hb' with hx | hy
    · exact hnd.2.2 b hx b (.inl hb) rfl
    · exact hnd.2.1.2.2 b hb b hy rfl

/-! ### cells that take another's place -/

theorem IsCs.setRange {w : World} {Φ : Bool → Nat → Prop} {cs new : List C} {vs nv : List Value} {B Bn : List Nat} {off : Nat} (h : IsCs w Φ cs vs B) (k : IsCs w Φ new nv Bn) (hfit : off + new.length ≤ cs.length) :
    ∃ X Y Z, B = X ++ (Y ++ Z) ∧ IsCs w Φ ((cs.drop off).take new.length) ((vs.drop off).take new.length) Y ∧ IsCs w Φ (Ev.setRange cs off new) (vs.take off ++ nv ++ vs.drop (off + nv.length)) (X ++ (Bn ++ Z)) := by
  obtain ⟨X, Y, Z, e, h1, h2, h3⟩ := h.range off new.length
  refine ⟨X, Y, Z, e, h2, ?_⟩
  rw [k.length]
  have := (h1.append k).append h3
  rw [List.append_assoc X] at this
  exact this

theorem holes_is {w : World} {Φ : Bool → Nat → Prop} : ∀ {cs : List C} {vs : List Value} {B : List Nat}, IsCs w Φ cs vs B → IsCs w Φ (cs.map fun c => if c.free then c else .hole) vs []
  | [], vs, B, h => by
    simp only [IsCs] at h
    simp only [List.map_nil, IsCs]
    exact ⟨h.1, trivial⟩
  | c :: cs, vs, B, h => by
    simp only [IsCs] at h
    obtain ⟨v, vs', B1, B2, rfl, rfl, h3, h4⟩ := h
    simp only [List.map_cons, IsCs]
    refine ⟨v, vs', [], [], rfl, rfl, ?_, holes_is h4⟩
    by_cases hf : c.free = true
    · rw [if_pos hf]
      cases c with
      | im b t => simp only [IsC] at h3 ⊢; exact ⟨trivial, h3.2⟩
      | ow t =>
        cases t with
        | lit x => simp only [IsC, IsO] at h3 ⊢; exact ⟨h3.1, h3.2.1, trivial⟩
        | sl _ _ => simp [C.free] at hf
      | own _ _ => simp [C.free] at hf
      | hole => simp [C.free] at hf
    · rw [if_neg hf]
      simp only [IsC]
      exact ⟨trivial, h3.one⟩

theorem free_blocks {w : World} {Φ : Bool → Nat → Prop} : ∀ {cs : List C} {vs : List Value} {B : List Nat}, IsCs w Φ cs vs B → cs.all C.free = true → B = []
  | [], vs, B, h, _ => by simp only [IsCs] at h; exact h.2
  | c :: cs, vs, B, h, hf => by
    simp only [List.all_cons, Bool.and_eq_true] at hf
    simp only [IsCs] at h
    obtain ⟨v, vs', B1, B2, rfl, rfl, h3, h4⟩ := h
    rw [free_blocks h4 hf.2]
    cases c with
    | im b t => simp only [IsC] at h3; simp [h3.1]
    | ow t =>
      cases t with
      | lit x => simp only [IsC, IsO] at h3; simp [h3.2.2]
      | sl _ _ => simp [C.free] at hf
    | own _ _ => simp [C.free] at hf
    | hole => simp [C.free] at hf

end Go.Proofs.YtckojpaklblnpaaDoor.Ev

/- A range of a place is overwritten; a value is taken with its memory. -/
set_option linter.unusedVariables false
set_option linter.unusedSimpArgs false
namespace Go.Proofs.YtckojpaklblnpaaDoor.Ev
open Go Go.RowKit

theorem nodup_swap {P Y Q L : List Nat} (h : (P ++ (Y ++ Q)).Nodup) (hL : L.Nodup) (ha : ∀ b ∈ L, b ∉ P ++ (Y ++ Q)) : (P ++ (L ++ Q)).Nodup := by
  simp only [List.nodup_append, List.mem_append, ne_eq, not_or] at h ha ⊢
  obtain ⟨h1, ⟨h2, h3, h4⟩, h5⟩ := h
  refine ⟨h1, ⟨hL, h3, fun a h b hb e => (ha a h).2.2 (e ▸ hb)⟩, ?_⟩
  rintro a h b (hb | hb) e
  · exact (ha b hb).1 (e ▸ h)
  · exact h5 a h b (.inr hb) e

theorem Rel.over {w w' : World} {Φ : Bool → Nat → Prop} {σ : F} {tm : List Value} {ρ : Nat → List Value} {B : List Nat} (h : Rel w Φ σ tm ρ B) {k : Nat} {p : List (Nat × Nat)} {off : Nat} {o : O} {row new cs' : List C} {g a : Nat} {cur cur' : Array Value} {e : TypeId} {fz : Nat × Nat} {nv : List Value} {L : List Nat}
    (hl : Ev.look σ.ob k = some o) (hrow : getRow o.cells p = some row) (hp : p ≠ []) (hfit : off + new.length ≤ row.length) (hset : setRow o.cells p (setRange row off new) = some cs')
    (ha : addrAt w o.cells (ρ k) p = some (g, a)) (hg : w.heap[g]? = some (.cells cur e fz)) (hg' : w'.heap[g]? = some (.cells cur' e fz)) (hsize : cur'.size = cur.size)
    (hout : ∀ j, j < a + off ∨ a + off + new.length ≤ j → cur'[j]? = cur[j]?) (hin : (cur'.toList.drop (a + off)).take new.length = nv) (hw : ∀ b, b ≠ g → w'.heap[b]? = w.heap[b]?) (hsz : w'.heap.size = w.heap.size)
    (hnew : IsCs w' Φ new nv L) (hL : Loose w Φ B L) :
    ∃ B' Y vs, Rel w' Φ { sl := killAts k p off new.length σ.sl, ob := put_ σ.ob k { o with cells := cs' } } tm ρ B' ∧ valsAt w o.cells (ρ k) p = some vs ∧ IsCs w' Φ ((row.drop off).take new.length) ((vs.drop off).take new.length) Y ∧ Loose w' Φ B' Y ∧ (∀ b ∈ B', b ∈ B ∨ b ∈ L) ∧ (∀ b ∈ Y, b ∈ B) ∧ g ∈ B := by
  obtain ⟨X0, Bk, Y0, rfl, e2, e3, e4, e5⟩ := IsOb.focus h.obs h.keys hl
  have hndk : Bk.Nodup := by have := h.nd; simp only [List.nodup_append] at this; exact this.2.1.1
  obtain ⟨g9, a9, cur9, e9, fz9, X1, Br, Y1, rv, f1, f2, rfl, f4, f5, f6, f7, f8, f9, f10⟩ := place p o.cells (ρ k) Bk row e2 hndk hrow hp
  rw [f1] at ha
  simp only [Option.some.injEq, Prod.mk.injEq] at ha
  obtain ⟨rfl, rfl⟩ := ha
  rw [f5] at hg
  simp only [Option.some.injEq, Obj.cells.injEq] at hg
  obtain ⟨rfl, rfl, rfl⟩ := hg
  have hnd := h.nd
  have hΦg : ∀ x, ¬Φ x g9 := h.disj g9 (by simp [f4])
  have hro : ∀ x b, Φ x b → w'.heap[b]? = w.heap[b]? := fun x b hb => hw b (by rintro rfl; exact hΦg x hb)
  have hgX0 : g9 ∉ X0 := by
    intro hc
    simp only [List.nodup_append, List.mem_append, ne_eq] at hnd
    exact hnd.2.2 g9 hc g9 (.inl (.inl f4)) rfl
  have hgr : g9 ∉ Br ++ Y1 := by
    intro hc
    simp only [List.nodup_append] at hndk
    exact hndk.2.2 g9 f4 g9 (by simpa using hc) rfl
  have hgY0 : g9 ∉ Y0 := by
    intro hc
    simp only [List.nodup_append, List.mem_append, ne_eq] at hnd
    exact hnd.2.1.2.2 g9 (.inl f4) g9 hc rfl
  have hrowW : IsCs w' Φ row rv Br := f9.keep ⟨fun _ _ h => h, hro, fun b hb => hw b (by rintro rfl; exact hgr (by simp [hb]))⟩
  obtain ⟨X, Y, Z, rfl, q1, q2⟩ := hrowW.setRange hnew hfit
  have hnvl : nv.length = new.length := hnew.length
  have hvals : (cur'.toList.drop a9).take row.length = rv.take off ++ nv ++ rv.drop (off + nv.length) := by
    subst f8
    rw [hnvl, ← hin]
    have c1 : (cur'.toList.drop a9).take off = ((cur9.toList.drop a9).take row.length).take off := by
      rw [List.take_take, Nat.min_eq_left (by omega)]
      exact slice_ext (o := a9 + off) (m := a9 + off + new.length) hout (.inl (Nat.le_refl _))
    have c2 : ((cur9.toList.drop a9).take row.length).drop (off + new.length) = (cur'.toList.drop (a9 + (off + new.length))).take (row.length - (off + new.length)) := by
      rw [List.drop_take, List.drop_drop]
      exact (slice_ext (o := a9 + off) (m := a9 + off + new.length) hout (.inr (by omega))).symm
    rw [← c1, c2]
    have c3 : ∀ (l : List Value) (x y z : Nat), x + y ≤ z → l.take z = l.take x ++ ((l.drop x).take y ++ (l.drop (x + y)).take (z - (x + y))) := by
      intro l x y z hz
      have hz2 : z = x + (y + (z - (x + y))) := by omega
      conv => lhs; rw [hz2, List.take_add, List.take_add, List.drop_drop]
    have c4 := c3 (cur'.toList.drop a9) off new.length row.length hfit
    rw [List.drop_drop, List.drop_drop] at c4
    rw [c4, List.append_assoc]
  have hcells := f10 w' Φ cur' (setRange row off new) (X ++ (L ++ Z)) cs' ⟨fun _ _ h => h, hro, fun b hb hne => hw b hne⟩ hg' hsize (fun j hj => hout j (by omega)) (by rw [hvals]; exact q2) (setRange_length hfit) hset
  have hob := e5 w' Φ { o with cells := cs' } _ ⟨fun _ _ h => h, hro, fun b hb => hw b (by rintro rfl; rcases List.mem_append.mp hb with hb | hb; exact hgX0 hb; exact hgY0 hb)⟩ hcells
  have hB : X0 ++ (X1 ++ (X ++ (Y ++ Z) ++ Y1) ++ Y0) = (X0 ++ (X1 ++ X)) ++ (Y ++ (Z ++ (Y1 ++ Y0))) := by simp [List.append_assoc]
  have hB' : X0 ++ (X1 ++ (X ++ (L ++ Z) ++ Y1) ++ Y0) = (X0 ++ (X1 ++ X)) ++ (L ++ (Z ++ (Y1 ++ Y0))) := by simp [List.append_assoc]
  have hnd' : (X0 ++ (X1 ++ (X ++ (L ++ Z) ++ Y1) ++ Y0)).Nodup := by
    rw [hB'] 
    rw [hB] at hnd
    exact nodup_swap hnd hL.nd (fun b hb => by rw [← hB]; exact hL.apart b hb)
  have hsub : ∀ b ∈ X0 ++ (X1 ++ (X ++ (L ++ Z) ++ Y1) ++ Y0), b ∈ X0 ++ (X1 ++ (X ++ (Y ++ Z) ++ Y1) ++ Y0) ∨ b ∈ L := by
    intro b hb
    rw [hB'] at hb
    rw [hB]
    simp only [List.mem_append] at hb ⊢
    rcases hb with (h | h | h) | h | h | h | h <;> simp [h]
  have hY : ∀ b ∈ Y, b ∈ X0 ++ (X1 ++ (X ++ (Y ++ Z) ++ Y1) ++ Y0) := fun b hb => by simp [hb]
  have hro' : ∀ x b, Φ x b → w'.heap[b]? = w.heap[b]? := hro
  refine ⟨_, Y, _, ⟨hob, hnd', ?_, ?_, ?_, ?_, ⟨h.sub.1, h.sub.2.next (fun _ h => h) (fun b hb => hro false b hb)⟩, ?_⟩, f2, ?_, ⟨?_, ?_, ?_, ?_⟩, hsub, hY, by simp [f4]⟩
  · rw [put_keys]; exact h.keys
  · intro b hb x
    rcases hsub b hb with hb | hb
    · exact h.disj b hb x
    · exact hL.disj b hb x
  · intro b hb
    rw [hsz]
    rcases hsub b hb with hb | hb
    · exact h.lt b hb
    · exact hL.lt b hb
  · intro x b hb
    rw [hsz]
    exact h.ltΦ x b hb
  · have C := carry_write (o1 := { o with cells := cs' }) h.obs h.keys h.nd (fun _ _ h => h) hro (fun b hb hne => hw b hne) hl hrow hp f1 f5 hg' hsize hout hfit hset
    exact C.slots σ.sl tm h.slots
  · subst f8; exact q1
  · rw [hB] at hnd
    simp only [List.nodup_append] at hnd
    exact hnd.2.1.1
  · intro b hb hb'
    rw [hB'] at hb'
    rw [hB] at hnd
    have hnL : b ∉ L := fun hbl => hL.apart b hbl (hY b hb)
    simp only [List.nodup_append, List.mem_append, ne_eq] at hnd
    simp only [List.mem_append] at hb'
    rcases hb' with h | h | h
    · exact hnd.2.2 b h b (.inl hb) rfl
    · exact hnL h
    · exact hnd.2.1.2.2 b hb b h rfl
  · intro b hb
    rw [hsz]
    exact h.lt b (hY b hb)
  · intro b hb
    exact h.disj b (hY b hb)

end Go.Proofs.YtckojpaklblnpaaDoor.Ev

/- A value is taken with its memory; a value out of parts. -/
set_option linter.unusedVariables false
set_option linter.unusedSimpArgs false
namespace Go.Proofs.YtckojpaklblnpaaDoor.Ev
open Go Go.RowKit

theorem litC_is {w : World} {Φ : Bool → Nat → Prop} {b : Bool} {t : T} {v : Value} (h : IsT w (Φ b) t v) : IsC w Φ (litC b t) v [] := by
  cases t with
  | lit x =>
    simp only [IsT] at h
    simp only [litC, IsC, IsO]
    exact ⟨h.1, h.2, trivial⟩
  | sl sz rows =>
    simp only [litC, IsC]
    exact ⟨trivial, h⟩

theorem litCs_is {w : World} {Φ : Bool → Nat → Prop} {b : Bool} : ∀ {ts : List T} {vs : List Value}, IsTs w (Φ b) ts vs → IsCs w Φ (ts.map (litC b)) vs []
  | [], vs, h => by simp only [IsTs] at h; simp only [List.map_nil, IsCs]; exact ⟨h, trivial⟩
  | t :: ts, vs, h => by
    simp only [IsTs] at h
    obtain ⟨v, vs', rfl, h2, h3⟩ := h
    simp only [List.map_cons, IsCs]
    exact ⟨v, vs', [], [], rfl, rfl, litC_is h2, litCs_is h3⟩

theorem vw_cells {w : World} {Φ : Bool → Nat → Prop} {cs : List C} {vals : List Value} {B : List Nat} {ag : Bool} {v : Value} (hc : IsCs w Φ cs vals B) (h : if ag then v = .agg vals.toArray else vals = [v]) : v.cells.toList = vals := by
  cases ag with
  | true =>
    simp only [if_true] at h
    subst h
    simp [Value.cells]
  | false =>
    simp only [Bool.false_eq_true, if_false] at h
    subst h
    cases cs with
    | nil => simp [IsCs] at hc
    | cons c cs =>
      simp only [IsCs] at hc
      obtain ⟨v', vs', B1, B2, e, _, hC, _⟩ := hc
      simp only [List.cons.injEq] at e
      rw [e.1]
      rw [one_cells hC.one]

theorem take_is {w : World} {Φ : Bool → Nat → Prop} {σ σ' : F} {tm : List Value} {ρ : Nat → List Value} {B : List Nat} (h : Rel w Φ σ tm ρ B) {s : S} {v : Value} {cs : List C} (ht : σ.take s = some (cs, σ')) (hs : SlotR w Φ σ.ob ρ s v) :
    ∃ B' L, Rel w Φ σ' tm ρ B' ∧ IsCs w Φ cs v.cells.toList L ∧ Loose w Φ B' L ∧ (∀ b ∈ B', b ∈ B) ∧ (∀ b ∈ L, b ∈ B) := by
  unfold F.take at ht
  split at ht
  · simp only [Option.some.injEq, Prod.mk.injEq] at ht
    obtain ⟨rfl, rfl⟩ := ht
    simp only [SlotR] at hs
    obtain ⟨rfl, h1⟩ := hs
    refine ⟨B, [], h, ?_, Loose.nil, fun _ h => h, by simp⟩
    rw [one_cells h1]
    simp only [IsCs, IsC, IsO]
    exact ⟨_, [], [], [], rfl, rfl, ⟨rfl, h1, rfl⟩, rfl, rfl⟩
  · simp only [Option.some.injEq, Prod.mk.injEq] at ht
    obtain ⟨rfl, rfl⟩ := ht
    simp only [SlotR] at hs
    refine ⟨B, [], h, ?_, Loose.nil, fun _ h => h, by simp⟩
    rw [one_cells hs.one]
    simp only [IsCs]
    exact ⟨_, [], [], [], rfl, rfl, litC_is hs, rfl, rfl⟩
  · simp only [Option.some.injEq, Prod.mk.injEq] at ht
    obtain ⟨rfl, rfl⟩ := ht
    simp only [SlotR] at hs
    obtain ⟨vs, rfl, h2⟩ := hs
    exact ⟨B, [], h, litCs_is h2, Loose.nil, fun _ h => h, by simp⟩
  · simp only [Option.some.injEq, Prod.mk.injEq] at ht
    obtain ⟨rfl, rfl⟩ := ht
    simp only [SlotR] at hs
    subst hs
    refine ⟨B, [], h, ?_, Loose.nil, fun _ h => h, by simp⟩
    rw [one_cells (one_slice _ _ _)]
    simp only [IsCs, IsC, IsO]
    exact ⟨_, [], [], [], rfl, rfl, .inl ⟨rfl, rfl, rfl⟩, rfl, rfl⟩
  · rename_i k p off n ag
    split at ht
    · rename_i o hl
      split at ht
      · rename_i cs0 hc
        simp only [SlotR] at hs
        obtain ⟨o1, vs, q1, q2, q3, q4⟩ := hs
        rw [hl] at q1; cases q1
        obtain ⟨o2, vs2, Bc, c1, c2, c3, c4, c5, c6, c7⟩ := h.cells hc
        rw [hl] at c1; cases c1
        rw [q2] at c2; cases c2
        have hcells := vw_cells c5 q4
        rw [hcells]
        split at ht
        · rename_i hf
          simp only [Option.some.injEq, Prod.mk.injEq] at ht
          obtain ⟨rfl, rfl⟩ := ht
          have := free_blocks c5 hf
          subst this
          exact ⟨B, [], h, c5, Loose.nil, fun _ h => h, by simp⟩
        · split at ht
          · rename_i hw
            simp only [Bool.and_eq_true, Bool.not_eq_true', List.isEmpty_iff, decide_eq_true_eq] at hw
            obtain ⟨⟨⟨_, rfl⟩, rfl⟩, rfl⟩ := hw
            simp only [Option.some.injEq, Prod.mk.injEq] at ht
            obtain ⟨rfl, rfl⟩ := ht
            obtain ⟨B', h1, h2, h3⟩ := h.del k
            obtain ⟨Bk, h4, h5, h6⟩ := h3 o hl
            obtain ⟨o3, r, d1, d2, d3, d4⟩ := cells_some hc
            rw [hl] at d1; cases d1
            simp only [getRow, Option.some.injEq] at d2
            subst d2
            simp only [valsAt, Option.some.injEq] at q2
            subst q2
            have e1 : cs0 = o.cells := by rw [d4]; simp
            have e2 : ((ρ k).drop 0).take o.cells.length = ρ k := by
              rw [List.drop_zero, ← h4.length, List.take_length]
            rw [e1, e2]
            exact ⟨B', Bk, h1, h4, h5, fun b hb => h2.subset hb, h6⟩
          · split at ht
            · cases ht
            · rename_i hp0
              simp only [List.isEmpty_iff] at hp0
              split at ht
              · rename_i r hr
                split at ht
                · rename_i cs' hset
                  simp only [Option.some.injEq, Prod.mk.injEq] at ht
                  obtain ⟨rfl, rfl⟩ := ht
                  obtain ⟨g, a, cur, et, fz, a1, a2, a3, a4, a5⟩ := c7 hp0
                  obtain ⟨o3, r', d1, d2, d3, d4⟩ := cells_some hc
                  rw [hl] at d1; cases d1
                  rw [hr] at d2; cases d2
                  have hlen : (cs0.map fun c => if c.free then c else C.hole).length = n := by simp [c6]
                  have hov := h.over (w' := w) (new := cs0.map fun c => if c.free then c else C.hole) (nv := (vs.drop off).take n) (L := []) hl hr hp0 (by rw [hlen]; exact d3) hset a1 a2 a2 rfl (fun _ _ => rfl) (by rw [hlen]; exact a5.symm) (fun _ _ => rfl) rfl (holes_is c5) Loose.nil
                  rw [hlen] at hov
                  obtain ⟨B', Y, vs', r1, r2, r3, r4, r5, r6, _⟩ := hov
                  rw [q2] at r2; cases r2
                  rw [← d4] at r3
                  exact ⟨B', Y, r1, r3, r4, fun b hb => (r5 b hb).elim (fun h => h) (by simp), r6⟩
                · cases ht
              · cases ht
      · cases ht
    · cases ht
  · cases ht

end Go.Proofs.YtckojpaklblnpaaDoor.Ev

/- A store. -/
set_option linter.unusedVariables false
set_option linter.unusedSimpArgs false
namespace Go.Proofs.YtckojpaklblnpaaDoor.Ev
open Go Go.RowKit

theorem setCell_heap {w : World} {g o : Nat} {v : Value} {cur : Array Value} {e : TypeId} {fz : Nat × Nat} (hg : w.heap[g]? = some (.cells cur e fz)) :
    (w.setCell ⟨g, o, none⟩ v).heap[g]? = some (.cells (cur.setIfInBounds o v) e fz) ∧ (∀ b, b ≠ g → (w.setCell ⟨g, o, none⟩ v).heap[b]? = w.heap[b]?) ∧ (w.setCell ⟨g, o, none⟩ v).heap.size = w.heap.size := by
  refine ⟨?_, ?_, ?_⟩
  · simp [World.setCell, Array.getElem?_modify, hg]
  · intro b hb
    simp [World.setCell, Array.getElem?_modify, Ne.symm hb]
  · simp [World.setCell]

theorem setCells_heap {g : Nat} {e : TypeId} {fz : Nat × Nat} : ∀ (vs : List Value) (o : Nat) (w : World) (cur : Array Value), w.heap[g]? = some (.cells cur e fz) → o + vs.length ≤ cur.size →
    ∃ cur', (w.setCells g o vs).heap[g]? = some (.cells cur' e fz) ∧ cur'.size = cur.size ∧ (∀ j, j < o ∨ o + vs.length ≤ j → cur'[j]? = cur[j]?) ∧ (cur'.toList.drop o).take vs.length = vs ∧
      (∀ b, b ≠ g → (w.setCells g o vs).heap[b]? = w.heap[b]?) ∧ (w.setCells g o vs).heap.size = w.heap.size ∧ (w.setCells g o vs).os = w.os ∧ (w.setCells g o vs).tape = w.tape ∧ (w.setCells g o vs).output = w.output
  | [], o, w, cur, hg, hl => ⟨cur, hg, rfl, fun _ _ => rfl, by simp, fun _ _ => rfl, rfl, rfl, rfl, rfl⟩
  | v :: vs, o, w, cur, hg, hl => by
    obtain ⟨h1, h2, h3⟩ := setCell_heap (o := o) (v := v) hg
    simp only [List.length_cons] at hl
    obtain ⟨cur', k1, k2, k3, k4, k5, k6, k7, k8, k9⟩ := setCells_heap vs (o + 1) (w.setCell ⟨g, o, none⟩ v) (cur.setIfInBounds o v) h1 (by simp; omega)
    refine ⟨cur', k1, by simpa using k2, ?_, ?_, fun b hb => (k5 b hb).trans (h2 b hb), k6.trans h3, k7, k8, k9⟩
    · intro j hj
      simp only [List.length_cons] at hj
      rw [k3 j (by omega), Array.getElem?_setIfInBounds, if_neg (by omega)]
    · have e1 : cur'[o]? = some v := by
        rw [k3 o (.inl (Nat.lt_succ_self _)), Array.getElem?_setIfInBounds]
        simp
        omega
      have e2 : cur'.toList[o]? = some v := by simpa using e1
      obtain ⟨hlt, e3⟩ := List.getElem?_eq_some_iff.mp e2
      rw [List.drop_eq_getElem_cons hlt, List.length_cons, List.take_succ_cons, k4, e3]

theorem IsCs.ones {w : World} {Φ : Bool → Nat → Prop} : ∀ {cs : List C} {vs : List Value} {B : List Nat}, IsCs w Φ cs vs B → ∀ v ∈ vs, v.oneCell' = true
  | [], vs, B, h => by simp only [IsCs] at h; rw [h.1]; simp
  | c :: cs, vs, B, h => by
    simp only [IsCs] at h
    obtain ⟨v, vs', B1, B2, rfl, rfl, h3, h4⟩ := h
    intro x hx
    rcases List.mem_cons.mp hx with rfl | hx
    · exact h3.one
    · exact h4.ones x hx

section
variable {P : Program} {e : Env} {σ : F} {d : Option Tmp} {ty : TypeId} {pos : String} {after : Array Edge} {gd : Option (Nat × Bool)}

theorem run_storeAt (he : EnvOk P e) {t : TypeId} {v : TV} (h : e.ty t = some v) {w : World} {g a : Nat} {cur : Array Value} {et : TypeId} {fz : Nat × Nat} {x : Value} (hx : x.cells.size = v.cells) (hg : w.heap[g]? = some (.cells cur et fz)) (hfz : ∀ j, j < cur.size → ¬(fz.1 ≤ j ∧ j < fz.2)) (hs : a + v.cells ≤ cur.size) (h1 : ∀ y ∈ x.cells.toList, y.oneCell' = true) :
    (Instr.storeAt t (.pointer (some ⟨g, a, none⟩)) x).run P w = .ok () (w.setCells g a x.cells.toList) := by
  have hlen : x.cells.toList.length = v.cells := by simpa using hx
  have := run_storeCells_cells (P := P) g a x.cells.toList 0 w (fun j hj => by simp only [World.cell?, hg]; simp; omega) (fun j hj => by
    have := hfz (a + 0 + j) (by omega)
    simp only [World.frozen?, hg]
    obtain ⟨lo, hi⟩ := fz
    simp only at this ⊢
    simp
    omega) h1
  simp only [Nat.add_zero] at this
  simp only [Instr.storeAt, Instr.sureAddr, storeVar, Sem.run_bind, Sem.run_pure, Result.andThen_ok, he.run_sizeOf h, hx, ne_eq, not_true_eq_false, if_false, this]

theorem write_some {σ σ' : F} {k : Nat} {p : List (Nat × Nat)} {off : Nat} {new : List C} (h : σ.write k p off new = some σ') :
    ∃ o r cs, look σ.ob k = some o ∧ p ≠ [] ∧ getRow o.cells p = some r ∧ off + new.length ≤ r.length ∧ setRow o.cells p (setRange r off new) = some cs ∧ σ' = { sl := killAts k p off new.length σ.sl, ob := put_ σ.ob k { o with cells := cs } } := by
  unfold F.write at h
  cases h1 : look σ.ob k with
  | none => simp [h1] at h
  | some o =>
    simp only [h1] at h
    split at h
    · cases h
    · rename_i hp
      simp only [List.isEmpty_iff] at hp
      cases h2 : getRow o.cells p with
      | none => simp [h2] at h
      | some r =>
        simp only [h2] at h
        split at h
        · rename_i hl
          cases h3 : setRow o.cells p (setRange r off new) with
          | none => simp [h3] at h
          | some cs =>
            simp only [h3, Option.some.injEq] at h
            exact ⟨o, r, cs, rfl, hp, h2, hl, h3, h.symm⟩
        · cases h

/-- A store at an address, of cells that are in nobody's hands. -/
theorem store_is (he : EnvOk P e) {w : World} {Φ : Bool → Nat → Prop} {tm : List Value} {ρ : Nat → List Value} {B L : List Nat} (hR : Rel w Φ σ tm ρ B) {t : TypeId} {v : TV} (h : e.ty t = some v) {k : Nat} {p : List (Nat × Nat)} {off : Nat} {cs : List C} {σ' : F} {a x : Value}
    (ha : SlotR w Φ σ.ob ρ (.ptr k p off) a) (hc : IsCs w Φ cs x.cells.toList L) (hL : Loose w Φ B L) (hcs : cs.length = v.cells) (hw : σ.write k p off cs = some σ') :
    ∃ w' B', (Instr.storeAt t a x).run P w = .ok () w' ∧ Rel w' Φ σ' tm ρ B' ∧ w'.os = w.os ∧ w'.tape = w.tape ∧ w'.output = w.output ∧ w'.heap.size = w.heap.size ∧ (∀ b, b ∉ B → w'.heap[b]? = w.heap[b]?) ∧ (∀ b ∈ B', b ∈ B ∨ b ∈ L) := by
  obtain ⟨o, r, cs', h1, h2, h3, h4, h5, rfl⟩ := write_some hw
  simp only [SlotR] at ha
  obtain ⟨o', g, ad, q1, q2, rfl⟩ := ha
  rw [h1] at q1; cases q1
  obtain ⟨Bk, hB, hnd, hk⟩ := hR.look h1
  obtain ⟨g9, a9, cur, et, fz, X, Br, Y, rv, f1, f2, f3, f4, f5, f6, f7, f8, f9, _⟩ := place p o.cells (ρ k) Bk r hk hnd h3 h2
  rw [q2] at f1
  simp only [Option.some.injEq, Prod.mk.injEq] at f1
  obtain ⟨rfl, rfl⟩ := f1
  have hgB : g ∈ B := hB g (by rw [f3]; simp [f4])
  have hlen : x.cells.toList.length = cs.length := hc.length
  obtain ⟨cur', s1, s2, s3, s4, s5, s6, s7, s8, s9⟩ := setCells_heap (g := g) x.cells.toList (ad + off) w cur f5 (by omega)
  have hnew : IsCs (w.setCells g (ad + off) x.cells.toList) Φ cs x.cells.toList L := hc.keep ⟨fun _ _ h => h, fun y b hb => s5 b (by rintro rfl; exact hR.disj b hgB y hb), fun b hb => s5 b (by rintro rfl; exact hL.apart b hb hgB)⟩
  obtain ⟨B', Y', vs, r1, _, _, _, r5, _⟩ := hR.over (nv := x.cells.toList) h1 h3 h2 h4 h5 q2 f5 s1 s2 (by intro j hj; exact s3 j (by omega)) (by rw [← hlen]; exact s4) s5 s6 hnew hL
  refine ⟨_, B', run_storeAt he h (by simpa [hcs] using hlen) f5 f6 (by omega) hc.ones, r1, s7, s8, s9, s6, fun b hb => s5 b (by rintro rfl; exact hb hgB), r5⟩

theorem ok_store (he : EnvOk P e) (t : TypeId) (v : TV) (a x : Operand) (cs : List C) (σ' σ'' : F) (k : Nat) (p : List (Nat × Nat)) (off : Nat) (h : e.ty t = some v) (ht : σ.take (σ.rd x) = some (cs, σ')) (hcs : cs.length = v.cells) (ha : σ'.rd a = .ptr k p off) (hw : σ'.write k p off cs = some σ'') :
    OpOk P ⟨d, .store t a x, ty, pos, after, gd⟩ σ (σ''.put d .undef) := by
  intro w Φ tm ρ B ds K Q hR hK
  obtain ⟨B1, L, hR1, hc, hL, hB1, hLB⟩ := take_is hR ht (hR.rd (ds := ds) x)
  have har := hR1.rd (ds := ds) a
  rw [ha] at har
  obtain ⟨w', B', s1, s2, s3, s4, s5, s6, s7, s8⟩ := store_is he hR1 h har hc hL hcs hw
  unfold Oper.wp
  simp only [execOp, Sem.run_bind, s1, Result.andThen_ok, Sem.run_pure]
  rw [Oper.upon_skip, act_put]
  refine hK _ _ Φ ρ B' (s2.put d (by simp only [SlotR])) ⟨s3, s4, s5, by omega, fun b hb hn => s7 b (fun hb1 => hn (hB1 b hb1)), fun b hb => ?_, fun _ _ h => h, fun _ _ h => .inl h, fun _ h => .inl h, fun _ _ => rfl⟩ (Same.refl _ _)
  exact (s8 b hb).elim (fun h => .inl (hB1 b h)) (fun h => .inl (hLB b h))

end

end Go.Proofs.YtckojpaklblnpaaDoor.Ev

/- New blocks: variables, boxes, values built of parts. -/
set_option linter.unusedVariables false
set_option linter.unusedSimpArgs false
namespace Go.Proofs.YtckojpaklblnpaaDoor.Ev
open Go Go.RowKit

theorem alloc_get (w : World) (o : Obj) : (w.alloc o).heap[w.heap.size]? = some o := by
  show (w.heap.push o)[w.heap.size]? = some o
  simp
theorem alloc_old (w : World) (o : Obj) {b : Nat} (h : b < w.heap.size) : (w.alloc o).heap[b]? = w.heap[b]? := by
  show (w.heap.push o)[b]? = w.heap[b]?
  simp [Array.getElem?_push, Nat.ne_of_lt h]
theorem alloc_size (w : World) (o : Obj) : (w.alloc o).heap.size = w.heap.size + 1 := by
  show (w.heap.push o).size = _
  simp

/-- The world has one block more. -/
structure Grew (w w' : World) (g : Nat) (o : Obj) : Prop where
  here : g = w.heap.size
  get : w'.heap[g]? = some o
  old : ∀ b, b < w.heap.size → w'.heap[b]? = w.heap[b]?
  size : w'.heap.size = w.heap.size + 1
  os : w'.os = w.os
  tape : w'.tape = w.tape
  output : w'.output = w.output

theorem grew_alloc (w : World) (o : Obj) : Grew w (w.alloc o) w.heap.size o := ⟨rfl, alloc_get w o, fun b h => alloc_old w o h, alloc_size w o, rfl, rfl, rfl⟩

theorem Rel.grew {w w' : World} {Φ : Bool → Nat → Prop} {σ : F} {tm : List Value} {ρ : Nat → List Value} {B : List Nat} {g : Nat} {o : Obj} (h : Rel w Φ σ tm ρ B) (hg : Grew w w' g o) : Rel w' Φ σ tm ρ B :=
  h.keep ⟨fun _ _ h => h, fun x b hb => hg.old b (h.ltΦ x b hb), fun b hb => hg.old b (h.lt b hb)⟩ (by rw [hg.size]; omega)

theorem cells_grew {w w' : World} {Φ : Bool → Nat → Prop} {cs : List C} {vs : List Value} {σ : F} {tm : List Value} {ρ : Nat → List Value} {B L : List Nat} {g : Nat} {o : Obj} (h : Rel w Φ σ tm ρ B) (hL : Loose w Φ B L) (hc : IsCs w Φ cs vs L) (hg : Grew w w' g o) : IsCs w' Φ cs vs L :=
  hc.keep ⟨fun _ _ h => h, fun x b hb => hg.old b (h.ltΦ x b hb), fun b hb => hg.old b (hL.lt b hb)⟩

theorem Loose.grew {w w' : World} {Φ : Bool → Nat → Prop} {σ : F} {tm : List Value} {ρ : Nat → List Value} {B L : List Nat} {g : Nat} {o : Obj} (h : Rel w Φ σ tm ρ B) (hL : Loose w Φ B L) (hg : Grew w w' g o) : Loose w' Φ B (g :: L) where
  nd := by
    rw [List.nodup_cons]
    refine ⟨fun hc => ?_, hL.nd⟩
    have := hL.lt g hc
    rw [hg.here] at this
    omega
  apart b hb hB := by
    rcases List.mem_cons.mp hb with rfl | hb
    · have := h.lt b hB
      rw [hg.here] at this
      omega
    · exact hL.apart b hb hB
  lt b hb := by
    rw [hg.size]
    rcases List.mem_cons.mp hb with rfl | hb
    · rw [hg.here]; omega
    · have := hL.lt b hb; omega
  disj b hb x hx := by
    rcases List.mem_cons.mp hb with rfl | hb
    · have := h.ltΦ x b hx
      rw [hg.here] at this
      omega
    · exact hL.disj b hb x hx

theorem boxed_is {w : World} {Φ : Bool → Nat → Prop} {cs : List C} {xs : List Value} {L : List Nat} {g : Nat} {t : TypeId} (hg : w.heap[g]? = some (.cells xs.toArray t (0, 0))) (hc : IsCs w Φ cs xs L) (hpos : 0 < cs.length) :
    IsCs w Φ [.own cs.length [cs]] [.slice (some ⟨g, 0, none⟩) 1 1] (g :: L) ∧ addrAt w [.own cs.length [cs]] [.slice (some ⟨g, 0, none⟩) 1 1] [(0, 0)] = some (g, 0) := by
  constructor
  · simp only [IsCs, IsC]
    refine ⟨_, [], g :: L, [], rfl, by simp, ?_, rfl, rfl⟩
    refine .inr ⟨g, 1, xs.toArray, t, (0, 0), L, rfl, hg, fun i _ hh => by simp at hh, ⟨hpos, Nat.le_refl _⟩, by decide, by simp [hc.length], rfl, ?_⟩
    simp only [IsCRows]
    refine ⟨L, [], by simp, trivial, ?_, rfl⟩
    have : xs.toArray.toList.take cs.length = xs := by simp [← hc.length]
    rw [this]
    exact hc
  · simp [addrAt, stepAt, C.row, C.sz, hg]

theorem zero_own {w : World} {v : Value} {t : T} (h : cellT v = some t) : IsO w t v [] := by
  have h1 := cellT_one h
  unfold cellT at h
  split at h <;> simp at h
  · subst h
    simp only [IsO]
    exact .inl ⟨rfl, rfl, rfl⟩
  all_goals
    subst h
    simp only [IsO]
    exact ⟨trivial, h1, trivial⟩

theorem zeros_own {w : World} {Φ : Bool → Nat → Prop} : ∀ {vs : List Value} {ts : List T}, cellsT vs = some ts → IsCs w Φ (ts.map C.ow) vs []
  | [], ts, h => by simp only [cellsT, Option.some.injEq] at h; subst h; simp only [List.map_nil, IsCs]; exact ⟨trivial, trivial⟩
  | v :: vs, ts, h => by
    simp only [cellsT] at h
    cases h1 : cellT v with
    | none => simp [h1] at h
    | some t =>
      cases h2 : cellsT vs with
      | none => simp [h1, h2] at h
      | some ts' =>
        simp only [h1, h2, Option.some.injEq] at h
        subst h
        simp only [List.map_cons, IsCs, IsC]
        exact ⟨v, vs, [], [], rfl, rfl, zero_own h1, zeros_own h2⟩

/-- A box made of cells that are in nobody's hands. -/
theorem Rel.boxed {w w' : World} {Φ : Bool → Nat → Prop} {σ : F} {tm : List Value} {ρ : Nat → List Value} {B L : List Nat} {g : Nat} {t : TypeId} {cs : List C} {xs : List Value} (h : Rel w Φ σ tm ρ B) (hL : Loose w Φ B L) (hc : IsCs w Φ cs xs L) (hg : Grew w w' g (.cells xs.toArray t (0, 0))) (hpos : 0 < cs.length) (d : Nat) (bx : Bool) (vr : Bool) :
    ∃ ρ' B', Rel w' Φ ((σ.new (keyOf d 0) { cells := [.own cs.length [cs]], box := bx, var := vr }).put (some d) (.ptr (keyOf d 0) [(0, 0)] 0)) (putL tm (some d) (.pointer (some ⟨g, 0, none⟩))) ρ' B' ∧ (∀ b ∈ B', b ∈ B ∨ b ∈ L ∨ b = g) ∧ Same (some d) ρ ρ' := by
  have hR' := h.grew hg
  have hL' := hL.grew h hg
  obtain ⟨b1, b2⟩ := boxed_is hg.get (cells_grew h hL hc hg) hpos
  obtain ⟨B', hR, hs⟩ := hR'.new (keyOf d 0) { cells := [.own cs.length [cs]], box := bx, var := vr } _ _ b1 hL'
  refine ⟨_, _, hR.put (some d) ?_, ?_, ?_⟩
  · simp only [SlotR]
    refine ⟨{ cells := [.own cs.length [cs]], box := bx, var := vr }, g, 0, by simp [F.new, Ev.look], ?_, rfl⟩
    simpa using b2
  · intro b hb
    rcases List.mem_append.mp hb with hb | hb
    · rcases List.mem_cons.mp hb with rfl | hb
      · exact .inr (.inr rfl)
      · exact .inr (.inl hb)
    · exact .inl (hs.subset hb)
  · intro j hj
    have : j ≠ keyOf d 0 := newKey_keyOf (by decide) hj
    simp [this]

section
variable {P : Program} {e : Env} {σ : F} {ty : TypeId} {pos : String} {after : Array Edge} {gd : Option (Nat × Bool)}

theorem Grew.next {w w' : World} {Φ : Bool → Nat → Prop} {ρ ρ' : Nat → List Value} {B B' : List Nat} {g : Nat} {o : Obj} (hg : Grew w w' g o) (hB : ∀ b ∈ B', b ∈ B ∨ b = g) (hρ : ∀ j, j < 64 → ρ' j = ρ j) : Next w Φ ρ B w' Φ ρ' B' where
  os := hg.os
  tape := hg.tape
  output := hg.output
  size := by rw [hg.size]; omega
  block b hb _ := hg.old b hb
  own b hb := (hB b hb).elim .inl (fun h => .inr (by rw [h, hg.here]; exact Nat.le_refl _))
  mono _ _ h := h
  fresh _ _ h := .inl h
  lent _ h := .inl h
  imp := hρ

theorem ok_alloc (he : EnvOk P e) (t : TypeId) (v : TV) (d : Nat) (h : e.ty t = some v) :
    OpNew P ⟨some d, .alloc t, ty, pos, after, gd⟩ σ ((σ.new (keyOf d 0) { cells := [.own v.cells [v.zero.map .ow]], box := true }).put (some d) (.ptr (keyOf d 0) [(0, 0)] 0)) := by
  intro w Φ tm ρ B ds K Q hR hK
  obtain ⟨z, h1', h2, h3⟩ := he.run_zero h
  have h1 := h1' w
  have hz := zeros_own (w := w) (Φ := Φ) h2
  have hlen : (v.zero.map C.ow).length = v.cells := by rw [← hz.length]; simpa using h3
  have hg := grew_alloc w (.cells z.cells.toList.toArray t (0, 0))
  obtain ⟨ρ', B', hR', hB', hρ'⟩ := hR.boxed Loose.nil hz hg (by rw [hlen]; exact he.pos h) d true false
  rw [hlen] at hR'
  have hrun : (Instr.alloc t true (.tuple #[])).run P w = .ok (.pointer (some ⟨w.heap.size, 0, none⟩)) (w.alloc (.cells z.cells.toList.toArray t (0, 0))) := by
    simp only [Instr.alloc, Sem.run_bind, h1, Result.andThen_ok, newVar, newRow, run_newObj, Sem.run_pure, Array.toArray_toList]
    rfl
  unfold Oper.wp
  simp only [execOp, Sem.run_bind, hrun, Result.andThen_ok, Sem.run_pure]
  rw [Oper.upon_value, act_put]
  exact hK _ _ _ _ _ hR' (hg.next (fun b hb => (hB' b hb).elim .inl (fun h => h.elim (by simp) .inr)) hρ'.imp) hρ' hg.old

theorem ok_box (t : TypeId) (x : Operand) (d : Nat) (cs : List C) (σ' : F) (ht : σ.take (σ.rd x) = some (cs, σ')) (hpos : 0 < cs.length) :
    OpNew P ⟨some d, .box t x, ty, pos, after, gd⟩ σ ((σ'.new (keyOf d 0) { cells := [.own cs.length [cs]], box := true }).put (some d) (.ptr (keyOf d 0) [(0, 0)] 0)) := by
  intro w Φ tm ρ B ds K Q hR hK
  obtain ⟨B1, L, hR1, hc, hL, hB1, hLB⟩ := take_is hR ht (hR.rd (ds := ds) x)
  have hg := grew_alloc w (.cells ((⟨tm.toArray, ds⟩ : Act).eval x).cells.toList.toArray t (0, 0))
  obtain ⟨ρ', B', hR', hB', hρ'⟩ := hR1.boxed hL hc hg hpos d true false
  have hrun : (Instr.box t ((⟨tm.toArray, ds⟩ : Act).eval x)).run P w = .ok (.pointer (some ⟨w.heap.size, 0, none⟩)) (w.alloc (.cells ((⟨tm.toArray, ds⟩ : Act).eval x).cells.toList.toArray t (0, 0))) := by
    simp only [Instr.box, Sem.run_bind, Result.andThen_ok, newVar, newRow, run_newObj, Sem.run_pure, Array.toArray_toList]
    rfl
  unfold Oper.wp
  simp only [execOp, Sem.run_bind, hrun, Result.andThen_ok, Sem.run_pure]
  rw [Oper.upon_value, act_put]
  exact hK _ _ _ _ _ hR' (hg.next (fun b hb => (hB' b hb).elim (fun h => .inl (hB1 b h)) (fun h => h.elim (fun h => .inl (hLB b h)) .inr)) hρ'.imp) hρ' hg.old

/-! ### values built of parts -/

def PartsR (w : World) (Φ : Bool → Nat → Prop) : List (Nat × List C) → List (Nat × Value) → List Nat → Prop
  | [], [], L => L = []
  | (i, cs) :: r, (j, v) :: r', L => i = j ∧ ∃ L1 L2, L = L1 ++ L2 ∧ IsCs w Φ cs v.cells.toList L1 ∧ PartsR w Φ r r' L2
  | _, _, _ => False

theorem Loose.append {w : World} {Φ : Bool → Nat → Prop} {B L L' : List Nat} (h : Loose w Φ B L) (k : Loose w Φ B L') (hd : ∀ b ∈ L, b ∉ L') : Loose w Φ B (L ++ L') where
  nd := by rw [List.nodup_append]; exact ⟨h.nd, k.nd, fun a ha b hb e => hd a ha (e ▸ hb)⟩
  apart b hb := by rcases List.mem_append.mp hb with hb | hb; exact h.apart b hb; exact k.apart b hb
  lt b hb := by rcases List.mem_append.mp hb with hb | hb; exact h.lt b hb; exact k.lt b hb
  disj b hb := by rcases List.mem_append.mp hb with hb | hb; exact h.disj b hb; exact k.disj b hb

theorem parts_is {w : World} {Φ : Bool → Nat → Prop} {tm : List Value} {ρ : Nat → List Value} {ds : List Deferred} : ∀ {xs : List (Nat × Operand)} {σ σ' : F} {B : List Nat} {l : List (Nat × List C)}, Rel w Φ σ tm ρ B → partCells σ xs = some (l, σ') →
    ∃ B' L, Rel w Φ σ' tm ρ B' ∧ PartsR w Φ l (xs.map fun (i, x) => (i, (⟨tm.toArray, ds⟩ : Act).eval x)) L ∧ Loose w Φ B' L ∧ (∀ b ∈ B', b ∈ B) ∧ (∀ b ∈ L, b ∈ B)
  | [], σ, σ', B, l, h, hp => by
    simp only [partCells, Option.some.injEq, Prod.mk.injEq] at hp
    obtain ⟨rfl, rfl⟩ := hp
    exact ⟨B, [], h, by simp [PartsR], Loose.nil, fun _ h => h, by simp⟩
  | (i, x) :: r, σ, σ', B, l, h, hp => by
    simp only [partCells] at hp
    cases h1 : σ.take (σ.rd x) with
    | none => simp [h1] at hp
    | some q =>
      obtain ⟨cs, σ1⟩ := q
      simp only [h1] at hp
      cases h2 : partCells σ1 r with
      | none => simp [h2] at hp
      | some q =>
        obtain ⟨l', σ2⟩ := q
        simp only [h2, Option.some.injEq, Prod.mk.injEq] at hp
        obtain ⟨rfl, rfl⟩ := hp
        obtain ⟨B1, L1, hR1, hc, hL, hB1, hLB⟩ := take_is h h1 (h.rd (ds := ds) x)
        obtain ⟨B2, L2, hR2, hp2, hL2, hB2, hLB2⟩ := parts_is (ds := ds) hR1 h2
        refine ⟨B2, L1 ++ L2, hR2, ⟨rfl, L1, L2, rfl, hc, hp2⟩, (hL.sub hB2).append hL2 (fun b hb hb2 => hL.apart b hb (hLB2 b hb2)), fun b hb => hB1 b (hB2 b hb), fun b hb => ?_⟩
        rcases List.mem_append.mp hb with hb | hb
        · exact hLB b hb
        · exact hB1 b (hLB2 b hb)

theorem fold_set (off : Nat) : ∀ (l : List Value) (j : Nat) (cs : Array Value), off + j + l.length ≤ cs.size → ((l.zipIdx j).foldl (fun cs (q : Value × Nat) => cs.setIfInBounds (off + q.2) q.1) cs).toList = cs.toList.take (off + j) ++ l ++ cs.toList.drop (off + j + l.length)
  | [], j, cs, h => by simp
  | v :: l, j, cs, h => by
    simp only [List.zipIdx_cons, List.foldl_cons, List.length_cons] at h ⊢
    rw [fold_set off l (j + 1) _ (by simp; omega)]
    simp only [Array.toList_setIfInBounds]
    have hlt : off + j < cs.toList.length := by rw [Array.length_toList]; omega
    rw [show off + (j + 1) = off + j + 1 by omega, List.take_succ_eq_append_getElem (by simpa using hlt), List.take_set_of_le (Nat.le_refl _), List.drop_set_of_lt (by omega)]
    have e9 : off + j + 1 + l.length = off + j + (l.length + 1) := by omega
    simp [e9]

theorem fill_is {w : World} {Φ : Bool → Nat → Prop} {place : Nat → Option (Nat × Nat)} : ∀ {l : List (Nat × List C)} {vs : List (Nat × Value)} {cells cs : List C} {arr : Array Value} {L L0 : List Nat}, PartsR w Φ l vs L → IsCs w Φ cells arr.toList L0 → L0.Nodup → L.Nodup → (∀ b ∈ L0, b ∉ L) → fillAt place cells l = some cs →
    ∃ arr' L', Instr.fill place arr vs = some arr' ∧ IsCs w Φ cs arr'.toList L' ∧ L'.Nodup ∧ (∀ b ∈ L', b ∈ L0 ∨ b ∈ L) ∧ arr'.size = arr.size
  | [], [], cells, cs, arr, L, L0, hp, hc, hn0, hn, hd, hf => by
    simp only [fillAt, Option.some.injEq] at hf
    subst hf
    exact ⟨arr, L0, rfl, hc, hn0, fun b hb => .inl hb, rfl⟩
  | [], _ :: _, _, _, _, _, _, hp, _, _, _, _, _ => hp.elim
  | _ :: _, [], _, _, _, _, _, hp, _, _, _, _, _ => by simp [PartsR] at hp
  | (i, c) :: r, (j, v) :: r', cells, cs, arr, L, L0, hp, hc, hn0, hn, hd, hf => by
    obtain ⟨rfl, L1, L2, rfl, h1, h2⟩ := hp
    simp only [fillAt] at hf
    cases hpl : place i with
    | none => simp [hpl] at hf
    | some q =>
      obtain ⟨off, sz⟩ := q
      simp only [hpl] at hf
      split at hf
      · rename_i hcond
        obtain ⟨hsz, hfit⟩ := hcond
        have hvl : v.cells.size = sz := by rw [← hsz, ← h1.length]; simp
        have hcl : cells.length = arr.size := by rw [← hc.length]; simp
        obtain ⟨X, Y, Z, rfl, _, q2⟩ := hc.setRange h1 (by rw [hsz]; exact hfit)
        simp only [List.nodup_append, List.mem_append, ne_eq] at hn hn0 hd
        have hstep : (v.cells.zipIdx.foldl (fun cs (q : Value × Nat) => cs.setIfInBounds (off + q.2) q.1) arr).toList = arr.toList.take off ++ v.cells.toList ++ arr.toList.drop (off + v.cells.toList.length) := by
          rw [← Array.foldl_toList, Array.toList_zipIdx, fold_set off v.cells.toList 0 arr (by simp; omega)]
          simp
        have harr : (v.cells.zipIdx.foldl (fun cs (q : Value × Nat) => cs.setIfInBounds (off + q.2) q.1) arr).size = arr.size := by
          rw [← Array.length_toList, hstep]
          simp
          omega
        obtain ⟨arr', L', f1, f2, f3, f4, f5⟩ := fill_is (arr := v.cells.zipIdx.foldl (fun cs (q : Value × Nat) => cs.setIfInBounds (off + q.2) q.1) arr) (L0 := X ++ (L1 ++ Z)) h2 (by rw [hstep]; exact q2) (by
            simp only [List.nodup_append, List.mem_append, ne_eq]
            refine ⟨hn0.1, ⟨hn.1, hn0.2.1.2.1, fun a ha b hb e => hd b (.inr (.inr hb)) (.inl (e ▸ ha))⟩, ?_⟩
            rintro a ha b (hb | hb) e
            · exact hd a (.inl ha) (.inl (e ▸ hb))
            · exact hn0.2.2 a ha b (.inr hb) e) hn.2.1 (by
            intro b hb hb2
            simp only [List.mem_append] at hb
            rcases hb with hb | hb | hb
            · exact hd b (.inl hb) (.inr hb2)
            · exact hn.2.2 b hb b hb2 rfl
            · exact hd b (.inr (.inr hb)) (.inr hb2)) hf
        refine ⟨arr', L', ?_, f2, f3, ?_, f5.trans harr⟩
        · simp only [Instr.fill, hpl]
          rw [if_neg (by simp [hvl]; omega)]
          exact f1
        · intro b hb
          have := f4 b hb
          simp only [List.mem_append] at this ⊢
          rcases this with (h | h | h) | h <;> simp [h]
      · cases hf

end

end Go.Proofs.YtckojpaklblnpaaDoor.Ev

/- Rows of slices: joined, cut, packed; values that are made of parts. -/
set_option linter.unusedVariables false
set_option linter.unusedSimpArgs false
namespace Go.Proofs.YtckojpaklblnpaaDoor.Ev
open Go Go.RowKit

theorem IsCRows.ext {w : World} {Φ : Bool → Nat → Prop} {sz : Nat} : ∀ {rows : List (List C)} {vs vs' : List Value} {B : List Nat}, IsCRows w Φ sz rows vs B → vs'.take (rows.length * sz) = vs.take (rows.length * sz) → IsCRows w Φ sz rows vs' B
  | [], vs, vs', B, h, _ => by simp only [IsCRows] at h ⊢; exact h
  | r :: rs, vs, vs', B, h, he => by
    simp only [IsCRows] at h ⊢
    obtain ⟨B1, B2, rfl, h2, h3, h4⟩ := h
    simp only [List.length_cons, Nat.succ_mul] at he
    have e1 : vs'.take sz = vs.take sz := by
      have := congrArg (List.take sz) he
      rwa [List.take_take, List.take_take, Nat.min_eq_left (by omega)] at this
    have e2 : (vs'.drop sz).take (rs.length * sz) = (vs.drop sz).take (rs.length * sz) := by
      have := congrArg (List.drop sz) he
      rwa [List.drop_take, List.drop_take, show rs.length * sz + sz - sz = rs.length * sz by omega] at this
    exact ⟨B1, B2, rfl, h2, by rw [e1]; exact h3, h4.ext e2⟩

theorem IsCRows.append {w : World} {Φ : Bool → Nat → Prop} {sz : Nat} : ∀ {rows rows' : List (List C)} {vs : List Value} {B B' : List Nat}, IsCRows w Φ sz rows vs B → IsCRows w Φ sz rows' (vs.drop (rows.length * sz)) B' → IsCRows w Φ sz (rows ++ rows') vs (B ++ B')
  | [], rows', vs, B, B', h, k => by
    simp only [IsCRows] at h
    subst h
    simpa using k
  | r :: rs, rows', vs, B, B', h, k => by
    simp only [IsCRows] at h
    obtain ⟨B1, B2, rfl, h2, h3, h4⟩ := h
    simp only [List.cons_append, IsCRows]
    refine ⟨B1, B2 ++ B', by simp [List.append_assoc], h2, h3, h4.append ?_⟩
    rw [List.drop_drop]
    rwa [List.length_cons, Nat.succ_mul, Nat.add_comm] at k

theorem packRows_is {w : World} {Φ : Bool → Nat → Prop} {sz : Nat} {rows : List (List C)} {v : Value} {B : List Nat} (h : OwnSl w sz rows.length v B (fun vs B' => IsCRows w Φ sz rows vs B')) : IsC w Φ (packRows sz rows) v B := by
  unfold packRows
  split
  · rename_i l hl
    simp only [IsC, IsO]
    rw [ownedRows_length hl]
    exact h.imp (fun _ _ => rfl) (fun vs B' _ k => IsCRows.ofOwned sz rows l vs B' hl k)
  · simp only [IsC]
    exact h

theorem chunk_is {w : World} {Φ : Bool → Nat → Prop} {sz : Nat} : ∀ (n : Nat) {cs : List C} {vs : List Value} {B : List Nat}, IsCs w Φ cs vs B → cs.length = n * sz → ∃ B', IsCRows w Φ sz (chunk sz n cs) vs B' ∧ (chunk sz n cs).length = n ∧ B'.Sublist B
  | 0, cs, vs, B, h, hl => ⟨[], by simp only [chunk, IsCRows], rfl, List.nil_sublist _⟩
  | n + 1, cs, vs, B, h, hl => by
    rw [Nat.succ_mul] at hl
    obtain ⟨B1, B2, rfl, h1, h2⟩ := h.split sz
    obtain ⟨B', h3, h4, h5⟩ := chunk_is (sz := sz) n h2 (by simp; omega)
    refine ⟨B1 ++ B', ?_, by simp [chunk, h4], List.Sublist.append (List.Sublist.refl _) h5⟩
    simp only [chunk, IsCRows]
    exact ⟨B1, B', rfl, by simp; omega, h1, h3⟩

/-- A value made of cells that are in nobody's hands. -/
theorem Rel.made {w : World} {Φ : Bool → Nat → Prop} {σ : F} {tm : List Value} {ρ : Nat → List Value} {B L : List Nat} {cs : List C} {vs : List Value} {ag : Bool} {v : Value} (h : Rel w Φ σ tm ρ B) (hL : Loose w Φ B L) (hc : IsCs w Φ cs vs L) (hv : valOf ag vs v) (d : Option Nat) (j : Nat) (hj : j < 8) :
    ∃ ρ' B', Rel w Φ (σ.made d j ag cs).1 tm ρ' B' ∧ SlotR w Φ (σ.made d j ag cs).1.ob ρ' (σ.made d j ag cs).2 v ∧ (∀ b ∈ B', b ∈ B ∨ b ∈ L) ∧ Same d ρ ρ' := by
  unfold F.made
  split
  · rename_i hf
    refine ⟨ρ, B, h, ?_, fun b hb => .inl hb, fun _ _ => rfl⟩
    simp only
    split
    · rename_i ts hts
      exact ofT_is (free_is h.sub.1 (lentAll cs) hf hts (fun h => h) hc).2 hv
    · simp only [SlotR]
  · split
    · rename_i d
      obtain ⟨B', hR, hs⟩ := h.new (keyOf d j) { cells := cs } vs L hc hL
      refine ⟨_, _, hR, ?_, ?_, ?_⟩
      · simp only [SlotR]
        refine ⟨{ cells := cs }, vs, by simp [F.new, Ev.look], by simp [valsAt], by rw [hc.length]; omega, ?_⟩
        have : (vs.drop 0).take cs.length = vs := by rw [List.drop_zero, ← hc.length, List.take_length]
        rw [this]
        exact hv
      · intro b hb
        rcases List.mem_append.mp hb with hb | hb
        · exact .inr hb
        · exact .inl (hs.subset hb)
      · intro i hi
        have : i ≠ keyOf d j := newKey_keyOf hj hi
        simp [this]
    · exact ⟨ρ, B, h, by simp only [SlotR], fun b hb => .inl hb, fun _ _ => rfl⟩

/-- An owned slice, new under a key. -/
theorem Rel.newSlice {w : World} {Φ : Bool → Nat → Prop} {σ : F} {tm : List Value} {ρ : Nat → List Value} {B L : List Nat} {c : C} {v : Value} (h : Rel w Φ σ tm ρ B) (hL : Loose w Φ B L) (hc : IsC w Φ c v L) (d : Nat) :
    ∃ ρ' B', Rel w Φ ((σ.new (keyOf d 0) { cells := [c] }).put (some d) (.vw (keyOf d 0) [] 0 1 false)) (putL tm (some d) v) ρ' B' ∧ (∀ b ∈ B', b ∈ B ∨ b ∈ L) ∧ Same (some d) ρ ρ' := by
  obtain ⟨B', hR, hs⟩ := h.new (keyOf d 0) { cells := [c] } [v] L (by simp only [IsCs]; exact ⟨v, [], L, [], rfl, by simp, hc, rfl, rfl⟩) hL
  refine ⟨_, _, hR.put (some d) ?_, ?_, ?_⟩
  · simp only [SlotR]
    exact ⟨{ cells := [c] }, [v], by simp [F.new, Ev.look], by simp [valsAt], by simp, by simp⟩
  · intro b hb
    rcases List.mem_append.mp hb with hb | hb
    · exact .inr hb
    · exact .inl (hs.subset hb)
  · intro i hi
    have : i ≠ keyOf d 0 := newKey_keyOf (by decide) hi
    simp [this]

section
variable {P : Program} {e : Env} {σ : F} {ty : TypeId} {pos : String} {after : Array Edge} {gd : Option (Nat × Bool)}

theorem run_places (he : EnvOk P e) {w : World} : ∀ {fs : List Field} {l : List (Nat × Nat)}, fieldPlaces e fs = some l → (fs.mapM (m := Sem) fun f => do pure (f.offset, ← sizeOf f.type)).run P w = .ok l w
  | [], l, h => by
    simp only [fieldPlaces, Option.some.injEq] at h
    subst h
    simp
  | f :: r, l, h => by
    simp only [fieldPlaces] at h
    cases h1 : e.ty f.type with
    | none => simp [h1] at h
    | some w0 =>
      cases h2 : fieldPlaces e r with
      | none => simp [h1, h2] at h
      | some l' =>
        simp only [h1, h2, Option.some.injEq] at h
        subst h
        have ih := run_places he (w := w) h2
        simp only [List.mapM_cons, Sem.run_bind, he.run_sizeOf h1, Result.andThen_ok, Sem.run_pure, ih]

theorem run_placesA (he : EnvOk P e) {w : World} {fs : Array Field} {l : List (Nat × Nat)} (h : fieldPlaces e fs.toList = some l) : (fs.mapM (m := Sem) fun f => do pure (f.offset, ← sizeOf f.type)).run P w = .ok l.toArray w := by
  rw [Array.mapM_eq_mapM_toList, ← bind_pure_comp, Sem.run_bind, run_places he h]
  rfl

theorem ok_build (he : EnvOk P e) (t : TypeId) (v : TV) (parts : Array (Nat × Operand)) (place : Nat → Option (Nat × Nat)) (l : List (Nat × List C)) (cs : List C) (σ' : F) (d : Option Nat) (h : e.ty t = some v) (hpl : placesOf e v.desc = some place) (hp : partCells σ parts.toList = some (l, σ')) (hf : fillAt place (v.zero.map .ow) l = some cs) :
    OpStill P ⟨d, .build t parts, ty, pos, after, gd⟩ σ ((σ'.made d 0 true cs).1.put d (σ'.made d 0 true cs).2) := by
  intro w Φ tm ρ B ds hR
  obtain ⟨B1, L, hR1, hparts, hL, hB1, hLB⟩ := parts_is (ds := ds) hR hp
  obtain ⟨z, h1', h2, h3⟩ := he.run_zero h
  have hz := zeros_own (w := w) (Φ := Φ) h2
  obtain ⟨arr, L', f1, f2, f3, f4, f5⟩ := fill_is hparts hz List.nodup_nil hL.nd (by simp) hf
  have hL' : Loose w Φ B1 L' := ⟨f3, fun b hb => (f4 b hb).elim (by simp) (hL.apart b), fun b hb => (f4 b hb).elim (by simp) (hL.lt b), fun b hb => (f4 b hb).elim (by simp) (hL.disj b)⟩
  obtain ⟨ρ', B', hR', hS', hB', hρ'⟩ := hR1.made (ag := true) (v := .agg arr) hL' f2 (by simp [valOf]) d 0 (by decide)
  have hrun : ∀ w2, (Instr.build t (parts.map fun (i, x) => (i, (⟨tm.toArray, ds⟩ : Act).eval x))).run P w2 = .ok (.agg arr) w2 := by
    intro w2
    have h1 := h1' w2
    have hu := he.und h
    unfold placesOf at hpl
    simp only [Instr.build, Sem.run_bind, h1, Result.andThen_ok, run_underlying hu, Array.toList_map]
    split at hpl
    · rename_i fs hd
      simp only [Option.map_eq_some_iff] at hpl
      obtain ⟨lp, hlp, rfl⟩ := hpl
      have hfun : (fun (x : Nat) => lp.toArray[x]?) = fun (i : Nat) => lp[i]? := by funext i; simp
      simp only [hd, Sem.run_bind, run_placesA he (w := w2) hlp, Result.andThen_ok, hfun]
      rw [f1]
      rfl
    · rename_i n el hd
      simp only [Option.map_eq_some_iff] at hpl
      obtain ⟨w0, hw0, rfl⟩ := hpl
      simp only [hd, Sem.run_bind, he.run_sizeOf hw0, Result.andThen_ok, f1, Sem.run_pure]
    · cases hpl
  refine ⟨.agg arr, ρ', B', fun w2 _ => by simp only [execOp, Sem.run_bind, hrun w2, Result.andThen_ok, Sem.run_pure], hR'.put d hS', fun b hb => ?_, hρ'⟩
  rcases hB' b hb with hb | hb
  · exact hB1 b hb
  · rcases f4 b hb with hb | hb
    · cases hb
    · exact hLB b hb

end

end Go.Proofs.YtckojpaklblnpaaDoor.Ev

/- New slices. -/
set_option linter.unusedVariables false
set_option linter.unusedSimpArgs false
namespace Go.Proofs.YtckojpaklblnpaaDoor.Ev
open Go Go.RowKit

theorem made_rows {z : Array Value} {sz : Nat} (hz : z.size = sz) (hpos : 0 < sz) (n : Nat) : (madeCells z (n * sz)).toList = (List.replicate n z.toList).flatten := by
  subst hz
  have key : ∀ n, (List.range (n * z.size)).map (fun i => z[i % z.size]!) = (List.replicate n z.toList).flatten := by
    intro n
    induction n with
    | zero => simp
    | succ n ih =>
      rw [Nat.succ_mul, Nat.add_comm, List.range_add, List.map_append, List.map_map, List.replicate_succ, List.flatten_cons, ← ih]
      congr 1
      · apply List.ext_getElem
        · simp
        · intro i h1 h2
          simp at h1
          simp [Nat.mod_eq_of_lt h1, h1]
      · apply List.map_congr_left
        intro i _
        simp
  rw [madeCells, Array.toList_map, Array.toList_range]
  exact key n

theorem zeros_flat {w : World} {Φ : Bool → Nat → Prop} {zs : List Value} {ts : List T} (h : cellsT zs = some ts) : ∀ n, IsCs w Φ (List.replicate n (ts.map C.ow)).flatten (List.replicate n zs).flatten []
  | 0 => by simp [IsCs]
  | n + 1 => by
    simp only [List.replicate_succ, List.flatten_cons]
    exact (zeros_own h).append (zeros_flat h n)

theorem zeros_rows {w : World} {Φ : Bool → Nat → Prop} {zs : List Value} {ts : List T} (h : cellsT zs = some ts) {sz : Nat} (hl : zs.length = sz) : ∀ n m, n ≤ m → IsCRows w Φ sz (List.replicate n (ts.map C.ow)) (List.replicate m zs).flatten []
  | 0, m, _ => by simp only [List.replicate_zero, IsCRows]
  | n + 1, 0, hm => by omega
  | n + 1, m + 1, hm => by
    have h0 := zeros_own (w := w) (Φ := Φ) h
    simp only [List.replicate_succ, List.flatten_cons, IsCRows]
    refine ⟨[], [], rfl, by rw [← h0.length, hl], ?_, ?_⟩
    · rw [← hl, List.take_left]; exact h0
    · rw [← hl, List.drop_left, hl]; exact zeros_rows h hl n m (by omega)

section
variable {P : Program} {e : Env} {σ : F} {ty : TypeId} {pos : String} {after : Array Edge} {gd : Option (Nat × Bool)}

theorem ok_buildSlice (he : EnvOk P e) (t el : TypeId) (tv v : TV) (len : Nat) (parts : Array (Nat × Operand)) (l : List (Nat × List C)) (cs : List C) (σ' : F) (d : Nat) (h : e.ty t = some tv) (htd : tv.desc = .slice el) (hv : e.ty el = some v) (hp : partCells σ parts.toList = some (l, σ')) (hlen : len * v.cells ≤ 16777216)
    (hf : fillAt (fun i => some (i * v.cells, v.cells)) (List.replicate len (v.zero.map C.ow)).flatten l = some cs) :
    OpNew P ⟨some d, .buildSlice t len parts, ty, pos, after, gd⟩ σ ((σ'.new (keyOf d 0) { cells := [packRows v.cells (chunk v.cells len cs)] }).put (some d) (.vw (keyOf d 0) [] 0 1 false)) := by
  intro w Φ tm ρ B ds K Q hR hK
  have hu := he.und h
  rw [htd] at hu
  have hpos := he.pos hv
  obtain ⟨B1, L, hR1, hparts, hL, hB1, hLB⟩ := parts_is (ds := ds) hR hp
  obtain ⟨z, h1', h2, h3⟩ := he.run_zero hv
  have h1 := h1' w
  have hz := zeros_flat (w := w) (Φ := Φ) h2 len
  rw [← made_rows h3 hpos len] at hz
  obtain ⟨arr, L', f1, f2, f3, f4, f5⟩ := fill_is hparts hz List.nodup_nil hL.nd (by simp) hf
  rw [size_madeCells] at f5
  have hL' : Loose w Φ B1 L' := ⟨f3, fun b hb => (f4 b hb).elim (by simp) (hL.apart b), fun b hb => (f4 b hb).elim (by simp) (hL.lt b), fun b hb => (f4 b hb).elim (by simp) (hL.disj b)⟩
  have hcl : cs.length = len * v.cells := by rw [← f2.length]; simpa using f5
  obtain ⟨B2, r1, r2, r3⟩ := chunk_is len f2 hcl
  have hL2 : Loose w Φ B1 B2 := ⟨f3.sublist r3, fun b hb => hL'.apart b (r3.subset hb), fun b hb => hL'.lt b (r3.subset hb), fun b hb => hL'.disj b (r3.subset hb)⟩
  have hg := grew_alloc w (.cells arr el (0, 0))
  have hR2 := hR1.grew hg
  have hL3 := hL2.grew hR1 hg
  have hrows := r1.keep (w' := w.alloc (.cells arr el (0, 0))) ⟨fun _ _ h => h, fun x b hb => hg.old b (hR1.ltΦ x b hb), fun b hb => hg.old b (hL2.lt b hb)⟩
  have hlm : len ≤ maxLen := by
    have : len * 1 ≤ len * v.cells := Nat.mul_le_mul_left _ hpos
    simp only [maxLen]; omega
  have hC : IsC (w.alloc (.cells arr el (0, 0))) Φ (packRows v.cells (chunk v.cells len cs)) (.slice (some ⟨w.heap.size, 0, none⟩) len len) (w.heap.size :: B2) := by
    apply packRows_is
    rw [r2]
    exact .inr ⟨w.heap.size, len, arr, el, (0, 0), B2, rfl, hg.get, fun i _ hh => by simp at hh, ⟨hpos, Nat.le_refl _⟩, hlm, f5, rfl, hrows⟩
  obtain ⟨ρ', B', hR', hB', hρ'⟩ := hR2.newSlice hL3 hC d
  have hrun : (Instr.buildSlice t len (parts.map fun (i, x) => (i, (⟨tm.toArray, ds⟩ : Act).eval x))).run P w = .ok (.slice (some ⟨w.heap.size, 0, none⟩) len len) (w.alloc (.cells arr el (0, 0))) := by
    simp only [Instr.buildSlice, Sem.run_bind, run_underlying hu, Result.andThen_ok, he.run_sizeOf hv]
    rw [if_neg (by omega)]
    by_cases hn : len * v.cells = 0
    · have hl0 : len = 0 := by
        rcases Nat.mul_eq_zero.mp hn with h | h
        · exact h
        · omega
      subst hl0
      have e1 : ((Array.range (0 * v.cells)).map fun x => (#[] : Array Value)[x % (#[] : Array Value).size]!) = madeCells z.cells (0 * v.cells) := by
        apply Array.ext'
        rw [made_rows h3 hpos 0]
        simp
      simp only [hn, if_true, Sem.run_pure, Sem.run_bind, Result.andThen_ok]
      rw [hn] at e1
      rw [e1]
      rw [hn] at f1
      simp only [Array.toList_map, f1]
      rfl
    · simp only [if_neg hn, Sem.run_pure, Sem.run_bind, Result.andThen_ok, h1]
      have e1 : ((Array.range (len * v.cells)).map fun x => z.cells[x % z.cells.size]!) = madeCells z.cells (len * v.cells) := rfl
      rw [e1]
      simp only [Array.toList_map, f1]
      rfl
  unfold Oper.wp
  simp only [execOp, Sem.run_bind, hrun, Result.andThen_ok, Sem.run_pure]
  rw [Oper.upon_value, act_put]
  refine hK _ _ _ _ _ hR' (hg.next (fun b hb => ?_) hρ'.imp) hρ' hg.old
  rcases hB' b hb with hb | hb
  · exact .inl (hB1 b hb)
  · rcases List.mem_cons.mp hb with rfl | hb
    · exact .inr rfl
    · rcases f4 b (r3.subset hb) with hb | hb
      · cases hb
      · exact .inl (hLB b hb)

theorem ok_makeSlice (he : EnvOk P e) (t el : TypeId) (tv v : TV) (x y : Operand) (n m : Int) (d : Nat) (h : e.ty t = some tv) (htd : tv.desc = .slice el) (hv : e.ty el = some v) (hx : intOf? (σ.rd x) = some n) (hy : intOf? (σ.rd y) = some m) (hc : 0 < v.bytes ∧ 0 ≤ n ∧ n ≤ m ∧ m.toNat * v.bytes ≤ maxBytes) :
    OpNew P ⟨some d, .makeSlice t x y, ty, pos, after, gd⟩ σ ((σ.new (keyOf d 0) { cells := [.ow (.sl v.cells (List.replicate n.toNat v.zero))] }).put (some d) (.vw (keyOf d 0) [] 0 1 false)) := by
  intro w Φ tm ρ B ds K Q hR hK
  have hu := he.und h
  rw [htd] at hu
  have hpos := he.pos hv
  obtain ⟨i, z, i1, i2, i3, i4, i5, i6, i7, _⟩ := he.ty el v hv
  obtain ⟨kx, hxv⟩ := intOf_is hx (hR.rd (ds := ds) x)
  obtain ⟨ky, hyv⟩ := intOf_is hy (hR.rd (ds := ds) y)
  obtain ⟨c1, c2, c3, c4⟩ := hc
  obtain ⟨mm, rfl⟩ := Int.eq_ofNat_of_zero_le (Int.le_trans c2 c3)
  obtain ⟨nn, rfl⟩ := Int.eq_ofNat_of_zero_le c2
  simp only [Int.toNat_natCast, maxBytes] at c4 ⊢
  have hmm : mm ≤ 140737488355328 := by
    have : mm * 1 ≤ mm * v.bytes := Nat.mul_le_mul_left _ c1
    omega
  have hrun := run_make (P := P) w t el i z hu i1 i5 kx ky nn mm c2 c3 (by rw [i4, Int.mul_comm]; have : ((mm * v.bytes : Nat) : Int) ≤ 281474976710656 := by omega
                                                                           rwa [Int.natCast_mul] at this) (by omega)
  simp only [Int.toNat_natCast] at hrun
  rw [i3] at hrun
  have hg := grew_alloc w (.cells (madeCells z.cells (mm * v.cells)) el (0, 0))
  have hR2 := hR.grew hg
  have hL3 := (Loose.nil (w := w) (Φ := Φ) (B := B)).grew hR hg
  have hC : IsC (w.alloc (.cells (madeCells z.cells (mm * v.cells)) el (0, 0))) Φ (.ow (.sl v.cells (List.replicate nn v.zero))) (.slice (some ⟨w.heap.size, 0, none⟩) nn mm) [w.heap.size] := by
    simp only [IsC, IsO]
    rw [List.length_replicate]
    refine .inr ⟨w.heap.size, mm, _, el, (0, 0), [], rfl, hg.get, fun i _ hh => by simp at hh, ⟨hpos, by omega⟩, by simp only [maxLen]; omega, size_madeCells _ _, rfl, ?_⟩
    rw [made_rows i7 hpos mm]
    have := zeros_rows (w := w.alloc (.cells (madeCells z.cells (mm * v.cells)) el (0, 0))) (Φ := Φ) i6 (sz := v.cells) (by simpa using i7) nn mm (by omega)
    rw [← List.map_replicate] at this
    exact IsORows.ofCells this
  obtain ⟨ρ', B', hR', hB', hρ'⟩ := hR2.newSlice hL3 hC d
  unfold Oper.wp
  simp only [execOp, hxv, hyv, Sem.run_bind, hrun, Result.andThen_ok, Sem.run_pure]
  rw [Oper.upon_value, act_put]
  exact hK _ _ _ _ _ hR' (hg.next (fun b hb => (hB' b hb).elim .inl (fun hb => by simp at hb; exact .inr hb)) hρ'.imp) hρ' hg.old

theorem bytes_own {w : World} : ∀ (bs : List UInt8) (rest : List Value), IsORows w 1 (bs.map fun b => [.lit (.int .u8 b.toNat)]) (bs.map (fun b => Value.int .u8 b.toNat) ++ rest) []
  | [], rest => by simp only [List.map_nil, IsORows]
  | b :: bs, rest => by
    simp only [List.map_cons, List.cons_append, IsORows]
    refine ⟨[], [], rfl, rfl, ?_, ?_⟩
    · simp only [List.take_succ_cons, List.take_zero, IsOs, IsO]
      exact ⟨_, [], [], [], rfl, rfl, ⟨rfl, rfl, rfl⟩, rfl, rfl⟩
    · simpa using bytes_own bs rest

theorem ok_strBytes (he : EnvOk P e) (src dst el : TypeId) (a b v : TV) (x : Operand) (s : ByteArray) (d : Nat) (hs : e.ty src = some a) (hsd : a.desc = .string) (hd : e.ty dst = some b) (hdd : b.desc = .slice el) (hv : e.ty el = some v) (hvd : v.desc = .int .u8) (hvc : v.cells = 1) (hx : σ.rd x = .lit (.string s)) (hsz : s.size ≤ 9223372036854775807) :
    OpNew P ⟨some d, .convert src dst x, ty, pos, after, gd⟩ σ ((σ.new (keyOf d 0) { cells := [.ow (bytesT s)] }).put (some d) (.vw (keyOf d 0) [] 0 1 false)) := by
  intro w Φ tm ρ B ds K Q hR hK
  have h1 := he.und hs; rw [hsd] at h1
  have h2 := he.und hd; rw [hdd] at h2
  have h3 := he.und hv; rw [hvd] at h3
  have hr := hR.rd (ds := ds) x
  rw [hx] at hr
  have hrun := run_bytes_of_string (P := P) w src dst el s h1 h2 h3
  generalize hcap : grownCap w s.size 0 el = cap at hrun
  have hge : s.size ≤ cap := by rw [← hcap]; exact grownCap_ge w s.size 0 el
  have hle : cap ≤ maxLen := by rw [← hcap]; exact grownCap_le_maxLen w s.size 0 el (by simp only [maxLen]; omega)
  have hg : Grew w (w.drew.alloc (.cells (bytesRow s cap) el ((bytesRow s cap).size, (bytesRow s cap).size + 1))) w.heap.size (.cells (bytesRow s cap) el ((bytesRow s cap).size, (bytesRow s cap).size + 1)) :=
    ⟨rfl, alloc_get w.drew _, fun b h => alloc_old w.drew _ h, alloc_size w.drew _, rfl, rfl, rfl⟩
  have hR2 := hR.grew hg
  have hL3 := (Loose.nil (w := w) (Φ := Φ) (B := B)).grew hR hg
  have hrow : (bytesRow s cap).toList = s.data.toList.map (fun b => Value.int .u8 b.toNat) ++ List.replicate (cap - s.size) (.int .u8 0) := by
    simp [bytesRow]
  have hrs : (bytesRow s cap).size = cap := by
    rw [← Array.length_toList, hrow]
    have : s.data.size = s.size := rfl
    simp [this]
    omega
  have hC : IsC (w.drew.alloc (.cells (bytesRow s cap) el ((bytesRow s cap).size, (bytesRow s cap).size + 1))) Φ (.ow (bytesT s)) (.slice (some ⟨w.heap.size, 0, none⟩) s.size cap) [w.heap.size] := by
    simp only [IsC, bytesT, IsO]
    have hl : (s.data.toList.map fun b => [T.lit (.int .u8 b.toNat)]).length = s.size := by
      rw [List.length_map, Array.length_toList]; rfl
    rw [hl]
    refine .inr ⟨w.heap.size, cap, _, el, _, [], rfl, hg.get, fun i hi hh => ?_, ⟨Nat.one_pos, hge⟩, hle, by rw [hrs, Nat.mul_one], rfl, ?_⟩
    · simp only at hh; omega
    · rw [hrow]; exact bytes_own _ _
  obtain ⟨ρ', B', hR', hB', hρ'⟩ := hR2.newSlice hL3 hC d
  unfold Oper.wp
  simp only [execOp, slot_lit hr, Sem.run_bind, hrun, Result.andThen_ok, Sem.run_pure]
  rw [Oper.upon_value, act_put]
  exact hK _ _ _ _ _ hR' (hg.next (fun b hb => (hB' b hb).elim .inl (fun hb => by simp at hb; exact .inr hb)) hρ'.imp) hρ' hg.old

end

end Go.Proofs.YtckojpaklblnpaaDoor.Ev

/- append: an owned slice grows. -/
set_option linter.unusedVariables false
set_option linter.unusedSimpArgs false
namespace Go.Proofs.YtckojpaklblnpaaDoor.Ev
open Go Go.RowKit

theorem rows_join {w : World} {Φ : Bool → Nat → Prop} {m : Nat} {old rows : List (List C)} {cur arr news : List Value} {B L : List Nat} (h : IsCRows w Φ m old cur B) (k : IsCRows w Φ m rows news L) (hl : news.length = rows.length * m)
    (e1 : arr.take (old.length * m) = cur.take (old.length * m)) (e2 : (arr.drop (old.length * m)).take news.length = news) : IsCRows w Φ m (old ++ rows) arr (B ++ L) := by
  refine (h.ext e1).append (k.ext ?_)
  rw [← hl, e2, List.take_length]

/-- What is appended: so many elements; their cells are read so in every world of this heap. -/
structure Src (P : Program) (w : World) (xt el : TypeId) (m : Nat) (x : Value) (n : Nat) (news : List Value) : Prop where
  dx : ∃ d, P.underlying xt = some d ∧
    (((∀ k, d ≠ .int k) ∧ (∀ w' : World, w'.heap = w.heap → (Builtin.lenOf x).run P w' = .ok n w' ∧ (Builtin.firstCells m n x).run P w' = .ok news.toArray w')) ∨
     (∃ k k', d = .int k ∧ x = .int k' n ∧ ∃ z : Value, (∀ w' : World, (zeroValue el).run P w' = .ok z w') ∧ z.cells.size = m ∧ news = (List.replicate n z.cells.toList).flatten))
  len : news.length = n * m
  ones : ∀ v ∈ news, v.oneCell' = true

section
variable {P : Program} {e : Env}

theorem zeroCells_flat {z : Array Value} {m : Nat} (hz : z.size = m) (hpos : 0 < m) (n : Nat) : Builtin.zeroCells z n = (List.replicate n z.toList).flatten.toArray := by
  apply Array.ext'
  have := made_rows hz hpos n
  subst hz
  rw [← this]
  simp [Builtin.zeroCells, madeCells]

theorem run_append_room' (he : EnvOk P e) {st xt el ty : TypeId} {tv v : TV} {w : World} {x : Value} {n : Nat} {news : List Value} (ht : e.ty st = some tv) (htd : tv.desc = .slice el) (hv : e.ty el = some v) (hb : 0 < v.bytes) (hs : Src P w xt el v.cells x n news) (base : Option Addr) (sLen sCap : Nat) (hroom : sLen + n ≤ sCap) (hbytes : (sLen + n) * v.bytes ≤ maxBytes) (w' : World)
    (hst : (match base with | some a => storeCells (a.add (sLen * v.cells)) news | none => pure ()).run P w = .ok () w') :
    (Builtin.append_ #[st, xt] ty #[.slice base sLen sCap, x]).run P w = .ok (.slice base (sLen + n) sCap) w' := by
  have hu := he.und ht
  rw [htd] at hu
  have hpos := he.pos hv
  obtain ⟨i, hi, ib, is⟩ := he.run_bytes hv w
  obtain ⟨d, hd, hx⟩ := hs.dx
  rcases hx with ⟨hd1, hx⟩ | ⟨k, k', rfl, rfl, z, hz, hzs, rfl⟩
  · obtain ⟨l1, l2⟩ := hx w rfl
    cases d with
    | int k => exact absurd rfl (hd1 k)
    | _ =>
      simp only [Builtin.append_, List.getElem?_toArray, List.getElem?_cons_zero, List.getElem?_cons_succ, Sem.run_bind, run_underlying hu, Result.andThen_ok, he.run_sizeOf hv, run_underlying hd, Sem.run_pure, Bool.false_eq_true, if_false, l1, if_pos hroom, Bool.not_false, if_true, l2]
      cases base with
      | none => simp only [Sem.run_pure, Result.ok.injEq, true_and] at hst; subst hst; rfl
      | some a => simp only [Sem.run_bind, hst, Result.andThen_ok, Sem.run_pure]
  · have hn : n ≤ 140737488355328 := by
      have : (sLen + n) * 1 ≤ (sLen + n) * v.bytes := Nat.mul_le_mul_left _ hb
      simp only [maxBytes] at hbytes
      omega
    have wl : IntKind.i64.wrap (n : Int) = n := by rw [IntKind.wrap_i64]; omega
    have hnb : ¬ (281474976710656 < (n : Int) * v.bytes) := by
      have : n * v.bytes ≤ (sLen + n) * v.bytes := Nat.mul_le_mul_right _ (by omega)
      simp only [maxBytes] at hbytes
      have h2 : ((n * v.bytes : Nat) : Int) ≤ 281474976710656 := by omega
      rw [Int.natCast_mul] at h2
      omega
    have hap : ∀ w' : World, (if n * v.cells = 0 then (pure #[] : Sem (Array Value)) else do pure (Builtin.zeroCells (← zeroValue el).cells n)).run P w' = .ok ((List.replicate n z.cells.toList).flatten.toArray) w' := by
      intro w'
      by_cases h0 : n * v.cells = 0
      · have : n = 0 := by
          rcases Nat.mul_eq_zero.mp h0 with h | h
          · exact h
          · omega
        subst this
        simp
      · simp only [if_neg h0, Sem.run_bind, hz, Result.andThen_ok, Sem.run_pure, zeroCells_flat hzs hpos]
    have hl0 : ¬ ((n : Int) < 0) := by omega
    have hnb' : ¬ ((n : Int) * (i.bytes : Int) > 2 ^ 48) := by rw [ib]; simpa using hnb
    simp only [Builtin.append_, List.getElem?_toArray, List.getElem?_cons_zero, List.getElem?_cons_succ, Sem.run_bind, run_underlying hu, Result.andThen_ok, he.run_sizeOf hv, run_underlying hd, Sem.run_pure, if_true, asInt, asIntOf, wl, if_neg hl0, hi, if_neg hnb', Int.toNat_natCast, if_pos hroom, Bool.not_true, Bool.false_eq_true, if_false]
    rw [hap]
    simp only [Result.andThen_ok]
    cases base with
    | none => simp only [Sem.run_pure, Result.ok.injEq, true_and] at hst; subst hst; rfl
    | some a => simp only [Sem.run_bind, hst, Result.andThen_ok, Sem.run_pure]

theorem run_append_grow' (he : EnvOk P e) {st xt el ty : TypeId} {tv v : TV} {w : World} {x : Value} {n : Nat} {news old : List Value} (ht : e.ty st = some tv) (htd : tv.desc = .slice el) (hv : e.ty el = some v) (hb : 0 < v.bytes) (hs : Src P w xt el v.cells x n news) (base : Option Addr) (sLen sCap : Nat) (hroom : ¬ sLen + n ≤ sCap) (hbytes : (sLen + n) * v.bytes ≤ maxBytes)
    (hold : (Builtin.firstCells v.cells sLen (.slice base sLen sCap)).run P w.drew = .ok old.toArray w.drew) :
    ∃ z : Value, z.cells.size = v.cells ∧ (Builtin.append_ #[st, xt] ty #[.slice base sLen sCap, x]).run P w =
      .ok (.slice (some ⟨w.heap.size, 0, none⟩) (sLen + n) (grownCap w (sLen + n) sCap el)) (w.drew.alloc (.cells (old.toArray ++ news.toArray ++ Builtin.zeroCells z.cells (grownCap w (sLen + n) sCap el - (sLen + n))) el)) := by
  have hu := he.und ht
  rw [htd] at hu
  have hpos := he.pos hv
  obtain ⟨i, z0, hP, _, is, ib, i5, _, i7, _⟩ := he.ty el v hv
  have hi : ∀ w, (typeInfo el).run P w = .ok i w := fun w => by simp [typeInfo, hP]
  have hzv : ∀ w, (zeroValue el).run P w = .ok z0 w := fun w => by simp [zeroValue, typeInfo, hP, i5]
  refine ⟨z0, i7, ?_⟩
  obtain ⟨d, hd, hx⟩ := hs.dx
  have hneed : sLen + n ≤ 140737488355328 := by
    have : (sLen + n) * 1 ≤ (sLen + n) * v.bytes := Nat.mul_le_mul_left _ hb
    simp only [maxBytes] at hbytes
    omega
  have hmax : ∀ p : Prop, ¬ (((sLen + n : Nat) : Int) > IntKind.i64.max ∧ p) := by
    rintro p ⟨h, _⟩
    rw [IntKind.max_i64] at h
    omega
  have hfit : ¬ (Builtin.nextslicecap (sLen + n) sCap * i.bytes > 2 ^ 48) := by
    rw [ib]
    have := growslice_fits (need := sLen + n) (old := sCap) (bytes := v.bytes) (by omega) hbytes
    omega
  have hch : (choose (.appendCap (sLen + n) sCap el)).run P w = .ok (grownCap w (sLen + n) sCap el) w.drew := by
    rw [run_choose]
    rfl
  rcases hx with ⟨hd1, hx⟩ | ⟨k, k', rfl, rfl, z, hz, hzs, rfl⟩
  · obtain ⟨l1, _⟩ := hx w rfl
    obtain ⟨_, l2⟩ := hx w.drew rfl
    cases d with
    | int k => exact absurd rfl (hd1 k)
    | _ =>
      simp only [Builtin.append_, List.getElem?_toArray, List.getElem?_cons_zero, List.getElem?_cons_succ, Sem.run_bind, run_underlying hu, Result.andThen_ok, he.run_sizeOf hv, run_underlying hd, Sem.run_pure, Bool.false_eq_true, if_false, l1, if_neg hroom, Bool.not_false, if_true, hi, if_neg (hmax _), if_neg hfit, hch, run_askRoom, hold, l2, hzv, newRow, run_newObj]
      rfl
  · have wl : IntKind.i64.wrap (n : Int) = n := by rw [IntKind.wrap_i64]; omega
    have hnb : ¬ (281474976710656 < (n : Int) * v.bytes) := by
      have : n * v.bytes ≤ (sLen + n) * v.bytes := Nat.mul_le_mul_right _ (by omega)
      simp only [maxBytes] at hbytes
      have h2 : ((n * v.bytes : Nat) : Int) ≤ 281474976710656 := by omega
      rw [Int.natCast_mul] at h2
      omega
    have hap : ∀ w' : World, (if n * v.cells = 0 then (pure #[] : Sem (Array Value)) else do pure (Builtin.zeroCells (← zeroValue el).cells n)).run P w' = .ok ((List.replicate n z.cells.toList).flatten.toArray) w' := by
      intro w'
      by_cases h0 : n * v.cells = 0
      · have : n = 0 := by
          rcases Nat.mul_eq_zero.mp h0 with h | h
          · exact h
          · omega
        subst this
        simp
      · simp only [if_neg h0, Sem.run_bind, hz, Result.andThen_ok, Sem.run_pure, zeroCells_flat hzs hpos]
    have hl0 : ¬ ((n : Int) < 0) := by omega
    have hnb' : ¬ ((n : Int) * (i.bytes : Int) > 2 ^ 48) := by rw [ib]; simpa using hnb
    simp only [Builtin.append_, List.getElem?_toArray, List.getElem?_cons_zero, List.getElem?_cons_succ, Sem.run_bind, run_underlying hu, Result.andThen_ok, he.run_sizeOf hv, run_underlying hd, Sem.run_pure, if_true, asInt, asIntOf, wl, if_neg hl0, hi, if_neg hnb', Int.toNat_natCast, if_neg hroom, Bool.not_true, Bool.false_eq_true, if_false, if_neg (hmax _), if_neg hfit, hch, run_askRoom, hold]
    rw [hap]
    simp only [Result.andThen_ok, hzv, newRow, Sem.run_bind, run_newObj, Sem.run_pure]
    rfl

end

end Go.Proofs.YtckojpaklblnpaaDoor.Ev

/- append: the evaluator's side. -/
set_option linter.unusedVariables false
set_option linter.unusedSimpArgs false
namespace Go.Proofs.YtckojpaklblnpaaDoor.Ev
open Go Go.RowKit

/-- The slice that is grown, as rows of cells; and what comes of it. -/
theorem appendTo_is {c c' : C} {m : Nat} {rows : List (List C)} (h : appendTo c m rows = some c') :
    ∃ (sz : Nat) (old : List (List C)), (sz = m ∨ sz = 0) ∧ (∀ (w : World) (Φ : Bool → Nat → Prop) (v : Value) (B : List Nat), IsC w Φ c v B → OwnSl w sz old.length v B (fun vs B' => IsCRows w Φ sz old vs B')) ∧ c'.len = some (old.length + rows.length) ∧
      ∀ (w : World) (Φ : Bool → Nat → Prop) (v : Value) (B : List Nat), OwnSl w m (old.length + rows.length) v B (fun vs B' => IsCRows w Φ m (old ++ rows) vs B') → IsC w Φ c' v B := by
  unfold appendTo at h
  split at h
  · rename_i sz old
    split at h
    · rename_i hsz
      refine ⟨sz, old.map (·.map C.ow), hsz, ?_, ?_, ?_⟩
      · intro w Φ v B hc
        simp only [IsC, IsO] at hc
        rw [List.length_map]
        exact hc.imp (fun _ _ => rfl) fun vs B' _ k => k.cells
      · split at h
        · rename_i l hl
          simp only [Option.some.injEq] at h
          subst h
          simp [C.len, ownedRows_length hl]
        · simp only [Option.some.injEq] at h
          subst h
          simp [C.len]
      · intro w Φ v B hc
        split at h
        · rename_i l hl
          simp only [Option.some.injEq] at h
          subst h
          simp only [IsC, IsO]
          rw [List.length_append, ownedRows_length hl]
          rw [List.length_map] at hc
          refine hc.imp (fun _ _ => rfl) fun vs B' _ k => ?_
          have hall : ownedRows (old.map (·.map C.ow) ++ rows) = some (old ++ l) := by
            have h1 : ∀ r : List T, ownedAll (r.map C.ow) = some r := by
              intro r
              induction r with
              | nil => simp [ownedAll]
              | cons t r ih => simp [ownedAll, C.owned, ih]
            clear hc k
            induction old with
            | nil => simpa using hl
            | cons r old ih => simp only [List.map_cons, List.cons_append, ownedRows, h1, ih]
          exact IsCRows.ofOwned m _ _ vs B' hall k
        · simp only [Option.some.injEq] at h
          subst h
          simp only [IsC]
          rw [List.length_append]
          exact hc
    · cases h
  · rename_i sz old
    split at h
    · rename_i hsz
      simp only [Option.some.injEq] at h
      subst h
      refine ⟨sz, old, hsz, ?_, by simp [C.len], ?_⟩
      · intro w Φ v B hc
        simp only [IsC] at hc
        exact hc
      · intro w Φ v B hc
        simp only [IsC]
        rw [List.length_append]
        exact hc
    · cases h
  · cases h

section
variable {P : Program} {e : Env}

theorem append_core (he : EnvOk P e) {σ : F} {w : World} {Φ : Bool → Nat → Prop} {tm : List Value} {ρ : Nat → List Value} {B Bc L : List Nat} (hR : Rel w Φ σ tm ρ B) {st xt el ty : TypeId} {tv v : TV} {x s : Value} {rows old : List (List C)} {news : List Value} {sz : Nat}
    (ht : e.ty st = some tv) (htd : tv.desc = .slice el) (hv : e.ty el = some v) (hb : 0 < v.bytes) (hs : Src P w xt el v.cells x rows.length news) (hsz : sz = v.cells ∨ sz = 0) (hown : OwnSl w sz old.length s Bc (fun vs B' => IsCRows w Φ sz old vs B')) (hrows : IsCRows w Φ v.cells rows news L)
    (hBc : Loose w Φ B Bc) (hL : Loose w Φ B L) (hd : ∀ b ∈ Bc, b ∉ L) (hbytes : (old.length + rows.length) * v.bytes ≤ maxBytes) :
    ∃ v' w' L', (Builtin.append_ #[st, xt] ty #[s, x]).run P w = .ok v' w' ∧ OwnSl w' v.cells (old.length + rows.length) v' L' (fun vs B' => IsCRows w' Φ v.cells (old ++ rows) vs B') ∧ Rel w' Φ σ tm ρ B ∧ Loose w' Φ B L' ∧ w'.os = w.os ∧ w'.tape = w.tape ∧ w'.output = w.output ∧ w.heap.size ≤ w'.heap.size ∧
      (∀ b, b < w.heap.size → b ∉ Bc → w'.heap[b]? = w.heap[b]?) ∧ (∀ b ∈ L', b ∈ Bc ∨ b ∈ L ∨ w.heap.size ≤ b) := by
  have hpos := he.pos hv
  have hlen := hs.len
  have hneed : old.length + rows.length ≤ 140737488355328 := by
    have : (old.length + rows.length) * 1 ≤ (old.length + rows.length) * v.bytes := Nat.mul_le_mul_left _ hb
    simp only [maxBytes] at hbytes
    omega
  -- growing
  have grow : ∀ (base : Option Addr) (cap : Nat) (olds cur : List Value) (B' : List Nat), ¬ old.length + rows.length ≤ cap → s = .slice base old.length cap → IsCRows w Φ v.cells old cur B' → olds = cur.take (old.length * v.cells) → olds.length = old.length * v.cells → (∀ b ∈ B', b ∈ Bc) → B'.Nodup →
      (Builtin.firstCells v.cells old.length (.slice base old.length cap)).run P w.drew = .ok olds.toArray w.drew →
      ∃ v' w' L', (Builtin.append_ #[st, xt] ty #[s, x]).run P w = .ok v' w' ∧ OwnSl w' v.cells (old.length + rows.length) v' L' (fun vs B' => IsCRows w' Φ v.cells (old ++ rows) vs B') ∧ Rel w' Φ σ tm ρ B ∧ Loose w' Φ B L' ∧ w'.os = w.os ∧ w'.tape = w.tape ∧ w'.output = w.output ∧ w.heap.size ≤ w'.heap.size ∧
      (∀ b, b < w.heap.size → b ∉ Bc → w'.heap[b]? = w.heap[b]?) ∧ (∀ b ∈ L', b ∈ Bc ∨ b ∈ L ∨ w.heap.size ≤ b) := by
    intro base cap olds cur B' hn hsv hold e1 e2 hB' hnd hf
    obtain ⟨z, hz, hrun⟩ := run_append_grow' he (ty := ty) ht htd hv hb hs base old.length cap hn hbytes hf
    rw [← hsv] at hrun
    generalize hgc : grownCap w (old.length + rows.length) cap el = gc at hrun
    have hge : old.length + rows.length ≤ gc := by rw [← hgc]; exact grownCap_ge w _ _ _
    have hle : gc ≤ maxLen := by rw [← hgc]; exact grownCap_le_maxLen w _ _ _ (by simp only [maxLen]; omega)
    generalize harr : olds.toArray ++ news.toArray ++ Builtin.zeroCells z.cells (gc - (old.length + rows.length)) = arr at hrun
    have hg : Grew w (w.drew.alloc (.cells arr el)) w.heap.size (.cells arr el) := ⟨rfl, alloc_get w.drew _, fun b h => alloc_old w.drew _ h, alloc_size w.drew _, rfl, rfl, rfl⟩
    have hl1 : arr.toList = olds ++ (news ++ (Builtin.zeroCells z.cells (gc - (old.length + rows.length))).toList) := by rw [← harr]; simp
    have hLL : Loose w Φ B (B' ++ L) := Loose.append ⟨hnd, fun b hb => hBc.apart b (hB' b hb), fun b hb => hBc.lt b (hB' b hb), fun b hb => hBc.disj b (hB' b hb)⟩ hL (fun b hb => hd b (hB' b hb))
    have hk : Keeps w (w.drew.alloc (.cells arr el)) Φ Φ (B' ++ L) := ⟨fun _ _ h => h, fun x b hb => hg.old b (hR.ltΦ x b hb), fun b hb => hg.old b (hLL.lt b hb)⟩
    refine ⟨_, _, w.heap.size :: (B' ++ L), hrun, ?_, hR.grew hg, hLL.grew hR hg, rfl, rfl, rfl, by rw [hg.size]; omega, fun b hb _ => hg.old b hb, ?_⟩
    · refine .inr ⟨w.heap.size, gc, arr, el, (0, 0), B' ++ L, rfl, hg.get, fun i _ hh => by simp at hh, ⟨hpos, hge⟩, hle, ?_, rfl, ?_⟩
      · rw [← Array.length_toList, hl1]
        simp only [List.length_append, e2, hlen, Array.length_toList, size_zeroCells, hz]
        rw [← Nat.add_assoc, ← Nat.add_mul, ← Nat.add_mul]
        congr 1
        omega
      · refine rows_join (cur := cur) (news := news) (hold.keep (hk.sub (by intro b hb; simp [hb]))) (hrows.keep (hk.sub (by intro b hb; simp [hb]))) hlen ?_ ?_
        · rw [hl1, ← e1, ← e2, List.take_left]
        · rw [hl1, ← e2, List.drop_left, List.take_left]
    · intro b hb
      rcases List.mem_cons.mp hb with rfl | hb
      · exact .inr (.inr (Nat.le_refl _))
      · rcases List.mem_append.mp hb with hb | hb
        · exact .inl (hB' b hb)
        · exact .inr (.inl hb)
  rcases hown with ⟨rfl, h0, rfl⟩ | ⟨g, cap, cur, et, fz, B', rfl, hg, hfz, ⟨hpz, hnc⟩, hcm, hcs, rfl, hold⟩
  · have hold0 : old = [] := List.length_eq_zero_iff.mp h0
    subst hold0
    by_cases hr : rows = []
    · subst hr
      have hnews : news = [] := List.length_eq_zero_iff.mp (by simpa using hlen)
      subst hnews
      have hrun := run_append_room' he (ty := ty) ht htd hv hb hs none 0 0 (by simp) (by simp) w rfl
      exact ⟨_, w, [], hrun, .inl ⟨rfl, rfl, rfl⟩, hR, Loose.nil, rfl, rfl, rfl, Nat.le_refl _, fun _ _ _ => rfl, by simp⟩
    · refine grow none 0 [] [] [] (by simp; exact hr) rfl (by simp only [IsCRows]) (by simp) (by simp) (by simp) List.nodup_nil ?_
      exact run_firstCells_none (P := P) w.drew v.cells 0 0 0
  · have hszv : sz = v.cells := by rcases hsz with h | h; exact h; omega
    subst hszv
    have hgL : g ∉ L := hd g (by simp)
    by_cases hroom : old.length + rows.length ≤ cap
    · have hfit : old.length * v.cells + news.length ≤ cur.size := by rw [hlen, hcs, ← Nat.add_mul]; exact Nat.mul_le_mul_right _ hroom
      obtain ⟨cur', s1, s2, s3, s4, s5, s6, s7, s8, s9⟩ := setCells_heap (g := g) news (old.length * v.cells) w cur hg hfit
      have hst : (storeCells ((⟨g, 0, none⟩ : Addr).add (old.length * v.cells)) news).run P w = .ok () (w.setCells g (old.length * v.cells) news) := by
        rw [Addr.add_lit]
        have := run_storeCells_cells (P := P) g (old.length * v.cells) news 0 w (fun j hj => by simp only [World.cell?, hg]; simp; omega) (fun j hj => by
          have := hfz (old.length * v.cells + 0 + j) (by omega)
          simp only [World.frozen?, hg]
          obtain ⟨lo, hi⟩ := fz
          simp only at this ⊢
          simp
          omega) hs.ones
        simpa using this
      have hrun := run_append_room' he (ty := ty) ht htd hv hb hs (some ⟨g, 0, none⟩) old.length cap hroom hbytes _ hst
      have hk : Keeps w (w.setCells g (old.length * v.cells) news) Φ Φ (B ++ (B' ++ L)) := by
        refine ⟨fun _ _ h => h, fun y b hb => s5 b (by rintro rfl; exact hBc.disj b (by simp) y hb), fun b hb => s5 b ?_⟩
        rintro rfl
        have := hBc.nd
        simp only [List.nodup_cons] at this
        simp only [List.mem_append] at hb
        rcases hb with hb | hb | hb
        · exact hBc.apart b (by simp) hb
        · exact this.1 hb
        · exact hgL hb
      refine ⟨_, _, g :: (B' ++ L), hrun, ?_, hR.keep (hk.sub (by intro b hb; simp [hb])) (by rw [s6]; exact Nat.le_refl _), ?_, s7, s8, s9, by rw [s6]; exact Nat.le_refl _, fun b hb hn => s5 b (by rintro rfl; exact hn (by simp)), ?_⟩
      · refine .inr ⟨g, cap, cur', et, fz, B' ++ L, rfl, s1, fun i hi => hfz i (by omega), ⟨hpos, hroom⟩, hcm, by omega, rfl, ?_⟩
        refine rows_join (cur := cur.toList) (news := news) (hold.keep (hk.sub (by intro b hb; simp [hb]))) (hrows.keep (hk.sub (by intro b hb; simp [hb]))) hlen ?_ s4
        exact take_ext (fun j hj => by simpa using s3 j (.inl hj))
      · have h1 := hBc.append hL hd
        refine ⟨by simpa using h1.nd, fun b hb => h1.apart b (by simpa using hb), fun b hb => by rw [s6]; exact h1.lt b (by simpa using hb), fun b hb => h1.disj b (by simpa using hb)⟩
      · intro b hb
        rcases List.mem_cons.mp hb with rfl | hb
        · exact .inl (by simp)
        · rcases List.mem_append.mp hb with hb | hb
          · exact .inl (by simp [hb])
          · exact .inr (.inl hb)
    · have hnd := hBc.nd
      simp only [List.nodup_cons] at hnd
      have hcl : (cur.toList.take (old.length * v.cells)).length = old.length * v.cells := by
        rw [List.length_take]
        apply Nat.min_eq_left
        have := Nat.mul_le_mul_right v.cells hnc
        have h2 : cur.toList.length = cur.size := Array.length_toList
        omega
      refine grow (some ⟨g, 0, none⟩) cap (cur.toList.take (old.length * v.cells)) cur.toList B' hroom rfl hold rfl hcl (fun b hb => by simp [hb]) hnd.2 ?_
      refine run_firstCells_some (P := P) w.drew v.cells old.length ⟨g, 0, none⟩ old.length cap _ hcl ?_
      intro j y hj
      rw [List.getElem?_take] at hj
      split at hj
      · rw [Addr.add_lit]
        have hg' : w.drew.heap[g]? = some (.cells cur et fz) := hg
        simp only [World.cell?, hg']
        simpa using hj
      · cases hj

end

end Go.Proofs.YtckojpaklblnpaaDoor.Ev

/- What is appended. -/
set_option linter.unusedVariables false
set_option linter.unusedSimpArgs false
namespace Go.Proofs.YtckojpaklblnpaaDoor.Ev
open Go Go.RowKit

theorem IsTRows.length_le {w : World} {φ : Nat → Prop} {sz : Nat} : ∀ {rows : List (List T)} {vs : List Value}, IsTRows w φ sz rows vs → rows.length * sz ≤ vs.length
  | [], vs, h => by simp
  | r :: rs, vs, h => by
    simp only [IsTRows] at h
    obtain ⟨h1, h2, h3⟩ := h
    have h4 := h2.length
    have h5 := h3.length_le
    simp only [List.length_take, List.length_drop] at h4 h5
    rw [List.length_cons, Nat.succ_mul]
    omega

theorem IsCRows.length_le {w : World} {Φ : Bool → Nat → Prop} {sz : Nat} : ∀ {rows : List (List C)} {vs : List Value} {B : List Nat}, IsCRows w Φ sz rows vs B → rows.length * sz ≤ vs.length
  | [], vs, B, h => by simp
  | r :: rs, vs, B, h => by
    simp only [IsCRows] at h
    obtain ⟨B1, B2, rfl, h1, h2, h3⟩ := h
    have h4 := h2.length
    have h5 := h3.length_le
    simp only [List.length_take, List.length_drop] at h4 h5
    rw [List.length_cons, Nat.succ_mul]
    omega

theorem IsCRows.ones {w : World} {Φ : Bool → Nat → Prop} {sz : Nat} : ∀ {rows : List (List C)} {vs : List Value} {B : List Nat}, IsCRows w Φ sz rows vs B → ∀ v ∈ vs.take (rows.length * sz), v.oneCell' = true
  | [], vs, B, h => by simp
  | r :: rs, vs, B, h => by
    simp only [IsCRows] at h
    obtain ⟨B1, B2, rfl, h1, h2, h3⟩ := h
    intro v hv
    rw [List.length_cons, Nat.succ_mul, Nat.add_comm, List.take_add] at hv
    rcases List.mem_append.mp hv with hv | hv
    · exact h2.ones v hv
    · exact h3.ones v hv

theorem litRows_is {w : World} {Φ : Bool → Nat → Prop} {b : Bool} {sz : Nat} : ∀ {rows : List (List T)} {vs : List Value}, IsTRows w (Φ b) sz rows vs → IsCRows w Φ sz (rows.map (·.map (litC b))) vs []
  | [], vs, h => by simp only [List.map_nil, IsCRows]
  | r :: rs, vs, h => by
    simp only [IsTRows] at h
    obtain ⟨h1, h2, h3⟩ := h
    simp only [List.map_cons, IsCRows]
    exact ⟨[], [], rfl, by simpa using h1, litCs_is h2, litRows_is h3⟩

theorem isLits_any {w : World} {φ φ' : Nat → Prop} : ∀ {ts : List T} {vs : List Value}, ts.all T.isLit = true → IsTs w φ ts vs → IsTs w φ' ts vs
  | [], vs, _, h => by simp only [IsTs] at h ⊢; exact h
  | t :: ts, vs, ha, h => by
    simp only [List.all_cons, Bool.and_eq_true] at ha
    simp only [IsTs] at h ⊢
    obtain ⟨v, vs', rfl, h2, h3⟩ := h
    exact ⟨v, vs', rfl, isLit_any ha.1 h2, isLits_any ha.2 h3⟩

theorem isLitRows_any {w : World} {φ φ' : Nat → Prop} {sz : Nat} : ∀ {rows : List (List T)} {vs : List Value}, rows.all (·.all T.isLit) = true → IsTRows w φ sz rows vs → IsTRows w φ' sz rows vs
  | [], vs, _, h => by simp only [IsTRows]
  | r :: rs, vs, ha, h => by
    simp only [List.all_cons, Bool.and_eq_true] at ha
    simp only [IsTRows] at h ⊢
    exact ⟨h.1, isLits_any ha.1 h.2.1, isLitRows_any ha.2 h.2.2⟩

section
variable {P : Program} {e : Env}

/-- A slice of so many elements whose cells are read at its address. -/
theorem src_of {w : World} {xt el : TypeId} {m n cap : Nat} {a : Option Addr} {d : TypeDesc} {news : List Value} (hd : P.underlying xt = some d) (hn : ∀ k, d ≠ .int k) (hl : news.length = n * m) (h1 : ∀ v ∈ news, v.oneCell' = true)
    (hr : n = 0 ∨ ∃ g o cur et fz, a = some ⟨g, o, none⟩ ∧ w.heap[g]? = some (.cells cur et fz) ∧ news = (cur.toList.drop o).take (n * m)) : Src P w xt el m (.slice a n cap) n news := by
  refine ⟨⟨d, hd, .inl ⟨hn, fun w' hw => ⟨rfl, ?_⟩⟩⟩, hl, h1⟩
  rcases hr with rfl | ⟨g, o, cur, et, fz, rfl, hg, rfl⟩
  · have : news = [] := List.length_eq_zero_iff.mp (by simpa using hl)
    subst this
    cases a with
    | none => exact run_firstCells_none w' m 0 0 cap
    | some a => exact run_firstCells_some w' m 0 a 0 cap [] (by simp) (by simp)
  · refine run_firstCells_some w' m n ⟨g, o, none⟩ n cap _ hl ?_
    intro j y hj
    rw [List.getElem?_take] at hj
    split at hj
    · rw [List.getElem?_drop] at hj
      rw [Addr.add_lit]
      simp only [World.cell?, hw, hg]
      simpa using hj
    · cases hj

/-- A read-only slice, appended. -/
theorem src_T {w : World} {Φ : Bool → Nat → Prop} {φ : Nat → Prop} {xt el : TypeId} {m sz : Nat} {d : TypeDesc} {rows : List (List T)} {crows : List (List C)} {xv : Value} (hd : P.underlying xt = some d) (hn : ∀ k, d ≠ .int k) (h : IsT w φ (.sl sz rows) xv) (hsz : sz = m ∨ rows = []) (hlen : crows.length = rows.length)
    (hconv : ∀ vs, IsTRows w φ sz rows vs → IsCRows w Φ sz crows vs []) : ∃ news, IsCRows w Φ m crows news [] ∧ Src P w xt el m xv crows.length news := by
  simp only [IsT] at h
  obtain ⟨a, cap, rfl, h2, h3⟩ := h
  by_cases hr : rows = []
  · subst hr
    have : crows = [] := List.length_eq_zero_iff.mp hlen
    subst this
    exact ⟨[], by simp only [IsCRows], src_of hd hn (by simp) (by simp) (.inl rfl)⟩
  · have hszm : sz = m := by rcases hsz with h | h; exact h; exact absurd h hr
    subst hszm
    rcases h3 with h3 | ⟨g, o, cur, et, fz, rfl, _, hg, h3⟩
    · exact absurd h3 hr
    · have hc := hconv _ h3
      have hle := hc.length_le
      refine ⟨(cur.toList.drop o).take (crows.length * sz), hc.ext (by rw [List.take_take, Nat.min_self]), ?_⟩
      rw [← hlen]
      exact src_of hd hn (by rw [List.length_take]; omega) hc.ones (.inr ⟨g, o, cur, et, fz, rfl, hg, rfl⟩)

theorem rows_is {c : C} {sz : Nat} {rows : List (List C)} (h : c.rows = some (sz, rows)) {w : World} {Φ : Bool → Nat → Prop} {v : Value} {B : List Nat} (hc : IsC w Φ c v B) : OwnSl w sz rows.length v B (fun vs B' => IsCRows w Φ sz rows vs B') := by
  cases c with
  | im b t => simp [C.rows] at h
  | hole => simp [C.rows] at h
  | own z rs =>
    simp only [C.rows, Option.some.injEq, Prod.mk.injEq] at h
    obtain ⟨rfl, rfl⟩ := h
    simp only [IsC] at hc
    exact hc
  | ow t =>
    cases t with
    | lit x => simp [C.rows] at h
    | sl z rs =>
      simp only [C.rows, Option.some.injEq, Prod.mk.injEq] at h
      obtain ⟨rfl, rfl⟩ := h
      simp only [IsC, IsO] at hc
      rw [List.length_map]
      exact hc.imp (fun _ _ => rfl) fun vs B' _ k => k.cells

theorem free_rows {w : World} {Φ : Bool → Nat → Prop} {sz : Nat} : ∀ {rows : List (List C)} {vs : List Value} {B : List Nat}, IsCRows w Φ sz rows vs B → rows.all (·.all C.free) = true → B = []
  | [], vs, B, h, _ => by simp only [IsCRows] at h; exact h
  | r :: rs, vs, B, h, hf => by
    simp only [List.all_cons, Bool.and_eq_true] at hf
    simp only [IsCRows] at h
    obtain ⟨B1, B2, rfl, _, h3, h4⟩ := h
    rw [free_blocks h3 hf.1, free_rows h4 hf.2]
    rfl

/-- An owned slice, appended. -/
theorem src_C {w : World} {Φ : Bool → Nat → Prop} {xt el : TypeId} {m sz : Nat} {d : TypeDesc} {rows : List (List C)} {xv : Value} {B : List Nat} (hd : P.underlying xt = some d) (hn : ∀ k, d ≠ .int k) (h : OwnSl w sz rows.length xv B (fun vs B' => IsCRows w Φ sz rows vs B')) (hsz : sz = m ∨ rows = []) :
    ∃ news L, IsCRows w Φ m rows news L ∧ Src P w xt el m xv rows.length news ∧ L.Sublist B := by
  rcases h with ⟨rfl, h0, rfl⟩ | ⟨g, cap, cur, et, fz, B', rfl, hg, _, ⟨hpz, hnc⟩, _, hcs, rfl, hr⟩
  · have : rows = [] := List.length_eq_zero_iff.mp h0
    subst this
    exact ⟨[], [], by simp only [IsCRows], src_of hd hn (by simp) (by simp) (.inl rfl), List.Sublist.refl _⟩
  · by_cases hre : rows = []
    · subst hre
      exact ⟨[], [], by simp only [IsCRows], src_of hd hn (by simp) (by simp) (.inl rfl), List.nil_sublist _⟩
    · have hszm : sz = m := by rcases hsz with h | h; exact h; exact absurd h hre
      subst hszm
      have hle := hr.length_le
      refine ⟨cur.toList.take (rows.length * sz), B', hr.ext (by rw [List.take_take, Nat.min_self]), ?_, List.sublist_cons_self _ _⟩
      exact src_of hd hn (by rw [List.length_take]; omega) hr.ones (.inr ⟨g, 0, cur, et, fz, rfl, hg, by rw [List.drop_zero]⟩)

theorem source_is {σ σ' : F} {w : World} {Φ : Bool → Nat → Prop} {tm : List Value} {ρ : Nat → List Value} {B : List Nat} (hR : Rel w Φ σ tm ρ B) {xt el : TypeId} {m : Nat} {d : TypeDesc} {x : S} {xv : Value} {rows : List (List C)} (hd : P.underlying xt = some d) (hn : ∀ k, d ≠ .int k) (h : σ.source m x = some (rows, σ')) (hx : SlotR w Φ σ.ob ρ x xv) :
    ∃ B' L news, Rel w Φ σ' tm ρ B' ∧ IsCRows w Φ m rows news L ∧ Loose w Φ B' L ∧ (∀ b ∈ B', b ∈ B) ∧ (∀ b ∈ L, b ∈ B) ∧ Src P w xt el m xv rows.length news := by
  unfold F.source at h
  split at h
  · simp only [Option.some.injEq, Prod.mk.injEq] at h
    obtain ⟨rfl, rfl⟩ := h
    simp only [SlotR] at hx
    subst hx
    exact ⟨B, [], [], hR, by simp only [IsCRows], Loose.nil, fun _ h => h, by simp, src_of hd hn (by simp) (by simp) (.inl rfl)⟩
  · rename_i s
    split at h
    · rename_i hm
      subst hm
      simp only [Option.some.injEq, Prod.mk.injEq] at h
      obtain ⟨rfl, rfl⟩ := h
      rw [slot_lit hx]
      have hl : (s.data.toList.map fun b => [C.ow (.lit (.int .u8 b.toNat))]).length = s.size := by rw [List.length_map, Array.length_toList]; rfl
      refine ⟨B, [], s.data.toList.map (fun b => Value.int .u8 b.toNat), hR, ?_, Loose.nil, fun _ h => h, by simp, ?_⟩
      · have := (bytes_own (w := w) s.data.toList []).cells (Φ := Φ)
        simpa [List.map_map, Function.comp_def] using this
      · rw [hl]
        refine ⟨⟨d, hd, .inl ⟨hn, fun w' hw => ⟨rfl, ?_⟩⟩⟩, ?_, ?_⟩
        · have he : s.extract 0 s.size = s := by
            apply ByteArray.ext
            simp [ByteArray.data_extract]
          simp only [Builtin.firstCells, he, Sem.run_pure]
          congr 1
          apply Array.ext'
          simp
        · rw [List.length_map, Array.length_toList, Nat.mul_one]; rfl
        · intro v hv
          obtain ⟨b, _, rfl⟩ := List.mem_map.mp hv
          rfl
    · cases h
  · rename_i b sz rows0
    split at h
    · rename_i hsz
      simp only [Option.some.injEq, Prod.mk.injEq] at h
      obtain ⟨rfl, rfl⟩ := h
      simp only [SlotR] at hx
      obtain ⟨news, h1, h2⟩ := src_T (P := P) (el := el) (Φ := Φ) (crows := rows0.map (·.map (litC b))) hd hn hx hsz (by simp) (fun vs => litRows_is)
      exact ⟨B, [], news, hR, h1, Loose.nil, fun _ h => h, by simp, h2⟩
    · cases h
  · rename_i k p off
    split at h
    · rename_i c hc
      obtain ⟨o, vs, Bc, c1, c2, c3, c4, c5, c6, _⟩ := hR.cells hc
      have hx' := hx
      simp only [SlotR, Bool.false_eq_true, if_false] at hx
      obtain ⟨o', vs', q1, q2, q3, q4⟩ := hx
      rw [q1] at c1; cases c1
      rw [q2] at c2; cases c2
      obtain ⟨v', e1, hC⟩ := take_one c5
      rw [q4] at e1
      simp only [List.cons.injEq, and_true] at e1
      subst e1
      split at h
      · rename_i b sz rows0
        split at h
        · rename_i hsz
          simp only [Option.some.injEq, Prod.mk.injEq] at h
          obtain ⟨rfl, rfl⟩ := h
          simp only [IsC] at hC
          obtain ⟨news, h1, h2⟩ := src_T (P := P) (el := el) (Φ := Φ) (crows := rows0.map (·.map (litC b))) hd hn hC.2 hsz (by simp) (fun vs => litRows_is)
          exact ⟨B, [], news, hR, h1, Loose.nil, fun _ h => h, by simp, h2⟩
        · cases h
      · split at h
        · rename_i sz rows0 hrows
          split at h
          · rename_i hsz
            split at h
            · rename_i hf
              simp only [Option.some.injEq, Prod.mk.injEq] at h
              obtain ⟨rfl, rfl⟩ := h
              obtain ⟨news, L, h1, h2, h3⟩ := src_C (P := P) (el := el) (m := m) hd hn (rows_is hrows hC) hsz
              have := free_rows h1 hf
              subst this
              exact ⟨B, [], news, hR, h1, Loose.nil, fun _ h => h, by simp, h2⟩
            · split at h
              · rename_i cs σ1 ht
                simp only [Option.some.injEq, Prod.mk.injEq] at h
                obtain ⟨rfl, rfl⟩ := h
                obtain ⟨B', L, t1, t2, t3, t4, t5⟩ := take_is hR ht hx'
                have hcs : cs = [c] := by
                  simp only [F.take, q1, hc] at ht
                  split at ht
                  · simp only [Option.some.injEq, Prod.mk.injEq] at ht; exact ht.1.symm
                  · split at ht
                    · simp only [Option.some.injEq, Prod.mk.injEq] at ht; exact ht.1.symm
                    · split at ht
                      · cases ht
                      · split at ht
                        · split at ht
                          · simp only [Option.some.injEq, Prod.mk.injEq] at ht; exact ht.1.symm
                          · cases ht
                        · cases ht
                subst hcs
                rw [one_cells hC.one] at t2
                simp only [IsCs] at t2
                obtain ⟨v2, vs2, B1, B2, e2, rfl, hC2, rfl, rfl⟩ := t2
                simp only [List.cons.injEq, and_true] at e2
                subst e2
                obtain ⟨news, L', h1, h2, h3⟩ := src_C (P := P) (el := el) (m := m) hd hn (rows_is hrows hC2) hsz
                have hsub : ∀ b ∈ L', b ∈ B1 ++ [] := fun b hb => by simpa using h3.subset hb
                refine ⟨B', L', news, t1, h1, ⟨?_, fun b hb => t3.apart b (hsub b hb), fun b hb => t3.lt b (hsub b hb), fun b hb => t3.disj b (hsub b hb)⟩, t4, fun b hb => t5 b (hsub b hb), h2⟩
                have := t3.nd
                rw [List.append_nil] at this
                exact this.sublist h3
              · cases h
          · cases h
        · cases h
    · cases h
  · rename_i k p off z lo hi
    split at h
    · rename_i sz rows0 hf
      split at h
      · rename_i hcond
        simp only [Option.some.injEq, Prod.mk.injEq] at h
        obtain ⟨rfl, rfl⟩ := h
        have hT := free1_is hR hf hx
        obtain ⟨news, h1, h2⟩ := src_T (P := P) (el := el) (Φ := Φ) (crows := rows0.map (·.map (litC false))) hd hn hT hcond.1 (by simp) (fun vs hv => litRows_is (isLitRows_any hcond.2 hv))
        exact ⟨B, [], news, hR, h1, Loose.nil, fun _ h => h, by simp, h2⟩
      · cases h
    · cases h
  · cases h

end

end Go.Proofs.YtckojpaklblnpaaDoor.Ev

/- append, the operation. -/
set_option linter.unusedVariables false
set_option linter.unusedSimpArgs false
namespace Go.Proofs.YtckojpaklblnpaaDoor.Ev
open Go Go.RowKit

theorem slot_one {σ σ' : F} {w : World} {Φ : Bool → Nat → Prop} {tm : List Value} {ρ : Nat → List Value} {B : List Nat} (hR : Rel w Φ σ tm ρ B) {s : S} {v : Value} {cs : List C} (ht : σ.take s = some (cs, σ')) (hs : SlotR w Φ σ.ob ρ s v) (ha : s.ag = false) : one v := by
  cases s with
  | lit x => simp only [SlotR] at hs; rw [hs.1]; exact hs.2
  | val b t => simp only [SlotR] at hs; exact hs.one
  | nils => simp only [SlotR] at hs; subst hs; exact one_slice _ _ _
  | agg b ts => simp [S.ag] at ha
  | vw k p off n ag =>
    simp only [S.ag] at ha
    subst ha
    simp only [SlotR, Bool.false_eq_true, if_false] at hs
    obtain ⟨o, vs, q1, q2, q3, q4⟩ := hs
    cases hc : σ.cells k p off n with
    | none => simp [F.take, q1, hc] at ht
    | some cs0 =>
      obtain ⟨o', vs', Bc, c1, c2, c3, c4, c5, c6, _⟩ := hR.cells hc
      rw [q1] at c1; cases c1
      rw [q2] at c2; cases c2
      rw [q4] at c5
      cases cs0 with
      | nil => simp [IsCs] at c5
      | cons c cs0 =>
        simp only [IsCs] at c5
        obtain ⟨v', vs', B1, B2, e, _, hC, _⟩ := c5
        simp only [List.cons.injEq] at e
        rw [e.1]
        exact hC.one
  | _ => simp [F.take] at ht

section
variable {P : Program} {e : Env} {σ : F} {ty : TypeId} {pos : String} {after : Array Edge} {gd : Option (Nat × Bool)}

theorem append_some {σ' : F} {d : Option Nat} {st : TypeId} {a : Operand} {src : Nat → F → Option (List (List C) × F)} (h : σ.append e d st a src = some σ') :
    ∃ dd tv el v rows σ1 c σ2 c' n, d = some dd ∧ e.ty st = some tv ∧ tv.desc = .slice el ∧ e.ty el = some v ∧ 0 < v.bytes ∧ src v.cells σ = some (rows, σ1) ∧ (σ1.rd a).ag = false ∧ σ1.take (σ1.rd a) = some ([c], σ2) ∧ appendTo c v.cells rows = some c' ∧ c'.len = some n ∧ n * v.bytes ≤ maxBytes ∧
      σ' = (σ2.new (keyOf dd 0) { cells := [c'] }).put (some dd) (.vw (keyOf dd 0) [] 0 1 false) := by
  unfold F.append at h
  split at h
  · rename_i dd el cells bytes zero agg hst
    split at h
    · rename_i v hv
      split at h
      · rename_i hb
        split at h
        · rename_i rows σ1 hsrc
          split at h
          · rename_i c σ2 htk
            split at htk
            · cases htk
            · rename_i hag
              split at h
              · rename_i c' happ
                split at h
                · rename_i n hlen
                  split at h
                  · rename_i hmax
                    simp only [Option.some.injEq] at h
                    exact ⟨dd, _, el, v, rows, σ1, c, σ2, c', n, rfl, hst, rfl, hv, hb, hsrc, by simpa using hag, htk, happ, hlen, hmax, h.symm⟩
                  · cases h
                · cases h
              · cases h
          · cases h
        · cases h
      · cases h
    · cases h
  · cases h

/-- The operation, once the rows are told. -/
theorem ok_append_of (he : EnvOk P e) (c : Call) (st xt : TypeId) (a x : Operand) (σ' : F) (d : Option Nat) (src : Nat → F → Option (List (List C) × F)) (hb : c.callee = .builtin .append) (ha : c.args.toList = [a, x]) (hat : c.argTypes.toList = [st, xt]) (h : σ.append e d st a src = some σ')
    (hsrc : ∀ (tv : TV) (el : TypeId) (v : TV) (rows : List (List C)) (σ1 : F), e.ty st = some tv → tv.desc = .slice el → e.ty el = some v → src v.cells σ = some (rows, σ1) → ∀ (w : World) (Φ : Bool → Nat → Prop) (tm : List Value) (ρ : Nat → List Value) (B : List Nat) (ds : List Deferred), Rel w Φ σ tm ρ B →
      ∃ B' L news, Rel w Φ σ1 tm ρ B' ∧ IsCRows w Φ v.cells rows news L ∧ Loose w Φ B' L ∧ (∀ b ∈ B', b ∈ B) ∧ (∀ b ∈ L, b ∈ B) ∧ Src P w xt el v.cells ((⟨tm.toArray, ds⟩ : Act).eval x) rows.length news) :
    OpOk P ⟨d, .call c, ty, pos, after, gd⟩ σ σ' := by
  obtain ⟨dd, tv, el, v, rows, σ1, c0, σ2, c', n, rfl, hst, htd, hv, hbt, hs, hag, htk, happ, hlen, hmax, rfl⟩ := append_some h
  intro w Φ tm ρ B ds K Q hR hK
  obtain ⟨B1, L, news, hR1, hrows, hL, hB1, hLB, hSrc⟩ := hsrc tv el v rows σ1 hst htd hv hs w Φ tm ρ B ds hR
  have har := hR1.rd (ds := ds) a
  have h1a := slot_one hR1 htk har hag
  obtain ⟨B2, Lc, hR2, hc, hLc, hB2, hLcB⟩ := take_is hR1 htk har
  rw [one_cells h1a] at hc
  simp only [IsCs] at hc
  obtain ⟨v0, vs0, D1, D2, e0, rfl, hC, rfl, rfl⟩ := hc
  simp only [List.cons.injEq, and_true] at e0
  obtain ⟨sz, old, hsz, how, hcl, hc'⟩ := appendTo_is happ
  rw [hlen] at hcl
  simp only [Option.some.injEq] at hcl
  subst hcl
  have hown := how w Φ _ _ hC
  rw [List.append_nil] at hLc hLcB
  obtain ⟨v', w', L', hrun, hown', hR', hL', os, tape, output, size, block, own⟩ := append_core he (ty := ty) hR2 hst htd hv hbt hSrc hsz hown hrows hLc (hL.sub hB2) (fun b hb hb2 => hL.apart b hb2 (hLcB b hb)) hmax
  obtain ⟨ρ', B', hR3, hB3, hρ'⟩ := hR'.newSlice hL' (hc' w' Φ v' L' hown') dd
  have e1 : c.args = #[a, x] := Array.ext' (by simpa using ha)
  have e2 : c.argTypes = #[st, xt] := Array.ext' (by simpa using hat)
  obtain ⟨consts, hbi⟩ := run_builtin (P := P) (⟨tm.toArray, ds⟩ : Act).eval (o := ⟨some dd, .call c, ty, pos, after, gd⟩) w rfl hb
  have hrun' : (builtin .append c.argTypes ty consts (c.args.map (⟨tm.toArray, ds⟩ : Act).eval)).run P w = .ok (.value v') w' := by
    simp only [builtin, e1, e2, List.map_toArray, List.map_cons, List.map_nil, e0, Sem.run_bind, hrun, Result.andThen_ok, Sem.run_pure]
  unfold Oper.wp
  rw [hbi]
  simp only at hrun' ⊢
  rw [hrun', Oper.upon_value, act_put]
  refine hK _ _ _ _ _ hR3 ⟨os, tape, output, size, fun b hb hn => block b hb (fun hbc => hn (hB1 b (hLcB b hbc))), fun b hb => ?_, fun _ _ h => h, fun _ _ h => .inl h, fun _ h => .inl h, hρ'.imp⟩ hρ'
  rcases hB3 b hb with hb | hb
  · exact .inl (hB1 b (hB2 b hb))
  · rcases own b hb with hb | hb | hb
    · exact .inl (hB1 b (hLcB b hb))
    · exact .inl (hLB b hb)
    · exact .inr hb

theorem ok_append (he : EnvOk P e) (c : Call) (st xt : TypeId) (xv : TV) (a x : Operand) (σ' : F) (d : Option Nat) (hb : c.callee = .builtin .append) (ha : c.args.toList = [a, x]) (hat : c.argTypes.toList = [st, xt]) (hx : e.ty xt = some xv) (hn : ∀ k, xv.desc ≠ .int k)
    (h : σ.append e d st a (fun m σ => σ.source m (σ.rd x)) = some σ') : OpOk P ⟨d, .call c, ty, pos, after, gd⟩ σ σ' :=
  ok_append_of he c st xt a x σ' d _ hb ha hat h fun tv el v rows σ1 _ _ hv hs w Φ tm ρ B ds hR =>
    source_is (P := P) (el := el) hR (he.und hx) hn hs (hR.rd (ds := ds) x)

theorem ok_appendMake (he : EnvOk P e) (c : Call) (st xt el : TypeId) (tv xv v : TV) (k : IntKind) (n : Int) (a x : Operand) (σ' : F) (d : Option Nat) (hb : c.callee = .builtin .append) (ha : c.args.toList = [a, x]) (hat : c.argTypes.toList = [st, xt]) (hx : e.ty xt = some xv) (hxd : xv.desc = .int k) (hst : e.ty st = some tv) (htd : tv.desc = .slice el) (hv : e.ty el = some v)
    (hi : intOf? (σ.rd x) = some n) (hn : 0 ≤ n) (h : σ.append e d st a (fun _ σ => some (List.replicate n.toNat (v.zero.map .ow), σ)) = some σ') : OpOk P ⟨d, .call c, ty, pos, after, gd⟩ σ σ' :=
  ok_append_of he c st xt a x σ' d _ hb ha hat h fun tv' el' v' rows σ1 hst' htd' hv' hs w Φ tm ρ B ds hR => by
    rw [hst] at hst'
    cases hst'
    rw [htd] at htd'
    cases htd'
    rw [hv] at hv'
    cases hv'
    simp only [Option.some.injEq, Prod.mk.injEq] at hs
    obtain ⟨rfl, rfl⟩ := hs
    obtain ⟨i, z, i1, i2, i3, i4, i5, i6, i7, _⟩ := he.ty el v hv
    obtain ⟨kx, hxv⟩ := intOf_is hi (hR.rd (ds := ds) x)
    obtain ⟨nn, rfl⟩ := Int.eq_ofNat_of_zero_le hn
    simp only [Int.toNat_natCast, List.length_replicate]
    have hz := zeros_rows (w := w) (Φ := Φ) i6 (sz := v.cells) (by simpa using i7) nn nn (Nat.le_refl _)
    have hu := he.und hx
    rw [hxd] at hu
    have hlen : ((List.replicate nn z.cells.toList).flatten).length = nn * v.cells := by simp [i7]
    refine ⟨B, [], (List.replicate nn z.cells.toList).flatten, hR, hz, Loose.nil, fun _ h => h, by simp, ⟨_, hu, .inr ⟨k, kx, rfl, hxv, z, fun w' => by simp [zeroValue, typeInfo, i1, i5], i7, rfl⟩⟩, hlen, ?_⟩
    have := hz.ones
    rw [List.length_replicate, ← hlen, List.take_length] at this
    exact this

end

end Go.Proofs.YtckojpaklblnpaaDoor.Ev

/- An object under a new name: what is assigned to a variable. -/
set_option linter.unusedVariables false
set_option linter.unusedSimpArgs false
namespace Go.Proofs.YtckojpaklblnpaaDoor.Ev
open Go Go.RowKit

theorem look_none {ob : List (Nat × O)} {k : Nat} (h : look ob k = none) : k ∉ ob.map (·.1) := by
  induction ob with
  | nil => simp
  | cons x r ih =>
    obtain ⟨j, y⟩ := x
    simp only [look] at h
    split at h
    · cases h
    · rename_i hjk
      simp only [List.map_cons, List.mem_cons, not_or]
      exact ⟨fun e => hjk e.symm, ih h⟩

theorem Rel.rename {w : World} {Φ : Bool → Nat → Prop} {σ : F} {tm : List Value} {ρ : Nat → List Value} {B : List Nat} (h : Rel w Φ σ tm ρ B) {k k' : Nat} {o o' : O} (hl : Ev.look σ.ob k = some o) (hk' : Ev.look σ.ob k' = none) (hc : o'.cells = o.cells) :
    ∃ B', Rel w Φ { sl := rekeys k k' σ.sl, ob := (k', o') :: drop_ σ.ob k } tm (fun j => if j = k' then ρ k else ρ j) B' ∧ (∀ b ∈ B', b ∈ B) ∧
      ∀ s v, SlotR w Φ σ.ob ρ s v → SlotR w Φ ((k', o') :: drop_ σ.ob k) (fun j => if j = k' then ρ k else ρ j) (rekey k k' s) v := by
  obtain ⟨X, Bk, Y, rfl, e2, _, e4, _⟩ := IsOb.focus h.obs h.keys hl
  have hkk : k ≠ k' := by rintro rfl; rw [hl] at hk'; cases hk'
  have hnk := look_none hk'
  have hnk' : k' ∉ (drop_ σ.ob k).map (·.1) := fun hm => hnk ((drop_sub _ _).subset hm)
  have hnd := h.nd
  have hmem : ∀ b ∈ Bk ++ (X ++ Y), b ∈ X ++ (Bk ++ Y) := by
    intro b hb
    simp only [List.mem_append] at hb ⊢
    rcases hb with hb | hb | hb <;> simp [hb]
  have C : Carry w w Φ Φ σ.ob ((k', o') :: drop_ σ.ob k) ρ (fun j => if j = k' then ρ k else ρ j) (rekey k k') (rekeys k k') := by
    have key : ∀ j oj, Ev.look σ.ob j = some oj → ∃ o2, Ev.look ((k', o') :: drop_ σ.ob k) (if j = k then k' else j) = some o2 ∧ o2.cells = oj.cells ∧ (if (if j = k then k' else j) = k' then ρ k else ρ (if j = k then k' else j)) = ρ j := by
      intro j oj hj
      by_cases hjk : j = k
      · subst hjk
        rw [hl] at hj
        cases hj
        exact ⟨o', by simp [Ev.look], hc, by simp⟩
      · have hjk' : j ≠ k' := by rintro rfl; rw [hj] at hk'; cases hk'
        refine ⟨oj, ?_, rfl, by simp [hjk, hjk']⟩
        rw [if_neg hjk, Ev.look, if_neg (fun e => hjk' e.symm), look_drop h.keys, if_neg hjk]
        exact hj
    refine { mono := fun _ _ h => h, ro := fun _ _ _ => rfl, nil := rfl, cons := fun _ _ => rfl, fn := fun _ _ => rfl, tup := fun _ => rfl, rest := fun s hs => by cases s <;> first | rfl | exact hs.elim, vals := ?_, sub := ?_, ptr := ?_ }
    · intro j p off n
      refine .inr ⟨if j = k then k' else j, fun ag => rfl, fun oj vs h1 h2 h3 => ?_⟩
      obtain ⟨o2, f1, f2, f3⟩ := key j oj h1
      exact ⟨o2, vs, f1, by rw [f2, f3]; exact h2, h3, rfl⟩
    · intro j p off sz lo hi
      refine .inr ⟨if j = k then k' else j, rfl, fun oj vs h1 h2 h3 => ?_⟩
      obtain ⟨o2, f1, f2, f3⟩ := key j oj h1
      exact ⟨o2, vs, f1, by rw [f2, f3]; exact h2, h3, rfl⟩
    · intro j p off
      refine .inr ⟨if j = k then k' else j, rfl, fun oj g a h1 h2 => ?_⟩
      obtain ⟨o2, f1, f2, f3⟩ := key j oj h1
      exact ⟨o2, f1, by rw [f2, f3]; exact h2⟩
  refine ⟨Bk ++ (X ++ Y), ⟨⟨Bk, X ++ Y, rfl, by rw [hc]; simpa using e2, e4.keep (Keeps.refl _ _ _) (fun j hj => ?_)⟩, ?_, ?_, fun b hb => h.disj b (hmem b hb), fun b hb => h.lt b (hmem b hb), h.ltΦ, h.sub, C.slots _ _ h.slots⟩, hmem, fun s v hs => C.slot s v hs⟩
  · have : j ≠ k' := by rintro rfl; exact hnk' hj
    simp [this]
  · simp only [List.nodup_append, List.mem_append, ne_eq] at hnd ⊢
    obtain ⟨n1, ⟨n2, n3, n4⟩, n5⟩ := hnd
    refine ⟨n2, ⟨n1, n3, fun a ha b hb => n5 a ha b (.inr hb)⟩, ?_⟩
    rintro a ha b (hb | hb) e
    · exact n5 b hb a (.inl ha) e.symm
    · exact n4 a ha b hb e
  · simp only [List.map_cons, List.nodup_cons]
    exact ⟨hnk', h.keys.sublist (drop_sub _ _)⟩

section
variable {P : Program} {σ : F} {ty : TypeId} {pos : String} {after : Array Edge} {gd : Option (Nat × Bool)}

theorem ok_rename (x : Operand) (d k n : Nat) (ag : Bool) (ob : O) (hx : σ.rd x = .vw k [] 0 n ag) (hl : look σ.ob k = some ob) (hk : k ≠ keyOf d 0) :
    OpStill P ⟨some d, .assign x, ty, pos, after, gd⟩ σ (F.put { sl := rekeys k (keyOf d 0) (σ.del (keyOf d 0)).sl, ob := (keyOf d 0, { ob with var := true }) :: drop_ (σ.del (keyOf d 0)).ob k } (some d) (.vw (keyOf d 0) [] 0 n ag)) := by
  intro w Φ tm ρ B ds hR
  have hxr := hR.rd (ds := ds) x
  rw [hx] at hxr
  obtain ⟨B1, hR1, hs1, _⟩ := hR.del (keyOf d 0)
  have hl1 : look (σ.del (keyOf d 0)).ob k = some ob := by
    simp only [F.del]
    rw [look_drop hR.keys, if_neg hk]
    exact hl
  have hl2 : look (σ.del (keyOf d 0)).ob (keyOf d 0) = none := by
    simp only [F.del]
    rw [look_drop hR.keys, if_pos rfl]
  obtain ⟨B2, hR2, hB2, hS⟩ := hR1.rename (o' := { ob with var := true }) hl1 hl2 rfl
  have hx1 : SlotR w Φ (σ.del (keyOf d 0)).ob ρ (.vw k [] 0 n ag) ((⟨tm.toArray, ds⟩ : Act).eval x) := by
    simp only [SlotR] at hxr ⊢
    obtain ⟨o, vs, h1, h2, h3, h4⟩ := hxr
    rw [hl] at h1
    cases h1
    exact ⟨ob, vs, hl1, h2, h3, h4⟩
  have hx2 := hS _ _ hx1
  have e1 : rekey k (keyOf d 0) (.vw k [] 0 n ag) = .vw (keyOf d 0) [] 0 n ag := by simp [rekey]
  rw [e1] at hx2
  refine ⟨_, _, _, fun w2 _ => by simp only [execOp, Sem.run_pure], hR2.put (some d) hx2, fun b hb => hs1.subset (hB2 b hb), fun j hj => ?_⟩
  have : j ≠ keyOf d 0 := newKey_keyOf (by decide) hj
  simp [this]

end

end Go.Proofs.YtckojpaklblnpaaDoor.Ev
