/- Reading: cells of a place, values out of them. -/
import Derived.Test.YtmkhdnpnjjdgfaaPlain
set_option linter.unusedVariables false
set_option linter.unusedSimpArgs false
namespace Go.Proofs.Ytmkhdnpnjjdgfaa.Ev
open Go Go.RowKit

theorem IsCs.split {w : World} {Φ : Bool → Nat → Prop} : ∀ (n : Nat) {cs : List C} {vs : List Value} {B : List Nat}, IsCs w Φ cs vs B → ∃ B1 B2, B = B1 ++ B2 ∧ IsCs w Φ (cs.take n) (vs.take n) B1 ∧ IsCs w Φ (cs.drop n) (vs.drop n) B2
  | 0, cs, vs, B, h => ⟨[], B, rfl, by simp [IsCs], by simpa using h⟩
  | n + 1, [], vs, B, h => by
    simp only [IsCs] at h
    obtain ⟨rfl, rfl⟩ := h
    exact ⟨[], [], rfl, by simp [IsCs], by simp [IsCs]⟩
  | n + 1, c :: cs, vs, B, h => by
    simp only [IsCs] at h
    obtain ⟨v, vs', B1, B2, rfl, rfl, h3, h4⟩ := h
    obtain ⟨B3, B4, rfl, h5, h6⟩ := h4.split n
    refine ⟨B1 ++ B3, B4, by simp [List.append_assoc], ?_, by simpa using h6⟩
    simp only [List.take_succ_cons, IsCs]
    exact ⟨v, vs'.take n, B1, B3, rfl, rfl, h3, h5⟩

theorem IsCs.append {w : World} {Φ : Bool → Nat → Prop} : ∀ {cs ds : List C} {vs us : List Value} {B D : List Nat}, IsCs w Φ cs vs B → IsCs w Φ ds us D → IsCs w Φ (cs ++ ds) (vs ++ us) (B ++ D)
  | [], ds, vs, us, B, D, h, k => by
    simp only [IsCs] at h
    obtain ⟨rfl, rfl⟩ := h
    simpa using k
  | c :: cs, ds, vs, us, B, D, h, k => by
    simp only [IsCs] at h
    obtain ⟨v, vs', B1, B2, rfl, rfl, h3, h4⟩ := h
    simp only [List.cons_append, IsCs]
    exact ⟨v, vs' ++ us, B1, B2 ++ D, rfl, by simp [List.append_assoc], h3, h4.append k⟩

theorem IsCs.range {w : World} {Φ : Bool → Nat → Prop} (a n : Nat) {cs : List C} {vs : List Value} {B : List Nat} (h : IsCs w Φ cs vs B) :
    ∃ X Y Z, B = X ++ (Y ++ Z) ∧ IsCs w Φ (cs.take a) (vs.take a) X ∧ IsCs w Φ ((cs.drop a).take n) ((vs.drop a).take n) Y ∧ IsCs w Φ (cs.drop (a + n)) (vs.drop (a + n)) Z := by
  obtain ⟨X, B2, rfl, h1, h2⟩ := h.split a
  obtain ⟨Y, Z, rfl, h3, h4⟩ := h2.split n
  exact ⟨X, Y, Z, rfl, h1, h3, by simpa using h4⟩

theorem IsTs.take {w : World} {φ : Nat → Prop} : ∀ (n : Nat) {ts : List T} {vs : List Value}, IsTs w φ ts vs → IsTs w φ (ts.take n) (vs.take n)
  | 0, ts, vs, h => by simp [IsTs]
  | n + 1, [], vs, h => by simp only [IsTs] at h; subst h; simp [IsTs]
  | n + 1, t :: ts, vs, h => by
    simp only [IsTs] at h
    obtain ⟨v, vs', rfl, h2, h3⟩ := h
    simp only [List.take_succ_cons, IsTs]
    exact ⟨v, vs'.take n, rfl, h2, h3.take n⟩

theorem IsTs.drop {w : World} {φ : Nat → Prop} : ∀ (n : Nat) {ts : List T} {vs : List Value}, IsTs w φ ts vs → IsTs w φ (ts.drop n) (vs.drop n)
  | 0, ts, vs, h => by simpa using h
  | n + 1, [], vs, h => by simp only [IsTs] at h; subst h; simp [IsTs]
  | n + 1, t :: ts, vs, h => by
    simp only [IsTs] at h
    obtain ⟨v, vs', rfl, h2, h3⟩ := h
    simpa using h3.drop n

/-- What a path leads to: the row's values; its block, behind one step. -/
theorem IsCs.path {w : World} {Φ : Bool → Nat → Prop} {cs : List C} {vs : List Value} {B : List Nat} {p : List (Nat × Nat)} {r : List C} (h : IsCs w Φ cs vs B) (hnd : B.Nodup) (hr : getRow cs p = some r) :
    ∃ rv Br, valsAt w cs vs p = some rv ∧ (∀ b ∈ Br, b ∈ B) ∧ IsCs w Φ r rv Br ∧
      (p ≠ [] → ∃ g a cur e fz, addrAt w cs vs p = some (g, a) ∧ w.heap[g]? = some (.cells cur e fz) ∧ g ∈ B ∧ a + r.length ≤ cur.size ∧ rv = (cur.toList.drop a).take r.length) := by
  by_cases hp : p = []
  · subst hp
    simp only [getRow, Option.some.injEq] at hr
    subst hr
    exact ⟨vs, B, rfl, fun _ h => h, h, fun h => absurd rfl h⟩
  · obtain ⟨g, o, cur, e, fz, X, Br, Y, rv, h1, h2, rfl, h4, h5, h6, h7, h8, h9, _⟩ := place p cs vs B r h hnd hr hp
    exact ⟨rv, Br, h2, fun b hb => by simp [hb], h9, fun _ => ⟨g, o, cur, e, fz, h1, h5, by simp [h4], h7, h8⟩⟩

theorem cells_some {σ : F} {k : Nat} {p : List (Nat × Nat)} {off n : Nat} {cs : List C} (h : σ.cells k p off n = some cs) : ∃ o r, look σ.ob k = some o ∧ getRow o.cells p = some r ∧ off + n ≤ r.length ∧ cs = (r.drop off).take n := by
  unfold F.cells at h
  cases h1 : look σ.ob k with
  | none => simp [h1] at h
  | some o =>
    cases h2 : getRow o.cells p with
    | none => simp [h1, h2] at h
    | some r =>
      simp only [h1, h2] at h
      split at h
      · rename_i hl
        simp only [Option.some.injEq] at h
        exact ⟨o, r, rfl, h2, hl, h.symm⟩
      · cases h

theorem Rel.look {w : World} {Φ : Bool → Nat → Prop} {σ : F} {tm : List Value} {ρ : Nat → List Value} {B : List Nat} (h : Rel w Φ σ tm ρ B) {k : Nat} {o : O} (hl : look σ.ob k = some o) : ∃ Bk, (∀ b ∈ Bk, b ∈ B) ∧ Bk.Nodup ∧ IsCs w Φ o.cells (ρ k) Bk := by
  obtain ⟨X, Bk, Y, rfl, e2, _⟩ := IsOb.focus h.obs h.keys hl
  have hnd := h.nd
  simp only [List.nodup_append] at hnd
  exact ⟨Bk, fun b hb => by simp [hb], hnd.2.1.1, e2⟩

theorem Rel.cells {w : World} {Φ : Bool → Nat → Prop} {σ : F} {tm : List Value} {ρ : Nat → List Value} {B : List Nat} (h : Rel w Φ σ tm ρ B) {k : Nat} {p : List (Nat × Nat)} {off n : Nat} {cs : List C} (hc : σ.cells k p off n = some cs) :
    ∃ o vs Bc, Ev.look σ.ob k = some o ∧ valsAt w o.cells (ρ k) p = some vs ∧ off + n ≤ vs.length ∧ (∀ b ∈ Bc, b ∈ B) ∧ IsCs w Φ cs ((vs.drop off).take n) Bc ∧ cs.length = n ∧
      (p ≠ [] → ∃ g a cur e fz, addrAt w o.cells (ρ k) p = some (g, a) ∧ w.heap[g]? = some (.cells cur e fz) ∧ g ∈ B ∧ a + (off + n) ≤ cur.size ∧ (vs.drop off).take n = (cur.toList.drop (a + off)).take n) := by
  obtain ⟨o, r, h1, h2, h3, rfl⟩ := cells_some hc
  obtain ⟨Bk, hB, hnd, hk⟩ := h.look h1
  obtain ⟨rv, Br, p1, p2, p3, p4⟩ := hk.path hnd h2
  obtain ⟨X, Y, Z, e, q1, q2, q3⟩ := p3.range off n
  refine ⟨o, rv, Y, h1, p1, by rw [p3.length]; exact h3, fun b hb => hB b (p2 b (by rw [e]; simp [hb])), q2, by simp; omega, fun hp => ?_⟩
  obtain ⟨g, a, cur, e, fz, a1, a2, a3, a4, rfl⟩ := p4 hp
  refine ⟨g, a, cur, e, fz, a1, a2, hB g a3, by omega, ?_⟩
  rw [List.drop_take, List.take_take, List.drop_drop, Nat.min_eq_left (by omega)]

/-! ### read-only cells -/

theorem isLit_any {w : World} {φ φ' : Nat → Prop} {t : T} {v : Value} (ht : t.isLit = true) (h : IsT w φ t v) : IsT w φ' t v := by
  cases t with
  | lit x => simpa only [IsT] using h
  | sl sz rows => cases ht

theorem lentAll_cons (c : C) (cs : List C) : lentAll (c :: cs) = (C.lent c || lentAll cs) := rfl

theorem free_is {w : World} {Φ : Bool → Nat → Prop} (hsub : ∀ b, Φ false b → Φ true b) : ∀ {cs : List C} {ts : List T} {vs : List Value} {B : List Nat} (b : Bool), cs.all C.free = true → cellsToT cs = some ts → (lentAll cs = true → b = true) → IsCs w Φ cs vs B → B = [] ∧ IsTs w (Φ b) ts vs
  | [], ts, vs, B, b, _, h, _, hc => by
    simp only [cellsToT, Option.some.injEq] at h
    subst h
    simp only [IsCs] at hc
    simp only [IsTs]
    exact ⟨hc.2, hc.1⟩
  | c :: cs, ts, vs, B, b, hf, h, hl, hc => by
    simp only [List.all_cons, Bool.and_eq_true] at hf
    simp only [cellsToT] at h
    rw [lentAll_cons] at hl
    simp only [Bool.or_eq_true] at hl
    cases h1 : c.toT with
    | none => simp [h1] at h
    | some t =>
      cases h2 : cellsToT cs with
      | none => simp [h1, h2] at h
      | some ts' =>
        simp only [h1, h2, Option.some.injEq] at h
        subst h
        simp only [IsCs] at hc
        obtain ⟨v, vs', B1, B2, rfl, rfl, h3, h4⟩ := hc
        obtain ⟨rfl, h5⟩ := free_is hsub b hf.2 h2 (fun hh => hl (.inr hh)) h4
        simp only [IsTs]
        cases c with
        | im x t0 =>
          simp only [C.toT, Option.some.injEq] at h1
          subst h1
          simp only [IsC] at h3
          obtain ⟨rfl, h3⟩ := h3
          refine ⟨rfl, v, vs', rfl, ?_, h5⟩
          by_cases hlit : t0.isLit = true
          · exact isLit_any hlit h3
          · cases x with
            | false => cases b with
              | false => exact h3
              | true => exact IsT.mono hsub (fun _ _ => rfl) _ _ h3
            | true =>
              have : b = true := hl (.inl (by simp [C.lent, hlit]))
              subst this
              exact h3
        | ow t0 =>
          cases t0 with
          | lit x =>
            simp only [C.toT, Option.some.injEq] at h1
            subst h1
            simp only [IsC, IsO] at h3
            obtain ⟨rfl, h3, rfl⟩ := h3
            refine ⟨rfl, v, vs', rfl, ?_, h5⟩
            simp only [IsT]; exact ⟨trivial, h3⟩
          | sl _ _ => simp [C.free] at hf
        | own _ _ => simp [C.free] at hf
        | hole => simp [C.free] at hf

/-- A value of so many cells. -/
def valOf (ag : Bool) (vs : List Value) (v : Value) : Prop := if ag then v = .agg vs.toArray else vs = [v]

theorem ofT_is {w : World} {Φ : Bool → Nat → Prop} {ob : List (Nat × O)} {ρ : Nat → List Value} {b ag : Bool} {ts : List T} {vs : List Value} {v : Value} (h : IsTs w (Φ b) ts vs) (hv : valOf ag vs v) : SlotR w Φ ob ρ (ofT b ag ts) v := by
  unfold ofT
  cases ag with
  | true =>
    simp only [valOf, if_true] at hv ⊢
    simp only [SlotR]
    exact ⟨vs, hv, h⟩
  | false =>
    simp only [valOf, Bool.false_eq_true, if_false] at hv ⊢
    subst hv
    split
    · rename_i x
      simp only [IsTs, IsT] at h
      obtain ⟨v', vs', e, h2, rfl⟩ := h
      simp only [List.cons.injEq, and_true] at e
      subst e
      simpa only [SlotR] using h2
    · rename_i t _
      simp only [IsTs] at h
      obtain ⟨v', vs', e, h2, rfl⟩ := h
      simp only [List.cons.injEq, and_true] at e
      subst e
      simpa only [SlotR] using h2
    · simp only [SlotR]

theorem view_is {w : World} {Φ : Bool → Nat → Prop} {σ : F} {tm : List Value} {ρ : Nat → List Value} {B : List Nat} (h : Rel w Φ σ tm ρ B) {k : Nat} {p : List (Nat × Nat)} {off n : Nat} {cs : List C} {o : O} {vs : List Value} {Bc : List Nat} {ag : Bool} {v : Value}
    (hl : Ev.look σ.ob k = some o) (hv : valsAt w o.cells (ρ k) p = some vs) (hn : off + n ≤ vs.length) (hc : IsCs w Φ cs ((vs.drop off).take n) Bc) (hval : valOf ag ((vs.drop off).take n) v) : SlotR w Φ σ.ob ρ (F.view k p off n ag cs) v := by
  unfold F.view
  split
  · rename_i hf
    split
    · rename_i ts hts
      exact ofT_is (free_is h.sub (lentAll cs) hf hts (fun h => h) hc).2 hval
    · simp only [SlotR]
  · simp only [SlotR]
    exact ⟨o, vs, hl, hv, hn, hval⟩

/-! ### types -/

section
variable {P : Program} {e : Env}

theorem EnvOk.one (he : EnvOk P e) {t : TypeId} {v : TV} (h : e.ty t = some v) (ha : v.agg = false) : v.cells = 1 := by
  obtain ⟨i, z, _, _, _, _, _, _, h7, _, h9, _⟩ := he.ty t v h
  rw [ha] at h9
  rw [← h7]
  cases z <;> first | rfl | (simp [isAggValue] at h9; done)

theorem EnvOk.und (he : EnvOk P e) {t : TypeId} {v : TV} (h : e.ty t = some v) : P.underlying t = some v.desc := (he.ty t v h).choose_spec.choose_spec.2.1

theorem EnvOk.run_sizeOf (he : EnvOk P e) {t : TypeId} {v : TV} (h : e.ty t = some v) (w : World) : (sizeOf t).run P w = .ok v.cells w := by
  obtain ⟨i, z, h1, _, h3, _⟩ := he.ty t v h
  simp [sizeOf, typeInfo, h1, h3]

theorem EnvOk.run_isAgg (he : EnvOk P e) {t : TypeId} {v : TV} (h : e.ty t = some v) (w : World) : (Go.isAgg t).run P w = .ok v.agg w := by
  obtain ⟨i, z, h1, h2, h3, h4, h5, h6, h7, h8, h9, h10⟩ := he.ty t v h
  rw [h8]
  simp only [Go.isAgg, Sem.run_bind, run_underlying h2, Result.andThen_ok]
  cases hd : v.desc <;> simp [isAggDesc]

theorem EnvOk.run_zero (he : EnvOk P e) {t : TypeId} {v : TV} (h : e.ty t = some v) : ∃ z, (∀ w, (zeroValue t).run P w = .ok z w) ∧ cellsT z.cells.toList = some v.zero ∧ z.cells.size = v.cells := by
  obtain ⟨i, z, h1, h2, h3, h4, h5, h6, h7, h8, h9, h10⟩ := he.ty t v h
  exact ⟨z, fun w => by simp [zeroValue, typeInfo, h1, h5], h6, h7⟩

theorem EnvOk.run_bytes (he : EnvOk P e) {t : TypeId} {v : TV} (h : e.ty t = some v) (w : World) : ∃ i, (typeInfo t).run P w = .ok i w ∧ i.bytes = v.bytes ∧ i.size = v.cells := by
  obtain ⟨i, z, h1, h2, h3, h4, h5, h6, h7, h8, h9, h10⟩ := he.ty t v h
  exact ⟨i, by simp [typeInfo, h1], h4, h3⟩

/-! ### load -/

theorem run_loadVar (he : EnvOk P e) {t : TypeId} {v : TV} (h : e.ty t = some v) {w : World} {g a : Nat} {cur : Array Value} {et : TypeId} {fz : Nat × Nat} (hg : w.heap[g]? = some (.cells cur et fz)) (hs : a + v.cells ≤ cur.size) :
    ∃ x, (loadVar t ⟨g, a, none⟩).run P w = .ok x w ∧ valOf v.agg ((cur.toList.drop a).take v.cells) x := by
  have hcell : ∀ j, w.cell? ⟨g, j, none⟩ = cur[j]? := fun j => by simp [World.cell?, hg]
  cases ha : v.agg with
  | true =>
    refine ⟨.agg ((cur.toList.drop a).take v.cells).toArray, ?_, by simp [valOf]⟩
    have hl : ((cur.toList.drop a).take v.cells).length = v.cells := by simp; omega
    have := run_loadCells_list (P := P) w ⟨g, a, none⟩ ((cur.toList.drop a).take v.cells) (fun j x hj => by
      rw [List.getElem?_take] at hj
      split at hj
      · rw [List.getElem?_drop] at hj
        rw [Addr.add_lit, hcell]
        simpa using hj
      · cases hj)
    rw [hl] at this
    simp only [loadVar, Sem.run_bind, he.run_isAgg h, ha, Result.andThen_ok, if_true, he.run_sizeOf h, this, Sem.run_pure]
  | false =>
    have h1 := he.one h ha
    rw [h1] at hs ⊢
    obtain ⟨x, hx⟩ : ∃ x, cur[a]? = some x := ⟨cur[a]'(by omega), by simp [show a < cur.size by omega]⟩
    refine ⟨x, ?_, ?_⟩
    · simp only [loadVar, Sem.run_bind, he.run_isAgg h, ha, Result.andThen_ok, Bool.false_eq_true, if_false, run_load, hcell, hx]
    · simp only [valOf, Bool.false_eq_true, if_false]
      have hx' : cur.toList[a]? = some x := by simpa using hx
      obtain ⟨hlt, rfl⟩ := List.getElem?_eq_some_iff.mp hx'
      rw [List.drop_eq_getElem_cons hlt]
      simp

variable {σ : F} {d : Option Tmp} {ty : TypeId} {pos : String} {after : Array Edge} {gd : Option (Nat × Bool)}

theorem valOf_eq {ag : Bool} {vs : List Value} {x y : Value} (h : valOf ag vs x) (k : valOf ag vs y) : x = y := by
  unfold valOf at h k
  cases ag with
  | true => simp only [if_true] at h k; rw [h, k]
  | false =>
    simp only [Bool.false_eq_true, if_false] at h k
    rw [h] at k
    simpa using k

theorem ok_load_ptr (he : EnvOk P e) (t : TypeId) (v : TV) (x : Operand) (k : Nat) (p : List (Nat × Nat)) (off : Nat) (cs : List C) (h : e.ty t = some v) (hx : σ.rd x = .ptr k p off) (hc : σ.cells k p off v.cells = some cs) (s : S) (hs : s = .dead ∨ s = F.view k p off v.cells v.agg cs) :
    OpStill P ⟨d, .load t x, ty, pos, after, gd⟩ σ (σ.put d s) :=
  opVal (o := ⟨d, .load t x, ty, pos, after, gd⟩) fun w Φ tm ρ B ds hR => by
    have hr := hR.rd (ds := ds) x
    rw [hx] at hr
    simp only [SlotR] at hr
    obtain ⟨o, g, a, h1, h2, h3⟩ := hr
    obtain ⟨o', vs, Bc, c1, c2, c3, c4, c5, c6, c7⟩ := hR.cells hc
    rw [h1] at c1
    cases c1
    have hp : p ≠ [] := by rintro rfl; simp [addrAt] at h2
    obtain ⟨g', a', cur, et, fz, q1, q2, q3, q4, q5⟩ := c7 hp
    rw [h2] at q1
    cases q1
    obtain ⟨x', r1, r2⟩ := run_loadVar he h (a := a + off) q2 (by omega)
    rw [← q5] at r2
    refine ⟨x', fun w2 hw2 => ?_, ?_⟩
    · obtain ⟨x2, s1, s2⟩ := run_loadVar he h (a := a + off) (hw2.get q2) (by omega)
      rw [← q5] at s2
      rw [valOf_eq r2 s2]
      simp only [execOp, h3, Instr.loadAt, Instr.sureAddr, Sem.run_bind, Sem.run_pure, Result.andThen_ok, s1]
    · rcases hs with rfl | rfl
      · simp only [SlotR]
      · exact view_is hR h1 c2 c3 c5 r2

theorem ok_load_pt (he : EnvOk P e) (t : TypeId) (v : TV) (x : Operand) (b : Bool) (ts : List T) (h : e.ty t = some v) (hx : σ.rd x = .pt b ts) (hl : v.cells ≤ ts.length) :
    OpStill P ⟨d, .load t x, ty, pos, after, gd⟩ σ (σ.put d (ofT b v.agg (ts.take v.cells))) :=
  opVal (o := ⟨d, .load t x, ty, pos, after, gd⟩) fun w Φ tm ρ B ds hR => by
    have hr := hR.rd (ds := ds) x
    rw [hx] at hr
    simp only [SlotR] at hr
    obtain ⟨g, o, cur, et, fz, h1, h2, h3, h4⟩ := hr
    have hlen := h4.length
    have hpos : 0 < v.cells := (he.ty t v h).choose_spec.choose_spec.2.2.2.2.2.2.2.2.2
    simp only [List.length_take, List.length_drop, Array.length_toList] at hlen
    obtain ⟨x', r1, r2⟩ := run_loadVar he h (a := o) h3 (by omega)
    refine ⟨x', fun w2 hw2 => ?_, ?_⟩
    · obtain ⟨x2, s1, s2⟩ := run_loadVar he h (a := o) (hw2.get h3) (by omega)
      rw [valOf_eq r2 s2]
      simp only [execOp, h1, Instr.loadAt, Instr.sureAddr, Sem.run_bind, Sem.run_pure, Result.andThen_ok, s1]
    · have := h4.take v.cells
      rw [List.take_take, Nat.min_eq_left hl] at this
      exact ofT_is this r2

end

end Go.Proofs.Ytmkhdnpnjjdgfaa.Ev
