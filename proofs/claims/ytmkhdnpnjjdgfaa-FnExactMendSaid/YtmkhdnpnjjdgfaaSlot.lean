/- Paths stand where nothing on their way is turned; a write turns just what it overwrites. -/
import Derived.Test.YtmkhdnpnjjdgfaaPlace
set_option linter.unusedVariables false
set_option linter.unusedSimpArgs false
namespace Go.Proofs.Ytmkhdnpnjjdgfaa.Ev
open Go Go.RowKit

/-- What an object's cells say of a step. -/
theorem stepAt_row {w : World} {Φ : Bool → Nat → Prop} {x : C} {v : Value} {B : List Nat} {i : Nat} {r : List C} (h : IsC w Φ x v B) (hr : x.row i = some r) :
    ∃ g o rv Br, stepAt w x v i = some (g, o, r, rv) ∧ g ∈ B ∧ (∀ b ∈ Br, b ∈ B) ∧ IsCs w Φ r rv Br := by
  obtain ⟨g, n, cap, cur, e, fz, X, Br, Y, sz, rfl, hsz, hn, hin, hnc, hcap, hheap, hfz, hcur, rfl, hrl, hrc, _, _⟩ := h.row hr
  exact ⟨g, i * sz, _, Br, by simp [stepAt, hr, hsz, hheap], by simp, fun b hb => by simp [hb], hrc⟩

theorem stepAt_keep {w w' : World} {Φ : Bool → Nat → Prop} {x : C} {v : Value} {B : List Nat} {i : Nat} {r : List C} (h : IsC w Φ x v B) (hr : x.row i = some r) (hk : ∀ b ∈ B, w'.heap[b]? = w.heap[b]?) : stepAt w' x v i = stepAt w x v i := by
  obtain ⟨g, n, cap, cur, e, fz, X, Br, Y, sz, rfl, hsz, hn, hin, hnc, hcap, hheap, hfz, hcur, rfl, hrl, hrc, _, _⟩ := h.row hr
  simp [stepAt, hr, hsz, hk g (by simp)]

/-- A path reads the same in a world that keeps the object's blocks. -/
theorem path_keep {w w' : World} {Φ : Bool → Nat → Prop} : ∀ (p : List (Nat × Nat)) (cs : List C) (vs : List Value) (B : List Nat), IsCs w Φ cs vs B → (∀ b ∈ B, w'.heap[b]? = w.heap[b]?) →
    valsAt w' cs vs p = valsAt w cs vs p ∧ addrAt w' cs vs p = addrAt w cs vs p
  | [], _, _, _, _, _ => ⟨rfl, rfl⟩
  | (c, i) :: p, cs, vs, B, h, hk => by
    rw [valsAt, valsAt, addrAt, addrAt]
    cases hx : cs[c]? with
    | none => exact ⟨rfl, rfl⟩
    | some x =>
      cases hv : vs[c]? with
      | none => exact ⟨rfl, rfl⟩
      | some v =>
        obtain ⟨Bx, hB, hc⟩ := h.at_ hx hv
        cases hr : x.row i with
        | none =>
          have e : ∀ w0, stepAt w0 x v i = none := fun w0 => by simp [stepAt, hr]
          simp only [e]
          exact ⟨trivial, trivial⟩
        | some r =>
          obtain ⟨g, o, rv, Br, h1, h2, h3, h4⟩ := stepAt_row hc hr
          have h5 := stepAt_keep (w' := w') hc hr (fun b hb => hk b (hB b hb))
          have ih := path_keep (w' := w') p r rv Br h4 (fun b hb => hk b (hB b (h3 b hb)))
          simp only [h5, h1]
          refine ⟨ih.1, ?_⟩
          cases p with
          | nil => rfl
          | cons q p => exact ih.2

theorem setRow_row {x x' : C} {i j : Nat} {r' : List C} (h : x.setRow i r' = some x') (hij : j ≠ i) : x'.row j = x.row j := by
  cases x with
  | im b t => simp [C.setRow] at h
  | hole => simp [C.setRow] at h
  | own sz rows =>
    simp only [C.setRow, Option.some.injEq] at h
    subst h
    simp only [C.row]
    rw [List.getElem?_set_ne (fun e => hij e.symm)]
  | ow t =>
    cases t with
    | lit u => simp [C.setRow] at h
    | sl sz rows =>
      simp only [C.setRow] at h
      cases ho : ownedAll r' with
      | none =>
        rw [ho] at h
        simp only [Option.some.injEq] at h
        subst h
        simp only [C.row]
        rw [List.getElem?_set_ne (fun e => hij e.symm), List.getElem?_map]
      | some ts =>
        rw [ho] at h
        simp only [Option.some.injEq] at h
        subst h
        simp only [C.row]
        rw [List.getElem?_set_ne (fun e => hij e.symm)]

theorem setRow_sz {x x' : C} {i : Nat} {r' : List C} (h : x.setRow i r' = some x') : x'.sz = x.sz := by
  cases x with
  | im b t => simp [C.setRow] at h
  | hole => simp [C.setRow] at h
  | own sz rows =>
    simp only [C.setRow, Option.some.injEq] at h
    subst h
    rfl
  | ow t =>
    cases t with
    | lit u => simp [C.setRow] at h
    | sl sz rows =>
      simp only [C.setRow] at h
      cases ho : ownedAll r' with
      | none => rw [ho] at h; simp only [Option.some.injEq] at h; subst h; rfl
      | some ts => rw [ho] at h; simp only [Option.some.injEq] at h; subst h; rfl

/-- Cells that are alike to the path: the owned ones may be told one by one. -/
theorem setRow_same {x x' : C} {i : Nat} {r r' : List C} (h : x.setRow i r' = some x') (hr : x.row i = some r) : ∃ r2, x'.row i = some r2 ∧ (r2 = r' ∨ ∃ ts, ownedAll r' = some ts ∧ r2 = ts.map C.ow) := by
  cases x with
  | im b t => simp [C.setRow] at h
  | hole => simp [C.setRow] at h
  | own sz rows =>
    simp only [C.row] at hr
    simp only [C.setRow, Option.some.injEq] at h
    subst h
    have hlt : i < rows.length := by
      rcases Nat.lt_or_ge i rows.length with h | h
      · exact h
      · simp [List.getElem?_eq_none h] at hr
    exact ⟨r', by simp [C.row, hlt], .inl rfl⟩
  | ow t =>
    cases t with
    | lit u => simp [C.setRow] at h
    | sl sz rows =>
      simp only [C.row, Option.map_eq_some_iff] at hr
      obtain ⟨r0, hr0, _⟩ := hr
      have hlt : i < rows.length := by
        rcases Nat.lt_or_ge i rows.length with h | h
        · exact h
        · simp [List.getElem?_eq_none h] at hr0
      simp only [C.setRow] at h
      cases ho : ownedAll r' with
      | none =>
        rw [ho] at h
        simp only [Option.some.injEq] at h
        subst h
        exact ⟨r', by simp [C.row, hlt], .inl rfl⟩
      | some ts =>
        rw [ho] at h
        simp only [Option.some.injEq] at h
        subst h
        exact ⟨ts.map C.ow, by simp [C.row, hlt], .inr ⟨ts, rfl, rfl⟩⟩

theorem ownedRows_get : ∀ {rs : List (List C)} {tss : List (List T)}, ownedRows rs = some tss → ∀ i : Nat, (tss[i]? = none ∧ rs[i]? = none) ∨ ∃ (r : List C) (ts : List T), rs[i]? = some r ∧ tss[i]? = some ts ∧ ownedAll r = some ts
  | [], tss, h, i => by simp only [ownedRows, Option.some.injEq] at h; subst h; simp
  | r :: rs, tss, h, i => by
    simp only [ownedRows] at h
    cases h1 : ownedAll r with
    | none => simp [h1] at h
    | some ts =>
      cases h2 : ownedRows rs with
      | none => simp [h1, h2] at h
      | some tss' =>
        simp only [h1, h2, Option.some.injEq] at h
        subst h
        cases i with
        | zero => exact .inr ⟨r, ts, rfl, rfl, h1⟩
        | succ i => simpa using ownedRows_get h2 i

theorem ownedAll_get : ∀ {cs : List C} {ts : List T}, ownedAll cs = some ts → ∀ i : Nat, (ts[i]? = none ∧ cs[i]? = none) ∨ ∃ (c : C) (t : T), cs[i]? = some c ∧ ts[i]? = some t ∧ C.owned c = some t
  | [], ts, h, i => by simp only [ownedAll, Option.some.injEq] at h; subst h; simp
  | c :: cs, ts, h, i => by
    simp only [ownedAll] at h
    cases h1 : c.owned with
    | none => simp [h1] at h
    | some t =>
      cases h2 : ownedAll cs with
      | none => simp [h1, h2] at h
      | some ts' =>
        simp only [h1, h2, Option.some.injEq] at h
        subst h
        cases i with
        | zero => exact .inr ⟨c, t, rfl, rfl, h1⟩
        | succ i => simpa using ownedAll_get h2 i

/-- An owned cell told whole has the same rows. -/
theorem owned_row {c : C} {t : T} (h : c.owned = some t) (i : Nat) : ((C.ow t).row i = none ∧ c.row i = none) ∨ ∃ r ts, c.row i = some r ∧ (C.ow t).row i = some (ts.map C.ow) ∧ ownedAll r = some ts ∧ (C.ow t).sz = c.sz := by
  cases c with
  | im b u =>
    cases u with
    | lit x => simp only [C.owned, Option.some.injEq] at h; subst h; exact .inl ⟨rfl, rfl⟩
    | sl sz rows => simp [C.owned] at h
  | hole => simp [C.owned] at h
  | ow t0 =>
    simp only [C.owned, Option.some.injEq] at h
    subst h
    cases t0 with
    | lit x => exact .inl ⟨rfl, rfl⟩
    | sl sz rows =>
      cases hr : rows[i]? with
      | none => exact .inl ⟨by simp [C.row, hr], by simp [C.row, hr]⟩
      | some r =>
        refine .inr ⟨r.map C.ow, r, by simp [C.row, hr], by simp [C.row, hr], ?_, rfl⟩
        clear hr
        induction r with
        | nil => rfl
        | cons a r ih => simp [ownedAll, C.owned, ih]
  | own sz rows =>
    simp only [C.owned, Option.map_eq_some_iff] at h
    obtain ⟨tss, h1, rfl⟩ := h
    rcases ownedRows_get h1 i with ⟨h2, h3⟩ | ⟨r, ts, h2, h3, h4⟩
    · exact .inl ⟨by simp [C.row, h2], by simp [C.row, h3]⟩
    · exact .inr ⟨r, ts, by simp [C.row, h2], by simp [C.row, h3], h4, rfl⟩

theorem stepAt_some {w : World} {x : C} {v : Value} {i g o : Nat} {r : List C} {rv : List Value} (h : stepAt w x v i = some (g, o, r, rv)) : x.row i = some r := by
  unfold stepAt at h
  cases hr : x.row i with
  | none => simp [hr] at h
  | some r0 =>
    rw [hr] at h
    generalize x.sz = z at h
    cases z with
    | none => simp at h
    | some sz =>
      cases v <;> try (simp at h; done)
      rename_i a _ _
      cases a with
      | none => simp at h
      | some a =>
        cases ho : w.heap[a.block]? with
        | none => simp [ho] at h
        | some ob =>
          cases ob <;> simp [ho] at h
          rw [h.2.2.1]

theorem step_owned {w : World} {x : C} {t : T} {v : Value} {i : Nat} {r : List C} {us : List T} (h4 : x.row i = some r) (h5 : (C.ow t).row i = some (us.map C.ow)) (h7 : (C.ow t).sz = x.sz) :
    stepAt w (C.ow t) v i = (stepAt w x v i).map (fun q => (q.1, q.2.1, us.map C.ow, q.2.2.2)) := by
  unfold stepAt
  rw [h5, h4, h7]
  generalize x.sz = z
  cases z with
  | none => rfl
  | some sz =>
    cases v <;> try rfl
    rename_i a _ _
    cases a with
    | none => rfl
    | some a =>
      simp only
      cases w.heap[a.block]? with
      | none => rfl
      | some ob => cases ob <;> rfl

/-- Paths through owned cells told whole are the same. -/
theorem path_owned {w : World} : ∀ (p : List (Nat × Nat)) (cs : List C) (ts : List T) (vs : List Value), ownedAll cs = some ts → valsAt w (ts.map C.ow) vs p = valsAt w cs vs p ∧ addrAt w (ts.map C.ow) vs p = addrAt w cs vs p
  | [], _, _, _, _ => ⟨rfl, rfl⟩
  | (c, i) :: p, cs, ts, vs, h => by
    rw [valsAt, valsAt, addrAt, addrAt, List.getElem?_map]
    rcases ownedAll_get h c with ⟨h1, h2⟩ | ⟨x, t, h1, h2, h3⟩
    · rw [h1, h2]; exact ⟨rfl, rfl⟩
    · rw [h1, h2]
      simp only [Option.map_some]
      cases hv : vs[c]? with
      | none => exact ⟨rfl, rfl⟩
      | some v =>
        rcases owned_row h3 i with ⟨h4, h5⟩ | ⟨r, us, h4, h5, h6, h7⟩
        · have e1 : stepAt w (C.ow t) v i = none := by simp [stepAt, h4]
          have e2 : stepAt w x v i = none := by simp [stepAt, h5]
          simp only [e1, e2]
          exact ⟨trivial, trivial⟩
        · have e := step_owned (w := w) (v := v) h4 h5 h7
          cases hs : stepAt w x v i with
          | none =>
            rw [hs] at e
            simp only [e, hs, Option.map_none]
            exact ⟨trivial, trivial⟩
          | some q =>
            obtain ⟨g, o, r1, rv⟩ := q
            rw [hs] at e
            have e2 : r1 = r := by
              have := stepAt_some hs
              rw [h4] at this
              exact (Option.some.inj this).symm
            subst e2
            simp only [e, hs, Option.map_some]
            have ih := path_owned (w := w) p r1 us rv h6
            refine ⟨ih.1, ?_⟩
            cases p with
            | nil => rfl
            | cons q p => exact ih.2

end Go.Proofs.Ytmkhdnpnjjdgfaa.Ev
