/- One row of an owned slice taken out and put back; a path into an object. -/
import Derived.Test.YtmkhdnpnjjdgfaaRel
set_option linter.unusedVariables false
set_option linter.unusedSimpArgs false
namespace Go.Proofs.Ytmkhdnpnjjdgfaa.Ev
open Go Go.RowKit

/-- What stays: read-only blocks, and these. -/
structure Keeps (w w' : World) (Φ Φ' : Bool → Nat → Prop) (L : List Nat) : Prop where
  mono : ∀ x b, Φ x b → Φ' x b
  ro : ∀ x b, Φ x b → w'.heap[b]? = w.heap[b]?
  own : ∀ b ∈ L, w'.heap[b]? = w.heap[b]?

theorem Keeps.sub {w w' : World} {Φ Φ' : Bool → Nat → Prop} {L L' : List Nat} (h : Keeps w w' Φ Φ' L) (hL : ∀ b ∈ L', b ∈ L) : Keeps w w' Φ Φ' L' :=
  ⟨h.mono, h.ro, fun b hb => h.own b (hL b hb)⟩

theorem Keeps.refl (w : World) (Φ : Bool → Nat → Prop) (L : List Nat) : Keeps w w Φ Φ L := ⟨fun _ _ h => h, fun _ _ _ => rfl, fun _ _ => rfl⟩

theorem IsCs.keep {w w' : World} {Φ Φ' : Bool → Nat → Prop} {cs : List C} {vs : List Value} {B : List Nat} (h : IsCs w Φ cs vs B) (k : Keeps w w' Φ Φ' B) : IsCs w' Φ' cs vs B := IsCs.stable k.mono k.ro _ _ _ k.own h
theorem IsC.keep {w w' : World} {Φ Φ' : Bool → Nat → Prop} {c : C} {v : Value} {B : List Nat} (h : IsC w Φ c v B) (k : Keeps w w' Φ Φ' B) : IsC w' Φ' c v B := IsC.stable k.mono k.ro _ _ _ k.own h
theorem IsCRows.keep {w w' : World} {Φ Φ' : Bool → Nat → Prop} {sz : Nat} {rs : List (List C)} {vs : List Value} {B : List Nat} (h : IsCRows w Φ sz rs vs B) (k : Keeps w w' Φ Φ' B) : IsCRows w' Φ' sz rs vs B := IsCRows.stable k.mono k.ro sz _ _ _ k.own h

theorem drop_ext {vs vs' : List Value} {n : Nat} (h : ∀ j, n ≤ j → vs'[j]? = vs[j]?) : vs'.drop n = vs.drop n := by
  apply List.ext_getElem?
  intro j
  rw [List.getElem?_drop, List.getElem?_drop]
  exact h _ (by omega)

theorem take_ext {vs vs' : List Value} {n : Nat} (h : ∀ j, j < n → vs'[j]? = vs[j]?) : vs'.take n = vs.take n := by
  apply List.ext_getElem?
  intro j
  rw [List.getElem?_take, List.getElem?_take]
  split
  · exact h _ ‹_›
  · rfl

theorem IsCRows.at_ {w : World} {Φ : Bool → Nat → Prop} {sz : Nat} : ∀ (rows : List (List C)) (vs : List Value) (B : List Nat) (i : Nat) (r : List C), IsCRows w Φ sz rows vs B → rows[i]? = some r → ∃ Br, (∀ b ∈ Br, b ∈ B) ∧ IsCs w Φ r ((vs.drop (i * sz)).take sz) Br
  | [], vs, B, i, r, _, hr => by simp at hr
  | r0 :: rs, vs, B, 0, r, h, hr => by
    simp only [List.getElem?_cons_zero, Option.some.injEq] at hr
    subst hr
    simp only [IsCRows] at h
    obtain ⟨B1, B2, rfl, h2, h3, h4⟩ := h
    exact ⟨B1, fun b hb => by simp [hb], by simpa using h3⟩
  | r0 :: rs, vs, B, i + 1, r, h, hr => by
    simp only [List.getElem?_cons_succ] at hr
    simp only [IsCRows] at h
    obtain ⟨B1, B2, rfl, h2, h3, h4⟩ := h
    obtain ⟨Br, e1, e2⟩ := IsCRows.at_ rs (vs.drop sz) B2 i r h4 hr
    rw [List.drop_drop, show sz + i * sz = (i + 1) * sz by rw [Nat.succ_mul]; omega] at e2
    exact ⟨Br, fun b hb => by simp [e1 b hb], e2⟩

theorem IsCs.at_ {w : World} {Φ : Bool → Nat → Prop} : ∀ {cs : List C} {vs : List Value} {B : List Nat} {c : Nat} {x : C} {v : Value}, IsCs w Φ cs vs B → cs[c]? = some x → vs[c]? = some v → ∃ Bx, (∀ b ∈ Bx, b ∈ B) ∧ IsC w Φ x v Bx
  | [], _, _, _, _, _, _, hx, _ => by simp at hx
  | c0 :: cs, _, _, 0, x, v, h, hx, hv => by
    simp only [IsCs] at h
    obtain ⟨v0, vs', B1, B2, rfl, rfl, h3, h4⟩ := h
    simp only [List.getElem?_cons_zero, Option.some.injEq] at hx hv
    subst hx
    subst hv
    exact ⟨B1, fun b hb => by simp [hb], h3⟩
  | c0 :: cs, _, _, c + 1, x, v, h, hx, hv => by
    simp only [IsCs] at h
    obtain ⟨v0, vs', B1, B2, rfl, rfl, h3, h4⟩ := h
    simp only [List.getElem?_cons_succ] at hx hv
    obtain ⟨Bx, e1, e2⟩ := h4.at_ hx hv
    exact ⟨Bx, fun b hb => by simp [e1 b hb], e2⟩

theorem IsCRows.focus {w : World} {Φ : Bool → Nat → Prop} {sz : Nat} : ∀ (rows : List (List C)) (vs : List Value) (B : List Nat) (i : Nat) (r : List C), IsCRows w Φ sz rows vs B → rows[i]? = some r →
    ∃ X Br Y, B = X ++ (Br ++ Y) ∧ r.length = sz ∧ IsCs w Φ r ((vs.drop (i * sz)).take sz) Br ∧
      (∀ (j : Nat) (r2 : List C), j ≠ i → rows[j]? = some r2 → ∃ Bj, (∀ b ∈ Bj, b ∈ X ++ Y) ∧ IsCs w Φ r2 ((vs.drop (j * sz)).take sz) Bj) ∧
      ∀ (w' : World) (Φ' : Bool → Nat → Prop) (vs' : List Value) (r' : List C) (Br' : List Nat), Keeps w w' Φ Φ' (X ++ Y) → (∀ j, j < i * sz ∨ i * sz + sz ≤ j → vs'[j]? = vs[j]?) →
        IsCs w' Φ' r' ((vs'.drop (i * sz)).take sz) Br' → r'.length = sz → IsCRows w' Φ' sz (rows.set i r') vs' (X ++ (Br' ++ Y))
  | [], vs, B, i, r, _, hr => by simp at hr
  | r0 :: rs, vs, B, 0, r, h, hr => by
    simp only [List.getElem?_cons_zero, Option.some.injEq] at hr
    subst hr
    simp only [IsCRows] at h
    obtain ⟨B1, B2, rfl, h2, h3, h4⟩ := h
    refine ⟨[], B1, B2, rfl, h2, by simpa using h3, ?_, ?_⟩
    · intro j r2 hj hr2
      obtain ⟨j, rfl⟩ : ∃ m, j = m + 1 := ⟨j - 1, by omega⟩
      simp only [List.getElem?_cons_succ] at hr2
      obtain ⟨Bj, e1, e2⟩ := IsCRows.at_ rs _ _ j r2 h4 hr2
      rw [List.drop_drop, show sz + j * sz = (j + 1) * sz by rw [Nat.succ_mul]; omega] at e2
      exact ⟨Bj, by simpa using e1, e2⟩
    intro w' Φ' vs' r' Br' hk hv hr' hl
    simp only [List.nil_append] at hk ⊢
    simp only [List.set_cons_zero, IsCRows]
    refine ⟨Br', B2, rfl, hl, by simpa using hr', ?_⟩
    rw [drop_ext (vs := vs) (vs' := vs') (n := sz) (fun j hj => hv j (by omega))]
    exact h4.keep hk
  | r0 :: rs, vs, B, i + 1, r, h, hr => by
    simp only [List.getElem?_cons_succ] at hr
    simp only [IsCRows] at h
    obtain ⟨B1, B2, rfl, h2, h3, h4⟩ := h
    obtain ⟨X, Br, Y, rfl, e2, e3, e5, e4⟩ := IsCRows.focus rs (vs.drop sz) B2 i r h4 hr
    refine ⟨B1 ++ X, Br, Y, by simp [List.append_assoc], e2, ?_, ?_, ?_⟩
    · rw [List.drop_drop, show sz + i * sz = (i + 1) * sz by rw [Nat.succ_mul]; omega] at e3
      exact e3
    · intro j r2 hj hr2
      cases j with
      | zero =>
        simp only [List.getElem?_cons_zero, Option.some.injEq] at hr2
        subst hr2
        exact ⟨B1, fun b hb => by simp [hb], by simpa using h3⟩
      | succ j =>
        simp only [List.getElem?_cons_succ] at hr2
        obtain ⟨Bj, f1, f2⟩ := e5 j r2 (by omega) hr2
        rw [List.drop_drop, show sz + j * sz = (j + 1) * sz by rw [Nat.succ_mul]; omega] at f2
        exact ⟨Bj, fun b hb => by have := f1 b hb; simp at this ⊢; rcases this with h | h <;> simp [h], f2⟩
    · intro w' Φ' vs' r' Br' hk hv hr' hl
      simp only [List.set_cons_succ, IsCRows]
      have hm : (i + 1) * sz = sz + i * sz := by rw [Nat.succ_mul]; omega
      refine ⟨B1, X ++ (Br' ++ Y), by simp [List.append_assoc], h2, ?_, ?_⟩
      · rw [take_ext (vs := vs) (vs' := vs') (n := sz) (fun j hj => hv j (by omega))]
        exact h3.keep (hk.sub (by simp; intro b hb; simp [hb]))
      · refine e4 w' Φ' (vs'.drop sz) r' Br' (hk.sub (by intro b hb; simp at hb ⊢; rcases hb with hb | hb <;> simp [hb])) ?_ ?_ hl
        · intro j hj
          rw [List.getElem?_drop, List.getElem?_drop]
          exact hv _ (by omega)
        · rw [List.drop_drop, ← hm]
          exact hr'

theorem IsCs.focus {w : World} {Φ : Bool → Nat → Prop} : ∀ (cs : List C) (vs : List Value) (B : List Nat) (i : Nat) (x : C), IsCs w Φ cs vs B → cs[i]? = some x →
    ∃ X Bx Y v, B = X ++ (Bx ++ Y) ∧ vs[i]? = some v ∧ IsC w Φ x v Bx ∧
      (∀ (j : Nat) (x2 : C) (v2 : Value), j ≠ i → cs[j]? = some x2 → vs[j]? = some v2 → ∃ Bj, (∀ b ∈ Bj, b ∈ X ++ Y) ∧ IsC w Φ x2 v2 Bj) ∧
      ∀ (w' : World) (Φ' : Bool → Nat → Prop) (x' : C) (Bx' : List Nat), Keeps w w' Φ Φ' (X ++ Y) → IsC w' Φ' x' v Bx' → IsCs w' Φ' (cs.set i x') vs (X ++ (Bx' ++ Y))
  | [], vs, B, i, r, _, hr => by simp at hr
  | c :: cs, vs, B, 0, x, h, hr => by
    simp only [List.getElem?_cons_zero, Option.some.injEq] at hr
    subst hr
    simp only [IsCs] at h
    obtain ⟨v, vs', B1, B2, rfl, rfl, h3, h4⟩ := h
    refine ⟨[], B1, B2, v, rfl, rfl, h3, ?_, ?_⟩
    · intro j x2 v2 hj hx2 hv2
      obtain ⟨j, rfl⟩ : ∃ m, j = m + 1 := ⟨j - 1, by omega⟩
      simp only [List.getElem?_cons_succ] at hx2 hv2
      obtain ⟨Bj, e1, e2⟩ := h4.at_ hx2 hv2
      exact ⟨Bj, by simpa using e1, e2⟩
    intro w' Φ' x' Bx' hk hx'
    simp only [List.nil_append] at hk ⊢
    simp only [List.set_cons_zero, IsCs]
    exact ⟨v, vs', Bx', B2, rfl, rfl, hx', h4.keep hk⟩
  | c :: cs, vs, B, i + 1, x, h, hr => by
    simp only [List.getElem?_cons_succ] at hr
    simp only [IsCs] at h
    obtain ⟨v, vs', B1, B2, rfl, rfl, h3, h4⟩ := h
    obtain ⟨X, Bx, Y, v1, rfl, e2, e3, e5, e4⟩ := IsCs.focus cs vs' B2 i x h4 hr
    refine ⟨B1 ++ X, Bx, Y, v1, by simp [List.append_assoc], by simpa using e2, e3, ?_, ?_⟩
    · intro j x2 v2 hj hx2 hv2
      cases j with
      | zero =>
        simp only [List.getElem?_cons_zero, Option.some.injEq] at hx2 hv2
        subst hx2
        subst hv2
        exact ⟨B1, fun b hb => by simp [hb], h3⟩
      | succ j =>
        simp only [List.getElem?_cons_succ] at hx2 hv2
        obtain ⟨Bj, f1, f2⟩ := e5 j x2 v2 (by omega) hx2 hv2
        exact ⟨Bj, fun b hb => by have := f1 b hb; simp at this ⊢; rcases this with h | h <;> simp [h], f2⟩
    intro w' Φ' x' Bx' hk hx'
    simp only [List.set_cons_succ, IsCs]
    exact ⟨v, vs', B1, X ++ (Bx' ++ Y), rfl, by simp [List.append_assoc], h3.keep (hk.sub (by intro b hb; simp [hb])),
      e4 w' Φ' x' Bx' (hk.sub (by intro b hb; simp at hb ⊢; rcases hb with hb | hb <;> simp [hb])) hx'⟩

/-! ### owned trees, cell by cell -/
theorem IsOs.cells {w : World} {Φ : Bool → Nat → Prop} : ∀ {ts : List T} {vs : List Value} {B : List Nat}, IsOs w ts vs B → IsCs w Φ (ts.map C.ow) vs B
  | [], _, _, h => by simp only [IsOs] at h; simp only [List.map_nil, IsCs]; exact h
  | t :: ts, _, _, h => by
    simp only [IsOs] at h
    obtain ⟨v, vs', B1, B2, rfl, rfl, h3, h4⟩ := h
    simp only [List.map_cons, IsCs]
    exact ⟨v, vs', B1, B2, rfl, rfl, by simpa only [IsC] using h3, h4.cells⟩

theorem IsORows.cells {w : World} {Φ : Bool → Nat → Prop} {sz : Nat} : ∀ {rs : List (List T)} {vs : List Value} {B : List Nat}, IsORows w sz rs vs B → IsCRows w Φ sz (rs.map (·.map C.ow)) vs B
  | [], _, _, h => by simp only [IsORows] at h; simp only [List.map_nil, IsCRows]; exact h
  | r :: rs, _, _, h => by
    simp only [IsORows] at h
    obtain ⟨B1, B2, rfl, h2, h3, h4⟩ := h
    simp only [List.map_cons, IsCRows]
    exact ⟨B1, B2, rfl, by simpa using h2, h3.cells, h4.cells⟩

theorem IsOs.ofCells {w : World} {Φ : Bool → Nat → Prop} : ∀ {ts : List T} {vs : List Value} {B : List Nat}, IsCs w Φ (ts.map C.ow) vs B → IsOs w ts vs B
  | [], _, _, h => by simp only [List.map_nil, IsCs] at h; simp only [IsOs]; exact h
  | t :: ts, _, _, h => by
    simp only [List.map_cons, IsCs] at h
    obtain ⟨v, vs', B1, B2, rfl, rfl, h3, h4⟩ := h
    simp only [IsOs]
    exact ⟨v, vs', B1, B2, rfl, rfl, by simpa only [IsC] using h3, IsOs.ofCells h4⟩

theorem IsORows.ofCells {w : World} {Φ : Bool → Nat → Prop} {sz : Nat} : ∀ {rs : List (List T)} {vs : List Value} {B : List Nat}, IsCRows w Φ sz (rs.map (·.map C.ow)) vs B → IsORows w sz rs vs B
  | [], _, _, h => by simp only [List.map_nil, IsCRows] at h; simp only [IsORows]; exact h
  | r :: rs, _, _, h => by
    simp only [List.map_cons, IsCRows] at h
    obtain ⟨B1, B2, rfl, h2, h3, h4⟩ := h
    simp only [IsORows]
    exact ⟨B1, B2, rfl, by simpa using h2, IsOs.ofCells h3, IsORows.ofCells h4⟩

theorem ownedAll_length : ∀ {cs : List C} {ts : List T}, ownedAll cs = some ts → ts.length = cs.length
  | [], ts, h => by simp only [ownedAll, Option.some.injEq] at h; subst h; rfl
  | c :: cs, ts, h => by
    simp only [ownedAll] at h
    cases h1 : c.owned with
    | none => simp [h1] at h
    | some t =>
      cases h2 : ownedAll cs with
      | none => simp [h1, h2] at h
      | some ts' =>
        simp only [h1, h2, Option.some.injEq] at h
        subst h
        simp [ownedAll_length h2]

theorem ownedRows_length : ∀ {rs : List (List C)} {ts : List (List T)}, ownedRows rs = some ts → ts.length = rs.length
  | [], ts, h => by simp only [ownedRows, Option.some.injEq] at h; subst h; rfl
  | r :: rs, ts, h => by
    simp only [ownedRows] at h
    cases h1 : ownedAll r with
    | none => simp [h1] at h
    | some t =>
      cases h2 : ownedRows rs with
      | none => simp [h1, h2] at h
      | some ts' =>
        simp only [h1, h2, Option.some.injEq] at h
        subst h
        simp [ownedRows_length h2]

mutual
theorem IsC.ofOwned {w : World} {Φ : Bool → Nat → Prop} : ∀ (c : C) (t : T) (v : Value) (B : List Nat), c.owned = some t → IsC w Φ c v B → IsO w t v B
  | .im x (.lit u), t, v, B, ht, h => by
    simp only [C.owned, Option.some.injEq] at ht
    subst ht
    simp only [IsC, IsT] at h
    simp only [IsO]
    exact ⟨h.2.1, h.2.2, h.1⟩
  | .im x (.sl a b), t, v, B, ht, h => by simp [C.owned] at ht
  | .ow t0, t, v, B, ht, h => by
    simp only [C.owned, Option.some.injEq] at ht
    subst ht
    simpa only [IsC] using h
  | .own sz rows, t, v, B, ht, h => by
    simp only [C.owned, Option.map_eq_some_iff] at ht
    obtain ⟨rs, hr, rfl⟩ := ht
    simp only [IsC] at h
    simp only [IsO]
    rw [ownedRows_length hr]
    exact h.imp (fun _ _ => rfl) fun vs B' _ h' => IsCRows.ofOwned sz rows rs vs B' hr h'
  | .hole, t, v, B, ht, _ => by simp [C.owned] at ht
theorem IsCs.ofOwned {w : World} {Φ : Bool → Nat → Prop} : ∀ (cs : List C) (ts : List T) (vs : List Value) (B : List Nat), ownedAll cs = some ts → IsCs w Φ cs vs B → IsOs w ts vs B
  | [], ts, vs, B, ht, h => by
    simp only [ownedAll, Option.some.injEq] at ht
    subst ht
    simp only [IsCs] at h
    simp only [IsOs]
    exact h
  | c :: cs, ts, vs, B, ht, h => by
    simp only [ownedAll] at ht
    cases h1 : c.owned with
    | none => simp [h1] at ht
    | some t =>
      cases h2 : ownedAll cs with
      | none => simp [h1, h2] at ht
      | some ts' =>
        simp only [h1, h2, Option.some.injEq] at ht
        subst ht
        simp only [IsCs] at h
        obtain ⟨v, vs', B1, B2, rfl, rfl, h3, h4⟩ := h
        simp only [IsOs]
        exact ⟨v, vs', B1, B2, rfl, rfl, IsC.ofOwned c t v B1 h1 h3, IsCs.ofOwned cs ts' vs' B2 h2 h4⟩
theorem IsCRows.ofOwned {w : World} {Φ : Bool → Nat → Prop} (sz : Nat) : ∀ (rs : List (List C)) (ts : List (List T)) (vs : List Value) (B : List Nat), ownedRows rs = some ts → IsCRows w Φ sz rs vs B → IsORows w sz ts vs B
  | [], ts, vs, B, ht, h => by
    simp only [ownedRows, Option.some.injEq] at ht
    subst ht
    simp only [IsCRows] at h
    simp only [IsORows]
    exact h
  | r :: rs, ts, vs, B, ht, h => by
    simp only [ownedRows] at ht
    cases h1 : ownedAll r with
    | none => simp [h1] at ht
    | some t =>
      cases h2 : ownedRows rs with
      | none => simp [h1, h2] at ht
      | some ts' =>
        simp only [h1, h2, Option.some.injEq] at ht
        subst ht
        simp only [IsCRows] at h
        obtain ⟨B1, B2, rfl, h5, h6, h7⟩ := h
        simp only [IsORows]
        exact ⟨B1, B2, rfl, (ownedAll_length h1).trans h5, IsCs.ofOwned r t _ B1 h1 h6, IsCRows.ofOwned sz rs ts' _ B2 h2 h7⟩
end

theorem setRow_owned {w : World} {Φ : Bool → Nat → Prop} {r : List C} {vs : List Value} {B : List Nat} {ts : List T} (h : IsCs w Φ r vs B) (ht : ownedAll r = some ts) : IsCs w Φ (ts.map C.ow) vs B :=
  (IsCs.ofOwned r ts vs B ht h).cells

/-- One row of an owned slice. -/
theorem IsC.row {w : World} {Φ : Bool → Nat → Prop} {x : C} {v : Value} {B : List Nat} {i : Nat} {r : List C} (h : IsC w Φ x v B) (hr : x.row i = some r) :
    ∃ g n cap cur e fz X Br Y sz, v = .slice (some ⟨g, 0, none⟩) n cap ∧ x.sz = some sz ∧ x.len = some n ∧ i < n ∧ n ≤ cap ∧ cap ≤ maxLen ∧ w.heap[g]? = some (.cells cur e fz) ∧ (∀ j, j < cur.size → ¬(fz.1 ≤ j ∧ j < fz.2)) ∧ cur.size = cap * sz ∧
      B = g :: (X ++ (Br ++ Y)) ∧ r.length = sz ∧ IsCs w Φ r ((cur.toList.drop (i * sz)).take sz) Br ∧
      (∀ (j : Nat) (r2 : List C), j ≠ i → x.row j = some r2 → ∃ Bj, (∀ b ∈ Bj, b ∈ X ++ Y) ∧ IsCs w Φ r2 ((cur.toList.drop (j * sz)).take sz) Bj) ∧
      ∀ (w' : World) (Φ' : Bool → Nat → Prop) (cur' : Array Value) (r' : List C) (Br' : List Nat) (x' : C), Keeps w w' Φ Φ' (X ++ Y) → w'.heap[g]? = some (.cells cur' e fz) → cur'.size = cur.size →
        (∀ j, j < i * sz ∨ i * sz + sz ≤ j → cur'[j]? = cur[j]?) → IsCs w' Φ' r' ((cur'.toList.drop (i * sz)).take sz) Br' → r'.length = sz → x.setRow i r' = some x' →
        IsC w' Φ' x' v (g :: (X ++ (Br' ++ Y))) ∧ x'.sz = some sz ∧ x'.len = some n := by
  have main : ∀ (sz : Nat) (rows : List (List C)), rows[i]? = some r → OwnSl w sz rows.length v B (fun vs B' => IsCRows w Φ sz rows vs B') →
      ∃ g cap cur e fz X Br Y, v = .slice (some ⟨g, 0, none⟩) rows.length cap ∧ i < rows.length ∧ rows.length ≤ cap ∧ cap ≤ maxLen ∧ w.heap[g]? = some (.cells cur e fz) ∧ (∀ j, j < cur.size → ¬(fz.1 ≤ j ∧ j < fz.2)) ∧ cur.size = cap * sz ∧
      B = g :: (X ++ (Br ++ Y)) ∧ r.length = sz ∧ IsCs w Φ r ((cur.toList.drop (i * sz)).take sz) Br ∧
      (∀ (j : Nat) (r2 : List C), j ≠ i → rows[j]? = some r2 → ∃ Bj, (∀ b ∈ Bj, b ∈ X ++ Y) ∧ IsCs w Φ r2 ((cur.toList.drop (j * sz)).take sz) Bj) ∧
      ∀ (w' : World) (Φ' : Bool → Nat → Prop) (cur' : Array Value) (r' : List C) (Br' : List Nat), Keeps w w' Φ Φ' (X ++ Y) → w'.heap[g]? = some (.cells cur' e fz) → cur'.size = cur.size →
        (∀ j, j < i * sz ∨ i * sz + sz ≤ j → cur'[j]? = cur[j]?) → IsCs w' Φ' r' ((cur'.toList.drop (i * sz)).take sz) Br' → r'.length = sz →
        OwnSl w' sz (rows.set i r').length v (g :: (X ++ (Br' ++ Y))) (fun vs B' => IsCRows w' Φ' sz (rows.set i r') vs B') := by
    intro sz rows hri hO
    have hlt : i < rows.length := by
      rcases Nat.lt_or_ge i rows.length with h | h
      · exact h
      · simp [List.getElem?_eq_none h] at hri
    rcases hO with ⟨_, h2, _⟩ | ⟨g, cap, cur, e, fz, B', rfl, h2, h3, h4, h5, h6, rfl, h8⟩
    · omega
    · obtain ⟨X, Br, Y, rfl, e2, e3, e9, e4⟩ := IsCRows.focus rows cur.toList B' i r h8 hri
      refine ⟨g, cap, cur, e, fz, X, Br, Y, rfl, hlt, h4.2, h5, h2, h3, h6, rfl, e2, e3, e9, ?_⟩
      intro w' Φ' cur' r' Br' hk hg hsz hout hr' hl
      have e5 := e4 w' Φ' cur'.toList r' Br' hk (by intro j hj; simpa using hout j hj) hr' hl
      exact .inr ⟨g, cap, cur', e, fz, _, by simp, hg, by rw [hsz]; exact h3, by simpa using h4, h5, by rw [hsz]; exact h6, rfl, e5⟩
  cases x with
  | im b t => simp [C.row] at hr
  | hole => simp [C.row] at hr
  | own sz rows =>
    simp only [C.row] at hr
    simp only [IsC] at h
    obtain ⟨g, cap, cur, e, fz, X, Br, Y, e1, e2, e3, e4, e5, e6, e7, e8, e9, e10, e12, e11⟩ := main sz rows hr h
    refine ⟨g, rows.length, cap, cur, e, fz, X, Br, Y, sz, e1, rfl, rfl, e2, e3, e4, e5, e6, e7, e8, e9, e10, e12, ?_⟩
    intro w' Φ' cur' r' Br' x' hk hg hsz hout hr' hl hx'
    simp only [C.setRow, Option.some.injEq] at hx'
    subst hx'
    exact ⟨by simp only [IsC]; exact e11 w' Φ' cur' r' Br' hk hg hsz hout hr' hl, rfl, by simp [C.len]⟩
  | ow t =>
    cases t with
    | lit u => simp [C.row] at hr
    | sl sz rows =>
      simp only [C.row, Option.map_eq_some_iff] at hr
      obtain ⟨r0, hr0, rfl⟩ := hr
      simp only [IsC, IsO] at h
      have h' : OwnSl w sz (rows.map (·.map C.ow)).length v B (fun vs B' => IsCRows w Φ sz (rows.map (·.map C.ow)) vs B') := by
        rw [List.length_map]
        exact h.imp (fun _ _ => rfl) fun vs B' _ q => q.cells
      obtain ⟨g, cap, cur, e, fz, X, Br, Y, e1, e2, e3, e4, e5, e6, e7, e8, e9, e10, e12, e11⟩ := main sz _ (by simp [hr0]) h'
      rw [List.length_map] at e1 e2 e3
      refine ⟨g, rows.length, cap, cur, e, fz, X, Br, Y, sz, e1, rfl, rfl, e2, e3, e4, e5, e6, e7, e8, e9, e10, fun j r2 hj h2 => e12 j r2 hj (by simpa [C.row] using h2), ?_⟩
      intro w' Φ' cur' r' Br' x' hk hg hsz hout hr' hl hx'
      simp only [C.setRow] at hx'
      cases ho : ownedAll r' with
      | none =>
        rw [ho] at hx'
        simp only [Option.some.injEq] at hx'
        subst hx'
        exact ⟨by simp only [IsC]; exact e11 w' Φ' cur' r' Br' hk hg hsz hout hr' hl, rfl, by simp [C.len]⟩
      | some ts =>
        rw [ho] at hx'
        simp only [Option.some.injEq] at hx'
        subst hx'
        have q := e11 w' Φ' cur' (ts.map C.ow) Br' hk hg hsz hout (setRow_owned hr' ho) (by simpa using (ownedAll_length ho).trans hl)
        refine ⟨?_, rfl, by simp [C.len]⟩
        simp only [IsC, IsO]
        have hset : (rows.map (·.map C.ow)).set i (ts.map C.ow) = (rows.set i ts).map (·.map C.ow) := by rw [List.map_set]
        rw [hset, List.length_map] at q
        exact q.imp (fun _ _ => rfl) fun vs B' _ q' => IsORows.ofCells q'

end Go.Proofs.Ytmkhdnpnjjdgfaa.Ev
