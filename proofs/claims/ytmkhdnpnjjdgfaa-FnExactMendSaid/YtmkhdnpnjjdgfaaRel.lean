/- What the evaluator's trees say of memory: read-only trees, owned trees, cells of objects; how they stand when the world goes on. -/
import Derived.Test.YtmkhdnpnjjdgfaaEval
import Derived.Laws.AppendOwn
import Derived.Below
set_option linter.unusedVariables false
set_option linter.unusedSimpArgs false
namespace Go.Proofs.Ytmkhdnpnjjdgfaa.Ev
open Go Go.RowKit

/-- A value of one cell. -/
def one (v : Value) : Prop := v.oneCell' = true

mutual
/-- A read-only tree, in blocks of φ. -/
def IsT (w : World) (φ : Nat → Prop) : T → Value → Prop
  | .lit x, v => v = x ∧ one x
  | .sl sz rows, v => ∃ a cap, v = .slice a rows.length cap ∧ rows.length ≤ cap ∧
      (rows = [] ∨ ∃ b o cur e fz, a = some ⟨b, o, none⟩ ∧ φ b ∧ w.heap[b]? = some (.cells cur e fz) ∧ IsTRows w φ sz rows (cur.toList.drop o))
def IsTs (w : World) (φ : Nat → Prop) : List T → List Value → Prop
  | [], vs => vs = []
  | t :: ts, vs => ∃ v vs', vs = v :: vs' ∧ IsT w φ t v ∧ IsTs w φ ts vs'
def IsTRows (w : World) (φ : Nat → Prop) (sz : Nat) : List (List T) → List Value → Prop
  | [], _ => True
  | r :: rs, vs => r.length = sz ∧ IsTs w φ r (vs.take sz) ∧ IsTRows w φ sz rs (vs.drop sz)
end

/-- An owned slice's frame: its block, and what lies within. -/
def OwnSl (w : World) (sz n : Nat) (v : Value) (B : List Nat) (R : List Value → List Nat → Prop) : Prop :=
  (v = .slice none 0 0 ∧ n = 0 ∧ B = []) ∨
  ∃ g cap cur e fz B', v = .slice (some ⟨g, 0, none⟩) n cap ∧ w.heap[g]? = some (.cells cur e fz) ∧ (∀ i, i < cur.size → ¬(fz.1 ≤ i ∧ i < fz.2)) ∧ (0 < sz ∧ n ≤ cap) ∧ cap ≤ maxLen ∧ cur.size = cap * sz ∧ B = g :: B' ∧ R cur.toList B'

mutual
/-- A tree all of whose memory is owned: its blocks, in order. -/
def IsO (w : World) : T → Value → List Nat → Prop
  | .lit x, v, B => v = x ∧ one x ∧ B = []
  | .sl sz rows, v, B => OwnSl w sz rows.length v B (fun vs B' => IsORows w sz rows vs B')
def IsOs (w : World) : List T → List Value → List Nat → Prop
  | [], vs, B => vs = [] ∧ B = []
  | t :: ts, vs, B => ∃ v vs' B1 B2, vs = v :: vs' ∧ B = B1 ++ B2 ∧ IsO w t v B1 ∧ IsOs w ts vs' B2
def IsORows (w : World) (sz : Nat) : List (List T) → List Value → List Nat → Prop
  | [], _, B => B = []
  | r :: rs, vs, B => ∃ B1 B2, B = B1 ++ B2 ∧ r.length = sz ∧ IsOs w r (vs.take sz) B1 ∧ IsORows w sz rs (vs.drop sz) B2
end

mutual
/-- A cell of an object. -/
def IsC (w : World) (Φ : Bool → Nat → Prop) : C → Value → List Nat → Prop
  | .im b t, v, B => B = [] ∧ IsT w (Φ b) t v
  | .ow t, v, B => IsO w t v B
  | .own sz rows, v, B => OwnSl w sz rows.length v B (fun vs B' => IsCRows w Φ sz rows vs B')
  | .hole, v, B => B = [] ∧ one v
def IsCs (w : World) (Φ : Bool → Nat → Prop) : List C → List Value → List Nat → Prop
  | [], vs, B => vs = [] ∧ B = []
  | c :: cs, vs, B => ∃ v vs' B1 B2, vs = v :: vs' ∧ B = B1 ++ B2 ∧ IsC w Φ c v B1 ∧ IsCs w Φ cs vs' B2
def IsCRows (w : World) (Φ : Bool → Nat → Prop) (sz : Nat) : List (List C) → List Value → List Nat → Prop
  | [], _, B => B = []
  | r :: rs, vs, B => ∃ B1 B2, B = B1 ++ B2 ∧ r.length = sz ∧ IsCs w Φ r (vs.take sz) B1 ∧ IsCRows w Φ sz rs (vs.drop sz) B2
end

theorem one_slice (a : Option Addr) (n c : Nat) : one (.slice a n c) := rfl

theorem OwnSl.imp {w w' : World} {sz n : Nat} {v : Value} {B : List Nat} {R R' : List Value → List Nat → Prop} (h : OwnSl w sz n v B R)
    (hw : ∀ b ∈ B, w'.heap[b]? = w.heap[b]?) (hR : ∀ vs B', (∀ b ∈ B', b ∈ B) → R vs B' → R' vs B') : OwnSl w' sz n v B R' := by
  rcases h with h | ⟨g, cap, cur, e, fz, B', h1, h2, h3, h4, h5, h6, rfl, h8⟩
  · exact .inl h
  · exact .inr ⟨g, cap, cur, e, fz, B', h1, (hw g (by simp)).trans h2, h3, h4, h5, h6, rfl, hR _ _ (fun b hb => by simp [hb]) h8⟩

mutual
theorem IsT.mono {w w' : World} {φ φ' : Nat → Prop} (hφ : ∀ b, φ b → φ' b) (hw : ∀ b, φ b → w'.heap[b]? = w.heap[b]?) : ∀ (t : T) (v : Value), IsT w φ t v → IsT w' φ' t v
  | .lit _, _, h => by simp only [IsT] at h ⊢; exact h
  | .sl sz rows, v, h => by
    simp only [IsT] at h ⊢
    obtain ⟨a, cap, h1, h2, h3⟩ := h
    refine ⟨a, cap, h1, h2, ?_⟩
    rcases h3 with h3 | ⟨b, o, cur, e, fz, h4, h5, h6, h7⟩
    · exact .inl h3
    · exact .inr ⟨b, o, cur, e, fz, h4, hφ b h5, (hw b h5).trans h6, IsTRows.mono hφ hw sz rows _ h7⟩
theorem IsTs.mono {w w' : World} {φ φ' : Nat → Prop} (hφ : ∀ b, φ b → φ' b) (hw : ∀ b, φ b → w'.heap[b]? = w.heap[b]?) : ∀ (ts : List T) (vs : List Value), IsTs w φ ts vs → IsTs w' φ' ts vs
  | [], _, h => by simp only [IsTs] at h ⊢; exact h
  | t :: ts, vs, h => by
    simp only [IsTs] at h ⊢
    obtain ⟨v, vs', h1, h2, h3⟩ := h
    exact ⟨v, vs', h1, IsT.mono hφ hw t v h2, IsTs.mono hφ hw ts vs' h3⟩
theorem IsTRows.mono {w w' : World} {φ φ' : Nat → Prop} (hφ : ∀ b, φ b → φ' b) (hw : ∀ b, φ b → w'.heap[b]? = w.heap[b]?) (sz : Nat) : ∀ (rs : List (List T)) (vs : List Value), IsTRows w φ sz rs vs → IsTRows w' φ' sz rs vs
  | [], _, h => by simp only [IsTRows]
  | r :: rs, vs, h => by
    simp only [IsTRows] at h ⊢
    exact ⟨h.1, IsTs.mono hφ hw r _ h.2.1, IsTRows.mono hφ hw sz rs _ h.2.2⟩
end

mutual
theorem IsO.stable {w w' : World} : ∀ (t : T) (v : Value) (B : List Nat), (∀ b ∈ B, w'.heap[b]? = w.heap[b]?) → IsO w t v B → IsO w' t v B
  | .lit _, _, _, _, h => by simp only [IsO] at h ⊢; exact h
  | .sl sz rows, v, B, hw, h => by
    simp only [IsO] at h ⊢
    exact h.imp hw fun vs B' hB h' => IsORows.stable sz rows vs B' (fun b hb => hw b (hB b hb)) h'
theorem IsOs.stable {w w' : World} : ∀ (ts : List T) (vs : List Value) (B : List Nat), (∀ b ∈ B, w'.heap[b]? = w.heap[b]?) → IsOs w ts vs B → IsOs w' ts vs B
  | [], _, _, _, h => by simp only [IsOs] at h ⊢; exact h
  | t :: ts, vs, B, hw, h => by
    simp only [IsOs] at h ⊢
    obtain ⟨v, vs', B1, B2, h1, rfl, h3, h4⟩ := h
    exact ⟨v, vs', B1, B2, h1, rfl, IsO.stable t v B1 (fun b hb => hw b (by simp [hb])) h3, IsOs.stable ts vs' B2 (fun b hb => hw b (by simp [hb])) h4⟩
theorem IsORows.stable {w w' : World} (sz : Nat) : ∀ (rs : List (List T)) (vs : List Value) (B : List Nat), (∀ b ∈ B, w'.heap[b]? = w.heap[b]?) → IsORows w sz rs vs B → IsORows w' sz rs vs B
  | [], _, _, _, h => by simp only [IsORows] at h ⊢; exact h
  | r :: rs, vs, B, hw, h => by
    simp only [IsORows] at h ⊢
    obtain ⟨B1, B2, rfl, h2, h3, h4⟩ := h
    exact ⟨B1, B2, rfl, h2, IsOs.stable r _ B1 (fun b hb => hw b (by simp [hb])) h3, IsORows.stable sz rs _ B2 (fun b hb => hw b (by simp [hb])) h4⟩
end

mutual
theorem IsC.stable {w w' : World} {Φ Φ' : Bool → Nat → Prop} (hφ : ∀ x b, Φ x b → Φ' x b) (hw0 : ∀ x b, Φ x b → w'.heap[b]? = w.heap[b]?) : ∀ (c : C) (v : Value) (B : List Nat), (∀ b ∈ B, w'.heap[b]? = w.heap[b]?) → IsC w Φ c v B → IsC w' Φ' c v B
  | .im x t, v, B, hw, h => by simp only [IsC] at h ⊢; exact ⟨h.1, IsT.mono (hφ x) (hw0 x) t v h.2⟩
  | .ow t, v, B, hw, h => by simp only [IsC] at h ⊢; exact IsO.stable t v B hw h
  | .own sz rows, v, B, hw, h => by
    simp only [IsC] at h ⊢
    exact h.imp hw fun vs B' hB h' => IsCRows.stable hφ hw0 sz rows vs B' (fun b hb => hw b (hB b hb)) h'
  | .hole, v, B, hw, h => by simp only [IsC] at h ⊢; exact h
theorem IsCs.stable {w w' : World} {Φ Φ' : Bool → Nat → Prop} (hφ : ∀ x b, Φ x b → Φ' x b) (hw0 : ∀ x b, Φ x b → w'.heap[b]? = w.heap[b]?) : ∀ (ts : List C) (vs : List Value) (B : List Nat), (∀ b ∈ B, w'.heap[b]? = w.heap[b]?) → IsCs w Φ ts vs B → IsCs w' Φ' ts vs B
  | [], _, _, _, h => by simp only [IsCs] at h ⊢; exact h
  | t :: ts, vs, B, hw, h => by
    simp only [IsCs] at h ⊢
    obtain ⟨v, vs', B1, B2, h1, rfl, h3, h4⟩ := h
    exact ⟨v, vs', B1, B2, h1, rfl, IsC.stable hφ hw0 t v B1 (fun b hb => hw b (by simp [hb])) h3, IsCs.stable hφ hw0 ts vs' B2 (fun b hb => hw b (by simp [hb])) h4⟩
theorem IsCRows.stable {w w' : World} {Φ Φ' : Bool → Nat → Prop} (hφ : ∀ x b, Φ x b → Φ' x b) (hw0 : ∀ x b, Φ x b → w'.heap[b]? = w.heap[b]?) (sz : Nat) : ∀ (rs : List (List C)) (vs : List Value) (B : List Nat), (∀ b ∈ B, w'.heap[b]? = w.heap[b]?) → IsCRows w Φ sz rs vs B → IsCRows w' Φ' sz rs vs B
  | [], _, _, _, h => by simp only [IsCRows] at h ⊢; exact h
  | r :: rs, vs, B, hw, h => by
    simp only [IsCRows] at h ⊢
    obtain ⟨B1, B2, rfl, h2, h3, h4⟩ := h
    exact ⟨B1, B2, rfl, h2, IsCs.stable hφ hw0 r _ B1 (fun b hb => hw b (by simp [hb])) h3, IsCRows.stable hφ hw0 sz rs _ B2 (fun b hb => hw b (by simp [hb])) h4⟩
end

theorem OwnSl.one {w : World} {sz n : Nat} {v : Value} {B : List Nat} {R : List Value → List Nat → Prop} (h : OwnSl w sz n v B R) : one v := by
  rcases h with ⟨rfl, _⟩ | ⟨g, cap, cur, e, fz, B', rfl, _⟩ <;> exact one_slice _ _ _

theorem IsT.one {w : World} {φ : Nat → Prop} {t : T} {v : Value} (h : IsT w φ t v) : one v := by
  cases t with
  | lit x => simp only [IsT] at h; rw [h.1]; exact h.2
  | sl sz rows => simp only [IsT] at h; obtain ⟨a, cap, rfl, _⟩ := h; exact one_slice _ _ _

theorem IsO.one {w : World} {t : T} {v : Value} {B : List Nat} (h : IsO w t v B) : one v := by
  cases t with
  | lit x => simp only [IsO] at h; rw [h.1]; exact h.2.1
  | sl sz rows => simp only [IsO] at h; exact OwnSl.one h

theorem IsC.one {w : World} {Φ : Bool → Nat → Prop} {c : C} {v : Value} {B : List Nat} (h : IsC w Φ c v B) : one v := by
  cases c with
  | im b t => simp only [IsC] at h; exact h.2.one
  | ow t => simp only [IsC] at h; exact h.one
  | own sz rows => simp only [IsC] at h; exact OwnSl.one h
  | hole => simp only [IsC] at h; exact h.2

theorem IsCs.length {w : World} {Φ : Bool → Nat → Prop} : ∀ {cs : List C} {vs : List Value} {B : List Nat}, IsCs w Φ cs vs B → vs.length = cs.length
  | [], _, _, h => by simp only [IsCs] at h; simp [h.1]
  | c :: cs, _, _, h => by
    simp only [IsCs] at h
    obtain ⟨v, vs', B1, B2, rfl, _, _, h4⟩ := h
    simp [h4.length]

theorem IsTs.length {w : World} {φ : Nat → Prop} : ∀ {ts : List T} {vs : List Value}, IsTs w φ ts vs → vs.length = ts.length
  | [], _, h => by simp only [IsTs] at h; simp [h]
  | c :: cs, _, h => by
    simp only [IsTs] at h
    obtain ⟨v, vs', rfl, _, h4⟩ := h
    simp [h4.length]

/-! ### owned, seen as read-only -/
mutual
theorem IsO.toT {w : World} {φ : Nat → Prop} : ∀ (t : T) (v : Value) (B : List Nat), (∀ b ∈ B, φ b) → IsO w t v B → IsT w φ t v
  | .lit _, _, _, _, h => by simp only [IsO] at h; simp only [IsT]; exact ⟨h.1, h.2.1⟩
  | .sl sz rows, v, B, hB, h => by
    simp only [IsO] at h
    simp only [IsT]
    rcases h with ⟨rfl, h2, rfl⟩ | ⟨g, cap, cur, e, fz, B', rfl, h2, h3, h4, h5, h6, rfl, h8⟩
    · have : rows = [] := List.length_eq_zero_iff.mp h2
      exact ⟨none, 0, by simp [this], by simp [this], .inl this⟩
    · exact ⟨_, cap, rfl, h4.2, .inr ⟨g, 0, cur, e, fz, rfl, hB g (by simp), h2, IsORows.toT sz rows _ B' (fun b hb => hB b (by simp [hb])) h8⟩⟩
theorem IsOs.toT {w : World} {φ : Nat → Prop} : ∀ (ts : List T) (vs : List Value) (B : List Nat), (∀ b ∈ B, φ b) → IsOs w ts vs B → IsTs w φ ts vs
  | [], _, _, _, h => by simp only [IsOs] at h; simp only [IsTs]; exact h.1
  | t :: ts, vs, B, hB, h => by
    simp only [IsOs] at h
    simp only [IsTs]
    obtain ⟨v, vs', B1, B2, h1, rfl, h3, h4⟩ := h
    exact ⟨v, vs', h1, IsO.toT t v B1 (fun b hb => hB b (by simp [hb])) h3, IsOs.toT ts vs' B2 (fun b hb => hB b (by simp [hb])) h4⟩
theorem IsORows.toT {w : World} {φ : Nat → Prop} (sz : Nat) : ∀ (rs : List (List T)) (vs : List Value) (B : List Nat), (∀ b ∈ B, φ b) → IsORows w sz rs vs B → IsTRows w φ sz rs (vs.drop 0)
  | [], _, _, _, h => by simp only [IsTRows]
  | r :: rs, vs, B, hB, h => by
    simp only [IsORows] at h
    simp only [List.drop_zero, IsTRows]
    obtain ⟨B1, B2, rfl, h2, h3, h4⟩ := h
    have := IsORows.toT sz rs (vs.drop sz) B2 (fun b hb => hB b (by simp [hb])) h4
    simp only [List.drop_zero] at this
    exact ⟨h2, IsOs.toT r _ B1 (fun b hb => hB b (by simp [hb])) h3, this⟩
end

theorem cellsToT_length : ∀ {cs : List C} {ts : List T}, cellsToT cs = some ts → ts.length = cs.length
  | [], ts, h => by simp only [cellsToT, Option.some.injEq] at h; subst h; rfl
  | c :: cs, ts, h => by
    simp only [cellsToT] at h
    cases h1 : c.toT with
    | none => simp [h1] at h
    | some t =>
      cases h2 : cellsToT cs with
      | none => simp [h1, h2] at h
      | some ts' =>
        simp only [h1, h2, Option.some.injEq] at h
        subst h
        simp [cellsToT_length h2]

theorem rowsToT_length : ∀ {rs : List (List C)} {ts : List (List T)}, rowsToT rs = some ts → ts.length = rs.length
  | [], ts, h => by simp only [rowsToT, Option.some.injEq] at h; subst h; rfl
  | r :: rs, ts, h => by
    simp only [rowsToT] at h
    cases h1 : cellsToT r with
    | none => simp [h1] at h
    | some t =>
      cases h2 : rowsToT rs with
      | none => simp [h1, h2] at h
      | some ts' =>
        simp only [h1, h2, Option.some.injEq] at h
        subst h
        simp [rowsToT_length h2]

mutual
theorem IsC.toT {w : World} {Φ : Bool → Nat → Prop} {φ : Nat → Prop} (hΦ : ∀ x b, Φ x b → φ b) : ∀ (c : C) (t : T) (v : Value) (B : List Nat), c.toT = some t → (∀ b ∈ B, φ b) → IsC w Φ c v B → IsT w φ t v
  | .im x t0, t, v, B, ht, hB, h => by
    simp only [C.toT, Option.some.injEq] at ht
    subst ht
    simp only [IsC] at h
    exact IsT.mono (hΦ x) (fun _ _ => rfl) _ _ h.2
  | .ow t0, t, v, B, ht, hB, h => by
    simp only [C.toT, Option.some.injEq] at ht
    subst ht
    simp only [IsC] at h
    exact IsO.toT _ _ _ hB h
  | .own sz rows, t, v, B, ht, hB, h => by
    simp only [C.toT, Option.map_eq_some_iff] at ht
    obtain ⟨rs, hr, rfl⟩ := ht
    simp only [IsC] at h
    simp only [IsT]
    have hl : rs.length = rows.length := rowsToT_length hr
    rcases h with ⟨rfl, h2, rfl⟩ | ⟨g, cap, cur, e, fz, B', rfl, h2, h3, h4, h5, h6, rfl, h8⟩
    · have : rs = [] := List.length_eq_zero_iff.mp (hl.trans h2)
      exact ⟨none, 0, by simp [this], by simp [this], .inl this⟩
    · have := IsCRows.toT hΦ sz rows rs _ B' hr (fun b hb => hB b (by simp [hb])) h8
      exact ⟨_, cap, by rw [hl], by rw [hl]; exact h4.2, .inr ⟨g, 0, cur, e, fz, rfl, hB g (by simp), h2, this⟩⟩
  | .hole, t, v, B, ht, _, _ => by simp [C.toT] at ht
theorem IsCs.toT {w : World} {Φ : Bool → Nat → Prop} {φ : Nat → Prop} (hΦ : ∀ x b, Φ x b → φ b) : ∀ (cs : List C) (ts : List T) (vs : List Value) (B : List Nat), cellsToT cs = some ts → (∀ b ∈ B, φ b) → IsCs w Φ cs vs B → IsTs w φ ts vs
  | [], ts, vs, B, ht, hB, h => by
    simp only [cellsToT, Option.some.injEq] at ht
    subst ht
    simp only [IsCs] at h
    simp only [IsTs]
    exact h.1
  | c :: cs, ts, vs, B, ht, hB, h => by
    simp only [cellsToT] at ht
    cases h1 : c.toT with
    | none => simp [h1] at ht
    | some t =>
      cases h2 : cellsToT cs with
      | none => simp [h1, h2] at ht
      | some ts' =>
        simp only [h1, h2, Option.some.injEq] at ht
        subst ht
        simp only [IsCs] at h
        obtain ⟨v, vs', B1, B2, rfl, rfl, h3, h4⟩ := h
        simp only [IsTs]
        exact ⟨v, vs', rfl, IsC.toT hΦ c t v B1 h1 (fun b hb => hB b (by simp [hb])) h3, IsCs.toT hΦ cs ts' vs' B2 h2 (fun b hb => hB b (by simp [hb])) h4⟩
theorem IsCRows.toT {w : World} {Φ : Bool → Nat → Prop} {φ : Nat → Prop} (hΦ : ∀ x b, Φ x b → φ b) (sz : Nat) : ∀ (rs : List (List C)) (ts : List (List T)) (vs : List Value) (B : List Nat), rowsToT rs = some ts → (∀ b ∈ B, φ b) → IsCRows w Φ sz rs vs B → IsTRows w φ sz ts (vs.drop 0)
  | [], ts, vs, B, ht, hB, h => by
    simp only [rowsToT, Option.some.injEq] at ht
    subst ht
    simp only [IsTRows]
  | r :: rs, ts, vs, B, ht, hB, h => by
    simp only [rowsToT] at ht
    cases h1 : cellsToT r with
    | none => simp [h1] at ht
    | some t =>
      cases h2 : rowsToT rs with
      | none => simp [h1, h2] at ht
      | some ts' =>
        simp only [h1, h2, Option.some.injEq] at ht
        subst ht
        simp only [IsCRows] at h
        obtain ⟨B1, B2, rfl, h5, h6, h7⟩ := h
        have a1 := IsCs.toT hΦ r t _ B1 h1 (fun b hb => hB b (by simp [hb])) h6
        have a2 := IsCRows.toT hΦ sz rs ts' (vs.drop sz) B2 h2 (fun b hb => hB b (by simp [hb])) h7
        simp only [List.drop_zero] at a2
        simp only [List.drop_zero, IsTRows]
        exact ⟨(cellsToT_length h1).trans h5, a1, a2⟩
end

end Go.Proofs.Ytmkhdnpnjjdgfaa.Ev
