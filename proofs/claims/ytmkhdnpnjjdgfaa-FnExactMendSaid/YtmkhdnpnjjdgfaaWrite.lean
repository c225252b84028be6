/- A write into a row of an object: every path that does not lead through what is overwritten reads as it did. -/
import Derived.Test.YtmkhdnpnjjdgfaaSlot
set_option linter.unusedVariables false
set_option linter.unusedSimpArgs false
namespace Go.Proofs.Ytmkhdnpnjjdgfaa.Ev
open Go Go.RowKit

/-- What a path reads from one cell on. -/
def vCell (w : World) (x : C) (v : Value) (i : Nat) (p : List (Nat × Nat)) : Option (List Value) :=
  match stepAt w x v i with
  | some (_, _, r, rv) => valsAt w r rv p
  | none => none

def aCell (w : World) (x : C) (v : Value) (i : Nat) (p : List (Nat × Nat)) : Option (Nat × Nat) :=
  match stepAt w x v i with
  | some (g, o, r, rv) => match p with
    | [] => some (g, o)
    | q :: p => addrAt w r rv (q :: p)
  | none => none

theorem valsAt_cell {w : World} {cs : List C} {vs : List Value} {c i : Nat} {p : List (Nat × Nat)} : valsAt w cs vs ((c, i) :: p) = match cs[c]?, vs[c]? with | some x, some v => vCell w x v i p | _, _ => none := rfl
theorem addrAt_cell {w : World} {cs : List C} {vs : List Value} {c i : Nat} {p : List (Nat × Nat)} : addrAt w cs vs ((c, i) :: p) = match cs[c]?, vs[c]? with | some x, some v => aCell w x v i p | _, _ => none := by
  rw [addrAt]; rfl

theorem cell_keep {w w' : World} {Φ : Bool → Nat → Prop} {x : C} {v : Value} {B : List Nat} (h : IsC w Φ x v B) (hk : ∀ b ∈ B, w'.heap[b]? = w.heap[b]?) (i : Nat) (p : List (Nat × Nat)) : vCell w' x v i p = vCell w x v i p ∧ aCell w' x v i p = aCell w x v i p := by
  have hcs : IsCs w Φ [x] [v] B := by
    simp only [IsCs]
    exact ⟨v, [], B, [], rfl, by simp, h, rfl, rfl⟩
  have := path_keep (w' := w') ((0, i) :: p) [x] [v] B hcs hk
  rw [valsAt_cell, valsAt_cell, addrAt_cell, addrAt_cell] at this
  exact this

/-- Another list of values, alike at one cell, and alike cells. -/
theorem row_keep {w w' : World} {Φ : Bool → Nat → Prop} {r r' : List C} {rv rv' : List Value} {B : List Nat} (h : IsCs w Φ r rv B) (hk : ∀ b ∈ B, w'.heap[b]? = w.heap[b]?) {c i : Nat} {p : List (Nat × Nat)} (hc : r'[c]? = r[c]?) (hv : rv'[c]? = rv[c]?) :
    valsAt w' r' rv' ((c, i) :: p) = valsAt w r rv ((c, i) :: p) ∧ addrAt w' r' rv' ((c, i) :: p) = addrAt w r rv ((c, i) :: p) := by
  rw [valsAt_cell, valsAt_cell, addrAt_cell, addrAt_cell, hc, hv]
  cases hx : r[c]? with
  | none => exact ⟨rfl, rfl⟩
  | some x =>
    cases hv2 : rv[c]? with
    | none => exact ⟨rfl, rfl⟩
    | some v =>
      obtain ⟨Bx, h1, h2⟩ := h.at_ hx hv2
      exact cell_keep h2 (fun b hb => hk b (h1 b hb)) i p

theorem setRange_get {row new : List C} {off c : Nat} (h : off + new.length ≤ row.length) (hc : ¬(off ≤ c ∧ c < off + new.length)) : (setRange row off new)[c]? = row[c]? := by
  unfold setRange
  rcases Nat.lt_or_ge c off with h1 | h1
  · rw [List.append_assoc, List.getElem?_append_left (by simp; omega), List.getElem?_take, if_pos h1]
  · have h2 : off + new.length ≤ c := by omega
    rw [List.getElem?_append_right (by simp; omega), List.getElem?_drop]
    congr 1
    simp
    omega

theorem setRange_length {row new : List C} {off : Nat} (h : off + new.length ≤ row.length) : (setRange row off new).length = row.length := by
  unfold setRange
  simp
  omega

theorem slice_ext {cur cur' : Array Value} {a n o m : Nat} (h : ∀ j, j < o ∨ m ≤ j → cur'[j]? = cur[j]?) (hd : a + n ≤ o ∨ m ≤ a) : (cur'.toList.drop a).take n = (cur.toList.drop a).take n := by
  apply List.ext_getElem?
  intro j
  rw [List.getElem?_take, List.getElem?_take]
  split
  · rw [List.getElem?_drop, List.getElem?_drop]
    simpa using h (a + j) (by omega)
  · rfl

theorem write_path {w w' : World} {Φ : Bool → Nat → Prop} {e : TypeId} {fz : Nat × Nat} {g : Nat} {cur cur' : Array Value} (hg : w.heap[g]? = some (.cells cur e fz)) (hg' : w'.heap[g]? = some (.cells cur' e fz)) (hsize : cur'.size = cur.size) {off : Nat} {new : List C} :
    ∀ (p : List (Nat × Nat)) (cs : List C) (vs : List Value) (B : List Nat) (row : List C) (o : Nat) (cs' : List C), IsCs w Φ cs vs B → B.Nodup → getRow cs p = some row → p ≠ [] → addrAt w cs vs p = some (g, o) →
      (∀ j, j < o + off ∨ o + off + new.length ≤ j → cur'[j]? = cur[j]?) → (∀ b ∈ B, b ≠ g → w'.heap[b]? = w.heap[b]?) → off + new.length ≤ row.length → setRow cs p (setRange row off new) = some cs' →
      (∀ q, through p off new.length q = false → addrAt w' cs' vs q = addrAt w cs vs q ∧ (q ≠ p → valsAt w' cs' vs q = valsAt w cs vs q)) ∧ valsAt w' cs' vs p = some ((cur'.toList.drop o).take row.length)
  | [], _, _, _, _, _, _, _, _, _, hp, _, _, _, _, _ => absurd rfl hp
  | (c, i) :: p, cs, vs, B, row, o, cs', h, hnd, hrow, _, haddr, hout, hkeep, hfit, hset => by
    obtain ⟨x, r, hx, hr, hrow'⟩ := getRow_cons hrow
    obtain ⟨Xc, Bx, Yc, v, rfl, hv, hxv, hother, _⟩ := IsCs.focus cs vs B c x h hx
    obtain ⟨g0, n, cap, cur0, e0, fz0, X1, B1, Y1, sz, rfl, hsz, hn, hin, hnc, hcap, hheap, hfz, hcur, rfl, hrl, hrc, hrows, _⟩ := hxv.row hr
    obtain ⟨r', x', hset', hx', rfl⟩ := setRow_cons hx hr hset
    have hstep : stepAt w x (.slice (some ⟨g0, 0, none⟩) n cap) i = some (g0, i * sz, r, (cur0.toList.drop (i * sz)).take sz) := by
      simp [stepAt, hr, hsz, hheap]
    obtain ⟨r2, hr2, hr2'⟩ := setRow_same hx' hr
    have hsz' : x'.sz = some sz := (setRow_sz hx').trans hsz
    have hclt : c < cs.length := by
      rcases Nat.lt_or_ge c cs.length with h | h
      · exact h
      · simp [List.getElem?_eq_none h] at hx
    have hcsc : (cs.set c x')[c]? = some x' := by simp [hclt]
    have hr2v : ∀ rv q, valsAt w' r2 rv q = valsAt w' r' rv q ∧ addrAt w' r2 rv q = addrAt w' r' rv q := by
      intro rv q
      rcases hr2' with rfl | ⟨ts, hts, rfl⟩
      · exact ⟨rfl, rfl⟩
      · exact path_owned q r' ts rv hts
    -- where g lies
    have hgin : (p = [] ∧ g = g0 ∧ o = i * sz) ∨ (p ≠ [] ∧ g ∈ B1 ∧ addrAt w r ((cur0.toList.drop (i * sz)).take sz) p = some (g, o)) := by
      rw [addrAt_cell, hx, hv] at haddr
      simp only [aCell, hstep] at haddr
      cases p with
      | nil =>
        simp only [Option.some.injEq, Prod.mk.injEq] at haddr
        exact .inl ⟨rfl, haddr.1.symm, haddr.2.symm⟩
      | cons q0 p =>
        simp only at haddr
        have hndr : B1.Nodup := by
          simp only [List.append_assoc, List.cons_append, List.nodup_append, List.nodup_cons] at hnd
          exact hnd.2.1.2.2.1.1
        obtain ⟨g9, o9, cur9, e9, fz9, X9, Br9, Y9, rv9, a1, _, rfl, a4, _⟩ := place (q0 :: p) r _ B1 row hrc hndr hrow' (by simp)
        rw [a1] at haddr
        simp only [Option.some.injEq, Prod.mk.injEq] at haddr
        obtain ⟨rfl, rfl⟩ := haddr
        exact .inr ⟨by simp, by simp [a4], a1⟩
    have hgB : g = g0 ∨ g ∈ B1 := by rcases hgin with h | h; exact .inl h.2.1; exact .inr h.2.1
    -- blocks beside
    have hside : ∀ b, (b ∈ Xc ++ Yc ∨ b ∈ X1 ++ Y1) → w'.heap[b]? = w.heap[b]? := by
      intro b hb
      refine hkeep b (by simp at hb ⊢; rcases hb with (hb | hb) | (hb | hb) <;> simp [hb]) ?_
      rintro rfl
      simp only [List.append_assoc, List.cons_append, List.nodup_append, List.nodup_cons, List.mem_append, List.mem_cons, ne_eq] at hnd hb
      obtain ⟨_, ⟨n1, ⟨_, ⟨n3, n4⟩⟩⟩, n2⟩ := hnd
      rcases hgB with h9 | h9
      · subst h9
        rcases hb with (hb | hb) | (hb | hb)
        · exact n2 _ hb _ (.inl rfl) rfl
        · exact n1 (.inr (.inr (.inr hb)))
        · exact n1 (.inl hb)
        · exact n1 (.inr (.inr (.inl hb)))
      · rcases hb with (hb | hb) | (hb | hb)
        · exact n2 _ hb _ (.inr (.inr (.inl h9))) rfl
        · exact n3.2.2 _ h9 _ (.inr hb) rfl
        · exact n4 _ hb _ (.inl h9) rfl
        · exact n3.2.2 _ h9 _ (.inl hb) rfl
    -- the block of this cell
    have hg0 : ∃ c0' , w'.heap[g0]? = some (.cells c0' e0 fz0) ∧ c0'.size = cur0.size ∧ (∀ j, j < i * sz ∨ i * sz + sz ≤ j → c0'[j]? = cur0[j]?) ∧ (p = [] → c0' = cur') ∧ (p ≠ [] → c0' = cur0) := by
      rcases hgin with ⟨hp, rfl, rfl⟩ | ⟨hp, hgm, _⟩
      · have e1 := hheap.symm.trans hg
        simp only [Option.some.injEq, Obj.cells.injEq] at e1
        obtain ⟨rfl, rfl, rfl⟩ := e1
        subst hp
        simp only [getRow, Option.some.injEq] at hrow'
        subst hrow'
        exact ⟨cur', hg', hsize, fun j hj => hout j (by omega), fun _ => rfl, fun h => absurd rfl h⟩
      · have hne : g0 ≠ g := by
          rintro rfl
          simp only [List.append_assoc, List.cons_append, List.nodup_append, List.nodup_cons, List.mem_append, List.mem_cons, ne_eq] at hnd
          exact hnd.2.1.1 (.inr (.inl hgm))
        exact ⟨cur0, (hkeep g0 (by simp) hne).trans hheap, rfl, fun _ _ => rfl, fun h => absurd h hp, fun _ => rfl⟩
    obtain ⟨c0', hc0, hcs0, hcout, hcn, hcc⟩ := hg0
    have hstep' : ∀ j r3, x'.row j = some r3 → stepAt w' x' (.slice (some ⟨g0, 0, none⟩) n cap) j = some (g0, j * sz, r3, (c0'.toList.drop (j * sz)).take sz) := by
      intro j r3 h3
      simp [stepAt, h3, hsz', hc0]
    have hstepj : ∀ j r3, x.row j = some r3 → stepAt w x (.slice (some ⟨g0, 0, none⟩) n cap) j = some (g0, j * sz, r3, (cur0.toList.drop (j * sz)).take sz) := by
      intro j r3 h3
      simp [stepAt, h3, hsz, hheap]
    have hndr : B1.Nodup := by
      simp only [List.append_assoc, List.cons_append, List.nodup_append, List.nodup_cons] at hnd
      exact hnd.2.1.2.2.1.1
    have ih : p ≠ [] → (∀ q, through p off new.length q = false → addrAt w' r' ((cur0.toList.drop (i * sz)).take sz) q = addrAt w r ((cur0.toList.drop (i * sz)).take sz) q ∧ (q ≠ p → valsAt w' r' ((cur0.toList.drop (i * sz)).take sz) q = valsAt w r ((cur0.toList.drop (i * sz)).take sz) q)) ∧ valsAt w' r' ((cur0.toList.drop (i * sz)).take sz) p = some ((cur'.toList.drop o).take row.length) := by
      intro hp
      rcases hgin with ⟨hp', _⟩ | ⟨_, _, ha⟩
      · exact absurd hp' hp
      · exact write_path hg hg' hsize p r _ B1 row o r' hrc hndr hrow' hp ha hout (fun b hb hne => hkeep b (by simp [hb]) hne) hfit hset'
    constructor
    · intro q hq
      cases q with
      | nil => exact ⟨rfl, fun _ => rfl⟩
      | cons q0 q =>
        obtain ⟨c2, i2⟩ := q0
        by_cases hc : c2 = c
        · subst hc
          by_cases hi : i2 = i
          · subst hi
            have hq' : through p off new.length q = false := by simpa [through] using hq
            rw [addrAt_cell, addrAt_cell, valsAt_cell, valsAt_cell, hcsc, hx, hv]
            simp only [aCell, vCell, hstep' _ _ hr2, hstep]
            cases hpe : p with
            | nil =>
              subst hpe
              simp only [getRow, Option.some.injEq] at hrow'
              subst hrow'
              simp only [setRow, Option.some.injEq] at hset'
              cases q with
              | nil => exact ⟨rfl, fun h => absurd rfl h⟩
              | cons q1 q =>
                obtain ⟨c3, i3⟩ := q1
                simp only [through, Bool.and_eq_false_imp, decide_eq_true_eq, decide_eq_false_iff_not] at hq'
                have hnr : ¬(off ≤ c3 ∧ c3 < off + new.length) := fun h => hq' h.1 h.2
                rw [(hr2v _ _).1]
                show addrAt w' r2 _ _ = addrAt w r _ _ ∧ _
                rw [(hr2v _ _).2]
                rcases hgin with ⟨_, rfl, rfl⟩ | ⟨h, _⟩
                · have hB1 : ∀ b ∈ B1, w'.heap[b]? = w.heap[b]? := by
                    intro b hb
                    refine hkeep b (by simp [hb]) ?_
                    rintro rfl
                    simp only [List.append_assoc, List.cons_append, List.nodup_append, List.nodup_cons, List.mem_append, List.mem_cons, ne_eq] at hnd
                    exact hnd.2.1.1 (.inr (.inl hb))
                  have := row_keep (r' := r') (rv' := (c0'.toList.drop (i2 * sz)).take sz) hrc hB1 (c := c3) (i := i3) (p := q) (by rw [← hset']; exact setRange_get hfit hnr) (by
                    rw [List.getElem?_take, List.getElem?_take]
                    split
                    · rw [List.getElem?_drop, List.getElem?_drop, hcn rfl]
                      have e1 := hheap.symm.trans hg
                      simp only [Option.some.injEq, Obj.cells.injEq] at e1
                      obtain ⟨rfl, _, _⟩ := e1
                      simpa using hout (i2 * sz + c3) (by omega)
                    · rfl)
                  exact ⟨this.2, fun _ => this.1⟩
                · exact absurd rfl h
            | cons p0 p1 =>
              have hp : p ≠ [] := by rw [hpe]; simp
              rw [← hpe]
              have ihq := (ih hp).1 q hq'
              rw [hcc hp, (hr2v _ _).1]
              refine ⟨?_, fun hne => ihq.2 (fun e => hne (by rw [e]))⟩
              cases q with
              | nil => rfl
              | cons q1 q =>
                simp only
                rw [(hr2v _ _).2]
                exact ihq.1
          · rw [addrAt_cell, addrAt_cell, valsAt_cell, valsAt_cell, hcsc, hx, hv]
            have hrow2 := setRow_row hx' hi
            simp only [aCell, vCell]
            cases h3 : x.row i2 with
            | none =>
              have e1 : stepAt w x (.slice (some ⟨g0, 0, none⟩) n cap) i2 = none := by simp [stepAt, h3]
              have e2 : stepAt w' x' (.slice (some ⟨g0, 0, none⟩) n cap) i2 = none := by simp [stepAt, hrow2, h3]
              simp only [e1, e2]
              exact ⟨trivial, fun _ => trivial⟩
            | some r3 =>
              rw [hstep' i2 r3 (hrow2.trans h3), hstepj i2 r3 h3]
              simp only
              obtain ⟨Bj, hBj, hrj⟩ := hrows i2 r3 hi h3
              have hd : i2 * sz + sz ≤ i * sz ∨ i * sz + sz ≤ i2 * sz := by
                rcases Nat.lt_or_gt_of_ne hi with h | h
                · left; rw [← Nat.succ_mul]; exact Nat.mul_le_mul_right _ h
                · right; rw [← Nat.succ_mul]; exact Nat.mul_le_mul_right _ h
              rw [slice_ext (cur := cur0) (cur' := c0') (a := i2 * sz) (n := sz) hcout hd]
              have := path_keep (w' := w') q r3 _ Bj hrj (fun b hb => hside b (.inr (hBj b hb)))
              refine ⟨?_, fun _ => this.1⟩
              cases q with
              | nil => rfl
              | cons q1 q => exact this.2
        · rw [addrAt_cell, addrAt_cell, valsAt_cell, valsAt_cell]
          have hcc2 : (cs.set c x')[c2]? = cs[c2]? := List.getElem?_set_ne (fun e => hc e.symm)
          rw [hcc2]
          cases hx2 : cs[c2]? with
          | none => exact ⟨rfl, fun _ => rfl⟩
          | some x2 =>
            cases hv2 : vs[c2]? with
            | none => exact ⟨rfl, fun _ => rfl⟩
            | some v2 =>
              obtain ⟨Bj, hBj, hxj⟩ := hother c2 x2 v2 hc hx2 hv2
              have := cell_keep hxj (w' := w') (fun b hb => hside b (.inl (hBj b hb))) i2 q
              exact ⟨this.2, fun _ => this.1⟩
    · rw [valsAt_cell, hcsc, hv]
      simp only [vCell, hstep' _ _ hr2]
      rw [(hr2v _ _).1]
      cases hpe : p with
      | nil =>
        subst hpe
        simp only [getRow, Option.some.injEq] at hrow'
        subst hrow'
        rcases hgin with ⟨_, rfl, rfl⟩ | ⟨h, _⟩
        · rw [valsAt, hcn rfl, hrl]
        · exact absurd rfl h
      | cons p0 p1 =>
        have hp : p ≠ [] := by rw [hpe]; simp
        rw [← hpe, hcc hp]
        exact (ih hp).2

end Go.Proofs.Ytmkhdnpnjjdgfaa.Ev
