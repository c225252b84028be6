/- A path into an object: where its row lies, and the object behind a write into that row. -/
import Derived.Test.YtmkhdnpnjjdgfaaFocus
set_option linter.unusedVariables false
set_option linter.unusedSimpArgs false
namespace Go.Proofs.Ytmkhdnpnjjdgfaa.Ev
open Go Go.RowKit

/-- One step of a path: the block, the offset, the row, its values. -/
def stepAt (w : World) (x : C) (v : Value) (i : Nat) : Option (Nat × Nat × List C × List Value) :=
  match x.row i, x.sz, v with
  | some r, some sz, .slice (some a) _ _ => match w.heap[a.block]? with
    | some (.cells cur _ _) => some (a.block, i * sz, r, (cur.toList.drop (i * sz)).take sz)
    | _ => none
  | _, _, _ => none

/-- The values of the row at a path. -/
def valsAt (w : World) : List C → List Value → List (Nat × Nat) → Option (List Value)
  | _, vs, [] => some vs
  | cs, vs, (c, i) :: p => match cs[c]?, vs[c]? with
    | some x, some v => match stepAt w x v i with
      | some (_, _, r, rv) => valsAt w r rv p
      | none => none
    | _, _ => none

/-- Where the row at a path lies. -/
def addrAt (w : World) : List C → List Value → List (Nat × Nat) → Option (Nat × Nat)
  | _, _, [] => none
  | cs, vs, (c, i) :: p => match cs[c]?, vs[c]? with
    | some x, some v => match stepAt w x v i with
      | some (g, o, r, rv) => match p with
        | [] => some (g, o)
        | q :: p => addrAt w r rv (q :: p)
      | none => none
    | _, _ => none

theorem setRow_cons {cs : List C} {c i : Nat} {p : List (Nat × Nat)} {new cs' : List C} {x : C} {r : List C} (hx : cs[c]? = some x) (hr : x.row i = some r) (h : setRow cs ((c, i) :: p) new = some cs') :
    ∃ r' x', setRow r p new = some r' ∧ x.setRow i r' = some x' ∧ cs' = cs.set c x' := by
  simp only [setRow, hx, hr] at h
  cases h1 : setRow r p new with
  | none => simp [h1] at h
  | some r' =>
    cases h2 : x.setRow i r' with
    | none => simp [h1, h2] at h
    | some x' =>
      simp only [h1, h2, Option.some.injEq] at h
      exact ⟨r', x', rfl, h2, h.symm⟩

theorem getRow_cons {cs : List C} {c i : Nat} {p : List (Nat × Nat)} {row : List C} (h : getRow cs ((c, i) :: p) = some row) : ∃ x r, cs[c]? = some x ∧ x.row i = some r ∧ getRow r p = some row := by
  simp only [getRow] at h
  cases h1 : cs[c]? with
  | none => simp [h1] at h
  | some x =>
    cases h2 : x.row i with
    | none => simp [h1, h2] at h
    | some r =>
      simp only [h1, h2] at h
      exact ⟨x, r, rfl, h2, h⟩

theorem setRow_length : ∀ {p : List (Nat × Nat)} {cs new cs' : List C}, p ≠ [] → setRow cs p new = some cs' → cs'.length = cs.length
  | [], _, _, _, hp, _ => absurd rfl hp
  | (c, i) :: p, cs, new, cs', _, h => by
    simp only [setRow] at h
    cases h1 : cs[c]? with
    | none => simp [h1] at h
    | some x =>
      cases h2 : x.row i with
      | none => simp [h1, h2] at h
      | some r =>
        cases h3 : setRow r p new with
        | none => simp [h1, h2, h3] at h
        | some r' =>
          cases h4 : x.setRow i r' with
          | none => simp [h1, h2, h3, h4] at h
          | some x' =>
            simp only [h1, h2, h3, h4, Option.some.injEq] at h
            subst h
            simp

/-- The world behind a write into one block: what else stands. -/
structure Wrote (w w' : World) (Φ Φ' : Bool → Nat → Prop) (L : List Nat) (g : Nat) : Prop where
  mono : ∀ x b, Φ x b → Φ' x b
  ro : ∀ x b, Φ x b → w'.heap[b]? = w.heap[b]?
  own : ∀ b ∈ L, b ≠ g → w'.heap[b]? = w.heap[b]?

theorem place {w : World} {Φ : Bool → Nat → Prop} : ∀ (p : List (Nat × Nat)) (cs : List C) (vs : List Value) (B : List Nat) (row : List C), IsCs w Φ cs vs B → B.Nodup → getRow cs p = some row → p ≠ [] →
    ∃ g o cur e fz X Br Y rv, addrAt w cs vs p = some (g, o) ∧ valsAt w cs vs p = some rv ∧ B = X ++ (Br ++ Y) ∧ g ∈ X ∧ w.heap[g]? = some (.cells cur e fz) ∧ (∀ j, j < cur.size → ¬(fz.1 ≤ j ∧ j < fz.2)) ∧ o + row.length ≤ cur.size ∧ rv = (cur.toList.drop o).take row.length ∧ IsCs w Φ row rv Br ∧
      ∀ (w' : World) (Φ' : Bool → Nat → Prop) (cur' : Array Value) (row' : List C) (Br' : List Nat) (cs' : List C), Wrote w w' Φ Φ' (X ++ Y) g → w'.heap[g]? = some (.cells cur' e fz) → cur'.size = cur.size →
        (∀ j, j < o ∨ o + row.length ≤ j → cur'[j]? = cur[j]?) → IsCs w' Φ' row' ((cur'.toList.drop o).take row.length) Br' → row'.length = row.length → setRow cs p row' = some cs' → IsCs w' Φ' cs' vs (X ++ (Br' ++ Y))
  | [], _, _, _, _, _, _, _, hp => absurd rfl hp
  | (c, i) :: p, cs, vs, B, row, h, hnd, hg, _ => by
    obtain ⟨x, r, hx, hr, hg'⟩ := getRow_cons hg
    obtain ⟨Xc, Bx, Yc, v, rfl, hv, hxv, _, hcl⟩ := IsCs.focus cs vs B c x h hx
    obtain ⟨g0, n, cap, cur, e, fz, X1, B1, Y1, sz, rfl, hsz, hn, hin, hnc, hcap, hheap, hfz, hcur, rfl, hrl, hrc, _, hrow⟩ := hxv.row hr
    have hstep : stepAt w x (.slice (some ⟨g0, 0, none⟩) n cap) i = some (g0, i * sz, r, (cur.toList.drop (i * sz)).take sz) := by
      simp [stepAt, hr, hsz, hheap]
    have hfit : i * sz + sz ≤ cur.size := by
      rw [hcur, ← Nat.succ_mul]
      exact Nat.mul_le_mul_right _ (by omega)
    cases p with
    | nil =>
      simp only [getRow, Option.some.injEq] at hg'
      subst hg'
      refine ⟨g0, i * sz, cur, e, fz, Xc ++ g0 :: X1, B1, Y1 ++ Yc, _, ?_, ?_, by simp [List.append_assoc], by simp, hheap, hfz, by rw [hrl]; exact hfit, by rw [hrl], hrc, ?_⟩
      · simp [addrAt, hx, hv, hstep]
      · simp [valsAt, hx, hv, hstep]
      · intro w' Φ' cur' row' Br' cs' hw hg2 hs2 hout hr' hl' hset
        obtain ⟨r', x', h1, h2, rfl⟩ := setRow_cons hx hr hset
        simp only [setRow, Option.some.injEq] at h1
        subst h1
        have hne : ∀ b ∈ Xc ++ (X1 ++ (Y1 ++ Yc)), b ≠ g0 := by
          intro b hb e
          subst e
          simp only [List.append_assoc, List.cons_append, List.nodup_append, List.nodup_cons, List.mem_append, List.mem_cons, ne_eq] at hnd hb
          obtain ⟨_, ⟨n1, _⟩, n2⟩ := hnd
          rcases hb with hb | hb | hb | hb
          · exact n2 b hb b (.inl rfl) rfl
          · exact n1 (.inl hb)
          · exact n1 (.inr (.inr (.inl hb)))
          · exact n1 (.inr (.inr (.inr hb)))
        have hk : Keeps w w' Φ Φ' (Xc ++ (X1 ++ (Y1 ++ Yc))) := ⟨hw.mono, hw.ro, fun b hb => hw.own b (by simp at hb ⊢; rcases hb with hb | hb | hb | hb <;> simp [hb]) (hne b hb)⟩
        rw [hrl] at hr'
        have q := hrow w' Φ' cur' row' Br' x' (hk.sub (by intro b hb; simp at hb ⊢; rcases hb with hb | hb <;> simp [hb])) hg2 hs2 (by intro j hj; exact hout j (by rw [hrl]; exact hj)) hr' (hl'.trans hrl) h2
        have q2 := hcl w' Φ' x' _ (hk.sub (by intro b hb; simp at hb ⊢; rcases hb with hb | hb <;> simp [hb])) q.1
        simpa [List.append_assoc] using q2
    | cons q0 p =>
      have hndr : B1.Nodup := by
        simp only [List.append_assoc, List.cons_append, List.nodup_append, List.nodup_cons] at hnd
        exact hnd.2.1.2.2.1.1
      obtain ⟨g, o, cur2, e2, fz2, X2, Br, Y2, rv, a1, a2, rfl, a4, a5, a6, a7, a8, a9, a10⟩ := place (q0 :: p) r _ B1 row hrc hndr hg' (by simp)
      refine ⟨g, o, cur2, e2, fz2, Xc ++ g0 :: (X1 ++ X2), Br, Y2 ++ (Y1 ++ Yc), rv, ?_, ?_, by simp [List.append_assoc], by simp [a4], a5, a6, a7, a8, a9, ?_⟩
      · simp [addrAt, hx, hv, hstep, a1]
      · rw [valsAt]; simp only [hx, hv, hstep]; exact a2
      · intro w' Φ' cur' row' Br' cs' hw hg2 hs2 hout hr' hl' hset
        obtain ⟨r', x', h1, h2, rfl⟩ := setRow_cons hx hr hset
        have hne : ∀ b ∈ Xc ++ (g0 :: (X1 ++ (Y1 ++ Yc))), b ≠ g := by
          intro b hb e
          subst e
          simp only [List.append_assoc, List.cons_append, List.nodup_append, List.nodup_cons, List.mem_append, List.mem_cons, ne_eq] at hnd hb
          obtain ⟨_, ⟨n1, ⟨_, ⟨n3, n4⟩⟩⟩, n2⟩ := hnd
          rcases hb with hb | hb | hb | hb | hb
          · exact n2 b hb b (.inr (.inr (.inl a4))) rfl
          · subst hb
            exact n1 (.inr (.inl a4))
          · exact n4 b hb b (.inl a4) rfl
          · exact n3.2.2 b a4 b (.inr (.inr (.inl hb))) rfl
          · exact n3.2.2 b a4 b (.inr (.inr (.inr hb))) rfl
        have hk : Keeps w w' Φ Φ' (Xc ++ (g0 :: (X1 ++ (Y1 ++ Yc)))) := ⟨hw.mono, hw.ro, fun b hb => hw.own b (by simp at hb ⊢; rcases hb with hb | hb | hb | hb | hb <;> simp [hb]) (hne b hb)⟩
        have q := a10 w' Φ' cur' row' Br' r' ⟨hw.mono, hw.ro, fun b hb => hw.own b (by simp at hb ⊢; rcases hb with hb | hb <;> simp [hb])⟩ hg2 hs2 hout hr' hl' h1
        have hg0 : w'.heap[g0]? = some (.cells cur e fz) := (hk.own g0 (by simp)).trans hheap
        have q1 := hrow w' Φ' cur r' _ x' (hk.sub (by intro b hb; simp at hb ⊢; rcases hb with hb | hb <;> simp [hb])) hg0 rfl (fun _ _ => rfl) q ((setRow_length (by simp) h1).trans hrl) h2
        have q2 := hcl w' Φ' x' _ (hk.sub (by intro b hb; simp at hb ⊢; rcases hb with hb | hb <;> simp [hb])) q1.1
        simpa [List.append_assoc] using q2

end Go.Proofs.Ytmkhdnpnjjdgfaa.Ev
