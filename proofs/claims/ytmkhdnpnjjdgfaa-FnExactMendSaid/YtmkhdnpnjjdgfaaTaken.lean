/- A value is taken with its memory; a value out of parts. -/
import Derived.Test.YtmkhdnpnjjdgfaaTake
set_option linter.unusedVariables false
set_option linter.unusedSimpArgs false
namespace Go.Proofs.Ytmkhdnpnjjdgfaa.Ev
open Go Go.RowKit

theorem litC_is {w : World} {Φ : Bool → Nat → Prop} {b : Bool} {t : T} {v : Value} (h : IsT w (Φ b) t v) : IsC w Φ (litC b t) v [] := by
  cases t with
  | lit x =>
    simp only [IsT] at h
    simp only [litC, IsC, IsO]
    exact ⟨h.1, h.2, trivial⟩
  | sl sz rows =>
    simp only [litC, IsC]
    exact ⟨trivial, h⟩

theorem litCs_is {w : World} {Φ : Bool → Nat → Prop} {b : Bool} : ∀ {ts : List T} {vs : List Value}, IsTs w (Φ b) ts vs → IsCs w Φ (ts.map (litC b)) vs []
  | [], vs, h => by simp only [IsTs] at h; simp only [List.map_nil, IsCs]; exact ⟨h, trivial⟩
  | t :: ts, vs, h => by
    simp only [IsTs] at h
    obtain ⟨v, vs', rfl, h2, h3⟩ := h
    simp only [List.map_cons, IsCs]
    exact ⟨v, vs', [], [], rfl, rfl, litC_is h2, litCs_is h3⟩

theorem vw_cells {w : World} {Φ : Bool → Nat → Prop} {cs : List C} {vals : List Value} {B : List Nat} {ag : Bool} {v : Value} (hc : IsCs w Φ cs vals B) (h : if ag then v = .agg vals.toArray else vals = [v]) : v.cells.toList = vals := by
  cases ag with
  | true =>
    simp only [if_true] at h
    subst h
    simp [Value.cells]
  | false =>
    simp only [Bool.false_eq_true, if_false] at h
    subst h
    cases cs with
    | nil => simp [IsCs] at hc
    | cons c cs =>
      simp only [IsCs] at hc
      obtain ⟨v', vs', B1, B2, e, _, hC, _⟩ := hc
      simp only [List.cons.injEq] at e
      rw [e.1]
      rw [one_cells hC.one]

theorem take_is {w : World} {Φ : Bool → Nat → Prop} {σ σ' : F} {tm : List Value} {ρ : Nat → List Value} {B : List Nat} (h : Rel w Φ σ tm ρ B) {s : S} {v : Value} {cs : List C} (ht : σ.take s = some (cs, σ')) (hs : SlotR w Φ σ.ob ρ s v) :
    ∃ B' L, Rel w Φ σ' tm ρ B' ∧ IsCs w Φ cs v.cells.toList L ∧ Loose w Φ B' L ∧ (∀ b ∈ B', b ∈ B) ∧ (∀ b ∈ L, b ∈ B) := by
  unfold F.take at ht
  split at ht
  · simp only [Option.some.injEq, Prod.mk.injEq] at ht
    obtain ⟨rfl, rfl⟩ := ht
    simp only [SlotR] at hs
    obtain ⟨rfl, h1⟩ := hs
    refine ⟨B, [], h, ?_, Loose.nil, fun _ h => h, by simp⟩
    rw [one_cells h1]
    simp only [IsCs, IsC, IsO]
    exact ⟨_, [], [], [], rfl, rfl, ⟨rfl, h1, rfl⟩, rfl, rfl⟩
  · simp only [Option.some.injEq, Prod.mk.injEq] at ht
    obtain ⟨rfl, rfl⟩ := ht
    simp only [SlotR] at hs
    refine ⟨B, [], h, ?_, Loose.nil, fun _ h => h, by simp⟩
    rw [one_cells hs.one]
    simp only [IsCs]
    exact ⟨_, [], [], [], rfl, rfl, litC_is hs, rfl, rfl⟩
  · simp only [Option.some.injEq, Prod.mk.injEq] at ht
    obtain ⟨rfl, rfl⟩ := ht
    simp only [SlotR] at hs
    obtain ⟨vs, rfl, h2⟩ := hs
    exact ⟨B, [], h, litCs_is h2, Loose.nil, fun _ h => h, by simp⟩
  · simp only [Option.some.injEq, Prod.mk.injEq] at ht
    obtain ⟨rfl, rfl⟩ := ht
    simp only [SlotR] at hs
    subst hs
    refine ⟨B, [], h, ?_, Loose.nil, fun _ h => h, by simp⟩
    rw [one_cells (one_slice _ _ _)]
    simp only [IsCs, IsC, IsO]
    exact ⟨_, [], [], [], rfl, rfl, .inl ⟨rfl, rfl, rfl⟩, rfl, rfl⟩
  · rename_i k p off n ag
    split at ht
    · rename_i o hl
      split at ht
      · rename_i cs0 hc
        simp only [SlotR] at hs
        obtain ⟨o1, vs, q1, q2, q3, q4⟩ := hs
        rw [hl] at q1; cases q1
        obtain ⟨o2, vs2, Bc, c1, c2, c3, c4, c5, c6, c7⟩ := h.cells hc
        rw [hl] at c1; cases c1
        rw [q2] at c2; cases c2
        have hcells := vw_cells c5 q4
        rw [hcells]
        split at ht
        · rename_i hf
          simp only [Option.some.injEq, Prod.mk.injEq] at ht
          obtain ⟨rfl, rfl⟩ := ht
          have := free_blocks c5 hf
          subst this
          exact ⟨B, [], h, c5, Loose.nil, fun _ h => h, by simp⟩
        · split at ht
          · rename_i hw
            simp only [Bool.and_eq_true, Bool.not_eq_true', List.isEmpty_iff, decide_eq_true_eq] at hw
            obtain ⟨⟨⟨_, rfl⟩, rfl⟩, rfl⟩ := hw
            simp only [Option.some.injEq, Prod.mk.injEq] at ht
            obtain ⟨rfl, rfl⟩ := ht
            obtain ⟨B', h1, h2, h3⟩ := h.del k
            obtain ⟨Bk, h4, h5, h6⟩ := h3 o hl
            obtain ⟨o3, r, d1, d2, d3, d4⟩ := cells_some hc
            rw [hl] at d1; cases d1
            simp only [getRow, Option.some.injEq] at d2
            subst d2
            simp only [valsAt, Option.some.injEq] at q2
            subst q2
            have e1 : cs0 = o.cells := by rw [d4]; simp
            have e2 : ((ρ k).drop 0).take o.cells.length = ρ k := by
              rw [List.drop_zero, ← h4.length, List.take_length]
            rw [e1, e2]
            exact ⟨B', Bk, h1, h4, h5, fun b hb => h2.subset hb, h6⟩
          · split at ht
            · cases ht
            · rename_i hp0
              simp only [List.isEmpty_iff] at hp0
              split at ht
              · rename_i r hr
                split at ht
                · rename_i cs' hset
                  simp only [Option.some.injEq, Prod.mk.injEq] at ht
                  obtain ⟨rfl, rfl⟩ := ht
                  obtain ⟨g, a, cur, et, fz, a1, a2, a3, a4, a5⟩ := c7 hp0
                  obtain ⟨o3, r', d1, d2, d3, d4⟩ := cells_some hc
                  rw [hl] at d1; cases d1
                  rw [hr] at d2; cases d2
                  have hlen : (cs0.map fun c => if c.free then c else C.hole).length = n := by simp [c6]
                  have hov := h.over (w' := w) (new := cs0.map fun c => if c.free then c else C.hole) (nv := (vs.drop off).take n) (L := []) hl hr hp0 (by rw [hlen]; exact d3) hset a1 a2 a2 rfl (fun _ _ => rfl) (by rw [hlen]; exact a5.symm) (fun _ _ => rfl) rfl (holes_is c5) Loose.nil
                  rw [hlen] at hov
                  obtain ⟨B', Y, vs', r1, r2, r3, r4, r5, r6, _⟩ := hov
                  rw [q2] at r2; cases r2
                  rw [← d4] at r3
                  exact ⟨B', Y, r1, r3, r4, fun b hb => (r5 b hb).elim (fun h => h) (by simp), r6⟩
                · cases ht
              · cases ht
      · cases ht
    · cases ht
  · cases ht

end Go.Proofs.Ytmkhdnpnjjdgfaa.Ev
