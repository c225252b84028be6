/- Objects made, dropped, taken out of their places. -/
import Derived.Test.YtmkhdnpnjjdgfaaValue
set_option linter.unusedVariables false
set_option linter.unusedSimpArgs false
namespace Go.Proofs.Ytmkhdnpnjjdgfaa.Ev
open Go Go.RowKit

/-- Blocks that are in nobody's hands. -/
structure Loose (w : World) (Φ : Bool → Nat → Prop) (B L : List Nat) : Prop where
  nd : L.Nodup
  apart : ∀ b ∈ L, b ∉ B
  lt : ∀ b ∈ L, b < w.heap.size
  disj : ∀ b ∈ L, ∀ x, ¬Φ x b

theorem Loose.nil {w : World} {Φ : Bool → Nat → Prop} {B : List Nat} : Loose w Φ B [] := ⟨List.nodup_nil, by simp, by simp, by simp⟩

theorem Loose.sub {w : World} {Φ : Bool → Nat → Prop} {B B' L : List Nat} (h : Loose w Φ B L) (hs : ∀ b ∈ B', b ∈ B) : Loose w Φ B' L := ⟨h.nd, fun b hb hb' => h.apart b hb (hs b hb'), h.lt, h.disj⟩

theorem Rel.keep {w w' : World} {Φ : Bool → Nat → Prop} {σ : F} {tm : List Value} {ρ : Nat → List Value} {B : List Nat} (h : Rel w Φ σ tm ρ B) (hk : Keeps w w' Φ Φ B) (hsz : w.heap.size ≤ w'.heap.size) : Rel w' Φ σ tm ρ B where
  obs := h.obs.keep hk (fun _ _ => rfl)
  nd := h.nd
  keys := h.keys
  disj := h.disj
  lt b hb := Nat.lt_of_lt_of_le (h.lt b hb) hsz
  ltΦ x b hb := Nat.lt_of_lt_of_le (h.ltΦ x b hb) hsz
  sub := h.sub
  slots := by
    have C := carry_same (ρ' := ρ) h.obs h.keys hk (fun k o hl => ⟨hl, rfl⟩)
    exact C.slots σ.sl tm h.slots

/-- An object, new under its key. -/
theorem Rel.new {w : World} {Φ : Bool → Nat → Prop} {σ : F} {tm : List Value} {ρ : Nat → List Value} {B : List Nat} (h : Rel w Φ σ tm ρ B) (k : Nat) (o : O) (vs : List Value) (L : List Nat) (hc : IsCs w Φ o.cells vs L) (hL : Loose w Φ B L) :
    ∃ B', Rel w Φ (σ.new k o) tm (fun j => if j = k then vs else ρ j) (L ++ B') ∧ B'.Sublist B := by
  obtain ⟨B', hB, hs⟩ := h.obs.drop h.keys k
  have hmem : ∀ b ∈ B', b ∈ B := fun b hb => hs.subset hb
  have hρ : ∀ j ∈ (drop_ σ.ob k).map (·.1), (fun j => if j = k then vs else ρ j) j = ρ j := by
    intro j hj
    have : j ≠ k := by rintro rfl; exact drop_not h.keys hj
    simp [this]
  refine ⟨B', ⟨⟨L, B', rfl, by simpa using hc, hB.keep (Keeps.refl _ _ _) hρ⟩, ?_, ?_, ?_, ?_, h.ltΦ, h.sub, ?_⟩, hs⟩
  · rw [List.nodup_append]
    exact ⟨hL.nd, h.nd.sublist hs, fun a ha b hb e => hL.apart a ha (by rw [e]; exact hmem b hb)⟩
  · simp only [F.new, List.map_cons, List.nodup_cons]
    exact ⟨drop_not h.keys, h.keys.sublist (drop_sub _ _)⟩
  · intro b hb x
    rcases List.mem_append.mp hb with hb | hb
    · exact hL.disj b hb x
    · exact h.disj b (hmem b hb) x
  · intro b hb
    rcases List.mem_append.mp hb with hb | hb
    · exact hL.lt b hb
    · exact h.lt b (hmem b hb)
  · have C := carry_kill (w' := w) (Φ' := Φ) (ρ' := fun j => if j = k then vs else ρ j) (ob' := (k, o) :: drop_ σ.ob k) k h.obs h.keys (fun _ _ h => h) (fun _ _ _ => rfl) (fun j oj hj hl => by
      obtain ⟨Bk, hBk, _, hck⟩ := h.look hl
      refine ⟨?_, by simp [hj], Bk, fun _ _ => rfl, hck⟩
      show Ev.look ((k, o) :: drop_ σ.ob k) j = some oj
      rw [Ev.look]
      rw [if_neg (fun e => hj e.symm), look_drop h.keys, if_neg hj]
      exact hl)
    exact C.slots σ.sl tm h.slots

/-- An object, gone. -/
theorem Rel.del {w : World} {Φ : Bool → Nat → Prop} {σ : F} {tm : List Value} {ρ : Nat → List Value} {B : List Nat} (h : Rel w Φ σ tm ρ B) (k : Nat) :
    ∃ B', Rel w Φ (σ.del k) tm ρ B' ∧ B'.Sublist B ∧ ∀ o, Ev.look σ.ob k = some o → ∃ Bk, IsCs w Φ o.cells (ρ k) Bk ∧ Loose w Φ B' Bk ∧ ∀ b ∈ Bk, b ∈ B := by
  have main : ∀ B', IsOb w Φ ρ (drop_ σ.ob k) B' → B'.Sublist B → Rel w Φ (σ.del k) tm ρ B' := by
    intro B' hB hs
    refine ⟨hB, h.nd.sublist hs, h.keys.sublist (drop_sub _ _), fun b hb => h.disj b (hs.subset hb), fun b hb => h.lt b (hs.subset hb), h.ltΦ, h.sub, ?_⟩
    have C := carry_kill (w' := w) (Φ' := Φ) (ρ' := ρ) (ob' := drop_ σ.ob k) k h.obs h.keys (fun _ _ h => h) (fun _ _ _ => rfl) (fun j oj hj hl => by
      obtain ⟨Bk, hBk, _, hck⟩ := h.look hl
      refine ⟨?_, rfl, Bk, fun _ _ => rfl, hck⟩
      rw [look_drop h.keys, if_neg hj]
      exact hl)
    exact C.slots σ.sl tm h.slots
  cases hl : Ev.look σ.ob k with
  | none =>
    obtain ⟨B', hB, hs⟩ := h.obs.drop h.keys k
    exact ⟨B', main B' hB hs, hs, fun o ho => by cases ho⟩
  | some o =>
    obtain ⟨X, Bk, Y, rfl, e2, _, e4, _⟩ := IsOb.focus h.obs h.keys hl
    have hs : (X ++ Y).Sublist (X ++ (Bk ++ Y)) := List.Sublist.append (List.Sublist.refl _) (List.sublist_append_right _ _)
    refine ⟨X ++ Y, main _ e4 hs, hs, fun o' ho => ?_⟩
    cases ho
    have hnd := h.nd
    simp only [List.nodup_append, List.mem_append, ne_eq] at hnd
    refine ⟨Bk, e2, ⟨hnd.2.1.1, ?_, fun b hb => h.lt b (by simp [hb]), fun b hb => h.disj b (by simp [hb])⟩, fun b hb => by simp [hb]⟩
    intro b hb hb'
    rcases List.mem_append.mp hb' with hx | hy
    · exact hnd.2.2 b hx b (.inl hb) rfl
    · exact hnd.2.1.2.2 b hb b hy rfl

/-! ### cells that take another's place -/

theorem IsCs.setRange {w : World} {Φ : Bool → Nat → Prop} {cs new : List C} {vs nv : List Value} {B Bn : List Nat} {off : Nat} (h : IsCs w Φ cs vs B) (k : IsCs w Φ new nv Bn) (hfit : off + new.length ≤ cs.length) :
    ∃ X Y Z, B = X ++ (Y ++ Z) ∧ IsCs w Φ ((cs.drop off).take new.length) ((vs.drop off).take new.length) Y ∧ IsCs w Φ (Ev.setRange cs off new) (vs.take off ++ nv ++ vs.drop (off + nv.length)) (X ++ (Bn ++ Z)) := by
  obtain ⟨X, Y, Z, e, h1, h2, h3⟩ := h.range off new.length
  refine ⟨X, Y, Z, e, h2, ?_⟩
  rw [k.length]
  have := (h1.append k).append h3
  rw [List.append_assoc X] at this
  exact this

theorem holes_is {w : World} {Φ : Bool → Nat → Prop} : ∀ {cs : List C} {vs : List Value} {B : List Nat}, IsCs w Φ cs vs B → IsCs w Φ (cs.map fun c => if c.free then c else .hole) vs []
  | [], vs, B, h => by
    simp only [IsCs] at h
    simp only [List.map_nil, IsCs]
    exact ⟨h.1, trivial⟩
  | c :: cs, vs, B, h => by
    simp only [IsCs] at h
    obtain ⟨v, vs', B1, B2, rfl, rfl, h3, h4⟩ := h
    simp only [List.map_cons, IsCs]
    refine ⟨v, vs', [], [], rfl, rfl, ?_, holes_is h4⟩
    by_cases hf : c.free = true
    · rw [if_pos hf]
      cases c with
      | im b t => simp only [IsC] at h3 ⊢; exact ⟨trivial, h3.2⟩
      | ow t =>
        cases t with
        | lit x => simp only [IsC, IsO] at h3 ⊢; exact ⟨h3.1, h3.2.1, trivial⟩
        | sl _ _ => simp [C.free] at hf
      | own _ _ => simp [C.free] at hf
      | hole => simp [C.free] at hf
    · rw [if_neg hf]
      simp only [IsC]
      exact ⟨trivial, h3.one⟩

theorem free_blocks {w : World} {Φ : Bool → Nat → Prop} : ∀ {cs : List C} {vs : List Value} {B : List Nat}, IsCs w Φ cs vs B → cs.all C.free = true → B = []
  | [], vs, B, h, _ => by simp only [IsCs] at h; exact h.2
  | c :: cs, vs, B, h, hf => by
    simp only [List.all_cons, Bool.and_eq_true] at hf
    simp only [IsCs] at h
    obtain ⟨v, vs', B1, B2, rfl, rfl, h3, h4⟩ := h
    rw [free_blocks h4 hf.2]
    cases c with
    | im b t => simp only [IsC] at h3; simp [h3.1]
    | ow t =>
      cases t with
      | lit x => simp only [IsC, IsO] at h3; simp [h3.2.2]
      | sl _ _ => simp [C.free] at hf
    | own _ _ => simp [C.free] at hf
    | hole => simp [C.free] at hf

end Go.Proofs.Ytmkhdnpnjjdgfaa.Ev
