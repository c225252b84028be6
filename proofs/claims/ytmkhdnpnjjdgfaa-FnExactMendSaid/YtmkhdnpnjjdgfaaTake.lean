/- A range of a place is overwritten; a value is taken with its memory. -/
import Derived.Test.YtmkhdnpnjjdgfaaOwn
set_option linter.unusedVariables false
set_option linter.unusedSimpArgs false
namespace Go.Proofs.Ytmkhdnpnjjdgfaa.Ev
open Go Go.RowKit

theorem nodup_swap {P Y Q L : List Nat} (h : (P ++ (Y ++ Q)).Nodup) (hL : L.Nodup) (ha : ∀ b ∈ L, b ∉ P ++ (Y ++ Q)) : (P ++ (L ++ Q)).Nodup := by
  simp only [List.nodup_append, List.mem_append, ne_eq, not_or] at h ha ⊢
  obtain ⟨h1, ⟨h2, h3, h4⟩, h5⟩ := h
  refine ⟨h1, ⟨hL, h3, fun a h b hb e => (ha a h).2.2 (e ▸ hb)⟩, ?_⟩
  rintro a h b (hb | hb) e
  · exact (ha b hb).1 (e ▸ h)
  · exact h5 a h b (.inr hb) e

theorem Rel.over {w w' : World} {Φ : Bool → Nat → Prop} {σ : F} {tm : List Value} {ρ : Nat → List Value} {B : List Nat} (h : Rel w Φ σ tm ρ B) {k : Nat} {p : List (Nat × Nat)} {off : Nat} {o : O} {row new cs' : List C} {g a : Nat} {cur cur' : Array Value} {e : TypeId} {fz : Nat × Nat} {nv : List Value} {L : List Nat}
    (hl : Ev.look σ.ob k = some o) (hrow : getRow o.cells p = some row) (hp : p ≠ []) (hfit : off + new.length ≤ row.length) (hset : setRow o.cells p (setRange row off new) = some cs')
    (ha : addrAt w o.cells (ρ k) p = some (g, a)) (hg : w.heap[g]? = some (.cells cur e fz)) (hg' : w'.heap[g]? = some (.cells cur' e fz)) (hsize : cur'.size = cur.size)
    (hout : ∀ j, j < a + off ∨ a + off + new.length ≤ j → cur'[j]? = cur[j]?) (hin : (cur'.toList.drop (a + off)).take new.length = nv) (hw : ∀ b, b ≠ g → w'.heap[b]? = w.heap[b]?) (hsz : w'.heap.size = w.heap.size)
    (hnew : IsCs w' Φ new nv L) (hL : Loose w Φ B L) :
    ∃ B' Y vs, Rel w' Φ { sl := killAts k p off new.length σ.sl, ob := put_ σ.ob k { o with cells := cs' } } tm ρ B' ∧ valsAt w o.cells (ρ k) p = some vs ∧ IsCs w' Φ ((row.drop off).take new.length) ((vs.drop off).take new.length) Y ∧ Loose w' Φ B' Y ∧ (∀ b ∈ B', b ∈ B ∨ b ∈ L) ∧ (∀ b ∈ Y, b ∈ B) ∧ g ∈ B := by
  obtain ⟨X0, Bk, Y0, rfl, e2, e3, e4, e5⟩ := IsOb.focus h.obs h.keys hl
  have hndk : Bk.Nodup := by have := h.nd; simp only [List.nodup_append] at this; exact this.2.1.1
  obtain ⟨g9, a9, cur9, e9, fz9, X1, Br, Y1, rv, f1, f2, rfl, f4, f5, f6, f7, f8, f9, f10⟩ := place p o.cells (ρ k) Bk row e2 hndk hrow hp
  rw [f1] at ha
  simp only [Option.some.injEq, Prod.mk.injEq] at ha
  obtain ⟨rfl, rfl⟩ := ha
  rw [f5] at hg
  simp only [Option.some.injEq, Obj.cells.injEq] at hg
  obtain ⟨rfl, rfl, rfl⟩ := hg
  have hnd := h.nd
  have hΦg : ∀ x, ¬Φ x g9 := h.disj g9 (by simp [f4])
  have hro : ∀ x b, Φ x b → w'.heap[b]? = w.heap[b]? := fun x b hb => hw b (by rintro rfl; exact hΦg x hb)
  have hgX0 : g9 ∉ X0 := by
    intro hc
    simp only [List.nodup_append, List.mem_append, ne_eq] at hnd
    exact hnd.2.2 g9 hc g9 (.inl (.inl f4)) rfl
  have hgr : g9 ∉ Br ++ Y1 := by
    intro hc
    simp only [List.nodup_append] at hndk
    exact hndk.2.2 g9 f4 g9 (by simpa using hc) rfl
  have hgY0 : g9 ∉ Y0 := by
    intro hc
    simp only [List.nodup_append, List.mem_append, ne_eq] at hnd
    exact hnd.2.1.2.2 g9 (.inl f4) g9 hc rfl
  have hrowW : IsCs w' Φ row rv Br := f9.keep ⟨fun _ _ h => h, hro, fun b hb => hw b (by rintro rfl; exact hgr (by simp [hb]))⟩
  obtain ⟨X, Y, Z, rfl, q1, q2⟩ := hrowW.setRange hnew hfit
  have hnvl : nv.length = new.length := hnew.length
  have hvals : (cur'.toList.drop a9).take row.length = rv.take off ++ nv ++ rv.drop (off + nv.length) := by
    subst f8
    rw [hnvl, ← hin]
    have c1 : (cur'.toList.drop a9).take off = ((cur9.toList.drop a9).take row.length).take off := by
      rw [List.take_take, Nat.min_eq_left (by omega)]
      exact slice_ext (o := a9 + off) (m := a9 + off + new.length) hout (.inl (Nat.le_refl _))
    have c2 : ((cur9.toList.drop a9).take row.length).drop (off + new.length) = (cur'.toList.drop (a9 + (off + new.length))).take (row.length - (off + new.length)) := by
      rw [List.drop_take, List.drop_drop]
      exact (slice_ext (o := a9 + off) (m := a9 + off + new.length) hout (.inr (by omega))).symm
    rw [← c1, c2]
    have c3 : ∀ (l : List Value) (x y z : Nat), x + y ≤ z → l.take z = l.take x ++ ((l.drop x).take y ++ (l.drop (x + y)).take (z - (x + y))) := by
      intro l x y z hz
      have hz2 : z = x + (y + (z - (x + y))) := by omega
      conv => lhs; rw [hz2, List.take_add, List.take_add, List.drop_drop]
    have c4 := c3 (cur'.toList.drop a9) off new.length row.length hfit
    rw [List.drop_drop, List.drop_drop] at c4
    rw [c4, List.append_assoc]
  have hcells := f10 w' Φ cur' (setRange row off new) (X ++ (L ++ Z)) cs' ⟨fun _ _ h => h, hro, fun b hb hne => hw b hne⟩ hg' hsize (fun j hj => hout j (by omega)) (by rw [hvals]; exact q2) (setRange_length hfit) hset
  have hob := e5 w' Φ { o with cells := cs' } _ ⟨fun _ _ h => h, hro, fun b hb => hw b (by rintro rfl; rcases List.mem_append.mp hb with hb | hb; exact hgX0 hb; exact hgY0 hb)⟩ hcells
  have hB : X0 ++ (X1 ++ (X ++ (Y ++ Z) ++ Y1) ++ Y0) = (X0 ++ (X1 ++ X)) ++ (Y ++ (Z ++ (Y1 ++ Y0))) := by simp [List.append_assoc]
  have hB' : X0 ++ (X1 ++ (X ++ (L ++ Z) ++ Y1) ++ Y0) = (X0 ++ (X1 ++ X)) ++ (L ++ (Z ++ (Y1 ++ Y0))) := by simp [List.append_assoc]
  have hnd' : (X0 ++ (X1 ++ (X ++ (L ++ Z) ++ Y1) ++ Y0)).Nodup := by
    rw [hB'] 
    rw [hB] at hnd
    exact nodup_swap hnd hL.nd (fun b hb => by rw [← hB]; exact hL.apart b hb)
  have hsub : ∀ b ∈ X0 ++ (X1 ++ (X ++ (L ++ Z) ++ Y1) ++ Y0), b ∈ X0 ++ (X1 ++ (X ++ (Y ++ Z) ++ Y1) ++ Y0) ∨ b ∈ L := by
    intro b hb
    rw [hB'] at hb
    rw [hB]
    simp only [List.mem_append] at hb ⊢
    rcases hb with (h | h | h) | h | h | h | h <;> simp [h]
  have hY : ∀ b ∈ Y, b ∈ X0 ++ (X1 ++ (X ++ (Y ++ Z) ++ Y1) ++ Y0) := fun b hb => by simp [hb]
  have hro' : ∀ x b, Φ x b → w'.heap[b]? = w.heap[b]? := hro
  refine ⟨_, Y, _, ⟨hob, hnd', ?_, ?_, ?_, ?_, h.sub, ?_⟩, f2, ?_, ⟨?_, ?_, ?_, ?_⟩, hsub, hY, by simp [f4]⟩
  · rw [put_keys]; exact h.keys
  · intro b hb x
    rcases hsub b hb with hb | hb
    · exact h.disj b hb x
    · exact hL.disj b hb x
  · intro b hb
    rw [hsz]
    rcases hsub b hb with hb | hb
    · exact h.lt b hb
    · exact hL.lt b hb
  · intro x b hb
    rw [hsz]
    exact h.ltΦ x b hb
  · have C := carry_write (o1 := { o with cells := cs' }) h.obs h.keys h.nd (fun _ _ h => h) hro (fun b hb hne => hw b hne) hl hrow hp f1 f5 hg' hsize hout hfit hset
    exact C.slots σ.sl tm h.slots
  · subst f8; exact q1
  · rw [hB] at hnd
    simp only [List.nodup_append] at hnd
    exact hnd.2.1.1
  · intro b hb hb'
    rw [hB'] at hb'
    rw [hB] at hnd
    have hnL : b ∉ L := fun hbl => hL.apart b hbl (hY b hb)
    simp only [List.nodup_append, List.mem_append, ne_eq] at hnd
    simp only [List.mem_append] at hb'
    rcases hb' with h | h | h
    · exact hnd.2.2 b h b (.inl hb) rfl
    · exact hnL h
    · exact hnd.2.1.2.2 b hb b h rfl
  · intro b hb
    rw [hsz]
    exact h.lt b (hY b hb)
  · intro b hb
    exact h.disj b (hY b hb)

end Go.Proofs.Ytmkhdnpnjjdgfaa.Ev
