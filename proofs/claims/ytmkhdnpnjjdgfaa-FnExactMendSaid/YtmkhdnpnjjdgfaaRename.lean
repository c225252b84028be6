/- An object under a new name: what is assigned to a variable. -/
import Derived.Test.YtmkhdnpnjjdgfaaAppOp
set_option linter.unusedVariables false
set_option linter.unusedSimpArgs false
namespace Go.Proofs.Ytmkhdnpnjjdgfaa.Ev
open Go Go.RowKit

theorem look_none {ob : List (Nat × O)} {k : Nat} (h : look ob k = none) : k ∉ ob.map (·.1) := by
  induction ob with
  | nil => simp
  | cons x r ih =>
    obtain ⟨j, y⟩ := x
    simp only [look] at h
    split at h
    · cases h
    · rename_i hjk
      simp only [List.map_cons, List.mem_cons, not_or]
      exact ⟨fun e => hjk e.symm, ih h⟩

theorem Rel.rename {w : World} {Φ : Bool → Nat → Prop} {σ : F} {tm : List Value} {ρ : Nat → List Value} {B : List Nat} (h : Rel w Φ σ tm ρ B) {k k' : Nat} {o o' : O} (hl : Ev.look σ.ob k = some o) (hk' : Ev.look σ.ob k' = none) (hc : o'.cells = o.cells) :
    ∃ B', Rel w Φ { sl := rekeys k k' σ.sl, ob := (k', o') :: drop_ σ.ob k } tm (fun j => if j = k' then ρ k else ρ j) B' ∧ (∀ b ∈ B', b ∈ B) ∧
      ∀ s v, SlotR w Φ σ.ob ρ s v → SlotR w Φ ((k', o') :: drop_ σ.ob k) (fun j => if j = k' then ρ k else ρ j) (rekey k k' s) v := by
  obtain ⟨X, Bk, Y, rfl, e2, _, e4, _⟩ := IsOb.focus h.obs h.keys hl
  have hkk : k ≠ k' := by rintro rfl; rw [hl] at hk'; cases hk'
  have hnk := look_none hk'
  have hnk' : k' ∉ (drop_ σ.ob k).map (·.1) := fun hm => hnk ((drop_sub _ _).subset hm)
  have hnd := h.nd
  have hmem : ∀ b ∈ Bk ++ (X ++ Y), b ∈ X ++ (Bk ++ Y) := by
    intro b hb
    simp only [List.mem_append] at hb ⊢
    rcases hb with hb | hb | hb <;> simp [hb]
  have C : Carry w w Φ Φ σ.ob ((k', o') :: drop_ σ.ob k) ρ (fun j => if j = k' then ρ k else ρ j) (rekey k k') (rekeys k k') := by
    have key : ∀ j oj, Ev.look σ.ob j = some oj → ∃ o2, Ev.look ((k', o') :: drop_ σ.ob k) (if j = k then k' else j) = some o2 ∧ o2.cells = oj.cells ∧ (if (if j = k then k' else j) = k' then ρ k else ρ (if j = k then k' else j)) = ρ j := by
      intro j oj hj
      by_cases hjk : j = k
      · subst hjk
        rw [hl] at hj
        cases hj
        exact ⟨o', by simp [Ev.look], hc, by simp⟩
      · have hjk' : j ≠ k' := by rintro rfl; rw [hj] at hk'; cases hk'
        refine ⟨oj, ?_, rfl, by simp [hjk, hjk']⟩
        rw [if_neg hjk, Ev.look, if_neg (fun e => hjk' e.symm), look_drop h.keys, if_neg hjk]
        exact hj
    refine { mono := fun _ _ h => h, ro := fun _ _ _ => rfl, nil := rfl, cons := fun _ _ => rfl, fn := fun _ _ => rfl, tup := fun _ => rfl, rest := fun s hs => by cases s <;> first | rfl | exact hs.elim, vals := ?_, sub := ?_, ptr := ?_ }
    · intro j p off n
      refine .inr ⟨if j = k then k' else j, fun ag => rfl, fun oj vs h1 h2 h3 => ?_⟩
      obtain ⟨o2, f1, f2, f3⟩ := key j oj h1
      exact ⟨o2, vs, f1, by rw [f2, f3]; exact h2, h3, rfl⟩
    · intro j p off sz lo hi
      refine .inr ⟨if j = k then k' else j, rfl, fun oj vs h1 h2 h3 => ?_⟩
      obtain ⟨o2, f1, f2, f3⟩ := key j oj h1
      exact ⟨o2, vs, f1, by rw [f2, f3]; exact h2, h3, rfl⟩
    · intro j p off
      refine .inr ⟨if j = k then k' else j, rfl, fun oj g a h1 h2 => ?_⟩
      obtain ⟨o2, f1, f2, f3⟩ := key j oj h1
      exact ⟨o2, f1, by rw [f2, f3]; exact h2⟩
  refine ⟨Bk ++ (X ++ Y), ⟨⟨Bk, X ++ Y, rfl, by rw [hc]; simpa using e2, e4.keep (Keeps.refl _ _ _) (fun j hj => ?_)⟩, ?_, ?_, fun b hb => h.disj b (hmem b hb), fun b hb => h.lt b (hmem b hb), h.ltΦ, h.sub, C.slots _ _ h.slots⟩, hmem, fun s v hs => C.slot s v hs⟩
  · have : j ≠ k' := by rintro rfl; exact hnk' hj
    simp [this]
  · simp only [List.nodup_append, List.mem_append, ne_eq] at hnd ⊢
    obtain ⟨n1, ⟨n2, n3, n4⟩, n5⟩ := hnd
    refine ⟨n2, ⟨n1, n3, fun a ha b hb => n5 a ha b (.inr hb)⟩, ?_⟩
    rintro a ha b (hb | hb) e
    · exact n5 b hb a (.inl ha) e.symm
    · exact n4 a ha b hb e
  · simp only [List.map_cons, List.nodup_cons]
    exact ⟨hnk', h.keys.sublist (drop_sub _ _)⟩

section
variable {P : Program} {σ : F} {ty : TypeId} {pos : String} {after : Array Edge} {gd : Option (Nat × Bool)}

theorem ok_rename (x : Operand) (d k n : Nat) (ag : Bool) (ob : O) (hx : σ.rd x = .vw k [] 0 n ag) (hl : look σ.ob k = some ob) (hk : k ≠ keyOf d 0) :
    OpStill P ⟨some d, .assign x, ty, pos, after, gd⟩ σ (F.put { sl := rekeys k (keyOf d 0) (σ.del (keyOf d 0)).sl, ob := (keyOf d 0, { ob with var := true }) :: drop_ (σ.del (keyOf d 0)).ob k } (some d) (.vw (keyOf d 0) [] 0 n ag)) := by
  intro w Φ tm ρ B ds hR
  have hxr := hR.rd (ds := ds) x
  rw [hx] at hxr
  obtain ⟨B1, hR1, hs1, _⟩ := hR.del (keyOf d 0)
  have hl1 : look (σ.del (keyOf d 0)).ob k = some ob := by
    simp only [F.del]
    rw [look_drop hR.keys, if_neg hk]
    exact hl
  have hl2 : look (σ.del (keyOf d 0)).ob (keyOf d 0) = none := by
    simp only [F.del]
    rw [look_drop hR.keys, if_pos rfl]
  obtain ⟨B2, hR2, hB2, hS⟩ := hR1.rename (o' := { ob with var := true }) hl1 hl2 rfl
  have hx1 : SlotR w Φ (σ.del (keyOf d 0)).ob ρ (.vw k [] 0 n ag) ((⟨tm.toArray, ds⟩ : Act).eval x) := by
    simp only [SlotR] at hxr ⊢
    obtain ⟨o, vs, h1, h2, h3, h4⟩ := hxr
    rw [hl] at h1
    cases h1
    exact ⟨ob, vs, hl1, h2, h3, h4⟩
  have hx2 := hS _ _ hx1
  have e1 : rekey k (keyOf d 0) (.vw k [] 0 n ag) = .vw (keyOf d 0) [] 0 n ag := by simp [rekey]
  rw [e1] at hx2
  refine ⟨_, _, _, fun w2 _ => by simp only [execOp, Sem.run_pure], hR2.put (some d) hx2, fun b hb => hs1.subset (hB2 b hb), fun j hj => ?_⟩
  have : j ≠ keyOf d 0 := newKey_keyOf (by decide) hj
  simp [this]

end

end Go.Proofs.Ytmkhdnpnjjdgfaa.Ev
