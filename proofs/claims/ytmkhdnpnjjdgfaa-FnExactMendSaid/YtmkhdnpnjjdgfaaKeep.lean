/- What may be forgotten: slots, objects; and what stands beside an operation. -/
import Derived.Test.YtmkhdnpnjjdgfaaOp
set_option linter.unusedVariables false
set_option linter.unusedSimpArgs false
namespace Go.Proofs.Ytmkhdnpnjjdgfaa.Ev
open Go Go.RowKit

/-- Handles that the tests let pass stand for the same elsewhere. -/
structure Over (w w' : World) (Φ Φ' : Bool → Nat → Prop) (ob ob' : List (Nat × O)) (ρ ρ' : Nat → List Value) (tv tp : Nat → List (Nat × Nat) → Bool) : Prop where
  mono : ∀ x b, Φ x b → Φ' x b
  ro : ∀ x b, Φ x b → w'.heap[b]? = w.heap[b]?
  vals : ∀ k p, tv k p = true → ∀ o vs, look ob k = some o → valsAt w o.cells (ρ k) p = some vs → ∃ o', look ob' k = some o' ∧ valsAt w' o'.cells (ρ' k) p = some vs
  addr : ∀ k p, tp k p = true → ∀ o g a, look ob k = some o → addrAt w o.cells (ρ k) p = some (g, a) → ∃ o', look ob' k = some o' ∧ addrAt w' o'.cells (ρ' k) p = some (g, a)

section
variable {w w' : World} {Φ Φ' : Bool → Nat → Prop} {ob ob' : List (Nat × O)} {ρ ρ' : Nat → List Value} {tv tp : Nat → List (Nat × Nat) → Bool}

mutual
theorem Over.slot (C : Over w w' Φ Φ' ob ob' ρ ρ' tv tp) : ∀ (s : S) (v : Value), S.ok tv tp s = true → SlotR w Φ ob ρ s v → SlotR w' Φ' ob' ρ' s v
  | .dead, v, _, h => by simp only [SlotR]
  | .undef, v, _, h => by simpa only [SlotR] using h
  | .nils, v, _, h => by simpa only [SlotR] using h
  | .lit x, v, _, h => by simpa only [SlotR] using h
  | .val b t, v, _, h => by
    simp only [SlotR] at h ⊢
    exact IsT.mono (C.mono b) (C.ro b) t v h
  | .agg b ts, v, _, h => by
    simp only [SlotR] at h ⊢
    obtain ⟨vs, h1, h2⟩ := h
    exact ⟨vs, h1, IsTs.mono (C.mono b) (C.ro b) ts vs h2⟩
  | .pt b ts, v, _, h => by
    simp only [SlotR] at h ⊢
    obtain ⟨g, o, cur, e, fz, h1, h2, h3, h4⟩ := h
    exact ⟨g, o, cur, e, fz, h1, C.mono b g h2, (C.ro b g h2).trans h3, IsTs.mono (C.mono b) (C.ro b) ts _ h4⟩
  | .vw k p off n ag, v, hk, h => by
    simp only [S.ok] at hk
    simp only [SlotR] at h ⊢
    obtain ⟨o, vs, h1, h2, h3, h4⟩ := h
    obtain ⟨o', e1, e2⟩ := C.vals k p hk o vs h1 h2
    exact ⟨o', vs, e1, e2, h3, h4⟩
  | .sub k p off sz lo hi, v, hk, h => by
    simp only [S.ok] at hk
    simp only [SlotR] at h ⊢
    obtain ⟨o, vs, a, len, cap, h1, h2, h3⟩ := h
    obtain ⟨o', e1, e2⟩ := C.vals k p hk o vs h1 h2
    exact ⟨o', vs, a, len, cap, e1, e2, h3⟩
  | .ptr k p off, v, hk, h => by
    simp only [S.ok] at hk
    simp only [SlotR] at h ⊢
    obtain ⟨o, g, a, h1, h2, h3⟩ := h
    obtain ⟨o', e1, e2⟩ := C.addr k p hk o g a h1 h2
    exact ⟨o', g, a, e1, e2, h3⟩
  | .fn g caps, v, hk, h => by
    simp only [S.ok] at hk
    simp only [SlotR] at h ⊢
    obtain ⟨vs, h1, h2⟩ := h
    exact ⟨vs, h1, C.slots caps vs hk h2⟩
  | .tup xs, v, hk, h => by
    simp only [S.ok] at hk
    simp only [SlotR] at h ⊢
    obtain ⟨vs, h1, h2⟩ := h
    exact ⟨vs, h1, C.slots xs vs hk h2⟩
theorem Over.slots (C : Over w w' Φ Φ' ob ob' ρ ρ' tv tp) : ∀ (ss : List S) (vs : List Value), S.oks tv tp ss = true → SlotRs w Φ ob ρ ss vs → SlotRs w' Φ' ob' ρ' ss vs
  | [], vs, _, h => by simpa only [SlotRs] using h
  | s :: ss, vs, hk, h => by
    simp only [S.oks, Bool.and_eq_true] at hk
    simp only [SlotRs] at h ⊢
    obtain ⟨v, vs', h1, h2, h3⟩ := h
    exact ⟨v, vs', h1, C.slot s v hk.1 h2, C.slots ss vs' hk.2 h3⟩
end

theorem Over.sift (C : Over w w' Φ Φ' ob ob' ρ ρ' tv tp) {s : S} {v : Value} (h : SlotR w Φ ob ρ s v) : SlotR w' Φ' ob' ρ' (Ev.sift tv tp s) v := by
  unfold Ev.sift
  split
  · rename_i hk
    exact C.slot s v hk h
  · simp only [SlotR]

end

/-! ### the objects of some keys -/

theorem look_of_mem {ob : List (Nat × O)} {k : Nat} (h : k ∈ ob.map (·.1)) : ∃ o, look ob k = some o := by
  induction ob with
  | nil => simp at h
  | cons x r ih =>
    obtain ⟨i, y⟩ := x
    simp only [look]
    by_cases hik : i = k
    · exact ⟨y, by rw [if_pos hik]⟩
    · simp only [List.map_cons, List.mem_cons] at h
      rw [if_neg hik]
      exact ih (h.resolve_left (fun e => hik e.symm))

theorem look_cons {ob : List (Nat × O)} {i k : Nat} {o : O} : look ((i, o) :: ob) k = if i = k then some o else look ob k := rfl

/-- A table all of whose objects stand in another one. -/
theorem IsOb.submap {w : World} {Φ : Bool → Nat → Prop} {ρ : Nat → List Value} : ∀ {ob' ob : List (Nat × O)} {B : List Nat}, IsOb w Φ ρ ob B → (ob.map (·.1)).Nodup → B.Nodup → (ob'.map (·.1)).Nodup → (∀ k o, look ob' k = some o → look ob k = some o) →
    ∃ B', IsOb w Φ ρ ob' B' ∧ B'.Nodup ∧ ∀ b ∈ B', b ∈ B
  | [], ob, B, _, _, _, _, _ => ⟨[], rfl, List.nodup_nil, by simp⟩
  | (k, o) :: r, ob, B, h, hk, hB, hk', hl => by
    simp only [List.map_cons, List.nodup_cons] at hk'
    have h1 := hl k o (by simp [look])
    obtain ⟨X, Bk, Y, rfl, e2, _, e4, _⟩ := IsOb.focus h hk h1
    have hnd := hB
    simp only [List.nodup_append, List.mem_append, ne_eq] at hnd
    obtain ⟨n1, ⟨n2, n3, n4⟩, n5⟩ := hnd
    have hXY : (X ++ Y).Nodup := by
      simp only [List.nodup_append, ne_eq]
      exact ⟨n1, n3, fun a ha b hb => n5 a ha b (.inr hb)⟩
    obtain ⟨B', r1, r2, r3⟩ := IsOb.submap (ob' := r) e4 (hk.sublist (drop_sub _ _)) hXY hk'.2 (fun j oj hj => by
      have hjk : j ≠ k := by rintro rfl; exact hk'.1 (look_mem hj)
      rw [look_drop hk, if_neg hjk]
      refine hl j oj ?_
      rw [look_cons, if_neg (fun e => hjk e.symm)]
      exact hj)
    refine ⟨Bk ++ B', ⟨Bk, B', rfl, e2, r1⟩, ?_, fun b hb => ?_⟩
    · simp only [List.nodup_append, ne_eq]
      refine ⟨n2, r2, fun a ha b hb e => ?_⟩
      subst e
      rcases List.mem_append.mp (r3 a hb) with hx | hy
      · exact n5 a hx a (.inl ha) rfl
      · exact n4 a ha a hy rfl
    · rcases List.mem_append.mp hb with hb | hb
      · simp [hb]
      · rcases List.mem_append.mp (r3 b hb) with hx | hx <;> simp [hx]

/-- Two tables apart in one. -/
theorem IsOb.split {w : World} {Φ : Bool → Nat → Prop} {ρ : Nat → List Value} : ∀ {ob1 ob2 ob : List (Nat × O)} {B : List Nat}, IsOb w Φ ρ ob B → (ob.map (·.1)).Nodup → B.Nodup → (ob1.map (·.1)).Nodup → (ob2.map (·.1)).Nodup →
    (∀ k o, look ob1 k = some o → look ob k = some o) → (∀ k o, look ob2 k = some o → look ob k = some o) → (∀ k ∈ ob1.map (·.1), k ∉ ob2.map (·.1)) →
    ∃ B1 B2, IsOb w Φ ρ ob1 B1 ∧ IsOb w Φ ρ ob2 B2 ∧ (B1 ++ B2).Nodup ∧ ∀ b ∈ B1 ++ B2, b ∈ B
  | [], ob2, ob, B, h, hk, hB, _, hk2, _, hl2, _ => by
    obtain ⟨B', r1, r2, r3⟩ := h.submap hk hB hk2 hl2
    exact ⟨[], B', rfl, r1, by simpa using r2, by simpa using r3⟩
  | (k, o) :: r, ob2, ob, B, h, hk, hB, hk1, hk2, hl1, hl2, hd => by
    simp only [List.map_cons, List.nodup_cons] at hk1
    have h1 := hl1 k o (by simp [look])
    obtain ⟨X, Bk, Y, rfl, e2, _, e4, _⟩ := IsOb.focus h hk h1
    have hnd := hB
    simp only [List.nodup_append, List.mem_append, ne_eq] at hnd
    obtain ⟨n1, ⟨n2, n3, n4⟩, n5⟩ := hnd
    have hXY : (X ++ Y).Nodup := by
      simp only [List.nodup_append, ne_eq]
      exact ⟨n1, n3, fun a ha b hb => n5 a ha b (.inr hb)⟩
    have hk2k : k ∉ ob2.map (·.1) := hd k (by simp)
    obtain ⟨B1, B2, r1, r2, r3, r4⟩ := IsOb.split (ob1 := r) (ob2 := ob2) e4 (hk.sublist (drop_sub _ _)) hXY hk1.2 hk2 (fun j oj hj => by
      have hjk : j ≠ k := by rintro rfl; exact hk1.1 (look_mem hj)
      rw [look_drop hk, if_neg hjk]
      refine hl1 j oj ?_
      rw [look_cons, if_neg (fun e => hjk e.symm)]
      exact hj) (fun j oj hj => by
      have hjk : j ≠ k := by rintro rfl; exact hk2k (look_mem hj)
      rw [look_drop hk, if_neg hjk]
      exact hl2 j oj hj) (fun j hj => hd j (by simp at hj ⊢; exact .inr hj))
    have hap : ∀ a ∈ Bk, a ∉ B1 ++ B2 := fun a ha hb => by
      rcases List.mem_append.mp (r4 a hb) with hx | hy
      · exact n5 a hx a (.inl ha) rfl
      · exact n4 a ha a hy rfl
    refine ⟨Bk ++ B1, B2, ⟨Bk, B1, rfl, e2, r1⟩, r2, ?_, fun b hb => ?_⟩
    · rw [List.append_assoc, List.nodup_append]
      exact ⟨n2, r3, fun a ha b hb e => hap a ha (by rw [e]; exact hb)⟩
    · rw [List.append_assoc] at hb
      rcases List.mem_append.mp hb with hb | hb
      · simp [hb]
      · rcases List.mem_append.mp (r4 b hb) with hx | hx <;> simp [hx]

theorem IsOb.append {w : World} {Φ : Bool → Nat → Prop} {ρ : Nat → List Value} : ∀ {ob1 ob2 : List (Nat × O)} {B1 B2 : List Nat}, IsOb w Φ ρ ob1 B1 → IsOb w Φ ρ ob2 B2 → IsOb w Φ ρ (ob1 ++ ob2) (B1 ++ B2)
  | [], _, _, _, h, k => by rw [show _ = [] from h]; exact k
  | (i, o) :: r, _, _, _, h, k => by
    obtain ⟨C1, C2, rfl, h2, h3⟩ := h
    exact ⟨C1, C2 ++ _, by rw [List.append_assoc], h2, h3.append k⟩

theorem look_append {ob1 ob2 : List (Nat × O)} {k : Nat} : look (ob1 ++ ob2) k = match look ob1 k with | some o => some o | none => look ob2 k := by
  induction ob1 with
  | nil => rfl
  | cons x r ih =>
    obtain ⟨i, y⟩ := x
    simp only [List.cons_append, look]
    split
    · rfl
    · exact ih

theorem look_filter {ob : List (Nat × O)} {q : Nat → Bool} {k : Nat} : look (ob.filter fun x => q x.1) k = if q k then look ob k else none := by
  induction ob with
  | nil => simp [look]
  | cons x r ih =>
    obtain ⟨i, y⟩ := x
    simp only [List.filter_cons]
    by_cases hik : i = k
    · subst hik
      by_cases hq : q i = true
      · simp [hq, look]
      · simp [hq, ih]
    · by_cases hq : q i = true
      · simp only [hq, if_true, look]
        rw [if_neg hik, if_neg hik, ih]
      · simp only [hq, Bool.false_eq_true, if_false, look]
        rw [if_neg hik, ih]

theorem look_dropAll {ob : List (Nat × O)} {ks : List Nat} {k : Nat} : look (dropAll ks ob) k = if ks.contains k then none else look ob k := by
  unfold dropAll
  rw [look_filter (q := fun k => !ks.contains k)]
  cases ks.contains k <;> rfl

theorem dropAll_nodup {ob : List (Nat × O)} {ks : List Nat} (h : (ob.map (·.1)).Nodup) : ((dropAll ks ob).map (·.1)).Nodup :=
  h.sublist (List.Sublist.map _ List.filter_sublist)

theorem pick_look : ∀ {ks : List Nat} {ob : List (Nat × O)} {k : Nat}, (ob.map (·.1)).Nodup → look (pick ob ks) k = if ks.contains k then look ob k else none
  | [], ob, k, _ => by simp [pick, look]
  | i :: r, ob, k, h => by
    simp only [pick]
    cases hl : look ob i with
    | none =>
      simp only
      rw [pick_look h]
      by_cases hki : k = i
      · subst hki; simp [hl]
      · simp [hki]
    | some o =>
      simp only [look_cons]
      by_cases hki : i = k
      · subst hki; simp [hl]
      · have hki' : ¬k = i := fun e => hki e.symm
        rw [if_neg hki, pick_look (h.sublist (drop_sub _ _)), look_drop h, if_neg hki']
        simp only [List.contains_cons, beq_iff_eq, hki', Bool.or_eq_true, false_or]

theorem pick_nodup : ∀ {ks : List Nat} {ob : List (Nat × O)}, (ob.map (·.1)).Nodup → ((pick ob ks).map (·.1)).Nodup
  | [], ob, _ => by simp [pick]
  | i :: r, ob, h => by
    simp only [pick]
    cases hl : look ob i with
    | none => exact pick_nodup h
    | some o =>
      simp only [List.map_cons, List.nodup_cons]
      refine ⟨fun hm => ?_, pick_nodup (h.sublist (drop_sub _ _))⟩
      obtain ⟨o', ho'⟩ := look_of_mem hm
      rw [pick_look (h.sublist (drop_sub _ _)), look_drop h] at ho'
      simp at ho'

theorem pick_sub {ks : List Nat} {ob : List (Nat × O)} (h : (ob.map (·.1)).Nodup) {k : Nat} {o : O} (hl : look (pick ob ks) k = some o) : look ob k = some o := by
  rw [pick_look h] at hl
  split at hl
  · exact hl
  · cases hl

/-! ### forgetting -/

theorem maskSl_slots {w w' : World} {Φ Φ' : Bool → Nat → Prop} {ob ob' : List (Nat × O)} {ρ ρ' : Nat → List Value} (C : Over w w' Φ Φ' ob ob' ρ ρ' (fun k _ => (look ob' k).isSome) (fun k _ => (look ob' k).isSome)) (ss : List Nat) :
    ∀ (l : List S) (vs : List Value) (i : Nat), SlotRs w Φ ob ρ l vs → SlotRs w' Φ' ob' ρ' (maskSl ob' ss i l) vs
  | [], vs, i, h => by simpa only [maskSl, SlotRs] using h
  | s :: r, vs, i, h => by
    simp only [SlotRs] at h
    obtain ⟨v, vs', rfl, h2, h3⟩ := h
    simp only [maskSl, SlotRs]
    refine ⟨v, vs', rfl, ?_, maskSl_slots C ss r vs' (i + 1) h3⟩
    split
    · exact C.sift h2
    · simp only [SlotR]

theorem over_sub {w : World} {Φ : Bool → Nat → Prop} {ob ob' : List (Nat × O)} {ρ : Nat → List Value} (hl : ∀ k o, look ob' k = some o → look ob k = some o) :
    Over w w Φ Φ ob ob' ρ ρ (fun k _ => (look ob' k).isSome) (fun k _ => (look ob' k).isSome) where
  mono _ _ h := h
  ro _ _ _ := rfl
  vals k p hk o vs h1 h2 := by
    obtain ⟨o', ho'⟩ := Option.isSome_iff_exists.mp hk
    have := hl k o' ho'
    rw [h1] at this
    cases this
    exact ⟨o, ho', h2⟩
  addr k p hk o g a h1 h2 := by
    obtain ⟨o', ho'⟩ := Option.isSome_iff_exists.mp hk
    have := hl k o' ho'
    rw [h1] at this
    cases this
    exact ⟨o, ho', h2⟩

/-- Some slots, some objects. -/
theorem Rel.only {w : World} {Φ : Bool → Nat → Prop} {σ : F} {tm : List Value} {ρ : Nat → List Value} {B : List Nat} (h : Rel w Φ σ tm ρ B) (ss ks : List Nat) : ∃ B', Rel w Φ (σ.only ss ks) tm ρ B' ∧ ∀ b ∈ B', b ∈ B := by
  obtain ⟨B', r1, r2, r3⟩ := h.obs.submap h.keys h.nd (pick_nodup (ks := ks) h.keys) (fun k o hl => pick_sub h.keys hl)
  exact ⟨B', ⟨r1, r2, pick_nodup h.keys, fun b hb => h.disj b (r3 b hb), fun b hb => h.lt b (r3 b hb), h.ltΦ, h.sub, maskSl_slots (over_sub fun k o hl => pick_sub h.keys hl) ss _ _ 0 h.slots⟩, r3⟩

theorem Rel.forget {w : World} {Φ : Bool → Nat → Prop} {σ : F} {tm : List Value} {ρ : Nat → List Value} {B : List Nat} (h : Rel w Φ σ tm ρ B) (m : Option (List Nat)) : ∃ B', Rel w Φ (σ.keep m) tm ρ B' ∧ ∀ b ∈ B', b ∈ B := by
  unfold F.keep
  split
  · exact ⟨B, h, fun _ hb => hb⟩
  · exact h.only _ _

/-- The same table in another order. -/
theorem Rel.perm {w : World} {Φ : Bool → Nat → Prop} {σ : F} {tm : List Value} {ρ : Nat → List Value} {B : List Nat} (h : Rel w Φ σ tm ρ B) {ob : List (Nat × O)} (hk : (ob.map (·.1)).Nodup) (hl : ∀ k, Ev.look ob k = Ev.look σ.ob k) : ∃ B', Rel w Φ { sl := σ.sl, ob } tm ρ B' ∧ ∀ b ∈ B', b ∈ B := by
  obtain ⟨B', r1, r2, r3⟩ := h.obs.submap h.keys h.nd hk (fun k o hh => by rw [← hl]; exact hh)
  refine ⟨B', ⟨r1, r2, hk, fun b hb => h.disj b (r3 b hb), fun b hb => h.lt b (r3 b hb), h.ltΦ, h.sub, ?_⟩, r3⟩
  have C := carry_same (w' := w) (Φ' := Φ) (ρ' := ρ) (ob' := ob) h.obs h.keys (Keeps.refl _ _ _) (fun k o hh => ⟨by rw [hl]; exact hh, rfl⟩)
  exact C.slots σ.sl tm h.slots

theorem Next.of_sub {w w' : World} {Φ Φ' : Bool → Nat → Prop} {ρ ρ' : Nat → List Value} {B B0 B' : List Nat} (h : Next w Φ ρ B0 w' Φ' ρ' B') (hs : ∀ b ∈ B0, b ∈ B) : Next w Φ ρ B w' Φ' ρ' B' where
  os := h.os
  tape := h.tape
  output := h.output
  size := h.size
  block b hb hn := h.block b hb (fun hb0 => hn (hs b hb0))
  own b hb := (h.own b hb).imp (hs b) id
  mono := h.mono
  fresh x b hb := (h.fresh x b hb).imp id (Or.imp (hs b) id)
  lent := h.lent
  imp := h.imp

theorem Next.to_sub {w w' : World} {Φ Φ' : Bool → Nat → Prop} {ρ ρ' : Nat → List Value} {B B' B1 : List Nat} (h : Next w Φ ρ B w' Φ' ρ' B') (hs : ∀ b ∈ B1, b ∈ B') : Next w Φ ρ B w' Φ' ρ' B1 where
  os := h.os
  tape := h.tape
  output := h.output
  size := h.size
  block := h.block
  own b hb := h.own b (hs b hb)
  mono := h.mono
  fresh := h.fresh
  lent := h.lent
  imp := h.imp

end Go.Proofs.Ytmkhdnpnjjdgfaa.Ev
