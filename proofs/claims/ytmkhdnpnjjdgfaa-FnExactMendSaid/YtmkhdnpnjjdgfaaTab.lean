/- The table of objects: looked up, put, dropped; slots carried over each of these. -/
import Derived.Test.YtmkhdnpnjjdgfaaState
set_option linter.unusedVariables false
set_option linter.unusedSimpArgs false
namespace Go.Proofs.Ytmkhdnpnjjdgfaa.Ev
open Go Go.RowKit

theorem look_mem {ob : List (Nat × O)} {k : Nat} {o : O} (h : look ob k = some o) : k ∈ ob.map (·.1) := by
  induction ob with
  | nil => simp [look] at h
  | cons x r ih =>
    obtain ⟨j, y⟩ := x
    simp only [look] at h
    split at h
    · rename_i e; simp [e]
    · simp only [List.map_cons, List.mem_cons]; exact .inr (ih h)

theorem look_put {ob : List (Nat × O)} {k j : Nat} {o : O} : look (put_ ob k o) j = if j = k then (look ob k).map (fun _ => o) else look ob j := by
  induction ob with
  | nil => simp [look, put_]
  | cons x r ih =>
    obtain ⟨i, y⟩ := x
    simp only [put_]
    by_cases h : i = k
    · subst h
      simp only [if_true, look]
      by_cases hj : i = j
      · subst hj; simp
      · rw [if_neg hj, if_neg (fun e => hj e.symm), if_neg hj]
    · rw [if_neg h]
      simp only [look]
      by_cases hj : i = j
      · subst hj
        rw [if_pos rfl, if_neg h, if_pos rfl]
      · rw [if_neg hj, ih, if_neg h, if_neg hj]

theorem look_drop {ob : List (Nat × O)} {k j : Nat} (hk : (ob.map (·.1)).Nodup) : look (drop_ ob k) j = if j = k then none else look ob j := by
  induction ob with
  | nil => simp [look, drop_]
  | cons x r ih =>
    obtain ⟨i, y⟩ := x
    simp only [List.map_cons, List.nodup_cons] at hk
    simp only [drop_]
    by_cases h : i = k
    · subst h
      simp only [if_true, look]
      by_cases hj : j = i
      · subst hj
        rw [if_pos rfl]
        cases hl : look r j with
        | none => rfl
        | some o => exact absurd (look_mem hl) hk.1
      · rw [if_neg hj, if_neg (fun e => hj e.symm)]
    · rw [if_neg h]
      simp only [look]
      by_cases hj : i = j
      · subst hj
        rw [if_pos rfl, if_neg h, if_pos rfl]
      · rw [if_neg hj, ih hk.2, if_neg hj]

theorem put_keys (ob : List (Nat × O)) (k : Nat) (o : O) : (put_ ob k o).map (·.1) = ob.map (·.1) := by
  induction ob with
  | nil => rfl
  | cons x r ih =>
    obtain ⟨i, y⟩ := x
    simp only [put_]
    split
    · rename_i h; simp [h]
    · simp [ih]

theorem drop_sub (ob : List (Nat × O)) (k : Nat) : ((drop_ ob k).map (·.1)).Sublist (ob.map (·.1)) := by
  induction ob with
  | nil => exact List.Sublist.refl _
  | cons x r ih =>
    obtain ⟨i, y⟩ := x
    simp only [drop_]
    split
    · exact List.sublist_cons_self _ _
    · simpa using ih

theorem drop_not {ob : List (Nat × O)} {k : Nat} (hk : (ob.map (·.1)).Nodup) : k ∉ (drop_ ob k).map (·.1) := by
  induction ob with
  | nil => simp [drop_]
  | cons x r ih =>
    obtain ⟨i, y⟩ := x
    simp only [List.map_cons, List.nodup_cons] at hk
    simp only [drop_]
    split
    · rename_i h; subst h; exact hk.1
    · rename_i h
      simp only [List.map_cons, List.mem_cons, not_or]
      exact ⟨fun e => h e.symm, ih hk.2⟩

theorem IsOb.keep {w w' : World} {Φ Φ' : Bool → Nat → Prop} {ρ ρ' : Nat → List Value} : ∀ {ob : List (Nat × O)} {B : List Nat}, IsOb w Φ ρ ob B → Keeps w w' Φ Φ' B → (∀ k ∈ ob.map (·.1), ρ' k = ρ k) → IsOb w' Φ' ρ' ob B
  | [], _, h, _, _ => h
  | (k, o) :: r, _, h, hk, hρ => by
    obtain ⟨B1, B2, rfl, h2, h3⟩ := h
    refine ⟨B1, B2, rfl, ?_, h3.keep (hk.sub (by intro b hb; simp [hb])) (fun j hj => hρ j (by simp at hj ⊢; exact .inr hj))⟩
    rw [hρ k (by simp)]
    exact h2.keep (hk.sub (by intro b hb; simp [hb]))

/-- One object out of the table. -/
theorem IsOb.focus {w : World} {Φ : Bool → Nat → Prop} {ρ : Nat → List Value} : ∀ {ob : List (Nat × O)} {B : List Nat} {k : Nat} {o : O}, IsOb w Φ ρ ob B → (ob.map (·.1)).Nodup → look ob k = some o →
    ∃ X Bk Y, B = X ++ (Bk ++ Y) ∧ IsCs w Φ o.cells (ρ k) Bk ∧ (∀ j oj, j ≠ k → look ob j = some oj → ∃ Bj, (∀ b ∈ Bj, b ∈ X ++ Y) ∧ IsCs w Φ oj.cells (ρ j) Bj) ∧ IsOb w Φ ρ (drop_ ob k) (X ++ Y) ∧
      ∀ (w' : World) (Φ' : Bool → Nat → Prop) (o' : O) (Bk' : List Nat), Keeps w w' Φ Φ' (X ++ Y) → IsCs w' Φ' o'.cells (ρ k) Bk' → IsOb w' Φ' ρ (put_ ob k o') (X ++ (Bk' ++ Y))
  | [], _, _, _, _, _, h => by simp [look] at h
  | (i, y) :: r, B, k, o, h, hk, hl => by
    obtain ⟨B1, B2, rfl, h2, h3⟩ := h
    simp only [List.map_cons, List.nodup_cons] at hk
    simp only [look] at hl
    by_cases hik : i = k
    · subst hik
      rw [if_pos rfl] at hl
      cases hl
      refine ⟨[], B1, B2, rfl, h2, ?_, ?_, ?_⟩
      · intro j oj hj hlj
        simp only [look] at hlj
        rw [if_neg (fun e => hj e.symm)] at hlj
        obtain ⟨X, Bk, Y, rfl, e2, _⟩ := IsOb.focus h3 hk.2 hlj
        exact ⟨Bk, fun b hb => by simp [hb], e2⟩
      · simpa [drop_] using h3
      · intro w' Φ' o' Bk' hkp hc
        simp only [List.nil_append] at hkp ⊢
        simp only [put_, if_true]
        exact ⟨Bk', B2, rfl, hc, h3.keep hkp (fun _ _ => rfl)⟩
    · rw [if_neg hik] at hl
      obtain ⟨X, Bk, Y, rfl, e2, e3, e4, e5⟩ := IsOb.focus h3 hk.2 hl
      refine ⟨B1 ++ X, Bk, Y, by simp [List.append_assoc], e2, ?_, ?_, ?_⟩
      · intro j oj hj hlj
        simp only [look] at hlj
        by_cases hij : i = j
        · subst hij
          rw [if_pos rfl] at hlj
          cases hlj
          exact ⟨B1, fun b hb => by simp [hb], h2⟩
        · rw [if_neg hij] at hlj
          obtain ⟨Bj, f1, f2⟩ := e3 j oj hj hlj
          exact ⟨Bj, fun b hb => by have := f1 b hb; simp at this ⊢; rcases this with h | h <;> simp [h], f2⟩
      · simp only [drop_]
        rw [if_neg hik]
        exact ⟨B1, X ++ Y, by simp [List.append_assoc], h2, e4⟩
      · intro w' Φ' o' Bk' hkp hc
        simp only [put_]
        rw [if_neg hik]
        exact ⟨B1, X ++ (Bk' ++ Y), by simp [List.append_assoc], h2.keep (hkp.sub (by intro b hb; simp [hb])), e5 w' Φ' o' Bk' (hkp.sub (by intro b hb; simp at hb ⊢; rcases hb with h | h <;> simp [h])) hc⟩

theorem drop_none {ob : List (Nat × O)} {k : Nat} (h : look ob k = none) : drop_ ob k = ob := by
  induction ob with
  | nil => rfl
  | cons x r ih =>
    obtain ⟨i, y⟩ := x
    simp only [look] at h
    split at h
    · cases h
    · rename_i hik
      simp only [drop_]
      rw [if_neg hik, ih h]

/-- The table without an object, whether it was there or not. -/
theorem IsOb.drop {w : World} {Φ : Bool → Nat → Prop} {ρ : Nat → List Value} {ob : List (Nat × O)} {B : List Nat} (h : IsOb w Φ ρ ob B) (hk : (ob.map (·.1)).Nodup) (k : Nat) : ∃ B', IsOb w Φ ρ (drop_ ob k) B' ∧ B'.Sublist B := by
  cases hl : look ob k with
  | none => rw [drop_none hl]; exact ⟨B, h, List.Sublist.refl _⟩
  | some o =>
    obtain ⟨X, Bk, Y, rfl, _, _, e4, _⟩ := IsOb.focus h hk hl
    exact ⟨X ++ Y, e4, List.Sublist.append (List.Sublist.refl _) (List.sublist_append_right _ _)⟩

/-! ### handles carried over -/

theorem keep_vals {w w' : World} {Φ : Bool → Nat → Prop} {cs : List C} {vs : List Value} {B : List Nat} (h : IsCs w Φ cs vs B) (hk : ∀ b ∈ B, w'.heap[b]? = w.heap[b]?) (p : List (Nat × Nat)) : valsAt w' cs vs p = valsAt w cs vs p ∧ addrAt w' cs vs p = addrAt w cs vs p := path_keep p cs vs B h hk

theorem look_is {w : World} {Φ : Bool → Nat → Prop} {ρ : Nat → List Value} {ob : List (Nat × O)} {B : List Nat} (h : IsOb w Φ ρ ob B) (hk : (ob.map (·.1)).Nodup) {k : Nat} {o : O} (hl : look ob k = some o) : ∃ Bk, (∀ b ∈ Bk, b ∈ B) ∧ IsCs w Φ o.cells (ρ k) Bk := by
  obtain ⟨X, Bk, Y, rfl, e2, _⟩ := IsOb.focus h hk hl
  exact ⟨Bk, fun b hb => by simp [hb], e2⟩

/-- The objects stand; the world may have grown. -/
theorem carry_same {w w' : World} {Φ Φ' : Bool → Nat → Prop} {ρ ρ' : Nat → List Value} {ob ob' : List (Nat × O)} {B : List Nat} (h : IsOb w Φ ρ ob B) (hk : (ob.map (·.1)).Nodup) (hkp : Keeps w w' Φ Φ' B) (hl : ∀ k o, look ob k = some o → look ob' k = some o ∧ ρ' k = ρ k) : Carry w w' Φ Φ' ob ob' ρ ρ' id id where
  mono := hkp.mono
  ro := hkp.ro
  nil := rfl
  cons _ _ := rfl
  fn _ _ := rfl
  tup _ := rfl
  rest _ _ := rfl
  vals k p off n := .inr ⟨k, fun _ => rfl, fun o vs h1 h2 h3 => by
    obtain ⟨Bk, hB, hc⟩ := look_is h hk h1
    obtain ⟨e1, e2⟩ := hl k o h1
    exact ⟨o, vs, e1, by rw [e2, (keep_vals hc (fun b hb => hkp.own b (hB b hb)) p).1]; exact h2, h3, rfl⟩⟩
  sub k p off sz lo hi := .inr ⟨k, rfl, fun o vs h1 h2 h3 => by
    obtain ⟨Bk, hB, hc⟩ := look_is h hk h1
    obtain ⟨e1, e2⟩ := hl k o h1
    exact ⟨o, vs, e1, by rw [e2, (keep_vals hc (fun b hb => hkp.own b (hB b hb)) p).1]; exact h2, h3, rfl⟩⟩
  ptr k p off := .inr ⟨k, rfl, fun o g a h1 h2 => by
    obtain ⟨Bk, hB, hc⟩ := look_is h hk h1
    obtain ⟨e1, e2⟩ := hl k o h1
    exact ⟨o, e1, by rw [e2, (keep_vals hc (fun b hb => hkp.own b (hB b hb)) p).2]; exact h2⟩⟩

/-- One object is another now, or gone; its handles are dead. -/
theorem carry_kill {w w' : World} {Φ Φ' : Bool → Nat → Prop} {ρ ρ' : Nat → List Value} {ob ob' : List (Nat × O)} {B : List Nat} (k0 : Nat) (h : IsOb w Φ ρ ob B) (hk : (ob.map (·.1)).Nodup) (mono : ∀ x b, Φ x b → Φ' x b) (ro : ∀ x b, Φ x b → w'.heap[b]? = w.heap[b]?)
    (hl : ∀ k o, k ≠ k0 → look ob k = some o → look ob' k = some o ∧ ρ' k = ρ k ∧ ∃ Bk, (∀ b ∈ Bk, w'.heap[b]? = w.heap[b]?) ∧ IsCs w Φ o.cells (ρ k) Bk) : Carry w w' Φ Φ' ob ob' ρ ρ' (killAll k0) (killAlls k0) where
  mono := mono
  ro := ro
  nil := rfl
  cons _ _ := rfl
  fn _ _ := rfl
  tup _ := rfl
  rest s hs := by cases s <;> first | rfl | exact hs.elim
  vals k p off n := by
    by_cases hkk : k = k0
    · exact .inl fun ag => by simp [killAll, hkk]
    · refine .inr ⟨k, fun ag => by simp [killAll, hkk], fun o vs h1 h2 h3 => ?_⟩
      obtain ⟨e1, e2, Bk, hB, hc⟩ := hl k o hkk h1
      exact ⟨o, vs, e1, by rw [e2, (keep_vals hc hB p).1]; exact h2, h3, rfl⟩
  sub k p off sz lo hi := by
    by_cases hkk : k = k0
    · exact .inl (by simp [killAll, hkk])
    · refine .inr ⟨k, by simp [killAll, hkk], fun o vs h1 h2 h3 => ?_⟩
      obtain ⟨e1, e2, Bk, hB, hc⟩ := hl k o hkk h1
      exact ⟨o, vs, e1, by rw [e2, (keep_vals hc hB p).1]; exact h2, h3, rfl⟩
  ptr k p off := by
    by_cases hkk : k = k0
    · exact .inl (by simp [killAll, hkk])
    · refine .inr ⟨k, by simp [killAll, hkk], fun o g a h1 h2 => ?_⟩
      obtain ⟨e1, e2, Bk, hB, hc⟩ := hl k o hkk h1
      exact ⟨o, e1, by rw [e2, (keep_vals hc hB p).2]; exact h2⟩

theorem range_same {vs vs' : List Value} {a n lo hi : Nat} (hlen : vs'.length = vs.length) (h : ∀ j, j < lo ∨ hi ≤ j → vs'[j]? = vs[j]?) (hd : a + n ≤ lo ∨ hi ≤ a) : (vs'.drop a).take n = (vs.drop a).take n := by
  apply List.ext_getElem?
  intro j
  rw [List.getElem?_take, List.getElem?_take]
  split
  · rw [List.getElem?_drop, List.getElem?_drop]
    exact h (a + j) (by omega)
  · rfl

/-- A write into a row of an object. -/
theorem carry_write {w w' : World} {Φ Φ' : Bool → Nat → Prop} {ρ : Nat → List Value} {ob : List (Nat × O)} {B : List Nat} {k0 : Nat} {o0 o1 : O} {p0 : List (Nat × Nat)} {off0 : Nat} {new : List C} {row : List C} {e : TypeId} {fz : Nat × Nat} {g a : Nat} {cur cur' : Array Value}
    (h : IsOb w Φ ρ ob B) (hk : (ob.map (·.1)).Nodup) (hnd : B.Nodup) (mono : ∀ x b, Φ x b → Φ' x b) (ro : ∀ x b, Φ x b → w'.heap[b]? = w.heap[b]?) (own : ∀ b ∈ B, b ≠ g → w'.heap[b]? = w.heap[b]?)
    (hl : look ob k0 = some o0) (hrow : getRow o0.cells p0 = some row) (hp : p0 ≠ []) (ha : addrAt w o0.cells (ρ k0) p0 = some (g, a)) (hg : w.heap[g]? = some (.cells cur e fz)) (hg' : w'.heap[g]? = some (.cells cur' e fz)) (hsize : cur'.size = cur.size)
    (hout : ∀ j, j < a + off0 ∨ a + off0 + new.length ≤ j → cur'[j]? = cur[j]?) (hfit : off0 + new.length ≤ row.length) (hset : setRow o0.cells p0 (setRange row off0 new) = some o1.cells) :
    Carry w w' Φ Φ' ob (put_ ob k0 o1) ρ ρ (killAt k0 p0 off0 new.length) (killAts k0 p0 off0 new.length) := by
  obtain ⟨X, Bk, Y, rfl, e2, e3, e4, e5⟩ := IsOb.focus h hk hl
  have hndk : Bk.Nodup := by simp only [List.nodup_append] at hnd; exact hnd.2.1.1
  obtain ⟨g9, a9, cur9, e9, fz9, X9, Br9, Y9, rv9, f1, f2, f3, f4, f5, f6, f7, f8, f9, _⟩ := place p0 o0.cells (ρ k0) Bk row e2 hndk hrow hp
  rw [f1] at ha
  simp only [Option.some.injEq, Prod.mk.injEq] at ha
  obtain ⟨rfl, rfl⟩ := ha
  rw [f5] at hg
  simp only [Option.some.injEq, Obj.cells.injEq] at hg
  obtain ⟨rfl, rfl, rfl⟩ := hg
  have hgk : g9 ∈ Bk := by rw [f3]; simp [f4]
  have hw := write_path f5 hg' hsize p0 o0.cells (ρ k0) Bk row a9 o1.cells e2 hndk hrow hp f1 hout (fun b hb hne => own b (by simp [hb]) hne) hfit hset
  have hother : ∀ k o, k ≠ k0 → look ob k = some o → look (put_ ob k0 o1) k = some o ∧ ∃ Bj, (∀ b ∈ Bj, w'.heap[b]? = w.heap[b]?) ∧ IsCs w Φ o.cells (ρ k) Bj := by
    intro k o hkk h1
    obtain ⟨Bj, hB, hc⟩ := e3 k o hkk h1
    refine ⟨by rw [look_put, if_neg hkk]; exact h1, Bj, fun b hb => own b ?_ ?_, hc⟩
    · have := hB b hb; simp at this ⊢; rcases this with h | h <;> simp [h]
    · rintro rfl
      have := hB b hb
      simp only [List.nodup_append, List.mem_append, ne_eq] at hnd this
      rcases this with h | h
      · exact hnd.2.2 b h b (.inl hgk) rfl
      · exact hnd.2.1.2.2 b hgk b h rfl
  have hself : look (put_ ob k0 o1) k0 = some o1 := by rw [look_put, if_pos rfl, hl]; rfl
  have hrl : ∀ vs, valsAt w o0.cells (ρ k0) p0 = some vs → vs = (cur9.toList.drop a9).take row.length := by
    intro vs hv
    rw [f2] at hv
    cases hv
    exact f8
  have main : ∀ k p off n, (k = k0 → p = p0 → ¬(off0 < off + n ∧ off < off0 + new.length)) → (k = k0 → through p0 off0 new.length p = false) → ∀ o vs, look ob k = some o → valsAt w o.cells (ρ k) p = some vs → off + n ≤ vs.length →
      ∃ o' vs', look (put_ ob k0 o1) k = some o' ∧ valsAt w' o'.cells (ρ k) p = some vs' ∧ off + n ≤ vs'.length ∧ (vs'.drop off).take n = (vs.drop off).take n := by
    intro k p off n hov hth o vs h1 h2 h3
    by_cases hkk : k = k0
    · subst hkk
      rw [hl] at h1
      cases h1
      by_cases hpp : p = p0
      · subst hpp
        have hvs := hrl vs h2
        refine ⟨o1, _, hself, hw.2, ?_, ?_⟩
        · rw [hvs] at h3
          simp at h3 ⊢
          omega
        · subst hvs
          have hd := hov rfl rfl
          refine range_same (lo := off0) (hi := off0 + new.length) (by simp [hsize]) ?_ (by omega)
          intro j hj
          rw [List.getElem?_take, List.getElem?_take]
          split
          · rw [List.getElem?_drop, List.getElem?_drop]
            simpa using hout (a9 + j) (by omega)
          · rfl
      · have := (hw.1 p (hth rfl)).2 hpp
        exact ⟨o1, vs, hself, by rw [this]; exact h2, h3, rfl⟩
    · obtain ⟨e1, Bj, hB, hc⟩ := hother k o hkk h1
      exact ⟨o, vs, e1, by rw [(keep_vals hc hB p).1]; exact h2, h3, rfl⟩
  refine { mono := mono, ro := ro, nil := rfl, cons := fun _ _ => rfl, fn := fun _ _ => rfl, tup := fun _ => rfl, rest := fun s hs => by cases s <;> first | rfl | exact hs.elim, vals := ?_, sub := ?_, ptr := ?_ }
  · intro k p off n
    by_cases hd : (k = k0 ∧ (p = p0 ∧ off0 < off + n ∧ off < off0 + new.length ∨ through p0 off0 new.length p = true))
    · exact .inl fun ag => by
        simp only [killAt, Bool.or_eq_true, Bool.and_eq_true, beq_iff_eq, decide_eq_true_eq]
        rw [if_pos]
        exact ⟨hd.1, by rcases hd.2 with h | h; exact .inl ⟨h.1, h.2.1, h.2.2⟩; exact .inr h⟩
    · refine .inr ⟨k, fun ag => ?_, main k p off n (fun a b c => hd ⟨a, .inl ⟨b, c⟩⟩) (fun a => by
        cases hh : through p0 off0 new.length p with
        | true => exact absurd ⟨a, .inr hh⟩ hd
        | false => rfl)⟩
      simp only [killAt, Bool.or_eq_true, Bool.and_eq_true, beq_iff_eq, decide_eq_true_eq]
      rw [if_neg]
      rintro ⟨a, b⟩
      exact hd ⟨a, by rcases b with h | h; exact .inl ⟨h.1, h.2.1, h.2.2⟩; exact .inr h⟩
  · intro k p off sz lo hi
    by_cases hd : (k = k0 ∧ (p = p0 ∧ off0 < off + 1 ∧ off < off0 + new.length ∨ through p0 off0 new.length p = true))
    · refine .inl ?_
      simp only [killAt, Bool.or_eq_true, Bool.and_eq_true, beq_iff_eq, decide_eq_true_eq]
      rw [if_pos]
      exact ⟨hd.1, by rcases hd.2 with h | h; exact .inl ⟨h.1, h.2.1, h.2.2⟩; exact .inr h⟩
    · refine .inr ⟨k, ?_, main k p off 1 (fun a b c => hd ⟨a, .inl ⟨b, c⟩⟩) (fun a => by
        cases hh : through p0 off0 new.length p with
        | true => exact absurd ⟨a, .inr hh⟩ hd
        | false => rfl)⟩
      simp only [killAt, Bool.or_eq_true, Bool.and_eq_true, beq_iff_eq, decide_eq_true_eq]
      rw [if_neg]
      rintro ⟨a, b⟩
      exact hd ⟨a, by rcases b with h | h; exact .inl ⟨h.1, h.2.1, h.2.2⟩; exact .inr h⟩
  · intro k p off
    by_cases hd : (k = k0 ∧ through p0 off0 new.length p = true)
    · refine .inl ?_
      simp only [killAt, Bool.and_eq_true, decide_eq_true_eq]
      rw [if_pos hd]
    · refine .inr ⟨k, ?_, ?_⟩
      · simp only [killAt, Bool.and_eq_true, decide_eq_true_eq]
        rw [if_neg hd]
      · intro o gg aa h1 h2
        by_cases hkk : k = k0
        · subst hkk
          rw [hl] at h1
          cases h1
          have hth : through p0 off0 new.length p = false := by
            cases hh : through p0 off0 new.length p with
            | true => exact absurd ⟨rfl, hh⟩ hd
            | false => rfl
          exact ⟨o1, hself, by rw [(hw.1 p hth).1]; exact h2⟩
        · obtain ⟨e1, Bj, hB, hc⟩ := hother k o hkk h1
          exact ⟨o, e1, by rw [(keep_vals hc hB p).2]; exact h2⟩

end Go.Proofs.Ytmkhdnpnjjdgfaa.Ev
