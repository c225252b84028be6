/- The caller's state behind a call. -/
import Derived.Test.YtmkhdnpnjjdgfaaArgs
set_option linter.unusedVariables false
set_option linter.unusedSimpArgs false
namespace Go.Proofs.Ytmkhdnpnjjdgfaa.Ev
open Go Go.RowKit

theorem back_rel {w w' : World} {Φ Φ' : Bool → Nat → Prop} {σ : F} {tm : List Value} {ρ ρ' : Nat → List Value} {B B' B2 : List Nat} {ks : List Nat} {β : List (Nat × O)} {d : Option Nat} (h : Rel w Φ σ tm ρ B)
    (h2 : IsOb w Φ ρ (dropAll ks σ.ob) B2) (m2 : ∀ b ∈ B2, b ∈ B) (n2 : B2.Nodup)
    (hβ : IsOb w' Φ' ρ' β B') (hβk : (β.map (·.1)).Nodup) (hβn : B'.Nodup) (hβs : ∀ k ∈ β.map (·.1), k ∉ ks → look σ.ob k = none)
    (hd' : ∀ b ∈ B', ∀ x, ¬Φ' x b) (hlt' : ∀ b ∈ B', b < w'.heap.size) (hap : ∀ b ∈ B', b ∉ B2)
    (hsz : w.heap.size ≤ w'.heap.size) (mono : ∀ x b, Φ x b → Φ' x b) (ro : ∀ x b, Φ x b → w'.heap[b]? = w.heap[b]?) (blk : ∀ b ∈ B2, w'.heap[b]? = w.heap[b]?)
    (hd2 : ∀ b ∈ B2, ∀ x, ¬Φ' x b) (hltΦ : ∀ x b, Φ' x b → b < w'.heap.size) (hsub : ∀ b, Φ' false b → Φ' true b)
    (hS : ∀ k ∈ ks, newKey d k = false → ρ' k = ρ k) :
    Rel w' Φ' { sl := σ.sl.map (sift (stillV d ks β) (stillP d ks β)), ob := β ++ dropAll ks σ.ob } tm (fun k => if (β.map (·.1)).contains k then ρ' k else ρ k) (B' ++ B2) := by
  have hkβ : ∀ k ∈ β.map (·.1), look (dropAll ks σ.ob) k = none := by
    intro k hk
    rw [look_dropAll]
    split
    · rfl
    · rename_i hc; exact hβs k hk (by simpa using hc)
  let ρ'' : Nat → List Value := fun k => if (β.map (·.1)).contains k then ρ' k else ρ k
  have ρin : ∀ k ∈ β.map (·.1), ρ'' k = ρ' k := fun k hk => by simp only [ρ'']; rw [if_pos (by simpa using hk)]
  have ρout : ∀ k, k ∉ β.map (·.1) → ρ'' k = ρ k := fun k hk => by simp only [ρ'']; rw [if_neg (by simpa using hk)]
  have hdk : ∀ k ∈ (dropAll ks σ.ob).map (·.1), k ∉ β.map (·.1) := fun k hk hk' => by
    obtain ⟨o2, h2⟩ := look_of_mem hk
    rw [hkβ k hk'] at h2
    cases h2
  have hobs : IsOb w' Φ' ρ'' (β ++ dropAll ks σ.ob) (B' ++ B2) := by
    refine IsOb.append (hβ.keep (Keeps.refl _ _ _) ρin) (h2.keep ⟨mono, ro, blk⟩ fun k hk => ρout k (hdk k hk))
  have hnd' : (B' ++ B2).Nodup := by
    rw [List.nodup_append]
    exact ⟨hβn, n2, fun a ha b hb e => hap a ha (by rw [e]; exact hb)⟩
  have hkeys : ((β ++ dropAll ks σ.ob).map (·.1)).Nodup := by
    rw [List.map_append, List.nodup_append]
    refine ⟨hβk, dropAll_nodup h.keys, fun a ha b hb e => ?_⟩
    subst e
    exact hdk a hb ha
  have hlook : ∀ k, look (β ++ dropAll ks σ.ob) k = match look β k with | some o => some o | none => look (dropAll ks σ.ob) k := fun k => look_append
  have hover : Over w w' Φ Φ' σ.ob (β ++ dropAll ks σ.ob) ρ ρ'' (stillV d ks β) (stillP d ks β) := by
    have side : ∀ k ob1, ks.contains k = false → look σ.ob k = some ob1 → k ∉ β.map (·.1) ∧ look (β ++ dropAll ks σ.ob) k = some ob1 ∧ ∃ Bk, (∀ b ∈ Bk, w'.heap[b]? = w.heap[b]?) ∧ IsCs w Φ ob1.cells (ρ k) Bk := by
      intro k ob1 hc hl
      have hkb : k ∉ β.map (·.1) := fun hk => by
        rw [hβs k hk (by simpa using hc)] at hl
        cases hl
      have hl2 : look (dropAll ks σ.ob) k = some ob1 := by rw [look_dropAll, hc]; exact hl
      obtain ⟨Bk, q1, q2⟩ := look_is h2 (dropAll_nodup h.keys) hl2
      exact ⟨hkb, by rw [hlook, look_none_of hkb]; exact hl2, Bk, fun b hb => blk b (q1 b hb), q2⟩
    refine ⟨mono, ro, ?_, ?_⟩
    · intro k p hk o1 vs hl hv
      unfold stillV at hk
      cases hc : ks.contains k with
      | false =>
        obtain ⟨q1, q2, Bk, q3, q4⟩ := side k o1 hc hl
        exact ⟨o1, q2, by rw [ρout k q1, (keep_vals q4 q3 p).1]; exact hv⟩
      | true =>
        rw [hc] at hk
        simp only [Bool.not_true, Bool.false_or, Bool.and_eq_true, Bool.not_eq_true', List.isEmpty_iff] at hk
        obtain ⟨⟨rfl, hnk⟩, hsome⟩ := hk
        obtain ⟨o2, ho2⟩ := Option.isSome_iff_exists.mp hsome
        refine ⟨o2, by rw [hlook, ho2], ?_⟩
        simp only [valsAt] at hv ⊢
        rw [ρin k (look_mem ho2), hS k (by simpa using hc) hnk]
        exact hv
    · intro k p hk o1 g a hl hv
      unfold stillP at hk
      cases hc : ks.contains k with
      | false =>
        obtain ⟨q1, q2, Bk, q3, q4⟩ := side k o1 hc hl
        exact ⟨o1, q2, by rw [ρout k q1, (keep_vals q4 q3 p).2]; exact hv⟩
      | true =>
        rw [hc] at hk
        simp only [Bool.not_true, Bool.false_or, Bool.and_eq_true, Bool.not_eq_true', beq_iff_eq] at hk
        obtain ⟨⟨rfl, hnk⟩, hrow⟩ := hk
        unfold rowOk at hrow
        split at hrow
        · rename_i o2 ho2
          split at hrow
          · rename_i c' cr' hcells
            obtain ⟨r, hr⟩ := Option.isSome_iff_exists.mp hrow
            refine ⟨o2, by rw [hlook, ho2], ?_⟩
            rw [ρin k (look_mem ho2), hS k (by simpa using hc) hnk]
            simp only [addrAt] at hv
            cases hx : o1.cells[0]? with
            | none => simp [hx] at hv
            | some x =>
              cases hv0 : (ρ k)[0]? with
              | none => simp [hx, hv0] at hv
              | some v0 =>
                simp only [hx, hv0] at hv
                cases hst : stepAt w x v0 0 with
                | none => simp [hst] at hv
                | some q =>
                  obtain ⟨g0, a0, r0, rv0⟩ := q
                  simp only [hst, Option.some.injEq, Prod.mk.injEq] at hv
                  obtain ⟨rfl, rfl⟩ := hv
                  obtain ⟨Bk, q1, q2⟩ := look_is hβ hβk ho2
                  rw [hS k (by simpa using hc) hnk] at q2
                  have hx2 : o2.cells[0]? = some c' := by rw [hcells]; rfl
                  obtain ⟨Bx, q3, q4⟩ := q2.at_ hx2 hv0
                  obtain ⟨g1, a1, rv1, Br, s1, s2, _⟩ := stepAt_row q4 hr
                  simp only [addrAt, hx2, hv0, s1]
                  obtain ⟨z1, ad, n1, c1, z2, z3⟩ := stepAt_zero hst
                  obtain ⟨y1, ad', n2, c2, y2, y3⟩ := stepAt_zero s1
                  rw [z2] at y2
                  simp only [Value.slice.injEq, Option.some.injEq] at y2
                  rw [z1, y1, z3, y3, y2.1]
          · cases hrow
        · cases hrow
  refine ⟨hobs, hnd', hkeys, ?_, ?_, hltΦ, hsub, ?_⟩
  · intro b hb x hx
    rcases List.mem_append.mp hb with hb | hb
    · exact hd' b hb x hx
    · exact hd2 b hb x hx
  · intro b hb
    rcases List.mem_append.mp hb with hb | hb
    · exact hlt' b hb
    · exact Nat.lt_of_lt_of_le (h.lt b (m2 b hb)) hsz
  · exact slots_map (fun s v hs => hover.sift hs) h.slots

/-! ### the objects that are handed over, under numbers of their own -/

theorem numOf_get : ∀ {ks : List Nat} {k : Nat}, k ∈ ks → ks[numOf ks k]? = some k
  | [], k, h => by cases h
  | j :: r, k, h => by
    simp only [numOf]
    split
    · rename_i e; simp [e]
    · rename_i e
      rcases List.mem_cons.mp h with rfl | h
      · exact absurd rfl e
      · simp [numOf_get h]

theorem numOf_map : ∀ {ks : List Nat}, ks.Nodup → ks.map (numOf ks) = List.range ks.length
  | [], _ => rfl
  | j :: r, h => by
    simp only [List.nodup_cons] at h
    rw [List.map_cons, List.length_cons, List.range_succ_eq_map, ← numOf_map h.2, List.map_map]
    congr 1
    · simp [numOf]
    · apply List.map_congr_left
      intro k hk
      have : j ≠ k := by rintro rfl; exact h.1 hk
      simp [numOf, this]

theorem enter_look : ∀ {obs : List O} {i j : Nat}, look (enterObs obs i) (i + j) = obs[j]?
  | [], i, j => rfl
  | o :: r, i, 0 => by simp [enterObs, look]
  | o :: r, i, j + 1 => by
    simp only [enterObs, look]
    rw [if_neg (by omega)]
    have := enter_look (obs := r) (i := i + 1) (j := j)
    rw [show i + 1 + j = i + (j + 1) by omega] at this
    simpa using this

theorem zip_look : ∀ {ks : List Nat} {obs : List O} {j k : Nat}, ks.Nodup → ks[j]? = some k → look (zipO ks obs) k = obs[j]?
  | [], _, _, _, _, h => by simp at h
  | i :: r, [], j, k, _, _ => by simp [zipO, look]
  | i :: r, o :: os, 0, k, hn, h => by
    simp only [List.getElem?_cons_zero, Option.some.injEq] at h
    subst h
    simp [zipO, look]
  | i :: r, o :: os, j + 1, k, hn, h => by
    simp only [List.nodup_cons] at hn
    simp only [List.getElem?_cons_succ] at h ⊢
    have : i ≠ k := by
      rintro rfl
      exact hn.1 (List.mem_of_getElem? h)
    simp only [zipO, look]
    rw [if_neg this]
    exact zip_look hn.2 h

theorem enter_keys : ∀ (obs : List O) (i : Nat), (enterObs obs i).map (·.1) = (List.range obs.length).map (i + ·)
  | [], i => rfl
  | o :: r, i => by
    simp only [enterObs, List.map_cons, List.length_cons, List.range_succ_eq_map, enter_keys r (i + 1), List.map_map, Nat.add_zero]
    congr 1
    apply List.map_congr_left
    intro x _
    simp
    omega

theorem enter_is {w : World} {Φ : Bool → Nat → Prop} {ρ ρ' : Nat → List Value} : ∀ {ks : List Nat} {obs : List O} {i : Nat} {B : List Nat}, obs.length = ks.length → IsOb w Φ ρ (zipO ks obs) B → (∀ j k, ks[j]? = some k → ρ' (i + j) = ρ k) → IsOb w Φ ρ' (enterObs obs i) B
  | [], [], i, B, _, h, _ => h
  | [], _ :: _, _, _, hl, _, _ => by simp at hl
  | _ :: _, [], _, _, hl, _, _ => by simp at hl
  | k :: r, o :: os, i, B, hl, h, hρ => by
    obtain ⟨B1, B2, rfl, h2, h3⟩ := h
    refine ⟨B1, B2, rfl, ?_, enter_is (by simpa using hl) h3 fun j k' hj => ?_⟩
    · have := hρ 0 k rfl
      rw [Nat.add_zero] at this
      rw [this]
      exact h2
    · have := hρ (j + 1) k' (by simpa using hj)
      rw [show i + (j + 1) = i + 1 + j by omega] at this
      exact this

theorem enter_rel {w : World} {Φ : Bool → Nat → Prop} {ρ : Nat → List Value} {ks : List Nat} {obs : List O} {xs : List S} {vs : List Value} {B : List Nat} (hk : ks.Nodup) (hlen : obs.length = ks.length) (ho : IsOb w Φ ρ (zipO ks obs) B) (hs : SlotRs w Φ (zipO ks obs) ρ xs vs)
    (nd : B.Nodup) (disj : ∀ b ∈ B, ∀ x, ¬Φ x b) (lt : ∀ b ∈ B, b < w.heap.size) (ltΦ : ∀ x b, Φ x b → b < w.heap.size) (sub : ∀ b, Φ false b → Φ true b) :
    Rel w Φ { sl := S.renums (numOf ks) xs, ob := enterObs obs 0 } vs (fun j => ρ (ks.getD j 0)) B where
  obs := enter_is hlen ho fun j k hj => by simp [List.getD_eq_getElem?_getD, hj]
  nd := nd
  keys := by
    rw [enter_keys]
    simpa using List.nodup_range
  disj := disj
  lt := lt
  ltΦ := ltΦ
  sub := sub
  slots := by
    have key : ∀ k o, look (zipO ks obs) k = some o → look (enterObs obs 0) (numOf ks k) = some o ∧ ks.getD (numOf ks k) 0 = k := by
      intro k o hl
      have hm : k ∈ ks := by
        have := look_mem hl
        have e : ∀ {ks : List Nat} {obs : List O}, ∀ x ∈ (zipO ks obs).map (·.1), x ∈ ks := by
          intro ks
          induction ks with
          | nil => intro obs x hx; simp [zipO] at hx
          | cons i r ih =>
            intro obs x hx
            cases obs with
            | nil => simp [zipO] at hx
            | cons o os =>
              simp only [zipO, List.map_cons, List.mem_cons] at hx ⊢
              exact hx.imp id (ih x)
        exact e k this
      have hg := numOf_get hm
      refine ⟨?_, by simp [List.getD_eq_getElem?_getD, hg]⟩
      have := enter_look (obs := obs) (i := 0) (j := numOf ks k)
      rw [Nat.zero_add] at this
      rw [this, ← zip_look hk hg]
      exact hl
    have C : Carry w w Φ Φ (zipO ks obs) (enterObs obs 0) ρ (fun j => ρ (ks.getD j 0)) (S.renum (numOf ks)) (S.renums (numOf ks)) := by
      refine { mono := fun _ _ h => h, ro := fun _ _ _ => rfl, nil := rfl, cons := fun _ _ => rfl, fn := fun _ _ => rfl, tup := fun _ => rfl, rest := fun s hs => by cases s <;> first | rfl | exact hs.elim, vals := ?_, sub := ?_, ptr := ?_ }
      · intro k p off n
        refine .inr ⟨numOf ks k, fun ag => rfl, fun o vs h1 h2 h3 => ?_⟩
        obtain ⟨e1, e2⟩ := key k o h1
        exact ⟨o, vs, e1, by rw [e2]; exact h2, h3, rfl⟩
      · intro k p off sz lo hi
        refine .inr ⟨numOf ks k, rfl, fun o vs h1 h2 h3 => ?_⟩
        obtain ⟨e1, e2⟩ := key k o h1
        exact ⟨o, vs, e1, by rw [e2]; exact h2, h3, rfl⟩
      · intro k p off
        refine .inr ⟨numOf ks k, rfl, fun o g a h1 h2 => ?_⟩
        obtain ⟨e1, e2⟩ := key k o h1
        exact ⟨o, e1, by rw [e2]; exact h2⟩
    exact C.slots xs vs hs

theorem backs_look : ∀ {ks : List Nat} {os : List (Option O)} {j k : Nat}, ks.Nodup → ks[j]? = some k → look (backs ks os) k = (os[j]?).join
  | [], _, _, _, _, h => by simp at h
  | i :: r, [], j, k, _, _ => by simp [backs, look]
  | i :: r, o :: os, j, k, hn, h => by
    simp only [List.nodup_cons] at hn
    cases j with
    | zero =>
      simp only [List.getElem?_cons_zero, Option.some.injEq] at h
      subst h
      cases o with
      | some o => simp [backs, look]
      | none =>
        simp only [backs, List.getElem?_cons_zero, Option.join_some]
        cases hl : look (backs r os) i with
        | none => rfl
        | some o =>
          exfalso
          have e : ∀ {ks : List Nat} {os : List (Option O)}, ∀ x ∈ (backs ks os).map (·.1), x ∈ ks := by
            intro ks
            induction ks with
            | nil => intro obs x hx; simp [backs] at hx
            | cons i r ih =>
              intro obs x hx
              cases obs with
              | nil => simp [backs] at hx
              | cons o os =>
                cases o with
                | none => simp only [backs] at hx; exact List.mem_cons.mpr (.inr (ih x hx))
                | some o =>
                  simp only [backs, List.map_cons, List.mem_cons] at hx ⊢
                  exact hx.imp id (ih x)
          exact hn.1 (e i (look_mem hl))
    | succ j =>
      simp only [List.getElem?_cons_succ] at h ⊢
      have hik : i ≠ k := by
        rintro rfl
        exact hn.1 (List.mem_of_getElem? h)
      cases o with
      | some o =>
        simp only [backs, look]
        rw [if_neg hik]
        exact backs_look hn.2 h
      | none =>
        simp only [backs]
        exact backs_look hn.2 h

theorem backs_mem : ∀ {ks : List Nat} {os : List (Option O)}, ∀ x ∈ (backs ks os).map (·.1), x ∈ ks
  | [], _, x, hx => by simp [backs] at hx
  | i :: r, [], x, hx => by simp [backs] at hx
  | i :: r, none :: os, x, hx => by simp only [backs] at hx; exact List.mem_cons.mpr (.inr (backs_mem x hx))
  | i :: r, some o :: os, x, hx => by
    simp only [backs, List.map_cons, List.mem_cons] at hx ⊢
    exact hx.imp id (backs_mem x)

theorem backs_nodup : ∀ {ks : List Nat} {os : List (Option O)}, ks.Nodup → ((backs ks os).map (·.1)).Nodup
  | [], _, _ => by simp [backs]
  | i :: r, [], _ => by simp [backs]
  | i :: r, none :: os, h => by simp only [List.nodup_cons] at h; exact backs_nodup (ks := r) h.2
  | i :: r, some o :: os, h => by
    simp only [List.nodup_cons] at h
    simp only [backs, List.map_cons, List.nodup_cons]
    exact ⟨fun hm => h.1 (backs_mem i hm), backs_nodup h.2⟩

theorem backs_is {w : World} {Φ : Bool → Nat → Prop} {ρ : Nat → List Value} (g : Nat → Nat) : ∀ {ks : List Nat} {os : List (Option O)} {B : List Nat}, IsOb w Φ ρ (backs (ks.map g) os) B → IsOb w Φ (fun k => ρ (g k)) (backs ks os) B
  | [], _, _, h => h
  | i :: r, [], _, h => h
  | i :: r, none :: os, _, h => backs_is g (ks := r) h
  | i :: r, some o :: os, _, h => by
    obtain ⟨B1, B2, rfl, h2, h3⟩ := h
    exact ⟨B1, B2, rfl, h2, backs_is g (ks := r) h3⟩

/-! ### what holds nothing lent -/

section
variable {w : World} {Φ Φ' : Bool → Nat → Prop}

mutual
theorem IsC.plain (hf : ∀ b, Φ false b → Φ' false b) : ∀ (c : C) (v : Value) (B : List Nat), (C.lent c = true → ∀ b, Φ true b → Φ' true b) → IsC w Φ c v B → IsC w Φ' c v B
  | .im x t, v, B, ht, h => by
    simp only [IsC] at h ⊢
    refine ⟨h.1, ?_⟩
    cases t with
    | lit y => simpa only [IsT] using h.2
    | sl sz rows =>
      refine IsT.mono (fun b hb => ?_) (fun _ _ => rfl) _ _ h.2
      cases x with
      | false => exact hf b hb
      | true => exact ht (by simp [C.lent, T.isLit]) b hb
  | .ow t, v, B, ht, h => by simpa only [IsC] using h
  | .own sz rows, v, B, ht, h => by
    simp only [IsC] at h ⊢
    exact h.imp (fun _ _ => rfl) fun vs B' _ h' => IsCRows.plain hf sz rows vs B' (fun hl => ht (by simpa only [C.lent] using hl)) h'
  | .hole, v, B, ht, h => by simpa only [IsC] using h
theorem IsCs.plain (hf : ∀ b, Φ false b → Φ' false b) : ∀ (cs : List C) (vs : List Value) (B : List Nat), (lentAll cs = true → ∀ b, Φ true b → Φ' true b) → IsCs w Φ cs vs B → IsCs w Φ' cs vs B
  | [], _, _, _, h => by simpa only [IsCs] using h
  | c :: cs, vs, B, ht, h => by
    simp only [IsCs] at h ⊢
    obtain ⟨v, vs', B1, B2, h1, h2, h3, h4⟩ := h
    exact ⟨v, vs', B1, B2, h1, h2, IsC.plain hf c v B1 (fun hl => ht (by simp [lentAll, hl])) h3, IsCs.plain hf cs vs' B2 (fun hl => ht (by simp [lentAll, hl])) h4⟩
theorem IsCRows.plain (hf : ∀ b, Φ false b → Φ' false b) (sz : Nat) : ∀ (rs : List (List C)) (vs : List Value) (B : List Nat), (lentRows rs = true → ∀ b, Φ true b → Φ' true b) → IsCRows w Φ sz rs vs B → IsCRows w Φ' sz rs vs B
  | [], _, _, _, h => by simpa only [IsCRows] using h
  | r :: rs, vs, B, ht, h => by
    simp only [IsCRows] at h ⊢
    obtain ⟨B1, B2, h1, h2, h3, h4⟩ := h
    exact ⟨B1, B2, h1, h2, IsCs.plain hf r _ B1 (fun hl => ht (by simp [lentRows, hl])) h3, IsCRows.plain hf sz rs _ B2 (fun hl => ht (by simp [lentRows, hl])) h4⟩
end

theorem backs_plain {ρ : Nat → List Value} (hf : ∀ b, Φ false b → Φ' false b) : ∀ {ks : List Nat} {os : List (Option O)} {B : List Nat}, (lentO os = true → ∀ b, Φ true b → Φ' true b) → IsOb w Φ ρ (backs ks os) B → IsOb w Φ' ρ (backs ks os) B
  | [], _, _, _, h => h
  | i :: r, [], _, _, h => h
  | i :: r, none :: os, _, ht, h => backs_plain hf (ks := r) (fun hl => ht (by simpa only [lentO] using hl)) h
  | i :: r, some o :: os, _, ht, h => by
    obtain ⟨B1, B2, rfl, h2, h3⟩ := h
    exact ⟨B1, B2, rfl, IsCs.plain hf _ _ _ (fun hl => ht (by simp [lentO, hl])) h2, backs_plain hf (fun hl => ht (by simp [lentO, hl])) h3⟩

end

end Go.Proofs.Ytmkhdnpnjjdgfaa.Ev
