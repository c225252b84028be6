/- Rows of slices: joined, cut, packed; values that are made of parts. -/
import Derived.Test.YtmkhdnpnjjdgfaaMake
import Derived.Laws.MakeOwn
set_option linter.unusedVariables false
set_option linter.unusedSimpArgs false
namespace Go.Proofs.Ytmkhdnpnjjdgfaa.Ev
open Go Go.RowKit

theorem IsCRows.ext {w : World} {Φ : Bool → Nat → Prop} {sz : Nat} : ∀ {rows : List (List C)} {vs vs' : List Value} {B : List Nat}, IsCRows w Φ sz rows vs B → vs'.take (rows.length * sz) = vs.take (rows.length * sz) → IsCRows w Φ sz rows vs' B
  | [], vs, vs', B, h, _ => by simp only [IsCRows] at h ⊢; exact h
  | r :: rs, vs, vs', B, h, he => by
    simp only [IsCRows] at h ⊢
    obtain ⟨B1, B2, rfl, h2, h3, h4⟩ := h
    simp only [List.length_cons, Nat.succ_mul] at he
    have e1 : vs'.take sz = vs.take sz := by
      have := congrArg (List.take sz) he
      rwa [List.take_take, List.take_take, Nat.min_eq_left (by omega)] at this
    have e2 : (vs'.drop sz).take (rs.length * sz) = (vs.drop sz).take (rs.length * sz) := by
      have := congrArg (List.drop sz) he
      rwa [List.drop_take, List.drop_take, show rs.length * sz + sz - sz = rs.length * sz by omega] at this
    exact ⟨B1, B2, rfl, h2, by rw [e1]; exact h3, h4.ext e2⟩

theorem IsCRows.append {w : World} {Φ : Bool → Nat → Prop} {sz : Nat} : ∀ {rows rows' : List (List C)} {vs : List Value} {B B' : List Nat}, IsCRows w Φ sz rows vs B → IsCRows w Φ sz rows' (vs.drop (rows.length * sz)) B' → IsCRows w Φ sz (rows ++ rows') vs (B ++ B')
  | [], rows', vs, B, B', h, k => by
    simp only [IsCRows] at h
    subst h
    simpa using k
  | r :: rs, rows', vs, B, B', h, k => by
    simp only [IsCRows] at h
    obtain ⟨B1, B2, rfl, h2, h3, h4⟩ := h
    simp only [List.cons_append, IsCRows]
    refine ⟨B1, B2 ++ B', by simp [List.append_assoc], h2, h3, h4.append ?_⟩
    rw [List.drop_drop]
    rwa [List.length_cons, Nat.succ_mul, Nat.add_comm] at k

theorem packRows_is {w : World} {Φ : Bool → Nat → Prop} {sz : Nat} {rows : List (List C)} {v : Value} {B : List Nat} (h : OwnSl w sz rows.length v B (fun vs B' => IsCRows w Φ sz rows vs B')) : IsC w Φ (packRows sz rows) v B := by
  unfold packRows
  split
  · rename_i l hl
    simp only [IsC, IsO]
    rw [ownedRows_length hl]
    exact h.imp (fun _ _ => rfl) (fun vs B' _ k => IsCRows.ofOwned sz rows l vs B' hl k)
  · simp only [IsC]
    exact h

theorem chunk_is {w : World} {Φ : Bool → Nat → Prop} {sz : Nat} : ∀ (n : Nat) {cs : List C} {vs : List Value} {B : List Nat}, IsCs w Φ cs vs B → cs.length = n * sz → ∃ B', IsCRows w Φ sz (chunk sz n cs) vs B' ∧ (chunk sz n cs).length = n ∧ B'.Sublist B
  | 0, cs, vs, B, h, hl => ⟨[], by simp only [chunk, IsCRows], rfl, List.nil_sublist _⟩
  | n + 1, cs, vs, B, h, hl => by
    rw [Nat.succ_mul] at hl
    obtain ⟨B1, B2, rfl, h1, h2⟩ := h.split sz
    obtain ⟨B', h3, h4, h5⟩ := chunk_is (sz := sz) n h2 (by simp; omega)
    refine ⟨B1 ++ B', ?_, by simp [chunk, h4], List.Sublist.append (List.Sublist.refl _) h5⟩
    simp only [chunk, IsCRows]
    exact ⟨B1, B', rfl, by simp; omega, h1, h3⟩

/-- A value made of cells that are in nobody's hands. -/
theorem Rel.made {w : World} {Φ : Bool → Nat → Prop} {σ : F} {tm : List Value} {ρ : Nat → List Value} {B L : List Nat} {cs : List C} {vs : List Value} {ag : Bool} {v : Value} (h : Rel w Φ σ tm ρ B) (hL : Loose w Φ B L) (hc : IsCs w Φ cs vs L) (hv : valOf ag vs v) (d : Option Nat) (j : Nat) (hj : j < 8) :
    ∃ ρ' B', Rel w Φ (σ.made d j ag cs).1 tm ρ' B' ∧ SlotR w Φ (σ.made d j ag cs).1.ob ρ' (σ.made d j ag cs).2 v ∧ (∀ b ∈ B', b ∈ B ∨ b ∈ L) ∧ Same d ρ ρ' := by
  unfold F.made
  split
  · rename_i hf
    refine ⟨ρ, B, h, ?_, fun b hb => .inl hb, fun _ _ => rfl⟩
    simp only
    split
    · rename_i ts hts
      exact ofT_is (free_is h.sub (lentAll cs) hf hts (fun h => h) hc).2 hv
    · simp only [SlotR]
  · split
    · rename_i d
      obtain ⟨B', hR, hs⟩ := h.new (keyOf d j) { cells := cs } vs L hc hL
      refine ⟨_, _, hR, ?_, ?_, ?_⟩
      · simp only [SlotR]
        refine ⟨{ cells := cs }, vs, by simp [F.new, Ev.look], by simp [valsAt], by rw [hc.length]; omega, ?_⟩
        have : (vs.drop 0).take cs.length = vs := by rw [List.drop_zero, ← hc.length, List.take_length]
        rw [this]
        exact hv
      · intro b hb
        rcases List.mem_append.mp hb with hb | hb
        · exact .inr hb
        · exact .inl (hs.subset hb)
      · intro i hi
        have : i ≠ keyOf d j := newKey_keyOf hj hi
        simp [this]
    · exact ⟨ρ, B, h, by simp only [SlotR], fun b hb => .inl hb, fun _ _ => rfl⟩

/-- An owned slice, new under a key. -/
theorem Rel.newSlice {w : World} {Φ : Bool → Nat → Prop} {σ : F} {tm : List Value} {ρ : Nat → List Value} {B L : List Nat} {c : C} {v : Value} (h : Rel w Φ σ tm ρ B) (hL : Loose w Φ B L) (hc : IsC w Φ c v L) (d : Nat) :
    ∃ ρ' B', Rel w Φ ((σ.new (keyOf d 0) { cells := [c] }).put (some d) (.vw (keyOf d 0) [] 0 1 false)) (putL tm (some d) v) ρ' B' ∧ (∀ b ∈ B', b ∈ B ∨ b ∈ L) ∧ Same (some d) ρ ρ' := by
  obtain ⟨B', hR, hs⟩ := h.new (keyOf d 0) { cells := [c] } [v] L (by simp only [IsCs]; exact ⟨v, [], L, [], rfl, by simp, hc, rfl, rfl⟩) hL
  refine ⟨_, _, hR.put (some d) ?_, ?_, ?_⟩
  · simp only [SlotR]
    exact ⟨{ cells := [c] }, [v], by simp [F.new, Ev.look], by simp [valsAt], by simp, by simp⟩
  · intro b hb
    rcases List.mem_append.mp hb with hb | hb
    · exact .inr hb
    · exact .inl (hs.subset hb)
  · intro i hi
    have : i ≠ keyOf d 0 := newKey_keyOf (by decide) hi
    simp [this]

section
variable {P : Program} {e : Env} {σ : F} {ty : TypeId} {pos : String} {after : Array Edge} {gd : Option (Nat × Bool)}

theorem run_places (he : EnvOk P e) {w : World} : ∀ {fs : List Field} {l : List (Nat × Nat)}, fieldPlaces e fs = some l → (fs.mapM (m := Sem) fun f => do pure (f.offset, ← sizeOf f.type)).run P w = .ok l w
  | [], l, h => by
    simp only [fieldPlaces, Option.some.injEq] at h
    subst h
    simp
  | f :: r, l, h => by
    simp only [fieldPlaces] at h
    cases h1 : e.ty f.type with
    | none => simp [h1] at h
    | some w0 =>
      cases h2 : fieldPlaces e r with
      | none => simp [h1, h2] at h
      | some l' =>
        simp only [h1, h2, Option.some.injEq] at h
        subst h
        have ih := run_places he (w := w) h2
        simp only [List.mapM_cons, Sem.run_bind, he.run_sizeOf h1, Result.andThen_ok, Sem.run_pure, ih]

theorem run_placesA (he : EnvOk P e) {w : World} {fs : Array Field} {l : List (Nat × Nat)} (h : fieldPlaces e fs.toList = some l) : (fs.mapM (m := Sem) fun f => do pure (f.offset, ← sizeOf f.type)).run P w = .ok l.toArray w := by
  rw [Array.mapM_eq_mapM_toList, ← bind_pure_comp, Sem.run_bind, run_places he h]
  rfl

theorem ok_build (he : EnvOk P e) (t : TypeId) (v : TV) (parts : Array (Nat × Operand)) (place : Nat → Option (Nat × Nat)) (l : List (Nat × List C)) (cs : List C) (σ' : F) (d : Option Nat) (h : e.ty t = some v) (hpl : placesOf e v.desc = some place) (hp : partCells σ parts.toList = some (l, σ')) (hf : fillAt place (v.zero.map .ow) l = some cs) :
    OpStill P ⟨d, .build t parts, ty, pos, after, gd⟩ σ ((σ'.made d 0 true cs).1.put d (σ'.made d 0 true cs).2) := by
  intro w Φ tm ρ B ds hR
  obtain ⟨B1, L, hR1, hparts, hL, hB1, hLB⟩ := parts_is (ds := ds) hR hp
  obtain ⟨z, h1', h2, h3⟩ := he.run_zero h
  have hz := zeros_own (w := w) (Φ := Φ) h2
  obtain ⟨arr, L', f1, f2, f3, f4, f5⟩ := fill_is hparts hz List.nodup_nil hL.nd (by simp) hf
  have hL' : Loose w Φ B1 L' := ⟨f3, fun b hb => (f4 b hb).elim (by simp) (hL.apart b), fun b hb => (f4 b hb).elim (by simp) (hL.lt b), fun b hb => (f4 b hb).elim (by simp) (hL.disj b)⟩
  obtain ⟨ρ', B', hR', hS', hB', hρ'⟩ := hR1.made (ag := true) (v := .agg arr) hL' f2 (by simp [valOf]) d 0 (by decide)
  have hrun : ∀ w2, (Instr.build t (parts.map fun (i, x) => (i, (⟨tm.toArray, ds⟩ : Act).eval x))).run P w2 = .ok (.agg arr) w2 := by
    intro w2
    have h1 := h1' w2
    have hu := he.und h
    unfold placesOf at hpl
    simp only [Instr.build, Sem.run_bind, h1, Result.andThen_ok, run_underlying hu, Array.toList_map]
    split at hpl
    · rename_i fs hd
      simp only [Option.map_eq_some_iff] at hpl
      obtain ⟨lp, hlp, rfl⟩ := hpl
      have hfun : (fun (x : Nat) => lp.toArray[x]?) = fun (i : Nat) => lp[i]? := by funext i; simp
      simp only [hd, Sem.run_bind, run_placesA he (w := w2) hlp, Result.andThen_ok, hfun]
      rw [f1]
      rfl
    · rename_i n el hd
      simp only [Option.map_eq_some_iff] at hpl
      obtain ⟨w0, hw0, rfl⟩ := hpl
      simp only [hd, Sem.run_bind, he.run_sizeOf hw0, Result.andThen_ok, f1, Sem.run_pure]
    · cases hpl
  refine ⟨.agg arr, ρ', B', fun w2 _ => by simp only [execOp, Sem.run_bind, hrun w2, Result.andThen_ok, Sem.run_pure], hR'.put d hS', fun b hb => ?_, hρ'⟩
  rcases hB' b hb with hb | hb
  · exact hB1 b hb
  · rcases f4 b hb with hb | hb
    · cases hb
    · exact hLB b hb

end

end Go.Proofs.Ytmkhdnpnjjdgfaa.Ev
