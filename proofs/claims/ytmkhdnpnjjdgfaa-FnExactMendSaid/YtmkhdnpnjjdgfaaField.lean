/- Fields and elements of values, slices of slices, lengths, bytes to a string. -/
import Derived.Test.YtmkhdnpnjjdgfaaAddr
set_option linter.unusedVariables false
set_option linter.unusedSimpArgs false
namespace Go.Proofs.Ytmkhdnpnjjdgfaa.Ev
open Go Go.RowKit

theorem IsC.len_is {w : World} {Φ : Bool → Nat → Prop} {c : C} {v : Value} {B : List Nat} {n : Nat} (h : IsC w Φ c v B) (hn : c.len = some n) : ∃ a cap, v = .slice a n cap ∧ n ≤ cap := by
  have own : ∀ {sz m : Nat} {R : List Value → List Nat → Prop}, OwnSl w sz m v B R → m = n → ∃ a cap, v = .slice a n cap ∧ n ≤ cap := by
    intro sz m R h e
    subst e
    rcases h with ⟨rfl, rfl, _⟩ | ⟨g, cap, cur, e, fz, B', rfl, _, _, h4, _⟩
    · exact ⟨none, 0, rfl, Nat.le_refl _⟩
    · exact ⟨_, cap, rfl, h4.2⟩
  cases c with
  | im b t =>
    cases t with
    | lit x => simp [C.len] at hn
    | sl sz rows =>
      simp only [C.len, Option.some.injEq] at hn
      subst hn
      simp only [IsC, IsT] at h
      obtain ⟨_, a, cap, rfl, h2, _⟩ := h
      exact ⟨a, cap, rfl, h2⟩
  | ow t =>
    cases t with
    | lit x => simp [C.len] at hn
    | sl sz rows =>
      simp only [C.len, Option.some.injEq] at hn
      simp only [IsC, IsO] at h
      exact own h hn
  | own sz rows =>
    simp only [C.len, Option.some.injEq] at hn
    simp only [IsC] at h
    exact own h hn
  | hole => simp [C.len] at hn

theorem IsT.slice {w : World} {φ : Nat → Prop} {sz : Nat} {rows : List (List T)} {a : Option Addr} {len cap lo hi : Nat} (h : IsT w φ (.sl sz rows) (.slice a len cap)) (h1 : lo ≤ hi) (h2 : hi ≤ rows.length) :
    ∀ a', (cap ≠ lo → a' = a.map (·.add (lo * sz))) → IsT w φ (.sl sz ((rows.drop lo).take (hi - lo))) (.slice a' (hi - lo) (cap - lo)) := by
  intro a2 ha2
  simp only [IsT] at h ⊢
  obtain ⟨a', cap', e, h4, h5⟩ := h
  simp only [Value.slice.injEq] at e
  obtain ⟨rfl, rfl, rfl⟩ := e
  have hl : ((rows.drop lo).take (hi - lo)).length = hi - lo := by simp; omega
  refine ⟨_, cap - lo, by rw [hl], by rw [hl]; omega, ?_⟩
  by_cases hh : hi = lo
  · left; simp [hh]
  · right
    rcases h5 with rfl | ⟨b, o, cur, e, fz, rfl, h6, h7, h8⟩
    · simp at h2; omega
    · rw [ha2 (by omega)]
      refine ⟨b, o + lo * sz, cur, e, fz, by simp [Addr.add_lit], h6, h7, ?_⟩
      have := (h8.drop lo).take (hi - lo)
      rw [List.drop_drop] at this
      exact this

theorem one_cells {v : Value} (h : one v) : v.cells.toList = [v] := by
  cases v <;> first | rfl | (simp [one, Value.oneCell'] at h; done)

theorem take_one {w : World} {Φ : Bool → Nat → Prop} {c : C} {vs : List Value} {off : Nat} {B : List Nat} (h : IsCs w Φ [c] ((vs.drop off).take 1) B) : ∃ v, (vs.drop off).take 1 = [v] ∧ IsC w Φ c v B := by
  simp only [IsCs] at h
  obtain ⟨v, vs', B1, B2, e, rfl, h3, rfl, rfl⟩ := h
  exact ⟨v, e, by simpa using h3⟩

/-- What a slot's value is, read. -/
theorem freeOf_is {w : World} {Φ : Bool → Nat → Prop} {σ : F} {tm : List Value} {ρ : Nat → List Value} {B : List Nat} (hR : Rel w Φ σ tm ρ B) {s : S} {v : Value} {ts : List T} (h : σ.freeOf s = some ts) (hs : SlotR w Φ σ.ob ρ s v) :
    IsTs w (fun b => Φ true b ∨ b ∈ B) ts v.cells.toList := by
  have hΦ : ∀ x b, Φ x b → (Φ true b ∨ b ∈ B) := fun x b hb => .inl (by cases x; exact hR.sub b hb; exact hb)
  unfold F.freeOf at h
  split at h
  · simp only [Option.some.injEq] at h
    subst h
    simp only [SlotR] at hs
    obtain ⟨rfl, h1⟩ := hs
    rw [one_cells h1]
    simp only [IsTs, IsT]
    exact ⟨_, [], rfl, ⟨rfl, h1⟩, rfl⟩
  · simp only [Option.some.injEq] at h
    subst h
    simp only [SlotR] at hs
    rw [one_cells hs.one]
    simp only [IsTs]
    exact ⟨v, [], rfl, IsT.mono (hΦ _) (fun _ _ => rfl) _ _ hs, rfl⟩
  · simp only [Option.some.injEq] at h
    subst h
    simp only [SlotR] at hs
    obtain ⟨vs, rfl, h2⟩ := hs
    exact IsTs.mono (hΦ _) (fun _ _ => rfl) _ _ h2
  · simp only [Option.some.injEq] at h
    subst h
    simp only [SlotR] at hs
    subst hs
    rw [one_cells (one_slice _ _ _)]
    simp only [IsTs, IsT]
    exact ⟨_, [], rfl, ⟨none, 0, rfl, Nat.le_refl _, .inl trivial⟩, rfl⟩
  · rename_i k p off n ag
    split at h
    · rename_i cs hc
      obtain ⟨o, vs, Bc, c1, c2, c3, c4, c5, c6, _⟩ := hR.cells hc
      simp only [SlotR] at hs
      obtain ⟨o', vs', h1, h2, h3, h4⟩ := hs
      rw [h1] at c1; cases c1
      rw [h2] at c2; cases c2
      have := IsCs.toT hΦ cs ts _ Bc h (fun b hb => .inr (c4 b hb)) c5
      cases ag with
      | true =>
        simp only [if_true] at h4
        subst h4
        simpa [Value.cells] using this
      | false =>
        simp only [Bool.false_eq_true, if_false] at h4
        rw [h4] at this c5
        have h1v : one v := by
          cases cs with
          | nil => simp [IsCs] at c5
          | cons c cs =>
            simp only [IsCs] at c5
            obtain ⟨v', vs', B1, B2, e, _, hC, _⟩ := c5
            simp only [List.cons.injEq] at e
            rw [e.1]
            exact hC.one
        rw [one_cells h1v]
        exact this
    · cases h
  · rename_i k p off sz lo hi
    split at h
    · rename_i c hc
      obtain ⟨o, vs, Bc, c1, c2, c3, c4, c5, c6, _⟩ := hR.cells hc
      simp only [SlotR] at hs
      obtain ⟨o', vs', a, len, cap, h1, h2, h3, h4, h5, h6, h7, a', ha', rfl⟩ := hs
      rw [h1] at c1; cases c1
      rw [h2] at c2; cases c2
      obtain ⟨v', e1, hC⟩ := take_one c5
      rw [h4] at e1
      simp only [List.cons.injEq, and_true] at e1
      subst e1
      split at h
      · rename_i sz' rows hct
        split at h
        · rename_i hcond
          simp only [Option.some.injEq] at h
          subst h
          obtain ⟨rfl, hlo, hhi⟩ := hcond
          have := IsC.toT hΦ c _ _ Bc hct (fun b hb => .inr (c4 b hb)) hC
          rw [one_cells (one_slice _ _ _)]
          simp only [IsTs]
          exact ⟨_, [], rfl, this.slice hlo hhi a' ha', rfl⟩
        · cases h
      · cases h
    · cases h
  · cases h

theorem free1_is {w : World} {Φ : Bool → Nat → Prop} {σ : F} {tm : List Value} {ρ : Nat → List Value} {B : List Nat} (hR : Rel w Φ σ tm ρ B) {s : S} {v : Value} {t : T} (h : σ.free1 s = some t) (hs : SlotR w Φ σ.ob ρ s v) :
    IsT w (fun b => Φ true b ∨ b ∈ B) t v := by
  have main : (∀ b ts, s ≠ .agg b ts) → (∀ k p off n, s ≠ .vw k p off n true) → ∀ t, σ.freeOf s = some [t] → IsT w (fun b => Φ true b ∨ b ∈ B) t v := by
    intro n1 n2 t ht
    have h1 := freeOf_is hR ht hs
    have h2 : one v := by
      cases s with
      | agg b ts => exact absurd rfl (n1 b ts)
      | vw k p off n ag =>
        cases ag with
        | true => exact absurd rfl (n2 k p off n)
        | false =>
          simp only [F.freeOf] at ht
          split at ht
          · rename_i cs hc
            obtain ⟨o, vs, Bc, c1, c2, c3, c4, c5, c6, _⟩ := hR.cells hc
            simp only [SlotR, Bool.false_eq_true, if_false] at hs
            obtain ⟨o', vs', q1, q2, q3, q4⟩ := hs
            rw [q1] at c1; cases c1
            rw [q2] at c2; cases c2
            rw [q4] at c5
            cases cs with
            | nil => simp [IsCs] at c5
            | cons c cs =>
              simp only [IsCs] at c5
              obtain ⟨v', vs', B1, B2, e, _, hC, _⟩ := c5
              simp only [List.cons.injEq] at e
              rw [e.1]
              exact hC.one
          · cases ht
      | lit x => simp only [SlotR] at hs; rw [hs.1]; exact hs.2
      | val b t => simp only [SlotR] at hs; exact hs.one
      | nils => simp only [SlotR] at hs; subst hs; exact one_slice _ _ _
      | sub k p off sz lo hi => simp only [SlotR] at hs; obtain ⟨o, vs, a, len, cap, _, _, _, _, _, _, _, a', _, rfl⟩ := hs; exact one_slice _ _ _
      | _ => simp [F.freeOf] at ht
    rw [one_cells h2] at h1
    simp only [IsTs] at h1
    obtain ⟨v', vs', e, h3, _⟩ := h1
    simp only [List.cons.injEq] at e
    rw [e.1]
    exact h3
  unfold F.free1 at h
  split at h
  · cases h
  · cases h
  · rename_i n1 n2
    split at h
    · rename_i t' ht
      simp only [Option.some.injEq] at h
      subst h
      exact main (fun b ts => n1 b ts) (fun k p off n => n2 k p off n) _ ht
    · cases h

theorem lenS_is {w : World} {Φ : Bool → Nat → Prop} {σ : F} {tm : List Value} {ρ : Nat → List Value} {B : List Nat} (hR : Rel w Φ σ tm ρ B) {s : S} {v : Value} {n : Nat} (h : lenS σ s = some n) (hs : SlotR w Φ σ.ob ρ s v) :
    (∃ b, s = .lit (.string b) ∧ v = .string b ∧ b.size = n) ∨ ((∀ x, s ≠ .lit x) ∧ ∃ a cap, v = .slice a n cap ∧ n ≤ cap) := by
  unfold lenS at h
  split at h
  · simp only [Option.some.injEq] at h
    subst h
    simp only [SlotR] at hs
    subst hs
    exact .inr ⟨fun _ e => (by cases e), none, 0, rfl, Nat.le_refl _⟩
  · simp only [Option.some.injEq] at h
    exact .inl ⟨_, rfl, slot_lit hs, h⟩
  · simp only [Option.some.injEq] at h
    subst h
    simp only [SlotR, IsT] at hs
    obtain ⟨a, cap, rfl, h2, _⟩ := hs
    exact .inr ⟨fun _ e => (by cases e), a, cap, rfl, h2⟩
  · split at h
    · rename_i c hc
      obtain ⟨o, vs, Bc, c1, c2, c3, c4, c5, c6, _⟩ := hR.cells hc
      simp only [SlotR, Bool.false_eq_true, if_false] at hs
      obtain ⟨o', vs', h1, h2, h3, h4⟩ := hs
      rw [h1] at c1; cases c1
      rw [h2] at c2; cases c2
      obtain ⟨v', e1, hC⟩ := take_one c5
      rw [h4] at e1
      simp only [List.cons.injEq, and_true] at e1
      subst e1
      obtain ⟨a, cap, rfl, hle⟩ := hC.len_is h
      exact .inr ⟨fun _ e => (by cases e), a, cap, rfl, hle⟩
    · cases h
  · simp only [Option.some.injEq] at h
    subst h
    simp only [SlotR] at hs
    obtain ⟨o, vs, a, len, cap, h1, h2, h3, h4, h5, h6, h7, a', ha', rfl⟩ := hs
    exact .inr ⟨fun _ e => (by cases e), _, _, rfl, by omega⟩
  · cases h


/-! ### slices of slices -/

def OptV : Option Value → Option Int → Prop
  | none, none => True
  | some v, some n => ∃ k, v = .int k n
  | _, _ => False

section
variable {P : Program} {e : Env}

theorem run_bound {k : IntKind} {n : Int} {y : Nat} {code : BoundsCode} {w : World} (h : 0 ≤ n) (h2 : n ≤ y) : (Instr.sliceBound (.int k n) y code).run P w = .ok n.toNat w := by
  have : 0 ≤ n ∧ n ≤ y := ⟨h, h2⟩
  simp only [Instr.sliceBound, asIntOf, Sem.run_bind, Sem.run_pure, Result.andThen_ok, this, and_self, if_true]

theorem run_bounds {isS : Bool} {len cap : Nat} {lo hi : Option Value} {l h : Option Int} {w : World} (hl : OptV lo l) (hh : OptV hi h) (h0 : 0 ≤ l.getD 0) (h1 : l.getD 0 ≤ h.getD len) (h2 : h.getD len ≤ len) (h3 : len ≤ cap) :
    (Instr.sliceBounds isS len cap lo hi none).run P w = .ok ((l.getD 0).toNat, (h.getD len).toNat, cap) w := by
  cases hi with
  | none =>
    cases h with
    | some n => exact hh.elim
    | none =>
      simp only [Option.getD_none] at h1 h2
      cases lo with
      | none =>
        cases l with
        | some n => exact hl.elim
        | none => simp [Instr.sliceBounds]
      | some v =>
        cases l with
        | none => exact hl.elim
        | some n =>
          obtain ⟨k, rfl⟩ := hl
          simp only [Option.getD_some] at h0 h1
          simp [Instr.sliceBounds, run_bound h0 h1]
  | some v =>
    cases h with
    | none => exact hh.elim
    | some m =>
      obtain ⟨k, rfl⟩ := hh
      simp only [Option.getD_some] at h1 h2
      have hm0 : 0 ≤ m := by omega
      have hm1 : m ≤ (cap : Int) := by omega
      cases lo with
      | none =>
        cases l with
        | some n => exact hl.elim
        | none => simp [Instr.sliceBounds, run_bound hm0 hm1]
      | some v =>
        cases l with
        | none => exact hl.elim
        | some n =>
          obtain ⟨k, rfl⟩ := hl
          simp only [Option.getD_some] at h0 h1
          have hn1 : n ≤ (m.toNat : Int) := by omega
          simp [Instr.sliceBounds, run_bound hm0 hm1, run_bound h0 hn1]

theorem run_slice_sl {t el : TypeId} {m : Nat} {a : Option Addr} {len cap : Nat} {lo hi : Option Value} {l h : Option Int} {w : World} (ht : P.underlying t = some (.slice el)) (hm : (sizeOf el).run P w = .ok m w) (hl : OptV lo l) (hh : OptV hi h) (h0 : 0 ≤ l.getD 0) (h1 : l.getD 0 ≤ h.getD len) (h2 : h.getD len ≤ len) (h3 : len ≤ cap) :
    (Instr.sliceAt t (.slice a len cap) lo hi none).run P w = .ok (.slice (if cap = (l.getD 0).toNat then a else a.map (·.add ((l.getD 0).toNat * m))) ((h.getD len).toNat - (l.getD 0).toNat) (cap - (l.getD 0).toNat)) w := by
  simp only [Instr.sliceAt, Sem.run_bind, run_underlying ht, Result.andThen_ok, Instr.slice, run_bounds hl hh h0 h1 h2 h3, hm, Sem.run_pure]

theorem run_slice_str {t : TypeId} {s : ByteArray} {lo hi : Option Value} {l h : Option Int} {w : World} (ht : P.underlying t = some .string) (hl : OptV lo l) (hh : OptV hi h) (h0 : 0 ≤ l.getD 0) (h1 : l.getD 0 ≤ h.getD s.size) (h2 : h.getD s.size ≤ s.size) :
    (Instr.sliceAt t (.string s) lo hi none).run P w = .ok (.string (s.extract (l.getD 0).toNat (h.getD s.size).toNat)) w := by
  simp only [Instr.sliceAt, Sem.run_bind, run_underlying ht, Result.andThen_ok, Instr.slice, Option.isSome_none, Bool.false_eq_true, if_false, Sem.run_pure, run_bounds hl hh h0 h1 h2 (Nat.le_refl _)]

theorem szOk_is (he : EnvOk P e) {el : TypeId} {sz n : Nat} (h : szOk e el sz n = true) : ∃ m, (∀ w, (sizeOf el).run P w = .ok m w) ∧ (n = 0 ∨ m = sz) := by
  unfold szOk at h
  split at h
  · rename_i w0 hw
    refine ⟨w0.cells, fun w => he.run_sizeOf hw w, ?_⟩
    simpa using h
  · cases h

theorem slice_is (he : EnvOk P e) {σ : F} {w : World} {Φ : Bool → Nat → Prop} {tm : List Value} {ρ : Nat → List Value} {B : List Nat} (hR : Rel w Φ σ tm ρ B) {t : TypeId} {x s : S} {xv : Value} {lo hi : Option Value} {l h : Option Int} (hx : SlotR w Φ σ.ob ρ x xv) (hl : OptV lo l) (hh : OptV hi h) (hs : sliceIt e σ t x l h = some s) :
    ∃ v, (∀ w2, (Instr.sliceAt t xv lo hi none).run P w2 = .ok v w2) ∧ SlotR w Φ σ.ob ρ s v := by
  unfold sliceIt at hs
  split at hs
  · rename_i tv n ht hn
    have hu := he.und ht
    have hlen := lenS_is hR hn hx
    simp only at hs
    split at hs
    · rename_i hc
      obtain ⟨h0, h1, h2⟩ := hc
      have e0 : (l.getD 0).toNat ≤ (h.getD n).toNat := by omega
      have e1 : (h.getD n).toNat ≤ n := by omega
      split at hs
      · rename_i el hd
        split at hs
        · rename_i hel
          simp only [Option.some.injEq] at hs
          subst hs
          obtain ⟨w0, hw0⟩ := Option.isSome_iff_exists.mp hel
          simp only [lenS, Option.some.injEq] at hn
          subst hn
          simp only [SlotR] at hx
          subst hx
          rw [hd] at hu
          refine ⟨_, fun w2 => run_slice_sl hu (he.run_sizeOf hw0 w2) hl hh h0 h1 h2 (Nat.le_refl _), ?_⟩
          have e3 : (l.getD 0).toNat = 0 := by omega
          have e4 : (h.getD ((0 : Nat) : Int)).toNat = 0 := by omega
          simp only [SlotR, e3, e4]
          rfl
        · cases hs
      · rename_i b hd
        simp only [Option.some.injEq] at hs
        subst hs
        rw [hd] at hu
        simp only [lenS, Option.some.injEq] at hn
        subst hn
        rw [slot_lit hx]
        exact ⟨_, fun w2 => run_slice_str hu hl hh h0 h1 h2, lit_slot rfl⟩
      · rename_i el b sz rows hd
        split at hs
        · rename_i hsz
          simp only [Option.some.injEq] at hs
          subst hs
          rw [hd] at hu
          obtain ⟨m, hm, hmz⟩ := szOk_is he hsz
          simp only [lenS, Option.some.injEq] at hn
          subst hn
          simp only [SlotR] at hx ⊢
          have hx' := hx
          simp only [IsT] at hx'
          obtain ⟨a, cap, rfl, hcap, _⟩ := hx'
          refine ⟨_, fun w2 => run_slice_sl hu (hm w2) hl hh h0 h1 h2 hcap, ?_⟩
          have e5 : (l.getD 0).toNat * m = (l.getD 0).toNat * sz := by
            rcases hmz with h | h
            · rw [show (l.getD 0).toNat = 0 by omega, Nat.zero_mul, Nat.zero_mul]
            · rw [h]
          rw [e5]
          exact hx.slice e0 e1 _ (fun hne => by rw [if_neg hne])
        · cases hs
      · rename_i el k p off hd
        split at hs
        · rename_i c hc
          split at hs
          · rename_i sz hcsz
            split at hs
            · rename_i hsz
              simp only [Option.some.injEq] at hs
              subst hs
              rw [hd] at hu
              obtain ⟨m, hm, hmz⟩ := szOk_is he hsz
              rcases hlen with ⟨b, e, _⟩ | ⟨_, a, cap, rfl, hcap⟩
              · cases e
              · simp only [SlotR, Bool.false_eq_true, if_false] at hx ⊢
                obtain ⟨o, vs, q1, q2, q3, q4⟩ := hx
                refine ⟨_, fun w2 => run_slice_sl hu (hm w2) hl hh h0 h1 h2 hcap, o, vs, a, n, cap, q1, q2, q3, q4, e0, e1, hcap, _, ?_, rfl⟩
                have e5 : (l.getD 0).toNat * m = (l.getD 0).toNat * sz := by
                  rcases hmz with h | h
                  · rw [show (l.getD 0).toNat = 0 by omega, Nat.zero_mul, Nat.zero_mul]
                  · rw [h]
                rw [e5]
                intro hne
                rw [if_neg hne]
            · cases hs
          · cases hs
        · cases hs
      · rename_i el k p off sz lo' hi' hd
        split at hs
        · rename_i hsz
          simp only [Option.some.injEq] at hs
          subst hs
          rw [hd] at hu
          obtain ⟨m, hm, hmz⟩ := szOk_is he hsz
          simp only [lenS, Option.some.injEq] at hn
          subst hn
          simp only [SlotR] at hx ⊢
          obtain ⟨o, vs, a, len, cap, q1, q2, q3, q4, q5, q6, q7, a', ha', rfl⟩ := hx
          have e5 : (l.getD 0).toNat * m = (l.getD 0).toNat * sz := by
            rcases hmz with h | h
            · rw [show (l.getD 0).toNat = 0 by omega, Nat.zero_mul, Nat.zero_mul]
            · rw [h]
          have hrun := fun w2 => run_slice_sl (P := P) (a := a') (w := w2) hu (hm w2) hl hh h0 h1 h2 (show hi' - lo' ≤ cap - lo' by omega)
          rw [e5] at hrun
          clear hlen
          generalize (l.getD 0).toNat = L at *
          generalize (h.getD ((hi' - lo' : Nat) : Int)).toNat = H at *
          have e6 : lo' + H - (lo' + L) = H - L := by omega
          have e7 : cap - (lo' + L) = cap - lo' - L := by omega
          refine ⟨_, hrun, o, vs, a, len, cap, q1, q2, q3, q4, by omega, by omega, q7, _, ?_, by rw [e6, e7]⟩
          intro hne
          rw [if_neg (by omega), ha' (by omega)]
          cases a with
          | none => rfl
          | some a =>
            simp only [Option.map_some, Addr.add, Nat.add_mul]
            by_cases c3 : lo' * sz = 0
            · simp [c3]
            · by_cases c4 : L * sz = 0
              · simp [c3, c4]
              · simp [c3, c4, Nat.add_assoc]
        · cases hs
      · cases hs
    · cases hs
  · cases hs

end

end Go.Proofs.Ytmkhdnpnjjdgfaa.Ev
