/- A frame's state and the memory that it stands for. -/
import Derived.Test.YtmkhdnpnjjdgfaaWrite
set_option linter.unusedVariables false
set_option linter.unusedSimpArgs false
namespace Go.Proofs.Ytmkhdnpnjjdgfaa.Ev
open Go Go.RowKit

/-- The objects, one behind the other: ρ tells an object's values, the list its blocks. -/
def IsOb (w : World) (Φ : Bool → Nat → Prop) (ρ : Nat → List Value) : List (Nat × O) → List Nat → Prop
  | [], B => B = []
  | (k, o) :: r, B => ∃ B1 B2, B = B1 ++ B2 ∧ IsCs w Φ o.cells (ρ k) B1 ∧ IsOb w Φ ρ r B2

mutual
/-- A slot and what it stands for. -/
def SlotR (w : World) (Φ : Bool → Nat → Prop) (ob : List (Nat × O)) (ρ : Nat → List Value) : S → Value → Prop
  | .dead, _ => True
  | .undef, v => v = Go.undef
  | .nils, v => v = .slice none 0 0
  | .lit x, v => v = x ∧ one x
  | .val b t, v => IsT w (Φ b) t v
  | .agg b ts, v => ∃ vs, v = .agg vs.toArray ∧ IsTs w (Φ b) ts vs
  | .vw k p off n ag, v => ∃ o vs, look ob k = some o ∧ valsAt w o.cells (ρ k) p = some vs ∧ off + n ≤ vs.length ∧ (if ag then v = .agg ((vs.drop off).take n).toArray else (vs.drop off).take n = [v])
  | .sub k p off sz lo hi, v => ∃ o vs a len cap, look ob k = some o ∧ valsAt w o.cells (ρ k) p = some vs ∧ off + 1 ≤ vs.length ∧ (vs.drop off).take 1 = [.slice a len cap] ∧ lo ≤ hi ∧ hi ≤ len ∧ len ≤ cap ∧
      ∃ a', (cap ≠ lo → a' = a.map (·.add (lo * sz))) ∧ v = .slice a' (hi - lo) (cap - lo)
  | .ptr k p off, v => ∃ o g a, look ob k = some o ∧ addrAt w o.cells (ρ k) p = some (g, a) ∧ v = .pointer (some ⟨g, a + off, none⟩)
  | .pt b ts, v => ∃ g o cur e fz, v = .pointer (some ⟨g, o, none⟩) ∧ Φ b g ∧ w.heap[g]? = some (.cells cur e fz) ∧ IsTs w (Φ b) ts ((cur.toList.drop o).take ts.length)
  | .fn g caps, v => ∃ vs, v = .func (.func g) #[] vs.toArray ∧ SlotRs w Φ ob ρ caps vs
  | .tup xs, v => ∃ vs, v = .tuple vs.toArray ∧ SlotRs w Φ ob ρ xs vs
def SlotRs (w : World) (Φ : Bool → Nat → Prop) (ob : List (Nat × O)) (ρ : Nat → List Value) : List S → List Value → Prop
  | [], vs => vs = []
  | s :: ss, vs => ∃ v vs', vs = v :: vs' ∧ SlotR w Φ ob ρ s v ∧ SlotRs w Φ ob ρ ss vs'
end

/-- What carries slots over: read-only trees stand; each handle is dead or stands under a key. -/
structure Carry (w w' : World) (Φ Φ' : Bool → Nat → Prop) (ob ob' : List (Nat × O)) (ρ ρ' : Nat → List Value) (f : S → S) (fs : List S → List S) : Prop where
  mono : ∀ x b, Φ x b → Φ' x b
  ro : ∀ x b, Φ x b → w'.heap[b]? = w.heap[b]?
  nil : fs [] = []
  cons : ∀ s r, fs (s :: r) = f s :: fs r
  fn : ∀ g c, f (.fn g c) = .fn g (fs c)
  tup : ∀ c, f (.tup c) = .tup (fs c)
  rest : ∀ s, (match s with | .vw .. | .sub .. | .ptr .. | .fn .. | .tup .. => False | _ => True) → f s = s
  vals : ∀ k p off n, (∀ ag, f (.vw k p off n ag) = .dead) ∨ ∃ k', (∀ ag, f (.vw k p off n ag) = .vw k' p off n ag) ∧
    ∀ o vs, look ob k = some o → valsAt w o.cells (ρ k) p = some vs → off + n ≤ vs.length → ∃ o' vs', look ob' k' = some o' ∧ valsAt w' o'.cells (ρ' k') p = some vs' ∧ off + n ≤ vs'.length ∧ (vs'.drop off).take n = (vs.drop off).take n
  sub : ∀ k p off sz lo hi, f (.sub k p off sz lo hi) = .dead ∨ ∃ k', f (.sub k p off sz lo hi) = .sub k' p off sz lo hi ∧
    ∀ o vs, look ob k = some o → valsAt w o.cells (ρ k) p = some vs → off + 1 ≤ vs.length → ∃ o' vs', look ob' k' = some o' ∧ valsAt w' o'.cells (ρ' k') p = some vs' ∧ off + 1 ≤ vs'.length ∧ (vs'.drop off).take 1 = (vs.drop off).take 1
  ptr : ∀ k p off, f (.ptr k p off) = .dead ∨ ∃ k', f (.ptr k p off) = .ptr k' p off ∧
    ∀ o g a, look ob k = some o → addrAt w o.cells (ρ k) p = some (g, a) → ∃ o', look ob' k' = some o' ∧ addrAt w' o'.cells (ρ' k') p = some (g, a)

mutual
theorem Carry.slot {w w' : World} {Φ Φ' : Bool → Nat → Prop} {ob ob' : List (Nat × O)} {ρ ρ' : Nat → List Value} {f : S → S} {fs : List S → List S} (C : Carry w w' Φ Φ' ob ob' ρ ρ' f fs) : ∀ (s : S) (v : Value), SlotR w Φ ob ρ s v → SlotR w' Φ' ob' ρ' (f s) v
  | .dead, v, h => by rw [C.rest _ trivial]; simp only [SlotR]
  | .undef, v, h => by rw [C.rest _ trivial]; simpa only [SlotR] using h
  | .nils, v, h => by rw [C.rest _ trivial]; simpa only [SlotR] using h
  | .lit x, v, h => by rw [C.rest _ trivial]; simpa only [SlotR] using h
  | .val b t, v, h => by
    rw [C.rest _ trivial]
    simp only [SlotR] at h ⊢
    exact IsT.mono (C.mono b) (C.ro b) t v h
  | .agg b ts, v, h => by
    rw [C.rest _ trivial]
    simp only [SlotR] at h ⊢
    obtain ⟨vs, h1, h2⟩ := h
    exact ⟨vs, h1, IsTs.mono (C.mono b) (C.ro b) ts vs h2⟩
  | .pt b ts, v, h => by
    rw [C.rest _ trivial]
    simp only [SlotR] at h ⊢
    obtain ⟨g, o, cur, e, fz, h1, h2, h3, h4⟩ := h
    exact ⟨g, o, cur, e, fz, h1, C.mono b g h2, (C.ro b g h2).trans h3, IsTs.mono (C.mono b) (C.ro b) ts _ h4⟩
  | .vw k p off n ag, v, h => by
    rcases C.vals k p off n with hd | ⟨k', hk, hv⟩
    · rw [hd ag]; simp only [SlotR]
    · rw [hk ag]
      simp only [SlotR] at h ⊢
      obtain ⟨o, vs, h1, h2, h3, h4⟩ := h
      obtain ⟨o', vs', e1, e2, e3, e4⟩ := hv o vs h1 h2 h3
      exact ⟨o', vs', e1, e2, e3, by rw [e4]; exact h4⟩
  | .sub k p off sz lo hi, v, h => by
    rcases C.sub k p off sz lo hi with hd | ⟨k', hk, hv⟩
    · rw [hd]; simp only [SlotR]
    · rw [hk]
      simp only [SlotR] at h ⊢
      obtain ⟨o, vs, a, len, cap, h1, h2, h3, h4, h5, h6, h7⟩ := h
      obtain ⟨o', vs', e1, e2, e3, e4⟩ := hv o vs h1 h2 h3
      exact ⟨o', vs', a, len, cap, e1, e2, e3, by rw [e4]; exact h4, h5, h6, h7⟩
  | .ptr k p off, v, h => by
    rcases C.ptr k p off with hd | ⟨k', hk, hv⟩
    · rw [hd]; simp only [SlotR]
    · rw [hk]
      simp only [SlotR] at h ⊢
      obtain ⟨o, g, a, h1, h2, h3⟩ := h
      obtain ⟨o', e1, e2⟩ := hv o g a h1 h2
      exact ⟨o', g, a, e1, e2, h3⟩
  | .fn g caps, v, h => by
    rw [C.fn]
    simp only [SlotR] at h ⊢
    obtain ⟨vs, h1, h2⟩ := h
    exact ⟨vs, h1, C.slots caps vs h2⟩
  | .tup xs, v, h => by
    rw [C.tup]
    simp only [SlotR] at h ⊢
    obtain ⟨vs, h1, h2⟩ := h
    exact ⟨vs, h1, C.slots xs vs h2⟩
theorem Carry.slots {w w' : World} {Φ Φ' : Bool → Nat → Prop} {ob ob' : List (Nat × O)} {ρ ρ' : Nat → List Value} {f : S → S} {fs : List S → List S} (C : Carry w w' Φ Φ' ob ob' ρ ρ' f fs) : ∀ (ss : List S) (vs : List Value), SlotRs w Φ ob ρ ss vs → SlotRs w' Φ' ob' ρ' (fs ss) vs
  | [], vs, h => by rw [C.nil]; simpa only [SlotRs] using h
  | s :: ss, vs, h => by
    rw [C.cons]
    simp only [SlotRs] at h ⊢
    obtain ⟨v, vs', h1, h2, h3⟩ := h
    exact ⟨v, vs', h1, C.slot s v h2, C.slots ss vs' h3⟩
end

/-- A frame's state stands for a world and the temporaries. Below 'base' lies what was there when the outermost call began; own blocks lie from it on. -/
structure Rel (w : World) (Φ : Bool → Nat → Prop) (σ : F) (tm : List Value) (ρ : Nat → List Value) (B : List Nat) : Prop where
  obs : IsOb w Φ ρ σ.ob B
  nd : B.Nodup
  keys : (σ.ob.map (·.1)).Nodup
  disj : ∀ b ∈ B, ∀ x, ¬Φ x b
  lt : ∀ b ∈ B, b < w.heap.size
  ltΦ : ∀ x b, Φ x b → b < w.heap.size
  sub : ∀ b, Φ false b → Φ true b
  slots : SlotRs w Φ σ.ob ρ σ.sl tm

theorem SlotRs.length {w : World} {Φ : Bool → Nat → Prop} {ob : List (Nat × O)} {ρ : Nat → List Value} : ∀ {ss : List S} {vs : List Value}, SlotRs w Φ ob ρ ss vs → vs.length = ss.length
  | [], _, h => by simp only [SlotRs] at h; simp [h]
  | s :: ss, _, h => by
    simp only [SlotRs] at h
    obtain ⟨v, vs', rfl, _, h3⟩ := h
    simp [h3.length]

theorem SlotRs.get {w : World} {Φ : Bool → Nat → Prop} {ob : List (Nat × O)} {ρ : Nat → List Value} : ∀ {ss : List S} {vs : List Value}, SlotRs w Φ ob ρ ss vs → ∀ i, SlotR w Φ ob ρ (ss.getD i .dead) (vs.getD i Go.undef)
  | [], _, h, i => by simp only [List.getD_nil, SlotR]
  | s :: ss, _, h, 0 => by
    simp only [SlotRs] at h
    obtain ⟨v, vs', rfl, h2, _⟩ := h
    simpa using h2
  | s :: ss, _, h, i + 1 => by
    simp only [SlotRs] at h
    obtain ⟨v, vs', rfl, _, h3⟩ := h
    simpa using h3.get i

theorem SlotRs.set {w : World} {Φ : Bool → Nat → Prop} {ob : List (Nat × O)} {ρ : Nat → List Value} : ∀ {ss : List S} {vs : List Value}, SlotRs w Φ ob ρ ss vs → ∀ (i : Nat) (s : S) (v : Value), SlotR w Φ ob ρ s v → SlotRs w Φ ob ρ (ss.set i s) (vs.set i v)
  | [], _, h, i, s, v, _ => by simp only [SlotRs] at h; subst h; simp [SlotRs]
  | s0 :: ss, _, h, 0, s, v, hs => by
    simp only [SlotRs] at h
    obtain ⟨v0, vs', rfl, h2, h3⟩ := h
    simp only [List.set_cons_zero, SlotRs]
    exact ⟨v, vs', rfl, hs, h3⟩
  | s0 :: ss, _, h, i + 1, s, v, hs => by
    simp only [SlotRs] at h
    obtain ⟨v0, vs', rfl, h2, h3⟩ := h
    simp only [List.set_cons_succ, SlotRs]
    exact ⟨v0, vs'.set i v, rfl, h2, h3.set i s v hs⟩

end Go.Proofs.Ytmkhdnpnjjdgfaa.Ev
