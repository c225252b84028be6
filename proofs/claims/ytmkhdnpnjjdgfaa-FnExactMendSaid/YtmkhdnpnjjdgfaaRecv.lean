/- Results of a call, in the caller. -/
import Derived.Test.YtmkhdnpnjjdgfaaBack
set_option linter.unusedVariables false
set_option linter.unusedSimpArgs false
namespace Go.Proofs.Ytmkhdnpnjjdgfaa.Ev
open Go Go.RowKit

/-- A result and what it stands for: its blocks are its own. -/
def VR (w : World) (Φ : Bool → Nat → Prop) (ob : List (Nat × O)) (ρ : Nat → List Value) : V → Value → List Nat → Prop
  | .lit x, v, B => v = x ∧ one x ∧ B = []
  | .val b t, v, B => IsT w (Φ b) t v ∧ B = []
  | .agg b ts, v, B => (∃ vs, v = .agg vs.toArray ∧ IsTs w (Φ b) ts vs) ∧ B = []
  | .nils, v, B => v = .slice none 0 0 ∧ B = []
  | .ov cells ag, v, B => ∃ vs, IsCs w Φ cells vs B ∧ valOf ag vs v
  | .op cells, v, B => ∃ vs g a, IsCs w Φ cells vs B ∧ addrAt w cells vs [(0, 0)] = some (g, a) ∧ v = .pointer (some ⟨g, a, none⟩)
  | .ptr k p off, v, B => SlotR w Φ ob ρ (.ptr k p off) v ∧ B = []
  | .tup _, _, _ => False

def VRs (w : World) (Φ : Bool → Nat → Prop) (ob : List (Nat × O)) (ρ : Nat → List Value) : List V → List Value → List Nat → Prop
  | [], vs, B => vs = [] ∧ B = []
  | x :: r, vs, B => ∃ v vs' B1 B2, vs = v :: vs' ∧ B = B1 ++ B2 ∧ VR w Φ ob ρ x v B1 ∧ VRs w Φ ob ρ r vs' B2

def VRt (w : World) (Φ : Bool → Nat → Prop) (ob : List (Nat × O)) (ρ : Nat → List Value) : V → Value → List Nat → Prop
  | .tup vs, v, B => ∃ l, v = .tuple l.toArray ∧ VRs w Φ ob ρ vs l B
  | x, v, B => VR w Φ ob ρ x v B

theorem vrt_one {w : World} {Φ : Bool → Nat → Prop} {ob : List (Nat × O)} {ρ : Nat → List Value} {x : V} {v : Value} {B : List Nat} (hx : ∀ vs, x ≠ .tup vs) (h : VRt w Φ ob ρ x v B) : VR w Φ ob ρ x v B := by
  cases x with
  | tup vs => exact absurd rfl (hx vs)
  | _ => exact h

theorem T.lit_of {t : T} (h : t.isLit = true) : ∃ x, t = .lit x := by
  cases t with
  | lit x => exact ⟨x, rfl⟩
  | sl _ _ => cases h

theorem lits_plain {w : World} {φ φ' : Nat → Prop} : ∀ {ts : List T} {vs : List Value}, ts.any (fun t => !t.isLit) = false → IsTs w φ ts vs → IsTs w φ' ts vs
  | [], vs, _, h => by simpa only [IsTs] using h
  | t :: ts, vs, hl, h => by
    simp only [List.any_cons, Bool.or_eq_false_iff, Bool.not_eq_false'] at hl
    obtain ⟨x, rfl⟩ := T.lit_of hl.1
    simp only [IsTs, IsT] at h ⊢
    obtain ⟨v, vs', h1, h2, h3⟩ := h
    exact ⟨v, vs', h1, h2, lits_plain hl.2 h3⟩

theorem VR.plain {w : World} {Φ Φ' : Bool → Nat → Prop} {ob : List (Nat × O)} {ρ : Nat → List Value} (hf : ∀ b, Φ false b → Φ' false b) {x : V} {v : Value} {B : List Nat} (ht : x.lent = true → ∀ b, Φ true b → Φ' true b) (h : VR w Φ ob ρ x v B) : VR w Φ' ob ρ x v B := by
  cases x with
  | lit y => exact h
  | val b t =>
    simp only [VR] at h ⊢
    refine ⟨?_, h.2⟩
    cases t with
    | lit y => simpa only [IsT] using h.1
    | sl sz rows =>
      refine IsT.mono (fun c hc => ?_) (fun _ _ => rfl) _ _ h.1
      cases b with
      | false => exact hf c hc
      | true => exact ht (by simp [V.lent, T.isLit]) c hc
  | agg b ts =>
    simp only [VR] at h ⊢
    obtain ⟨⟨vs, h1, h2⟩, h3⟩ := h
    refine ⟨⟨vs, h1, ?_⟩, h3⟩
    cases b with
    | false => exact IsTs.mono hf (fun _ _ => rfl) _ _ h2
    | true =>
      cases hl : ts.any (fun t => !t.isLit) with
      | false => exact lits_plain hl h2
      | true => exact IsTs.mono (ht (by simp [V.lent, hl])) (fun _ _ => rfl) _ _ h2
  | nils => exact h
  | ov cells ag =>
    simp only [VR] at h ⊢
    obtain ⟨vs, h1, h2⟩ := h
    exact ⟨vs, IsCs.plain hf _ _ _ (fun hl => ht (by simpa only [V.lent] using hl)) h1, h2⟩
  | op cells =>
    simp only [VR] at h ⊢
    obtain ⟨vs, g, a, h1, h2⟩ := h
    exact ⟨vs, g, a, IsCs.plain hf _ _ _ (fun hl => ht (by simpa only [V.lent] using hl)) h1, h2⟩
  | ptr k p off =>
    simp only [VR, SlotR] at h ⊢
    exact h
  | tup vs => exact h

theorem VRs.plain {w : World} {Φ Φ' : Bool → Nat → Prop} {ob : List (Nat × O)} {ρ : Nat → List Value} (hf : ∀ b, Φ false b → Φ' false b) : ∀ {xs : List V} {vs : List Value} {B : List Nat}, (lentVs xs = true → ∀ b, Φ true b → Φ' true b) → VRs w Φ ob ρ xs vs B → VRs w Φ' ob ρ xs vs B
  | [], _, _, _, h => h
  | x :: r, _, _, ht, h => by
    obtain ⟨v, vs', B1, B2, h1, h2, h3, h4⟩ := h
    exact ⟨v, vs', B1, B2, h1, h2, h3.plain hf (fun hl => ht (by simp [lentVs, hl])), h4.plain hf (fun hl => ht (by simp [lentVs, hl]))⟩

theorem VRt.plain {w : World} {Φ Φ' : Bool → Nat → Prop} {ob : List (Nat × O)} {ρ : Nat → List Value} (hf : ∀ b, Φ false b → Φ' false b) {x : V} {v : Value} {B : List Nat} (ht : x.lent = true → ∀ b, Φ true b → Φ' true b) (h : VRt w Φ ob ρ x v B) : VRt w Φ' ob ρ x v B := by
  cases x with
  | tup vs =>
    obtain ⟨l, h1, h2⟩ := h
    exact ⟨l, h1, h2.plain hf (fun hl => ht (by simpa only [V.lent] using hl))⟩
  | _ => exact VR.plain (w := w) (ob := ob) (ρ := ρ) hf ht h

/-- Imports' objects, under the caller's keys. -/
def Trans (keys : List Nat) (d : Nat) (obC : List (Nat × O)) (ρC : Nat → List Value) (ob : List (Nat × O)) (ρ : Nat → List Value) : Prop :=
  ∀ k key o, keys[k]? = some key → newKey (some d) key = false → look obC k = some o → look ob key = some o ∧ ρ key = ρC k

theorem Trans.new {keys : List Nat} {d j : Nat} {obC : List (Nat × O)} {ρC ρ : Nat → List Value} {σ : F} (h : Trans keys d obC ρC σ.ob ρ) (hj : j < 8) (hk : (σ.ob.map (·.1)).Nodup) (o0 : O) (vs : List Value) : Trans keys d obC ρC (σ.new (keyOf d j) o0).ob (fun i => if i = keyOf d j then vs else ρ i) := by
  intro k key o h1 h2 h3
  have hne := newKey_keyOf hj h2
  obtain ⟨e1, e2⟩ := h k key o h1 h2 h3
  refine ⟨?_, by show (if key = keyOf d j then vs else ρ key) = ρC k; rw [if_neg hne]; exact e2⟩
  simp only [F.new, look]
  rw [if_neg (fun e => hne e.symm), look_drop hk, if_neg hne]
  exact e1

theorem newKey_self (d j : Nat) (hj : j < 8) : newKey (some d) (keyOf d j) = true := by
  simp only [newKey, keyOf, beq_iff_eq]
  omega

theorem recvOne_is {w : World} {Φ : Bool → Nat → Prop} {σ σ' : F} {tm : List Value} {ρ ρC : Nat → List Value} {B L : List Nat} {keys : List Nat} {d j : Nat} {obC : List (Nat × O)} {x : V} {v : Value} (hj : j < 8) (h : Rel w Φ σ tm ρ B) (hL : Loose w Φ B L) (hv : VR w Φ obC ρC x v L) (hT : Trans keys d obC ρC σ.ob ρ) (hr : recvOne σ keys d j x = some σ') :
    ∃ ρ' B', Rel w Φ σ' (tm ++ [v]) ρ' B' ∧ (∀ b ∈ B', b ∈ B ∨ b ∈ L) ∧ (∀ k, newKey (some d) k = false → ρ' k = ρ k) ∧ Trans keys d obC ρC σ'.ob ρ' ∧ σ'.sl.length = σ.sl.length + 1 := by
  have easy : ∀ s, SlotR w Φ σ.ob ρ s v → σ' = σ.push s → ∃ ρ' B', Rel w Φ σ' (tm ++ [v]) ρ' B' ∧ (∀ b ∈ B', b ∈ B ∨ b ∈ L) ∧ (∀ k, newKey (some d) k = false → ρ' k = ρ k) ∧ Trans keys d obC ρC σ'.ob ρ' ∧ σ'.sl.length = σ.sl.length + 1 := by
    rintro s hs rfl
    exact ⟨ρ, B, h.push hs, fun b hb => .inl hb, fun _ _ => rfl, hT, by simp [F.push]⟩
  have made : ∀ (o : O) (vs : List Value) (s : S), IsCs w Φ o.cells vs L → SlotR w Φ (σ.new (keyOf d j) o).ob (fun i => if i = keyOf d j then vs else ρ i) s v → σ' = (σ.new (keyOf d j) o).push s → ∃ ρ' B', Rel w Φ σ' (tm ++ [v]) ρ' B' ∧ (∀ b ∈ B', b ∈ B ∨ b ∈ L) ∧ (∀ k, newKey (some d) k = false → ρ' k = ρ k) ∧ Trans keys d obC ρC σ'.ob ρ' ∧ σ'.sl.length = σ.sl.length + 1 := by
    rintro o vs s hc hs rfl
    obtain ⟨B', h1, h2⟩ := h.new (keyOf d j) o vs L hc hL
    refine ⟨_, _, h1.push hs, fun b hb => ?_, fun k hk => ?_, hT.new hj h.keys o vs, by simp [F.push, F.new, killAlls_length]⟩
    · rcases List.mem_append.mp hb with hb | hb
      · exact .inr hb
      · exact .inl (h2.subset hb)
    · rw [if_neg (newKey_keyOf hj hk)]
  cases x with
  | lit y =>
    simp only [recvOne, Option.some.injEq] at hr
    simp only [VR] at hv
    exact easy (.lit y) (by simp only [SlotR]; exact ⟨hv.1, hv.2.1⟩) hr.symm
  | val b t =>
    simp only [recvOne, Option.some.injEq] at hr
    simp only [VR] at hv
    exact easy (.val b t) (by simp only [SlotR]; exact hv.1) hr.symm
  | agg b ts =>
    simp only [recvOne, Option.some.injEq] at hr
    simp only [VR] at hv
    exact easy (.agg b ts) (by simp only [SlotR]; exact hv.1) hr.symm
  | nils =>
    simp only [recvOne, Option.some.injEq] at hr
    simp only [VR] at hv
    exact easy .nils (by simp only [SlotR]; exact hv.1) hr.symm
  | ov cells ag =>
    simp only [recvOne, Option.some.injEq] at hr
    simp only [VR] at hv
    obtain ⟨vs, h1, h2⟩ := hv
    refine made { cells } vs _ h1 ?_ hr.symm
    have hl := h1.length
    simp only [SlotR]
    refine ⟨{ cells }, vs, by simp [F.new, look], by simp [valsAt], by omega, ?_⟩
    rw [List.drop_zero, ← hl, List.take_length]
    simpa only [valOf] using h2
  | op cells =>
    simp only [recvOne, Option.some.injEq] at hr
    simp only [VR] at hv
    obtain ⟨vs, g, a, h1, h2, h3⟩ := hv
    refine made { cells, box := true } vs _ h1 ?_ hr.symm
    simp only [SlotR]
    exact ⟨{ cells, box := true }, g, a, by simp [F.new, look], by simpa using h2, by rw [h3]; simp⟩
  | ptr k p off =>
    simp only [recvOne] at hr
    simp only [VR, SlotR] at hv
    obtain ⟨⟨o, g, a, h1, h2, h3⟩, _⟩ := hv
    split at hr
    · rename_i key hkey
      split at hr
      · cases hr
      · rename_i hnk
        simp only [Option.some.injEq] at hr
        obtain ⟨e1, e2⟩ := hT k key o hkey (by simpa using hnk) h1
        exact easy _ (by simp only [SlotR]; exact ⟨o, g, a, e1, by rw [e2]; exact h2, h3⟩) hr.symm
    · cases hr
  | tup vs => exact hv.elim

theorem recvMany_is {w : World} {Φ : Bool → Nat → Prop} {ρC : Nat → List Value} {keys : List Nat} {d : Nat} {obC : List (Nat × O)} : ∀ {xs : List V} {σ σ' : F} {tm vs : List Value} {ρ : Nat → List Value} {B L : List Nat} {j : Nat}, Rel w Φ σ tm ρ B → Loose w Φ B L → VRs w Φ obC ρC xs vs L → Trans keys d obC ρC σ.ob ρ → recvMany keys d σ j xs = some σ' →
    ∃ ρ' B', Rel w Φ σ' (tm ++ vs) ρ' B' ∧ (∀ b ∈ B', b ∈ B ∨ b ∈ L) ∧ (∀ k, newKey (some d) k = false → ρ' k = ρ k)
  | [], σ, σ', tm, vs, ρ, B, L, j, h, hL, hv, hT, hr => by
    simp only [recvMany, Option.some.injEq] at hr
    subst hr
    obtain ⟨rfl, rfl⟩ := hv
    exact ⟨ρ, B, by simpa using h, fun b hb => .inl hb, fun _ _ => rfl⟩
  | x :: r, σ, σ', tm, vs, ρ, B, L, j, h, hL, hv, hT, hr => by
    obtain ⟨v, vs', B1, B2, rfl, rfl, h3, h4⟩ := hv
    simp only [recvMany] at hr
    split at hr
    · rename_i hj
      split at hr
      · rename_i σ1 h1
        have hnd := hL.nd
        rw [List.nodup_append] at hnd
        have hL1 : Loose w Φ B B1 := ⟨hnd.1, fun b hb => hL.apart b (by simp [hb]), fun b hb => hL.lt b (by simp [hb]), fun b hb => hL.disj b (by simp [hb])⟩
        obtain ⟨ρ1, C1, r1, r2, r3, r4, _⟩ := recvOne_is hj h hL1 h3 hT h1
        have hL2 : Loose w Φ C1 B2 := ⟨hnd.2.1, fun b hb hb' => by
          rcases r2 b hb' with hh | hh
          · exact hL.apart b (by simp [hb]) hh
          · exact hnd.2.2 b hh b hb rfl, fun b hb => hL.lt b (by simp [hb]), fun b hb => hL.disj b (by simp [hb])⟩
        obtain ⟨ρ2, C2, s1, s2, s3⟩ := recvMany_is r1 hL2 h4 r4 hr
        rw [List.append_assoc] at s1
        refine ⟨ρ2, C2, s1, fun b hb => ?_, fun k hk => (s3 k hk).trans (r3 k hk)⟩
        rcases s2 b hb with hh | hh
        · exact (r2 b hh).imp id (fun hh => by simp [hh])
        · exact .inr (by simp [hh])
      · cases hr
    · cases hr

/-- The values that come back, one behind the other. -/
def Outs (d : Option Nat) (v : V) (val : Value) (outs : List Value) : Prop :=
  match d with
  | none => outs = []
  | some _ => match v with
    | .tup _ => val = .tuple outs.toArray
    | _ => outs = [val]

theorem recvAll_is {w : World} {Φ : Bool → Nat → Prop} {ρ ρC : Nat → List Value} {keys : List Nat} {d : Option Nat} {obC : List (Nat × O)} {x : V} {val : Value} {σ σ' : F} {tm : List Value} {B L : List Nat} (h : Rel w Φ σ tm ρ B) (hL : Loose w Φ B L) (hv : VRt w Φ obC ρC x val L) (hT : ∀ k key o, keys[k]? = some key → look obC k = some o → look σ.ob key = some o ∧ ρ key = ρC k) (hr : recvAll σ keys d x = some σ') :
    ∃ outs ρ' B', Rel w Φ σ' (tm ++ outs) ρ' B' ∧ Outs d x val outs ∧ (∀ b ∈ B', b ∈ B ∨ b ∈ L) ∧ (∀ k, newKey d k = false → ρ' k = ρ k) ∧ (∀ j, d = some j → j < 100000) := by
  unfold recvAll at hr
  split at hr
  · simp only [Option.some.injEq] at hr
    subst hr
    exact ⟨[], ρ, B, by simpa using h, rfl, fun b hb => .inl hb, fun _ _ => rfl, fun j hj => by cases hj⟩
  · rename_i d'
    split at hr
    · rename_i hd
      have hT' : Trans keys d' obC ρC σ.ob ρ := fun k key o h1 _ h3 => hT k key o h1 h3
      have one : (∀ vs, x ≠ .tup vs) → Outs (some d') x val [val] → recvOne σ keys d' 0 x = some σ' → ∃ outs ρ' B', Rel w Φ σ' (tm ++ outs) ρ' B' ∧ Outs (some d') x val outs ∧ (∀ b ∈ B', b ∈ B ∨ b ∈ L) ∧ (∀ k, newKey (some d') k = false → ρ' k = ρ k) ∧ (∀ j, some d' = some j → j < 100000) := by
        intro hx hO hr
        obtain ⟨ρ', B', r1, r2, r3, _⟩ := recvOne_is (by decide) h hL (vrt_one hx hv) hT' hr
        exact ⟨[val], ρ', B', r1, hO, r2, r3, fun j hj => by simp only [Option.some.injEq] at hj; omega⟩
      cases x with
      | tup vs =>
        simp only at hr
        obtain ⟨l, rfl, h2⟩ := hv
        obtain ⟨ρ', B', r1, r2, r3⟩ := recvMany_is h hL h2 hT' hr
        exact ⟨l, ρ', B', r1, rfl, r2, r3, fun j hj => by simp only [Option.some.injEq] at hj; omega⟩
      | _ =>
        exact one (fun vs h => by cases h) rfl hr
    · cases hr

theorem done_is {w : World} {Φ : Bool → Nat → Prop} {ρ : Nat → List Value} {d : Option Nat} {x : V} {val : Value} {σ σ' : F} {tm mid outs : List Value} {B : List Nat} (h : Rel w Φ σ (tm ++ mid ++ outs) ρ B) (ho : Outs d x val outs) (hd : σ.done tm.length (tm ++ mid).length d x = some σ') :
    Rel w Φ σ' (putL tm d val) ρ B ∧ ∀ k ∈ σ.ob.map (·.1), k < keyOf 100000 0 := by
  unfold F.done at hd
  split at hd
  · rename_i hall
    have hkeys : ∀ k ∈ σ.ob.map (·.1), k < keyOf 100000 0 := by
      intro k hk
      obtain ⟨y, hy, rfl⟩ := List.mem_map.mp hk
      simpa using List.all_eq_true.mp hall y hy
    refine ⟨?_, hkeys⟩
    have h0 := h.short tm.length
    rw [List.append_assoc, List.take_left] at h0
    have h1 := h.slots.drop (tm ++ mid).length
    rw [List.drop_left] at h1
    cases d with
    | none =>
      simp only [Option.some.injEq] at hd
      subst hd
      exact h0
    | some d =>
      simp only at hd
      have last : ∀ s, σ.sl.drop (tm ++ mid).length = [s] → outs = [val] → Rel w Φ (F.put { σ with sl := σ.sl.take tm.length } (some d) s) (putL tm (some d) val) ρ B := by
        intro s hs he
        rw [hs, he] at h1
        simp only [SlotRs] at h1
        obtain ⟨v, vs', e, h2, _⟩ := h1
        simp only [List.cons.injEq] at e
        rw [← e.1] at h2
        exact h0.put (some d) h2
      cases x with
      | tup vs =>
        simp only [Option.some.injEq] at hd
        subst hd
        simp only [Outs] at ho
        subst ho
        refine h0.put (some d) ?_
        simp only [SlotR]
        exact ⟨outs, rfl, h1⟩
      | _ =>
        simp only at hd
        simp only [Outs] at ho
        split at hd
        · rename_i s hs
          simp only [Option.some.injEq] at hd
          subst hd
          exact last s hs ho
        · cases hd
  · cases hd

end Go.Proofs.Ytmkhdnpnjjdgfaa.Ev
