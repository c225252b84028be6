/- append, the operation. -/
import Derived.Test.YtmkhdnpnjjdgfaaSource
set_option linter.unusedVariables false
set_option linter.unusedSimpArgs false
namespace Go.Proofs.Ytmkhdnpnjjdgfaa.Ev
open Go Go.RowKit

theorem slot_one {σ σ' : F} {w : World} {Φ : Bool → Nat → Prop} {tm : List Value} {ρ : Nat → List Value} {B : List Nat} (hR : Rel w Φ σ tm ρ B) {s : S} {v : Value} {cs : List C} (ht : σ.take s = some (cs, σ')) (hs : SlotR w Φ σ.ob ρ s v) (ha : s.ag = false) : one v := by
  cases s with
  | lit x => simp only [SlotR] at hs; rw [hs.1]; exact hs.2
  | val b t => simp only [SlotR] at hs; exact hs.one
  | nils => simp only [SlotR] at hs; subst hs; exact one_slice _ _ _
  | agg b ts => simp [S.ag] at ha
  | vw k p off n ag =>
    simp only [S.ag] at ha
    subst ha
    simp only [SlotR, Bool.false_eq_true, if_false] at hs
    obtain ⟨o, vs, q1, q2, q3, q4⟩ := hs
    cases hc : σ.cells k p off n with
    | none => simp [F.take, q1, hc] at ht
    | some cs0 =>
      obtain ⟨o', vs', Bc, c1, c2, c3, c4, c5, c6, _⟩ := hR.cells hc
      rw [q1] at c1; cases c1
      rw [q2] at c2; cases c2
      rw [q4] at c5
      cases cs0 with
      | nil => simp [IsCs] at c5
      | cons c cs0 =>
        simp only [IsCs] at c5
        obtain ⟨v', vs', B1, B2, e, _, hC, _⟩ := c5
        simp only [List.cons.injEq] at e
        rw [e.1]
        exact hC.one
  | _ => simp [F.take] at ht

section
variable {P : Program} {e : Env} {σ : F} {ty : TypeId} {pos : String} {after : Array Edge} {gd : Option (Nat × Bool)}

theorem append_some {σ' : F} {d : Option Nat} {st : TypeId} {a : Operand} {src : Nat → F → Option (List (List C) × F)} (h : σ.append e d st a src = some σ') :
    ∃ dd tv el v rows σ1 c σ2 c' n, d = some dd ∧ e.ty st = some tv ∧ tv.desc = .slice el ∧ e.ty el = some v ∧ 0 < v.bytes ∧ src v.cells σ = some (rows, σ1) ∧ (σ1.rd a).ag = false ∧ σ1.take (σ1.rd a) = some ([c], σ2) ∧ appendTo c v.cells rows = some c' ∧ c'.len = some n ∧ n * v.bytes ≤ maxBytes ∧
      σ' = (σ2.new (keyOf dd 0) { cells := [c'] }).put (some dd) (.vw (keyOf dd 0) [] 0 1 false) := by
  unfold F.append at h
  split at h
  · rename_i dd el cells bytes zero agg hst
    split at h
    · rename_i v hv
      split at h
      · rename_i hb
        split at h
        · rename_i rows σ1 hsrc
          split at h
          · rename_i c σ2 htk
            split at htk
            · cases htk
            · rename_i hag
              split at h
              · rename_i c' happ
                split at h
                · rename_i n hlen
                  split at h
                  · rename_i hmax
                    simp only [Option.some.injEq] at h
                    exact ⟨dd, _, el, v, rows, σ1, c, σ2, c', n, rfl, hst, rfl, hv, hb, hsrc, by simpa using hag, htk, happ, hlen, hmax, h.symm⟩
                  · cases h
                · cases h
              · cases h
          · cases h
        · cases h
      · cases h
    · cases h
  · cases h

/-- The operation, once the rows are told. -/
theorem ok_append_of (he : EnvOk P e) (c : Call) (st xt : TypeId) (a x : Operand) (σ' : F) (d : Option Nat) (src : Nat → F → Option (List (List C) × F)) (hb : c.callee = .builtin .append) (ha : c.args.toList = [a, x]) (hat : c.argTypes.toList = [st, xt]) (h : σ.append e d st a src = some σ')
    (hsrc : ∀ (tv : TV) (el : TypeId) (v : TV) (rows : List (List C)) (σ1 : F), e.ty st = some tv → tv.desc = .slice el → e.ty el = some v → src v.cells σ = some (rows, σ1) → ∀ (w : World) (Φ : Bool → Nat → Prop) (tm : List Value) (ρ : Nat → List Value) (B : List Nat) (ds : List Deferred), Rel w Φ σ tm ρ B →
      ∃ B' L news, Rel w Φ σ1 tm ρ B' ∧ IsCRows w Φ v.cells rows news L ∧ Loose w Φ B' L ∧ (∀ b ∈ B', b ∈ B) ∧ (∀ b ∈ L, b ∈ B) ∧ Src P w xt el v.cells ((⟨tm.toArray, ds⟩ : Act).eval x) rows.length news) :
    OpOk P ⟨d, .call c, ty, pos, after, gd⟩ σ σ' := by
  obtain ⟨dd, tv, el, v, rows, σ1, c0, σ2, c', n, rfl, hst, htd, hv, hbt, hs, hag, htk, happ, hlen, hmax, rfl⟩ := append_some h
  intro w Φ tm ρ B ds K Q hR hK
  obtain ⟨B1, L, news, hR1, hrows, hL, hB1, hLB, hSrc⟩ := hsrc tv el v rows σ1 hst htd hv hs w Φ tm ρ B ds hR
  have har := hR1.rd (ds := ds) a
  have h1a := slot_one hR1 htk har hag
  obtain ⟨B2, Lc, hR2, hc, hLc, hB2, hLcB⟩ := take_is hR1 htk har
  rw [one_cells h1a] at hc
  simp only [IsCs] at hc
  obtain ⟨v0, vs0, D1, D2, e0, rfl, hC, rfl, rfl⟩ := hc
  simp only [List.cons.injEq, and_true] at e0
  obtain ⟨sz, old, hsz, how, hcl, hc'⟩ := appendTo_is happ
  rw [hlen] at hcl
  simp only [Option.some.injEq] at hcl
  subst hcl
  have hown := how w Φ _ _ hC
  rw [List.append_nil] at hLc hLcB
  obtain ⟨v', w', L', hrun, hown', hR', hL', os, tape, output, size, block, own⟩ := append_core he (ty := ty) hR2 hst htd hv hbt hSrc hsz hown hrows hLc (hL.sub hB2) (fun b hb hb2 => hL.apart b hb2 (hLcB b hb)) hmax
  obtain ⟨ρ', B', hR3, hB3, hρ'⟩ := hR'.newSlice hL' (hc' w' Φ v' L' hown') dd
  have e1 : c.args = #[a, x] := Array.ext' (by simpa using ha)
  have e2 : c.argTypes = #[st, xt] := Array.ext' (by simpa using hat)
  obtain ⟨consts, hbi⟩ := run_builtin (P := P) (⟨tm.toArray, ds⟩ : Act).eval (o := ⟨some dd, .call c, ty, pos, after, gd⟩) w rfl hb
  have hrun' : (builtin .append c.argTypes ty consts (c.args.map (⟨tm.toArray, ds⟩ : Act).eval)).run P w = .ok (.value v') w' := by
    simp only [builtin, e1, e2, List.map_toArray, List.map_cons, List.map_nil, e0, Sem.run_bind, hrun, Result.andThen_ok, Sem.run_pure]
  unfold Oper.wp
  rw [hbi]
  simp only at hrun' ⊢
  rw [hrun', Oper.upon_value, act_put]
  refine hK _ _ _ _ _ hR3 ⟨os, tape, output, size, fun b hb hn => block b hb (fun hbc => hn (hB1 b (hLcB b hbc))), fun b hb => ?_, fun _ _ h => h, fun _ _ h => .inl h, fun _ h => .inl h, hρ'.imp⟩ hρ'
  rcases hB3 b hb with hb | hb
  · exact .inl (hB1 b (hB2 b hb))
  · rcases own b hb with hb | hb | hb
    · exact .inl (hB1 b (hLcB b hb))
    · exact .inl (hLB b hb)
    · exact .inr hb

theorem ok_append (he : EnvOk P e) (c : Call) (st xt : TypeId) (xv : TV) (a x : Operand) (σ' : F) (d : Option Nat) (hb : c.callee = .builtin .append) (ha : c.args.toList = [a, x]) (hat : c.argTypes.toList = [st, xt]) (hx : e.ty xt = some xv) (hn : ∀ k, xv.desc ≠ .int k)
    (h : σ.append e d st a (fun m σ => σ.source m (σ.rd x)) = some σ') : OpOk P ⟨d, .call c, ty, pos, after, gd⟩ σ σ' :=
  ok_append_of he c st xt a x σ' d _ hb ha hat h fun tv el v rows σ1 _ _ hv hs w Φ tm ρ B ds hR =>
    source_is (P := P) (el := el) hR (he.und hx) hn hs (hR.rd (ds := ds) x)

theorem ok_appendMake (he : EnvOk P e) (c : Call) (st xt el : TypeId) (tv xv v : TV) (k : IntKind) (n : Int) (a x : Operand) (σ' : F) (d : Option Nat) (hb : c.callee = .builtin .append) (ha : c.args.toList = [a, x]) (hat : c.argTypes.toList = [st, xt]) (hx : e.ty xt = some xv) (hxd : xv.desc = .int k) (hst : e.ty st = some tv) (htd : tv.desc = .slice el) (hv : e.ty el = some v)
    (hi : intOf? (σ.rd x) = some n) (hn : 0 ≤ n) (h : σ.append e d st a (fun _ σ => some (List.replicate n.toNat (v.zero.map .ow), σ)) = some σ') : OpOk P ⟨d, .call c, ty, pos, after, gd⟩ σ σ' :=
  ok_append_of he c st xt a x σ' d _ hb ha hat h fun tv' el' v' rows σ1 hst' htd' hv' hs w Φ tm ρ B ds hR => by
    rw [hst] at hst'
    cases hst'
    rw [htd] at htd'
    cases htd'
    rw [hv] at hv'
    cases hv'
    simp only [Option.some.injEq, Prod.mk.injEq] at hs
    obtain ⟨rfl, rfl⟩ := hs
    obtain ⟨i, z, i1, i2, i3, i4, i5, i6, i7, _⟩ := he.ty el v hv
    obtain ⟨kx, hxv⟩ := intOf_is hi (hR.rd (ds := ds) x)
    obtain ⟨nn, rfl⟩ := Int.eq_ofNat_of_zero_le hn
    simp only [Int.toNat_natCast, List.length_replicate]
    have hz := zeros_rows (w := w) (Φ := Φ) i6 (sz := v.cells) (by simpa using i7) nn nn (Nat.le_refl _)
    have hu := he.und hx
    rw [hxd] at hu
    have hlen : ((List.replicate nn z.cells.toList).flatten).length = nn * v.cells := by simp [i7]
    refine ⟨B, [], (List.replicate nn z.cells.toList).flatten, hR, hz, Loose.nil, fun _ h => h, by simp, ⟨_, hu, .inr ⟨k, kx, rfl, hxv, z, fun w' => by simp [zeroValue, typeInfo, i1, i5], i7, rfl⟩⟩, hlen, ?_⟩
    have := hz.ones
    rw [List.length_replicate, ← hlen, List.take_length] at this
    exact this

end

end Go.Proofs.Ytmkhdnpnjjdgfaa.Ev
