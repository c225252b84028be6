/- Regions that draw their order: every order comes to what the evaluator told. -/
import Derived.Test.YtmkhdnpnjjdgfaaSwap
import Derived.StillTail
set_option linter.unusedVariables false
set_option linter.unnecessarySimpa false
set_option linter.unusedSimpArgs false
namespace Go.Proofs.Ytmkhdnpnjjdgfaa.Ev
open Go Go.RowKit

/-- Every operation that the evaluator does is done so by the machine (calls among them: told of by 'run'). -/
def RunOk (P : Program) (e : Env) (run : FuncId → List S → List O → Option (V × List (Option O))) : Prop :=
  ∀ (σ σ' : F) (o : Oper) (c : Call) (f : Operand) (g : FuncId) (caps : List S), o.op = .call c → c.callee = .value f → σ.rd f = .fn g caps → σ.call e run o.dst g (c.args.toList.map σ.rd ++ caps) = some σ' → OpOk P o σ σ'

section
variable {P : Program} {e : Env} {run : FuncId → List S → List O → Option (V × List (Option O))}

theorem done_of (he : EnvOk P e) (hrun : RunOk P e run) {σ σ' : F} (o : Oper) (h : opOf e run σ o = some σ') : OpDone P e o σ σ' :=
  op_done he o h (fun c f g caps a b c' d => hrun σ σ' o c f g caps a b c' d)

theorem yielded_is {w : World} {Φ : Bool → Nat → Prop} {σ : F} {tm : List Value} {ρ : Nat → List Value} {B : List Nat} (hR : Rel w Φ σ tm ρ B) {ops : Array Oper} {g d : Nat} {og : Oper} (hg : ops[g]? = some og) (hd : og.dst = some d) :
    (∀ x, σ.at_ d = .lit (.bool x) → yielded ops tm.toArray g = some x) ∧ (σ.at_ d = .undef → yielded ops tm.toArray g = none) := by
  have hs := hR.slots.get d
  have hlt : ∀ s, σ.at_ d = s → s ≠ .dead → d < tm.length := by
    intro s h hne
    rcases Nat.lt_or_ge d tm.length with h1 | h1
    · exact h1
    · have : σ.sl.length ≤ d := by rw [← hR.slots.length]; exact h1
      unfold F.at_ at h
      rw [List.getD_eq_getElem?_getD, List.getElem?_eq_none this] at h
      exact absurd h.symm hne
  constructor
  · intro x hx
    have h1 := hlt _ hx (by simp)
    unfold F.at_ at hx
    rw [hx] at hs
    have hv := slot_lit hs
    rw [List.getD_eq_getElem?_getD, List.getElem?_eq_getElem h1] at hv
    simp only [Option.getD_some] at hv
    simp [yielded, hg, hd, h1, hv]
  · intro hx
    have h1 := hlt _ hx (by simp)
    unfold F.at_ at hx
    rw [hx] at hs
    simp only [SlotR] at hs
    rw [List.getD_eq_getElem?_getD, List.getElem?_eq_getElem h1] at hs
    simp only [Option.getD_some] at hs
    simp [yielded, hg, hd, h1, hs, undef]

/-- What the evaluator says of a guard is so. -/
theorem guard_is {ops : Array Oper} {σ : F} {o : Oper} {b : Bool} (h : guardOf ops σ o = some b) {w : World} {Φ : Bool → Nat → Prop} {tm : List Value} {ρ : Nat → List Value} {B : List Nat} (hR : Rel w Φ σ tm ρ B) : Region.wanted o (yielded ops tm.toArray) = b := by
  unfold guardOf at h
  split at h
  · rename_i hg
    simp only [Option.some.injEq] at h
    subst h
    simp [Region.wanted, hg]
  · rename_i g b' hg
    split at h
    · rename_i og hog
      split at h
      · rename_i d hod
        obtain ⟨y1, y2⟩ := yielded_is hR hog hod
        split at h
        · rename_i x hx
          simp only [Option.some.injEq] at h
          subst h
          simp [Region.wanted, hg, y1 x hx]
        · rename_i hx
          simp only [Option.some.injEq] at h
          subst h
          simp [Region.wanted, hg, y2 hx]
        · cases h
      · cases h
    · cases h

theorem guard_congr {ops : Array Oper} {σ τ : F} {o : Oper} (h : ∀ t ∈ o.looksAt ops, τ.at_ t = σ.at_ t) : guardOf ops τ o = guardOf ops σ o := by
  unfold guardOf
  cases hg : o.guard with
  | none => rfl
  | some gb =>
    obtain ⟨g, b⟩ := gb
    simp only
    cases hog : ops[g]? with
    | none => rfl
    | some og =>
      simp only
      cases hod : og.dst with
      | none => rfl
      | some d =>
        simp only
        rw [h d (by simp [Oper.looksAt, hg, hog, hod])]

theorem rd_congr {ops : Array Oper} {σ τ : F} {o : Oper} (h : ∀ t ∈ o.looksAt ops, τ.at_ t = σ.at_ t) : ∀ x ∈ o.op.operands, τ.rd x = σ.rd x := by
  intro x hx
  cases x with
  | tmp t =>
    simp only [F.rd]
    apply h t
    unfold Oper.looksAt
    refine List.mem_append.mpr (.inl (List.mem_filterMap.mpr ⟨.tmp t, by simpa using hx, rfl⟩))
  | _ => rfl

/-- In whatever state that is as it asks an operation comes to the same. -/
def Loc (P : Program) (ops : Array Oper) (n i : Nat) (R : Res) : Prop :=
  ∀ (τ : F) (w : World) (Φ : Bool → Nat → Prop) (tm : List Value) (ρ : Nat → List Value) (B : List Nat) (ds : List Deferred) (K : Act → World → Prop) (Q : Exit → Act → World → Prop), τ.sl.length = n → R.pre τ → Rel w Φ τ tm ρ B →
    (∀ tm' w' Φ' ρ' B', Rel w' Φ' (R.app τ) tm' ρ' B' → Next w Φ ρ B w' Φ' ρ' B' → K ⟨tm'.toArray, ds⟩ w') → wpOp P ops Q i K ⟨tm.toArray, ds⟩ w

theorem wpOp_wanted {ops : Array Oper} {i : Nat} {o : Oper} (ho : ops[i]? = some o) {a : Act} (hw : Region.wanted o (yielded ops a.tmps) = true) {w : World} {K : Act → World → Prop} {Q : Exit → Act → World → Prop} (h : o.wp P a w K Q) : wpOp P ops Q i K a w := by
  unfold wpOp
  simp only [ho, hw, if_true]
  exact .inl h

theorem wpOp_not {ops : Array Oper} {i : Nat} {o : Oper} (ho : ops[i]? = some o) {a : Act} (hw : Region.wanted o (yielded ops a.tmps) = false) {w : World} {K : Act → World → Prop} {Q : Exit → Act → World → Prop} (h : K (a.put o.dst undef) w) : wpOp P ops Q i K a w := by
  unfold wpOp
  simp only [ho, hw, Bool.false_eq_true, if_false]
  exact h

theorem map_eq_at {rs : List Nat} {σ τ : F} (h : rs.map τ.at_ = rs.map σ.at_) : ∀ t ∈ rs, τ.at_ t = σ.at_ t := by
  induction rs with
  | nil => intro t ht; cases ht
  | cons r rs ih =>
    simp only [List.map_cons, List.cons.injEq] at h
    intro t ht
    rcases List.mem_cons.mp ht with rfl | ht
    · exact h.1
    · exact ih h.2 t ht

theorem map_eq_look {rk : List Nat} {σ τ : F} (h : rk.map (look τ.ob) = rk.map (look σ.ob)) : ∀ k ∈ rk, look τ.ob k = look σ.ob k := by
  induction rk with
  | nil => intro t ht; cases ht
  | cons r rs ih =>
    simp only [List.map_cons, List.cons.injEq] at h
    intro t ht
    rcases List.mem_cons.mp ht with rfl | ht
    · exact h.1
    · exact ih h.2 t ht

theorem put_same {σ : F} {d : Option Nat} {s s' : S} (h : ∀ j, d = some j → j < σ.sl.length → s = s') : σ.put d s = σ.put d s' := by
  cases d with
  | none => rfl
  | some j =>
    simp only [F.put]
    by_cases hj : j < σ.sl.length
    · rw [h j rfl hj]
    · rw [List.set_eq_of_length_le (by omega), List.set_eq_of_length_le (by omega)]

/-- An operation whose result is known to hand: its act is the old one with the result in its slot. -/
theorem wp_put {o : Oper} {a : Act} {w : World} {K : Act → World → Prop} {Q : Exit → Act → World → Prop} (hK : ∀ a' w', K a' w' → a'.defers = a.defers) (h : o.wp P a w K Q) : o.wp P a w (fun a' w' => (∃ v, a' = a.put o.dst v) ∧ K a' w') Q := by
  unfold Oper.wp at *
  generalize (execOp a.eval o).run P w = r at *
  cases r with
  | ok n w' =>
    cases n <;> simp only [Oper.upon] at h ⊢
    case value u => exact ⟨⟨u, rfl⟩, h⟩
    case skip => exact ⟨⟨undef, rfl⟩, h⟩
    case defer d =>
      have := hK _ _ h
      have e : (({ a with defers := d :: a.defers } : Act).put o.dst undef).defers = d :: a.defers := by cases o.dst <;> rfl
      rw [e] at this
      exact absurd this (by simp)
    case enter f args =>
      refine Calls.mono h fun e w'' he => ?_
      cases e with
      | returned u => exact ⟨⟨u, rfl⟩, he⟩
      | panicked c => exact he
      | outgrown => exact he
    case row row args => exact Rows.mono h fun u w'' he => ⟨⟨u, rfl⟩, he⟩
  | halt x w' => cases x <;> simp only [Oper.upon] at h ⊢ <;> exact h

theorem slots_map {w w' : World} {Φ Φ' : Bool → Nat → Prop} {ob ob' : List (Nat × O)} {ρ ρ' : Nat → List Value} {f : S → S} (hf : ∀ s v, SlotR w Φ ob ρ s v → SlotR w' Φ' ob' ρ' (f s) v) : ∀ {l : List S} {vs : List Value}, SlotRs w Φ ob ρ l vs → SlotRs w' Φ' ob' ρ' (l.map f) vs
  | [], vs, h => by simpa only [List.map_nil, SlotRs] using h
  | s :: r, vs, h => by
    simp only [SlotRs] at h
    obtain ⟨v, vs', rfl, h2, h3⟩ := h
    simp only [List.map_cons, SlotRs]
    exact ⟨v, vs', rfl, hf s v h2, slots_map hf h3⟩

theorem setO_slots {w : World} {Φ : Bool → Nat → Prop} {ob : List (Nat × O)} {ρ : Nat → List Value} {l : List S} {tm : List Value} (h : SlotRs w Φ ob ρ l tm) {d : Option Nat} {s : S} {v : Value} (hs : ∀ j, d = some j → j < tm.length → SlotR w Φ ob ρ s v) : SlotRs w Φ ob ρ (setO l d s) (putL tm d v) := by
  cases d with
  | none => exact h
  | some j =>
    by_cases hj : j < tm.length
    · exact h.set j s v (hs j rfl hj)
    · simp only [setO, putL]
      have hl := h.length
      rw [List.set_eq_of_length_le (by omega), List.set_eq_of_length_le (by omega)]
      exact h

theorem stepAt_zero {w : World} {x : C} {v : Value} {g o : Nat} {r : List C} {rv : List Value} (h : stepAt w x v 0 = some (g, o, r, rv)) : o = 0 ∧ ∃ ad n cap, v = .slice (some ad) n cap ∧ g = ad.block := by
  unfold stepAt at h
  split at h
  · rename_i r1 sz ad n cap h1 h2
    split at h
    · simp only [Option.some.injEq, Prod.mk.injEq, Nat.zero_mul] at h
      exact ⟨h.2.1.symm, ad, n, cap, rfl, h.1.symm⟩
    · cases h
  · cases h

/-- What stands beside an operation stands behind it, too. -/
theorem frame_eff {o : Oper} {rs ks : List Nat} {α β σ : F} (hop : OpOk P o α β) (hp : (Res.eff rs ks α o.dst β).pre σ) {w : World} {Φ : Bool → Nat → Prop} {tm : List Value} {ρ : Nat → List Value} {B : List Nat} {ds : List Deferred} {K : Act → World → Prop} {Q : Exit → Act → World → Prop} (hR : Rel w Φ σ tm ρ B)
    (hK : ∀ tm' w' Φ' ρ' B', Rel w' Φ' ((Res.eff rs ks α o.dst β).app σ) tm' ρ' B' → Next w Φ ρ B w' Φ' ρ' B' → K ⟨tm'.toArray, ds⟩ w') : o.wp P ⟨tm.toArray, ds⟩ w K Q := by
  simp only [Res.pre] at hp
  obtain ⟨hα, hclash, hnd⟩ := hp
  have hpk := pick_nodup (ks := ks) hR.keys
  obtain ⟨B1, B2, r1, r2, r3, r4⟩ := hR.obs.split (ob1 := pick σ.ob ks) (ob2 := dropAll ks σ.ob) hR.keys hR.nd hpk (dropAll_nodup hR.keys) (fun k o hl => pick_sub hR.keys hl) (fun k o hl => by
    rw [look_dropAll] at hl
    split at hl
    · cases hl
    · exact hl) (fun k hk hk' => by
    obtain ⟨o1, h1⟩ := look_of_mem hk
    obtain ⟨o2, h2⟩ := look_of_mem hk'
    rw [pick_look hR.keys] at h1
    rw [look_dropAll] at h2
    split at h1
    · rename_i hc; rw [if_pos hc] at h2; cases h2
    · cases h1)
  have m1 : ∀ b ∈ B1, b ∈ B := fun b hb => r4 b (List.mem_append.mpr (.inl hb))
  have m2 : ∀ b ∈ B2, b ∈ B := fun b hb => r4 b (List.mem_append.mpr (.inr hb))
  have hnd12 := r3
  rw [List.nodup_append] at hnd12
  obtain ⟨n1, n2, n3⟩ := hnd12
  have hRα : Rel w Φ α tm ρ B1 := by
    rw [← hα]
    exact ⟨r1, n1, hpk, fun b hb => hR.disj b (m1 b hb), fun b hb => hR.lt b (m1 b hb), hR.ltΦ, hR.sub, maskSl_slots (over_sub fun k o hl => pick_sub hR.keys hl) rs _ _ 0 hR.slots⟩
  have h1 := hop w Φ tm ρ B1 ds (fun a' w' => ∃ tm' Φ' ρ' B', a' = ⟨tm'.toArray, ds⟩ ∧ Rel w' Φ' β tm' ρ' B' ∧ Next w Φ ρ B1 w' Φ' ρ' B' ∧ Same o.dst ρ ρ') Q hRα (fun tm' w' Φ' ρ' B' a b c => ⟨tm', Φ', ρ', B', rfl, a, b, c⟩)
  refine Oper.wp_mono ?_ (wp_put (by rintro a' w' ⟨tm', Φ', ρ', B', rfl, _⟩; rfl) h1)
  rintro a' w' ⟨⟨v, e1⟩, tm', Φ', ρ', B', rfl, hRβ, hN, hS⟩
  have etm : tm' = putL tm o.dst v := by
    rw [act_put] at e1
    have := congrArg Act.tmps e1
    simpa using this
  have hkβ : ∀ k ∈ β.ob.map (·.1), look (dropAll ks σ.ob) k = none := by
    intro k hk
    rw [look_dropAll]
    split
    · rfl
    · rename_i hc; exact hclash k hk (by simpa using hc)
  have hblk : ∀ b ∈ B2, w'.heap[b]? = w.heap[b]? := fun b hb => hN.block b (hR.lt b (m2 b hb)) (fun hb1 => n3 b hb1 b hb rfl)
  have hro : ∀ x b, Φ x b → w'.heap[b]? = w.heap[b]? := fun x b hb => hN.block b (hR.ltΦ x b hb) (fun hb1 => hR.disj b (m1 b hb1) x hb)
  -- ρ of the whole
  let ρ'' : Nat → List Value := fun k => if (β.ob.map (·.1)).contains k then ρ' k else ρ k
  have ρin : ∀ k ∈ β.ob.map (·.1), ρ'' k = ρ' k := fun k hk => by simp only [ρ'']; rw [if_pos (by simpa using hk)]
  have ρout : ∀ k, k ∉ β.ob.map (·.1) → ρ'' k = ρ k := fun k hk => by simp only [ρ'']; rw [if_neg (by simpa using hk)]
  have hdk : ∀ k ∈ (dropAll ks σ.ob).map (·.1), k ∉ β.ob.map (·.1) := fun k hk hk' => by
    obtain ⟨o2, h2⟩ := look_of_mem hk
    rw [hkβ k hk'] at h2
    cases h2
  have hobs : IsOb w' Φ' ρ'' (β.ob ++ dropAll ks σ.ob) (B' ++ B2) := by
    refine IsOb.append (hRβ.obs.keep (Keeps.refl _ _ _) ρin) (r2.keep ⟨hN.mono, hro, hblk⟩ fun k hk => ρout k (hdk k hk))
  have hapart : ∀ b ∈ B', b ∉ B2 := fun b hb hb2 => by
    rcases hN.own b hb with h | h
    · exact n3 b h b hb2 rfl
    · exact absurd (hR.lt b (m2 b hb2)) (Nat.not_lt.mpr h)
  have hnd' : (B' ++ B2).Nodup := by
    rw [List.nodup_append]
    exact ⟨hRβ.nd, n2, fun a ha b hb e => hapart a ha (by rw [e]; exact hb)⟩
  have hkeys : ((β.ob ++ dropAll ks σ.ob).map (·.1)).Nodup := by
    rw [List.map_append, List.nodup_append]
    refine ⟨hnd, dropAll_nodup hR.keys, fun a ha b hb e => ?_⟩
    subst e
    exact hdk a hb ha
  have hlook : ∀ k, look (β.ob ++ dropAll ks σ.ob) k = match look β.ob k with | some o => some o | none => look (dropAll ks σ.ob) k := fun k => look_append
  have hover : Over w w' Φ Φ' σ.ob (β.ob ++ dropAll ks σ.ob) ρ ρ'' (stillV o.dst ks β.ob) (stillP o.dst ks β.ob) := by
    have side : ∀ k ob1, ks.contains k = false → look σ.ob k = some ob1 → k ∉ β.ob.map (·.1) ∧ look (β.ob ++ dropAll ks σ.ob) k = some ob1 ∧ ∃ Bk, (∀ b ∈ Bk, w'.heap[b]? = w.heap[b]?) ∧ IsCs w Φ ob1.cells (ρ k) Bk := by
      intro k ob1 hc hl
      have hkb : k ∉ β.ob.map (·.1) := fun hk => by
        rw [hclash k hk (by simpa using hc)] at hl
        cases hl
      have hl2 : look (dropAll ks σ.ob) k = some ob1 := by rw [look_dropAll, hc]; exact hl
      obtain ⟨Bk, q1, q2⟩ := look_is r2 (dropAll_nodup hR.keys) hl2
      exact ⟨hkb, by rw [hlook, look_none_of hkb]; exact hl2, Bk, fun b hb => hblk b (q1 b hb), q2⟩
    refine ⟨hN.mono, hro, ?_, ?_⟩
    · intro k p hk o1 vs hl hv
      unfold stillV at hk
      cases hc : ks.contains k with
      | false =>
        obtain ⟨q1, q2, Bk, q3, q4⟩ := side k o1 hc hl
        exact ⟨o1, q2, by rw [ρout k q1, (keep_vals q4 q3 p).1]; exact hv⟩
      | true =>
        rw [hc] at hk
        simp only [Bool.not_true, Bool.false_or, Bool.and_eq_true, Bool.not_eq_true', List.isEmpty_iff] at hk
        obtain ⟨⟨rfl, hnk⟩, hsome⟩ := hk
        obtain ⟨o2, ho2⟩ := Option.isSome_iff_exists.mp hsome
        refine ⟨o2, by rw [hlook, ho2], ?_⟩
        simp only [valsAt] at hv ⊢
        rw [ρin k (look_mem ho2), hS k hnk]
        exact hv
    · intro k p hk o1 g a hl hv
      unfold stillP at hk
      cases hc : ks.contains k with
      | false =>
        obtain ⟨q1, q2, Bk, q3, q4⟩ := side k o1 hc hl
        exact ⟨o1, q2, by rw [ρout k q1, (keep_vals q4 q3 p).2]; exact hv⟩
      | true =>
        rw [hc] at hk
        simp only [Bool.not_true, Bool.false_or, Bool.and_eq_true, Bool.not_eq_true', beq_iff_eq] at hk
        obtain ⟨⟨rfl, hnk⟩, hrow⟩ := hk
        unfold rowOk at hrow
        split at hrow
        · rename_i o2 ho2
          split at hrow
          · rename_i c' cr' hcells
            obtain ⟨r, hr⟩ := Option.isSome_iff_exists.mp hrow
            refine ⟨o2, by rw [hlook, ho2], ?_⟩
            rw [ρin k (look_mem ho2), hS k hnk]
            simp only [addrAt] at hv
            cases hx : o1.cells[0]? with
            | none => simp [hx] at hv
            | some x =>
              cases hv0 : (ρ k)[0]? with
              | none => simp [hx, hv0] at hv
              | some v0 =>
                simp only [hx, hv0] at hv
                cases hst : stepAt w x v0 0 with
                | none => simp [hst] at hv
                | some q =>
                  obtain ⟨g0, a0, r0, rv0⟩ := q
                  simp only [hst, Option.some.injEq, Prod.mk.injEq] at hv
                  obtain ⟨rfl, rfl⟩ := hv
                  obtain ⟨Bk, q1, q2⟩ := look_is hRβ.obs hRβ.keys ho2
                  rw [hS k hnk] at q2
                  have hx2 : o2.cells[0]? = some c' := by rw [hcells]; rfl
                  obtain ⟨Bx, q3, q4⟩ := q2.at_ hx2 hv0
                  obtain ⟨g1, a1, rv1, Br, s1, s2, _⟩ := stepAt_row q4 hr
                  simp only [addrAt, hx2, hv0, s1]
                  obtain ⟨z1, ad, n1, c1, z2, z3⟩ := stepAt_zero hst
                  obtain ⟨y1, ad', n2, c2, y2, y3⟩ := stepAt_zero s1
                  rw [z2] at y2
                  simp only [Value.slice.injEq, Option.some.injEq] at y2
                  rw [z1, y1, z3, y3, y2.1]
          · cases hrow
        · cases hrow
  refine hK tm' w' Φ' ρ'' (B' ++ B2) ⟨hobs, hnd', hkeys, ?_, ?_, hRβ.ltΦ, hRβ.sub, ?_⟩ ⟨hN.os, hN.tape, hN.output, hN.size, fun b hb hn => hN.block b hb (fun hb1 => hn (m1 b hb1)), ?_, hN.mono, fun x b hb => (hN.fresh x b hb).imp id (Or.imp (m1 b) id), hN.lent, ?_⟩
  · intro b hb x hx
    rcases List.mem_append.mp hb with hb | hb
    · exact hRβ.disj b hb x hx
    · rcases hN.fresh x b hx with h | h | h
      · exact hR.disj b (m2 b hb) x h
      · exact n3 b h b hb rfl
      · exact absurd (hR.lt b (m2 b hb)) (Nat.not_lt.mpr h)
  · intro b hb
    rcases List.mem_append.mp hb with hb | hb
    · exact hRβ.lt b hb
    · exact Nat.lt_of_lt_of_le (hR.lt b (m2 b hb)) hN.size
  · rw [etm]
    simp only [Res.app]
    refine setO_slots (slots_map (fun s v hs => ?_) hR.slots) fun j hj hlt => ?_
    · exact hover.sift hs
    · have hs := hRβ.slots.get j
      have C := carry_same (w' := w') (Φ' := Φ') (ρ' := ρ'') (ob' := β.ob ++ dropAll ks σ.ob) hRβ.obs hRβ.keys (Keeps.refl _ _ _) (fun k o1 hl => ⟨by rw [hlook, hl], ρin k (look_mem hl)⟩)
      have h2 := C.slot _ _ hs
      rw [etm, hj] at h2
      have e2 : (putL tm (some j) v).getD j undef = v := by
        simp only [putL, List.getD_eq_getElem?_getD, List.getElem?_set_self hlt, Option.getD_some]
      rw [e2] at h2
      simp only [Res.out, hj]
      exact h2
  · intro b hb
    rcases List.mem_append.mp hb with hb | hb
    · exact (hN.own b hb).imp (m1 b) id
    · exact .inl (m2 b hb)
  · intro j hj
    by_cases hk : j ∈ β.ob.map (·.1)
    · rw [ρin j hk]; exact hN.imp j hj
    · exact ρout j hk

theorem nodupB_is : ∀ {l : List Nat}, nodupB l = true → l.Nodup
  | [], _ => List.nodup_nil
  | x :: r, h => by
    simp only [nodupB, Bool.and_eq_true, Bool.not_eq_true', List.contains_eq_mem, decide_eq_false_iff_not] at h
    exact List.nodup_cons.mpr ⟨h.1, nodupB_is h.2⟩

/-- What the evaluator tells of an operation of such a region. -/
theorem res_is (he : EnvOk P e) (hrun : RunOk P e run) {ops : Array Oper} {σ : F} {i : Nat} {o : Oper} {R : Res} (ho : ops[i]? = some o) (h : resOf e run ops σ o = some R) : R.pre σ ∧ Loc P ops σ.sl.length i R := by
  unfold resOf at h
  split at h
  · rename_i hg
    split at h
    · rename_i hs
      split at h
      · rename_i σ' hop
        simp only [Option.some.injEq] at h
        subst h
        refine ⟨⟨rfl, rfl⟩, ?_⟩
        intro τ w Φ tm ρ B ds K Q hlen hp hR hK
        simp only [Res.pre] at hp
        have hat := map_eq_at hp.1
        have hlk := map_eq_look hp.2
        obtain ⟨s, e1, e2⟩ := still_local (run := run) (τ := τ) o hs (rd_congr hat) hlk hop
        refine wpOp_wanted ho ?_ ((done_of he hrun o e2).ok w Φ tm ρ B ds K Q hR fun tm' w' Φ' ρ' B' a b _ => hK tm' w' Φ' ρ' B' ?_ b)
        · exact guard_is (b := true) (by rw [guard_congr hat]; exact hg) hR
        · simp only [Res.app]
          rw [put_same (s' := s)]
          · exact a
          · intro j hj hlt
            simp only [hj]
            rw [e1, hj]
            simp only [F.at_, F.put]
            rw [List.getD_eq_getElem?_getD, List.getElem?_set_self (by omega)]
            rfl
      · cases h
    · rename_i hs
      simp only at h
      split at h
      · rename_i β hop
        split at h
        · rename_i hc
          simp only [Option.some.injEq] at h
          subst h
          simp only [Bool.and_eq_true] at hc
          refine ⟨⟨rfl, fun k hk hn => ?_, nodupB_is hc.2⟩, ?_⟩
          · obtain ⟨x, hx, rfl⟩ := List.mem_map.mp hk
            have := List.all_eq_true.mp hc.1 x hx
            simp only [Bool.or_eq_true, Option.isNone_iff_eq_none] at this
            exact this.resolve_left (by simpa using hn)
          · intro τ w Φ tm ρ B ds K Q hlen hp hR hK
            refine wpOp_wanted ho ?_ (frame_eff (done_of he hrun o hop).ok hp hR hK)
            have hp1 : τ.only (o.looksAt ops) _ = σ.only (o.looksAt ops) _ := hp.1
            -- the guard
            have hgα : guardOf ops (σ.only (o.looksAt ops) (S.keyss ((o.looksAt ops).map σ.at_) ++ (σ.ob.map (·.1)).filter (newKey o.dst))) o = some true := by
              unfold guardOf at hg ⊢
              cases hgd : o.guard with
              | none => rfl
              | some gb =>
                obtain ⟨g, b⟩ := gb
                rw [hgd] at hg
                simp only at hg ⊢
                cases hog : ops[g]? with
                | none => simp [hog] at hg
                | some og =>
                  simp only [hog] at hg ⊢
                  cases hod : og.dst with
                  | none => simp [hod] at hg
                  | some d =>
                    simp only [hod] at hg ⊢
                    have hmem : d ∈ o.looksAt ops := by simp [Oper.looksAt, hgd, hog, hod]
                    have hmask : ∀ (ob : List (Nat × O)) (x : S), σ.at_ d = x → (∀ tv tp, S.ok tv tp x = true) → (maskSl ob (o.looksAt ops) 0 σ.sl).getD d .dead = x := by
                      intro ob x hx hok
                      have key : ∀ (l : List S) (i j : Nat), i + j = d → l.getD j .dead = x → (maskSl ob (o.looksAt ops) i l).getD j .dead = x := by
                        intro l
                        induction l with
                        | nil => intro i j _ h; simpa [maskSl] using h
                        | cons s r ih =>
                          intro i j hij h
                          cases j with
                          | zero =>
                            simp only [List.getD_cons_zero] at h
                            simp only [maskSl, List.getD_cons_zero]
                            rw [if_pos (by rw [show i = d by omega]; simpa using hmem), h]
                            unfold sift
                            rw [if_pos (hok _ _)]
                          | succ j =>
                            simp only [List.getD_cons_succ] at h
                            simp only [maskSl, List.getD_cons_succ]
                            exact ih (i + 1) j (by omega) h
                      exact key σ.sl 0 d (by omega) hx
                    split at hg
                    · rename_i x hx
                      have := hmask (pick σ.ob (S.keyss ((o.looksAt ops).map σ.at_) ++ (σ.ob.map (·.1)).filter (newKey o.dst))) _ hx (fun _ _ => rfl)
                      simp only [F.only, F.at_]
                      rw [this]
                      simpa using hg
                    · rename_i hx
                      have := hmask (pick σ.ob (S.keyss ((o.looksAt ops).map σ.at_) ++ (σ.ob.map (·.1)).filter (newKey o.dst))) _ hx (fun _ _ => rfl)
                      simp only [F.only, F.at_]
                      rw [this]
                      simpa using hg
                    · cases hg
            obtain ⟨B', hRo, _⟩ := hR.only (o.looksAt ops) (S.keyss ((o.looksAt ops).map σ.at_) ++ (σ.ob.map (·.1)).filter (newKey o.dst))
            rw [hp1] at hRo
            exact guard_is hgα hRo
        · cases h
      · cases h
  · rename_i hg
    simp only [Option.some.injEq] at h
    subst h
    refine ⟨⟨rfl, rfl⟩, ?_⟩
    intro τ w Φ tm ρ B ds K Q hlen hp hR hK
    simp only [Res.pre] at hp
    have hat := map_eq_at hp.1
    refine wpOp_not ho ?_ ?_
    · exact guard_is (b := false) (by rw [guard_congr hat]; exact hg) hR
    · rw [act_put]
      exact hK _ _ _ _ _ (hR.put o.dst (by simp only [SlotR])) (Next.refl _ _ _ _)
  · cases h

end

end Go.Proofs.Ytmkhdnpnjjdgfaa.Ev
