/- Regions in their lexical order, and code. -/
import Derived.Test.YtmkhdnpnjjdgfaaOrder
import Derived.Deep.LoopGhost
import Derived.Scope
set_option linter.unusedVariables false
set_option linter.unusedSimpArgs false
namespace Go.Proofs.Ytmkhdnpnjjdgfaa.Ev
open Go Go.RowKit

section
variable {P : Program} {e : Env} {run : FuncId → List S → List O → Option (V × List (Option O))}

/-- A list of operations, in its order. -/
theorem ok_ops (he : EnvOk P e) (hrun : RunOk P e run) (ops : Array Oper) : ∀ (l : List Oper) (σ σ' : F), opsOf e run ops σ l = some σ' →
    ∀ (w : World) (Φ : Bool → Nat → Prop) (tm : List Value) (ρ : Nat → List Value) (B : List Nat) (ds : List Deferred) (Q : Exit → Act → World → Prop), Rel w Φ σ tm ρ B →
      (∀ tm' w' Φ' ρ' B', Rel w' Φ' σ' tm' ρ' B' → Next w Φ ρ B w' Φ' ρ' B' → Q .normal ⟨tm'.toArray, ds⟩ w') → wpList P ops Q l ⟨tm.toArray, ds⟩ w
  | [], σ, σ', h, w, Φ, tm, ρ, B, ds, Q, hR, hQ => by
    simp only [opsOf, Option.some.injEq] at h
    subst h
    exact wpList_nil (hQ _ _ _ _ _ hR (Next.refl _ _ _ _))
  | o :: r, σ, σ', h, w, Φ, tm, ρ, B, ds, Q, hR, hQ => by
    simp only [opsOf] at h
    refine wpList_step fun K hK => ?_
    split at h
    · rename_i b hgd
      have hw := guard_is hgd hR
      cases b with
      | true =>
        rw [if_pos hw]
        simp only [if_true] at h
        split at h
        · rename_i σ1 h1
          refine (done_of he hrun o h1).ok w Φ tm ρ B ds K Q hR fun tm' w' Φ' ρ' B' hR' hn _ => hK _ _ ?_
          exact ok_ops he hrun ops r σ1 σ' h w' Φ' tm' ρ' B' ds Q hR' fun tm2 w2 Φ2 ρ2 B2 hR2 hn2 => hQ _ _ _ _ _ hR2 (hn.trans hn2)
        · cases h
      | false =>
        simp only [Bool.false_eq_true, if_false] at h
        rw [hw]
        simp only [Bool.false_eq_true, if_false]
        rw [act_put]
        refine hK _ _ ?_
        exact ok_ops he hrun ops r _ σ' h w Φ _ ρ B ds Q (hR.put o.dst (by simp only [SlotR])) hQ
    · cases h

def exOf : Ex → Exit
  | .normal => .normal
  | .exit id => .exit id
  | .ret => .ret

theorem keepAt_is (f : FuncId) (c : Code) {w : World} {Φ : Bool → Nat → Prop} {σ : F} {tm : List Value} {ρ : Nat → List Value} {B : List Nat} (h : Rel w Φ σ tm ρ B) : ∃ B', Rel w Φ (keepAt e f c σ) tm ρ B' ∧ ∀ b ∈ B', b ∈ B := by
  unfold keepAt
  split
  · exact h.forget _
  · exact ⟨B, h, fun _ hb => hb⟩

theorem ok_code (he : EnvOk P e) (hrun : RunOk P e run) (hm : P.follows .mixedOrders = true) (f : FuncId) (n : Nat) : ∀ (c : Code) (σ : F) (ex : Ex) (σ' : F), codeOf e run f n c σ = some (ex, σ') →
    ∀ (w : World) (Φ : Bool → Nat → Prop) (tm : List Value) (ρ : Nat → List Value) (B : List Nat) (ds : List Deferred) (Q : Exit → Act → World → Prop), Rel w Φ σ tm ρ B →
      (∀ tm' w' Φ' ρ' B', Rel w' Φ' σ' tm' ρ' B' → Next w Φ ρ B w' Φ' ρ' B' → Q (exOf ex) ⟨tm'.toArray, ds⟩ w') → c.wp P Q ⟨tm.toArray, ds⟩ w := by
  intro c
  induction c with
  | skip =>
    intro σ ex σ' h w Φ tm ρ B ds Q hR hQ
    simp only [codeOf, Option.some.injEq, Prod.mk.injEq] at h
    obtain ⟨rfl, rfl⟩ := h
    exact wp_skip (hQ _ _ _ _ _ hR (Next.refl _ _ _ _))
  | region id ops draw =>
    intro σ ex σ' h w Φ tm ρ B ds Q hR hQ
    cases draw with
    | false =>
      simp only [codeOf, Bool.false_eq_true, if_false, Option.map_eq_some_iff, Prod.mk.injEq] at h
      obtain ⟨σ1, h1, rfl, rfl⟩ := h
      exact wp_region_list (ok_ops he hrun ops ops.toList _ σ1 h1 w Φ tm ρ B ds Q hR hQ)
    | true =>
      simp only [codeOf, if_true] at h
      split at h
      · rename_i l τ h1
        split at h
        · rename_i hB
          simp only [Option.some.injEq, Prod.mk.injEq] at h
          obtain ⟨rfl, rfl⟩ := h
          exact ok_draw he hrun hm h1 hB w Φ tm ρ B ds Q hR hQ
        · cases h
      · cases h
  | seq a b iha ihb =>
    intro σ ex σ' h w Φ tm ρ B ds Q hR hQ
    simp only [codeOf] at h
    refine wp_seq ?_
    split at h
    · rename_i σ1 h1
      refine iha σ .normal σ1 h1 w Φ tm ρ B ds _ hR fun tm1 w1 Φ1 ρ1 B1 hR1 hn1 => ?_
      exact ihb σ1 ex σ' h w1 Φ1 tm1 ρ1 B1 ds Q hR1 fun tm2 w2 Φ2 ρ2 B2 hR2 hn2 => hQ _ _ _ _ _ hR2 (hn1.trans hn2)
    · rename_i hne
      refine iha σ ex σ' h w Φ tm ρ B ds _ hR fun tm1 w1 Φ1 ρ1 B1 hR1 hn1 => ?_
      have := hQ _ _ _ _ _ hR1 hn1
      cases ex with
      | normal => exact absurd h (by intro h; exact hne _ h)
      | exit id => exact this
      | ret => exact this
  | cond c x y ihx ihy =>
    intro σ ex σ' h w Φ tm ρ B ds Q hR hQ
    simp only [codeOf] at h
    split at h
    · rename_i b hb
      have hc := boolOf_is hb (hR.rd (ds := ds) c)
      refine wp_cond hc ?_
      cases b with
      | true => exact ihx σ ex σ' h w Φ tm ρ B ds Q hR hQ
      | false => exact ihy σ ex σ' h w Φ tm ρ B ds Q hR hQ
    · cases h
  | block id c ih =>
    intro σ ex σ' h w Φ tm ρ B ds Q hR hQ
    simp only [codeOf] at h
    refine wp_block ?_
    split at h
    · rename_i j σ1 h1
      refine ih σ (.exit j) σ1 h1 w Φ tm ρ B ds _ hR fun tm1 w1 Φ1 ρ1 B1 hR1 hn1 => ?_
      simp only [exOf, Exit.inBlock]
      split at h
      · rename_i hj
        simp only [Option.some.injEq, Prod.mk.injEq] at h
        obtain ⟨rfl, rfl⟩ := h
        rw [if_pos hj]
        exact hQ _ _ _ _ _ hR1 hn1
      · rename_i hj
        simp only [Option.some.injEq, Prod.mk.injEq] at h
        obtain ⟨rfl, rfl⟩ := h
        rw [if_neg hj]
        exact hQ _ _ _ _ _ hR1 hn1
    · rename_i hne
      refine ih σ ex σ' h w Φ tm ρ B ds _ hR fun tm1 w1 Φ1 ρ1 B1 hR1 hn1 => ?_
      have := hQ _ _ _ _ _ hR1 hn1
      cases ex with
      | normal => exact this
      | exit id => exact absurd h (by intro h; exact hne _ _ h)
      | ret => exact this
  | loop c ih =>
    intro σ ex σ' h w Φ tm ρ B ds Q hR hQ
    simp only [codeOf] at h
    refine wp_loop_ghost (fun k a w1 => ∃ σ1 tm1 Φ1 ρ1 B1, a = ⟨tm1.toArray, ds⟩ ∧ Rel w1 Φ1 σ1 tm1 ρ1 B1 ∧ Next w Φ ρ B w1 Φ1 ρ1 B1 ∧ iter (round e f c (codeOf e run f n c)) k σ1 = some (ex, σ')) n ⟨σ, tm, Φ, ρ, B, rfl, hR, Next.refl _ _ _ _, h⟩ ?_
    rintro k a w1 ⟨σ1, tm1, Φ1, ρ1, B1, rfl, hR0, hn1, hi⟩
    obtain ⟨B0, hR1, hs⟩ := keepAt_is (e := e) f c hR0
    have hn1 := hn1.to_sub hs
    cases k with
    | zero => simp [iter] at hi
    | succ k =>
      simp only [iter, round] at hi
      split at hi
      · rename_i σ2 h2
        refine ih _ .normal σ2 h2 w1 Φ1 tm1 ρ1 B0 ds _ hR1 fun tm2 w2 Φ2 ρ2 B2 hR2 hn2 => ?_
        exact ⟨k, Nat.lt_succ_self k, σ2, tm2, Φ2, ρ2, B2, rfl, hR2, hn1.trans hn2, hi⟩
      · rename_i hne
        refine ih _ ex σ' hi w1 Φ1 tm1 ρ1 B0 ds _ hR1 fun tm2 w2 Φ2 ρ2 B2 hR2 hn2 => ?_
        have := hQ _ _ _ _ _ hR2 (hn1.trans hn2)
        cases ex with
        | normal => exact absurd hi (by intro h; exact hne _ h)
        | exit id => exact this
        | ret => exact this
  | exit id =>
    intro σ ex σ' h w Φ tm ρ B ds Q hR hQ
    simp only [codeOf, Option.some.injEq, Prod.mk.injEq] at h
    obtain ⟨rfl, rfl⟩ := h
    exact wp_exit (hQ _ _ _ _ _ hR (Next.refl _ _ _ _))
  | ret =>
    intro σ ex σ' h w Φ tm ρ B ds Q hR hQ
    simp only [codeOf, Option.some.injEq, Prod.mk.injEq] at h
    obtain ⟨rfl, rfl⟩ := h
    exact wp_ret (hQ _ _ _ _ _ hR (Next.refl _ _ _ _))
  | scope c ih =>
    intro σ ex σ' h w Φ tm ρ B ds Q hR hQ
    simp only [codeOf] at h
    refine wp_scope_straight ?_
    refine ih σ ex σ' h w Φ tm ρ B ds _ hR fun tm1 w1 Φ1 ρ1 B1 hR1 hn1 => ?_
    have := hQ _ _ _ _ _ hR1 hn1
    cases ex <;> exact this
  | _ => intro σ ex σ' h; simp [codeOf] at h

end

end Go.Proofs.Ytmkhdnpnjjdgfaa.Ev
