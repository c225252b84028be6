/- The row of FnExactCovers: what the statement asks, out of the evaluator's answer. -/
import Derived.Test.YtmkhdnpnjjdgfaaLaw
import Derived.Test.YtmkhdnpnjjdgfaaCovers
set_option linter.unusedVariables false
set_option linter.unusedSimpArgs false
set_option maxRecDepth 100000
namespace Go.Proofs.Ytmkhdnpnjjdgfaa.Th
open Go.ChangeShapes Go.WideShapes Go.ChangeAt Go.RowKit Go Go.Proofs.Ytmkhdnpnjjdgfaa.Ev

theorem opens_IntS : Opens Try.prog 35 (fun l : List Int => [.sl 1 (l.map encI)]) (fun l => l.length ≤ maxLen) :=
  Opens.map (β := List Int) (enc' := fun l : List Int => [.sl 1 (l.map encI)]) (good' := fun l => l.length ≤ maxLen) id (opens_slice (enc := encI) (sz := 1) Try.underlying35 (by kernel_rfl) (by omega) (fun _ => rfl) (opens_int (by kernel_rfl))) (fun _ _ => rfl) (fun _ h => h.1)

theorem opens_IntSS : Opens Try.prog 34 (fun l : List (List Int) => [.sl 1 (l.map (encS 1 encI))]) (fun l => l.length ≤ maxLen ∧ ∀ x ∈ l, x.length ≤ maxLen) :=
  Opens.map (β := List (List Int)) (enc' := fun l : List (List Int) => [.sl 1 (l.map (encS 1 encI))]) (good' := fun l => l.length ≤ maxLen ∧ ∀ x ∈ l, x.length ≤ maxLen) id (opens_slice (enc := encS 1 encI) (good := fun x => x.length ≤ maxLen) (sz := 1) Try.underlying34 (by kernel_rfl) (by omega) (fun _ => rfl) opens_IntS) (fun _ _ => rfl) (fun _ h => h)

theorem lifted_FnExactCovers (os : Os) (started : os.Started) (H : Type) (enc : TypeId × Value → H) :
    ReturnsInHanded {} Try.checked os 5 .any (Rows.fnExactCoversSpec.pre6 enc Try.prog Try.f5 Rows.fnExactCoversRow.domain false) (Rows.fnExactCoversSpec.post enc Try.prog Try.f5 false true false false) := by
  refine returnsInHanded_of_change_sized (C := Try.checked) own started (by kernel_rfl) Try.func5
    (ChangeSpec.witness6 (enc := enc) (C := Try.checked) false ⟨#[], #[.slice none 0 0, .slice none 0 0], []⟩ 8 (by kernel_rfl) (by kernel_rfl) (by kernel_rfl) (by kernel_rfl)) ?_
  intro W base args ds gs before hval0 hW hcnd hsz0 _
  have hval : ∀ (j : Nat) t v, Try.f5.params[j]? = some t → args[j]? = some v → Value.okWide Try.prog W .any base t v := hval0
  have hW' := hW
  obtain ⟨p, q, hA0, hV, rfl, hfz, hnd⟩ := hW
  have hA : DataW.TrodAll enc Try.prog W 0 (fun _ => true) true Try.f5.params.toList args.toList ds p := hA0
  rw [Try.params5] at hA hval
  obtain ⟨v0, vs0, d0, ds0, p0, q0, hargs, rfl, rfl, h0, r0⟩ := trodAll_cons hA
  obtain ⟨v1, vs1, d1, ds1, p1, q1, hargs1, rfl, rfl, h1, r1⟩ := trodAll_cons r0
  obtain ⟨rfl, rfl, rfl⟩ := trodAll_nil r1
  obtain rfl : args = #[v0, v1] := by cases args; simp_all
  obtain ⟨rfl, rfl⟩ := trodVars_none hV
  have k0 := h0
  have lt0 : ∀ x ∈ p0, x.block < W.heap.size := by obtain ⟨m, hm⟩ := k0; exact DataW.trod_lt m _ _ _ hm
  obtain ⟨m0, hm0⟩ := h0
  obtain ⟨x0, g0, e0⟩ := opens_IntSS _ enc W m0 _ _ hm0
  have k1 := h1
  have lt1 : ∀ x ∈ p1, x.block < W.heap.size := by obtain ⟨m, hm⟩ := k1; exact DataW.trod_lt m _ _ _ hm
  obtain ⟨m1, hm1⟩ := h1
  obtain ⟨x1, g1, e1⟩ := opens_IntS _ enc W m1 _ _ hm1
  refine (law_calls (f := 5) (args := [.val false (.sl 1 (x0.map (encS 1 encI))), .val false (.sl 1 (x1.map encI))]) (vals := [v0, v1]) (by intro f g h; cases h) Try.func5 rfl ?_ (c_law_Covers x0 x1 ?_ ?_ ?_)).mono fun e W' ⟨he, bel⟩ => ?_
  · simp only [SlotRs]
    exact ⟨v0, _, rfl, slot_of (ag := false) (valOf_slice Try.underlying34 (hval 0 34 v0 rfl rfl)) e0, ⟨v1, _, rfl, slot_of (ag := false) (valOf_slice Try.underlying35 (hval 1 35 v1 rfl rfl)) e1, rfl⟩⟩
  · exact g0.1
  · exact g0.2
  · exact g1
  · subst he
    exact ⟨_, rfl, _, _, _, [], _, [], hW', trodAll_mk1 (shut_bool Try.underlying4 _), (trodAll_cons_mk (Below.trod laidOut (by kernel_rfl) (of_decide_eq_true (by kernel_rfl)) k0 bel lt0) (trodAll_cons_mk (Below.trod laidOut (by kernel_rfl) (of_decide_eq_true (by kernel_rfl)) k1 bel lt1) trodAll_mk0)), rfl, bel.frame _, fun h => by cases h⟩

theorem over_FnExactCovers : Rows.fnExactCoversRow.holds Try.pinned (OpenSpec.ofChange Rows.fnExactCoversSpec) :=
  OpenClaim.holds_of_wide 5 Try.f5 rfl rfl rfl rfl rfl rfl rfl ⟨rfl, rfl, rfl, rfl, rfl⟩ rfl rfl rfl rfl rfl (by kernel_rfl) Try.func5 (by kernel_rfl)
    (of_decide_eq_true (by kernel_rfl)) (by unfold Func.isWrapper; first | (rw [if_pos (by decide +kernel)]; kernel_rfl) | (rw [if_neg (by decide +kernel)]; exact ⟨rfl, rfl⟩))
    (fun os started H enc _ => lifted_FnExactCovers os started H enc)

end Go.Proofs.Ytmkhdnpnjjdgfaa.Th
namespace Go.Proofs.Ytmkhdnpnjjdgfaa
/-- The row, under a short name, for the claim. -/
theorem fnExactCovers_holds : Rows.FnExactCoversSaid := Th.over_FnExactCovers
end Go.Proofs.Ytmkhdnpnjjdgfaa
#print axioms Go.Proofs.Ytmkhdnpnjjdgfaa.fnExactCovers_holds
