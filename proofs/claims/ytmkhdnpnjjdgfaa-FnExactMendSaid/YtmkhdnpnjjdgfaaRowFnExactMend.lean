/- The row of FnExactMend: what the statement asks, out of the evaluator's answer. -/
import Derived.Test.YtmkhdnpnjjdgfaaLaw
import Derived.Test.YtmkhdnpnjjdgfaaScanLaw
set_option linter.unusedVariables false
set_option linter.unusedSimpArgs false
set_option maxRecDepth 100000
namespace Go.Proofs.Ytmkhdnpnjjdgfaa.Th
open Go.ChangeShapes Go.WideShapes Go.ChangeAt Go.RowKit Go Go.Proofs.Ytmkhdnpnjjdgfaa.Ev
open Go.Proofs.Ytmkhdnpnjjdgfaa.Wire

theorem opens_ByteS : Opens Try.prog 22 (fun l : List Int => [.sl 1 (l.map encB)]) (fun l => l.length ≤ maxLen ∧ IsB l) :=
  Opens.map (β := List Int) (enc' := fun l : List Int => [.sl 1 (l.map encB)]) (good' := fun l => l.length ≤ maxLen ∧ IsB l) id (opens_slice (enc := encB) (sz := 1) Try.underlying22 (by kernel_rfl) (by omega) (fun _ => rfl) (opens_int (by kernel_rfl))) (fun _ _ => rfl) (fun _ h => ⟨h.1, fun x hx => wf_u8 (h.2 x hx)⟩)

theorem lifted_FnExactMend (os : Os) (started : os.Started) (H : Type) (enc : TypeId × Value → H) :
    ReturnsInHanded {} Try.checked os 8 .any (Rows.fnExactMendSpec.pre6 enc Try.prog Try.f8 Rows.fnExactMendRow.domain false) (Rows.fnExactMendSpec.post enc Try.prog Try.f8 false true false false) := by
  refine returnsInHanded_of_change_sized (C := Try.checked) own started (by kernel_rfl) Try.func8
    (ChangeSpec.witness6 (enc := enc) (C := Try.checked) false ⟨#[], #[.slice none 0 0], []⟩ 8 (by kernel_rfl) (by kernel_rfl) (by kernel_rfl) (by kernel_rfl)) ?_
  intro W base args ds gs before hval0 hW hcnd hsz0 _
  have hval : ∀ (j : Nat) t v, Try.f8.params[j]? = some t → args[j]? = some v → Value.okWide Try.prog W .any base t v := hval0
  have hW' := hW
  obtain ⟨p, q, hA0, hV, rfl, hfz, hnd⟩ := hW
  have hA : DataW.TrodAll enc Try.prog W 0 (fun _ => true) true Try.f8.params.toList args.toList ds p := hA0
  rw [Try.params8] at hA hval
  obtain ⟨v0, vs0, d0, ds0, p0, q0, hargs, rfl, rfl, h0, r0⟩ := trodAll_cons hA
  obtain ⟨rfl, rfl, rfl⟩ := trodAll_nil r0
  obtain rfl : args = #[v0] := by cases args; simp_all
  obtain ⟨rfl, rfl⟩ := trodVars_none hV
  have k0 := h0
  have lt0 : ∀ x ∈ p0, x.block < W.heap.size := by obtain ⟨m, hm⟩ := k0; exact DataW.trod_lt m _ _ _ hm
  obtain ⟨m0, hm0⟩ := h0
  obtain ⟨x0, g0, e0⟩ := opens_ByteS _ enc W m0 _ _ hm0
  refine (law_calls (f := 8) (args := [.val false (.sl 1 (x0.map encB))]) (vals := [v0]) (by intro f g h; cases h) Try.func8 rfl ?_ (c_law_Mend x0 ?_ ?_)).mono fun e W' ⟨he, bel⟩ => ?_
  · simp only [SlotRs]
    exact ⟨v0, _, rfl, slot_of (ag := false) (valOf_slice Try.underlying22 (hval 0 22 v0 rfl rfl)) e0, rfl⟩
  · exact g0.2
  · exact g0.1
  · subst he
    exact ⟨_, rfl, _, _, _, [], _, [], hW', trodAll_mk1 (shut_bool Try.underlying4 _), (trodAll_cons_mk (Below.trod laidOut (by kernel_rfl) (of_decide_eq_true (by kernel_rfl)) k0 bel lt0) trodAll_mk0), rfl, bel.frame _, fun h => by cases h⟩

theorem over_FnExactMend : Rows.fnExactMendRow.holds Try.pinned (OpenSpec.ofChange Rows.fnExactMendSpec) :=
  OpenClaim.holds_of_wide 8 Try.f8 rfl rfl rfl rfl rfl rfl rfl ⟨rfl, rfl, rfl, rfl, rfl⟩ rfl rfl rfl rfl rfl (by kernel_rfl) Try.func8 (by kernel_rfl)
    (of_decide_eq_true (by kernel_rfl)) (by unfold Func.isWrapper; first | (rw [if_pos (by decide +kernel)]; kernel_rfl) | (rw [if_neg (by decide +kernel)]; exact ⟨rfl, rfl⟩))
    (fun os started H enc _ => lifted_FnExactMend os started H enc)

end Go.Proofs.Ytmkhdnpnjjdgfaa.Th
namespace Go.Proofs.Ytmkhdnpnjjdgfaa
/-- The row, under a short name, for the claim. -/
theorem fnExactMend_holds : Rows.FnExactMendSaid := Th.over_FnExactMend
end Go.Proofs.Ytmkhdnpnjjdgfaa
#print axioms Go.Proofs.Ytmkhdnpnjjdgfaa.fnExactMend_holds
