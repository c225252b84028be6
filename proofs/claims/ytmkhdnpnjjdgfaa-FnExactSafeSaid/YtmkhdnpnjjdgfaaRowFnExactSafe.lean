/- The row of FnExactSafe: what the statement asks, out of the evaluator's answer. -/
import Derived.Test.YtmkhdnpnjjdgfaaLaw
import Derived.Test.YtmkhdnpnjjdgfaaSafe
set_option linter.unusedVariables false
set_option linter.unusedSimpArgs false
set_option maxRecDepth 100000
namespace Go.Proofs.Ytmkhdnpnjjdgfaa.Th
open Go.ChangeShapes Go.WideShapes Go.ChangeAt Go.RowKit Go Go.Proofs.Ytmkhdnpnjjdgfaa.Ev

theorem opens_Chg : Opens Try.prog 77 Chg.enc (fun _ => True) := by
  have hi : Opens Try.prog 3 (fun n : Int => [.lit (.int .i64 n)]) (fun n => (Lit.int .i64 n).wf = true) := opens_int (by kernel_rfl)
  exact Opens.map (β := Chg) (enc' := Chg.enc) (good' := fun _ => True) (fun x => ⟨x.1, x.2.1, x.2.2.1⟩) (opens_struct (P := Try.prog) (t := 77) Try.underlying77 (by kernel_rfl) (opensF_cons (sz := 1) rfl (by kernel_rfl) hi (opensF_cons (sz := 1) rfl (by kernel_rfl) hi (opensF_cons (sz := 1) rfl (by kernel_rfl) hi opensF_nil)))) (fun _ _ => rfl) (fun _ _ => trivial)

theorem opens_ChgS : Opens Try.prog 27 (fun l : List Chg => [.sl 3 (l.map Chg.enc)]) (fun l => l.length ≤ maxLen) :=
  Opens.map (β := List Chg) (enc' := fun l : List Chg => [.sl 3 (l.map Chg.enc)]) (good' := fun l => l.length ≤ maxLen) id (opens_slice (sz := 3) Try.underlying27 (by kernel_rfl) (by omega) (fun _ => rfl) opens_Chg) (fun _ _ => rfl) (fun _ h => h.1)

theorem lifted_Safe (os : Os) (started : os.Started) (H : Type) (enc : TypeId × Value → H) :
    ReturnsInHanded {} Try.checked os 4 .any (Rows.fnExactSafeSpec.pre6 enc Try.prog Try.f4 Rows.fnExactSafeRow.domain false) (Rows.fnExactSafeSpec.post enc Try.prog Try.f4 false true false false) := by
  refine returnsInHanded_of_change_sized (C := Try.checked) own started (by kernel_rfl) Try.func4
    (ChangeSpec.witness6 (enc := enc) (C := Try.checked) false ⟨#[], #[.slice none 0 0], []⟩ 8 (by kernel_rfl) (by kernel_rfl) (by kernel_rfl) (by kernel_rfl)) ?_
  intro W base args ds gs before hval0 hW hcnd hsz0 _
  have hval : ∀ (j : Nat) t v, Try.f4.params[j]? = some t → args[j]? = some v → Value.okWide Try.prog W .any base t v := hval0
  have hsz : (DataW.weightsEach Try.prog (Try.f4.params.toList ++ Rows.fnExactSafeSpec.plain.varTypes Try.prog) (ds ++ gs)).all (· ≤ reachBytes) = true := hsz0
  have hW' := hW
  obtain ⟨p, q, hA0, hV, rfl, hfz, hnd⟩ := hW
  have hA : DataW.TrodAll enc Try.prog W 0 (fun _ => true) true Try.f4.params.toList args.toList ds p := hA0
  rw [Try.params4] at hA hval
  obtain ⟨v0, vs0, d0, ds0, p0, q0, hargs, rfl, rfl, h0, r0⟩ := trodAll_cons hA
  obtain ⟨rfl, rfl, rfl⟩ := trodAll_nil r0
  obtain rfl : args = #[v0] := by cases args; simp_all
  obtain ⟨rfl, rfl⟩ := trodVars_none hV
  have k0 := h0
  have lt0 : ∀ x ∈ p0, x.block < W.heap.size := by obtain ⟨m, hm⟩ := k0; exact DataW.trod_lt m _ _ _ hm
  obtain ⟨m, hm⟩ := h0
  obtain ⟨l, hlen, hl⟩ := opens_ChgS _ enc W m _ _ hm
  refine (law_calls (f := 4) (args := [.val false (.sl 3 (l.map Chg.enc))]) (vals := [v0]) (by intro f g h; cases h) Try.func4 rfl ?_ (c_law_Safe l ?_)).mono fun e W' ⟨he, bel⟩ => ?_
  · simp only [SlotRs]
    exact ⟨v0, [], rfl, slot_of (ag := false) (valOf_slice Try.underlying27 (hval 0 27 v0 rfl rfl)) hl, rfl⟩
  · exact hlen
  · subst he
    exact ⟨_, rfl, _, _, _, [], _, [], hW', trodAll_mk1 (shut_bool Try.underlying4 _), (trodAll_cons_mk (Below.trod laidOut (by kernel_rfl) (of_decide_eq_true (by kernel_rfl)) k0 bel lt0) trodAll_mk0), rfl, bel.frame _, fun h => by cases h⟩

theorem over_Safe : Rows.fnExactSafeRow.holds Try.pinned (OpenSpec.ofChange Rows.fnExactSafeSpec) :=
  OpenClaim.holds_of_wide 4 Try.f4 rfl rfl rfl rfl rfl rfl rfl ⟨rfl, rfl, rfl, rfl, rfl⟩ rfl rfl rfl rfl rfl (by kernel_rfl) Try.func4 (by kernel_rfl)
    (of_decide_eq_true (by kernel_rfl)) (by unfold Func.isWrapper; first | (rw [if_pos (by decide +kernel)]; kernel_rfl) | (rw [if_neg (by decide +kernel)]; exact ⟨rfl, rfl⟩))
    (fun os started H enc _ => lifted_Safe os started H enc)

end Go.Proofs.Ytmkhdnpnjjdgfaa.Th
namespace Go.Proofs.Ytmkhdnpnjjdgfaa
/-- The row, under a short name, for the claim. -/
theorem fnExactSafe_holds : Rows.FnExactSafeSaid := Th.over_Safe
end Go.Proofs.Ytmkhdnpnjjdgfaa
#print axioms Go.Proofs.Ytmkhdnpnjjdgfaa.fnExactSafe_holds
