/- The row of FnExactIrStats: what the statement asks, out of the evaluator's answer. -/
import Derived.Test.YtmkhdnpnjjdgfaaLaw
import Derived.Test.YtmkhdnpnjjdgfaaIr17
set_option linter.unusedVariables false
set_option linter.unusedSimpArgs false
set_option maxRecDepth 100000
namespace Go.Proofs.Ytmkhdnpnjjdgfaa.Th
open Go.ChangeShapes Go.WideShapes Go.ChangeAt Go.RowKit Go Go.Proofs.Ytmkhdnpnjjdgfaa.Ev

open Go.Proofs.Ytmkhdnpnjjdgfaa.Wire
theorem opens_ByteS : Opens Try.prog 22 (fun l : List Int => [.sl 1 (l.map encB)]) (fun l => l.length ≤ maxLen ∧ IsB l) :=
  Opens.map (β := List Int) (enc' := fun l : List Int => [.sl 1 (l.map encB)]) (good' := fun l => l.length ≤ maxLen ∧ IsB l) id (opens_slice (enc := encB) (sz := 1) Try.underlying22 (by kernel_rfl) (by omega) (fun _ => rfl) (opens_int (by kernel_rfl))) (fun _ _ => rfl) (fun _ h => ⟨h.1, fun x hx => wf_u8 (h.2 x hx)⟩)
theorem opens_IntS : Opens Try.prog 35 (fun l : List Int => [.sl 1 (l.map encI)]) (fun l => l.length ≤ maxLen) :=
  Opens.map (β := List Int) (enc' := fun l : List Int => [.sl 1 (l.map encI)]) (good' := fun l => l.length ≤ maxLen) id (opens_slice (enc := encI) (sz := 1) Try.underlying35 (by kernel_rfl) (by omega) (fun _ => rfl) (opens_int (by kernel_rfl))) (fun _ _ => rfl) (fun _ h => h.1)
theorem OpT.enc_len (x : OpT) : x.enc.length = 9 := by rw [OpT.enc_eq]; rfl
theorem opensB_Op : ∀ N, OpensB Try.prog N 175 OpT.enc OpT.Fits
  | 0 => fun H eH w fuel cs x h _ => absurd h (by omega)
  | N + 1 => by
    have ih := opensB_Op N
    have hi : OpensB Try.prog N 3 (fun n : Int => [.lit (.int .i64 n)]) _ := (opens_int (by kernel_rfl)).at N
    have hb : OpensB Try.prog N 4 (fun n : Bool => [.lit (.bool n)]) _ := (opens_bool (by kernel_rfl)).at N
    have ht := opens_ByteS.at N
    have hs := (opensB_slice (sz := 9) Try.underlying115 (by kernel_rfl) (by omega) OpT.enc_len ih).mono (M := N) (by omega)
    exact OpensB.map (β := OpT) (enc' := OpT.enc) (good' := OpT.Fits) (fun x => OpT.mk x.1 x.2.1 x.2.2.1 x.2.2.2.1 x.2.2.2.2.1 x.2.2.2.2.2.1 x.2.2.2.2.2.2.1 x.2.2.2.2.2.2.2.1 x.2.2.2.2.2.2.2.2.1)
      (opensB_struct (P := Try.prog) (t := 175) Try.underlying175 (by kernel_rfl) (opensFB_cons (sz := 1) rfl (by kernel_rfl) hi (opensFB_cons (sz := 1) rfl (by kernel_rfl) hi (opensFB_cons (sz := 1) rfl (by kernel_rfl) hi (opensFB_cons (sz := 1) rfl (by kernel_rfl) hb (opensFB_cons (sz := 1) rfl (by kernel_rfl) hi (opensFB_cons (sz := 1) rfl (by kernel_rfl) ht (opensFB_cons (sz := 1) rfl (by kernel_rfl) hb (opensFB_cons (sz := 1) rfl (by kernel_rfl) hi (opensFB_cons (sz := 1) rfl (by kernel_rfl) hs opensFB_nil))))))))))
      (fun x _ => by rw [OpT.enc_eq]; rfl) (fun x h => OpT.Fits.mk (OpT.mk x.1 x.2.1 x.2.2.1 x.2.2.2.1 x.2.2.2.2.1 x.2.2.2.2.2.1 x.2.2.2.2.2.2.1 x.2.2.2.2.2.2.2.1 x.2.2.2.2.2.2.2.2.1) h.2.2.2.2.2.1.1 h.2.2.2.2.2.2.2.2.1.1 h.2.2.2.2.2.2.2.2.1.2 h.2.2.2.2.2.1.2)
theorem opens_Op : Opens Try.prog 175 OpT.enc OpT.Fits := Opens.of opensB_Op
theorem opens_OpS : Opens Try.prog 115 (fun l : List OpT => [.sl 9 (l.map OpT.enc)]) (fun l => l.length ≤ maxLen ∧ ∀ x ∈ l, x.Fits) := opens_slice (sz := 9) Try.underlying115 (by kernel_rfl) (by omega) OpT.enc_len opens_Op
theorem opens_Mod : Opens Try.prog 117 ModT.enc ModT.Fits :=
  Opens.map (β := ModT) (enc' := ModT.enc) (good' := ModT.Fits) (fun x => ⟨x.1, x.2.1, x.2.2.1⟩)
    (opens_struct (P := Try.prog) (t := 117) Try.underlying117 (by kernel_rfl) (opensF_cons (sz := 1) rfl (by kernel_rfl) opens_OpS (opensF_cons (sz := 1) rfl (by kernel_rfl) opens_IntS (opensF_cons (sz := 1) rfl (by kernel_rfl) (opens_bool (by kernel_rfl)) opensF_nil))))
    (fun _ _ => rfl) (fun x h => ⟨h.1.1, h.1.2, h.2.1⟩)
theorem opens_IR : Opens Try.prog 56 encM (fun l => l.length ≤ maxLen ∧ ∀ x ∈ l, x.Fits) :=
  Opens.map (β := List ModT) (enc' := encM) (good' := fun l => l.length ≤ maxLen ∧ ∀ x ∈ l, x.Fits) (fun x => x.1)
    (opens_struct (P := Try.prog) (t := 56) Try.underlying56 (by kernel_rfl) (opensF_cons (sz := 1) rfl (by kernel_rfl) (opens_slice (sz := 3) Try.underlying54 (by kernel_rfl) (by omega) (fun _ => rfl) opens_Mod) opensF_nil))
    (fun _ _ => rfl) (fun x h => h.1)

theorem lifted_FnExactIrStats (os : Os) (started : os.Started) (H : Type) (enc : TypeId × Value → H) :
    ReturnsInHanded {} Try.checked os 11 .any (Rows.fnExactIrStatsSpec.pre6 enc Try.prog Try.f11 Rows.fnExactIrStatsRow.domain false) (Rows.fnExactIrStatsSpec.post enc Try.prog Try.f11 false true false false) := by
  refine returnsInHanded_of_change_sized (C := Try.checked) own started (by kernel_rfl) Try.func11
    (ChangeSpec.witness6 (enc := enc) (C := Try.checked) false ⟨#[], #[.agg #[.slice none 0 0]], []⟩ 8 (by kernel_rfl) (by kernel_rfl) (by kernel_rfl) (by kernel_rfl)) ?_
  intro W base args ds gs before hval0 hW hcnd hsz0 _
  have hval : ∀ (j : Nat) t v, Try.f11.params[j]? = some t → args[j]? = some v → Value.okWide Try.prog W .any base t v := hval0
  have hW' := hW
  obtain ⟨p, q, hA0, hV, rfl, hfz, hnd⟩ := hW
  have hA : DataW.TrodAll enc Try.prog W 0 (fun _ => true) true Try.f11.params.toList args.toList ds p := hA0
  rw [Try.params11] at hA hval
  obtain ⟨v0, vs0, d0, ds0, p0, q0, hargs, rfl, rfl, h0, r0⟩ := trodAll_cons hA
  obtain ⟨rfl, rfl, rfl⟩ := trodAll_nil r0
  obtain rfl : args = #[v0] := by cases args; simp_all
  obtain ⟨rfl, rfl⟩ := trodVars_none hV
  have k0 := h0
  have lt0 : ∀ x ∈ p0, x.block < W.heap.size := by obtain ⟨m, hm⟩ := k0; exact DataW.trod_lt m _ _ _ hm
  obtain ⟨m0, hm0⟩ := h0
  obtain ⟨x0, g0, e0⟩ := opens_IR _ enc W m0 _ _ hm0
  refine (law_calls (f := 11) (args := [.agg false (encM x0)]) (vals := [v0]) (by intro f g h; cases h) Try.func11 rfl ?_ (c_law_IrStats x0 ?_ ?_)).mono fun e W' ⟨he, bel⟩ => ?_
  · simp only [SlotRs]
    exact ⟨v0, _, rfl, slot_of (ag := true) (valOf_struct Try.underlying56 (hval 0 56 v0 rfl rfl)) e0, rfl⟩
  · exact g0.1
  · exact g0.2
  · subst he
    exact ⟨_, rfl, _, _, _, [], _, [], hW', trodAll_mk1 (shut_bool Try.underlying4 _), (trodAll_cons_mk (Below.trod laidOut (by kernel_rfl) (of_decide_eq_true (by kernel_rfl)) k0 bel lt0) trodAll_mk0), rfl, bel.frame _, fun h => by cases h⟩

theorem over_FnExactIrStats : Rows.fnExactIrStatsRow.holds Try.pinned (OpenSpec.ofChange Rows.fnExactIrStatsSpec) :=
  OpenClaim.holds_of_wide 11 Try.f11 rfl rfl rfl rfl rfl rfl rfl ⟨rfl, rfl, rfl, rfl, rfl⟩ rfl rfl rfl rfl rfl (by kernel_rfl) Try.func11 (by kernel_rfl)
    (of_decide_eq_true (by kernel_rfl)) (by unfold Func.isWrapper; first | (rw [if_pos (by decide +kernel)]; kernel_rfl) | (rw [if_neg (by decide +kernel)]; exact ⟨rfl, rfl⟩))
    (fun os started H enc _ => lifted_FnExactIrStats os started H enc)

end Go.Proofs.Ytmkhdnpnjjdgfaa.Th
namespace Go.Proofs.Ytmkhdnpnjjdgfaa
/-- The row, under a short name, for the claim. -/
theorem fnExactIrStats_holds : Rows.FnExactIrStatsSaid := Th.over_FnExactIrStats
end Go.Proofs.Ytmkhdnpnjjdgfaa
#print axioms Go.Proofs.Ytmkhdnpnjjdgfaa.fnExactIrStats_holds
