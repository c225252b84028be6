/- FnExactPrintIr: for every input the call returns true and the input reads as it did, where the library's tables hold what the program's text lays. The card ties these to the text. By the evaluator. -/
import Derived.Test.YtckojpaklblnpaaDoorLaw
import Derived.Test.YtckojpaklblnpaaDoorExtP
import Derived.Test.YtckojpaklblnpaaDoorPr7
import Derived.Test.YtckojpaklblnpaaDoorRows
import Derived.Test.YtckojpaklblnpaaDoorTie
import Derived.Test.YtckojpaklblnpaaDoorCards
import Derived.LaidMore
import Derived.LaidLaws
import Derived.MakeChecks
import Derived.Stop.LaidErr
import Derived.SevenTiedAt
set_option linter.unusedVariables false
set_option linter.unusedSimpArgs false
set_option maxRecDepth 100000
namespace Go.Proofs.YtckojpaklblnpaaDoor.Th
open Go.ChangeShapes Go.WideShapes Go.ChangeAt Go.RowKit Go Go.Proofs.YtckojpaklblnpaaDoor.Ev

open Go.Proofs.YtckojpaklblnpaaDoor.Wire
theorem opens_ByteS : Opens Tryd.prog 35 (fun l : List Int => [.sl 1 (l.map encB)]) (fun l => l.length ≤ maxLen ∧ IsB l) :=
  Opens.map (β := List Int) (enc' := fun l : List Int => [.sl 1 (l.map encB)]) (good' := fun l => l.length ≤ maxLen ∧ IsB l) id (opens_slice (enc := encB) (sz := 1) Tryd.underlying35 (by kernel_rfl) (by omega) (fun _ => rfl) (opens_int (by kernel_rfl))) (fun _ _ => rfl) (fun _ h => ⟨h.1, fun x hx => wf_u8 (h.2 x hx)⟩)
theorem opens_IntS : Opens Tryd.prog 38 (fun l : List Int => [.sl 1 (l.map encI)]) (fun l => l.length ≤ maxLen) :=
  Opens.map (β := List Int) (enc' := fun l : List Int => [.sl 1 (l.map encI)]) (good' := fun l => l.length ≤ maxLen) id (opens_slice (enc := encI) (sz := 1) Tryd.underlying38 (by kernel_rfl) (by omega) (fun _ => rfl) (opens_int (by kernel_rfl))) (fun _ _ => rfl) (fun _ h => h.1)
theorem OpT.enc_len (x : OpT) : x.enc.length = 9 := by rw [OpT.enc_eq]; rfl
theorem opensB_Op : ∀ N, OpensB Tryd.prog N 99 OpT.enc OpT.Fits
  | 0 => fun H eH w fuel cs x h _ => absurd h (by omega)
  | N + 1 => by
    have ih := opensB_Op N
    have hi : OpensB Tryd.prog N 3 (fun n : Int => [.lit (.int .i64 n)]) _ := (opens_int (by kernel_rfl)).at N
    have hb : OpensB Tryd.prog N 4 (fun n : Bool => [.lit (.bool n)]) _ := (opens_bool (by kernel_rfl)).at N
    have ht := opens_ByteS.at N
    have hs := (opensB_slice (sz := 9) Tryd.underlying50 (by kernel_rfl) (by omega) OpT.enc_len ih).mono (M := N) (by omega)
    exact OpensB.map (β := OpT) (enc' := OpT.enc) (good' := OpT.Fits) (fun x => OpT.mk x.1 x.2.1 x.2.2.1 x.2.2.2.1 x.2.2.2.2.1 x.2.2.2.2.2.1 x.2.2.2.2.2.2.1 x.2.2.2.2.2.2.2.1 x.2.2.2.2.2.2.2.2.1)
      (opensB_struct (P := Tryd.prog) (t := 99) Tryd.underlying99 (by kernel_rfl) (opensFB_cons (sz := 1) rfl (by kernel_rfl) hi (opensFB_cons (sz := 1) rfl (by kernel_rfl) hi (opensFB_cons (sz := 1) rfl (by kernel_rfl) hi (opensFB_cons (sz := 1) rfl (by kernel_rfl) hb (opensFB_cons (sz := 1) rfl (by kernel_rfl) hi (opensFB_cons (sz := 1) rfl (by kernel_rfl) ht (opensFB_cons (sz := 1) rfl (by kernel_rfl) hb (opensFB_cons (sz := 1) rfl (by kernel_rfl) hi (opensFB_cons (sz := 1) rfl (by kernel_rfl) hs opensFB_nil))))))))))
      (fun x _ => by rw [OpT.enc_eq]; rfl) (fun x h => OpT.Fits.mk (OpT.mk x.1 x.2.1 x.2.2.1 x.2.2.2.1 x.2.2.2.2.1 x.2.2.2.2.2.1 x.2.2.2.2.2.2.1 x.2.2.2.2.2.2.2.1 x.2.2.2.2.2.2.2.2.1) h.2.2.2.2.2.1.1 h.2.2.2.2.2.2.2.2.1.1 h.2.2.2.2.2.2.2.2.1.2 h.2.2.2.2.2.1.2)
theorem opens_Op : Opens Tryd.prog 99 OpT.enc OpT.Fits := Opens.of opensB_Op
theorem opens_OpS : Opens Tryd.prog 50 (fun l : List OpT => [.sl 9 (l.map OpT.enc)]) (fun l => l.length ≤ maxLen ∧ ∀ x ∈ l, x.Fits) := opens_slice (sz := 9) Tryd.underlying50 (by kernel_rfl) (by omega) OpT.enc_len opens_Op
theorem opens_Mod : Opens Tryd.prog 52 ModT.enc ModT.Fits :=
  Opens.map (β := ModT) (enc' := ModT.enc) (good' := ModT.Fits) (fun x => ⟨x.1, x.2.1, x.2.2.1⟩)
    (opens_struct (P := Tryd.prog) (t := 52) Tryd.underlying52 (by kernel_rfl) (opensF_cons (sz := 1) rfl (by kernel_rfl) opens_OpS (opensF_cons (sz := 1) rfl (by kernel_rfl) opens_IntS (opensF_cons (sz := 1) rfl (by kernel_rfl) (opens_bool (by kernel_rfl)) opensF_nil))))
    (fun _ _ => rfl) (fun x h => ⟨h.1.1, h.1.2, h.2.1⟩)
theorem opens_IR : Opens Tryd.prog 24 encM (fun l => l.length ≤ maxLen ∧ ∀ x ∈ l, x.Fits) :=
  Opens.map (β := List ModT) (enc' := encM) (good' := fun l => l.length ≤ maxLen ∧ ∀ x ∈ l, x.Fits) (fun x => x.1)
    (opens_struct (P := Tryd.prog) (t := 24) Tryd.underlying24 (by kernel_rfl) (opensF_cons (sz := 1) rfl (by kernel_rfl) (opens_slice (sz := 3) Tryd.underlying22 (by kernel_rfl) (by omega) (fun _ => rfl) opens_Mod) opensF_nil))
    (fun _ _ => rfl) (fun x h => h.1)

abbrev laidL : List (String × DataW Unit) := Rows.fnExactPrintIrRow.laid
theorem door_met (os : Os) (args : Array Value) : laidMetH Tryd.prog laidL ((World.doorLaid Tryd.prog 24 os).forCall (fun _ _ => 0) ⟨#[], args, []⟩).memory :=
  laidMetH_of_parts3 (fuel := 8) (laidMet_of_run' 8 (by kernel_rfl) (by kernel_rfl)) (by kernel_rfl) (by kernel_rfl)

theorem tab_of {W : World} (h : laidMetH Tryd.prog laidL W) : Lib.TabIs Tryd.prog W "internal/strconv.uint64pow10" .u64 Lib.pow10Tab := by
  rw [MakeChecks.laidMetH_plain _ _ _ (by kernel_rfl)] at h
  have h3 : laidMet Tryd.prog [("internal/strconv.uint64pow10", Lib.tabData .u64 Lib.pow10Tab)] W := h.tail.tail
  exact Lib.tabIs_of_head (g := 0) (t := 113) (e := 59) (n := 20) (by kernel_rfl) (by kernel_rfl) (by kernel_rfl) (by kernel_rfl) (by kernel_rfl) (by kernel_rfl) h3

theorem pin_of {W : World} (h : laidMetH Tryd.prog laidL W) : Ev.Pin W (All W) := by
  intro g cs hg
  unfold pinAt at hg
  split at hg
  · rename_i e
    subst e
    simp only [Option.some.injEq] at hg
    subst hg
    have ht := tab_of h
    unfold Lib.TabIs World.var? at ht
    rw [show Tryd.prog.globalNamed "internal/strconv.uint64pow10" = some 0 by kernel_rfl] at ht
    simp only [Option.bind_some] at ht
    split at ht
    · rename_i cs ty fz hh
      simp only [Option.some.injEq] at ht
      subst ht
      exact ⟨(Array.getElem?_eq_some_iff.mp hh).1, ty, fz, hh⟩
    · cases ht
  · cases hg

theorem lifted_FnExactPrintIr (os : Os) (started : os.Started) (H : Type) (enc : TypeId × Value → H) :
    ReturnsInHanded {} Tryd.checked os 3 .any (fun w args => (Rows.fnExactPrintIrSpec.pre enc Tryd.prog Tryd.f3 Rows.fnExactPrintIrRow.domain false w args ∧ laidMetH Tryd.prog laidL w) ∧ sizedMet enc Tryd.prog Tryd.f3 (OpenSpec.ofChange Rows.fnExactPrintIrSpec) false w args)
      (Rows.fnExactPrintIrSpec.post enc Tryd.prog Tryd.f3 false true false false) := by
  refine returnsInHanded_of_change_and (C := Tryd.checked) (X := fun w _ => laidMetH Tryd.prog laidL w) (fun _ _ _ hh h => h.of_heap hh) own started (by kernel_rfl) Tryd.func3
    (ChangeSpec.witness_shaped (enc := enc) (C := Tryd.checked) (os := os) (X := fun w _ => laidMetH Tryd.prog laidL w) false (World.doorLaid Tryd.prog 24 os) #[.agg #[.slice none 0 0]] 8 rfl (World.shaped_of_RefB (by kernel_rfl) (by kernel_rfl)) (by kernel_rfl) (by kernel_rfl) (by kernel_rfl) (door_met os _)) ?_
  intro W base args ds gs before hval0 hW _ _ hL _
  have hval : ∀ (j : Nat) t v, Tryd.f3.params[j]? = some t → args[j]? = some v → Value.okWide Tryd.prog W .any base t v := hval0
  have hW' := hW
  obtain ⟨p, q, hA0, hV, rfl, hfz, hnd⟩ := hW
  have hA : DataW.TrodAll enc Tryd.prog W 0 (fun _ => true) true Tryd.f3.params.toList args.toList ds p := hA0
  rw [Tryd.params3] at hA hval
  obtain ⟨v0, vs0, d0, ds0, p0, q0, hargs, rfl, rfl, h0, r0⟩ := trodAll_cons hA
  obtain ⟨rfl, rfl, rfl⟩ := trodAll_nil r0
  obtain rfl : args = #[v0] := by cases args; simp_all
  obtain ⟨rfl, rfl⟩ := trodVars_none hV
  have k0 := h0
  have lt0 : ∀ x ∈ p0, x.block < W.heap.size := by obtain ⟨m, hm⟩ := k0; exact DataW.trod_lt m _ _ _ hm
  obtain ⟨m0, hm0⟩ := h0
  obtain ⟨x0, g0, e0⟩ := opens_IR _ enc W m0 _ _ hm0
  refine (law_callsP exts_are (f := 3) (args := [.agg false (encM x0)]) (vals := [v0]) Tryd.func3 rfl (pin_of hL) ?_ (c_law_PrintIr x0 ?_ ?_)).mono fun e W' ⟨he, bel⟩ => ?_
  · simp only [SlotRs]
    exact ⟨v0, _, rfl, slot_of (ag := true) (valOf_struct Tryd.underlying24 (hval 0 24 v0 rfl rfl)) e0, rfl⟩
  · exact g0.1
  · exact g0.2
  · subst he
    exact ⟨_, rfl, _, _, _, [], _, [], hW', trodAll_mk1 (shut_bool Tryd.underlying4 _), (trodAll_cons_mk (Below.trod laidOut (by kernel_rfl) (of_decide_eq_true (by kernel_rfl)) k0 bel lt0) trodAll_mk0), rfl, bel.frame _, fun h => by cases h⟩

theorem over_FnExactPrintIr : Rows.FnExactPrintIrSaid :=
  OpenClaim.holds_of_wide 3 Tryd.f3 rfl rfl rfl rfl rfl rfl rfl ⟨rfl, rfl, rfl, rfl, rfl⟩ rfl rfl rfl rfl rfl (by kernel_rfl) Tryd.func3 (by kernel_rfl)
    (of_decide_eq_true (by kernel_rfl)) (by unfold Func.isWrapper; first | (rw [if_pos (by decide +kernel)]; kernel_rfl) | (rw [if_neg (by decide +kernel)]; exact ⟨rfl, rfl⟩))
    (fun os started H enc _ => lifted_FnExactPrintIr os started H enc)

end Go.Proofs.YtckojpaklblnpaaDoor.Th
namespace Go.Proofs.YtckojpaklblnpaaDoor
open Go
/-- The card, under a short name, for the claim. -/
theorem fnExactPrintIr_holds : Rows.FnExactPrintIrCardSaid :=
  Claim7.holds_tied_plain_at .later [] [.data, .data, .data] true (true, "dfdb64bdcb99fb8296e0bcbbc6fd53c7556b603e0a8a22c2c00fa5d6ab745823") false
    Th.over_FnExactPrintIr (fun _ h => by cases h) (by kernel_rfl) (fun _ h => by cases h) fnExactPrintIr_row_tie rfl ⟨rfl, rfl⟩ (by kernel_rfl) rfl
    (fun f fn hf hfn => by
      obtain rfl : f = 3 := Option.some.inj ((show Tryd.prog.funcNamed "loop.example/g00104/laws.FnExactPrintIr" = some 3 by kernel_rfl).symm.trans hf) |>.symm
      obtain rfl : fn = Tryd.f3 := (Option.some.inj (Tryd.func3.symm.trans hfn)).symm
      exact ⟨by kernel_rfl, fun j t ht => by
        rw [Tryd.params3] at ht
        have hm : t ∈ [24] := by simpa using Array.mem_of_getElem? ht
        have hall : ([24].all fun u => !Tryd.prog.wantsStandIn u) = true := by kernel_rfl
        exact (show Tryd.prog.wantsStandIn t = false by simpa using List.all_eq_true.1 hall t hm)⟩)
    (by kernel_rfl)
end Go.Proofs.YtckojpaklblnpaaDoor
#print axioms Go.Proofs.YtckojpaklblnpaaDoor.fnExactPrintIr_holds
