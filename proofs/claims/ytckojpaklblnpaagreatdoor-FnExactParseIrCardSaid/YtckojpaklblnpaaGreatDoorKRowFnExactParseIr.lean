/- FnExactParseIr: for every input the call returns true and the input reads as it did, where the library's tables and sentinels hold what the program's text lays. The card ties these to the text. By the evaluator. -/
import Derived.Test.YtckojpaklblnpaaGreatDoorKG1
import Derived.Test.YtckojpaklblnpaaGreatDoorKExtP
import Derived.Test.YtckojpaklblnpaaGreatDoorKPl1
import Derived.Test.YtckojpaklblnpaaGreatDoorRows
import Derived.Test.YtckojpaklblnpaaGreatDoorTie
import Derived.Test.YtckojpaklblnpaaGreatDoorCards
import Derived.LaidMore
import Derived.LaidLaws
import Derived.MakeChecks
import Derived.Stop.LaidErr
import Derived.SevenTiedAt
import Derived.HandedShaped
import Derived.Shelf.Vars
import Derived.Lay
set_option linter.unusedVariables false
set_option linter.unusedSimpArgs false
set_option maxRecDepth 100000
namespace Go.Proofs.YtckojpaklblnpaaGreatDoor.Th
open Go.ChangeShapes Go.WideShapes Go.ChangeAt Go.RowKit Go Go.Proofs.YtckojpaklblnpaaGreatDoor.Ev
theorem wrap_both {H : Type} {enc : TypeId × Value → H} {a : Assume} {C : Checked} {os : Os} {f : FuncId} {fn : Func} {s : ChangeSpec} {conds : List PathCond} {apart fresh handsOn again : Bool} {X : World → Array Value → Prop}
    (hX : ∀ (w w' : World) (args : Array Value), w.heap = w'.heap → X w args → X w' args)
    (own : ownKnob C.prog.godebug = none) (started : os.Started) (noInit : C.prog.inits.idxOf? f = none) (hfn : C.prog.funcs[f]? = some fn)
    (witness : ∃ (w : World) (tape : Tape) (i : Input), w.os = os ∧ (w.forCall tape i).Shaped C.prog ∧ i.vars = [] ∧ Input.okWide C.prog (w.forCall tape i) .any w.heap.size f i ∧
      ((s.pre enc C.prog fn conds apart (w.forCall tape i).memory i.args ∧ X (w.forCall tape i).memory i.args) ∧ sizedMet enc C.prog fn (OpenSpec.ofChange s) apart (w.forCall tape i).memory i.args) ∧ a.holds C.prog (lone (Frame.enter C.prog f i.args .normal) [] (w.forCall tape i)))
    (contract : ∀ (W : World) (base : Nat) (args : Array Value) (ds gs : List (DataW H)) (before : List MemPlace),
      (∀ (j : Nat) t v, fn.params[j]? = some t → args[j]? = some v → Value.okWide C.prog W .any base t v) →
      DataW.Whole enc C.prog fn.params.toList s.vars apart W args.toList ds gs before →
      X W args → W.ShapedOpen C.prog →
      Calls C.prog f args W fun e W' => ∃ v, e = .returned v ∧ s.post enc C.prog fn apart fresh handsOn again W args v W') :
    ReturnsInHanded a C os f .any (fun w args => (s.pre enc C.prog fn conds apart w args ∧ X w args) ∧ sizedMet enc C.prog fn (OpenSpec.ofChange s) apart w args) (s.post enc C.prog fn apart fresh handsOn again) := by
  refine returnsInHanded_of_calls own started noInit witness ?_
  intro w tape i _ hsh _ hok hpre _
  obtain ⟨_, _, _, fn', hfn', _, _, _, _, hval⟩ := hok
  obtain rfl : fn' = fn := Option.some.inj (hfn'.symm.trans hfn)
  obtain ⟨⟨⟨ds, gs, before, hw, _⟩, hx⟩, _⟩ := hpre
  refine (contract (w.forCall tape i) w.heap.size i.args ds gs before hval (DataW.Whole.of_heap (w' := w.forCall tape i) (by rfl) hw) (hX _ _ _ (by rfl) hx) hsh).mono fun e W' ⟨v, he, hp⟩ => ?_
  subst he
  exact ChangeSpec.post_blind hp
abbrev laidL : List (String × DataW Unit) := Rows.fnExactParseIrRow.laid
theorem plain_of {W : World} (h : laidMetH Tryz.prog laidL W) : laidMet Tryz.prog laidL W := by
  rw [MakeChecks.laidMetH_plain _ _ _ (by kernel_rfl)] at h
  exact h
theorem tab_of {W : World} (h : laidMet Tryz.prog laidL W) : Lib.TabIs Tryz.prog W "internal/strconv.uint64pow10" .u64 Lib.pow10Tab := by
  have h3 : laidMet Tryz.prog (("internal/strconv.uint64pow10", Lib.tabData .u64 Lib.pow10Tab) :: [("unicode/utf8.acceptRanges", Rows.laid_unicode_utf8_acceptRanges), ("strconv.ErrRange", Rows.laid_strconv_ErrRange), ("strconv.ErrSyntax", Rows.laid_strconv_ErrSyntax), ("unicode/utf8.first", Rows.laid_unicode_utf8_first)]) W := h.tail.tail
  exact Lib.tabIs_of_head (g := 5) (t := 148) (e := 81) (n := 20) (by kernel_rfl) (by kernel_rfl) (by kernel_rfl) (by kernel_rfl) (by kernel_rfl) (by kernel_rfl) h3
theorem var_at {W : World} {n : String} {g : Nat} {cs : Array Value} (hg : Tryz.prog.globalNamed n = some g) (h : W.var? Tryz.prog n = some cs) : g < W.heap.size ∧ ∃ ty fz, W.heap[g]? = some (.cells cs ty fz) := by
  unfold World.var? at h
  rw [hg] at h
  simp only [Option.bind_some] at h
  split at h
  · rename_i cs' ty fz hh
    simp only [Option.some.injEq] at h
    subst h
    exact ⟨(Array.getElem?_eq_some_iff.mp hh).1, ty, fz, hh⟩
  · cases h
theorem typeName_is {u : TypeId} (h : Tryz.prog.typeName? 3 u = some "*errors.errorString") : u = 152 := typeName_ptr_named (nm := "errors.errorString") (by rw [show ("*" ++ "errors.errorString" : String) = "*errors.errorString" by decide]; kernel_rfl) (by kernel_rfl) (by decide) u (by rw [show ("*" ++ "errors.errorString" : String) = "*errors.errorString" by decide]; exact h)
theorem sentinel_at {W : World} {n : String} {text : List UInt8} {r : List (String × DataW Unit)} {g : Nat} (h : laidMet Tryz.prog ((n, .iface "*errors.errorString" (.ptr (.agg [.lit (.string text)]))) :: r) W) (hg : Tryz.prog.globalNamed n = some g) (ht : (Tryz.prog.globals[g]?).map (·.type) = some 92) :
    g < W.heap.size ∧ ∃ te pe ty fz, W.heap[g]? = some (.cells #[.iface te pe] ty fz) := by
  obtain ⟨a, s, hv, _⟩ := laid_sentinel (ti := 92) (tp := 152) (te := 154) (ts := 9) h hg ht Tryz.underlying92 (fun u hu => typeName_is hu) Tryz.underlying152 Tryz.underlying154 rfl rfl Tryz.underlying9 (by kernel_rfl) (by kernel_rfl)
  obtain ⟨h1, ty, fz, h2⟩ := var_at hg hv
  exact ⟨h1, _, _, ty, fz, h2⟩
theorem pin_of {W : World} (h : laidMetH Tryz.prog laidL W) (hs : W.ShapedOpen Tryz.prog) : Ev.Pin W (All W) := by
  have h := plain_of h
  intro g Q hg
  unfold pinAt at hg
  split at hg
  · rename_i e
    subst e
    simp only [Option.some.injEq] at hg
    subst hg
    obtain ⟨h1, ty, fz, h2⟩ := var_at (show Tryz.prog.globalNamed "internal/strconv.uint64pow10" = some 5 by kernel_rfl) (tab_of h)
    exact ⟨h1, _, ty, fz, h2, by simp⟩
  split at hg
  · rename_i e
    subst e
    simp only [Option.some.injEq] at hg
    subst hg
    obtain ⟨cs, hh, hsz, hr⟩ := hs.1 0 #[.int .i64 0] 3 (of_decide_eq_true (by kernel_rfl)) (by kernel_rfl)
    obtain ⟨m, hm⟩ := cell_of_shapedOpen_int (g := 0) (t := 3) (zero := #[.int .i64 0]) hs (of_decide_eq_true (by kernel_rfl)) (by kernel_rfl) rfl (by kernel_rfl) (by kernel_rfl) Tryz.underlying3
    refine ⟨(Array.getElem?_eq_some_iff.mp hh).1, cs, _, _, hh, m, ?_⟩
    have h1 : cs.size = 1 := hsz
    have h2 : cs[0]? = some (.int .i64 m) := by
      simpa [World.cell?, hh] using hm
    obtain ⟨l⟩ := cs
    match l, h1, h2 with
    | [x], _, h2 => simpa using h2
  split at hg
  · rename_i e
    simp only [Option.some.injEq] at hg
    subst hg
    rcases e with e | e
    · subst e
      obtain ⟨h1, te, pe, ty, fz, h2⟩ := sentinel_at (n := "strconv.ErrSyntax") (h.tail.tail.tail.tail.tail) (by kernel_rfl) (by kernel_rfl)
      exact ⟨h1, _, ty, fz, h2, _, rfl, .inr ⟨te, pe, rfl⟩⟩
    · subst e
      obtain ⟨h1, te, pe, ty, fz, h2⟩ := sentinel_at (n := "strconv.ErrRange") (h.tail.tail.tail.tail) (by kernel_rfl) (by kernel_rfl)
      exact ⟨h1, _, ty, fz, h2, _, rfl, .inr ⟨te, pe, rfl⟩⟩
  · cases hg
theorem lifted_FnExactParseIr (os : Os) (started : os.Started) (H : Type) (enc : TypeId × Value → H) :
    ReturnsInHanded {} Tryz.checked os 3 .any (fun w args => (Rows.fnExactParseIrSpec.pre enc Tryz.prog Tryz.f3 Rows.fnExactParseIrRow.domain false w args ∧ laidMetH Tryz.prog laidL w) ∧ sizedMet enc Tryz.prog Tryz.f3 (OpenSpec.ofChange Rows.fnExactParseIrSpec) false w args)
      (Rows.fnExactParseIrSpec.post enc Tryz.prog Tryz.f3 false true false false) := by
  refine wrap_both (C := Tryz.checked) (X := fun w _ => laidMetH Tryz.prog laidL w) (fun _ _ _ hh h => h.of_heap hh) own started (by kernel_rfl) Tryz.func3
    (ChangeSpec.witness_shaped (enc := enc) (C := Tryz.checked) (os := os) (X := fun w _ => laidMetH Tryz.prog laidL w) false (World.laidAll Tryz.prog os laidL) #[.string ⟨#[]⟩] 8 (World.laidAll_os _ _ _) (World.shaped_of_ZipB (by kernel_rfl) (by kernel_rfl)) (by kernel_rfl) (by kernel_rfl) (by kernel_rfl) (by rw [MakeChecks.laidMetH_plain _ _ _ (by kernel_rfl)]; exact laidMet_laidAll _ (by kernel_rfl) (by kernel_rfl))) ?_
  intro W base args ds gs before hval0 hW hL hsh
  have hval : ∀ (j : Nat) t v, Tryz.f3.params[j]? = some t → args[j]? = some v → Value.okWide Tryz.prog W .any base t v := hval0
  have hW' := hW
  obtain ⟨p, q, hA0, hV, rfl, hfz, hnd⟩ := hW
  have hA : DataW.TrodAll enc Tryz.prog W 0 (fun _ => true) true Tryz.f3.params.toList args.toList ds p := hA0
  rw [Tryz.params3] at hA hval
  obtain ⟨v0, vs0, d0, ds0, p0, q0, hargs, rfl, rfl, h0, r0⟩ := trodAll_cons hA
  obtain ⟨rfl, rfl, rfl⟩ := trodAll_nil r0
  obtain rfl : args = #[v0] := by cases args; simp_all
  obtain ⟨rfl, rfl⟩ := trodVars_none hV
  have k0 := h0
  have lt0 : ∀ x ∈ p0, x.block < W.heap.size := by obtain ⟨m, hm⟩ := k0; exact DataW.trod_lt m _ _ _ hm
  obtain ⟨m0, hm0⟩ := h0
  obtain ⟨x0, g0, e0⟩ := opens_string (P := Tryz.prog) (t := 9) Tryz.underlying9 _ enc W m0 _ _ hm0
  have ex : x0 = str x0.data.toList := by cases x0; simp [str]
  refine (law_callsP exts_are (f := 3) (args := [.lit (.string x0)]) (vals := [v0]) Tryz.func3 rfl (pin_of hL hsh) ?_ (by rw [ex]; exact law_ParseIr x0.data.toList)).mono fun e W' ⟨he, bel⟩ => ?_
  · simp only [SlotRs]
    exact ⟨v0, _, rfl, slot_of (ag := false) (valOf_string Tryz.underlying9 (hval 0 9 v0 rfl rfl)) e0, rfl⟩
  · subst he
    exact ⟨_, rfl, _, _, _, [], _, [], hW', trodAll_mk1 (shut_bool Tryz.underlying4 _), (trodAll_cons_mk (Below.trod laidOut (by kernel_rfl) (of_decide_eq_true (by kernel_rfl)) k0 bel lt0) trodAll_mk0), rfl, bel.frame _, fun h => by cases h⟩
theorem over_FnExactParseIr : Rows.FnExactParseIrSaid :=
  OpenClaim.holds_of_wide 3 Tryz.f3 rfl rfl rfl rfl rfl rfl rfl ⟨rfl, rfl, rfl, rfl, rfl⟩ rfl rfl rfl rfl rfl (by kernel_rfl) Tryz.func3 (by kernel_rfl)
    (of_decide_eq_true (by kernel_rfl)) (by unfold Func.isWrapper; first | (rw [if_pos (by decide +kernel)]; kernel_rfl) | (rw [if_neg (by decide +kernel)]; exact ⟨rfl, rfl⟩))
    (fun os started H enc _ => lifted_FnExactParseIr os started H enc)
end Go.Proofs.YtckojpaklblnpaaGreatDoor.Th
namespace Go.Proofs.YtckojpaklblnpaaGreatDoor
open Go
theorem fnExactParseIr_holds : Rows.FnExactParseIrCardSaid :=
  Claim7.holds_tied_plain_at .later [] [.data, .data, .data, .data, .sentinel, .sentinel, .pinned] true (true, "9a84d92a6ac9bed10959ce9e60a2d8ef6afa35cf07081a76e08b800fd2069d75") true
    Th.over_FnExactParseIr (fun _ h => by cases h) (by kernel_rfl) (fun _ h => by cases h) fnExactParseIr_row_tie rfl ⟨rfl, rfl⟩ (by kernel_rfl) rfl
    (fun f fn hf hfn => by
      obtain rfl : f = 3 := Option.some.inj ((show Tryz.prog.funcNamed "loop.example/g00104/laws.FnExactParseIr" = some 3 by kernel_rfl).symm.trans hf) |>.symm
      obtain rfl : fn = Tryz.f3 := (Option.some.inj (Tryz.func3.symm.trans hfn)).symm
      exact ⟨by kernel_rfl, fun j t ht => by
        rw [Tryz.params3] at ht
        have hm : t ∈ [9] := by simpa using Array.mem_of_getElem? ht
        have hall : ([9].all fun u => !Tryz.prog.wantsStandIn u) = true := by kernel_rfl
        exact (show Tryz.prog.wantsStandIn t = false by simpa using List.all_eq_true.1 hall t hm)⟩)
    (by kernel_rfl)
end Go.Proofs.YtckojpaklblnpaaGreatDoor
#print axioms Go.Proofs.YtckojpaklblnpaaGreatDoor.fnExactParseIr_holds
