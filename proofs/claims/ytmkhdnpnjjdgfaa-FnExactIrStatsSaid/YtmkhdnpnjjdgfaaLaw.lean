/- From what the evaluator answers to a law's call. -/
import Derived.Test.YtmkhdnpnjjdgfaaComm
import Derived.Test.YtmkhdnpnjjdgfaaEd
import Derived.Test.YtmkhdnpnjjdgfaaRows
import Derived.WalkKit
import Derived.ProofKit
import Derived.OpenShut
import Derived.ShutString
import Derived.ChangeOld
import Derived.Below
import Derived.SizedLaws
set_option linter.unusedVariables false
set_option linter.unusedSimpArgs false
set_option maxRecDepth 100000
namespace Go.Proofs.Ytmkhdnpnjjdgfaa.Th
open Go Go.RowKit Go.Proofs.Ytmkhdnpnjjdgfaa.Ev Go.ChangeShapes Go.WideShapes

theorem envOk : EnvOk Try.prog E := ⟨fun t v h => tvOf_ok Try.prog h⟩

theorem noNum : (Try.prog.funcs.all fun fn => !(fn.name == "runtime.NumGoroutine")) = true := by kernel_rfl

theorem fsOk (f : FuncId) (fn : Func) (h : fs f = some fn) : Try.prog.funcs[f]? = some fn ∧ (fn.name == "runtime.NumGoroutine") = false := by
  refine ⟨h, ?_⟩
  have h1 : Try.prog.funcs[f]? = some fn := h
  have h2 := noNum
  rw [Array.all_eq_true] at h2
  obtain ⟨hi, he⟩ := Array.getElem?_eq_some_iff.mp h1
  have := h2 f hi
  rw [he] at this
  simpa using this

theorem follows : Try.prog.follows .mixedOrders = true := by kernel_rfl

theorem valOf_slice {w : World} {r : Reach} {base : Nat} {t e : TypeId} {v : Value} (ht : Try.prog.underlying t = some (.slice e)) (h : Value.okWide Try.prog w r base t v) : Ev.valOf false v.cells.toList v := by
  obtain ⟨a, len, cap, rfl⟩ := okWide_slice ht h
  simp [Ev.valOf, Value.cells]

theorem valOf_string {w : World} {r : Reach} {base : Nat} {t : TypeId} {v : Value} (ht : Try.prog.underlying t = some .string) (h : Value.okWide Try.prog w r base t v) : Ev.valOf false v.cells.toList v := by
  obtain ⟨s, rfl⟩ := okWide_string ht h
  simp [Ev.valOf, Value.cells]

theorem valOf_int {w : World} {r : Reach} {base : Nat} {t : TypeId} {v : Value} {k : IntKind} (ht : Try.prog.underlying t = some (.int k)) (h : Value.okWide Try.prog w r base t v) : Ev.valOf false v.cells.toList v := by
  obtain ⟨n, rfl⟩ := okWide_int ht h
  simp [Ev.valOf, Value.cells]

theorem valOf_struct {w : World} {r : Reach} {base : Nat} {t : TypeId} {v : Value} {fs : Array Field} (ht : Try.prog.underlying t = some (.struct fs)) (h : Value.okWide Try.prog w r base t v) : Ev.valOf true v.cells.toList v := by
  simp only [Value.okWide, ht] at h
  obtain ⟨cs, rfl, _⟩ := h
  simp [Ev.valOf, Value.cells]

theorem law_calls (hext : ∀ f g, E.ext f = some g → ∀ args obs v os, g args obs = some (v, os) → RunIs Try.prog f args obs v os) {f : FuncId} {fn : Func} (hf : Try.prog.funcs[f]? = some fn) (hb : fn.body.isSome = true) {args : List S} {vals : List Value} {w : World}
    (hargs : SlotRs w (All w) [] (fun _ => []) args vals) (h : cw f args [] = some (.lit (.bool true), [])) : Calls Try.prog f vals.toArray w (fun e w' => e = .returned (.bool true) ∧ Below w.heap.size w w') := by
  obtain ⟨k, hk⟩ := callW_to h
  exact law_holds (pcall_sound envOk follows fsOk hext k) hf hb (fsOk f fn hf).2 hargs hk

theorem own : ownKnob Try.prog.godebug = none := by kernel_rfl
theorem laidOut : laidOutB Try.prog = true := by kernel_rfl

end Go.Proofs.Ytmkhdnpnjjdgfaa.Th
