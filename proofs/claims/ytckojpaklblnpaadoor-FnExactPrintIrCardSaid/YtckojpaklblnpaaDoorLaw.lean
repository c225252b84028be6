/- From what the evaluator answers to a law's call. -/
import Derived.Test.YtckojpaklblnpaaDoorComm
import Derived.Test.YtckojpaklblnpaaDoorEd
import Derived.Test.YtckojpaklblnpaaDoorRows
import Derived.WalkKit
import Derived.ProofKit
import Derived.OpenShut
import Derived.ShutString
import Derived.ChangeOld
import Derived.Below
import Derived.SizedLaws
set_option linter.unusedVariables false
set_option linter.unusedSimpArgs false
set_option maxRecDepth 100000
namespace Go.Proofs.YtckojpaklblnpaaDoor.Th
open Go Go.RowKit Go.Proofs.YtckojpaklblnpaaDoor.Ev Go.ChangeShapes Go.WideShapes

theorem envOk : EnvOk Tryd.prog E := ⟨fun t v h => tvOf_ok Tryd.prog h⟩

theorem noNum : (Tryd.prog.funcs.all fun fn => !(fn.name == "runtime.NumGoroutine")) = true := by kernel_rfl

theorem fsOk (f : FuncId) (fn : Func) (h : fs f = some fn) : Tryd.prog.funcs[f]? = some fn ∧ (fn.name == "runtime.NumGoroutine") = false := by
  refine ⟨h, ?_⟩
  have h1 : Tryd.prog.funcs[f]? = some fn := h
  have h2 := noNum
  rw [Array.all_eq_true] at h2
  obtain ⟨hi, he⟩ := Array.getElem?_eq_some_iff.mp h1
  have := h2 f hi
  rw [he] at this
  simpa using this

theorem follows : Tryd.prog.follows .mixedOrders = true := by kernel_rfl

theorem valOf_slice {w : World} {r : Reach} {base : Nat} {t e : TypeId} {v : Value} (ht : Tryd.prog.underlying t = some (.slice e)) (h : Value.okWide Tryd.prog w r base t v) : Ev.valOf false v.cells.toList v := by
  obtain ⟨a, len, cap, rfl⟩ := okWide_slice ht h
  simp [Ev.valOf, Value.cells]

theorem valOf_string {w : World} {r : Reach} {base : Nat} {t : TypeId} {v : Value} (ht : Tryd.prog.underlying t = some .string) (h : Value.okWide Tryd.prog w r base t v) : Ev.valOf false v.cells.toList v := by
  obtain ⟨s, rfl⟩ := okWide_string ht h
  simp [Ev.valOf, Value.cells]

theorem valOf_int {w : World} {r : Reach} {base : Nat} {t : TypeId} {v : Value} {k : IntKind} (ht : Tryd.prog.underlying t = some (.int k)) (h : Value.okWide Tryd.prog w r base t v) : Ev.valOf false v.cells.toList v := by
  obtain ⟨n, rfl⟩ := okWide_int ht h
  simp [Ev.valOf, Value.cells]

theorem valOf_struct {w : World} {r : Reach} {base : Nat} {t : TypeId} {v : Value} {fs : Array Field} (ht : Tryd.prog.underlying t = some (.struct fs)) (h : Value.okWide Tryd.prog w r base t v) : Ev.valOf true v.cells.toList v := by
  simp only [Value.okWide, ht] at h
  obtain ⟨cs, rfl, _⟩ := h
  simp [Ev.valOf, Value.cells]

theorem law_callsP (hext : ∀ f g, E.ext f = some g → ∀ args obs v os, g args obs = some (v, os) → RunIs Tryd.prog f args obs v os) {f : FuncId} {fn : Func} (hf : Tryd.prog.funcs[f]? = some fn) (hb : fn.body.isSome = true) {args : List S} {vals : List Value} {w : World} (hpin : Ev.Pin w (All w))
    (hargs : SlotRs w (All w) [] (fun _ => []) args vals) (h : cw f args [] = some (.lit (.bool true), [])) : Calls Tryd.prog f vals.toArray w (fun e w' => e = .returned (.bool true) ∧ Below w.heap.size w w') := by
  obtain ⟨k, hk⟩ := callW_to h
  exact law_holds (pcall_sound envOk follows fsOk hext k) hf hb (fsOk f fn hf).2 hpin hargs hk

theorem own : ownKnob Tryd.prog.godebug = none := by kernel_rfl
theorem laidOut : laidOutB Tryd.prog = true := by kernel_rfl

end Go.Proofs.YtckojpaklblnpaaDoor.Th
