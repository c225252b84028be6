/-
  NARROWER THAN 'FOR EVERY INPUT', by the rows' own cells (each row's printed sentence says how): FnExactIrStats: loops.
  DERIVED. THE GIVEN ROWS OF THIS SEAT. 10 by the template 'for every input the law returns true; each argument reads behind the call as it read before'; 0 by the template 'total and deterministic' (their statements: YtmkhdnpnjjdgfaaTotals.lean).
  GIVEN WITH THE SEED: the statements are not yours to turn. If you find one false, say at which input.
  Laid BY PROGRAM, IN A SANDBOX (cutbox-rows.mjs): the forced cells as the released guide's own fill.sh prints them over the translation 510caf46394b77f5… (all of the seat's roots in one cut). By AI agents, Wed Nov 11 2026. No macro, syntax, notation, axiom, sorry.
-/
import Derived.Test.YtmkhdnpnjjdgfaaChecked
import GoSem.Claim
import GoSem.ClaimJoined
import GoSem.ClaimMapViews
import Derived.JoinedTies
import Derived.KernelRfl
namespace Go.Proofs.Ytmkhdnpnjjdgfaa
/- THE CELL 'sum', in the pinned program and in every row, IS THE sha256 OF THE DUMP (.gsa) THAT YtmkhdnpnjjdgfaaProg.lean LOADS. Nothing in Lean hashes anything: it is a label: what it is worth is what the hold of that sum in a sandbox is worth. -/
noncomputable def Try.pinned : Pinned := { name := "ytmkhdnpnjjdgfaa", sum := "510caf46394b77f5b593225e125d4fdc31a768f56fc7692d7dcc9f1e3005254e", checked := Try.checked }
namespace Rows
def none {H : Type} : Left H := { results := [], args := [] }

/-- 'laws.FnExactEnough': WHATEVER THE INPUT: true; the input reads as it did. -/
def fnExactEnoughSpec : ChangeSpec := { name := "fnExactEnough", fn := fun _ => fun
  | [d] => { results := [.lit (.bool true)], args := [d] }
  | _ => none }
def fnExactEnoughRow : OpenClaim := { program := "ytmkhdnpnjjdgfaa", sum := "510caf46394b77f5b593225e125d4fdc31a768f56fc7692d7dcc9f1e3005254e", func := "loop.example/g00104/laws.FnExactEnough", spec := "fnExactEnough", apart := false }
def FnExactEnoughSaid : Prop := fnExactEnoughRow.holds Try.pinned (OpenSpec.ofChange fnExactEnoughSpec)

/-- ITS FALSE NEIGHBOUR: 'it returns false'. Refute it at one input. -/
def fnExactEnoughWrong : ChangeSpec := { name := "fnExactEnough", fn := fun _ => fun
  | [d] => { results := [.lit (.bool false)], args := [d] }
  | _ => none }
def FnExactEnoughWrongFalsely : Prop := fnExactEnoughRow.holds Try.pinned (OpenSpec.ofChange fnExactEnoughWrong)

/-- 'laws.FnExactSafe': WHATEVER THE INPUT: true; the input reads as it did. -/
def fnExactSafeSpec : ChangeSpec := { name := "fnExactSafe", fn := fun _ => fun
  | [d] => { results := [.lit (.bool true)], args := [d] }
  | _ => none }
def fnExactSafeRow : OpenClaim := { program := "ytmkhdnpnjjdgfaa", sum := "510caf46394b77f5b593225e125d4fdc31a768f56fc7692d7dcc9f1e3005254e", func := "loop.example/g00104/laws.FnExactSafe", spec := "fnExactSafe", unfollowed := true, recurses := true, apart := false }
def FnExactSafeSaid : Prop := fnExactSafeRow.holds Try.pinned (OpenSpec.ofChange fnExactSafeSpec)

/-- ITS FALSE NEIGHBOUR: 'it returns false'. Refute it at one input. -/
def fnExactSafeWrong : ChangeSpec := { name := "fnExactSafe", fn := fun _ => fun
  | [d] => { results := [.lit (.bool false)], args := [d] }
  | _ => none }
def FnExactSafeWrongFalsely : Prop := fnExactSafeRow.holds Try.pinned (OpenSpec.ofChange fnExactSafeWrong)

/-- 'laws.FnExactCovers': WHATEVER THE INPUT: true; the input reads as it did. -/
def fnExactCoversSpec : ChangeSpec := { name := "fnExactCovers", fn := fun _ => fun
  | [d1, d2] => { results := [.lit (.bool true)], args := [d1, d2] }
  | _ => none }
def fnExactCoversRow : OpenClaim := { program := "ytmkhdnpnjjdgfaa", sum := "510caf46394b77f5b593225e125d4fdc31a768f56fc7692d7dcc9f1e3005254e", func := "loop.example/g00104/laws.FnExactCovers", spec := "fnExactCovers", unfollowed := true, recurses := true, apart := false }
def FnExactCoversSaid : Prop := fnExactCoversRow.holds Try.pinned (OpenSpec.ofChange fnExactCoversSpec)

/-- ITS FALSE NEIGHBOUR: 'it returns false'. Refute it at one input. -/
def fnExactCoversWrong : ChangeSpec := { name := "fnExactCovers", fn := fun _ => fun
  | [d1, d2] => { results := [.lit (.bool false)], args := [d1, d2] }
  | _ => none }
def FnExactCoversWrongFalsely : Prop := fnExactCoversRow.holds Try.pinned (OpenSpec.ofChange fnExactCoversWrong)

/-- 'laws.FnExactPutRecord': WHATEVER THE INPUT: true; the input reads as it did. -/
def fnExactPutRecordSpec : ChangeSpec := { name := "fnExactPutRecord", fn := fun _ => fun
  | [d] => { results := [.lit (.bool true)], args := [d] }
  | _ => none }
def fnExactPutRecordRow : OpenClaim := { program := "ytmkhdnpnjjdgfaa", sum := "510caf46394b77f5b593225e125d4fdc31a768f56fc7692d7dcc9f1e3005254e", func := "loop.example/g00104/laws.FnExactPutRecord", spec := "fnExactPutRecord", apart := false }
def FnExactPutRecordSaid : Prop := fnExactPutRecordRow.holds Try.pinned (OpenSpec.ofChange fnExactPutRecordSpec)

/-- ITS FALSE NEIGHBOUR: 'it returns false'. Refute it at one input. -/
def fnExactPutRecordWrong : ChangeSpec := { name := "fnExactPutRecord", fn := fun _ => fun
  | [d] => { results := [.lit (.bool false)], args := [d] }
  | _ => none }
def FnExactPutRecordWrongFalsely : Prop := fnExactPutRecordRow.holds Try.pinned (OpenSpec.ofChange fnExactPutRecordWrong)

/-- 'laws.FnExactPutStream': WHATEVER THE INPUT: true; the input reads as it did. -/
def fnExactPutStreamSpec : ChangeSpec := { name := "fnExactPutStream", fn := fun _ => fun
  | [d] => { results := [.lit (.bool true)], args := [d] }
  | _ => none }
def fnExactPutStreamRow : OpenClaim := { program := "ytmkhdnpnjjdgfaa", sum := "510caf46394b77f5b593225e125d4fdc31a768f56fc7692d7dcc9f1e3005254e", func := "loop.example/g00104/laws.FnExactPutStream", spec := "fnExactPutStream", apart := false }
def FnExactPutStreamSaid : Prop := fnExactPutStreamRow.holds Try.pinned (OpenSpec.ofChange fnExactPutStreamSpec)

/-- ITS FALSE NEIGHBOUR: 'it returns false'. Refute it at one input. -/
def fnExactPutStreamWrong : ChangeSpec := { name := "fnExactPutStream", fn := fun _ => fun
  | [d] => { results := [.lit (.bool false)], args := [d] }
  | _ => none }
def FnExactPutStreamWrongFalsely : Prop := fnExactPutStreamRow.holds Try.pinned (OpenSpec.ofChange fnExactPutStreamWrong)

/-- 'laws.FnExactMend': WHATEVER THE INPUT: true; the input reads as it did. -/
def fnExactMendSpec : ChangeSpec := { name := "fnExactMend", fn := fun _ => fun
  | [d] => { results := [.lit (.bool true)], args := [d] }
  | _ => none }
def fnExactMendRow : OpenClaim := { program := "ytmkhdnpnjjdgfaa", sum := "510caf46394b77f5b593225e125d4fdc31a768f56fc7692d7dcc9f1e3005254e", func := "loop.example/g00104/laws.FnExactMend", spec := "fnExactMend", apart := false }
def FnExactMendSaid : Prop := fnExactMendRow.holds Try.pinned (OpenSpec.ofChange fnExactMendSpec)

/-- ITS FALSE NEIGHBOUR: 'it returns false'. Refute it at one input. -/
def fnExactMendWrong : ChangeSpec := { name := "fnExactMend", fn := fun _ => fun
  | [d] => { results := [.lit (.bool false)], args := [d] }
  | _ => none }
def FnExactMendWrongFalsely : Prop := fnExactMendRow.holds Try.pinned (OpenSpec.ofChange fnExactMendWrong)

/-- 'laws.FnExactScan': WHATEVER THE INPUT: true; the input reads as it did. -/
def fnExactScanSpec : ChangeSpec := { name := "fnExactScan", fn := fun _ => fun
  | [d] => { results := [.lit (.bool true)], args := [d] }
  | _ => none }
def fnExactScanRow : OpenClaim := { program := "ytmkhdnpnjjdgfaa", sum := "510caf46394b77f5b593225e125d4fdc31a768f56fc7692d7dcc9f1e3005254e", func := "loop.example/g00104/laws.FnExactScan", spec := "fnExactScan", apart := false }
def FnExactScanSaid : Prop := fnExactScanRow.holds Try.pinned (OpenSpec.ofChange fnExactScanSpec)

/-- ITS FALSE NEIGHBOUR: 'it returns false'. Refute it at one input. -/
def fnExactScanWrong : ChangeSpec := { name := "fnExactScan", fn := fun _ => fun
  | [d] => { results := [.lit (.bool false)], args := [d] }
  | _ => none }
def FnExactScanWrongFalsely : Prop := fnExactScanRow.holds Try.pinned (OpenSpec.ofChange fnExactScanWrong)

/-- 'laws.FnExactFields': WHATEVER THE INPUT: true; the input reads as it did. -/
def fnExactFieldsSpec : ChangeSpec := { name := "fnExactFields", fn := fun _ => fun
  | [d] => { results := [.lit (.bool true)], args := [d] }
  | _ => none }
def fnExactFieldsRow : OpenClaim := { program := "ytmkhdnpnjjdgfaa", sum := "510caf46394b77f5b593225e125d4fdc31a768f56fc7692d7dcc9f1e3005254e", func := "loop.example/g00104/laws.FnExactFields", spec := "fnExactFields", apart := false }
def FnExactFieldsSaid : Prop := fnExactFieldsRow.holds Try.pinned (OpenSpec.ofChange fnExactFieldsSpec)

/-- ITS FALSE NEIGHBOUR: 'it returns false'. Refute it at one input. -/
def fnExactFieldsWrong : ChangeSpec := { name := "fnExactFields", fn := fun _ => fun
  | [d] => { results := [.lit (.bool false)], args := [d] }
  | _ => none }
def FnExactFieldsWrongFalsely : Prop := fnExactFieldsRow.holds Try.pinned (OpenSpec.ofChange fnExactFieldsWrong)

/-- 'laws.FnExactIrStats': WHATEVER THE INPUT: true; the input reads as it did. -/
def fnExactIrStatsSpec : ChangeSpec := { name := "fnExactIrStats", fn := fun _ => fun
  | [d] => { results := [.lit (.bool true)], args := [d] }
  | _ => none }
def fnExactIrStatsRow : OpenClaim := { program := "ytmkhdnpnjjdgfaa", sum := "510caf46394b77f5b593225e125d4fdc31a768f56fc7692d7dcc9f1e3005254e", func := "loop.example/g00104/laws.FnExactIrStats", spec := "fnExactIrStats", unfollowed := true, recurses := true, loops := true, apart := false }
def FnExactIrStatsSaid : Prop := fnExactIrStatsRow.holds Try.pinned (OpenSpec.ofChange fnExactIrStatsSpec)

/-- ITS FALSE NEIGHBOUR: 'it returns false'. Refute it at one input. -/
def fnExactIrStatsWrong : ChangeSpec := { name := "fnExactIrStats", fn := fun _ => fun
  | [d] => { results := [.lit (.bool false)], args := [d] }
  | _ => none }
def FnExactIrStatsWrongFalsely : Prop := fnExactIrStatsRow.holds Try.pinned (OpenSpec.ofChange fnExactIrStatsWrong)

/-- 'laws.FnStream': WHATEVER THE INPUT: true; the input reads as it did. -/
def fnStreamSpec : ChangeSpec := { name := "fnStream", fn := fun _ => fun
  | [d] => { results := [.lit (.bool true)], args := [d] }
  | _ => none }
def fnStreamRow : OpenClaim := { program := "ytmkhdnpnjjdgfaa", sum := "510caf46394b77f5b593225e125d4fdc31a768f56fc7692d7dcc9f1e3005254e", func := "loop.example/g00104/laws.FnStream", spec := "fnStream", recurses := true, apart := false }
def FnStreamSaid : Prop := fnStreamRow.holds Try.pinned (OpenSpec.ofChange fnStreamSpec)

/-- ITS FALSE NEIGHBOUR: 'it returns false'. Refute it at one input. -/
def fnStreamWrong : ChangeSpec := { name := "fnStream", fn := fun _ => fun
  | [d] => { results := [.lit (.bool false)], args := [d] }
  | _ => none }
def FnStreamWrongFalsely : Prop := fnStreamRow.holds Try.pinned (OpenSpec.ofChange fnStreamWrong)

/- THE SECOND FORM. 'bulk': how many values and letters a reading holds, each counted each time it is reached (what is shared counts as often as it is met; a slice's spare places count too). A statement '..UptoSaid' is the law's where the arguments, and the package variables that the reading takes, are together of bulk at most 1048576: NARROWER than '..Said'. Prove '..Said' where nothing that the law and all that it calls make is longer than what came in: it says more and counts as full. Else prove '..UptoSaid'. A law counts once. -/
mutual
def uptoBulk {H : Type} : DataW H → Nat
  | .lit (.string bytes) => bytes.length + 1
  | .lit _ => 1
  | .nil => 1
  | .ptr d => uptoBulk d + 1
  | .slice elems spare => uptoBulkAll elems + uptoBulkAll spare + 1
  | .agg parts => uptoBulkAll parts + 1
  | .iface _ d => uptoBulk d + 1
  | .map entries => uptoBulkEntries entries + 1
  | .held _ => 1
def uptoBulkAll {H : Type} : List (DataW H) → Nat
  | [] => 0
  | d :: r => uptoBulk d + uptoBulkAll r
def uptoBulkEntries {H : Type} : List (Lit × DataW H) → Nat
  | [] => 0
  | x :: r => uptoBulkEntry x + uptoBulkEntries r
def uptoBulkEntry {H : Type} : Lit × DataW H → Nat
  | (.string bytes, d) => bytes.length + uptoBulk d + 1
  | (_, d) => uptoBulk d + 1
 end
def uptoSmall : (H : Type) → List (DataW H) → Bool := fun _ ds => decide (uptoBulkAll ds ≤ 1048576)
def OpenSpec.upto (s : _root_.Go.ChangeSpec) : _root_.Go.OpenSpec := { _root_.Go.OpenSpec.ofChange s with cond := some uptoSmall }

/-- 'laws.FnExactEnough', WHERE WHAT IT READS IS OF BULK AT MOST 1048576: true; the input reads as it did. -/
def fnExactEnoughUptoRow : OpenClaim := { program := "ytmkhdnpnjjdgfaa", sum := "510caf46394b77f5b593225e125d4fdc31a768f56fc7692d7dcc9f1e3005254e", func := "loop.example/g00104/laws.FnExactEnough", spec := "fnExactEnough", apart := false, narrowed := true }
def FnExactEnoughUptoSaid : Prop := fnExactEnoughUptoRow.holds Try.pinned (OpenSpec.upto fnExactEnoughSpec)

/-- 'laws.FnExactSafe', WHERE WHAT IT READS IS OF BULK AT MOST 1048576: true; the input reads as it did. -/
def fnExactSafeUptoRow : OpenClaim := { program := "ytmkhdnpnjjdgfaa", sum := "510caf46394b77f5b593225e125d4fdc31a768f56fc7692d7dcc9f1e3005254e", func := "loop.example/g00104/laws.FnExactSafe", spec := "fnExactSafe", unfollowed := true, recurses := true, apart := false, narrowed := true }
def FnExactSafeUptoSaid : Prop := fnExactSafeUptoRow.holds Try.pinned (OpenSpec.upto fnExactSafeSpec)

/-- 'laws.FnExactCovers', WHERE WHAT IT READS IS OF BULK AT MOST 1048576: true; the input reads as it did. -/
def fnExactCoversUptoRow : OpenClaim := { program := "ytmkhdnpnjjdgfaa", sum := "510caf46394b77f5b593225e125d4fdc31a768f56fc7692d7dcc9f1e3005254e", func := "loop.example/g00104/laws.FnExactCovers", spec := "fnExactCovers", unfollowed := true, recurses := true, apart := false, narrowed := true }
def FnExactCoversUptoSaid : Prop := fnExactCoversUptoRow.holds Try.pinned (OpenSpec.upto fnExactCoversSpec)

/-- 'laws.FnExactPutRecord', WHERE WHAT IT READS IS OF BULK AT MOST 1048576: true; the input reads as it did. -/
def fnExactPutRecordUptoRow : OpenClaim := { program := "ytmkhdnpnjjdgfaa", sum := "510caf46394b77f5b593225e125d4fdc31a768f56fc7692d7dcc9f1e3005254e", func := "loop.example/g00104/laws.FnExactPutRecord", spec := "fnExactPutRecord", apart := false, narrowed := true }
def FnExactPutRecordUptoSaid : Prop := fnExactPutRecordUptoRow.holds Try.pinned (OpenSpec.upto fnExactPutRecordSpec)

/-- 'laws.FnExactPutStream', WHERE WHAT IT READS IS OF BULK AT MOST 1048576: true; the input reads as it did. -/
def fnExactPutStreamUptoRow : OpenClaim := { program := "ytmkhdnpnjjdgfaa", sum := "510caf46394b77f5b593225e125d4fdc31a768f56fc7692d7dcc9f1e3005254e", func := "loop.example/g00104/laws.FnExactPutStream", spec := "fnExactPutStream", apart := false, narrowed := true }
def FnExactPutStreamUptoSaid : Prop := fnExactPutStreamUptoRow.holds Try.pinned (OpenSpec.upto fnExactPutStreamSpec)

/-- 'laws.FnExactMend', WHERE WHAT IT READS IS OF BULK AT MOST 1048576: true; the input reads as it did. -/
def fnExactMendUptoRow : OpenClaim := { program := "ytmkhdnpnjjdgfaa", sum := "510caf46394b77f5b593225e125d4fdc31a768f56fc7692d7dcc9f1e3005254e", func := "loop.example/g00104/laws.FnExactMend", spec := "fnExactMend", apart := false, narrowed := true }
def FnExactMendUptoSaid : Prop := fnExactMendUptoRow.holds Try.pinned (OpenSpec.upto fnExactMendSpec)

/-- 'laws.FnExactScan', WHERE WHAT IT READS IS OF BULK AT MOST 1048576: true; the input reads as it did. -/
def fnExactScanUptoRow : OpenClaim := { program := "ytmkhdnpnjjdgfaa", sum := "510caf46394b77f5b593225e125d4fdc31a768f56fc7692d7dcc9f1e3005254e", func := "loop.example/g00104/laws.FnExactScan", spec := "fnExactScan", apart := false, narrowed := true }
def FnExactScanUptoSaid : Prop := fnExactScanUptoRow.holds Try.pinned (OpenSpec.upto fnExactScanSpec)

/-- 'laws.FnExactFields', WHERE WHAT IT READS IS OF BULK AT MOST 1048576: true; the input reads as it did. -/
def fnExactFieldsUptoRow : OpenClaim := { program := "ytmkhdnpnjjdgfaa", sum := "510caf46394b77f5b593225e125d4fdc31a768f56fc7692d7dcc9f1e3005254e", func := "loop.example/g00104/laws.FnExactFields", spec := "fnExactFields", apart := false, narrowed := true }
def FnExactFieldsUptoSaid : Prop := fnExactFieldsUptoRow.holds Try.pinned (OpenSpec.upto fnExactFieldsSpec)

/-- 'laws.FnExactIrStats', WHERE WHAT IT READS IS OF BULK AT MOST 1048576: true; the input reads as it did. -/
def fnExactIrStatsUptoRow : OpenClaim := { program := "ytmkhdnpnjjdgfaa", sum := "510caf46394b77f5b593225e125d4fdc31a768f56fc7692d7dcc9f1e3005254e", func := "loop.example/g00104/laws.FnExactIrStats", spec := "fnExactIrStats", unfollowed := true, recurses := true, loops := true, apart := false, narrowed := true }
def FnExactIrStatsUptoSaid : Prop := fnExactIrStatsUptoRow.holds Try.pinned (OpenSpec.upto fnExactIrStatsSpec)

/-- 'laws.FnStream', WHERE WHAT IT READS IS OF BULK AT MOST 1048576: true; the input reads as it did. -/
def fnStreamUptoRow : OpenClaim := { program := "ytmkhdnpnjjdgfaa", sum := "510caf46394b77f5b593225e125d4fdc31a768f56fc7692d7dcc9f1e3005254e", func := "loop.example/g00104/laws.FnStream", spec := "fnStream", recurses := true, apart := false, narrowed := true }
def FnStreamUptoSaid : Prop := fnStreamUptoRow.holds Try.pinned (OpenSpec.upto fnStreamSpec)

end Rows
end Go.Proofs.Ytmkhdnpnjjdgfaa
