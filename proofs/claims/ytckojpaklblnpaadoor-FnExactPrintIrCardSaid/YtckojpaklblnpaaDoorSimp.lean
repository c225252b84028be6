/- The evaluator's equations, for simp. -/
import Derived.Test.YtckojpaklblnpaaDoorMach
set_option linter.unusedVariables false
set_option linter.unusedSimpArgs false
set_option maxHeartbeats 4000000
namespace Go.Proofs.YtckojpaklblnpaaDoor.Ev
open Go

theorem i64_wrap {n : Int} (h1 : -9223372036854775808 ≤ n) (h2 : n ≤ 9223372036854775807) : IntKind.wrap .i64 n = n := by
  unfold IntKind.wrap
  simp [IntKind.signed, IntKind.bits]
  omega

@[simp] theorem natCast_eq (a b : Nat) : ((a : Int) = (b : Int)) = (a = b) := by simp only [Int.ofNat_inj]
@[simp] theorem natCast_neg (n : Nat) : ¬ ((n : Int) < 0) := by omega
@[simp] theorem natCast_toNat (n : Nat) : (n : Int).toNat = n := Int.toNat_natCast n
@[simp] theorem castSucc_neg (n : Nat) : ¬ ((n : Int) + 1 < 0) := by omega
@[simp] theorem castSucc_toNat (n : Nat) : ((n : Int) + 1).toNat = n + 1 := by omega

attribute [simp] opOf guardOf F.rd constS cellT cellsT F.put F.at_ binOp_ binInt binStr unOp_ liT boolOf? intOf? enterObs resSlots outMany outOne ptrsOk packV leaveObs outF Mc.cond
attribute [simp] Ev.look drop_ put_ F.new F.del killAll killAlls killAt killAts rekey rekeys Ev.keyOf newKey F.cells F.write getRow setRow C.row C.setRow C.rows C.sz C.len C.free C.toT cellsToT rowsToT C.owned ownedAll ownedRows litC lentAll C.lent lentRows T.isLit setRange F.freeOf F.free1 F.take F.view F.made ofT partCells fieldPlaces placesOf fillAt chunk packRows appendTo F.append F.source lenS addrOf elemAt sliceIt szOk optInt bytesT through S.ag
attribute [simp] F.call lendArgs F.lend F.unlend unlendAll F.borrow borrowAll F.push numOf S.renum S.renums S.keys S.keyss dedup looks backs F.back sift stillV stillP rowOk dropAll apartL recvOne recvMany recvAll F.done V.lent lentVs lentO S.ok S.oks F.keep F.only maskSl pick keepAt headOf isAgg
@[simp] theorem app_slot (rs : List Nat) (cs : List S) (rk : List Nat) (os : List (Option O)) (d : Option Nat) (s : S) (σ : F) : (Res.slot rs cs rk os d s).app σ = σ.put d s := rfl
@[simp] theorem app_eff (rs ks : List Nat) (α β : F) (d : Option Nat) (σ : F) : (Res.eff rs ks α d β).app σ = { sl := setO (σ.sl.map (sift (stillV d ks β.ob) (stillP d ks β.ob))) d (match d with | some d => β.at_ d | none => .dead), ob := β.ob ++ dropAll ks σ.ob } := rfl
attribute [simp] Mc.drawn drawRun resOf slotOp rkOf setO nodupB Oper.looksAt Op.operands Call.operands
attribute [simp] Mc.at_seq Mc.at_block Mc.at_scope Mc.at_skip Mc.at_exit Mc.at_ret Mc.at_region Mc.at_drawn Mc.at_cond Mc.ops_nil Mc.ops_cons Mc.ops_guard Mc.ret_nil Mc.normal_seq Mc.exit_seq Mc.ret_seq Mc.normal_blk Mc.exit_blk Mc.ret_blk Mc.exit_lp Mc.ret_lp Mc.normal_lp
end Go.Proofs.YtckojpaklblnpaaDoor.Ev
