/- The ways of a choice, walked (Pb2). -/
import Derived.Test.YtckojpaklblnpaaGreatDoorKG1
import Derived.Test.YtckojpaklblnpaaGreatDoorKPb0
set_option linter.unusedVariables false
set_option linter.unusedSimpArgs false
set_option maxRecDepth 10000
set_option maxHeartbeats 8000000
namespace Go.Proofs.YtckojpaklblnpaaGreatDoor.Th
open Go Go.RowKit Go.Proofs.YtckojpaklblnpaaGreatDoor.Ev
theorem l11_17B {b b' : Bool} {FL FO : List (List T)} {k i n r lm lo lr : Nat} {x y : OpT} {R3 OR3 ORr BR : List (List T)} {Jr cr : T} {cc : Bool} {tz tz2 iz2 : Nat} {tr tr2 ir2 : List (List T)} (hre : x.ref = (r : Int)) (hk3 : R3[k]? = some [.sl 9 OR3, .sl 1 [], .lit (.bool cc)]) (hR3l : R3.length = lm) (hx3 : OR3[i]? = some (rowX x tz tr 9 BR)) (hO3l : OR3.length = lo) (hil : i < lo) (hkl : k < lm) (hr3 : R3[r]? = some [.sl 9 ORr, Jr, cr]) (hrn : r < lm) (hrl : ORr.length = lr) (hrn3 : ORr[n]? = some (rowX y tz2 tr2 iz2 ir2)) (hnl : n < lr) (hbl : BR.length = n) (hbm : (n + 1) * 104 ≤ maxBytes) (hkr : k = r) (hin : ¬ i = n) (c : Code) (hc : some c = Tryz.f12.body.bind (brOf 17)) (d : Code) (hd : some d = Tryz.f12.body.bind (brOf 17)) : Mc.at ⟨E, callW E fs, f_spec_l11Layout, Tryz.f12.results.toList, 1⟩ c [.test d (K_spec_l11Layout_17 (.vw 88 [(0, 0)] 0 1 true) (.val b (.sl 1 FL)) (.val b' (.sl 1 FO)) (.ptr 88 [(0, 0)] 0) (.lit (.int .i64 k)) (.lit (.int .i64 i)) (.ptr 136 [(0, 0)] 0) (.lit (.int .i64 (n : Int))) [(88, boxL (l11N k i R3 OR3 x y tz tr BR cc)), (136, boxR x)])] (l11F b b' FL FO k i r lr (n : Int) R3 x) = some (.tup [], []) := by
  obtain rfl : c = _ := Option.some.inj (hc.trans rfl)
  obtain rfl : d = _ := Option.some.inj (hd.trans rfl)
  have hnl' : (n : Int) < (lr : Int) := by omega
  have hcb := c_spec_l9BareR true y tz2 tr2 iz2 ir2
  simp only [cw, rowX] at hcb hx3 hrn3
  unfold l11N
  simp only [rowX]
  generalize bareOp y = by_ at hcb ⊢
  generalize hRN : R3.set k _ = RN
  have hRN := hRN.symm
  subst hkr
  have hU := hr3.symm.trans hk3
  simp only [Option.some.injEq, List.cons.injEq, T.sl.injEq, true_and, and_true] at hU
  have hU1 := hU.1.symm
  subst hU1
  clear hr3 hU
  have hnO : n < lo := by rw [← hO3l, hrl]; exact hnl
  have hnO' : (n : Int) < (lo : Int) := by omega
  simp [hre, hk3, at_of hk3, hR3l, hx3, at_of hx3, hO3l, hil, hkl, hcb, hbl, hbm, app_effG, ownedRows_set, List.getElem_set, hrn3, at_of hrn3, hnO, hnO', hin]
  exact ⟨drawOk_of [(20, 88)] [] ⟨⟨by kernel_rfl, by rfl⟩, trivial⟩ trivial (by kernel_rfl) (by kernel_rfl) [[], [0], [], [1, 0, 2], [3, 1, 0, 2], [4, 3, 1, 0, 2], [], [5, 4, 3, 1, 0, 2, 6], [7, 5, 4, 3, 1, 0, 2, 6], [8, 7, 5, 4, 3, 1, 0, 2, 6], [], [10], [], [12], [11, 10, 13, 12], [14, 11, 10, 13, 12], [15, 14, 11, 10, 13, 12], [], [16, 15, 14, 11, 10, 13, 12, 17], [18, 16, 15, 14, 11, 10, 13, 12, 17], [19, 18, 16, 15, 14, 11, 10, 13, 12, 17], [9, 8, 7, 5, 4, 3, 1, 0, 2, 6], [], [9, 8, 7, 5, 4, 3, 1, 0, 2, 6, 22, 20, 19, 18, 16, 15, 14, 11, 10, 13, 12, 17, 21], [5, 4, 3, 1, 0, 2, 6, 7, 8, 9, 10, 11, 12, 13, 14, 15, 16, 17, 18, 19, 20, 21, 22, 23], [24, 5, 4, 3, 1, 0, 2, 6, 7, 8, 9, 10, 11, 12, 13, 14, 15, 16, 17, 18, 19, 20, 21, 22, 23], [25, 24, 5, 4, 3, 1, 0, 2, 6, 7, 8, 9, 10, 11, 12, 13, 14, 15, 16, 17, 18, 19, 20, 21, 22, 23]] (by kernel_rfl) (by simp [pairsH, indepH, Res.dst, Res.rs, Res.tk, Res.rks, Qry.key, Res.cont, Res.okS, Res.out, apartL, S.isDead, S.ok, S.oks, stillV, stillP, rowOk]), Mc.ret_test _ _ _ _ _ (by simp [joinAt, hre, hRN, Sh.same, nrmCRows_same, nrmCRows_set, nrmCRows_nil, ownedRows_app, ownedRows_set, hR3l, hkl, hO3l, hil])⟩
theorem l11_17C {b b' : Bool} {FL FO : List (List T)} {k i n r lm lo lr : Nat} {x y : OpT} {R3 OR3 ORr BR : List (List T)} {Jr cr : T} {cc : Bool} {tz tz2 iz2 : Nat} {tr tr2 ir2 : List (List T)} (hre : x.ref = (r : Int)) (hk3 : R3[k]? = some [.sl 9 OR3, .sl 1 [], .lit (.bool cc)]) (hR3l : R3.length = lm) (hx3 : OR3[i]? = some (rowX x tz tr 9 BR)) (hO3l : OR3.length = lo) (hil : i < lo) (hkl : k < lm) (hr3 : R3[r]? = some [.sl 9 ORr, Jr, cr]) (hrn : r < lm) (hrl : ORr.length = lr) (hrn3 : ORr[n]? = some (rowX y tz2 tr2 iz2 ir2)) (hnl : n < lr) (hbl : BR.length = n) (hbm : (n + 1) * 104 ≤ maxBytes) (hkr : k = r) (hin : i = n) (c : Code) (hc : some c = Tryz.f12.body.bind (brOf 17)) (d : Code) (hd : some d = Tryz.f12.body.bind (brOf 17)) : Mc.at ⟨E, callW E fs, f_spec_l11Layout, Tryz.f12.results.toList, 1⟩ c [.test d (K_spec_l11Layout_17 (.vw 88 [(0, 0)] 0 1 true) (.val b (.sl 1 FL)) (.val b' (.sl 1 FO)) (.ptr 88 [(0, 0)] 0) (.lit (.int .i64 k)) (.lit (.int .i64 i)) (.ptr 136 [(0, 0)] 0) (.lit (.int .i64 (n : Int))) [(88, boxL (l11N k i R3 OR3 x y tz tr BR cc)), (136, boxR x)])] (l11F b b' FL FO k i r lr (n : Int) R3 x) = some (.tup [], []) := by
  obtain rfl : c = _ := Option.some.inj (hc.trans rfl)
  obtain rfl : d = _ := Option.some.inj (hd.trans rfl)
  have hnl' : (n : Int) < (lr : Int) := by omega
  have hcb := c_spec_l9BareR true y tz2 tr2 iz2 ir2
  simp only [cw, rowX] at hcb hx3 hrn3
  unfold l11N
  simp only [rowX]
  generalize bareOp y = by_ at hcb ⊢
  generalize hRN : R3.set k _ = RN
  have hRN := hRN.symm
  subst hkr
  have hU := hr3.symm.trans hk3
  simp only [Option.some.injEq, List.cons.injEq, T.sl.injEq, true_and, and_true] at hU
  have hU1 := hU.1.symm
  subst hU1
  clear hr3 hU
  have hnO : n < lo := by rw [← hO3l, hrl]; exact hnl
  have hnO' : (n : Int) < (lo : Int) := by omega
  subst hin
  have hrow := Option.some.inj (hrn3.symm.trans hx3)
  rw [hrow, hre] at hcb
  clear hrn3 hrow
  simp [hre, hk3, at_of hk3, hR3l, hx3, at_of hx3, hO3l, hil, hkl, hcb, hbl, hbm, app_effG, ownedRows_set, List.getElem_set, hnO, hnO']
  exact ⟨drawOk_of [(20, 88)] [] ⟨⟨by kernel_rfl, by rfl⟩, trivial⟩ trivial (by kernel_rfl) (by kernel_rfl) [[], [0], [], [1, 0, 2], [3, 1, 0, 2], [4, 3, 1, 0, 2], [], [5, 4, 3, 1, 0, 2, 6], [7, 5, 4, 3, 1, 0, 2, 6], [8, 7, 5, 4, 3, 1, 0, 2, 6], [], [10], [], [12], [11, 10, 13, 12], [14, 11, 10, 13, 12], [15, 14, 11, 10, 13, 12], [], [16, 15, 14, 11, 10, 13, 12, 17], [18, 16, 15, 14, 11, 10, 13, 12, 17], [19, 18, 16, 15, 14, 11, 10, 13, 12, 17], [9, 8, 7, 5, 4, 3, 1, 0, 2, 6], [], [9, 8, 7, 5, 4, 3, 1, 0, 2, 6, 22, 20, 19, 18, 16, 15, 14, 11, 10, 13, 12, 17, 21], [5, 4, 3, 1, 0, 2, 6, 7, 8, 9, 10, 11, 12, 13, 14, 15, 16, 17, 18, 19, 20, 21, 22, 23], [24, 5, 4, 3, 1, 0, 2, 6, 7, 8, 9, 10, 11, 12, 13, 14, 15, 16, 17, 18, 19, 20, 21, 22, 23], [25, 24, 5, 4, 3, 1, 0, 2, 6, 7, 8, 9, 10, 11, 12, 13, 14, 15, 16, 17, 18, 19, 20, 21, 22, 23]] (by kernel_rfl) (by simp [pairsH, indepH, Res.dst, Res.rs, Res.tk, Res.rks, Qry.key, Res.cont, Res.okS, Res.out, apartL, S.isDead, S.ok, S.oks, stillV, stillP, rowOk]), Mc.ret_test _ _ _ _ _ (by simp [joinAt, hre, hRN, Sh.same, nrmCRows_same, nrmCRows_set, nrmCRows_nil, ownedRows_app, ownedRows_set, hR3l, hkl, hO3l, hil])⟩
end Go.Proofs.YtckojpaklblnpaaGreatDoor.Th
