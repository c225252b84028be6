/- Tables for the evaluator: types, how arguments are handed over, what lives at loops' heads; the functions' codes. Printed by a program of mine. -/
import Derived.Test.YtckojpaklblnpaaGreatDoorKExt
import Derived.Test.YtckojpaklblnpaaGreatDoorKEd
import Derived.Test.YtckojpaklblnpaaGreatDoorChecked
import Derived.KernelRfl
set_option maxRecDepth 10000
namespace Go.Proofs.YtckojpaklblnpaaGreatDoor.Th
open Go Go.RowKit Go.Proofs.YtckojpaklblnpaaGreatDoor.Ev
def howTab : FuncId → Nat → Nat
  | 7, 0 => 1
  | 12, 0 => 1
  | 21, 0 => 1
  | 24, 0 => 1
  | 56, 0 => 1
  | 57, 0 => 1
  | 97, 0 => 1
  | _, _ => 0
def keepTab : FuncId → Nat → Option (List Nat)
  | 4, 8 => some [0, 2, 4, 5, 6, 7, 8]
  | 5, 8 => some [0, 2, 5, 6, 7, 36, 37, 38]
  | 9, 4 => some [0, 3, 4, 5]
  | 10, 4 => some [0, 3, 4, 5]
  | 11, 7 => some [0, 2, 4, 5, 6]
  | 12, 2 => some [0, 1, 2, 3, 7]
  | 12, 5 => some [0, 1, 2, 3, 7, 8]
  | 12, 14 => some [0, 1, 2, 3, 7, 8, 9, 10]
  | 13, 4 => some [1, 3]
  | 13, 9 => some [1, 4]
  | 13, 13 => some [1, 4, 5, 6]
  | 14, 5 => some [1, 3, 4]
  | 14, 14 => some [1, 3, 4, 6]
  | 20, 14 => some [2, 5, 7, 8, 40, 41, 42]
  | 21, 2 => some [0, 1, 2, 3, 13, 14]
  | 21, 10 => some [0, 1, 2, 3, 7, 8, 13, 14, 44, 45]
  | 22, 5 => some [3, 13, 14, 15]
  | 22, 14 => some [3, 13, 14, 15, 38, 39, 40]
  | 23, 4 => some [0, 1, 5]
  | 24, 2 => some [0, 1, 5]
  | 25, 2 => some [0, 1, 5]
  | 26, 8 => some [0, 4, 5, 6]
  | 34, 6 => some [1, 3, 4, 5]
  | 34, 10 => some [1, 3, 4, 5, 6, 7]
  | 35, 14 => some [2, 4, 7, 9]
  | 36, 2 => some [1, 3]
  | 36, 6 => some [1, 3, 4, 5]
  | 37, 4 => some [0, 1, 5]
  | 47, 6 => some [1, 4, 31, 32]
  | 50, 3 => some [3, 6, 7, 8]
  | 51, 4 => some [1, 18, 19, 20]
  | 51, 9 => some [1, 4, 18, 19, 20, 38, 39]
  | 53, 12 => some [0, 1, 5, 39, 40, 41]
  | 53, 22 => some [1, 8, 63, 64, 65]
  | 56, 2 => some [0, 1, 5]
  | 57, 2 => some [0, 1, 5]
  | 58, 2 => some [0, 1, 5]
  | 59, 2 => some [0, 1, 5]
  | 61, 3 => some [0, 3, 4]
  | 63, 3 => some [3, 4]
  | 66, 4 => some [0, 1, 5]
  | 67, 6 => some [2, 3, 5]
  | 69, 3 => some [1, 3, 4]
  | 77, 2 => some [0, 1, 7, 8]
  | 79, 2 => some [0, 1, 7, 8]
  | 87, 3 => some [1, 2, 5, 9, 10, 11]
  | 87, 14 => some [1, 5, 8]
  | 88, 4 => some [0, 1, 12, 13]
  | 89, 8 => some [3, 7, 63, 64, 65]
  | 95, 4 => some [0, 1, 5]
  | 96, 4 => some [0, 1, 5]
  | 97, 2 => some [0, 1, 5]
  | 98, 2 => some [0, 1, 5]
  | 111, 3 => some [3, 4]
  | 112, 2 => some [0, 1, 7, 8]
  | 116, 4 => some [0, 1, 12, 13]
  | 118, 4 => some [1, 2, 15, 16, 17]
  | 140, 4 => some [0, 1, 5]
  | _, _ => none
def trimTab : FuncId → Nat → Option (List Nat)
  | 4, 23 => some [0, 2, 4, 5, 6, 7, 8, 10, 12]
  | 12, 10 => some [0, 1, 2, 3, 7, 8, 9]
  | 14, 10 => some [1, 3, 4, 5]
  | 14, 12 => some [1, 3, 4, 5]
  | 20, 12 => some [0, 2, 5, 7]
  | 21, 9 => some [0, 1, 2, 3, 7, 8, 13, 14]
  | 21, 17 => some [0, 1, 2, 3, 7, 8, 9, 10, 13, 14, 44, 45]
  | 22, 10 => some [3, 5, 6, 13, 14, 15]
  | 22, 12 => some [3, 5, 6, 13, 14, 15]
  | 24, 5 => some [0, 1, 5]
  | 24, 6 => some [0, 1, 5]
  | 35, 5 => some [2, 3, 4, 7, 8]
  | 35, 7 => some [2, 3, 4, 7]
  | 35, 9 => some [2, 4, 7]
  | 39, 2 => some [1, 3]
  | 39, 4 => some [1, 3]
  | 39, 6 => some [1, 3]
  | 39, 8 => some [1, 3]
  | 39, 10 => some [1, 3]
  | 39, 12 => some [1, 3]
  | 39, 14 => some [1, 3]
  | 39, 16 => some [3]
  | 51, 8 => some [1, 4, 18, 19, 20]
  | 54, 8 => some [1, 3]
  | 56, 6 => some [0, 1, 5]
  | 56, 8 => some [0, 1, 5]
  | 56, 10 => some [0, 1, 5]
  | 56, 12 => some [0, 1, 5]
  | 56, 14 => some [0, 1, 5]
  | 56, 15 => some [0, 1, 5]
  | 56, 17 => some [0, 1, 5]
  | 56, 19 => some [0, 1, 5]
  | 87, 7 => some [1, 2, 5, 7, 9, 10, 11]
  | 87, 9 => some [1, 2, 5, 7, 9, 10, 11]
  | 87, 10 => some [1, 2, 5, 9, 10, 11]
  | 87, 11 => some [1, 5]
  | 89, 4 => some [1, 2, 3, 7]
  | 89, 13 => some [3, 7]
  | _, _ => none
def bodyOf (f : Func) : Code := match f.body with | some c => c | none => .skip
def extTab : FuncId → Option (List S → List O → Option (V × List (Option O)))
  | 15 => some extSplit
  | 16 => some extCutPrefix
  | 18 => some extContains
  | 19 => some extHasSuffix
  | 44 => some extNumIn
  | 46 => some extHasPrefix
  | 52 => some extItoa
  | 53 => some extJoin
  | _ => none
def unTab : FuncId → List (Nat × Nat × Nat)
  | 7 => [(0, 0, 1)]
  | 12 => [(0, 0, 1)]
  | 21 => [(0, 0, 1)]
  | _ => []
def joinTab : FuncId → Nat → Option (List Nat)
  | 4, 20 => some [0, 2, 4, 5, 6, 7, 8, 10, 12]
  | 12, 17 => some [0, 1, 2, 3, 7, 8, 9, 10]
  | _, _ => none
@[simp] abbrev shOp : List Sh := [.any, .any, .any, .any, .any, .sl 1 [], .any, .any, .sl 9 [.any, .any, .any, .any, .any, .sl 1 [], .any, .any, .sl 9 []]]
@[simp] abbrev shMod : List Sh := [.sl 9 shOp, .sl 1 [], .any]
def nrmTab : FuncId → Nat → List (Nat × List Sh)
  | 4, 8 => [(6, [.sl 1 [.any]]), (7, [.sl 1 [.sl 1 [.any]]]), (5, [.sl 3 [.sl 9 [], .sl 1 [], .any]])]
  | 5, 8 => [(5, [.sl 3 shMod]), (6, [.sl 1 [.any]]), (7, [.sl 1 [.sl 1 [.any]]])]
  | 21, 2 => [(3, [.sl 3 shMod])]
  | 21, 10 => [(3, [.sl 3 shMod])]
  | 24, 2 => [(0, [.sl 3 [.sl 9 [.any, .any, .any, .any, .any, .sl 1 [.any], .any, .any, .sl 9 [.any]], .sl 1 [.any], .any]])]
  | 50, 3 => [(3, [.sl 9 shOp])]
  | 56, 2 => [(0, [.sl 9 [.any, .any, .any, .any, .any, .sl 1 [.any], .any, .any, .sl 9 [.any]]])]
  | _, _ => []
def nrmXTab : FuncId → List (Nat × List Sh)
  | 4 => [(2, [.sl 3 shMod])]
  | 5 => [(2, [.sl 3 shMod])]
  | 12 => [(3, [.sl 3 shMod])]
  | 20 => [(2, shOp)]
  | 50 => [(2, [.sl 9 shOp])]
  | _ => []
def nrmJTab : FuncId → Nat → List (Nat × List Sh)
  | 4, 20 => [(5, [.pk [.pk [], .any, .any]])]
  | 12, 17 => [(3, [.pk [.pk [.any, .any, .any, .any, .any, .any, .any, .any, .pk []], .any, .any]])]
  | _, _ => []
def ghoTab : FuncId → Nat → Bool
  | 4, 20 => true
  | 4, 22 => true
  | 5, 19 => true
  | 12, 17 => true
  | 12, 19 => true
  | 12, 21 => true
  | 12, 9 => true
  | 21, 20 => true
  | _, _ => false
noncomputable def E : Env := { ty := tvOf Tryz.prog, how := howTab, ext := extTab, keep := keepTab, trim := trimTab, un := unTab, join := joinTab, gho := ghoTab, nrm := nrmTab, nrmX := nrmXTab, nrmJ := nrmJTab }
noncomputable def fs (f : FuncId) : Option Func := Tryz.prog.funcs[f]?
abbrev f_laws_FnExactParseIr : FuncId := 3
@[simp] theorem fs_laws_FnExactParseIr : fs 3 = some Tryz.f3 := Tryz.func3
abbrev f_spec_ParseIr : FuncId := 4
@[simp] theorem fs_spec_ParseIr : fs 4 = some Tryz.f4 := Tryz.func4
abbrev f_impl_ParseIr : FuncId := 5
@[simp] theorem fs_impl_ParseIr : fs 5 = some Tryz.f5 := Tryz.func5
abbrev f_laws_eqIR : FuncId := 6
@[simp] theorem fs_laws_eqIR : fs 6 = some Tryz.f6 := Tryz.func6
abbrev f_laws_markIR : FuncId := 7
@[simp] theorem fs_laws_markIR : fs 7 = some Tryz.f7 := Tryz.func7
abbrev f_laws_heldIR : FuncId := 8
@[simp] theorem fs_laws_heldIR : fs 8 = some Tryz.f8 := Tryz.func8
abbrev f_spec_l18Lines : FuncId := 9
@[simp] theorem fs_spec_l18Lines : fs 9 = some Tryz.f9 := Tryz.func9
abbrev f_spec_l20Words : FuncId := 10
@[simp] theorem fs_spec_l20Words : fs 10 = some Tryz.f10 := Tryz.func10
abbrev f_spec_l20Read : FuncId := 11
@[simp] theorem fs_spec_l20Read : fs 11 = some Tryz.f11 := Tryz.func11
abbrev f_spec_l11Layout : FuncId := 12
@[simp] theorem fs_spec_l11Layout : fs 12 = some Tryz.f12 := Tryz.func12
abbrev f_spec_IrOk : FuncId := 13
@[simp] theorem fs_spec_IrOk : fs 13 = some Tryz.f13 := Tryz.func13
abbrev f_spec_PrintIr : FuncId := 14
@[simp] theorem fs_spec_PrintIr : fs 14 = some Tryz.f14 := Tryz.func14
abbrev f_strings_Split : FuncId := 15
@[simp] theorem fs_strings_Split : fs 15 = some Tryz.f15 := Tryz.func15
abbrev f_strings_CutPrefix : FuncId := 16
@[simp] theorem fs_strings_CutPrefix : fs 16 = some Tryz.f16 := Tryz.func16
abbrev f_impl_bitOf : FuncId := 17
@[simp] theorem fs_impl_bitOf : fs 17 = some Tryz.f17 := Tryz.func17
abbrev f_strings_Contains : FuncId := 18
@[simp] theorem fs_strings_Contains : fs 18 = some Tryz.f18 := Tryz.func18
abbrev f_strings_HasSuffix : FuncId := 19
@[simp] theorem fs_strings_HasSuffix : fs 19 = some Tryz.f19 := Tryz.func19
abbrev f_impl_opOf : FuncId := 20
@[simp] theorem fs_impl_opOf : fs 20 = some Tryz.f20 := Tryz.func20
abbrev f_impl_laid : FuncId := 21
@[simp] theorem fs_impl_laid : fs 21 = some Tryz.f21 := Tryz.func21
abbrev f_impl_PrintIr : FuncId := 22
@[simp] theorem fs_impl_PrintIr : fs 22 = some Tryz.f22 := Tryz.func22
abbrev f_laws_eqModS : FuncId := 23
@[simp] theorem fs_laws_eqModS : fs 23 = some Tryz.f23 := Tryz.func23
abbrev f_laws_markModS : FuncId := 24
@[simp] theorem fs_laws_markModS : fs 24 = some Tryz.f24 := Tryz.func24
abbrev f_laws_heldModS : FuncId := 25
@[simp] theorem fs_laws_heldModS : fs 25 = some Tryz.f25 := Tryz.func25
abbrev f_spec_l8Number : FuncId := 26
@[simp] theorem fs_spec_l8Number : fs 26 = some Tryz.f26 := Tryz.func26
abbrev f_spec_l20Kind : FuncId := 27
@[simp] theorem fs_spec_l20Kind : fs 27 = some Tryz.f27 := Tryz.func27
abbrev f_spec_l8Begins : FuncId := 28
@[simp] theorem fs_spec_l8Begins : fs 28 = some Tryz.f28 := Tryz.func28
abbrev f_spec_l20Tail : FuncId := 29
@[simp] theorem fs_spec_l20Tail : fs 29 = some Tryz.f29 := Tryz.func29
abbrev f_spec_PutTag : FuncId := 30
@[simp] theorem fs_spec_PutTag : fs 30 = some Tryz.f30 := Tryz.func30
abbrev f_spec_l9Wire : FuncId := 31
@[simp] theorem fs_spec_l9Wire : fs 31 = some Tryz.f31 := Tryz.func31
abbrev f_spec_l1In : FuncId := 32
@[simp] theorem fs_spec_l1In : fs 32 = some Tryz.f32 := Tryz.func32
abbrev f_spec_l9Bare : FuncId := 33
@[simp] theorem fs_spec_l9Bare : fs 33 = some Tryz.f33 := Tryz.func33
abbrev f_spec_l9Jumps : FuncId := 34
@[simp] theorem fs_spec_l9Jumps : fs 34 = some Tryz.f34 := Tryz.func34
abbrev f_spec_l9OpOk : FuncId := 35
@[simp] theorem fs_spec_l9OpOk : fs 35 = some Tryz.f35 := Tryz.func35
abbrev f_spec_l9OneofsOk : FuncId := 36
@[simp] theorem fs_spec_l9OneofsOk : fs 36 = some Tryz.f36 := Tryz.func36
abbrev f_spec_l9SameInts : FuncId := 37
@[simp] theorem fs_spec_l9SameInts : fs 37 = some Tryz.f37 := Tryz.func37
abbrev f_spec_l4Decimal : FuncId := 38
@[simp] theorem fs_spec_l4Decimal : fs 38 = some Tryz.f38 := Tryz.func38
abbrev f_spec_l20Op : FuncId := 39
@[simp] theorem fs_spec_l20Op : fs 39 = some Tryz.f39 := Tryz.func39
abbrev f_impl_numberIn : FuncId := 44
@[simp] theorem fs_impl_numberIn : fs 44 = some Tryz.f44 := Tryz.func44
abbrev f_impl_KindOf : FuncId := 45
@[simp] theorem fs_impl_KindOf : fs 45 = some Tryz.f45 := Tryz.func45
abbrev f_strings_HasPrefix : FuncId := 46
@[simp] theorem fs_strings_HasPrefix : fs 46 = some Tryz.f46 := Tryz.func46
abbrev f_impl_jumpsOf : FuncId := 47
@[simp] theorem fs_impl_jumpsOf : fs 47 = some Tryz.f47 := Tryz.func47
abbrev f_impl_tagOf : FuncId := 48
@[simp] theorem fs_impl_tagOf : fs 48 = some Tryz.f48 := Tryz.func48
abbrev f_impl_within : FuncId := 49
@[simp] theorem fs_impl_within : fs 49 = some Tryz.f49 := Tryz.func49
abbrev f_impl_bareAll : FuncId := 50
@[simp] theorem fs_impl_bareAll : fs 50 = some Tryz.f50 := Tryz.func50
abbrev f_impl_IrOk : FuncId := 51
@[simp] theorem fs_impl_IrOk : fs 51 = some Tryz.f51 := Tryz.func51
abbrev f_strconv_Itoa : FuncId := 52
@[simp] theorem fs_strconv_Itoa : fs 52 = some Tryz.f52 := Tryz.func52
abbrev f_strings_Join : FuncId := 53
@[simp] theorem fs_strings_Join : fs 53 = some Tryz.f53 := Tryz.func53
abbrev f_impl_opWords : FuncId := 54
@[simp] theorem fs_impl_opWords : fs 54 = some Tryz.f54 := Tryz.func54
abbrev f_laws_eqMod : FuncId := 55
@[simp] theorem fs_laws_eqMod : fs 55 = some Tryz.f55 := Tryz.func55
abbrev f_laws_markOpS : FuncId := 56
@[simp] theorem fs_laws_markOpS : fs 56 = some Tryz.f56 := Tryz.func56
abbrev f_laws_markIntS : FuncId := 57
@[simp] theorem fs_laws_markIntS : fs 57 = some Tryz.f57 := Tryz.func57
abbrev f_laws_heldOpS : FuncId := 58
@[simp] theorem fs_laws_heldOpS : fs 58 = some Tryz.f58 := Tryz.func58
abbrev f_laws_heldIntS : FuncId := 59
@[simp] theorem fs_laws_heldIntS : fs 59 = some Tryz.f59 := Tryz.func59
abbrev f_spec_l3Digit : FuncId := 60
@[simp] theorem fs_spec_l3Digit : fs 60 = some Tryz.f60 := Tryz.func60
abbrev f_spec_KindOf : FuncId := 61
@[simp] theorem fs_spec_KindOf : fs 61 = some Tryz.f61 := Tryz.func61
abbrev f_spec_l1Wire : FuncId := 62
@[simp] theorem fs_spec_l1Wire : fs 62 = some Tryz.f62 := Tryz.func62
abbrev f_spec_PutVarint : FuncId := 63
@[simp] theorem fs_spec_PutVarint : fs 63 = some Tryz.f63 := Tryz.func63
abbrev f_spec_WireOf : FuncId := 64
@[simp] theorem fs_spec_WireOf : fs 64 = some Tryz.f64 := Tryz.func64
abbrev f_spec_l5Num : FuncId := 65
@[simp] theorem fs_spec_l5Num : fs 65 = some Tryz.f65 := Tryz.func65
abbrev f_spec_l1Same : FuncId := 66
@[simp] theorem fs_spec_l1Same : fs 66 = some Tryz.f66 := Tryz.func66
abbrev f_spec_l9Inline : FuncId := 67
@[simp] theorem fs_spec_l9Inline : fs 67 = some Tryz.f67 := Tryz.func67
abbrev f_spec_l9Block : FuncId := 68
@[simp] theorem fs_spec_l9Block : fs 68 = some Tryz.f68 := Tryz.func68
abbrev f_spec_l9Oneofs : FuncId := 69
@[simp] theorem fs_spec_l9Oneofs : fs 69 = some Tryz.f69 := Tryz.func69
abbrev f_spec_l4Figures : FuncId := 70
@[simp] theorem fs_spec_l4Figures : fs 70 = some Tryz.f70 := Tryz.func70
abbrev f_spec_l20Word : FuncId := 71
@[simp] theorem fs_spec_l20Word : fs 71 = some Tryz.f71 := Tryz.func71
abbrev f_slices_Index_Lstring_string : FuncId := 77
@[simp] theorem fs_slices_Index_Lstring_string : fs 77 = some Tryz.f77 := Tryz.func77
abbrev f_impl_kindNames : FuncId := 78
@[simp] theorem fs_impl_kindNames : fs 78 = some Tryz.f78 := Tryz.func78
abbrev f_slices_IndexFunc_Limpl_Op_impl_Op : FuncId := 79
@[simp] theorem fs_slices_IndexFunc_Limpl_Op_impl_Op : fs 79 = some Tryz.f79 := Tryz.func79
abbrev f_impl_jumpsOfS1 : FuncId := 80
@[simp] theorem fs_impl_jumpsOfS1 : fs 80 = some Tryz.f80 := Tryz.func80
abbrev f_impl_isPacked : FuncId := 81
@[simp] theorem fs_impl_isPacked : fs 81 = some Tryz.f81 := Tryz.func81
abbrev f_impl_PutTag : FuncId := 82
@[simp] theorem fs_impl_PutTag : fs 82 = some Tryz.f82 := Tryz.func82
abbrev f_impl_WireOf : FuncId := 83
@[simp] theorem fs_impl_WireOf : fs 83 = some Tryz.f83 := Tryz.func83
abbrev f_impl_bare : FuncId := 84
@[simp] theorem fs_impl_bare : fs 84 = some Tryz.f84 := Tryz.func84
abbrev f_slices_ContainsFunc_Limpl_Mod_impl_Mod : FuncId := 85
@[simp] theorem fs_slices_ContainsFunc_Limpl_Mod_impl_Mod : fs 85 = some Tryz.f85 := Tryz.func85
abbrev f_impl_IrOkS1 : FuncId := 86
@[simp] theorem fs_impl_IrOkS1 : fs 86 = some Tryz.f86 := Tryz.func86
abbrev f_impl_opsOk : FuncId := 87
@[simp] theorem fs_impl_opsOk : fs 87 = some Tryz.f87 := Tryz.func87
abbrev f_slices_Equal_Lint_int : FuncId := 88
@[simp] theorem fs_slices_Equal_Lint_int : fs 88 = some Tryz.f88 := Tryz.func88
abbrev f_impl_marksOk : FuncId := 89
@[simp] theorem fs_impl_marksOk : fs 89 = some Tryz.f89 := Tryz.func89
abbrev f_impl_opWordsS1 : FuncId := 94
@[simp] theorem fs_impl_opWordsS1 : fs 94 = some Tryz.f94 := Tryz.func94
abbrev f_laws_eqOpS : FuncId := 95
@[simp] theorem fs_laws_eqOpS : fs 95 = some Tryz.f95 := Tryz.func95
abbrev f_laws_eqIntS : FuncId := 96
@[simp] theorem fs_laws_eqIntS : fs 96 = some Tryz.f96 := Tryz.func96
abbrev f_laws_markByteS : FuncId := 97
@[simp] theorem fs_laws_markByteS : fs 97 = some Tryz.f97 := Tryz.func97
abbrev f_laws_heldByteS : FuncId := 98
@[simp] theorem fs_laws_heldByteS : fs 98 = some Tryz.f98 := Tryz.func98
abbrev f_spec_l4Scalars : FuncId := 99
@[simp] theorem fs_spec_l4Scalars : fs 99 = some Tryz.f99 := Tryz.func99
abbrev f_spec_l9Plain : FuncId := 100
@[simp] theorem fs_spec_l9Plain : fs 100 = some Tryz.f100 := Tryz.func100
abbrev f_spec_l9Same : FuncId := 101
@[simp] theorem fs_spec_l9Same : fs 101 = some Tryz.f101 := Tryz.func101
abbrev f_impl_PutVarint : FuncId := 111
@[simp] theorem fs_impl_PutVarint : fs 111 = some Tryz.f111 := Tryz.func111
abbrev f_slices_IndexFunc_Limpl_Mod_impl_Mod : FuncId := 112
@[simp] theorem fs_slices_IndexFunc_Limpl_Mod_impl_Mod : fs 112 = some Tryz.f112 := Tryz.func112
abbrev f_impl_numOk : FuncId := 113
@[simp] theorem fs_impl_numOk : fs 113 = some Tryz.f113 := Tryz.func113
abbrev f_slices_ContainsFunc_Limpl_Op_impl_Op : FuncId := 114
@[simp] theorem fs_slices_ContainsFunc_Limpl_Op_impl_Op : fs 114 = some Tryz.f114 := Tryz.func114
abbrev f_impl_opsOkS1 : FuncId := 115
@[simp] theorem fs_impl_opsOkS1 : fs 115 = some Tryz.f115 := Tryz.func115
abbrev f_slices_Equal_Lbyte_byte : FuncId := 116
@[simp] theorem fs_slices_Equal_Lbyte_byte : fs 116 = some Tryz.f116 := Tryz.func116
abbrev f_impl_mayRun : FuncId := 117
@[simp] theorem fs_impl_mayRun : fs 117 = some Tryz.f117 := Tryz.func117
abbrev f_slices_EqualFunc_Limpl_Op_Limpl_Op_impl_Op_impl_Op : FuncId := 118
@[simp] theorem fs_slices_EqualFunc_Limpl_Op_Limpl_Op_impl_Op_impl_Op : fs 118 = some Tryz.f118 := Tryz.func118
abbrev f_impl_marksOkS1 : FuncId := 119
@[simp] theorem fs_impl_marksOkS1 : fs 119 = some Tryz.f119 := Tryz.func119
abbrev f_impl_isBare : FuncId := 120
@[simp] theorem fs_impl_isBare : fs 120 = some Tryz.f120 := Tryz.func120
abbrev f_impl_sameField : FuncId := 121
@[simp] theorem fs_impl_sameField : fs 121 = some Tryz.f121 := Tryz.func121
abbrev f_laws_eqOp : FuncId := 125
@[simp] theorem fs_laws_eqOp : fs 125 = some Tryz.f125 := Tryz.func125
abbrev f_laws_eqByteS : FuncId := 140
@[simp] theorem fs_laws_eqByteS : fs 140 = some Tryz.f140 := Tryz.func140
@[simp] theorem ty3 : E.ty 3 = some ⟨.int .i64, 1, 8, [.lit (.int .i64 0)], false⟩ := by kernel_rfl
@[simp] theorem ty4 : E.ty 4 = some ⟨.bool, 1, 1, [.lit (.bool false)], false⟩ := by kernel_rfl
@[simp] theorem ty5 : E.ty 5 = some ⟨.int .u8, 1, 1, [.lit (.int .u8 0)], false⟩ := by kernel_rfl
@[simp] theorem ty9 : E.ty 9 = some ⟨.string, 1, 16, [.lit (.string ⟨#[]⟩)], false⟩ := by kernel_rfl
@[simp] theorem ty22 : E.ty 22 = some ⟨.slice 37, 1, 24, [.sl 0 []], false⟩ := by kernel_rfl
@[simp] theorem ty24 : E.ty 24 = some ⟨.struct #[⟨"Mods", 22, 0, false, "", "", 0⟩], 1, 24, [.sl 0 []], true⟩ := by kernel_rfl
@[simp] theorem ty30 : E.ty 30 = some ⟨.slice 9, 1, 24, [.sl 0 []], false⟩ := by kernel_rfl
@[simp] theorem ty32 : E.ty 32 = some ⟨.slice 4, 1, 24, [.sl 0 []], false⟩ := by kernel_rfl
@[simp] theorem ty33 : E.ty 33 = some ⟨.slice 35, 1, 24, [.sl 0 []], false⟩ := by kernel_rfl
@[simp] theorem ty34 : E.ty 34 = some ⟨.slice 40, 1, 24, [.sl 0 []], false⟩ := by kernel_rfl
@[simp] theorem ty35 : E.ty 35 = some ⟨.slice 3, 1, 24, [.sl 0 []], false⟩ := by kernel_rfl
@[simp] theorem ty37 : E.ty 37 = some ⟨.struct #[⟨"Ops", 34, 0, false, "", "", 0⟩, ⟨"Jumps", 35, 1, false, "", "", 24⟩, ⟨"Cached", 4, 2, false, "", "", 48⟩], 3, 56, [.sl 0 [], .sl 0 [], .lit (.bool false)], true⟩ := by kernel_rfl
@[simp] theorem ty38 : E.ty 38 = some ⟨.slice 5, 1, 24, [.sl 0 []], false⟩ := by kernel_rfl
@[simp] theorem ty40 : E.ty 40 = some ⟨.struct #[⟨"Num", 3, 0, false, "", "", 0⟩, ⟨"Kind", 3, 1, false, "", "", 8⟩, ⟨"Ref", 3, 2, false, "", "", 16⟩, ⟨"Repeated", 4, 3, false, "", "", 24⟩, ⟨"Oneof", 3, 4, false, "", "", 32⟩, ⟨"Tag", 38, 5, false, "", "", 40⟩, ⟨"Quick", 4, 6, false, "", "", 64⟩, ⟨"Run", 3, 7, false, "", "", 72⟩, ⟨"Inline", 34, 8, false, "", "", 80⟩], 9, 104, [.lit (.int .i64 0), .lit (.int .i64 0), .lit (.int .i64 0), .lit (.bool false), .lit (.int .i64 0), .sl 0 [], .lit (.bool false), .lit (.int .i64 0), .sl 0 []], true⟩ := by kernel_rfl
@[simp] theorem ty81 : E.ty 81 = some ⟨.int .u64, 1, 8, [.lit (.int .u64 0)], false⟩ := by kernel_rfl
@[simp] theorem ty102 : E.ty 102 = some ⟨.pointer 104, 1, 8, [.lit (.pointer none)], false⟩ := by kernel_rfl
@[simp] theorem ty104 : E.ty 104 = some ⟨.struct #[⟨"addr", 102, 0, false, "", "strings", 0⟩, ⟨"buf", 38, 1, false, "", "strings", 8⟩], 2, 32, [.lit (.pointer none), .sl 0 []], true⟩ := by kernel_rfl
@[simp] theorem ext3 : E.ext 3 = none := rfl
@[simp] theorem un3 : E.un 3 = [] := rfl
@[simp] theorem nrmX3 : E.nrmX 3 = [] := rfl
@[simp] theorem gho3 (id : Nat) : E.gho 3 id = false := rfl
@[simp] theorem trim3 (id : Nat) : E.trim 3 id = none := rfl
@[simp] theorem how3x0 : E.how 3 0 = 0 := rfl
@[simp] theorem ext4 : E.ext 4 = none := rfl
@[simp] theorem un4 : E.un 4 = [] := rfl
@[simp] theorem nrmX4 : E.nrmX 4 = [(2, [.sl 3 shMod])] := rfl
@[simp] theorem gho4x0 : E.gho 4 0 = false := rfl
@[simp] theorem gho4x1 : E.gho 4 1 = false := rfl
@[simp] theorem gho4x2 : E.gho 4 2 = false := rfl
@[simp] theorem gho4x3 : E.gho 4 3 = false := rfl
@[simp] theorem gho4x4 : E.gho 4 4 = false := rfl
@[simp] theorem gho4x5 : E.gho 4 5 = false := rfl
@[simp] theorem gho4x6 : E.gho 4 6 = false := rfl
@[simp] theorem gho4x7 : E.gho 4 7 = false := rfl
@[simp] theorem gho4x8 : E.gho 4 8 = false := rfl
@[simp] theorem gho4x10 : E.gho 4 10 = false := rfl
@[simp] theorem gho4x11 : E.gho 4 11 = false := rfl
@[simp] theorem gho4x12 : E.gho 4 12 = false := rfl
@[simp] theorem gho4x13 : E.gho 4 13 = false := rfl
@[simp] theorem gho4x14 : E.gho 4 14 = false := rfl
@[simp] theorem gho4x15 : E.gho 4 15 = false := rfl
@[simp] theorem gho4x16 : E.gho 4 16 = false := rfl
@[simp] theorem gho4x17 : E.gho 4 17 = false := rfl
@[simp] theorem gho4x18 : E.gho 4 18 = false := rfl
@[simp] theorem gho4x19 : E.gho 4 19 = false := rfl
@[simp] theorem gho4x20 : E.gho 4 20 = true := rfl
@[simp] theorem gho4x21 : E.gho 4 21 = false := rfl
@[simp] theorem gho4x22 : E.gho 4 22 = true := rfl
@[simp] theorem gho4x23 : E.gho 4 23 = false := rfl
@[simp] theorem gho4x9 : E.gho 4 9 = false := rfl
@[simp] theorem gho4x24 : E.gho 4 24 = false := rfl
@[simp] theorem gho4x25 : E.gho 4 25 = false := rfl
@[simp] theorem gho4x26 : E.gho 4 26 = false := rfl
@[simp] theorem join4x20 : E.join 4 20 = some [0, 2, 4, 5, 6, 7, 8, 10, 12] := rfl
@[simp] theorem nrmJ4x20 : E.nrmJ 4 20 = [(5, [.pk [.pk [], .any, .any]])] := rfl
@[simp] def K_spec_ParseIr_20 (s0 s2 s4 s5 s6 s7 s8 s10 s12 : S) (ob : List (Nat × O)) : F := ⟨[s0, .dead, s2, .dead, s4, s5, s6, s7, s8, .dead, s10, .dead, s12, .dead, .dead, .dead, .dead, .dead, .dead, .dead, .dead, .dead, .dead, .dead, .dead, .dead, .dead, .dead, .dead, .dead, .dead, .dead, .dead, .dead, .dead, .dead, .dead, .dead, .dead, .dead, .dead, .dead, .dead, .dead, .dead, .dead, .dead, .dead, .dead, .dead, .dead, .dead, .dead, .dead, .dead, .dead, .dead, .dead, .dead, .dead, .dead, .dead, .dead, .dead, .dead, .dead, .dead, .dead, .dead, .dead, .dead, .dead, .dead, .dead, .dead, .dead, .dead, .dead, .dead, .dead, .dead, .dead, .dead, .dead, .dead, .dead, .dead, .dead, .dead, .dead, .dead, .dead, .dead, .dead, .dead, .dead, .dead, .dead, .dead, .dead, .dead, .dead, .dead, .dead, .dead, .dead, .dead, .dead, .dead, .dead, .dead, .dead, .dead, .dead, .dead, .dead, .dead, .dead, .dead, .dead, .dead, .dead, .dead, .dead, .dead, .dead, .dead, .dead, .dead, .dead, .dead, .dead, .dead, .dead, .dead, .dead, .dead, .dead, .dead, .dead, .dead, .dead, .dead, .dead, .dead, .dead, .dead, .dead, .dead, .dead, .dead, .dead, .dead, .dead, .dead, .dead, .dead, .dead, .dead, .dead, .dead, .dead, .dead], ob⟩
@[simp] theorem trim4x0 : E.trim 4 0 = none := rfl
@[simp] theorem trim4x1 : E.trim 4 1 = none := rfl
@[simp] theorem trim4x2 : E.trim 4 2 = none := rfl
@[simp] theorem trim4x3 : E.trim 4 3 = none := rfl
@[simp] theorem trim4x4 : E.trim 4 4 = none := rfl
@[simp] theorem trim4x5 : E.trim 4 5 = none := rfl
@[simp] theorem trim4x6 : E.trim 4 6 = none := rfl
@[simp] theorem trim4x7 : E.trim 4 7 = none := rfl
@[simp] theorem trim4x8 : E.trim 4 8 = none := rfl
@[simp] theorem trim4x10 : E.trim 4 10 = none := rfl
@[simp] theorem trim4x11 : E.trim 4 11 = none := rfl
@[simp] theorem trim4x12 : E.trim 4 12 = none := rfl
@[simp] theorem trim4x13 : E.trim 4 13 = none := rfl
@[simp] theorem trim4x14 : E.trim 4 14 = none := rfl
@[simp] theorem trim4x15 : E.trim 4 15 = none := rfl
@[simp] theorem trim4x16 : E.trim 4 16 = none := rfl
@[simp] theorem trim4x17 : E.trim 4 17 = none := rfl
@[simp] theorem trim4x18 : E.trim 4 18 = none := rfl
@[simp] theorem trim4x19 : E.trim 4 19 = none := rfl
@[simp] theorem trim4x20 : E.trim 4 20 = none := rfl
@[simp] theorem trim4x21 : E.trim 4 21 = none := rfl
@[simp] theorem trim4x22 : E.trim 4 22 = none := rfl
@[simp] theorem trim4x23 : E.trim 4 23 = some [0, 2, 4, 5, 6, 7, 8, 10, 12] := rfl
@[simp] theorem trim4x9 : E.trim 4 9 = none := rfl
@[simp] theorem trim4x24 : E.trim 4 24 = none := rfl
@[simp] theorem trim4x25 : E.trim 4 25 = none := rfl
@[simp] theorem trim4x26 : E.trim 4 26 = none := rfl
@[simp] theorem how4x0 : E.how 4 0 = 0 := rfl
@[simp] theorem keep4x8 : E.keep 4 8 = some [0, 2, 4, 5, 6, 7, 8] := rfl
@[simp] theorem nrm4x8 : E.nrm 4 8 = [(6, [.sl 1 [.any]]), (7, [.sl 1 [.sl 1 [.any]]]), (5, [.sl 3 [.sl 9 [], .sl 1 [], .any]])] := rfl
@[simp] def I_spec_ParseIr_0 (s0 s2 s4 s5 s6 s7 s8 : S) (ob : List (Nat × O)) : F := ⟨[s0, .dead, s2, .dead, s4, s5, s6, s7, s8, .dead, .dead, .dead, .dead, .dead, .dead, .dead, .dead, .dead, .dead, .dead, .dead, .dead, .dead, .dead, .dead, .dead, .dead, .dead, .dead, .dead, .dead, .dead, .dead, .dead, .dead, .dead, .dead, .dead, .dead, .dead, .dead, .dead, .dead, .dead, .dead, .dead, .dead, .dead, .dead, .dead, .dead, .dead, .dead, .dead, .dead, .dead, .dead, .dead, .dead, .dead, .dead, .dead, .dead, .dead, .dead, .dead, .dead, .dead, .dead, .dead, .dead, .dead, .dead, .dead, .dead, .dead, .dead, .dead, .dead, .dead, .dead, .dead, .dead, .dead, .dead, .dead, .dead, .dead, .dead, .dead, .dead, .dead, .dead, .dead, .dead, .dead, .dead, .dead, .dead, .dead, .dead, .dead, .dead, .dead, .dead, .dead, .dead, .dead, .dead, .dead, .dead, .dead, .dead, .dead, .dead, .dead, .dead, .dead, .dead, .dead, .dead, .dead, .dead, .dead, .dead, .dead, .dead, .dead, .dead, .dead, .dead, .dead, .dead, .dead, .dead, .dead, .dead, .dead, .dead, .dead, .dead, .dead, .dead, .dead, .dead, .dead, .dead, .dead, .dead, .dead, .dead, .dead, .dead, .dead, .dead, .dead, .dead, .dead, .dead, .dead, .dead, .dead, .dead], ob⟩
@[simp] theorem ext5 : E.ext 5 = none := rfl
@[simp] theorem un5 : E.un 5 = [] := rfl
@[simp] theorem nrmX5 : E.nrmX 5 = [(2, [.sl 3 shMod])] := rfl
@[simp] theorem gho5x0 : E.gho 5 0 = false := rfl
@[simp] theorem gho5x1 : E.gho 5 1 = false := rfl
@[simp] theorem gho5x2 : E.gho 5 2 = false := rfl
@[simp] theorem gho5x3 : E.gho 5 3 = false := rfl
@[simp] theorem gho5x4 : E.gho 5 4 = false := rfl
@[simp] theorem gho5x5 : E.gho 5 5 = false := rfl
@[simp] theorem gho5x6 : E.gho 5 6 = false := rfl
@[simp] theorem gho5x7 : E.gho 5 7 = false := rfl
@[simp] theorem gho5x8 : E.gho 5 8 = false := rfl
@[simp] theorem gho5x9 : E.gho 5 9 = false := rfl
@[simp] theorem gho5x10 : E.gho 5 10 = false := rfl
@[simp] theorem gho5x11 : E.gho 5 11 = false := rfl
@[simp] theorem gho5x12 : E.gho 5 12 = false := rfl
@[simp] theorem gho5x13 : E.gho 5 13 = false := rfl
@[simp] theorem gho5x14 : E.gho 5 14 = false := rfl
@[simp] theorem gho5x15 : E.gho 5 15 = false := rfl
@[simp] theorem gho5x16 : E.gho 5 16 = false := rfl
@[simp] theorem gho5x17 : E.gho 5 17 = false := rfl
@[simp] theorem gho5x18 : E.gho 5 18 = false := rfl
@[simp] theorem gho5x19 : E.gho 5 19 = true := rfl
@[simp] theorem gho5x20 : E.gho 5 20 = false := rfl
@[simp] theorem gho5x21 : E.gho 5 21 = false := rfl
@[simp] theorem gho5x22 : E.gho 5 22 = false := rfl
@[simp] theorem gho5x23 : E.gho 5 23 = false := rfl
@[simp] theorem trim5 (id : Nat) : E.trim 5 id = none := rfl
@[simp] theorem how5x0 : E.how 5 0 = 0 := rfl
@[simp] theorem keep5x8 : E.keep 5 8 = some [0, 2, 5, 6, 7, 36, 37, 38] := rfl
@[simp] theorem nrm5x8 : E.nrm 5 8 = [(5, [.sl 3 shMod]), (6, [.sl 1 [.any]]), (7, [.sl 1 [.sl 1 [.any]]])] := rfl
@[simp] def I_impl_ParseIr_0 (s0 s2 s5 s6 s7 s36 s37 s38 : S) (ob : List (Nat × O)) : F := ⟨[s0, .dead, s2, .dead, .dead, s5, s6, s7, .dead, .dead, .dead, .dead, .dead, .dead, .dead, .dead, .dead, .dead, .dead, .dead, .dead, .dead, .dead, .dead, .dead, .dead, .dead, .dead, .dead, .dead, .dead, .dead, .dead, .dead, .dead, .dead, s36, s37, s38, .dead, .dead, .dead, .dead, .dead, .dead, .dead, .dead, .dead, .dead, .dead, .dead, .dead, .dead, .dead, .dead, .dead, .dead, .dead, .dead, .dead, .dead, .dead, .dead, .dead, .dead, .dead, .dead, .dead, .dead, .dead, .dead, .dead, .dead, .dead, .dead, .dead, .dead, .dead, .dead, .dead, .dead, .dead, .dead, .dead, .dead, .dead, .dead, .dead, .dead, .dead, .dead, .dead, .dead, .dead, .dead, .dead, .dead, .dead, .dead, .dead, .dead, .dead, .dead, .dead, .dead, .dead, .dead, .dead, .dead, .dead, .dead, .dead, .dead, .dead, .dead, .dead, .dead, .dead, .dead, .dead, .dead, .dead, .dead, .dead, .dead, .dead, .dead, .dead, .dead], ob⟩
@[simp] theorem ext6 : E.ext 6 = none := rfl
@[simp] theorem un6 : E.un 6 = [] := rfl
@[simp] theorem nrmX6 : E.nrmX 6 = [] := rfl
@[simp] theorem gho6 (id : Nat) : E.gho 6 id = false := rfl
@[simp] theorem trim6 (id : Nat) : E.trim 6 id = none := rfl
@[simp] theorem how6x0 : E.how 6 0 = 0 := rfl
@[simp] theorem how6x1 : E.how 6 1 = 0 := rfl
@[simp] theorem ext7 : E.ext 7 = none := rfl
@[simp] theorem un7 : E.un 7 = [(0, 0, 1)] := rfl
@[simp] theorem nrmX7 : E.nrmX 7 = [] := rfl
@[simp] theorem gho7 (id : Nat) : E.gho 7 id = false := rfl
@[simp] theorem trim7 (id : Nat) : E.trim 7 id = none := rfl
@[simp] theorem how7x0 : E.how 7 0 = 1 := rfl
@[simp] theorem how7x1 : E.how 7 1 = 0 := rfl
@[simp] theorem ext8 : E.ext 8 = none := rfl
@[simp] theorem un8 : E.un 8 = [] := rfl
@[simp] theorem nrmX8 : E.nrmX 8 = [] := rfl
@[simp] theorem gho8 (id : Nat) : E.gho 8 id = false := rfl
@[simp] theorem trim8 (id : Nat) : E.trim 8 id = none := rfl
@[simp] theorem how8x0 : E.how 8 0 = 0 := rfl
@[simp] theorem how8x1 : E.how 8 1 = 0 := rfl
@[simp] theorem ext9 : E.ext 9 = none := rfl
@[simp] theorem un9 : E.un 9 = [] := rfl
@[simp] theorem nrmX9 : E.nrmX 9 = [] := rfl
@[simp] theorem gho9 (id : Nat) : E.gho 9 id = false := rfl
@[simp] theorem trim9 (id : Nat) : E.trim 9 id = none := rfl
@[simp] theorem how9x0 : E.how 9 0 = 0 := rfl
@[simp] theorem keep9x4 : E.keep 9 4 = some [0, 3, 4, 5] := rfl
@[simp] theorem nrm9x4 : E.nrm 9 4 = [] := rfl
@[simp] def I_spec_l18Lines_0 (s0 s3 s4 s5 : S) (ob : List (Nat × O)) : F := ⟨[s0, .dead, .dead, s3, s4, s5, .dead, .dead, .dead, .dead, .dead, .dead, .dead, .dead, .dead, .dead, .dead, .dead, .dead, .dead, .dead, .dead, .dead, .dead, .dead, .dead, .dead, .dead, .dead, .dead, .dead, .dead, .dead, .dead, .dead, .dead, .dead], ob⟩
@[simp] theorem ext10 : E.ext 10 = none := rfl
@[simp] theorem un10 : E.un 10 = [] := rfl
@[simp] theorem nrmX10 : E.nrmX 10 = [] := rfl
@[simp] theorem gho10 (id : Nat) : E.gho 10 id = false := rfl
@[simp] theorem trim10 (id : Nat) : E.trim 10 id = none := rfl
@[simp] theorem how10x0 : E.how 10 0 = 0 := rfl
@[simp] theorem keep10x4 : E.keep 10 4 = some [0, 3, 4, 5] := rfl
@[simp] theorem nrm10x4 : E.nrm 10 4 = [] := rfl
@[simp] def I_spec_l20Words_0 (s0 s3 s4 s5 : S) (ob : List (Nat × O)) : F := ⟨[s0, .dead, .dead, s3, s4, s5, .dead, .dead, .dead, .dead, .dead, .dead, .dead, .dead, .dead, .dead, .dead, .dead, .dead, .dead, .dead, .dead, .dead, .dead, .dead, .dead, .dead, .dead, .dead, .dead, .dead, .dead, .dead, .dead, .dead, .dead], ob⟩
@[simp] theorem ext11 : E.ext 11 = none := rfl
@[simp] theorem un11 : E.un 11 = [] := rfl
@[simp] theorem nrmX11 : E.nrmX 11 = [] := rfl
@[simp] theorem gho11 (id : Nat) : E.gho 11 id = false := rfl
@[simp] theorem trim11 (id : Nat) : E.trim 11 id = none := rfl
@[simp] theorem how11x0 : E.how 11 0 = 0 := rfl
@[simp] theorem keep11x7 : E.keep 11 7 = some [0, 2, 4, 5, 6] := rfl
@[simp] theorem nrm11x7 : E.nrm 11 7 = [] := rfl
@[simp] def I_spec_l20Read_0 (s0 s2 s4 s5 s6 : S) (ob : List (Nat × O)) : F := ⟨[s0, .dead, s2, .dead, s4, s5, s6, .dead, .dead, .dead, .dead, .dead, .dead, .dead, .dead, .dead, .dead, .dead, .dead, .dead, .dead, .dead, .dead, .dead, .dead, .dead, .dead, .dead, .dead, .dead, .dead, .dead, .dead, .dead, .dead, .dead, .dead, .dead, .dead, .dead, .dead, .dead, .dead, .dead, .dead, .dead, .dead, .dead, .dead, .dead, .dead, .dead, .dead, .dead, .dead, .dead, .dead, .dead, .dead, .dead, .dead, .dead, .dead, .dead, .dead, .dead, .dead, .dead, .dead, .dead, .dead, .dead, .dead], ob⟩
@[simp] theorem ext12 : E.ext 12 = none := rfl
@[simp] theorem un12 : E.un 12 = [(0, 0, 1)] := rfl
@[simp] theorem nrmX12 : E.nrmX 12 = [(3, [.sl 3 shMod])] := rfl
@[simp] theorem gho12x0 : E.gho 12 0 = false := rfl
@[simp] theorem gho12x1 : E.gho 12 1 = false := rfl
@[simp] theorem gho12x2 : E.gho 12 2 = false := rfl
@[simp] theorem gho12x4 : E.gho 12 4 = false := rfl
@[simp] theorem gho12x5 : E.gho 12 5 = false := rfl
@[simp] theorem gho12x7 : E.gho 12 7 = false := rfl
@[simp] theorem gho12x8 : E.gho 12 8 = false := rfl
@[simp] theorem gho12x9 : E.gho 12 9 = true := rfl
@[simp] theorem gho12x10 : E.gho 12 10 = false := rfl
@[simp] theorem gho12x11 : E.gho 12 11 = false := rfl
@[simp] theorem gho12x12 : E.gho 12 12 = false := rfl
@[simp] theorem gho12x13 : E.gho 12 13 = false := rfl
@[simp] theorem gho12x14 : E.gho 12 14 = false := rfl
@[simp] theorem gho12x16 : E.gho 12 16 = false := rfl
@[simp] theorem gho12x17 : E.gho 12 17 = true := rfl
@[simp] theorem gho12x18 : E.gho 12 18 = false := rfl
@[simp] theorem gho12x19 : E.gho 12 19 = true := rfl
@[simp] theorem gho12x15 : E.gho 12 15 = false := rfl
@[simp] theorem gho12x6 : E.gho 12 6 = false := rfl
@[simp] theorem gho12x20 : E.gho 12 20 = false := rfl
@[simp] theorem gho12x21 : E.gho 12 21 = true := rfl
@[simp] theorem gho12x22 : E.gho 12 22 = false := rfl
@[simp] theorem gho12x23 : E.gho 12 23 = false := rfl
@[simp] theorem gho12x3 : E.gho 12 3 = false := rfl
@[simp] theorem gho12x24 : E.gho 12 24 = false := rfl
@[simp] theorem join12x17 : E.join 12 17 = some [0, 1, 2, 3, 7, 8, 9, 10] := rfl
@[simp] theorem nrmJ12x17 : E.nrmJ 12 17 = [(3, [.pk [.pk [.any, .any, .any, .any, .any, .any, .any, .any, .pk []], .any, .any]])] := rfl
@[simp] def K_spec_l11Layout_17 (s0 s1 s2 s3 s7 s8 s9 s10 : S) (ob : List (Nat × O)) : F := ⟨[s0, s1, s2, s3, .dead, .dead, .dead, s7, s8, s9, s10, .dead, .dead, .dead, .dead, .dead, .dead, .dead, .dead, .dead, .dead, .dead, .dead, .dead, .dead, .dead, .dead, .dead, .dead, .dead, .dead, .dead, .dead, .dead, .dead, .dead, .dead, .dead, .dead, .dead, .dead, .dead, .dead, .dead, .dead, .dead, .dead, .dead, .dead, .dead, .dead, .dead, .dead, .dead, .dead, .dead, .dead, .dead, .dead, .dead, .dead, .dead, .dead, .dead, .dead, .dead, .dead, .dead, .dead, .dead, .dead, .dead, .dead, .dead, .dead, .dead, .dead, .dead, .dead, .dead, .dead, .dead, .dead, .dead, .dead, .dead, .dead, .dead, .dead, .dead, .dead, .dead, .dead, .dead, .dead, .dead, .dead, .dead, .dead, .dead, .dead, .dead, .dead, .dead, .dead, .dead, .dead, .dead, .dead, .dead, .dead, .dead, .dead, .dead, .dead, .dead, .dead, .dead, .dead, .dead, .dead, .dead, .dead, .dead, .dead, .dead, .dead, .dead, .dead, .dead, .dead, .dead, .dead, .dead, .dead, .dead, .dead, .dead, .dead, .dead, .dead, .dead, .dead, .dead, .dead, .dead, .dead, .dead, .dead, .dead, .dead, .dead, .dead, .dead, .dead, .dead, .dead, .dead, .dead, .dead, .dead, .dead, .dead, .dead, .dead, .dead, .dead, .dead, .dead, .dead, .dead, .dead, .dead, .dead, .dead, .dead, .dead, .dead, .dead, .dead, .dead, .dead, .dead, .dead, .dead, .dead, .dead, .dead, .dead, .dead], ob⟩
@[simp] theorem trim12x0 : E.trim 12 0 = none := rfl
@[simp] theorem trim12x1 : E.trim 12 1 = none := rfl
@[simp] theorem trim12x2 : E.trim 12 2 = none := rfl
@[simp] theorem trim12x4 : E.trim 12 4 = none := rfl
@[simp] theorem trim12x5 : E.trim 12 5 = none := rfl
@[simp] theorem trim12x7 : E.trim 12 7 = none := rfl
@[simp] theorem trim12x8 : E.trim 12 8 = none := rfl
@[simp] theorem trim12x9 : E.trim 12 9 = none := rfl
@[simp] theorem trim12x10 : E.trim 12 10 = some [0, 1, 2, 3, 7, 8, 9] := rfl
@[simp] def J_spec_l11Layout_10 (s0 s1 s2 s3 s7 s8 s9 : S) (ob : List (Nat × O)) : F := ⟨[s0, s1, s2, s3, .dead, .dead, .dead, s7, s8, s9, .dead, .dead, .dead, .dead, .dead, .dead, .dead, .dead, .dead, .dead, .dead, .dead, .dead, .dead, .dead, .dead, .dead, .dead, .dead, .dead, .dead, .dead, .dead, .dead, .dead, .dead, .dead, .dead, .dead, .dead, .dead, .dead, .dead, .dead, .dead, .dead, .dead, .dead, .dead, .dead, .dead, .dead, .dead, .dead, .dead, .dead, .dead, .dead, .dead, .dead, .dead, .dead, .dead, .dead, .dead, .dead, .dead, .dead, .dead, .dead, .dead, .dead, .dead, .dead, .dead, .dead, .dead, .dead, .dead, .dead, .dead, .dead, .dead, .dead, .dead, .dead, .dead, .dead, .dead, .dead, .dead, .dead, .dead, .dead, .dead, .dead, .dead, .dead, .dead, .dead, .dead, .dead, .dead, .dead, .dead, .dead, .dead, .dead, .dead, .dead, .dead, .dead, .dead, .dead, .dead, .dead, .dead, .dead, .dead, .dead, .dead, .dead, .dead, .dead, .dead, .dead, .dead, .dead, .dead, .dead, .dead, .dead, .dead, .dead, .dead, .dead, .dead, .dead, .dead, .dead, .dead, .dead, .dead, .dead, .dead, .dead, .dead, .dead, .dead, .dead, .dead, .dead, .dead, .dead, .dead, .dead, .dead, .dead, .dead, .dead, .dead, .dead, .dead, .dead, .dead, .dead, .dead, .dead, .dead, .dead, .dead, .dead, .dead, .dead, .dead, .dead, .dead, .dead, .dead, .dead, .dead, .dead, .dead, .dead, .dead, .dead, .dead, .dead, .dead, .dead], ob⟩
@[simp] theorem trim12x11 : E.trim 12 11 = none := rfl
@[simp] theorem trim12x12 : E.trim 12 12 = none := rfl
@[simp] theorem trim12x13 : E.trim 12 13 = none := rfl
@[simp] theorem trim12x14 : E.trim 12 14 = none := rfl
@[simp] theorem trim12x16 : E.trim 12 16 = none := rfl
@[simp] theorem trim12x17 : E.trim 12 17 = none := rfl
@[simp] theorem trim12x18 : E.trim 12 18 = none := rfl
@[simp] theorem trim12x19 : E.trim 12 19 = none := rfl
@[simp] theorem trim12x15 : E.trim 12 15 = none := rfl
@[simp] theorem trim12x6 : E.trim 12 6 = none := rfl
@[simp] theorem trim12x20 : E.trim 12 20 = none := rfl
@[simp] theorem trim12x21 : E.trim 12 21 = none := rfl
@[simp] theorem trim12x22 : E.trim 12 22 = none := rfl
@[simp] theorem trim12x23 : E.trim 12 23 = none := rfl
@[simp] theorem trim12x3 : E.trim 12 3 = none := rfl
@[simp] theorem trim12x24 : E.trim 12 24 = none := rfl
@[simp] theorem how12x0 : E.how 12 0 = 1 := rfl
@[simp] theorem how12x1 : E.how 12 1 = 0 := rfl
@[simp] theorem how12x2 : E.how 12 2 = 0 := rfl
@[simp] theorem keep12x2 : E.keep 12 2 = some [0, 1, 2, 3, 7] := rfl
@[simp] theorem nrm12x2 : E.nrm 12 2 = [] := rfl
@[simp] def I_spec_l11Layout_0 (s0 s1 s2 s3 s7 : S) (ob : List (Nat × O)) : F := ⟨[s0, s1, s2, s3, .dead, .dead, .dead, s7, .dead, .dead, .dead, .dead, .dead, .dead, .dead, .dead, .dead, .dead, .dead, .dead, .dead, .dead, .dead, .dead, .dead, .dead, .dead, .dead, .dead, .dead, .dead, .dead, .dead, .dead, .dead, .dead, .dead, .dead, .dead, .dead, .dead, .dead, .dead, .dead, .dead, .dead, .dead, .dead, .dead, .dead, .dead, .dead, .dead, .dead, .dead, .dead, .dead, .dead, .dead, .dead, .dead, .dead, .dead, .dead, .dead, .dead, .dead, .dead, .dead, .dead, .dead, .dead, .dead, .dead, .dead, .dead, .dead, .dead, .dead, .dead, .dead, .dead, .dead, .dead, .dead, .dead, .dead, .dead, .dead, .dead, .dead, .dead, .dead, .dead, .dead, .dead, .dead, .dead, .dead, .dead, .dead, .dead, .dead, .dead, .dead, .dead, .dead, .dead, .dead, .dead, .dead, .dead, .dead, .dead, .dead, .dead, .dead, .dead, .dead, .dead, .dead, .dead, .dead, .dead, .dead, .dead, .dead, .dead, .dead, .dead, .dead, .dead, .dead, .dead, .dead, .dead, .dead, .dead, .dead, .dead, .dead, .dead, .dead, .dead, .dead, .dead, .dead, .dead, .dead, .dead, .dead, .dead, .dead, .dead, .dead, .dead, .dead, .dead, .dead, .dead, .dead, .dead, .dead, .dead, .dead, .dead, .dead, .dead, .dead, .dead, .dead, .dead, .dead, .dead, .dead, .dead, .dead, .dead, .dead, .dead, .dead, .dead, .dead, .dead, .dead, .dead, .dead, .dead, .dead, .dead], ob⟩
@[simp] theorem keep12x5 : E.keep 12 5 = some [0, 1, 2, 3, 7, 8] := rfl
@[simp] theorem nrm12x5 : E.nrm 12 5 = [] := rfl
@[simp] def I_spec_l11Layout_1 (s0 s1 s2 s3 s7 s8 : S) (ob : List (Nat × O)) : F := ⟨[s0, s1, s2, s3, .dead, .dead, .dead, s7, s8, .dead, .dead, .dead, .dead, .dead, .dead, .dead, .dead, .dead, .dead, .dead, .dead, .dead, .dead, .dead, .dead, .dead, .dead, .dead, .dead, .dead, .dead, .dead, .dead, .dead, .dead, .dead, .dead, .dead, .dead, .dead, .dead, .dead, .dead, .dead, .dead, .dead, .dead, .dead, .dead, .dead, .dead, .dead, .dead, .dead, .dead, .dead, .dead, .dead, .dead, .dead, .dead, .dead, .dead, .dead, .dead, .dead, .dead, .dead, .dead, .dead, .dead, .dead, .dead, .dead, .dead, .dead, .dead, .dead, .dead, .dead, .dead, .dead, .dead, .dead, .dead, .dead, .dead, .dead, .dead, .dead, .dead, .dead, .dead, .dead, .dead, .dead, .dead, .dead, .dead, .dead, .dead, .dead, .dead, .dead, .dead, .dead, .dead, .dead, .dead, .dead, .dead, .dead, .dead, .dead, .dead, .dead, .dead, .dead, .dead, .dead, .dead, .dead, .dead, .dead, .dead, .dead, .dead, .dead, .dead, .dead, .dead, .dead, .dead, .dead, .dead, .dead, .dead, .dead, .dead, .dead, .dead, .dead, .dead, .dead, .dead, .dead, .dead, .dead, .dead, .dead, .dead, .dead, .dead, .dead, .dead, .dead, .dead, .dead, .dead, .dead, .dead, .dead, .dead, .dead, .dead, .dead, .dead, .dead, .dead, .dead, .dead, .dead, .dead, .dead, .dead, .dead, .dead, .dead, .dead, .dead, .dead, .dead, .dead, .dead, .dead, .dead, .dead, .dead, .dead, .dead], ob⟩
@[simp] theorem keep12x14 : E.keep 12 14 = some [0, 1, 2, 3, 7, 8, 9, 10] := rfl
@[simp] theorem nrm12x14 : E.nrm 12 14 = [] := rfl
@[simp] def I_spec_l11Layout_2 (s0 s1 s2 s3 s7 s8 s9 s10 : S) (ob : List (Nat × O)) : F := ⟨[s0, s1, s2, s3, .dead, .dead, .dead, s7, s8, s9, s10, .dead, .dead, .dead, .dead, .dead, .dead, .dead, .dead, .dead, .dead, .dead, .dead, .dead, .dead, .dead, .dead, .dead, .dead, .dead, .dead, .dead, .dead, .dead, .dead, .dead, .dead, .dead, .dead, .dead, .dead, .dead, .dead, .dead, .dead, .dead, .dead, .dead, .dead, .dead, .dead, .dead, .dead, .dead, .dead, .dead, .dead, .dead, .dead, .dead, .dead, .dead, .dead, .dead, .dead, .dead, .dead, .dead, .dead, .dead, .dead, .dead, .dead, .dead, .dead, .dead, .dead, .dead, .dead, .dead, .dead, .dead, .dead, .dead, .dead, .dead, .dead, .dead, .dead, .dead, .dead, .dead, .dead, .dead, .dead, .dead, .dead, .dead, .dead, .dead, .dead, .dead, .dead, .dead, .dead, .dead, .dead, .dead, .dead, .dead, .dead, .dead, .dead, .dead, .dead, .dead, .dead, .dead, .dead, .dead, .dead, .dead, .dead, .dead, .dead, .dead, .dead, .dead, .dead, .dead, .dead, .dead, .dead, .dead, .dead, .dead, .dead, .dead, .dead, .dead, .dead, .dead, .dead, .dead, .dead, .dead, .dead, .dead, .dead, .dead, .dead, .dead, .dead, .dead, .dead, .dead, .dead, .dead, .dead, .dead, .dead, .dead, .dead, .dead, .dead, .dead, .dead, .dead, .dead, .dead, .dead, .dead, .dead, .dead, .dead, .dead, .dead, .dead, .dead, .dead, .dead, .dead, .dead, .dead, .dead, .dead, .dead, .dead, .dead, .dead], ob⟩
@[simp] theorem ext13 : E.ext 13 = none := rfl
@[simp] theorem un13 : E.un 13 = [] := rfl
@[simp] theorem nrmX13 : E.nrmX 13 = [] := rfl
@[simp] theorem gho13 (id : Nat) : E.gho 13 id = false := rfl
@[simp] theorem trim13 (id : Nat) : E.trim 13 id = none := rfl
@[simp] theorem how13x0 : E.how 13 0 = 0 := rfl
@[simp] theorem keep13x4 : E.keep 13 4 = some [1, 3] := rfl
@[simp] theorem nrm13x4 : E.nrm 13 4 = [] := rfl
@[simp] def I_spec_IrOk_0 (s1 s3 : S) (ob : List (Nat × O)) : F := ⟨[.dead, s1, .dead, s3, .dead, .dead, .dead, .dead, .dead, .dead, .dead, .dead, .dead, .dead, .dead, .dead, .dead, .dead, .dead, .dead, .dead, .dead, .dead, .dead, .dead, .dead, .dead, .dead, .dead, .dead, .dead, .dead, .dead, .dead, .dead, .dead, .dead, .dead, .dead, .dead, .dead, .dead, .dead, .dead, .dead, .dead, .dead, .dead, .dead, .dead, .dead, .dead, .dead, .dead, .dead, .dead, .dead, .dead, .dead, .dead, .dead, .dead, .dead, .dead, .dead, .dead, .dead, .dead], ob⟩
@[simp] theorem keep13x9 : E.keep 13 9 = some [1, 4] := rfl
@[simp] theorem nrm13x9 : E.nrm 13 9 = [] := rfl
@[simp] def I_spec_IrOk_1 (s1 s4 : S) (ob : List (Nat × O)) : F := ⟨[.dead, s1, .dead, .dead, s4, .dead, .dead, .dead, .dead, .dead, .dead, .dead, .dead, .dead, .dead, .dead, .dead, .dead, .dead, .dead, .dead, .dead, .dead, .dead, .dead, .dead, .dead, .dead, .dead, .dead, .dead, .dead, .dead, .dead, .dead, .dead, .dead, .dead, .dead, .dead, .dead, .dead, .dead, .dead, .dead, .dead, .dead, .dead, .dead, .dead, .dead, .dead, .dead, .dead, .dead, .dead, .dead, .dead, .dead, .dead, .dead, .dead, .dead, .dead, .dead, .dead, .dead, .dead], ob⟩
@[simp] theorem keep13x13 : E.keep 13 13 = some [1, 4, 5, 6] := rfl
@[simp] theorem nrm13x13 : E.nrm 13 13 = [] := rfl
@[simp] def I_spec_IrOk_2 (s1 s4 s5 s6 : S) (ob : List (Nat × O)) : F := ⟨[.dead, s1, .dead, .dead, s4, s5, s6, .dead, .dead, .dead, .dead, .dead, .dead, .dead, .dead, .dead, .dead, .dead, .dead, .dead, .dead, .dead, .dead, .dead, .dead, .dead, .dead, .dead, .dead, .dead, .dead, .dead, .dead, .dead, .dead, .dead, .dead, .dead, .dead, .dead, .dead, .dead, .dead, .dead, .dead, .dead, .dead, .dead, .dead, .dead, .dead, .dead, .dead, .dead, .dead, .dead, .dead, .dead, .dead, .dead, .dead, .dead, .dead, .dead, .dead, .dead, .dead, .dead], ob⟩
@[simp] theorem ext14 : E.ext 14 = none := rfl
@[simp] theorem un14 : E.un 14 = [] := rfl
@[simp] theorem nrmX14 : E.nrmX 14 = [] := rfl
@[simp] theorem gho14 (id : Nat) : E.gho 14 id = false := rfl
@[simp] theorem trim14x0 : E.trim 14 0 = none := rfl
@[simp] theorem trim14x1 : E.trim 14 1 = none := rfl
@[simp] theorem trim14x2 : E.trim 14 2 = none := rfl
@[simp] theorem trim14x3 : E.trim 14 3 = none := rfl
@[simp] theorem trim14x4 : E.trim 14 4 = none := rfl
@[simp] theorem trim14x5 : E.trim 14 5 = none := rfl
@[simp] theorem trim14x7 : E.trim 14 7 = none := rfl
@[simp] theorem trim14x8 : E.trim 14 8 = none := rfl
@[simp] theorem trim14x9 : E.trim 14 9 = none := rfl
@[simp] theorem trim14x10 : E.trim 14 10 = some [1, 3, 4, 5] := rfl
@[simp] def J_spec_PrintIr_10 (s1 s3 s4 s5 : S) (ob : List (Nat × O)) : F := ⟨[.dead, s1, .dead, s3, s4, s5, .dead, .dead, .dead, .dead, .dead, .dead, .dead, .dead, .dead, .dead, .dead, .dead, .dead, .dead, .dead, .dead, .dead, .dead, .dead, .dead, .dead, .dead, .dead, .dead, .dead, .dead, .dead, .dead, .dead, .dead, .dead, .dead, .dead, .dead, .dead, .dead, .dead, .dead, .dead, .dead, .dead, .dead, .dead, .dead, .dead, .dead, .dead, .dead, .dead, .dead, .dead, .dead, .dead, .dead, .dead, .dead, .dead, .dead, .dead, .dead, .dead, .dead, .dead], ob⟩
@[simp] theorem trim14x11 : E.trim 14 11 = none := rfl
@[simp] theorem trim14x12 : E.trim 14 12 = some [1, 3, 4, 5] := rfl
@[simp] def J_spec_PrintIr_12 (s1 s3 s4 s5 : S) (ob : List (Nat × O)) : F := ⟨[.dead, s1, .dead, s3, s4, s5, .dead, .dead, .dead, .dead, .dead, .dead, .dead, .dead, .dead, .dead, .dead, .dead, .dead, .dead, .dead, .dead, .dead, .dead, .dead, .dead, .dead, .dead, .dead, .dead, .dead, .dead, .dead, .dead, .dead, .dead, .dead, .dead, .dead, .dead, .dead, .dead, .dead, .dead, .dead, .dead, .dead, .dead, .dead, .dead, .dead, .dead, .dead, .dead, .dead, .dead, .dead, .dead, .dead, .dead, .dead, .dead, .dead, .dead, .dead, .dead, .dead, .dead, .dead], ob⟩
@[simp] theorem trim14x13 : E.trim 14 13 = none := rfl
@[simp] theorem trim14x14 : E.trim 14 14 = none := rfl
@[simp] theorem trim14x16 : E.trim 14 16 = none := rfl
@[simp] theorem trim14x15 : E.trim 14 15 = none := rfl
@[simp] theorem trim14x6 : E.trim 14 6 = none := rfl
@[simp] theorem trim14x17 : E.trim 14 17 = none := rfl
@[simp] theorem how14x0 : E.how 14 0 = 0 := rfl
@[simp] theorem keep14x5 : E.keep 14 5 = some [1, 3, 4] := rfl
@[simp] theorem nrm14x5 : E.nrm 14 5 = [] := rfl
@[simp] def I_spec_PrintIr_0 (s1 s3 s4 : S) (ob : List (Nat × O)) : F := ⟨[.dead, s1, .dead, s3, s4, .dead, .dead, .dead, .dead, .dead, .dead, .dead, .dead, .dead, .dead, .dead, .dead, .dead, .dead, .dead, .dead, .dead, .dead, .dead, .dead, .dead, .dead, .dead, .dead, .dead, .dead, .dead, .dead, .dead, .dead, .dead, .dead, .dead, .dead, .dead, .dead, .dead, .dead, .dead, .dead, .dead, .dead, .dead, .dead, .dead, .dead, .dead, .dead, .dead, .dead, .dead, .dead, .dead, .dead, .dead, .dead, .dead, .dead, .dead, .dead, .dead, .dead, .dead, .dead], ob⟩
@[simp] theorem keep14x14 : E.keep 14 14 = some [1, 3, 4, 6] := rfl
@[simp] theorem nrm14x14 : E.nrm 14 14 = [] := rfl
@[simp] def I_spec_PrintIr_1 (s1 s3 s4 s6 : S) (ob : List (Nat × O)) : F := ⟨[.dead, s1, .dead, s3, s4, .dead, s6, .dead, .dead, .dead, .dead, .dead, .dead, .dead, .dead, .dead, .dead, .dead, .dead, .dead, .dead, .dead, .dead, .dead, .dead, .dead, .dead, .dead, .dead, .dead, .dead, .dead, .dead, .dead, .dead, .dead, .dead, .dead, .dead, .dead, .dead, .dead, .dead, .dead, .dead, .dead, .dead, .dead, .dead, .dead, .dead, .dead, .dead, .dead, .dead, .dead, .dead, .dead, .dead, .dead, .dead, .dead, .dead, .dead, .dead, .dead, .dead, .dead, .dead], ob⟩
@[simp] theorem ext15 : E.ext 15 = some extSplit := rfl
@[simp] theorem un15 : E.un 15 = [] := rfl
@[simp] theorem nrmX15 : E.nrmX 15 = [] := rfl
@[simp] theorem gho15 (id : Nat) : E.gho 15 id = false := rfl
@[simp] theorem trim15 (id : Nat) : E.trim 15 id = none := rfl
@[simp] theorem how15x0 : E.how 15 0 = 0 := rfl
@[simp] theorem how15x1 : E.how 15 1 = 0 := rfl
@[simp] theorem ext16 : E.ext 16 = some extCutPrefix := rfl
@[simp] theorem un16 : E.un 16 = [] := rfl
@[simp] theorem nrmX16 : E.nrmX 16 = [] := rfl
@[simp] theorem gho16 (id : Nat) : E.gho 16 id = false := rfl
@[simp] theorem trim16 (id : Nat) : E.trim 16 id = none := rfl
@[simp] theorem how16x0 : E.how 16 0 = 0 := rfl
@[simp] theorem how16x1 : E.how 16 1 = 0 := rfl
@[simp] theorem ext17 : E.ext 17 = none := rfl
@[simp] theorem un17 : E.un 17 = [] := rfl
@[simp] theorem nrmX17 : E.nrmX 17 = [] := rfl
@[simp] theorem gho17 (id : Nat) : E.gho 17 id = false := rfl
@[simp] theorem trim17 (id : Nat) : E.trim 17 id = none := rfl
@[simp] theorem how17x0 : E.how 17 0 = 0 := rfl
@[simp] theorem how17x1 : E.how 17 1 = 0 := rfl
@[simp] theorem ext18 : E.ext 18 = some extContains := rfl
@[simp] theorem un18 : E.un 18 = [] := rfl
@[simp] theorem nrmX18 : E.nrmX 18 = [] := rfl
@[simp] theorem gho18 (id : Nat) : E.gho 18 id = false := rfl
@[simp] theorem trim18 (id : Nat) : E.trim 18 id = none := rfl
@[simp] theorem how18x0 : E.how 18 0 = 0 := rfl
@[simp] theorem how18x1 : E.how 18 1 = 0 := rfl
@[simp] theorem ext19 : E.ext 19 = some extHasSuffix := rfl
@[simp] theorem un19 : E.un 19 = [] := rfl
@[simp] theorem nrmX19 : E.nrmX 19 = [] := rfl
@[simp] theorem gho19 (id : Nat) : E.gho 19 id = false := rfl
@[simp] theorem trim19 (id : Nat) : E.trim 19 id = none := rfl
@[simp] theorem how19x0 : E.how 19 0 = 0 := rfl
@[simp] theorem how19x1 : E.how 19 1 = 0 := rfl
@[simp] theorem ext20 : E.ext 20 = none := rfl
@[simp] theorem un20 : E.un 20 = [] := rfl
@[simp] theorem nrmX20 : E.nrmX 20 = [(2, shOp)] := rfl
@[simp] theorem gho20 (id : Nat) : E.gho 20 id = false := rfl
@[simp] theorem trim20x0 : E.trim 20 0 = none := rfl
@[simp] theorem trim20x1 : E.trim 20 1 = none := rfl
@[simp] theorem trim20x2 : E.trim 20 2 = none := rfl
@[simp] theorem trim20x3 : E.trim 20 3 = none := rfl
@[simp] theorem trim20x4 : E.trim 20 4 = none := rfl
@[simp] theorem trim20x5 : E.trim 20 5 = none := rfl
@[simp] theorem trim20x6 : E.trim 20 6 = none := rfl
@[simp] theorem trim20x7 : E.trim 20 7 = none := rfl
@[simp] theorem trim20x8 : E.trim 20 8 = none := rfl
@[simp] theorem trim20x9 : E.trim 20 9 = none := rfl
@[simp] theorem trim20x10 : E.trim 20 10 = none := rfl
@[simp] theorem trim20x11 : E.trim 20 11 = none := rfl
@[simp] theorem trim20x12 : E.trim 20 12 = some [0, 2, 5, 7] := rfl
@[simp] def J_impl_opOf_12 (s0 s2 s5 s7 : S) (ob : List (Nat × O)) : F := ⟨[s0, .dead, s2, .dead, .dead, s5, .dead, s7, .dead, .dead, .dead, .dead, .dead, .dead, .dead, .dead, .dead, .dead, .dead, .dead, .dead, .dead, .dead, .dead, .dead, .dead, .dead, .dead, .dead, .dead, .dead, .dead, .dead, .dead, .dead, .dead, .dead, .dead, .dead, .dead, .dead, .dead, .dead, .dead, .dead, .dead, .dead, .dead, .dead, .dead, .dead, .dead, .dead, .dead, .dead, .dead, .dead, .dead, .dead, .dead, .dead, .dead, .dead, .dead, .dead, .dead, .dead, .dead, .dead, .dead, .dead, .dead, .dead, .dead, .dead, .dead, .dead, .dead, .dead, .dead, .dead, .dead, .dead, .dead, .dead, .dead, .dead, .dead, .dead, .dead, .dead, .dead, .dead, .dead, .dead, .dead, .dead, .dead, .dead, .dead, .dead, .dead, .dead, .dead, .dead, .dead, .dead], ob⟩
@[simp] theorem trim20x13 : E.trim 20 13 = none := rfl
@[simp] theorem trim20x14 : E.trim 20 14 = none := rfl
@[simp] theorem trim20x15 : E.trim 20 15 = none := rfl
@[simp] theorem trim20x16 : E.trim 20 16 = none := rfl
@[simp] theorem trim20x18 : E.trim 20 18 = none := rfl
@[simp] theorem trim20x19 : E.trim 20 19 = none := rfl
@[simp] theorem trim20x20 : E.trim 20 20 = none := rfl
@[simp] theorem trim20x21 : E.trim 20 21 = none := rfl
@[simp] theorem trim20x22 : E.trim 20 22 = none := rfl
@[simp] theorem trim20x23 : E.trim 20 23 = none := rfl
@[simp] theorem trim20x24 : E.trim 20 24 = none := rfl
@[simp] theorem trim20x25 : E.trim 20 25 = none := rfl
@[simp] theorem trim20x26 : E.trim 20 26 = none := rfl
@[simp] theorem trim20x27 : E.trim 20 27 = none := rfl
@[simp] theorem trim20x28 : E.trim 20 28 = none := rfl
@[simp] theorem trim20x29 : E.trim 20 29 = none := rfl
@[simp] theorem trim20x30 : E.trim 20 30 = none := rfl
@[simp] theorem trim20x31 : E.trim 20 31 = none := rfl
@[simp] theorem trim20x17 : E.trim 20 17 = none := rfl
@[simp] theorem trim20x32 : E.trim 20 32 = none := rfl
@[simp] theorem trim20x33 : E.trim 20 33 = none := rfl
@[simp] theorem trim20x34 : E.trim 20 34 = none := rfl
@[simp] theorem how20x0 : E.how 20 0 = 0 := rfl
@[simp] theorem keep20x14 : E.keep 20 14 = some [2, 5, 7, 8, 40, 41, 42] := rfl
@[simp] theorem nrm20x14 : E.nrm 20 14 = [] := rfl
@[simp] def I_impl_opOf_0 (s2 s5 s7 s8 s40 s41 s42 : S) (ob : List (Nat × O)) : F := ⟨[.dead, .dead, s2, .dead, .dead, s5, .dead, s7, s8, .dead, .dead, .dead, .dead, .dead, .dead, .dead, .dead, .dead, .dead, .dead, .dead, .dead, .dead, .dead, .dead, .dead, .dead, .dead, .dead, .dead, .dead, .dead, .dead, .dead, .dead, .dead, .dead, .dead, .dead, .dead, s40, s41, s42, .dead, .dead, .dead, .dead, .dead, .dead, .dead, .dead, .dead, .dead, .dead, .dead, .dead, .dead, .dead, .dead, .dead, .dead, .dead, .dead, .dead, .dead, .dead, .dead, .dead, .dead, .dead, .dead, .dead, .dead, .dead, .dead, .dead, .dead, .dead, .dead, .dead, .dead, .dead, .dead, .dead, .dead, .dead, .dead, .dead, .dead, .dead, .dead, .dead, .dead, .dead, .dead, .dead, .dead, .dead, .dead, .dead, .dead, .dead, .dead, .dead, .dead, .dead, .dead], ob⟩
@[simp] theorem ext21 : E.ext 21 = none := rfl
@[simp] theorem un21 : E.un 21 = [(0, 0, 1)] := rfl
@[simp] theorem nrmX21 : E.nrmX 21 = [] := rfl
@[simp] theorem gho21x0 : E.gho 21 0 = false := rfl
@[simp] theorem gho21x1 : E.gho 21 1 = false := rfl
@[simp] theorem gho21x2 : E.gho 21 2 = false := rfl
@[simp] theorem gho21x3 : E.gho 21 3 = false := rfl
@[simp] theorem gho21x4 : E.gho 21 4 = false := rfl
@[simp] theorem gho21x5 : E.gho 21 5 = false := rfl
@[simp] theorem gho21x6 : E.gho 21 6 = false := rfl
@[simp] theorem gho21x7 : E.gho 21 7 = false := rfl
@[simp] theorem gho21x8 : E.gho 21 8 = false := rfl
@[simp] theorem gho21x9 : E.gho 21 9 = false := rfl
@[simp] theorem gho21x10 : E.gho 21 10 = false := rfl
@[simp] theorem gho21x11 : E.gho 21 11 = false := rfl
@[simp] theorem gho21x12 : E.gho 21 12 = false := rfl
@[simp] theorem gho21x13 : E.gho 21 13 = false := rfl
@[simp] theorem gho21x14 : E.gho 21 14 = false := rfl
@[simp] theorem gho21x15 : E.gho 21 15 = false := rfl
@[simp] theorem gho21x16 : E.gho 21 16 = false := rfl
@[simp] theorem gho21x17 : E.gho 21 17 = false := rfl
@[simp] theorem gho21x18 : E.gho 21 18 = false := rfl
@[simp] theorem gho21x19 : E.gho 21 19 = false := rfl
@[simp] theorem gho21x20 : E.gho 21 20 = true := rfl
@[simp] theorem gho21x21 : E.gho 21 21 = false := rfl
@[simp] theorem gho21x22 : E.gho 21 22 = false := rfl
@[simp] theorem gho21x23 : E.gho 21 23 = false := rfl
@[simp] theorem trim21x0 : E.trim 21 0 = none := rfl
@[simp] theorem trim21x1 : E.trim 21 1 = none := rfl
@[simp] theorem trim21x2 : E.trim 21 2 = none := rfl
@[simp] theorem trim21x3 : E.trim 21 3 = none := rfl
@[simp] theorem trim21x4 : E.trim 21 4 = none := rfl
@[simp] theorem trim21x5 : E.trim 21 5 = none := rfl
@[simp] theorem trim21x6 : E.trim 21 6 = none := rfl
@[simp] theorem trim21x7 : E.trim 21 7 = none := rfl
@[simp] theorem trim21x8 : E.trim 21 8 = none := rfl
@[simp] theorem trim21x9 : E.trim 21 9 = some [0, 1, 2, 3, 7, 8, 13, 14] := rfl
@[simp] def J_impl_laid_9 (s0 s1 s2 s3 s7 s8 s13 s14 : S) (ob : List (Nat × O)) : F := ⟨[s0, s1, s2, s3, .dead, .dead, .dead, s7, s8, .dead, .dead, .dead, .dead, s13, s14, .dead, .dead, .dead, .dead, .dead, .dead, .dead, .dead, .dead, .dead, .dead, .dead, .dead, .dead, .dead, .dead, .dead, .dead, .dead, .dead, .dead, .dead, .dead, .dead, .dead, .dead, .dead, .dead, .dead, .dead, .dead, .dead, .dead, .dead, .dead, .dead, .dead, .dead, .dead, .dead, .dead, .dead, .dead, .dead, .dead, .dead, .dead, .dead, .dead, .dead, .dead, .dead, .dead, .dead, .dead, .dead, .dead, .dead, .dead, .dead, .dead, .dead, .dead, .dead, .dead, .dead, .dead, .dead, .dead, .dead, .dead, .dead, .dead, .dead, .dead, .dead, .dead, .dead, .dead, .dead, .dead, .dead, .dead, .dead, .dead, .dead, .dead, .dead, .dead, .dead, .dead, .dead, .dead, .dead, .dead, .dead, .dead, .dead, .dead, .dead, .dead, .dead, .dead, .dead, .dead, .dead, .dead, .dead, .dead, .dead, .dead, .dead, .dead, .dead, .dead, .dead, .dead], ob⟩
@[simp] theorem trim21x10 : E.trim 21 10 = none := rfl
@[simp] theorem trim21x11 : E.trim 21 11 = none := rfl
@[simp] theorem trim21x12 : E.trim 21 12 = none := rfl
@[simp] theorem trim21x13 : E.trim 21 13 = none := rfl
@[simp] theorem trim21x14 : E.trim 21 14 = none := rfl
@[simp] theorem trim21x15 : E.trim 21 15 = none := rfl
@[simp] theorem trim21x16 : E.trim 21 16 = none := rfl
@[simp] theorem trim21x17 : E.trim 21 17 = some [0, 1, 2, 3, 7, 8, 9, 10, 13, 14, 44, 45] := rfl
@[simp] def J_impl_laid_17 (s0 s1 s2 s3 s7 s8 s9 s10 s13 s14 s44 s45 : S) (ob : List (Nat × O)) : F := ⟨[s0, s1, s2, s3, .dead, .dead, .dead, s7, s8, s9, s10, .dead, .dead, s13, s14, .dead, .dead, .dead, .dead, .dead, .dead, .dead, .dead, .dead, .dead, .dead, .dead, .dead, .dead, .dead, .dead, .dead, .dead, .dead, .dead, .dead, .dead, .dead, .dead, .dead, .dead, .dead, .dead, .dead, s44, s45, .dead, .dead, .dead, .dead, .dead, .dead, .dead, .dead, .dead, .dead, .dead, .dead, .dead, .dead, .dead, .dead, .dead, .dead, .dead, .dead, .dead, .dead, .dead, .dead, .dead, .dead, .dead, .dead, .dead, .dead, .dead, .dead, .dead, .dead, .dead, .dead, .dead, .dead, .dead, .dead, .dead, .dead, .dead, .dead, .dead, .dead, .dead, .dead, .dead, .dead, .dead, .dead, .dead, .dead, .dead, .dead, .dead, .dead, .dead, .dead, .dead, .dead, .dead, .dead, .dead, .dead, .dead, .dead, .dead, .dead, .dead, .dead, .dead, .dead, .dead, .dead, .dead, .dead, .dead, .dead, .dead, .dead, .dead, .dead, .dead, .dead], ob⟩
@[simp] theorem trim21x18 : E.trim 21 18 = none := rfl
@[simp] theorem trim21x19 : E.trim 21 19 = none := rfl
@[simp] theorem trim21x20 : E.trim 21 20 = none := rfl
@[simp] theorem trim21x21 : E.trim 21 21 = none := rfl
@[simp] theorem trim21x22 : E.trim 21 22 = none := rfl
@[simp] theorem trim21x23 : E.trim 21 23 = none := rfl
@[simp] theorem how21x0 : E.how 21 0 = 1 := rfl
@[simp] theorem how21x1 : E.how 21 1 = 0 := rfl
@[simp] theorem how21x2 : E.how 21 2 = 0 := rfl
@[simp] theorem keep21x2 : E.keep 21 2 = some [0, 1, 2, 3, 13, 14] := rfl
@[simp] theorem nrm21x2 : E.nrm 21 2 = [(3, [.sl 3 shMod])] := rfl
@[simp] def I_impl_laid_0 (s0 s1 s2 s3 s13 s14 : S) (ob : List (Nat × O)) : F := ⟨[s0, s1, s2, s3, .dead, .dead, .dead, .dead, .dead, .dead, .dead, .dead, .dead, s13, s14, .dead, .dead, .dead, .dead, .dead, .dead, .dead, .dead, .dead, .dead, .dead, .dead, .dead, .dead, .dead, .dead, .dead, .dead, .dead, .dead, .dead, .dead, .dead, .dead, .dead, .dead, .dead, .dead, .dead, .dead, .dead, .dead, .dead, .dead, .dead, .dead, .dead, .dead, .dead, .dead, .dead, .dead, .dead, .dead, .dead, .dead, .dead, .dead, .dead, .dead, .dead, .dead, .dead, .dead, .dead, .dead, .dead, .dead, .dead, .dead, .dead, .dead, .dead, .dead, .dead, .dead, .dead, .dead, .dead, .dead, .dead, .dead, .dead, .dead, .dead, .dead, .dead, .dead, .dead, .dead, .dead, .dead, .dead, .dead, .dead, .dead, .dead, .dead, .dead, .dead, .dead, .dead, .dead, .dead, .dead, .dead, .dead, .dead, .dead, .dead, .dead, .dead, .dead, .dead, .dead, .dead, .dead, .dead, .dead, .dead, .dead, .dead, .dead, .dead, .dead, .dead, .dead], ob⟩
@[simp] theorem keep21x10 : E.keep 21 10 = some [0, 1, 2, 3, 7, 8, 13, 14, 44, 45] := rfl
@[simp] theorem nrm21x10 : E.nrm 21 10 = [(3, [.sl 3 shMod])] := rfl
@[simp] def I_impl_laid_1 (s0 s1 s2 s3 s7 s8 s13 s14 s44 s45 : S) (ob : List (Nat × O)) : F := ⟨[s0, s1, s2, s3, .dead, .dead, .dead, s7, s8, .dead, .dead, .dead, .dead, s13, s14, .dead, .dead, .dead, .dead, .dead, .dead, .dead, .dead, .dead, .dead, .dead, .dead, .dead, .dead, .dead, .dead, .dead, .dead, .dead, .dead, .dead, .dead, .dead, .dead, .dead, .dead, .dead, .dead, .dead, s44, s45, .dead, .dead, .dead, .dead, .dead, .dead, .dead, .dead, .dead, .dead, .dead, .dead, .dead, .dead, .dead, .dead, .dead, .dead, .dead, .dead, .dead, .dead, .dead, .dead, .dead, .dead, .dead, .dead, .dead, .dead, .dead, .dead, .dead, .dead, .dead, .dead, .dead, .dead, .dead, .dead, .dead, .dead, .dead, .dead, .dead, .dead, .dead, .dead, .dead, .dead, .dead, .dead, .dead, .dead, .dead, .dead, .dead, .dead, .dead, .dead, .dead, .dead, .dead, .dead, .dead, .dead, .dead, .dead, .dead, .dead, .dead, .dead, .dead, .dead, .dead, .dead, .dead, .dead, .dead, .dead, .dead, .dead, .dead, .dead, .dead, .dead], ob⟩
@[simp] theorem ext22 : E.ext 22 = none := rfl
@[simp] theorem un22 : E.un 22 = [] := rfl
@[simp] theorem nrmX22 : E.nrmX 22 = [] := rfl
@[simp] theorem gho22 (id : Nat) : E.gho 22 id = false := rfl
@[simp] theorem trim22x0 : E.trim 22 0 = none := rfl
@[simp] theorem trim22x1 : E.trim 22 1 = none := rfl
@[simp] theorem trim22x2 : E.trim 22 2 = none := rfl
@[simp] theorem trim22x3 : E.trim 22 3 = none := rfl
@[simp] theorem trim22x4 : E.trim 22 4 = none := rfl
@[simp] theorem trim22x5 : E.trim 22 5 = none := rfl
@[simp] theorem trim22x6 : E.trim 22 6 = none := rfl
@[simp] theorem trim22x7 : E.trim 22 7 = none := rfl
@[simp] theorem trim22x8 : E.trim 22 8 = none := rfl
@[simp] theorem trim22x9 : E.trim 22 9 = none := rfl
@[simp] theorem trim22x10 : E.trim 22 10 = some [3, 5, 6, 13, 14, 15] := rfl
@[simp] def J_impl_PrintIr_10 (s3 s5 s6 s13 s14 s15 : S) (ob : List (Nat × O)) : F := ⟨[.dead, .dead, .dead, s3, .dead, s5, s6, .dead, .dead, .dead, .dead, .dead, .dead, s13, s14, s15, .dead, .dead, .dead, .dead, .dead, .dead, .dead, .dead, .dead, .dead, .dead, .dead, .dead, .dead, .dead, .dead, .dead, .dead, .dead, .dead, .dead, .dead, .dead, .dead, .dead, .dead, .dead, .dead, .dead, .dead, .dead, .dead, .dead, .dead, .dead, .dead, .dead, .dead, .dead], ob⟩
@[simp] theorem trim22x11 : E.trim 22 11 = none := rfl
@[simp] theorem trim22x12 : E.trim 22 12 = some [3, 5, 6, 13, 14, 15] := rfl
@[simp] def J_impl_PrintIr_12 (s3 s5 s6 s13 s14 s15 : S) (ob : List (Nat × O)) : F := ⟨[.dead, .dead, .dead, s3, .dead, s5, s6, .dead, .dead, .dead, .dead, .dead, .dead, s13, s14, s15, .dead, .dead, .dead, .dead, .dead, .dead, .dead, .dead, .dead, .dead, .dead, .dead, .dead, .dead, .dead, .dead, .dead, .dead, .dead, .dead, .dead, .dead, .dead, .dead, .dead, .dead, .dead, .dead, .dead, .dead, .dead, .dead, .dead, .dead, .dead, .dead, .dead, .dead, .dead], ob⟩
@[simp] theorem trim22x13 : E.trim 22 13 = none := rfl
@[simp] theorem trim22x14 : E.trim 22 14 = none := rfl
@[simp] theorem trim22x15 : E.trim 22 15 = none := rfl
@[simp] theorem trim22x16 : E.trim 22 16 = none := rfl
@[simp] theorem trim22x17 : E.trim 22 17 = none := rfl
@[simp] theorem trim22x18 : E.trim 22 18 = none := rfl
@[simp] theorem trim22x19 : E.trim 22 19 = none := rfl
@[simp] theorem how22x0 : E.how 22 0 = 0 := rfl
@[simp] theorem keep22x5 : E.keep 22 5 = some [3, 13, 14, 15] := rfl
@[simp] theorem nrm22x5 : E.nrm 22 5 = [] := rfl
@[simp] def I_impl_PrintIr_0 (s3 s13 s14 s15 : S) (ob : List (Nat × O)) : F := ⟨[.dead, .dead, .dead, s3, .dead, .dead, .dead, .dead, .dead, .dead, .dead, .dead, .dead, s13, s14, s15, .dead, .dead, .dead, .dead, .dead, .dead, .dead, .dead, .dead, .dead, .dead, .dead, .dead, .dead, .dead, .dead, .dead, .dead, .dead, .dead, .dead, .dead, .dead, .dead, .dead, .dead, .dead, .dead, .dead, .dead, .dead, .dead, .dead, .dead, .dead, .dead, .dead, .dead, .dead], ob⟩
@[simp] theorem keep22x14 : E.keep 22 14 = some [3, 13, 14, 15, 38, 39, 40] := rfl
@[simp] theorem nrm22x14 : E.nrm 22 14 = [] := rfl
@[simp] def I_impl_PrintIr_1 (s3 s13 s14 s15 s38 s39 s40 : S) (ob : List (Nat × O)) : F := ⟨[.dead, .dead, .dead, s3, .dead, .dead, .dead, .dead, .dead, .dead, .dead, .dead, .dead, s13, s14, s15, .dead, .dead, .dead, .dead, .dead, .dead, .dead, .dead, .dead, .dead, .dead, .dead, .dead, .dead, .dead, .dead, .dead, .dead, .dead, .dead, .dead, .dead, s38, s39, s40, .dead, .dead, .dead, .dead, .dead, .dead, .dead, .dead, .dead, .dead, .dead, .dead, .dead, .dead], ob⟩
@[simp] theorem ext23 : E.ext 23 = none := rfl
@[simp] theorem un23 : E.un 23 = [] := rfl
@[simp] theorem nrmX23 : E.nrmX 23 = [] := rfl
@[simp] theorem gho23 (id : Nat) : E.gho 23 id = false := rfl
@[simp] theorem trim23 (id : Nat) : E.trim 23 id = none := rfl
@[simp] theorem how23x0 : E.how 23 0 = 0 := rfl
@[simp] theorem how23x1 : E.how 23 1 = 0 := rfl
@[simp] theorem keep23x4 : E.keep 23 4 = some [0, 1, 5] := rfl
@[simp] theorem nrm23x4 : E.nrm 23 4 = [] := rfl
@[simp] def I_laws_eqModS_0 (s0 s1 s5 : S) (ob : List (Nat × O)) : F := ⟨[s0, s1, .dead, .dead, .dead, s5, .dead, .dead, .dead, .dead, .dead, .dead, .dead, .dead, .dead, .dead, .dead, .dead, .dead, .dead, .dead, .dead, .dead, .dead, .dead, .dead, .dead], ob⟩
@[simp] theorem ext24 : E.ext 24 = none := rfl
@[simp] theorem un24 : E.un 24 = [] := rfl
@[simp] theorem nrmX24 : E.nrmX 24 = [] := rfl
@[simp] theorem gho24 (id : Nat) : E.gho 24 id = false := rfl
@[simp] theorem trim24x0 : E.trim 24 0 = none := rfl
@[simp] theorem trim24x1 : E.trim 24 1 = none := rfl
@[simp] theorem trim24x2 : E.trim 24 2 = none := rfl
@[simp] theorem trim24x4 : E.trim 24 4 = none := rfl
@[simp] theorem trim24x5 : E.trim 24 5 = some [0, 1, 5] := rfl
@[simp] theorem trim24x6 : E.trim 24 6 = some [0, 1, 5] := rfl
@[simp] theorem trim24x7 : E.trim 24 7 = none := rfl
@[simp] theorem trim24x3 : E.trim 24 3 = none := rfl
@[simp] theorem trim24x8 : E.trim 24 8 = none := rfl
@[simp] theorem how24x0 : E.how 24 0 = 1 := rfl
@[simp] theorem how24x1 : E.how 24 1 = 0 := rfl
@[simp] theorem keep24x2 : E.keep 24 2 = some [0, 1, 5] := rfl
@[simp] theorem nrm24x2 : E.nrm 24 2 = [(0, [.sl 3 [.sl 9 [.any, .any, .any, .any, .any, .sl 1 [.any], .any, .any, .sl 9 [.any]], .sl 1 [.any], .any]])] := rfl
@[simp] def I_laws_markModS_0 (s0 s1 s5 : S) (ob : List (Nat × O)) : F := ⟨[s0, s1, .dead, .dead, .dead, s5, .dead, .dead, .dead, .dead, .dead, .dead, .dead, .dead, .dead, .dead, .dead, .dead, .dead, .dead, .dead, .dead, .dead, .dead, .dead, .dead, .dead, .dead, .dead, .dead, .dead, .dead, .dead, .dead, .dead, .dead], ob⟩
@[simp] theorem ext25 : E.ext 25 = none := rfl
@[simp] theorem un25 : E.un 25 = [] := rfl
@[simp] theorem nrmX25 : E.nrmX 25 = [] := rfl
@[simp] theorem gho25 (id : Nat) : E.gho 25 id = false := rfl
@[simp] theorem trim25 (id : Nat) : E.trim 25 id = none := rfl
@[simp] theorem how25x0 : E.how 25 0 = 0 := rfl
@[simp] theorem how25x1 : E.how 25 1 = 0 := rfl
@[simp] theorem keep25x2 : E.keep 25 2 = some [0, 1, 5] := rfl
@[simp] theorem nrm25x2 : E.nrm 25 2 = [] := rfl
@[simp] def I_laws_heldModS_0 (s0 s1 s5 : S) (ob : List (Nat × O)) : F := ⟨[s0, s1, .dead, .dead, .dead, s5, .dead, .dead, .dead, .dead, .dead, .dead, .dead, .dead, .dead, .dead, .dead, .dead, .dead, .dead, .dead, .dead, .dead, .dead, .dead, .dead, .dead, .dead, .dead, .dead, .dead, .dead, .dead, .dead, .dead, .dead, .dead, .dead, .dead, .dead, .dead, .dead], ob⟩
@[simp] theorem ext26 : E.ext 26 = none := rfl
@[simp] theorem un26 : E.un 26 = [] := rfl
@[simp] theorem nrmX26 : E.nrmX 26 = [] := rfl
@[simp] theorem gho26 (id : Nat) : E.gho 26 id = false := rfl
@[simp] theorem trim26 (id : Nat) : E.trim 26 id = none := rfl
@[simp] theorem how26x0 : E.how 26 0 = 0 := rfl
@[simp] theorem keep26x8 : E.keep 26 8 = some [0, 4, 5, 6] := rfl
@[simp] theorem nrm26x8 : E.nrm 26 8 = [] := rfl
@[simp] def I_spec_l8Number_0 (s0 s4 s5 s6 : S) (ob : List (Nat × O)) : F := ⟨[s0, .dead, .dead, .dead, s4, s5, s6, .dead, .dead, .dead, .dead, .dead, .dead, .dead, .dead, .dead, .dead, .dead, .dead, .dead, .dead, .dead, .dead, .dead, .dead, .dead, .dead, .dead, .dead, .dead, .dead, .dead, .dead, .dead, .dead, .dead, .dead, .dead, .dead, .dead, .dead, .dead, .dead, .dead, .dead, .dead, .dead, .dead, .dead, .dead, .dead, .dead], ob⟩
@[simp] theorem ext27 : E.ext 27 = none := rfl
@[simp] theorem un27 : E.un 27 = [] := rfl
@[simp] theorem nrmX27 : E.nrmX 27 = [] := rfl
@[simp] theorem gho27 (id : Nat) : E.gho 27 id = false := rfl
@[simp] theorem trim27 (id : Nat) : E.trim 27 id = none := rfl
@[simp] theorem how27x0 : E.how 27 0 = 0 := rfl
@[simp] theorem ext28 : E.ext 28 = none := rfl
@[simp] theorem un28 : E.un 28 = [] := rfl
@[simp] theorem nrmX28 : E.nrmX 28 = [] := rfl
@[simp] theorem gho28 (id : Nat) : E.gho 28 id = false := rfl
@[simp] theorem trim28 (id : Nat) : E.trim 28 id = none := rfl
@[simp] theorem how28x0 : E.how 28 0 = 0 := rfl
@[simp] theorem how28x1 : E.how 28 1 = 0 := rfl
@[simp] theorem ext29 : E.ext 29 = none := rfl
@[simp] theorem un29 : E.un 29 = [] := rfl
@[simp] theorem nrmX29 : E.nrmX 29 = [] := rfl
@[simp] theorem gho29 (id : Nat) : E.gho 29 id = false := rfl
@[simp] theorem trim29 (id : Nat) : E.trim 29 id = none := rfl
@[simp] theorem how29x0 : E.how 29 0 = 0 := rfl
@[simp] theorem how29x1 : E.how 29 1 = 0 := rfl
@[simp] theorem ext30 : E.ext 30 = none := rfl
@[simp] theorem un30 : E.un 30 = [] := rfl
@[simp] theorem nrmX30 : E.nrmX 30 = [] := rfl
@[simp] theorem gho30 (id : Nat) : E.gho 30 id = false := rfl
@[simp] theorem trim30 (id : Nat) : E.trim 30 id = none := rfl
@[simp] theorem how30x0 : E.how 30 0 = 0 := rfl
@[simp] theorem how30x1 : E.how 30 1 = 0 := rfl
@[simp] theorem ext31 : E.ext 31 = none := rfl
@[simp] theorem un31 : E.un 31 = [] := rfl
@[simp] theorem nrmX31 : E.nrmX 31 = [] := rfl
@[simp] theorem gho31 (id : Nat) : E.gho 31 id = false := rfl
@[simp] theorem trim31 (id : Nat) : E.trim 31 id = none := rfl
@[simp] theorem how31x0 : E.how 31 0 = 0 := rfl
@[simp] theorem ext32 : E.ext 32 = none := rfl
@[simp] theorem un32 : E.un 32 = [] := rfl
@[simp] theorem nrmX32 : E.nrmX 32 = [] := rfl
@[simp] theorem gho32 (id : Nat) : E.gho 32 id = false := rfl
@[simp] theorem trim32 (id : Nat) : E.trim 32 id = none := rfl
@[simp] theorem how32x0 : E.how 32 0 = 0 := rfl
@[simp] theorem how32x1 : E.how 32 1 = 0 := rfl
@[simp] theorem how32x2 : E.how 32 2 = 0 := rfl
@[simp] theorem ext33 : E.ext 33 = none := rfl
@[simp] theorem un33 : E.un 33 = [] := rfl
@[simp] theorem nrmX33 : E.nrmX 33 = [] := rfl
@[simp] theorem gho33 (id : Nat) : E.gho 33 id = false := rfl
@[simp] theorem trim33 (id : Nat) : E.trim 33 id = none := rfl
@[simp] theorem how33x0 : E.how 33 0 = 0 := rfl
@[simp] theorem ext34 : E.ext 34 = none := rfl
@[simp] theorem un34 : E.un 34 = [] := rfl
@[simp] theorem nrmX34 : E.nrmX 34 = [] := rfl
@[simp] theorem gho34 (id : Nat) : E.gho 34 id = false := rfl
@[simp] theorem trim34 (id : Nat) : E.trim 34 id = none := rfl
@[simp] theorem how34x0 : E.how 34 0 = 0 := rfl
@[simp] theorem keep34x6 : E.keep 34 6 = some [1, 3, 4, 5] := rfl
@[simp] theorem nrm34x6 : E.nrm 34 6 = [] := rfl
@[simp] def I_spec_l9Jumps_0 (s1 s3 s4 s5 : S) (ob : List (Nat × O)) : F := ⟨[.dead, s1, .dead, s3, s4, s5, .dead, .dead, .dead, .dead, .dead, .dead, .dead, .dead, .dead, .dead, .dead, .dead, .dead, .dead, .dead, .dead, .dead, .dead, .dead, .dead, .dead, .dead, .dead, .dead, .dead, .dead, .dead, .dead, .dead, .dead, .dead, .dead, .dead, .dead, .dead, .dead, .dead, .dead, .dead, .dead, .dead, .dead, .dead, .dead, .dead, .dead, .dead, .dead, .dead], ob⟩
@[simp] theorem keep34x10 : E.keep 34 10 = some [1, 3, 4, 5, 6, 7] := rfl
@[simp] theorem nrm34x10 : E.nrm 34 10 = [] := rfl
@[simp] def I_spec_l9Jumps_1 (s1 s3 s4 s5 s6 s7 : S) (ob : List (Nat × O)) : F := ⟨[.dead, s1, .dead, s3, s4, s5, s6, s7, .dead, .dead, .dead, .dead, .dead, .dead, .dead, .dead, .dead, .dead, .dead, .dead, .dead, .dead, .dead, .dead, .dead, .dead, .dead, .dead, .dead, .dead, .dead, .dead, .dead, .dead, .dead, .dead, .dead, .dead, .dead, .dead, .dead, .dead, .dead, .dead, .dead, .dead, .dead, .dead, .dead, .dead, .dead, .dead, .dead, .dead, .dead], ob⟩
@[simp] theorem ext35 : E.ext 35 = none := rfl
@[simp] theorem un35 : E.un 35 = [] := rfl
@[simp] theorem nrmX35 : E.nrmX 35 = [] := rfl
@[simp] theorem gho35 (id : Nat) : E.gho 35 id = false := rfl
@[simp] theorem trim35x0 : E.trim 35 0 = none := rfl
@[simp] theorem trim35x1 : E.trim 35 1 = none := rfl
@[simp] theorem trim35x2 : E.trim 35 2 = none := rfl
@[simp] theorem trim35x3 : E.trim 35 3 = none := rfl
@[simp] theorem trim35x4 : E.trim 35 4 = none := rfl
@[simp] theorem trim35x5 : E.trim 35 5 = some [2, 3, 4, 7, 8] := rfl
@[simp] def J_spec_l9OpOk_5 (s2 s3 s4 s7 s8 : S) (ob : List (Nat × O)) : F := ⟨[.dead, .dead, s2, s3, s4, .dead, .dead, s7, s8, .dead, .dead, .dead, .dead, .dead, .dead, .dead, .dead, .dead, .dead, .dead, .dead, .dead, .dead, .dead, .dead, .dead, .dead, .dead, .dead, .dead, .dead, .dead, .dead, .dead, .dead, .dead, .dead, .dead, .dead, .dead, .dead, .dead, .dead, .dead, .dead, .dead, .dead, .dead, .dead, .dead, .dead, .dead, .dead, .dead, .dead, .dead, .dead, .dead, .dead, .dead, .dead, .dead, .dead, .dead, .dead, .dead, .dead, .dead, .dead, .dead, .dead, .dead, .dead, .dead, .dead, .dead, .dead, .dead, .dead, .dead, .dead, .dead, .dead, .dead, .dead, .dead, .dead, .dead, .dead, .dead, .dead, .dead, .dead, .dead, .dead, .dead, .dead, .dead, .dead, .dead, .dead, .dead, .dead, .dead, .dead, .dead, .dead, .dead, .dead, .dead, .dead, .dead, .dead, .dead, .dead, .dead, .dead, .dead, .dead, .dead, .dead, .dead, .dead, .dead, .dead, .dead, .dead, .dead, .dead, .dead, .dead, .dead, .dead, .dead, .dead, .dead, .dead, .dead, .dead, .dead, .dead, .dead, .dead], ob⟩
@[simp] theorem trim35x6 : E.trim 35 6 = none := rfl
@[simp] theorem trim35x7 : E.trim 35 7 = some [2, 3, 4, 7] := rfl
@[simp] def J_spec_l9OpOk_7 (s2 s3 s4 s7 : S) (ob : List (Nat × O)) : F := ⟨[.dead, .dead, s2, s3, s4, .dead, .dead, s7, .dead, .dead, .dead, .dead, .dead, .dead, .dead, .dead, .dead, .dead, .dead, .dead, .dead, .dead, .dead, .dead, .dead, .dead, .dead, .dead, .dead, .dead, .dead, .dead, .dead, .dead, .dead, .dead, .dead, .dead, .dead, .dead, .dead, .dead, .dead, .dead, .dead, .dead, .dead, .dead, .dead, .dead, .dead, .dead, .dead, .dead, .dead, .dead, .dead, .dead, .dead, .dead, .dead, .dead, .dead, .dead, .dead, .dead, .dead, .dead, .dead, .dead, .dead, .dead, .dead, .dead, .dead, .dead, .dead, .dead, .dead, .dead, .dead, .dead, .dead, .dead, .dead, .dead, .dead, .dead, .dead, .dead, .dead, .dead, .dead, .dead, .dead, .dead, .dead, .dead, .dead, .dead, .dead, .dead, .dead, .dead, .dead, .dead, .dead, .dead, .dead, .dead, .dead, .dead, .dead, .dead, .dead, .dead, .dead, .dead, .dead, .dead, .dead, .dead, .dead, .dead, .dead, .dead, .dead, .dead, .dead, .dead, .dead, .dead, .dead, .dead, .dead, .dead, .dead, .dead, .dead, .dead, .dead, .dead, .dead], ob⟩
@[simp] theorem trim35x8 : E.trim 35 8 = none := rfl
@[simp] theorem trim35x9 : E.trim 35 9 = some [2, 4, 7] := rfl
@[simp] def J_spec_l9OpOk_9 (s2 s4 s7 : S) (ob : List (Nat × O)) : F := ⟨[.dead, .dead, s2, .dead, s4, .dead, .dead, s7, .dead, .dead, .dead, .dead, .dead, .dead, .dead, .dead, .dead, .dead, .dead, .dead, .dead, .dead, .dead, .dead, .dead, .dead, .dead, .dead, .dead, .dead, .dead, .dead, .dead, .dead, .dead, .dead, .dead, .dead, .dead, .dead, .dead, .dead, .dead, .dead, .dead, .dead, .dead, .dead, .dead, .dead, .dead, .dead, .dead, .dead, .dead, .dead, .dead, .dead, .dead, .dead, .dead, .dead, .dead, .dead, .dead, .dead, .dead, .dead, .dead, .dead, .dead, .dead, .dead, .dead, .dead, .dead, .dead, .dead, .dead, .dead, .dead, .dead, .dead, .dead, .dead, .dead, .dead, .dead, .dead, .dead, .dead, .dead, .dead, .dead, .dead, .dead, .dead, .dead, .dead, .dead, .dead, .dead, .dead, .dead, .dead, .dead, .dead, .dead, .dead, .dead, .dead, .dead, .dead, .dead, .dead, .dead, .dead, .dead, .dead, .dead, .dead, .dead, .dead, .dead, .dead, .dead, .dead, .dead, .dead, .dead, .dead, .dead, .dead, .dead, .dead, .dead, .dead, .dead, .dead, .dead, .dead, .dead, .dead], ob⟩
@[simp] theorem trim35x10 : E.trim 35 10 = none := rfl
@[simp] theorem trim35x11 : E.trim 35 11 = none := rfl
@[simp] theorem trim35x12 : E.trim 35 12 = none := rfl
@[simp] theorem trim35x13 : E.trim 35 13 = none := rfl
@[simp] theorem trim35x14 : E.trim 35 14 = none := rfl
@[simp] theorem trim35x16 : E.trim 35 16 = none := rfl
@[simp] theorem trim35x17 : E.trim 35 17 = none := rfl
@[simp] theorem trim35x15 : E.trim 35 15 = none := rfl
@[simp] theorem trim35x18 : E.trim 35 18 = none := rfl
@[simp] theorem how35x0 : E.how 35 0 = 0 := rfl
@[simp] theorem how35x1 : E.how 35 1 = 0 := rfl
@[simp] theorem how35x2 : E.how 35 2 = 0 := rfl
@[simp] theorem keep35x14 : E.keep 35 14 = some [2, 4, 7, 9] := rfl
@[simp] theorem nrm35x14 : E.nrm 35 14 = [] := rfl
@[simp] def I_spec_l9OpOk_0 (s2 s4 s7 s9 : S) (ob : List (Nat × O)) : F := ⟨[.dead, .dead, s2, .dead, s4, .dead, .dead, s7, .dead, s9, .dead, .dead, .dead, .dead, .dead, .dead, .dead, .dead, .dead, .dead, .dead, .dead, .dead, .dead, .dead, .dead, .dead, .dead, .dead, .dead, .dead, .dead, .dead, .dead, .dead, .dead, .dead, .dead, .dead, .dead, .dead, .dead, .dead, .dead, .dead, .dead, .dead, .dead, .dead, .dead, .dead, .dead, .dead, .dead, .dead, .dead, .dead, .dead, .dead, .dead, .dead, .dead, .dead, .dead, .dead, .dead, .dead, .dead, .dead, .dead, .dead, .dead, .dead, .dead, .dead, .dead, .dead, .dead, .dead, .dead, .dead, .dead, .dead, .dead, .dead, .dead, .dead, .dead, .dead, .dead, .dead, .dead, .dead, .dead, .dead, .dead, .dead, .dead, .dead, .dead, .dead, .dead, .dead, .dead, .dead, .dead, .dead, .dead, .dead, .dead, .dead, .dead, .dead, .dead, .dead, .dead, .dead, .dead, .dead, .dead, .dead, .dead, .dead, .dead, .dead, .dead, .dead, .dead, .dead, .dead, .dead, .dead, .dead, .dead, .dead, .dead, .dead, .dead, .dead, .dead, .dead, .dead, .dead], ob⟩
@[simp] theorem ext36 : E.ext 36 = none := rfl
@[simp] theorem un36 : E.un 36 = [] := rfl
@[simp] theorem nrmX36 : E.nrmX 36 = [] := rfl
@[simp] theorem gho36 (id : Nat) : E.gho 36 id = false := rfl
@[simp] theorem trim36 (id : Nat) : E.trim 36 id = none := rfl
@[simp] theorem how36x0 : E.how 36 0 = 0 := rfl
@[simp] theorem keep36x2 : E.keep 36 2 = some [1, 3] := rfl
@[simp] theorem nrm36x2 : E.nrm 36 2 = [] := rfl
@[simp] def I_spec_l9OneofsOk_0 (s1 s3 : S) (ob : List (Nat × O)) : F := ⟨[.dead, s1, .dead, s3, .dead, .dead, .dead, .dead, .dead, .dead, .dead, .dead, .dead, .dead, .dead, .dead, .dead, .dead, .dead, .dead, .dead, .dead, .dead, .dead, .dead, .dead, .dead, .dead, .dead, .dead, .dead, .dead], ob⟩
@[simp] theorem keep36x6 : E.keep 36 6 = some [1, 3, 4, 5] := rfl
@[simp] theorem nrm36x6 : E.nrm 36 6 = [] := rfl
@[simp] def I_spec_l9OneofsOk_1 (s1 s3 s4 s5 : S) (ob : List (Nat × O)) : F := ⟨[.dead, s1, .dead, s3, s4, s5, .dead, .dead, .dead, .dead, .dead, .dead, .dead, .dead, .dead, .dead, .dead, .dead, .dead, .dead, .dead, .dead, .dead, .dead, .dead, .dead, .dead, .dead, .dead, .dead, .dead, .dead], ob⟩
@[simp] theorem ext37 : E.ext 37 = none := rfl
@[simp] theorem un37 : E.un 37 = [] := rfl
@[simp] theorem nrmX37 : E.nrmX 37 = [] := rfl
@[simp] theorem gho37 (id : Nat) : E.gho 37 id = false := rfl
@[simp] theorem trim37 (id : Nat) : E.trim 37 id = none := rfl
@[simp] theorem how37x0 : E.how 37 0 = 0 := rfl
@[simp] theorem how37x1 : E.how 37 1 = 0 := rfl
@[simp] theorem keep37x4 : E.keep 37 4 = some [0, 1, 5] := rfl
@[simp] theorem nrm37x4 : E.nrm 37 4 = [] := rfl
@[simp] def I_spec_l9SameInts_0 (s0 s1 s5 : S) (ob : List (Nat × O)) : F := ⟨[s0, s1, .dead, .dead, .dead, s5, .dead, .dead, .dead, .dead, .dead, .dead, .dead, .dead, .dead, .dead, .dead, .dead, .dead, .dead, .dead, .dead, .dead, .dead, .dead, .dead], ob⟩
@[simp] theorem ext38 : E.ext 38 = none := rfl
@[simp] theorem un38 : E.un 38 = [] := rfl
@[simp] theorem nrmX38 : E.nrmX 38 = [] := rfl
@[simp] theorem gho38 (id : Nat) : E.gho 38 id = false := rfl
@[simp] theorem trim38 (id : Nat) : E.trim 38 id = none := rfl
@[simp] theorem how38x0 : E.how 38 0 = 0 := rfl
@[simp] theorem ext39 : E.ext 39 = none := rfl
@[simp] theorem un39 : E.un 39 = [] := rfl
@[simp] theorem nrmX39 : E.nrmX 39 = [] := rfl
@[simp] theorem gho39 (id : Nat) : E.gho 39 id = false := rfl
@[simp] theorem trim39x0 : E.trim 39 0 = none := rfl
@[simp] theorem trim39x1 : E.trim 39 1 = none := rfl
@[simp] theorem trim39x2 : E.trim 39 2 = some [1, 3] := rfl
@[simp] def J_spec_l20Op_2 (s1 s3 : S) (ob : List (Nat × O)) : F := ⟨[.dead, s1, .dead, s3, .dead, .dead, .dead, .dead, .dead, .dead, .dead, .dead, .dead, .dead, .dead, .dead, .dead, .dead, .dead, .dead, .dead, .dead, .dead, .dead, .dead, .dead, .dead, .dead, .dead, .dead, .dead, .dead, .dead, .dead, .dead, .dead, .dead, .dead, .dead, .dead, .dead, .dead, .dead, .dead, .dead, .dead, .dead, .dead, .dead, .dead, .dead, .dead, .dead, .dead, .dead, .dead, .dead, .dead, .dead, .dead, .dead, .dead], ob⟩
@[simp] theorem trim39x3 : E.trim 39 3 = none := rfl
@[simp] theorem trim39x4 : E.trim 39 4 = some [1, 3] := rfl
@[simp] def J_spec_l20Op_4 (s1 s3 : S) (ob : List (Nat × O)) : F := ⟨[.dead, s1, .dead, s3, .dead, .dead, .dead, .dead, .dead, .dead, .dead, .dead, .dead, .dead, .dead, .dead, .dead, .dead, .dead, .dead, .dead, .dead, .dead, .dead, .dead, .dead, .dead, .dead, .dead, .dead, .dead, .dead, .dead, .dead, .dead, .dead, .dead, .dead, .dead, .dead, .dead, .dead, .dead, .dead, .dead, .dead, .dead, .dead, .dead, .dead, .dead, .dead, .dead, .dead, .dead, .dead, .dead, .dead, .dead, .dead, .dead, .dead], ob⟩
@[simp] theorem trim39x5 : E.trim 39 5 = none := rfl
@[simp] theorem trim39x6 : E.trim 39 6 = some [1, 3] := rfl
@[simp] def J_spec_l20Op_6 (s1 s3 : S) (ob : List (Nat × O)) : F := ⟨[.dead, s1, .dead, s3, .dead, .dead, .dead, .dead, .dead, .dead, .dead, .dead, .dead, .dead, .dead, .dead, .dead, .dead, .dead, .dead, .dead, .dead, .dead, .dead, .dead, .dead, .dead, .dead, .dead, .dead, .dead, .dead, .dead, .dead, .dead, .dead, .dead, .dead, .dead, .dead, .dead, .dead, .dead, .dead, .dead, .dead, .dead, .dead, .dead, .dead, .dead, .dead, .dead, .dead, .dead, .dead, .dead, .dead, .dead, .dead, .dead, .dead], ob⟩
@[simp] theorem trim39x7 : E.trim 39 7 = none := rfl
@[simp] theorem trim39x8 : E.trim 39 8 = some [1, 3] := rfl
@[simp] def J_spec_l20Op_8 (s1 s3 : S) (ob : List (Nat × O)) : F := ⟨[.dead, s1, .dead, s3, .dead, .dead, .dead, .dead, .dead, .dead, .dead, .dead, .dead, .dead, .dead, .dead, .dead, .dead, .dead, .dead, .dead, .dead, .dead, .dead, .dead, .dead, .dead, .dead, .dead, .dead, .dead, .dead, .dead, .dead, .dead, .dead, .dead, .dead, .dead, .dead, .dead, .dead, .dead, .dead, .dead, .dead, .dead, .dead, .dead, .dead, .dead, .dead, .dead, .dead, .dead, .dead, .dead, .dead, .dead, .dead, .dead, .dead], ob⟩
@[simp] theorem trim39x9 : E.trim 39 9 = none := rfl
@[simp] theorem trim39x10 : E.trim 39 10 = some [1, 3] := rfl
@[simp] def J_spec_l20Op_10 (s1 s3 : S) (ob : List (Nat × O)) : F := ⟨[.dead, s1, .dead, s3, .dead, .dead, .dead, .dead, .dead, .dead, .dead, .dead, .dead, .dead, .dead, .dead, .dead, .dead, .dead, .dead, .dead, .dead, .dead, .dead, .dead, .dead, .dead, .dead, .dead, .dead, .dead, .dead, .dead, .dead, .dead, .dead, .dead, .dead, .dead, .dead, .dead, .dead, .dead, .dead, .dead, .dead, .dead, .dead, .dead, .dead, .dead, .dead, .dead, .dead, .dead, .dead, .dead, .dead, .dead, .dead, .dead, .dead], ob⟩
@[simp] theorem trim39x11 : E.trim 39 11 = none := rfl
@[simp] theorem trim39x12 : E.trim 39 12 = some [1, 3] := rfl
@[simp] def J_spec_l20Op_12 (s1 s3 : S) (ob : List (Nat × O)) : F := ⟨[.dead, s1, .dead, s3, .dead, .dead, .dead, .dead, .dead, .dead, .dead, .dead, .dead, .dead, .dead, .dead, .dead, .dead, .dead, .dead, .dead, .dead, .dead, .dead, .dead, .dead, .dead, .dead, .dead, .dead, .dead, .dead, .dead, .dead, .dead, .dead, .dead, .dead, .dead, .dead, .dead, .dead, .dead, .dead, .dead, .dead, .dead, .dead, .dead, .dead, .dead, .dead, .dead, .dead, .dead, .dead, .dead, .dead, .dead, .dead, .dead, .dead], ob⟩
@[simp] theorem trim39x13 : E.trim 39 13 = none := rfl
@[simp] theorem trim39x14 : E.trim 39 14 = some [1, 3] := rfl
@[simp] def J_spec_l20Op_14 (s1 s3 : S) (ob : List (Nat × O)) : F := ⟨[.dead, s1, .dead, s3, .dead, .dead, .dead, .dead, .dead, .dead, .dead, .dead, .dead, .dead, .dead, .dead, .dead, .dead, .dead, .dead, .dead, .dead, .dead, .dead, .dead, .dead, .dead, .dead, .dead, .dead, .dead, .dead, .dead, .dead, .dead, .dead, .dead, .dead, .dead, .dead, .dead, .dead, .dead, .dead, .dead, .dead, .dead, .dead, .dead, .dead, .dead, .dead, .dead, .dead, .dead, .dead, .dead, .dead, .dead, .dead, .dead, .dead], ob⟩
@[simp] theorem trim39x15 : E.trim 39 15 = none := rfl
@[simp] theorem trim39x16 : E.trim 39 16 = some [3] := rfl
@[simp] def J_spec_l20Op_16 (s3 : S) (ob : List (Nat × O)) : F := ⟨[.dead, .dead, .dead, s3, .dead, .dead, .dead, .dead, .dead, .dead, .dead, .dead, .dead, .dead, .dead, .dead, .dead, .dead, .dead, .dead, .dead, .dead, .dead, .dead, .dead, .dead, .dead, .dead, .dead, .dead, .dead, .dead, .dead, .dead, .dead, .dead, .dead, .dead, .dead, .dead, .dead, .dead, .dead, .dead, .dead, .dead, .dead, .dead, .dead, .dead, .dead, .dead, .dead, .dead, .dead, .dead, .dead, .dead, .dead, .dead, .dead, .dead], ob⟩
@[simp] theorem how39x0 : E.how 39 0 = 0 := rfl
@[simp] theorem ext44 : E.ext 44 = some extNumIn := rfl
@[simp] theorem un44 : E.un 44 = [] := rfl
@[simp] theorem nrmX44 : E.nrmX 44 = [] := rfl
@[simp] theorem gho44 (id : Nat) : E.gho 44 id = false := rfl
@[simp] theorem trim44 (id : Nat) : E.trim 44 id = none := rfl
@[simp] theorem how44x0 : E.how 44 0 = 0 := rfl
@[simp] theorem how44x1 : E.how 44 1 = 0 := rfl
@[simp] theorem ext45 : E.ext 45 = none := rfl
@[simp] theorem un45 : E.un 45 = [] := rfl
@[simp] theorem nrmX45 : E.nrmX 45 = [] := rfl
@[simp] theorem gho45 (id : Nat) : E.gho 45 id = false := rfl
@[simp] theorem trim45 (id : Nat) : E.trim 45 id = none := rfl
@[simp] theorem how45x0 : E.how 45 0 = 0 := rfl
@[simp] theorem ext46 : E.ext 46 = some extHasPrefix := rfl
@[simp] theorem un46 : E.un 46 = [] := rfl
@[simp] theorem nrmX46 : E.nrmX 46 = [] := rfl
@[simp] theorem gho46 (id : Nat) : E.gho 46 id = false := rfl
@[simp] theorem trim46 (id : Nat) : E.trim 46 id = none := rfl
@[simp] theorem how46x0 : E.how 46 0 = 0 := rfl
@[simp] theorem how46x1 : E.how 46 1 = 0 := rfl
@[simp] theorem ext47 : E.ext 47 = none := rfl
@[simp] theorem un47 : E.un 47 = [] := rfl
@[simp] theorem nrmX47 : E.nrmX 47 = [] := rfl
@[simp] theorem gho47 (id : Nat) : E.gho 47 id = false := rfl
@[simp] theorem trim47 (id : Nat) : E.trim 47 id = none := rfl
@[simp] theorem how47x0 : E.how 47 0 = 0 := rfl
@[simp] theorem keep47x6 : E.keep 47 6 = some [1, 4, 31, 32] := rfl
@[simp] theorem nrm47x6 : E.nrm 47 6 = [] := rfl
@[simp] def I_impl_jumpsOf_0 (s1 s4 s31 s32 : S) (ob : List (Nat × O)) : F := ⟨[.dead, s1, .dead, .dead, s4, .dead, .dead, .dead, .dead, .dead, .dead, .dead, .dead, .dead, .dead, .dead, .dead, .dead, .dead, .dead, .dead, .dead, .dead, .dead, .dead, .dead, .dead, .dead, .dead, .dead, .dead, s31, s32, .dead, .dead, .dead, .dead, .dead, .dead, .dead, .dead, .dead, .dead, .dead], ob⟩
@[simp] theorem ext48 : E.ext 48 = none := rfl
@[simp] theorem un48 : E.un 48 = [] := rfl
@[simp] theorem nrmX48 : E.nrmX 48 = [] := rfl
@[simp] theorem gho48 (id : Nat) : E.gho 48 id = false := rfl
@[simp] theorem trim48 (id : Nat) : E.trim 48 id = none := rfl
@[simp] theorem how48x0 : E.how 48 0 = 0 := rfl
@[simp] theorem ext49 : E.ext 49 = none := rfl
@[simp] theorem un49 : E.un 49 = [] := rfl
@[simp] theorem nrmX49 : E.nrmX 49 = [] := rfl
@[simp] theorem gho49 (id : Nat) : E.gho 49 id = false := rfl
@[simp] theorem trim49 (id : Nat) : E.trim 49 id = none := rfl
@[simp] theorem how49x0 : E.how 49 0 = 0 := rfl
@[simp] theorem how49x1 : E.how 49 1 = 0 := rfl
@[simp] theorem how49x2 : E.how 49 2 = 0 := rfl
@[simp] theorem ext50 : E.ext 50 = none := rfl
@[simp] theorem un50 : E.un 50 = [] := rfl
@[simp] theorem nrmX50 : E.nrmX 50 = [(2, [.sl 9 shOp])] := rfl
@[simp] theorem gho50 (id : Nat) : E.gho 50 id = false := rfl
@[simp] theorem trim50 (id : Nat) : E.trim 50 id = none := rfl
@[simp] theorem how50x0 : E.how 50 0 = 0 := rfl
@[simp] theorem keep50x3 : E.keep 50 3 = some [3, 6, 7, 8] := rfl
@[simp] theorem nrm50x3 : E.nrm 50 3 = [(3, [.sl 9 shOp])] := rfl
@[simp] def I_impl_bareAll_0 (s3 s6 s7 s8 : S) (ob : List (Nat × O)) : F := ⟨[.dead, .dead, .dead, s3, .dead, .dead, s6, s7, s8, .dead, .dead, .dead, .dead, .dead, .dead, .dead, .dead, .dead, .dead], ob⟩
@[simp] theorem ext51 : E.ext 51 = none := rfl
@[simp] theorem un51 : E.un 51 = [] := rfl
@[simp] theorem nrmX51 : E.nrmX 51 = [] := rfl
@[simp] theorem gho51 (id : Nat) : E.gho 51 id = false := rfl
@[simp] theorem trim51x0 : E.trim 51 0 = none := rfl
@[simp] theorem trim51x1 : E.trim 51 1 = none := rfl
@[simp] theorem trim51x2 : E.trim 51 2 = none := rfl
@[simp] theorem trim51x3 : E.trim 51 3 = none := rfl
@[simp] theorem trim51x4 : E.trim 51 4 = none := rfl
@[simp] theorem trim51x5 : E.trim 51 5 = none := rfl
@[simp] theorem trim51x6 : E.trim 51 6 = none := rfl
@[simp] theorem trim51x7 : E.trim 51 7 = none := rfl
@[simp] theorem trim51x8 : E.trim 51 8 = some [1, 4, 18, 19, 20] := rfl
@[simp] def J_impl_IrOk_8 (s1 s4 s18 s19 s20 : S) (ob : List (Nat × O)) : F := ⟨[.dead, s1, .dead, .dead, s4, .dead, .dead, .dead, .dead, .dead, .dead, .dead, .dead, .dead, .dead, .dead, .dead, .dead, s18, s19, s20, .dead, .dead, .dead, .dead, .dead, .dead, .dead, .dead, .dead, .dead, .dead, .dead, .dead, .dead, .dead, .dead, .dead, .dead, .dead, .dead, .dead, .dead, .dead, .dead, .dead, .dead, .dead, .dead, .dead], ob⟩
@[simp] theorem trim51x9 : E.trim 51 9 = none := rfl
@[simp] theorem trim51x10 : E.trim 51 10 = none := rfl
@[simp] theorem trim51x11 : E.trim 51 11 = none := rfl
@[simp] theorem trim51x12 : E.trim 51 12 = none := rfl
@[simp] theorem trim51x13 : E.trim 51 13 = none := rfl
@[simp] theorem trim51x14 : E.trim 51 14 = none := rfl
@[simp] theorem trim51x15 : E.trim 51 15 = none := rfl
@[simp] theorem how51x0 : E.how 51 0 = 0 := rfl
@[simp] theorem keep51x4 : E.keep 51 4 = some [1, 18, 19, 20] := rfl
@[simp] theorem nrm51x4 : E.nrm 51 4 = [] := rfl
@[simp] def I_impl_IrOk_0 (s1 s18 s19 s20 : S) (ob : List (Nat × O)) : F := ⟨[.dead, s1, .dead, .dead, .dead, .dead, .dead, .dead, .dead, .dead, .dead, .dead, .dead, .dead, .dead, .dead, .dead, .dead, s18, s19, s20, .dead, .dead, .dead, .dead, .dead, .dead, .dead, .dead, .dead, .dead, .dead, .dead, .dead, .dead, .dead, .dead, .dead, .dead, .dead, .dead, .dead, .dead, .dead, .dead, .dead, .dead, .dead, .dead, .dead], ob⟩
@[simp] theorem keep51x9 : E.keep 51 9 = some [1, 4, 18, 19, 20, 38, 39] := rfl
@[simp] theorem nrm51x9 : E.nrm 51 9 = [] := rfl
@[simp] def I_impl_IrOk_1 (s1 s4 s18 s19 s20 s38 s39 : S) (ob : List (Nat × O)) : F := ⟨[.dead, s1, .dead, .dead, s4, .dead, .dead, .dead, .dead, .dead, .dead, .dead, .dead, .dead, .dead, .dead, .dead, .dead, s18, s19, s20, .dead, .dead, .dead, .dead, .dead, .dead, .dead, .dead, .dead, .dead, .dead, .dead, .dead, .dead, .dead, .dead, .dead, s38, s39, .dead, .dead, .dead, .dead, .dead, .dead, .dead, .dead, .dead, .dead], ob⟩
@[simp] theorem ext52 : E.ext 52 = some extItoa := rfl
@[simp] theorem un52 : E.un 52 = [] := rfl
@[simp] theorem nrmX52 : E.nrmX 52 = [] := rfl
@[simp] theorem gho52 (id : Nat) : E.gho 52 id = false := rfl
@[simp] theorem trim52 (id : Nat) : E.trim 52 id = none := rfl
@[simp] theorem how52x0 : E.how 52 0 = 0 := rfl
@[simp] theorem ext53 : E.ext 53 = some extJoin := rfl
@[simp] theorem un53 : E.un 53 = [] := rfl
@[simp] theorem nrmX53 : E.nrmX 53 = [] := rfl
@[simp] theorem gho53 (id : Nat) : E.gho 53 id = false := rfl
@[simp] theorem trim53 (id : Nat) : E.trim 53 id = none := rfl
@[simp] theorem how53x0 : E.how 53 0 = 0 := rfl
@[simp] theorem how53x1 : E.how 53 1 = 0 := rfl
@[simp] theorem keep53x12 : E.keep 53 12 = some [0, 1, 5, 39, 40, 41] := rfl
@[simp] theorem nrm53x12 : E.nrm 53 12 = [] := rfl
@[simp] theorem keep53x22 : E.keep 53 22 = some [1, 8, 63, 64, 65] := rfl
@[simp] theorem nrm53x22 : E.nrm 53 22 = [] := rfl
@[simp] theorem ext54 : E.ext 54 = none := rfl
@[simp] theorem un54 : E.un 54 = [] := rfl
@[simp] theorem nrmX54 : E.nrmX 54 = [] := rfl
@[simp] theorem gho54 (id : Nat) : E.gho 54 id = false := rfl
@[simp] theorem trim54x0 : E.trim 54 0 = none := rfl
@[simp] theorem trim54x1 : E.trim 54 1 = none := rfl
@[simp] theorem trim54x2 : E.trim 54 2 = none := rfl
@[simp] theorem trim54x4 : E.trim 54 4 = none := rfl
@[simp] theorem trim54x5 : E.trim 54 5 = none := rfl
@[simp] theorem trim54x6 : E.trim 54 6 = none := rfl
@[simp] theorem trim54x7 : E.trim 54 7 = none := rfl
@[simp] theorem trim54x3 : E.trim 54 3 = none := rfl
@[simp] theorem trim54x8 : E.trim 54 8 = some [1, 3] := rfl
@[simp] def J_impl_opWords_8 (s1 s3 : S) (ob : List (Nat × O)) : F := ⟨[.dead, s1, .dead, s3, .dead, .dead, .dead, .dead, .dead, .dead, .dead, .dead, .dead, .dead, .dead, .dead, .dead, .dead, .dead, .dead, .dead, .dead, .dead, .dead, .dead, .dead, .dead, .dead, .dead, .dead, .dead, .dead, .dead, .dead, .dead, .dead, .dead, .dead, .dead, .dead, .dead, .dead, .dead, .dead, .dead, .dead, .dead, .dead, .dead, .dead, .dead, .dead, .dead, .dead, .dead, .dead, .dead, .dead, .dead, .dead, .dead, .dead, .dead, .dead, .dead, .dead, .dead, .dead, .dead, .dead, .dead, .dead, .dead, .dead], ob⟩
@[simp] theorem trim54x9 : E.trim 54 9 = none := rfl
@[simp] theorem trim54x10 : E.trim 54 10 = none := rfl
@[simp] theorem trim54x11 : E.trim 54 11 = none := rfl
@[simp] theorem trim54x12 : E.trim 54 12 = none := rfl
@[simp] theorem trim54x13 : E.trim 54 13 = none := rfl
@[simp] theorem trim54x14 : E.trim 54 14 = none := rfl
@[simp] theorem trim54x15 : E.trim 54 15 = none := rfl
@[simp] theorem how54x0 : E.how 54 0 = 0 := rfl
@[simp] theorem ext55 : E.ext 55 = none := rfl
@[simp] theorem un55 : E.un 55 = [] := rfl
@[simp] theorem nrmX55 : E.nrmX 55 = [] := rfl
@[simp] theorem gho55 (id : Nat) : E.gho 55 id = false := rfl
@[simp] theorem trim55 (id : Nat) : E.trim 55 id = none := rfl
@[simp] theorem how55x0 : E.how 55 0 = 0 := rfl
@[simp] theorem how55x1 : E.how 55 1 = 0 := rfl
@[simp] theorem ext56 : E.ext 56 = none := rfl
@[simp] theorem un56 : E.un 56 = [] := rfl
@[simp] theorem nrmX56 : E.nrmX 56 = [] := rfl
@[simp] theorem gho56 (id : Nat) : E.gho 56 id = false := rfl
@[simp] theorem trim56x0 : E.trim 56 0 = none := rfl
@[simp] theorem trim56x1 : E.trim 56 1 = none := rfl
@[simp] theorem trim56x2 : E.trim 56 2 = none := rfl
@[simp] theorem trim56x4 : E.trim 56 4 = none := rfl
@[simp] theorem trim56x5 : E.trim 56 5 = none := rfl
@[simp] theorem trim56x6 : E.trim 56 6 = some [0, 1, 5] := rfl
@[simp] theorem trim56x7 : E.trim 56 7 = none := rfl
@[simp] theorem trim56x8 : E.trim 56 8 = some [0, 1, 5] := rfl
@[simp] theorem trim56x9 : E.trim 56 9 = none := rfl
@[simp] theorem trim56x10 : E.trim 56 10 = some [0, 1, 5] := rfl
@[simp] theorem trim56x11 : E.trim 56 11 = none := rfl
@[simp] theorem trim56x12 : E.trim 56 12 = some [0, 1, 5] := rfl
@[simp] theorem trim56x13 : E.trim 56 13 = none := rfl
@[simp] theorem trim56x14 : E.trim 56 14 = some [0, 1, 5] := rfl
@[simp] theorem trim56x15 : E.trim 56 15 = some [0, 1, 5] := rfl
@[simp] theorem trim56x16 : E.trim 56 16 = none := rfl
@[simp] theorem trim56x17 : E.trim 56 17 = some [0, 1, 5] := rfl
@[simp] theorem trim56x18 : E.trim 56 18 = none := rfl
@[simp] theorem trim56x19 : E.trim 56 19 = some [0, 1, 5] := rfl
@[simp] theorem trim56x3 : E.trim 56 3 = none := rfl
@[simp] theorem trim56x20 : E.trim 56 20 = none := rfl
@[simp] theorem how56x0 : E.how 56 0 = 1 := rfl
@[simp] theorem how56x1 : E.how 56 1 = 0 := rfl
@[simp] theorem keep56x2 : E.keep 56 2 = some [0, 1, 5] := rfl
@[simp] theorem nrm56x2 : E.nrm 56 2 = [(0, [.sl 9 [.any, .any, .any, .any, .any, .sl 1 [.any], .any, .any, .sl 9 [.any]]])] := rfl
@[simp] def I_laws_markOpS_0 (s0 s1 s5 : S) (ob : List (Nat × O)) : F := ⟨[s0, s1, .dead, .dead, .dead, s5, .dead, .dead, .dead, .dead, .dead, .dead, .dead, .dead, .dead, .dead, .dead, .dead, .dead, .dead, .dead, .dead, .dead, .dead, .dead, .dead, .dead, .dead, .dead, .dead, .dead, .dead, .dead, .dead, .dead, .dead, .dead, .dead, .dead, .dead, .dead, .dead, .dead, .dead, .dead, .dead, .dead, .dead, .dead, .dead, .dead, .dead, .dead, .dead, .dead, .dead, .dead, .dead, .dead, .dead, .dead, .dead, .dead, .dead, .dead, .dead, .dead, .dead, .dead, .dead, .dead, .dead, .dead, .dead, .dead, .dead, .dead, .dead, .dead, .dead], ob⟩
@[simp] theorem ext57 : E.ext 57 = none := rfl
@[simp] theorem un57 : E.un 57 = [] := rfl
@[simp] theorem nrmX57 : E.nrmX 57 = [] := rfl
@[simp] theorem gho57 (id : Nat) : E.gho 57 id = false := rfl
@[simp] theorem trim57 (id : Nat) : E.trim 57 id = none := rfl
@[simp] theorem how57x0 : E.how 57 0 = 1 := rfl
@[simp] theorem how57x1 : E.how 57 1 = 0 := rfl
@[simp] theorem keep57x2 : E.keep 57 2 = some [0, 1, 5] := rfl
@[simp] theorem nrm57x2 : E.nrm 57 2 = [] := rfl
@[simp] def I_laws_markIntS_0 (s0 s1 s5 : S) (ob : List (Nat × O)) : F := ⟨[s0, s1, .dead, .dead, .dead, s5, .dead, .dead, .dead, .dead, .dead, .dead, .dead, .dead, .dead, .dead, .dead, .dead, .dead], ob⟩
@[simp] theorem ext58 : E.ext 58 = none := rfl
@[simp] theorem un58 : E.un 58 = [] := rfl
@[simp] theorem nrmX58 : E.nrmX 58 = [] := rfl
@[simp] theorem gho58 (id : Nat) : E.gho 58 id = false := rfl
@[simp] theorem trim58 (id : Nat) : E.trim 58 id = none := rfl
@[simp] theorem how58x0 : E.how 58 0 = 0 := rfl
@[simp] theorem how58x1 : E.how 58 1 = 0 := rfl
@[simp] theorem keep58x2 : E.keep 58 2 = some [0, 1, 5] := rfl
@[simp] theorem nrm58x2 : E.nrm 58 2 = [] := rfl
@[simp] def I_laws_heldOpS_0 (s0 s1 s5 : S) (ob : List (Nat × O)) : F := ⟨[s0, s1, .dead, .dead, .dead, s5, .dead, .dead, .dead, .dead, .dead, .dead, .dead, .dead, .dead, .dead, .dead, .dead, .dead, .dead, .dead, .dead, .dead, .dead, .dead, .dead, .dead, .dead, .dead, .dead, .dead, .dead, .dead, .dead, .dead, .dead, .dead, .dead, .dead, .dead, .dead, .dead, .dead, .dead, .dead, .dead, .dead, .dead, .dead, .dead, .dead, .dead, .dead, .dead, .dead, .dead, .dead, .dead, .dead, .dead, .dead, .dead, .dead, .dead, .dead, .dead, .dead, .dead, .dead, .dead, .dead, .dead, .dead, .dead, .dead, .dead, .dead, .dead, .dead, .dead, .dead, .dead, .dead, .dead, .dead, .dead, .dead, .dead, .dead, .dead, .dead, .dead, .dead, .dead, .dead, .dead, .dead, .dead], ob⟩
@[simp] theorem ext59 : E.ext 59 = none := rfl
@[simp] theorem un59 : E.un 59 = [] := rfl
@[simp] theorem nrmX59 : E.nrmX 59 = [] := rfl
@[simp] theorem gho59 (id : Nat) : E.gho 59 id = false := rfl
@[simp] theorem trim59 (id : Nat) : E.trim 59 id = none := rfl
@[simp] theorem how59x0 : E.how 59 0 = 0 := rfl
@[simp] theorem how59x1 : E.how 59 1 = 0 := rfl
@[simp] theorem keep59x2 : E.keep 59 2 = some [0, 1, 5] := rfl
@[simp] theorem nrm59x2 : E.nrm 59 2 = [] := rfl
@[simp] def I_laws_heldIntS_0 (s0 s1 s5 : S) (ob : List (Nat × O)) : F := ⟨[s0, s1, .dead, .dead, .dead, s5, .dead, .dead, .dead, .dead, .dead, .dead, .dead, .dead, .dead, .dead, .dead, .dead, .dead, .dead, .dead], ob⟩
@[simp] theorem ext60 : E.ext 60 = none := rfl
@[simp] theorem un60 : E.un 60 = [] := rfl
@[simp] theorem nrmX60 : E.nrmX 60 = [] := rfl
@[simp] theorem gho60 (id : Nat) : E.gho 60 id = false := rfl
@[simp] theorem trim60 (id : Nat) : E.trim 60 id = none := rfl
@[simp] theorem how60x0 : E.how 60 0 = 0 := rfl
@[simp] theorem ext61 : E.ext 61 = none := rfl
@[simp] theorem un61 : E.un 61 = [] := rfl
@[simp] theorem nrmX61 : E.nrmX 61 = [] := rfl
@[simp] theorem gho61 (id : Nat) : E.gho 61 id = false := rfl
@[simp] theorem trim61 (id : Nat) : E.trim 61 id = none := rfl
@[simp] theorem how61x0 : E.how 61 0 = 0 := rfl
@[simp] theorem keep61x3 : E.keep 61 3 = some [0, 3, 4] := rfl
@[simp] theorem nrm61x3 : E.nrm 61 3 = [] := rfl
@[simp] def I_spec_KindOf_0 (s0 s3 s4 : S) (ob : List (Nat × O)) : F := ⟨[s0, .dead, .dead, s3, s4, .dead, .dead, .dead, .dead, .dead, .dead, .dead, .dead, .dead, .dead, .dead, .dead, .dead, .dead, .dead], ob⟩
@[simp] theorem ext62 : E.ext 62 = none := rfl
@[simp] theorem un62 : E.un 62 = [] := rfl
@[simp] theorem nrmX62 : E.nrmX 62 = [] := rfl
@[simp] theorem gho62 (id : Nat) : E.gho 62 id = false := rfl
@[simp] theorem trim62 (id : Nat) : E.trim 62 id = none := rfl
@[simp] theorem how62x0 : E.how 62 0 = 0 := rfl
@[simp] theorem ext63 : E.ext 63 = none := rfl
@[simp] theorem un63 : E.un 63 = [] := rfl
@[simp] theorem nrmX63 : E.nrmX 63 = [] := rfl
@[simp] theorem gho63 (id : Nat) : E.gho 63 id = false := rfl
@[simp] theorem trim63 (id : Nat) : E.trim 63 id = none := rfl
@[simp] theorem how63x0 : E.how 63 0 = 0 := rfl
@[simp] theorem keep63x3 : E.keep 63 3 = some [3, 4] := rfl
@[simp] theorem nrm63x3 : E.nrm 63 3 = [] := rfl
@[simp] def I_spec_PutVarint_0 (s3 s4 : S) (ob : List (Nat × O)) : F := ⟨[.dead, .dead, .dead, s3, s4, .dead, .dead, .dead, .dead, .dead, .dead, .dead, .dead, .dead, .dead, .dead, .dead, .dead, .dead, .dead, .dead, .dead, .dead, .dead], ob⟩
@[simp] theorem ext64 : E.ext 64 = none := rfl
@[simp] theorem un64 : E.un 64 = [] := rfl
@[simp] theorem nrmX64 : E.nrmX 64 = [] := rfl
@[simp] theorem gho64 (id : Nat) : E.gho 64 id = false := rfl
@[simp] theorem trim64 (id : Nat) : E.trim 64 id = none := rfl
@[simp] theorem how64x0 : E.how 64 0 = 0 := rfl
@[simp] theorem ext65 : E.ext 65 = none := rfl
@[simp] theorem un65 : E.un 65 = [] := rfl
@[simp] theorem nrmX65 : E.nrmX 65 = [] := rfl
@[simp] theorem gho65 (id : Nat) : E.gho 65 id = false := rfl
@[simp] theorem trim65 (id : Nat) : E.trim 65 id = none := rfl
@[simp] theorem how65x0 : E.how 65 0 = 0 := rfl
@[simp] theorem ext66 : E.ext 66 = none := rfl
@[simp] theorem un66 : E.un 66 = [] := rfl
@[simp] theorem nrmX66 : E.nrmX 66 = [] := rfl
@[simp] theorem gho66 (id : Nat) : E.gho 66 id = false := rfl
@[simp] theorem trim66 (id : Nat) : E.trim 66 id = none := rfl
@[simp] theorem how66x0 : E.how 66 0 = 0 := rfl
@[simp] theorem how66x1 : E.how 66 1 = 0 := rfl
@[simp] theorem keep66x4 : E.keep 66 4 = some [0, 1, 5] := rfl
@[simp] theorem nrm66x4 : E.nrm 66 4 = [] := rfl
@[simp] def I_spec_l1Same_0 (s0 s1 s5 : S) (ob : List (Nat × O)) : F := ⟨[s0, s1, .dead, .dead, .dead, s5, .dead, .dead, .dead, .dead, .dead, .dead, .dead, .dead, .dead, .dead, .dead, .dead, .dead, .dead, .dead, .dead, .dead, .dead, .dead, .dead], ob⟩
@[simp] theorem ext67 : E.ext 67 = none := rfl
@[simp] theorem un67 : E.un 67 = [] := rfl
@[simp] theorem nrmX67 : E.nrmX 67 = [] := rfl
@[simp] theorem gho67 (id : Nat) : E.gho 67 id = false := rfl
@[simp] theorem trim67 (id : Nat) : E.trim 67 id = none := rfl
@[simp] theorem how67x0 : E.how 67 0 = 0 := rfl
@[simp] theorem how67x1 : E.how 67 1 = 0 := rfl
@[simp] theorem keep67x6 : E.keep 67 6 = some [2, 3, 5] := rfl
@[simp] theorem nrm67x6 : E.nrm 67 6 = [] := rfl
@[simp] def I_spec_l9Inline_0 (s2 s3 s5 : S) (ob : List (Nat × O)) : F := ⟨[.dead, .dead, s2, s3, .dead, s5, .dead, .dead, .dead, .dead, .dead, .dead, .dead, .dead, .dead, .dead, .dead, .dead, .dead, .dead, .dead, .dead, .dead, .dead, .dead, .dead, .dead, .dead, .dead, .dead, .dead, .dead, .dead, .dead, .dead, .dead, .dead, .dead, .dead, .dead, .dead, .dead, .dead, .dead, .dead, .dead, .dead, .dead, .dead, .dead, .dead, .dead, .dead, .dead, .dead, .dead, .dead, .dead, .dead, .dead], ob⟩
@[simp] theorem ext68 : E.ext 68 = none := rfl
@[simp] theorem un68 : E.un 68 = [] := rfl
@[simp] theorem nrmX68 : E.nrmX 68 = [] := rfl
@[simp] theorem gho68 (id : Nat) : E.gho 68 id = false := rfl
@[simp] theorem trim68 (id : Nat) : E.trim 68 id = none := rfl
@[simp] theorem how68x0 : E.how 68 0 = 0 := rfl
@[simp] theorem ext69 : E.ext 69 = none := rfl
@[simp] theorem un69 : E.un 69 = [] := rfl
@[simp] theorem nrmX69 : E.nrmX 69 = [] := rfl
@[simp] theorem gho69 (id : Nat) : E.gho 69 id = false := rfl
@[simp] theorem trim69 (id : Nat) : E.trim 69 id = none := rfl
@[simp] theorem how69x0 : E.how 69 0 = 0 := rfl
@[simp] theorem keep69x3 : E.keep 69 3 = some [1, 3, 4] := rfl
@[simp] theorem nrm69x3 : E.nrm 69 3 = [] := rfl
@[simp] def I_spec_l9Oneofs_0 (s1 s3 s4 : S) (ob : List (Nat × O)) : F := ⟨[.dead, s1, .dead, s3, s4, .dead, .dead, .dead, .dead, .dead, .dead, .dead, .dead, .dead, .dead, .dead, .dead, .dead, .dead, .dead, .dead, .dead, .dead, .dead, .dead, .dead, .dead], ob⟩
@[simp] theorem ext70 : E.ext 70 = none := rfl
@[simp] theorem un70 : E.un 70 = [] := rfl
@[simp] theorem nrmX70 : E.nrmX 70 = [] := rfl
@[simp] theorem gho70 (id : Nat) : E.gho 70 id = false := rfl
@[simp] theorem trim70 (id : Nat) : E.trim 70 id = none := rfl
@[simp] theorem how70x0 : E.how 70 0 = 0 := rfl
@[simp] theorem ext71 : E.ext 71 = none := rfl
@[simp] theorem un71 : E.un 71 = [] := rfl
@[simp] theorem nrmX71 : E.nrmX 71 = [] := rfl
@[simp] theorem gho71 (id : Nat) : E.gho 71 id = false := rfl
@[simp] theorem trim71 (id : Nat) : E.trim 71 id = none := rfl
@[simp] theorem how71x0 : E.how 71 0 = 0 := rfl
@[simp] theorem ext77 : E.ext 77 = none := rfl
@[simp] theorem un77 : E.un 77 = [] := rfl
@[simp] theorem nrmX77 : E.nrmX 77 = [] := rfl
@[simp] theorem gho77 (id : Nat) : E.gho 77 id = false := rfl
@[simp] theorem trim77 (id : Nat) : E.trim 77 id = none := rfl
@[simp] theorem how77x0 : E.how 77 0 = 0 := rfl
@[simp] theorem how77x1 : E.how 77 1 = 0 := rfl
@[simp] theorem keep77x2 : E.keep 77 2 = some [0, 1, 7, 8] := rfl
@[simp] theorem nrm77x2 : E.nrm 77 2 = [] := rfl
@[simp] def I_slices_Index_Lstring_string_0 (s0 s1 s7 s8 : S) (ob : List (Nat × O)) : F := ⟨[s0, s1, .dead, .dead, .dead, .dead, .dead, s7, s8, .dead, .dead, .dead, .dead, .dead, .dead, .dead, .dead, .dead, .dead], ob⟩
@[simp] theorem ext78 : E.ext 78 = none := rfl
@[simp] theorem un78 : E.un 78 = [] := rfl
@[simp] theorem nrmX78 : E.nrmX 78 = [] := rfl
@[simp] theorem gho78 (id : Nat) : E.gho 78 id = false := rfl
@[simp] theorem trim78 (id : Nat) : E.trim 78 id = none := rfl
@[simp] theorem ext79 : E.ext 79 = none := rfl
@[simp] theorem un79 : E.un 79 = [] := rfl
@[simp] theorem nrmX79 : E.nrmX 79 = [] := rfl
@[simp] theorem gho79 (id : Nat) : E.gho 79 id = false := rfl
@[simp] theorem trim79 (id : Nat) : E.trim 79 id = none := rfl
@[simp] theorem how79x0 : E.how 79 0 = 0 := rfl
@[simp] theorem how79x1 : E.how 79 1 = 0 := rfl
@[simp] theorem keep79x2 : E.keep 79 2 = some [0, 1, 7, 8] := rfl
@[simp] theorem nrm79x2 : E.nrm 79 2 = [] := rfl
@[simp] def I_slices_IndexFunc_Limpl_Op_impl_Op_0 (s0 s1 s7 s8 : S) (ob : List (Nat × O)) : F := ⟨[s0, s1, .dead, .dead, .dead, .dead, .dead, s7, s8, .dead, .dead, .dead, .dead, .dead, .dead, .dead, .dead, .dead, .dead], ob⟩
@[simp] theorem ext80 : E.ext 80 = none := rfl
@[simp] theorem un80 : E.un 80 = [] := rfl
@[simp] theorem nrmX80 : E.nrmX 80 = [] := rfl
@[simp] theorem gho80 (id : Nat) : E.gho 80 id = false := rfl
@[simp] theorem trim80 (id : Nat) : E.trim 80 id = none := rfl
@[simp] theorem how80x0 : E.how 80 0 = 0 := rfl
@[simp] theorem how80x1 : E.how 80 1 = 0 := rfl
@[simp] theorem ext81 : E.ext 81 = none := rfl
@[simp] theorem un81 : E.un 81 = [] := rfl
@[simp] theorem nrmX81 : E.nrmX 81 = [] := rfl
@[simp] theorem gho81 (id : Nat) : E.gho 81 id = false := rfl
@[simp] theorem trim81 (id : Nat) : E.trim 81 id = none := rfl
@[simp] theorem how81x0 : E.how 81 0 = 0 := rfl
@[simp] theorem how81x1 : E.how 81 1 = 0 := rfl
@[simp] theorem ext82 : E.ext 82 = none := rfl
@[simp] theorem un82 : E.un 82 = [] := rfl
@[simp] theorem nrmX82 : E.nrmX 82 = [] := rfl
@[simp] theorem gho82 (id : Nat) : E.gho 82 id = false := rfl
@[simp] theorem trim82 (id : Nat) : E.trim 82 id = none := rfl
@[simp] theorem how82x0 : E.how 82 0 = 0 := rfl
@[simp] theorem how82x1 : E.how 82 1 = 0 := rfl
@[simp] theorem ext83 : E.ext 83 = none := rfl
@[simp] theorem un83 : E.un 83 = [] := rfl
@[simp] theorem nrmX83 : E.nrmX 83 = [] := rfl
@[simp] theorem gho83 (id : Nat) : E.gho 83 id = false := rfl
@[simp] theorem trim83 (id : Nat) : E.trim 83 id = none := rfl
@[simp] theorem how83x0 : E.how 83 0 = 0 := rfl
@[simp] theorem ext84 : E.ext 84 = none := rfl
@[simp] theorem un84 : E.un 84 = [] := rfl
@[simp] theorem nrmX84 : E.nrmX 84 = [] := rfl
@[simp] theorem gho84 (id : Nat) : E.gho 84 id = false := rfl
@[simp] theorem trim84 (id : Nat) : E.trim 84 id = none := rfl
@[simp] theorem how84x0 : E.how 84 0 = 0 := rfl
@[simp] theorem ext85 : E.ext 85 = none := rfl
@[simp] theorem un85 : E.un 85 = [] := rfl
@[simp] theorem nrmX85 : E.nrmX 85 = [] := rfl
@[simp] theorem gho85 (id : Nat) : E.gho 85 id = false := rfl
@[simp] theorem trim85 (id : Nat) : E.trim 85 id = none := rfl
@[simp] theorem how85x0 : E.how 85 0 = 0 := rfl
@[simp] theorem how85x1 : E.how 85 1 = 0 := rfl
@[simp] theorem ext86 : E.ext 86 = none := rfl
@[simp] theorem un86 : E.un 86 = [] := rfl
@[simp] theorem nrmX86 : E.nrmX 86 = [] := rfl
@[simp] theorem gho86 (id : Nat) : E.gho 86 id = false := rfl
@[simp] theorem trim86 (id : Nat) : E.trim 86 id = none := rfl
@[simp] theorem how86x0 : E.how 86 0 = 0 := rfl
@[simp] theorem how86x1 : E.how 86 1 = 0 := rfl
@[simp] theorem ext87 : E.ext 87 = none := rfl
@[simp] theorem un87 : E.un 87 = [] := rfl
@[simp] theorem nrmX87 : E.nrmX 87 = [] := rfl
@[simp] theorem gho87 (id : Nat) : E.gho 87 id = false := rfl
@[simp] theorem trim87x0 : E.trim 87 0 = none := rfl
@[simp] theorem trim87x1 : E.trim 87 1 = none := rfl
@[simp] theorem trim87x2 : E.trim 87 2 = none := rfl
@[simp] theorem trim87x3 : E.trim 87 3 = none := rfl
@[simp] theorem trim87x4 : E.trim 87 4 = none := rfl
@[simp] theorem trim87x5 : E.trim 87 5 = none := rfl
@[simp] theorem trim87x6 : E.trim 87 6 = none := rfl
@[simp] theorem trim87x7 : E.trim 87 7 = some [1, 2, 5, 7, 9, 10, 11] := rfl
@[simp] def J_impl_opsOk_7 (s1 s2 s5 s7 s9 s10 s11 : S) (ob : List (Nat × O)) : F := ⟨[.dead, s1, s2, .dead, .dead, s5, .dead, s7, .dead, s9, s10, s11, .dead, .dead, .dead, .dead, .dead, .dead, .dead, .dead, .dead, .dead, .dead, .dead, .dead, .dead, .dead, .dead, .dead, .dead, .dead, .dead, .dead, .dead, .dead, .dead, .dead, .dead, .dead, .dead, .dead, .dead, .dead, .dead, .dead, .dead, .dead, .dead, .dead, .dead, .dead, .dead, .dead, .dead, .dead, .dead, .dead, .dead, .dead, .dead, .dead, .dead, .dead, .dead, .dead, .dead, .dead, .dead, .dead, .dead, .dead, .dead, .dead, .dead, .dead, .dead, .dead, .dead, .dead, .dead, .dead, .dead, .dead, .dead, .dead, .dead, .dead, .dead, .dead, .dead, .dead, .dead, .dead, .dead, .dead, .dead, .dead, .dead, .dead, .dead, .dead, .dead], ob⟩
@[simp] theorem trim87x8 : E.trim 87 8 = none := rfl
@[simp] theorem trim87x9 : E.trim 87 9 = some [1, 2, 5, 7, 9, 10, 11] := rfl
@[simp] def J_impl_opsOk_9 (s1 s2 s5 s7 s9 s10 s11 : S) (ob : List (Nat × O)) : F := ⟨[.dead, s1, s2, .dead, .dead, s5, .dead, s7, .dead, s9, s10, s11, .dead, .dead, .dead, .dead, .dead, .dead, .dead, .dead, .dead, .dead, .dead, .dead, .dead, .dead, .dead, .dead, .dead, .dead, .dead, .dead, .dead, .dead, .dead, .dead, .dead, .dead, .dead, .dead, .dead, .dead, .dead, .dead, .dead, .dead, .dead, .dead, .dead, .dead, .dead, .dead, .dead, .dead, .dead, .dead, .dead, .dead, .dead, .dead, .dead, .dead, .dead, .dead, .dead, .dead, .dead, .dead, .dead, .dead, .dead, .dead, .dead, .dead, .dead, .dead, .dead, .dead, .dead, .dead, .dead, .dead, .dead, .dead, .dead, .dead, .dead, .dead, .dead, .dead, .dead, .dead, .dead, .dead, .dead, .dead, .dead, .dead, .dead, .dead, .dead, .dead], ob⟩
@[simp] theorem trim87x10 : E.trim 87 10 = some [1, 2, 5, 9, 10, 11] := rfl
@[simp] def J_impl_opsOk_10 (s1 s2 s5 s9 s10 s11 : S) (ob : List (Nat × O)) : F := ⟨[.dead, s1, s2, .dead, .dead, s5, .dead, .dead, .dead, s9, s10, s11, .dead, .dead, .dead, .dead, .dead, .dead, .dead, .dead, .dead, .dead, .dead, .dead, .dead, .dead, .dead, .dead, .dead, .dead, .dead, .dead, .dead, .dead, .dead, .dead, .dead, .dead, .dead, .dead, .dead, .dead, .dead, .dead, .dead, .dead, .dead, .dead, .dead, .dead, .dead, .dead, .dead, .dead, .dead, .dead, .dead, .dead, .dead, .dead, .dead, .dead, .dead, .dead, .dead, .dead, .dead, .dead, .dead, .dead, .dead, .dead, .dead, .dead, .dead, .dead, .dead, .dead, .dead, .dead, .dead, .dead, .dead, .dead, .dead, .dead, .dead, .dead, .dead, .dead, .dead, .dead, .dead, .dead, .dead, .dead, .dead, .dead, .dead, .dead, .dead, .dead], ob⟩
@[simp] theorem trim87x11 : E.trim 87 11 = some [1, 5] := rfl
@[simp] def J_impl_opsOk_11 (s1 s5 : S) (ob : List (Nat × O)) : F := ⟨[.dead, s1, .dead, .dead, .dead, s5, .dead, .dead, .dead, .dead, .dead, .dead, .dead, .dead, .dead, .dead, .dead, .dead, .dead, .dead, .dead, .dead, .dead, .dead, .dead, .dead, .dead, .dead, .dead, .dead, .dead, .dead, .dead, .dead, .dead, .dead, .dead, .dead, .dead, .dead, .dead, .dead, .dead, .dead, .dead, .dead, .dead, .dead, .dead, .dead, .dead, .dead, .dead, .dead, .dead, .dead, .dead, .dead, .dead, .dead, .dead, .dead, .dead, .dead, .dead, .dead, .dead, .dead, .dead, .dead, .dead, .dead, .dead, .dead, .dead, .dead, .dead, .dead, .dead, .dead, .dead, .dead, .dead, .dead, .dead, .dead, .dead, .dead, .dead, .dead, .dead, .dead, .dead, .dead, .dead, .dead, .dead, .dead, .dead, .dead, .dead, .dead], ob⟩
@[simp] theorem trim87x12 : E.trim 87 12 = none := rfl
@[simp] theorem trim87x13 : E.trim 87 13 = none := rfl
@[simp] theorem trim87x14 : E.trim 87 14 = none := rfl
@[simp] theorem trim87x16 : E.trim 87 16 = none := rfl
@[simp] theorem trim87x17 : E.trim 87 17 = none := rfl
@[simp] theorem trim87x18 : E.trim 87 18 = none := rfl
@[simp] theorem trim87x19 : E.trim 87 19 = none := rfl
@[simp] theorem trim87x15 : E.trim 87 15 = none := rfl
@[simp] theorem trim87x20 : E.trim 87 20 = none := rfl
@[simp] theorem how87x0 : E.how 87 0 = 0 := rfl
@[simp] theorem how87x1 : E.how 87 1 = 0 := rfl
@[simp] theorem keep87x3 : E.keep 87 3 = some [1, 2, 5, 9, 10, 11] := rfl
@[simp] theorem nrm87x3 : E.nrm 87 3 = [] := rfl
@[simp] def I_impl_opsOk_0 (s1 s2 s5 s9 s10 s11 : S) (ob : List (Nat × O)) : F := ⟨[.dead, s1, s2, .dead, .dead, s5, .dead, .dead, .dead, s9, s10, s11, .dead, .dead, .dead, .dead, .dead, .dead, .dead, .dead, .dead, .dead, .dead, .dead, .dead, .dead, .dead, .dead, .dead, .dead, .dead, .dead, .dead, .dead, .dead, .dead, .dead, .dead, .dead, .dead, .dead, .dead, .dead, .dead, .dead, .dead, .dead, .dead, .dead, .dead, .dead, .dead, .dead, .dead, .dead, .dead, .dead, .dead, .dead, .dead, .dead, .dead, .dead, .dead, .dead, .dead, .dead, .dead, .dead, .dead, .dead, .dead, .dead, .dead, .dead, .dead, .dead, .dead, .dead, .dead, .dead, .dead, .dead, .dead, .dead, .dead, .dead, .dead, .dead, .dead, .dead, .dead, .dead, .dead, .dead, .dead, .dead, .dead, .dead, .dead, .dead, .dead], ob⟩
@[simp] theorem keep87x14 : E.keep 87 14 = some [1, 5, 8] := rfl
@[simp] theorem nrm87x14 : E.nrm 87 14 = [] := rfl
@[simp] def I_impl_opsOk_1 (s1 s5 s8 : S) (ob : List (Nat × O)) : F := ⟨[.dead, s1, .dead, .dead, .dead, s5, .dead, .dead, s8, .dead, .dead, .dead, .dead, .dead, .dead, .dead, .dead, .dead, .dead, .dead, .dead, .dead, .dead, .dead, .dead, .dead, .dead, .dead, .dead, .dead, .dead, .dead, .dead, .dead, .dead, .dead, .dead, .dead, .dead, .dead, .dead, .dead, .dead, .dead, .dead, .dead, .dead, .dead, .dead, .dead, .dead, .dead, .dead, .dead, .dead, .dead, .dead, .dead, .dead, .dead, .dead, .dead, .dead, .dead, .dead, .dead, .dead, .dead, .dead, .dead, .dead, .dead, .dead, .dead, .dead, .dead, .dead, .dead, .dead, .dead, .dead, .dead, .dead, .dead, .dead, .dead, .dead, .dead, .dead, .dead, .dead, .dead, .dead, .dead, .dead, .dead, .dead, .dead, .dead, .dead, .dead, .dead], ob⟩
@[simp] theorem ext88 : E.ext 88 = none := rfl
@[simp] theorem un88 : E.un 88 = [] := rfl
@[simp] theorem nrmX88 : E.nrmX 88 = [] := rfl
@[simp] theorem gho88 (id : Nat) : E.gho 88 id = false := rfl
@[simp] theorem trim88 (id : Nat) : E.trim 88 id = none := rfl
@[simp] theorem how88x0 : E.how 88 0 = 0 := rfl
@[simp] theorem how88x1 : E.how 88 1 = 0 := rfl
@[simp] theorem keep88x4 : E.keep 88 4 = some [0, 1, 12, 13] := rfl
@[simp] theorem nrm88x4 : E.nrm 88 4 = [] := rfl
@[simp] def I_slices_Equal_Lint_int_0 (s0 s1 s12 s13 : S) (ob : List (Nat × O)) : F := ⟨[s0, s1, .dead, .dead, .dead, .dead, .dead, .dead, .dead, .dead, .dead, .dead, s12, s13, .dead, .dead, .dead, .dead, .dead, .dead, .dead, .dead, .dead, .dead, .dead, .dead], ob⟩
@[simp] theorem ext89 : E.ext 89 = none := rfl
@[simp] theorem un89 : E.un 89 = [] := rfl
@[simp] theorem nrmX89 : E.nrmX 89 = [] := rfl
@[simp] theorem gho89 (id : Nat) : E.gho 89 id = false := rfl
@[simp] theorem trim89x0 : E.trim 89 0 = none := rfl
@[simp] theorem trim89x1 : E.trim 89 1 = none := rfl
@[simp] theorem trim89x2 : E.trim 89 2 = none := rfl
@[simp] theorem trim89x3 : E.trim 89 3 = none := rfl
@[simp] theorem trim89x4 : E.trim 89 4 = some [1, 2, 3, 7] := rfl
@[simp] def J_impl_marksOk_4 (s1 s2 s3 s7 : S) (ob : List (Nat × O)) : F := ⟨[.dead, s1, s2, s3, .dead, .dead, .dead, s7, .dead, .dead, .dead, .dead, .dead, .dead, .dead, .dead, .dead, .dead, .dead, .dead, .dead, .dead, .dead, .dead, .dead, .dead, .dead, .dead, .dead, .dead, .dead, .dead, .dead, .dead, .dead, .dead, .dead, .dead, .dead, .dead, .dead, .dead, .dead, .dead, .dead, .dead, .dead, .dead, .dead, .dead, .dead, .dead, .dead, .dead, .dead, .dead, .dead, .dead, .dead, .dead, .dead, .dead, .dead, .dead, .dead, .dead, .dead, .dead, .dead, .dead, .dead, .dead, .dead, .dead, .dead, .dead, .dead, .dead, .dead, .dead, .dead, .dead, .dead, .dead, .dead, .dead, .dead, .dead, .dead, .dead, .dead, .dead, .dead, .dead, .dead, .dead, .dead], ob⟩
@[simp] theorem trim89x5 : E.trim 89 5 = none := rfl
@[simp] theorem trim89x6 : E.trim 89 6 = none := rfl
@[simp] theorem trim89x7 : E.trim 89 7 = none := rfl
@[simp] theorem trim89x8 : E.trim 89 8 = none := rfl
@[simp] theorem trim89x9 : E.trim 89 9 = none := rfl
@[simp] theorem trim89x10 : E.trim 89 10 = none := rfl
@[simp] theorem trim89x11 : E.trim 89 11 = none := rfl
@[simp] theorem trim89x12 : E.trim 89 12 = none := rfl
@[simp] theorem trim89x13 : E.trim 89 13 = some [3, 7] := rfl
@[simp] def J_impl_marksOk_13 (s3 s7 : S) (ob : List (Nat × O)) : F := ⟨[.dead, .dead, .dead, s3, .dead, .dead, .dead, s7, .dead, .dead, .dead, .dead, .dead, .dead, .dead, .dead, .dead, .dead, .dead, .dead, .dead, .dead, .dead, .dead, .dead, .dead, .dead, .dead, .dead, .dead, .dead, .dead, .dead, .dead, .dead, .dead, .dead, .dead, .dead, .dead, .dead, .dead, .dead, .dead, .dead, .dead, .dead, .dead, .dead, .dead, .dead, .dead, .dead, .dead, .dead, .dead, .dead, .dead, .dead, .dead, .dead, .dead, .dead, .dead, .dead, .dead, .dead, .dead, .dead, .dead, .dead, .dead, .dead, .dead, .dead, .dead, .dead, .dead, .dead, .dead, .dead, .dead, .dead, .dead, .dead, .dead, .dead, .dead, .dead, .dead, .dead, .dead, .dead, .dead, .dead, .dead, .dead], ob⟩
@[simp] theorem trim89x14 : E.trim 89 14 = none := rfl
@[simp] theorem trim89x15 : E.trim 89 15 = none := rfl
@[simp] theorem how89x0 : E.how 89 0 = 0 := rfl
@[simp] theorem how89x1 : E.how 89 1 = 0 := rfl
@[simp] theorem how89x2 : E.how 89 2 = 0 := rfl
@[simp] theorem keep89x8 : E.keep 89 8 = some [3, 7, 63, 64, 65] := rfl
@[simp] theorem nrm89x8 : E.nrm 89 8 = [] := rfl
@[simp] def I_impl_marksOk_0 (s3 s7 s63 s64 s65 : S) (ob : List (Nat × O)) : F := ⟨[.dead, .dead, .dead, s3, .dead, .dead, .dead, s7, .dead, .dead, .dead, .dead, .dead, .dead, .dead, .dead, .dead, .dead, .dead, .dead, .dead, .dead, .dead, .dead, .dead, .dead, .dead, .dead, .dead, .dead, .dead, .dead, .dead, .dead, .dead, .dead, .dead, .dead, .dead, .dead, .dead, .dead, .dead, .dead, .dead, .dead, .dead, .dead, .dead, .dead, .dead, .dead, .dead, .dead, .dead, .dead, .dead, .dead, .dead, .dead, .dead, .dead, .dead, s63, s64, s65, .dead, .dead, .dead, .dead, .dead, .dead, .dead, .dead, .dead, .dead, .dead, .dead, .dead, .dead, .dead, .dead, .dead, .dead, .dead, .dead, .dead, .dead, .dead, .dead, .dead, .dead, .dead, .dead, .dead, .dead, .dead], ob⟩
@[simp] theorem ext94 : E.ext 94 = none := rfl
@[simp] theorem un94 : E.un 94 = [] := rfl
@[simp] theorem nrmX94 : E.nrmX 94 = [] := rfl
@[simp] theorem gho94 (id : Nat) : E.gho 94 id = false := rfl
@[simp] theorem trim94 (id : Nat) : E.trim 94 id = none := rfl
@[simp] theorem how94x0 : E.how 94 0 = 0 := rfl
@[simp] theorem how94x1 : E.how 94 1 = 0 := rfl
@[simp] theorem how94x2 : E.how 94 2 = 0 := rfl
@[simp] theorem ext95 : E.ext 95 = none := rfl
@[simp] theorem un95 : E.un 95 = [] := rfl
@[simp] theorem nrmX95 : E.nrmX 95 = [] := rfl
@[simp] theorem gho95 (id : Nat) : E.gho 95 id = false := rfl
@[simp] theorem trim95 (id : Nat) : E.trim 95 id = none := rfl
@[simp] theorem how95x0 : E.how 95 0 = 0 := rfl
@[simp] theorem how95x1 : E.how 95 1 = 0 := rfl
@[simp] theorem keep95x4 : E.keep 95 4 = some [0, 1, 5] := rfl
@[simp] theorem nrm95x4 : E.nrm 95 4 = [] := rfl
@[simp] def I_laws_eqOpS_0 (s0 s1 s5 : S) (ob : List (Nat × O)) : F := ⟨[s0, s1, .dead, .dead, .dead, s5, .dead, .dead, .dead, .dead, .dead, .dead, .dead, .dead, .dead, .dead, .dead, .dead, .dead, .dead, .dead, .dead, .dead, .dead, .dead, .dead, .dead], ob⟩
@[simp] theorem ext96 : E.ext 96 = none := rfl
@[simp] theorem un96 : E.un 96 = [] := rfl
@[simp] theorem nrmX96 : E.nrmX 96 = [] := rfl
@[simp] theorem gho96 (id : Nat) : E.gho 96 id = false := rfl
@[simp] theorem trim96 (id : Nat) : E.trim 96 id = none := rfl
@[simp] theorem how96x0 : E.how 96 0 = 0 := rfl
@[simp] theorem how96x1 : E.how 96 1 = 0 := rfl
@[simp] theorem keep96x4 : E.keep 96 4 = some [0, 1, 5] := rfl
@[simp] theorem nrm96x4 : E.nrm 96 4 = [] := rfl
@[simp] def I_laws_eqIntS_0 (s0 s1 s5 : S) (ob : List (Nat × O)) : F := ⟨[s0, s1, .dead, .dead, .dead, s5, .dead, .dead, .dead, .dead, .dead, .dead, .dead, .dead, .dead, .dead, .dead, .dead, .dead, .dead, .dead, .dead, .dead, .dead, .dead, .dead], ob⟩
@[simp] theorem ext97 : E.ext 97 = none := rfl
@[simp] theorem un97 : E.un 97 = [] := rfl
@[simp] theorem nrmX97 : E.nrmX 97 = [] := rfl
@[simp] theorem gho97 (id : Nat) : E.gho 97 id = false := rfl
@[simp] theorem trim97 (id : Nat) : E.trim 97 id = none := rfl
@[simp] theorem how97x0 : E.how 97 0 = 1 := rfl
@[simp] theorem how97x1 : E.how 97 1 = 0 := rfl
@[simp] theorem keep97x2 : E.keep 97 2 = some [0, 1, 5] := rfl
@[simp] theorem nrm97x2 : E.nrm 97 2 = [] := rfl
@[simp] def I_laws_markByteS_0 (s0 s1 s5 : S) (ob : List (Nat × O)) : F := ⟨[s0, s1, .dead, .dead, .dead, s5, .dead, .dead, .dead, .dead, .dead, .dead, .dead, .dead, .dead, .dead, .dead, .dead, .dead, .dead], ob⟩
@[simp] theorem ext98 : E.ext 98 = none := rfl
@[simp] theorem un98 : E.un 98 = [] := rfl
@[simp] theorem nrmX98 : E.nrmX 98 = [] := rfl
@[simp] theorem gho98 (id : Nat) : E.gho 98 id = false := rfl
@[simp] theorem trim98 (id : Nat) : E.trim 98 id = none := rfl
@[simp] theorem how98x0 : E.how 98 0 = 0 := rfl
@[simp] theorem how98x1 : E.how 98 1 = 0 := rfl
@[simp] theorem keep98x2 : E.keep 98 2 = some [0, 1, 5] := rfl
@[simp] theorem nrm98x2 : E.nrm 98 2 = [] := rfl
@[simp] def I_laws_heldByteS_0 (s0 s1 s5 : S) (ob : List (Nat × O)) : F := ⟨[s0, s1, .dead, .dead, .dead, s5, .dead, .dead, .dead, .dead, .dead, .dead, .dead, .dead, .dead, .dead, .dead, .dead, .dead, .dead, .dead, .dead], ob⟩
@[simp] theorem ext99 : E.ext 99 = none := rfl
@[simp] theorem un99 : E.un 99 = [] := rfl
@[simp] theorem nrmX99 : E.nrmX 99 = [] := rfl
@[simp] theorem gho99 (id : Nat) : E.gho 99 id = false := rfl
@[simp] theorem trim99 (id : Nat) : E.trim 99 id = none := rfl
@[simp] theorem ext100 : E.ext 100 = none := rfl
@[simp] theorem un100 : E.un 100 = [] := rfl
@[simp] theorem nrmX100 : E.nrmX 100 = [] := rfl
@[simp] theorem gho100 (id : Nat) : E.gho 100 id = false := rfl
@[simp] theorem trim100 (id : Nat) : E.trim 100 id = none := rfl
@[simp] theorem how100x0 : E.how 100 0 = 0 := rfl
@[simp] theorem ext101 : E.ext 101 = none := rfl
@[simp] theorem un101 : E.un 101 = [] := rfl
@[simp] theorem nrmX101 : E.nrmX 101 = [] := rfl
@[simp] theorem gho101 (id : Nat) : E.gho 101 id = false := rfl
@[simp] theorem trim101 (id : Nat) : E.trim 101 id = none := rfl
@[simp] theorem how101x0 : E.how 101 0 = 0 := rfl
@[simp] theorem how101x1 : E.how 101 1 = 0 := rfl
@[simp] theorem ext111 : E.ext 111 = none := rfl
@[simp] theorem un111 : E.un 111 = [] := rfl
@[simp] theorem nrmX111 : E.nrmX 111 = [] := rfl
@[simp] theorem gho111 (id : Nat) : E.gho 111 id = false := rfl
@[simp] theorem trim111 (id : Nat) : E.trim 111 id = none := rfl
@[simp] theorem how111x0 : E.how 111 0 = 0 := rfl
@[simp] theorem keep111x3 : E.keep 111 3 = some [3, 4] := rfl
@[simp] theorem nrm111x3 : E.nrm 111 3 = [] := rfl
@[simp] def I_impl_PutVarint_0 (s3 s4 : S) (ob : List (Nat × O)) : F := ⟨[.dead, .dead, .dead, s3, s4, .dead, .dead, .dead, .dead, .dead, .dead, .dead, .dead, .dead, .dead, .dead, .dead, .dead, .dead, .dead, .dead, .dead], ob⟩
@[simp] theorem ext112 : E.ext 112 = none := rfl
@[simp] theorem un112 : E.un 112 = [] := rfl
@[simp] theorem nrmX112 : E.nrmX 112 = [] := rfl
@[simp] theorem gho112 (id : Nat) : E.gho 112 id = false := rfl
@[simp] theorem trim112 (id : Nat) : E.trim 112 id = none := rfl
@[simp] theorem how112x0 : E.how 112 0 = 0 := rfl
@[simp] theorem how112x1 : E.how 112 1 = 0 := rfl
@[simp] theorem keep112x2 : E.keep 112 2 = some [0, 1, 7, 8] := rfl
@[simp] theorem nrm112x2 : E.nrm 112 2 = [] := rfl
@[simp] def I_slices_IndexFunc_Limpl_Mod_impl_Mod_0 (s0 s1 s7 s8 : S) (ob : List (Nat × O)) : F := ⟨[s0, s1, .dead, .dead, .dead, .dead, .dead, s7, s8, .dead, .dead, .dead, .dead, .dead, .dead, .dead, .dead, .dead, .dead], ob⟩
@[simp] theorem ext113 : E.ext 113 = none := rfl
@[simp] theorem un113 : E.un 113 = [] := rfl
@[simp] theorem nrmX113 : E.nrmX 113 = [] := rfl
@[simp] theorem gho113 (id : Nat) : E.gho 113 id = false := rfl
@[simp] theorem trim113 (id : Nat) : E.trim 113 id = none := rfl
@[simp] theorem how113x0 : E.how 113 0 = 0 := rfl
@[simp] theorem ext114 : E.ext 114 = none := rfl
@[simp] theorem un114 : E.un 114 = [] := rfl
@[simp] theorem nrmX114 : E.nrmX 114 = [] := rfl
@[simp] theorem gho114 (id : Nat) : E.gho 114 id = false := rfl
@[simp] theorem trim114 (id : Nat) : E.trim 114 id = none := rfl
@[simp] theorem how114x0 : E.how 114 0 = 0 := rfl
@[simp] theorem how114x1 : E.how 114 1 = 0 := rfl
@[simp] theorem ext115 : E.ext 115 = none := rfl
@[simp] theorem un115 : E.un 115 = [] := rfl
@[simp] theorem nrmX115 : E.nrmX 115 = [] := rfl
@[simp] theorem gho115 (id : Nat) : E.gho 115 id = false := rfl
@[simp] theorem trim115 (id : Nat) : E.trim 115 id = none := rfl
@[simp] theorem how115x0 : E.how 115 0 = 0 := rfl
@[simp] theorem how115x1 : E.how 115 1 = 0 := rfl
@[simp] theorem ext116 : E.ext 116 = none := rfl
@[simp] theorem un116 : E.un 116 = [] := rfl
@[simp] theorem nrmX116 : E.nrmX 116 = [] := rfl
@[simp] theorem gho116 (id : Nat) : E.gho 116 id = false := rfl
@[simp] theorem trim116 (id : Nat) : E.trim 116 id = none := rfl
@[simp] theorem how116x0 : E.how 116 0 = 0 := rfl
@[simp] theorem how116x1 : E.how 116 1 = 0 := rfl
@[simp] theorem keep116x4 : E.keep 116 4 = some [0, 1, 12, 13] := rfl
@[simp] theorem nrm116x4 : E.nrm 116 4 = [] := rfl
@[simp] def I_slices_Equal_Lbyte_byte_0 (s0 s1 s12 s13 : S) (ob : List (Nat × O)) : F := ⟨[s0, s1, .dead, .dead, .dead, .dead, .dead, .dead, .dead, .dead, .dead, .dead, s12, s13, .dead, .dead, .dead, .dead, .dead, .dead, .dead, .dead, .dead, .dead, .dead, .dead], ob⟩
@[simp] theorem ext117 : E.ext 117 = none := rfl
@[simp] theorem un117 : E.un 117 = [] := rfl
@[simp] theorem nrmX117 : E.nrmX 117 = [] := rfl
@[simp] theorem gho117 (id : Nat) : E.gho 117 id = false := rfl
@[simp] theorem trim117 (id : Nat) : E.trim 117 id = none := rfl
@[simp] theorem how117x0 : E.how 117 0 = 0 := rfl
@[simp] theorem ext118 : E.ext 118 = none := rfl
@[simp] theorem un118 : E.un 118 = [] := rfl
@[simp] theorem nrmX118 : E.nrmX 118 = [] := rfl
@[simp] theorem gho118 (id : Nat) : E.gho 118 id = false := rfl
@[simp] theorem trim118 (id : Nat) : E.trim 118 id = none := rfl
@[simp] theorem how118x0 : E.how 118 0 = 0 := rfl
@[simp] theorem how118x1 : E.how 118 1 = 0 := rfl
@[simp] theorem how118x2 : E.how 118 2 = 0 := rfl
@[simp] theorem keep118x4 : E.keep 118 4 = some [1, 2, 15, 16, 17] := rfl
@[simp] theorem nrm118x4 : E.nrm 118 4 = [] := rfl
@[simp] def I_slices_EqualFunc_Limpl_Op_Limpl_Op_impl_Op_impl_Op_0 (s1 s2 s15 s16 s17 : S) (ob : List (Nat × O)) : F := ⟨[.dead, s1, s2, .dead, .dead, .dead, .dead, .dead, .dead, .dead, .dead, .dead, .dead, .dead, .dead, s15, s16, s17, .dead, .dead, .dead, .dead, .dead, .dead, .dead, .dead, .dead, .dead, .dead, .dead, .dead, .dead], ob⟩
@[simp] theorem ext119 : E.ext 119 = none := rfl
@[simp] theorem un119 : E.un 119 = [] := rfl
@[simp] theorem nrmX119 : E.nrmX 119 = [] := rfl
@[simp] theorem gho119 (id : Nat) : E.gho 119 id = false := rfl
@[simp] theorem trim119 (id : Nat) : E.trim 119 id = none := rfl
@[simp] theorem how119x0 : E.how 119 0 = 0 := rfl
@[simp] theorem how119x1 : E.how 119 1 = 0 := rfl
@[simp] theorem ext120 : E.ext 120 = none := rfl
@[simp] theorem un120 : E.un 120 = [] := rfl
@[simp] theorem nrmX120 : E.nrmX 120 = [] := rfl
@[simp] theorem gho120 (id : Nat) : E.gho 120 id = false := rfl
@[simp] theorem trim120 (id : Nat) : E.trim 120 id = none := rfl
@[simp] theorem how120x0 : E.how 120 0 = 0 := rfl
@[simp] theorem ext121 : E.ext 121 = none := rfl
@[simp] theorem un121 : E.un 121 = [] := rfl
@[simp] theorem nrmX121 : E.nrmX 121 = [] := rfl
@[simp] theorem gho121 (id : Nat) : E.gho 121 id = false := rfl
@[simp] theorem trim121 (id : Nat) : E.trim 121 id = none := rfl
@[simp] theorem how121x0 : E.how 121 0 = 0 := rfl
@[simp] theorem how121x1 : E.how 121 1 = 0 := rfl
@[simp] theorem ext125 : E.ext 125 = none := rfl
@[simp] theorem un125 : E.un 125 = [] := rfl
@[simp] theorem nrmX125 : E.nrmX 125 = [] := rfl
@[simp] theorem gho125 (id : Nat) : E.gho 125 id = false := rfl
@[simp] theorem trim125 (id : Nat) : E.trim 125 id = none := rfl
@[simp] theorem how125x0 : E.how 125 0 = 0 := rfl
@[simp] theorem how125x1 : E.how 125 1 = 0 := rfl
@[simp] theorem ext140 : E.ext 140 = none := rfl
@[simp] theorem un140 : E.un 140 = [] := rfl
@[simp] theorem nrmX140 : E.nrmX 140 = [] := rfl
@[simp] theorem gho140 (id : Nat) : E.gho 140 id = false := rfl
@[simp] theorem trim140 (id : Nat) : E.trim 140 id = none := rfl
@[simp] theorem how140x0 : E.how 140 0 = 0 := rfl
@[simp] theorem how140x1 : E.how 140 1 = 0 := rfl
@[simp] theorem keep140x4 : E.keep 140 4 = some [0, 1, 5] := rfl
@[simp] theorem nrm140x4 : E.nrm 140 4 = [] := rfl
@[simp] def I_laws_eqByteS_0 (s0 s1 s5 : S) (ob : List (Nat × O)) : F := ⟨[s0, s1, .dead, .dead, .dead, s5, .dead, .dead, .dead, .dead, .dead, .dead, .dead, .dead, .dead, .dead, .dead, .dead, .dead, .dead, .dead, .dead, .dead, .dead, .dead, .dead], ob⟩
end Go.Proofs.YtckojpaklblnpaaGreatDoor.Th
