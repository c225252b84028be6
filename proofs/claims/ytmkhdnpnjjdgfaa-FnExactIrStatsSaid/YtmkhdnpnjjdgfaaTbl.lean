/- Tables for the evaluator: types, how arguments are handed over, what lives at loops' heads; the functions' codes. Printed by a program of mine. -/
import Derived.Test.YtmkhdnpnjjdgfaaEd
import Derived.Test.YtmkhdnpnjjdgfaaChecked
import Derived.KernelRfl
set_option maxRecDepth 10000
namespace Go.Proofs.Ytmkhdnpnjjdgfaa.Th
open Go Go.RowKit Go.Proofs.Ytmkhdnpnjjdgfaa.Ev

def howTab : FuncId → Nat → Nat
  | 31, 0 => 1
  | 38, 0 => 1
  | 46, 0 => 1
  | 99, 0 => 1
  | _, _ => 0

def keepTab : FuncId → Nat → Option (List Nat)
  | 14, 3 => some [0, 3, 4]
  | 16, 4 => some [0, 1, 5]
  | 18, 2 => some [0, 3]
  | 19, 3 => some [0, 3, 4]
  | 21, 4 => some [0, 1, 5]
  | 22, 5 => some [0, 1, 5]
  | 23, 2 => some [0, 1, 5]
  | 24, 3 => some [0, 3, 4]
  | 25, 3 => some [0, 3, 4]
  | 27, 4 => some [0, 1, 5]
  | 28, 4 => some [0, 1, 5]
  | 31, 2 => some [0, 1, 5]
  | 32, 2 => some [0, 1, 5]
  | 33, 5 => some [0, 1, 5]
  | 34, 3 => some [0, 3, 4]
  | 35, 3 => some [0, 3, 4]
  | 36, 3 => some [3, 6, 7, 8]
  | 37, 4 => some [0, 1, 5]
  | 38, 2 => some [0, 1, 5]
  | 41, 5 => some [0, 5, 6]
  | 42, 5 => some [0, 5, 6]
  | 43, 2 => some [0, 1, 5]
  | 44, 3 => some [0, 5, 6]
  | 45, 3 => some [0, 5, 6]
  | 46, 2 => some [0, 1, 5]
  | 47, 2 => some [0, 1, 5]
  | 49, 6 => some [1, 2, 3, 4]
  | 49, 9 => some [1, 2, 3, 4, 5]
  | 51, 6 => some [2, 3, 17, 18, 19]
  | 51, 9 => some [2, 3, 17, 18, 19, 24, 25, 26]
  | 52, 2 => some [2, 3, 5]
  | 67, 3 => some [3, 4]
  | 68, 3 => some [0, 3, 4]
  | 69, 3 => some [0, 3, 9, 10, 11]
  | 69, 11 => some [6, 25, 26, 27]
  | 70, 3 => some [3, 4]
  | 71, 5 => some [0, 1, 5, 6]
  | 72, 3 => some [3, 6, 7, 8]
  | 75, 5 => some [0, 1, 7, 8]
  | 76, 4 => some [0, 1, 5]
  | 77, 5 => some [0, 1, 7, 8]
  | 79, 5 => some [0, 1, 2, 9, 10]
  | 86, 5 => some [0, 1, 5]
  | 87, 4 => some [1, 3]
  | 87, 9 => some [1, 4]
  | 87, 13 => some [1, 4, 5, 6]
  | 88, 3 => some [0, 3, 4]
  | 89, 4 => some [1, 18, 19, 20]
  | 89, 9 => some [1, 4, 18, 19, 20, 38, 39]
  | 90, 4 => some [0, 1, 5]
  | 94, 2 => some [0, 1, 7, 8]
  | 95, 4 => some [0, 1, 5]
  | 96, 2 => some [0, 1, 7, 8]
  | 97, 4 => some [0, 1, 12, 13]
  | 98, 6 => some [1, 5, 6, 7]
  | 100, 5 => some [0, 1, 2, 9, 10]
  | 102, 14 => some [2, 4, 7, 9]
  | 103, 2 => some [1, 3]
  | 103, 6 => some [1, 3, 4, 5]
  | 104, 6 => some [1, 3, 4, 5]
  | 104, 10 => some [1, 3, 4, 5, 6, 7]
  | 108, 3 => some [1, 2, 5, 9, 10, 11]
  | 108, 14 => some [1, 5, 8]
  | 109, 6 => some [1, 4, 31, 32]
  | 110, 8 => some [3, 7, 63, 64, 65]
  | 118, 5 => some [0, 1, 5]
  | 123, 6 => some [2, 3, 5]
  | 125, 3 => some [1, 3, 4]
  | 126, 3 => some [0, 3, 4]
  | 127, 2 => some [0, 1, 7, 8]
  | 131, 2 => some [0, 1, 7, 8]
  | 133, 4 => some [0, 1, 12, 13]
  | 137, 4 => some [1, 2, 15, 16, 17]
  | 141, 4 => some [0, 1, 5]
  | _, _ => none

def trimTab : FuncId → Nat → Option (List Nat)
  | 89, 8 => some [1, 4, 18, 19, 20]
  | 102, 5 => some [2, 3, 4, 7, 8]
  | 102, 7 => some [2, 3, 4, 7]
  | 102, 9 => some [2, 4, 7]
  | 108, 7 => some [1, 2, 5, 7, 9, 10, 11]
  | 108, 9 => some [1, 2, 5, 7, 9, 10, 11]
  | 108, 10 => some [1, 2, 5, 9, 10, 11]
  | 108, 11 => some [1, 5]
  | 110, 4 => some [1, 2, 3, 7]
  | 110, 13 => some [3, 7]
  | _, _ => none

def codeAt : List Nat → Code → Code
  | [], c => c
  | 0 :: p, .seq a _ => codeAt p a
  | _ :: p, .seq _ b => codeAt p b
  | 0 :: p, .cond _ a _ => codeAt p a
  | _ :: p, .cond _ _ b => codeAt p b
  | _ :: p, .block _ c => codeAt p c
  | _ :: p, .loop c => codeAt p c
  | _ :: p, .scope c => codeAt p c
  | _, _ => .skip

def bodyOf (f : Func) : Code := match f.body with | some c => c | none => .skip

def extTab : FuncId → Option (List S → List O → Option (V × List (Option O)))
  | _ => none

noncomputable def E : Env := { ty := tvOf Try.prog, how := howTab, ext := extTab, keep := keepTab, trim := trimTab }

noncomputable def fs (f : FuncId) : Option Func := Try.prog.funcs[f]?
abbrev f_laws_FnExactEnough : FuncId := 3
@[simp] theorem fs_laws_FnExactEnough : fs 3 = some Try.f3 := Try.func3
abbrev f_laws_FnExactSafe : FuncId := 4
@[simp] theorem fs_laws_FnExactSafe : fs 4 = some Try.f4 := Try.func4
abbrev f_laws_FnExactCovers : FuncId := 5
@[simp] theorem fs_laws_FnExactCovers : fs 5 = some Try.f5 := Try.func5
abbrev f_laws_FnExactPutRecord : FuncId := 6
@[simp] theorem fs_laws_FnExactPutRecord : fs 6 = some Try.f6 := Try.func6
abbrev f_laws_FnExactPutStream : FuncId := 7
@[simp] theorem fs_laws_FnExactPutStream : fs 7 = some Try.f7 := Try.func7
abbrev f_laws_FnExactMend : FuncId := 8
@[simp] theorem fs_laws_FnExactMend : fs 8 = some Try.f8 := Try.func8
abbrev f_laws_FnExactScan : FuncId := 9
@[simp] theorem fs_laws_FnExactScan : fs 9 = some Try.f9 := Try.func9
abbrev f_laws_FnExactFields : FuncId := 10
@[simp] theorem fs_laws_FnExactFields : fs 10 = some Try.f10 := Try.func10
abbrev f_laws_FnExactIrStats : FuncId := 11
@[simp] theorem fs_laws_FnExactIrStats : fs 11 = some Try.f11 := Try.func11
abbrev f_spec_Enough : FuncId := 13
@[simp] theorem fs_spec_Enough : fs 13 = some Try.f13 := Try.func13
abbrev f_laws_toByteS : FuncId := 14
@[simp] theorem fs_laws_toByteS : fs 14 = some Try.f14 := Try.func14
abbrev f_impl_Enough : FuncId := 15
@[simp] theorem fs_impl_Enough : fs 15 = some Try.f15 := Try.func15
abbrev f_laws_eqByteS : FuncId := 16
@[simp] theorem fs_laws_eqByteS : fs 16 = some Try.f16 := Try.func16
abbrev f_laws_szChangeS : FuncId := 17
@[simp] theorem fs_laws_szChangeS : fs 17 = some Try.f17 := Try.func17
abbrev f_spec_Safe : FuncId := 18
@[simp] theorem fs_spec_Safe : fs 18 = some Try.f18 := Try.func18
abbrev f_laws_toChangeS : FuncId := 19
@[simp] theorem fs_laws_toChangeS : fs 19 = some Try.f19 := Try.func19
abbrev f_impl_Safe : FuncId := 20
@[simp] theorem fs_impl_Safe : fs 20 = some Try.f20 := Try.func20
abbrev f_laws_eqChangeS : FuncId := 21
@[simp] theorem fs_laws_eqChangeS : fs 21 = some Try.f21 := Try.func21
abbrev f_laws_szIntSS : FuncId := 22
@[simp] theorem fs_laws_szIntSS : fs 22 = some Try.f22 := Try.func22
abbrev f_spec_Covers : FuncId := 23
@[simp] theorem fs_spec_Covers : fs 23 = some Try.f23 := Try.func23
abbrev f_laws_toIntSS : FuncId := 24
@[simp] theorem fs_laws_toIntSS : fs 24 = some Try.f24 := Try.func24
abbrev f_laws_toIntS : FuncId := 25
@[simp] theorem fs_laws_toIntS : fs 25 = some Try.f25 := Try.func25
abbrev f_impl_Covers : FuncId := 26
@[simp] theorem fs_impl_Covers : fs 26 = some Try.f26 := Try.func26
abbrev f_laws_eqIntSS : FuncId := 27
@[simp] theorem fs_laws_eqIntSS : fs 27 = some Try.f27 := Try.func27
abbrev f_laws_eqIntS : FuncId := 28
@[simp] theorem fs_laws_eqIntS : fs 28 = some Try.f28 := Try.func28
abbrev f_spec_PutRecord : FuncId := 29
@[simp] theorem fs_spec_PutRecord : fs 29 = some Try.f29 := Try.func29
abbrev f_impl_PutRecord : FuncId := 30
@[simp] theorem fs_impl_PutRecord : fs 30 = some Try.f30 := Try.func30
abbrev f_laws_markByteS : FuncId := 31
@[simp] theorem fs_laws_markByteS : fs 31 = some Try.f31 := Try.func31
abbrev f_laws_heldByteS : FuncId := 32
@[simp] theorem fs_laws_heldByteS : fs 32 = some Try.f32 := Try.func32
abbrev f_laws_szByteSS : FuncId := 33
@[simp] theorem fs_laws_szByteSS : fs 33 = some Try.f33 := Try.func33
abbrev f_spec_PutStream : FuncId := 34
@[simp] theorem fs_spec_PutStream : fs 34 = some Try.f34 := Try.func34
abbrev f_laws_toByteSS : FuncId := 35
@[simp] theorem fs_laws_toByteSS : fs 35 = some Try.f35 := Try.func35
abbrev f_impl_PutStream : FuncId := 36
@[simp] theorem fs_impl_PutStream : fs 36 = some Try.f36 := Try.func36
abbrev f_laws_eqByteSS : FuncId := 37
@[simp] theorem fs_laws_eqByteSS : fs 37 = some Try.f37 := Try.func37
abbrev f_laws_markByteSS : FuncId := 38
@[simp] theorem fs_laws_markByteSS : fs 38 = some Try.f38 := Try.func38
abbrev f_spec_Mend : FuncId := 39
@[simp] theorem fs_spec_Mend : fs 39 = some Try.f39 := Try.func39
abbrev f_impl_Mend : FuncId := 40
@[simp] theorem fs_impl_Mend : fs 40 = some Try.f40 := Try.func40
abbrev f_spec_Scan : FuncId := 41
@[simp] theorem fs_spec_Scan : fs 41 = some Try.f41 := Try.func41
abbrev f_impl_Scan : FuncId := 42
@[simp] theorem fs_impl_Scan : fs 42 = some Try.f42 := Try.func42
abbrev f_laws_heldByteSS : FuncId := 43
@[simp] theorem fs_laws_heldByteSS : fs 43 = some Try.f43 := Try.func43
abbrev f_spec_Fields : FuncId := 44
@[simp] theorem fs_spec_Fields : fs 44 = some Try.f44 := Try.func44
abbrev f_impl_Fields : FuncId := 45
@[simp] theorem fs_impl_Fields : fs 45 = some Try.f45 := Try.func45
abbrev f_laws_markIntS : FuncId := 46
@[simp] theorem fs_laws_markIntS : fs 46 = some Try.f46 := Try.func46
abbrev f_laws_heldIntS : FuncId := 47
@[simp] theorem fs_laws_heldIntS : fs 47 = some Try.f47 := Try.func47
abbrev f_laws_szIR : FuncId := 48
@[simp] theorem fs_laws_szIR : fs 48 = some Try.f48 := Try.func48
abbrev f_spec_IrStats : FuncId := 49
@[simp] theorem fs_spec_IrStats : fs 49 = some Try.f49 := Try.func49
abbrev f_laws_toIR : FuncId := 50
@[simp] theorem fs_laws_toIR : fs 50 = some Try.f50 := Try.func50
abbrev f_impl_IrStats : FuncId := 51
@[simp] theorem fs_impl_IrStats : fs 51 = some Try.f51 := Try.func51
abbrev f_laws_eqIntA18 : FuncId := 52
@[simp] theorem fs_laws_eqIntA18 : fs 52 = some Try.f52 := Try.func52
abbrev f_laws_eqIR : FuncId := 53
@[simp] theorem fs_laws_eqIR : fs 53 = some Try.f53 := Try.func53
abbrev f_spec_l1In : FuncId := 57
@[simp] theorem fs_spec_l1In : fs 57 = some Try.f57 := Try.func57
abbrev f_laws_toChange : FuncId := 58
@[simp] theorem fs_laws_toChange : fs 58 = some Try.f58 := Try.func58
abbrev f_slices_ContainsFunc_Limpl_Change_impl_Change : FuncId := 59
@[simp] theorem fs_slices_ContainsFunc_Limpl_Change_impl_Change : fs 59 = some Try.f59 := Try.func59
abbrev f_impl_SafeS1 : FuncId := 60
@[simp] theorem fs_impl_SafeS1 : fs 60 = some Try.f60 := Try.func60
abbrev f_laws_eqChange : FuncId := 61
@[simp] theorem fs_laws_eqChange : fs 61 = some Try.f61 := Try.func61
abbrev f_laws_szIntS : FuncId := 62
@[simp] theorem fs_laws_szIntS : fs 62 = some Try.f62 := Try.func62
abbrev f_spec_l19Begins : FuncId := 63
@[simp] theorem fs_spec_l19Begins : fs 63 = some Try.f63 := Try.func63
abbrev f_slices_ContainsFunc_LLint_Lint : FuncId := 64
@[simp] theorem fs_slices_ContainsFunc_LLint_Lint : fs 64 = some Try.f64 := Try.func64
abbrev f_impl_CoversS1 : FuncId := 65
@[simp] theorem fs_impl_CoversS1 : fs 65 = some Try.f65 := Try.func65
abbrev f_impl_beginsWith : FuncId := 66
@[simp] theorem fs_impl_beginsWith : fs 66 = some Try.f66 := Try.func66
abbrev f_spec_PutVarint : FuncId := 67
@[simp] theorem fs_spec_PutVarint : fs 67 = some Try.f67 := Try.func67
abbrev f_spec_l11Sum : FuncId := 68
@[simp] theorem fs_spec_l11Sum : fs 68 = some Try.f68 := Try.func68
abbrev f_slices_Concat_Lbyte_byte : FuncId := 69
@[simp] theorem fs_slices_Concat_Lbyte_byte : fs 69 = some Try.f69 := Try.func69
abbrev f_impl_PutVarint : FuncId := 70
@[simp] theorem fs_impl_PutVarint : fs 70 = some Try.f70 := Try.func70
abbrev f_impl_PutFixed : FuncId := 71
@[simp] theorem fs_impl_PutFixed : fs 71 = some Try.f71 := Try.func71
abbrev f_impl_sum32 : FuncId := 72
@[simp] theorem fs_impl_sum32 : fs 72 = some Try.f72 := Try.func72
abbrev f_laws_szByteS : FuncId := 73
@[simp] theorem fs_laws_szByteS : fs 73 = some Try.f73 := Try.func73
abbrev f_impl_copyBytes : FuncId := 74
@[simp] theorem fs_impl_copyBytes : fs 74 = some Try.f74 := Try.func74
abbrev f_spec_GetVarint : FuncId := 75
@[simp] theorem fs_spec_GetVarint : fs 75 = some Try.f75 := Try.func75
abbrev f_spec_l1Same : FuncId := 76
@[simp] theorem fs_spec_l1Same : fs 76 = some Try.f76 := Try.func76
abbrev f_impl_GetVarint : FuncId := 77
@[simp] theorem fs_impl_GetVarint : fs 77 = some Try.f77 := Try.func77
abbrev f_impl_within : FuncId := 78
@[simp] theorem fs_impl_within : fs 78 = some Try.f78 := Try.func78
abbrev f_impl_GetFixed : FuncId := 79
@[simp] theorem fs_impl_GetFixed : fs 79 = some Try.f79 := Try.func79
abbrev f_spec_GetTag : FuncId := 80
@[simp] theorem fs_spec_GetTag : fs 80 = some Try.f80 := Try.func80
abbrev f_spec_l7Code : FuncId := 81
@[simp] theorem fs_spec_l7Code : fs 81 = some Try.f81 := Try.func81
abbrev f_spec_Skip : FuncId := 82
@[simp] theorem fs_spec_Skip : fs 82 = some Try.f82 := Try.func82
abbrev f_impl_GetTag : FuncId := 83
@[simp] theorem fs_impl_GetTag : fs 83 = some Try.f83 := Try.func83
abbrev f_impl_tagCode : FuncId := 84
@[simp] theorem fs_impl_tagCode : fs 84 = some Try.f84 := Try.func84
abbrev f_impl_Skip : FuncId := 85
@[simp] theorem fs_impl_Skip : fs 85 = some Try.f85 := Try.func85
abbrev f_laws_szModS : FuncId := 86
@[simp] theorem fs_laws_szModS : fs 86 = some Try.f86 := Try.func86
abbrev f_spec_IrOk : FuncId := 87
@[simp] theorem fs_spec_IrOk : fs 87 = some Try.f87 := Try.func87
abbrev f_laws_toModS : FuncId := 88
@[simp] theorem fs_laws_toModS : fs 88 = some Try.f88 := Try.func88
abbrev f_impl_IrOk : FuncId := 89
@[simp] theorem fs_impl_IrOk : fs 89 = some Try.f89 := Try.func89
abbrev f_laws_eqModS : FuncId := 90
@[simp] theorem fs_laws_eqModS : fs 90 = some Try.f90 := Try.func90
abbrev f_slices_IndexFunc_Limpl_Change_impl_Change : FuncId := 94
@[simp] theorem fs_slices_IndexFunc_Limpl_Change_impl_Change : fs 94 = some Try.f94 := Try.func94
abbrev f_spec_l9SameInts : FuncId := 95
@[simp] theorem fs_spec_l9SameInts : fs 95 = some Try.f95 := Try.func95
abbrev f_slices_IndexFunc_LLint_Lint : FuncId := 96
@[simp] theorem fs_slices_IndexFunc_LLint_Lint : fs 96 = some Try.f96 := Try.func96
abbrev f_slices_Equal_Lint_int : FuncId := 97
@[simp] theorem fs_slices_Equal_Lint_int : fs 97 = some Try.f97 := Try.func97
abbrev f_spec_PutFixed : FuncId := 98
@[simp] theorem fs_spec_PutFixed : fs 98 = some Try.f98 := Try.func98
abbrev f_slices_Grow_Lbyte_byte : FuncId := 99
@[simp] theorem fs_slices_Grow_Lbyte_byte : fs 99 = some Try.f99 := Try.func99
abbrev f_spec_GetFixed : FuncId := 100
@[simp] theorem fs_spec_GetFixed : fs 100 = some Try.f100 := Try.func100
abbrev f_laws_szMod : FuncId := 101
@[simp] theorem fs_laws_szMod : fs 101 = some Try.f101 := Try.func101
abbrev f_spec_l9OpOk : FuncId := 102
@[simp] theorem fs_spec_l9OpOk : fs 102 = some Try.f102 := Try.func102
abbrev f_spec_l9OneofsOk : FuncId := 103
@[simp] theorem fs_spec_l9OneofsOk : fs 103 = some Try.f103 := Try.func103
abbrev f_spec_l9Jumps : FuncId := 104
@[simp] theorem fs_spec_l9Jumps : fs 104 = some Try.f104 := Try.func104
abbrev f_laws_toMod : FuncId := 105
@[simp] theorem fs_laws_toMod : fs 105 = some Try.f105 := Try.func105
abbrev f_slices_ContainsFunc_Limpl_Mod_impl_Mod : FuncId := 106
@[simp] theorem fs_slices_ContainsFunc_Limpl_Mod_impl_Mod : fs 106 = some Try.f106 := Try.func106
abbrev f_impl_IrOkS1 : FuncId := 107
@[simp] theorem fs_impl_IrOkS1 : fs 107 = some Try.f107 := Try.func107
abbrev f_impl_opsOk : FuncId := 108
@[simp] theorem fs_impl_opsOk : fs 108 = some Try.f108 := Try.func108
abbrev f_impl_jumpsOf : FuncId := 109
@[simp] theorem fs_impl_jumpsOf : fs 109 = some Try.f109 := Try.func109
abbrev f_impl_marksOk : FuncId := 110
@[simp] theorem fs_impl_marksOk : fs 110 = some Try.f110 := Try.func110
abbrev f_laws_eqMod : FuncId := 111
@[simp] theorem fs_laws_eqMod : fs 111 = some Try.f111 := Try.func111
abbrev f_laws_szOpS : FuncId := 118
@[simp] theorem fs_laws_szOpS : fs 118 = some Try.f118 := Try.func118
abbrev f_spec_l5Num : FuncId := 119
@[simp] theorem fs_spec_l5Num : fs 119 = some Try.f119 := Try.func119
abbrev f_spec_PutTag : FuncId := 120
@[simp] theorem fs_spec_PutTag : fs 120 = some Try.f120 := Try.func120
abbrev f_spec_l9Wire : FuncId := 121
@[simp] theorem fs_spec_l9Wire : fs 121 = some Try.f121 := Try.func121
abbrev f_spec_WireOf : FuncId := 122
@[simp] theorem fs_spec_WireOf : fs 122 = some Try.f122 := Try.func122
abbrev f_spec_l9Inline : FuncId := 123
@[simp] theorem fs_spec_l9Inline : fs 123 = some Try.f123 := Try.func123
abbrev f_spec_l9Block : FuncId := 124
@[simp] theorem fs_spec_l9Block : fs 124 = some Try.f124 := Try.func124
abbrev f_spec_l9Oneofs : FuncId := 125
@[simp] theorem fs_spec_l9Oneofs : fs 125 = some Try.f125 := Try.func125
abbrev f_laws_toOpS : FuncId := 126
@[simp] theorem fs_laws_toOpS : fs 126 = some Try.f126 := Try.func126
abbrev f_slices_IndexFunc_Limpl_Mod_impl_Mod : FuncId := 127
@[simp] theorem fs_slices_IndexFunc_Limpl_Mod_impl_Mod : fs 127 = some Try.f127 := Try.func127
abbrev f_impl_numOk : FuncId := 128
@[simp] theorem fs_impl_numOk : fs 128 = some Try.f128 := Try.func128
abbrev f_slices_ContainsFunc_Limpl_Op_impl_Op : FuncId := 129
@[simp] theorem fs_slices_ContainsFunc_Limpl_Op_impl_Op : fs 129 = some Try.f129 := Try.func129
abbrev f_impl_opsOkS1 : FuncId := 130
@[simp] theorem fs_impl_opsOkS1 : fs 130 = some Try.f130 := Try.func130
abbrev f_slices_IndexFunc_Limpl_Op_impl_Op : FuncId := 131
@[simp] theorem fs_slices_IndexFunc_Limpl_Op_impl_Op : fs 131 = some Try.f131 := Try.func131
abbrev f_impl_jumpsOfS1 : FuncId := 132
@[simp] theorem fs_impl_jumpsOfS1 : fs 132 = some Try.f132 := Try.func132
abbrev f_slices_Equal_Lbyte_byte : FuncId := 133
@[simp] theorem fs_slices_Equal_Lbyte_byte : fs 133 = some Try.f133 := Try.func133
abbrev f_impl_tagOf : FuncId := 134
@[simp] theorem fs_impl_tagOf : fs 134 = some Try.f134 := Try.func134
abbrev f_impl_WireOf : FuncId := 135
@[simp] theorem fs_impl_WireOf : fs 135 = some Try.f135 := Try.func135
abbrev f_impl_mayRun : FuncId := 136
@[simp] theorem fs_impl_mayRun : fs 136 = some Try.f136 := Try.func136
abbrev f_slices_EqualFunc_Limpl_Op_Limpl_Op_impl_Op_impl_Op : FuncId := 137
@[simp] theorem fs_slices_EqualFunc_Limpl_Op_Limpl_Op_impl_Op_impl_Op : fs 137 = some Try.f137 := Try.func137
abbrev f_impl_marksOkS1 : FuncId := 138
@[simp] theorem fs_impl_marksOkS1 : fs 138 = some Try.f138 := Try.func138
abbrev f_impl_isBare : FuncId := 139
@[simp] theorem fs_impl_isBare : fs 139 = some Try.f139 := Try.func139
abbrev f_impl_sameField : FuncId := 140
@[simp] theorem fs_impl_sameField : fs 140 = some Try.f140 := Try.func140
abbrev f_laws_eqOpS : FuncId := 141
@[simp] theorem fs_laws_eqOpS : fs 141 = some Try.f141 := Try.func141
abbrev f_laws_szOp : FuncId := 151
@[simp] theorem fs_laws_szOp : fs 151 = some Try.f151 := Try.func151
abbrev f_spec_l1Wire : FuncId := 152
@[simp] theorem fs_spec_l1Wire : fs 152 = some Try.f152 := Try.func152
abbrev f_spec_l9Plain : FuncId := 153
@[simp] theorem fs_spec_l9Plain : fs 153 = some Try.f153 := Try.func153
abbrev f_spec_l9Same : FuncId := 154
@[simp] theorem fs_spec_l9Same : fs 154 = some Try.f154 := Try.func154
abbrev f_laws_toOp : FuncId := 155
@[simp] theorem fs_laws_toOp : fs 155 = some Try.f155 := Try.func155
abbrev f_impl_isPacked : FuncId := 156
@[simp] theorem fs_impl_isPacked : fs 156 = some Try.f156 := Try.func156
abbrev f_impl_PutTag : FuncId := 157
@[simp] theorem fs_impl_PutTag : fs 157 = some Try.f157 := Try.func157
abbrev f_laws_eqOp : FuncId := 158
@[simp] theorem fs_laws_eqOp : fs 158 = some Try.f158 := Try.func158
@[simp] theorem ty3 : E.ty 3 = some ⟨.int .i64, 1, 8, [.lit (.int .i64 0)], false⟩ := by kernel_rfl
@[simp] theorem ty4 : E.ty 4 = some ⟨.bool, 1, 1, [.lit (.bool false)], false⟩ := by kernel_rfl
@[simp] theorem ty5 : E.ty 5 = some ⟨.int .u8, 1, 1, [.lit (.int .u8 0)], false⟩ := by kernel_rfl
@[simp] theorem ty22 : E.ty 22 = some ⟨.slice 5, 1, 24, [.sl 0 []], false⟩ := by kernel_rfl
@[simp] theorem ty27 : E.ty 27 = some ⟨.slice 77, 1, 24, [.sl 0 []], false⟩ := by kernel_rfl
@[simp] theorem ty30 : E.ty 30 = some ⟨.slice 75, 1, 24, [.sl 0 []], false⟩ := by kernel_rfl
@[simp] theorem ty34 : E.ty 34 = some ⟨.slice 35, 1, 24, [.sl 0 []], false⟩ := by kernel_rfl
@[simp] theorem ty35 : E.ty 35 = some ⟨.slice 3, 1, 24, [.sl 0 []], false⟩ := by kernel_rfl
@[simp] theorem ty43 : E.ty 43 = some ⟨.slice 22, 1, 24, [.sl 0 []], false⟩ := by kernel_rfl
@[simp] theorem ty54 : E.ty 54 = some ⟨.slice 117, 1, 24, [.sl 0 []], false⟩ := by kernel_rfl
@[simp] theorem ty56 : E.ty 56 = some ⟨.struct #[⟨"Mods", 54, 0, false, "", "", 0⟩], 1, 24, [.sl 0 []], true⟩ := by kernel_rfl
@[simp] theorem ty58 : E.ty 58 = some ⟨.array 18 3, 18, 144, [.lit (.int .i64 0), .lit (.int .i64 0), .lit (.int .i64 0), .lit (.int .i64 0), .lit (.int .i64 0), .lit (.int .i64 0), .lit (.int .i64 0), .lit (.int .i64 0), .lit (.int .i64 0), .lit (.int .i64 0), .lit (.int .i64 0), .lit (.int .i64 0), .lit (.int .i64 0), .lit (.int .i64 0), .lit (.int .i64 0), .lit (.int .i64 0), .lit (.int .i64 0), .lit (.int .i64 0)], true⟩ := by kernel_rfl
@[simp] theorem ty60 : E.ty 60 = some ⟨.slice 98, 1, 24, [.sl 0 []], false⟩ := by kernel_rfl
@[simp] theorem ty62 : E.ty 62 = some ⟨.struct #[⟨"Mods", 60, 0, false, "", "", 0⟩], 1, 24, [.sl 0 []], true⟩ := by kernel_rfl
@[simp] theorem ty75 : E.ty 75 = some ⟨.struct #[⟨"Kind", 3, 0, false, "", "", 0⟩, ⟨"Message", 3, 1, false, "", "", 8⟩, ⟨"Num", 3, 2, false, "", "", 16⟩], 3, 24, [.lit (.int .i64 0), .lit (.int .i64 0), .lit (.int .i64 0)], true⟩ := by kernel_rfl
@[simp] theorem ty77 : E.ty 77 = some ⟨.struct #[⟨"Kind", 3, 0, false, "", "", 0⟩, ⟨"Message", 3, 1, false, "", "", 8⟩, ⟨"Num", 3, 2, false, "", "", 16⟩], 3, 24, [.lit (.int .i64 0), .lit (.int .i64 0), .lit (.int .i64 0)], true⟩ := by kernel_rfl
@[simp] theorem ty96 : E.ty 96 = some ⟨.slice 100, 1, 24, [.sl 0 []], false⟩ := by kernel_rfl
@[simp] theorem ty98 : E.ty 98 = some ⟨.struct #[⟨"Ops", 96, 0, false, "", "", 0⟩, ⟨"Jumps", 35, 1, false, "", "", 24⟩, ⟨"Cached", 4, 2, false, "", "", 48⟩], 3, 56, [.sl 0 [], .sl 0 [], .lit (.bool false)], true⟩ := by kernel_rfl
@[simp] theorem ty100 : E.ty 100 = some ⟨.struct #[⟨"Num", 3, 0, false, "", "", 0⟩, ⟨"Kind", 3, 1, false, "", "", 8⟩, ⟨"Ref", 3, 2, false, "", "", 16⟩, ⟨"Repeated", 4, 3, false, "", "", 24⟩, ⟨"Oneof", 3, 4, false, "", "", 32⟩, ⟨"Tag", 22, 5, false, "", "", 40⟩, ⟨"Quick", 4, 6, false, "", "", 64⟩, ⟨"Run", 3, 7, false, "", "", 72⟩, ⟨"Inline", 96, 8, false, "", "", 80⟩], 9, 104, [.lit (.int .i64 0), .lit (.int .i64 0), .lit (.int .i64 0), .lit (.bool false), .lit (.int .i64 0), .sl 0 [], .lit (.bool false), .lit (.int .i64 0), .sl 0 []], true⟩ := by kernel_rfl
@[simp] theorem ty110 : E.ty 110 = some ⟨.int .u64, 1, 8, [.lit (.int .u64 0)], false⟩ := by kernel_rfl
@[simp] theorem ty112 : E.ty 112 = some ⟨.int .u64, 1, 8, [.lit (.int .u64 0)], false⟩ := by kernel_rfl
@[simp] theorem ty113 : E.ty 113 = some ⟨.int .u32, 1, 4, [.lit (.int .u32 0)], false⟩ := by kernel_rfl
@[simp] theorem ty115 : E.ty 115 = some ⟨.slice 175, 1, 24, [.sl 0 []], false⟩ := by kernel_rfl
@[simp] theorem ty117 : E.ty 117 = some ⟨.struct #[⟨"Ops", 115, 0, false, "", "", 0⟩, ⟨"Jumps", 35, 1, false, "", "", 24⟩, ⟨"Cached", 4, 2, false, "", "", 48⟩], 3, 56, [.sl 0 [], .sl 0 [], .lit (.bool false)], true⟩ := by kernel_rfl
@[simp] theorem ty175 : E.ty 175 = some ⟨.struct #[⟨"Num", 3, 0, false, "", "", 0⟩, ⟨"Kind", 3, 1, false, "", "", 8⟩, ⟨"Ref", 3, 2, false, "", "", 16⟩, ⟨"Repeated", 4, 3, false, "", "", 24⟩, ⟨"Oneof", 3, 4, false, "", "", 32⟩, ⟨"Tag", 22, 5, false, "", "", 40⟩, ⟨"Quick", 4, 6, false, "", "", 64⟩, ⟨"Run", 3, 7, false, "", "", 72⟩, ⟨"Inline", 115, 8, false, "", "", 80⟩], 9, 104, [.lit (.int .i64 0), .lit (.int .i64 0), .lit (.int .i64 0), .lit (.bool false), .lit (.int .i64 0), .sl 0 [], .lit (.bool false), .lit (.int .i64 0), .sl 0 []], true⟩ := by kernel_rfl
@[simp] theorem ext3 : E.ext 3 = none := rfl
@[simp] theorem trim3 (id : Nat) : E.trim 3 id = none := rfl
@[simp] theorem how3x0 : E.how 3 0 = 0 := rfl
@[simp] theorem ext4 : E.ext 4 = none := rfl
@[simp] theorem trim4 (id : Nat) : E.trim 4 id = none := rfl
@[simp] theorem how4x0 : E.how 4 0 = 0 := rfl
@[simp] theorem ext5 : E.ext 5 = none := rfl
@[simp] theorem trim5 (id : Nat) : E.trim 5 id = none := rfl
@[simp] theorem how5x0 : E.how 5 0 = 0 := rfl
@[simp] theorem how5x1 : E.how 5 1 = 0 := rfl
@[simp] theorem ext6 : E.ext 6 = none := rfl
@[simp] theorem trim6 (id : Nat) : E.trim 6 id = none := rfl
@[simp] theorem how6x0 : E.how 6 0 = 0 := rfl
@[simp] theorem ext7 : E.ext 7 = none := rfl
@[simp] theorem trim7 (id : Nat) : E.trim 7 id = none := rfl
@[simp] theorem how7x0 : E.how 7 0 = 0 := rfl
@[simp] theorem ext8 : E.ext 8 = none := rfl
@[simp] theorem trim8 (id : Nat) : E.trim 8 id = none := rfl
@[simp] theorem how8x0 : E.how 8 0 = 0 := rfl
@[simp] theorem ext9 : E.ext 9 = none := rfl
@[simp] theorem trim9 (id : Nat) : E.trim 9 id = none := rfl
@[simp] theorem how9x0 : E.how 9 0 = 0 := rfl
@[simp] theorem ext10 : E.ext 10 = none := rfl
@[simp] theorem trim10 (id : Nat) : E.trim 10 id = none := rfl
@[simp] theorem how10x0 : E.how 10 0 = 0 := rfl
@[simp] theorem ext11 : E.ext 11 = none := rfl
@[simp] theorem trim11 (id : Nat) : E.trim 11 id = none := rfl
@[simp] theorem how11x0 : E.how 11 0 = 0 := rfl
@[simp] theorem ext13 : E.ext 13 = none := rfl
@[simp] theorem trim13 (id : Nat) : E.trim 13 id = none := rfl
@[simp] theorem how13x0 : E.how 13 0 = 0 := rfl
@[simp] theorem ext14 : E.ext 14 = none := rfl
@[simp] theorem trim14 (id : Nat) : E.trim 14 id = none := rfl
@[simp] theorem how14x0 : E.how 14 0 = 0 := rfl
@[simp] theorem keep14x3 : E.keep 14 3 = some [0, 3, 4] := rfl
@[simp] def I_laws_toByteS_0 (s0 s3 s4 : S) (ob : List (Nat × O)) : F := ⟨[s0, .dead, .dead, s3, s4, .dead, .dead, .dead, .dead, .dead, .dead, .dead, .dead, .dead, .dead, .dead, .dead, .dead, .dead, .dead, .dead, .dead], ob⟩
@[simp] theorem ext15 : E.ext 15 = none := rfl
@[simp] theorem trim15 (id : Nat) : E.trim 15 id = none := rfl
@[simp] theorem how15x0 : E.how 15 0 = 0 := rfl
@[simp] theorem ext16 : E.ext 16 = none := rfl
@[simp] theorem trim16 (id : Nat) : E.trim 16 id = none := rfl
@[simp] theorem how16x0 : E.how 16 0 = 0 := rfl
@[simp] theorem how16x1 : E.how 16 1 = 0 := rfl
@[simp] theorem keep16x4 : E.keep 16 4 = some [0, 1, 5] := rfl
@[simp] def I_laws_eqByteS_0 (s0 s1 s5 : S) (ob : List (Nat × O)) : F := ⟨[s0, s1, .dead, .dead, .dead, s5, .dead, .dead, .dead, .dead, .dead, .dead, .dead, .dead, .dead, .dead, .dead, .dead, .dead, .dead, .dead, .dead, .dead, .dead, .dead, .dead], ob⟩
@[simp] theorem ext17 : E.ext 17 = none := rfl
@[simp] theorem trim17 (id : Nat) : E.trim 17 id = none := rfl
@[simp] theorem how17x0 : E.how 17 0 = 0 := rfl
@[simp] theorem how17x1 : E.how 17 1 = 0 := rfl
@[simp] theorem ext18 : E.ext 18 = none := rfl
@[simp] theorem trim18 (id : Nat) : E.trim 18 id = none := rfl
@[simp] theorem how18x0 : E.how 18 0 = 0 := rfl
@[simp] theorem keep18x2 : E.keep 18 2 = some [0, 3] := rfl
@[simp] def I_spec_Safe_0 (s0 s3 : S) (ob : List (Nat × O)) : F := ⟨[s0, .dead, .dead, s3, .dead, .dead, .dead, .dead, .dead, .dead, .dead, .dead, .dead, .dead, .dead, .dead, .dead], ob⟩
@[simp] theorem ext19 : E.ext 19 = none := rfl
@[simp] theorem trim19 (id : Nat) : E.trim 19 id = none := rfl
@[simp] theorem how19x0 : E.how 19 0 = 0 := rfl
@[simp] theorem keep19x3 : E.keep 19 3 = some [0, 3, 4] := rfl
@[simp] def I_laws_toChangeS_0 (s0 s3 s4 : S) (ob : List (Nat × O)) : F := ⟨[s0, .dead, .dead, s3, s4, .dead, .dead, .dead, .dead, .dead, .dead, .dead, .dead, .dead, .dead, .dead, .dead, .dead, .dead, .dead, .dead, .dead, .dead], ob⟩
@[simp] theorem ext20 : E.ext 20 = none := rfl
@[simp] theorem trim20 (id : Nat) : E.trim 20 id = none := rfl
@[simp] theorem how20x0 : E.how 20 0 = 0 := rfl
@[simp] theorem ext21 : E.ext 21 = none := rfl
@[simp] theorem trim21 (id : Nat) : E.trim 21 id = none := rfl
@[simp] theorem how21x0 : E.how 21 0 = 0 := rfl
@[simp] theorem how21x1 : E.how 21 1 = 0 := rfl
@[simp] theorem keep21x4 : E.keep 21 4 = some [0, 1, 5] := rfl
@[simp] def I_laws_eqChangeS_0 (s0 s1 s5 : S) (ob : List (Nat × O)) : F := ⟨[s0, s1, .dead, .dead, .dead, s5, .dead, .dead, .dead, .dead, .dead, .dead, .dead, .dead, .dead, .dead, .dead, .dead, .dead, .dead, .dead, .dead, .dead, .dead, .dead, .dead, .dead], ob⟩
@[simp] theorem ext22 : E.ext 22 = none := rfl
@[simp] theorem trim22 (id : Nat) : E.trim 22 id = none := rfl
@[simp] theorem how22x0 : E.how 22 0 = 0 := rfl
@[simp] theorem how22x1 : E.how 22 1 = 0 := rfl
@[simp] theorem keep22x5 : E.keep 22 5 = some [0, 1, 5] := rfl
@[simp] def I_laws_szIntSS_0 (s0 s1 s5 : S) (ob : List (Nat × O)) : F := ⟨[s0, s1, .dead, .dead, .dead, s5, .dead, .dead, .dead, .dead, .dead, .dead, .dead, .dead, .dead, .dead, .dead, .dead, .dead, .dead, .dead, .dead, .dead, .dead, .dead, .dead, .dead], ob⟩
@[simp] theorem ext23 : E.ext 23 = none := rfl
@[simp] theorem trim23 (id : Nat) : E.trim 23 id = none := rfl
@[simp] theorem how23x0 : E.how 23 0 = 0 := rfl
@[simp] theorem how23x1 : E.how 23 1 = 0 := rfl
@[simp] theorem keep23x2 : E.keep 23 2 = some [0, 1, 5] := rfl
@[simp] def I_spec_Covers_0 (s0 s1 s5 : S) (ob : List (Nat × O)) : F := ⟨[s0, s1, .dead, .dead, .dead, s5, .dead, .dead, .dead, .dead, .dead, .dead, .dead, .dead, .dead, .dead, .dead, .dead], ob⟩
@[simp] theorem ext24 : E.ext 24 = none := rfl
@[simp] theorem trim24 (id : Nat) : E.trim 24 id = none := rfl
@[simp] theorem how24x0 : E.how 24 0 = 0 := rfl
@[simp] theorem keep24x3 : E.keep 24 3 = some [0, 3, 4] := rfl
@[simp] def I_laws_toIntSS_0 (s0 s3 s4 : S) (ob : List (Nat × O)) : F := ⟨[s0, .dead, .dead, s3, s4, .dead, .dead, .dead, .dead, .dead, .dead, .dead, .dead, .dead, .dead, .dead, .dead, .dead, .dead, .dead, .dead, .dead, .dead], ob⟩
@[simp] theorem ext25 : E.ext 25 = none := rfl
@[simp] theorem trim25 (id : Nat) : E.trim 25 id = none := rfl
@[simp] theorem how25x0 : E.how 25 0 = 0 := rfl
@[simp] theorem keep25x3 : E.keep 25 3 = some [0, 3, 4] := rfl
@[simp] def I_laws_toIntS_0 (s0 s3 s4 : S) (ob : List (Nat × O)) : F := ⟨[s0, .dead, .dead, s3, s4, .dead, .dead, .dead, .dead, .dead, .dead, .dead, .dead, .dead, .dead, .dead, .dead, .dead, .dead, .dead, .dead, .dead], ob⟩
@[simp] theorem ext26 : E.ext 26 = none := rfl
@[simp] theorem trim26 (id : Nat) : E.trim 26 id = none := rfl
@[simp] theorem how26x0 : E.how 26 0 = 0 := rfl
@[simp] theorem how26x1 : E.how 26 1 = 0 := rfl
@[simp] theorem ext27 : E.ext 27 = none := rfl
@[simp] theorem trim27 (id : Nat) : E.trim 27 id = none := rfl
@[simp] theorem how27x0 : E.how 27 0 = 0 := rfl
@[simp] theorem how27x1 : E.how 27 1 = 0 := rfl
@[simp] theorem keep27x4 : E.keep 27 4 = some [0, 1, 5] := rfl
@[simp] def I_laws_eqIntSS_0 (s0 s1 s5 : S) (ob : List (Nat × O)) : F := ⟨[s0, s1, .dead, .dead, .dead, s5, .dead, .dead, .dead, .dead, .dead, .dead, .dead, .dead, .dead, .dead, .dead, .dead, .dead, .dead, .dead, .dead, .dead, .dead, .dead, .dead, .dead], ob⟩
@[simp] theorem ext28 : E.ext 28 = none := rfl
@[simp] theorem trim28 (id : Nat) : E.trim 28 id = none := rfl
@[simp] theorem how28x0 : E.how 28 0 = 0 := rfl
@[simp] theorem how28x1 : E.how 28 1 = 0 := rfl
@[simp] theorem keep28x4 : E.keep 28 4 = some [0, 1, 5] := rfl
@[simp] def I_laws_eqIntS_0 (s0 s1 s5 : S) (ob : List (Nat × O)) : F := ⟨[s0, s1, .dead, .dead, .dead, s5, .dead, .dead, .dead, .dead, .dead, .dead, .dead, .dead, .dead, .dead, .dead, .dead, .dead, .dead, .dead, .dead, .dead, .dead, .dead, .dead], ob⟩
@[simp] theorem ext29 : E.ext 29 = none := rfl
@[simp] theorem trim29 (id : Nat) : E.trim 29 id = none := rfl
@[simp] theorem how29x0 : E.how 29 0 = 0 := rfl
@[simp] theorem ext30 : E.ext 30 = none := rfl
@[simp] theorem trim30 (id : Nat) : E.trim 30 id = none := rfl
@[simp] theorem how30x0 : E.how 30 0 = 0 := rfl
@[simp] theorem ext31 : E.ext 31 = none := rfl
@[simp] theorem trim31 (id : Nat) : E.trim 31 id = none := rfl
@[simp] theorem how31x0 : E.how 31 0 = 1 := rfl
@[simp] theorem how31x1 : E.how 31 1 = 0 := rfl
@[simp] theorem keep31x2 : E.keep 31 2 = some [0, 1, 5] := rfl
@[simp] def I_laws_markByteS_0 (s0 s1 s5 : S) (ob : List (Nat × O)) : F := ⟨[s0, s1, .dead, .dead, .dead, s5, .dead, .dead, .dead, .dead, .dead, .dead, .dead, .dead, .dead, .dead, .dead, .dead, .dead, .dead], ob⟩
@[simp] theorem ext32 : E.ext 32 = none := rfl
@[simp] theorem trim32 (id : Nat) : E.trim 32 id = none := rfl
@[simp] theorem how32x0 : E.how 32 0 = 0 := rfl
@[simp] theorem how32x1 : E.how 32 1 = 0 := rfl
@[simp] theorem keep32x2 : E.keep 32 2 = some [0, 1, 5] := rfl
@[simp] def I_laws_heldByteS_0 (s0 s1 s5 : S) (ob : List (Nat × O)) : F := ⟨[s0, s1, .dead, .dead, .dead, s5, .dead, .dead, .dead, .dead, .dead, .dead, .dead, .dead, .dead, .dead, .dead, .dead, .dead, .dead, .dead, .dead], ob⟩
@[simp] theorem ext33 : E.ext 33 = none := rfl
@[simp] theorem trim33 (id : Nat) : E.trim 33 id = none := rfl
@[simp] theorem how33x0 : E.how 33 0 = 0 := rfl
@[simp] theorem how33x1 : E.how 33 1 = 0 := rfl
@[simp] theorem keep33x5 : E.keep 33 5 = some [0, 1, 5] := rfl
@[simp] def I_laws_szByteSS_0 (s0 s1 s5 : S) (ob : List (Nat × O)) : F := ⟨[s0, s1, .dead, .dead, .dead, s5, .dead, .dead, .dead, .dead, .dead, .dead, .dead, .dead, .dead, .dead, .dead, .dead, .dead, .dead, .dead, .dead, .dead, .dead, .dead, .dead, .dead], ob⟩
@[simp] theorem ext34 : E.ext 34 = none := rfl
@[simp] theorem trim34 (id : Nat) : E.trim 34 id = none := rfl
@[simp] theorem how34x0 : E.how 34 0 = 0 := rfl
@[simp] theorem keep34x3 : E.keep 34 3 = some [0, 3, 4] := rfl
@[simp] def I_spec_PutStream_0 (s0 s3 s4 : S) (ob : List (Nat × O)) : F := ⟨[s0, .dead, .dead, s3, s4, .dead, .dead, .dead, .dead, .dead, .dead, .dead, .dead, .dead, .dead, .dead, .dead, .dead, .dead, .dead, .dead, .dead, .dead, .dead, .dead, .dead, .dead, .dead, .dead, .dead, .dead], ob⟩
@[simp] theorem ext35 : E.ext 35 = none := rfl
@[simp] theorem trim35 (id : Nat) : E.trim 35 id = none := rfl
@[simp] theorem how35x0 : E.how 35 0 = 0 := rfl
@[simp] theorem keep35x3 : E.keep 35 3 = some [0, 3, 4] := rfl
@[simp] def I_laws_toByteSS_0 (s0 s3 s4 : S) (ob : List (Nat × O)) : F := ⟨[s0, .dead, .dead, s3, s4, .dead, .dead, .dead, .dead, .dead, .dead, .dead, .dead, .dead, .dead, .dead, .dead, .dead, .dead, .dead, .dead, .dead, .dead], ob⟩
@[simp] theorem ext36 : E.ext 36 = none := rfl
@[simp] theorem trim36 (id : Nat) : E.trim 36 id = none := rfl
@[simp] theorem how36x0 : E.how 36 0 = 0 := rfl
@[simp] theorem keep36x3 : E.keep 36 3 = some [3, 6, 7, 8] := rfl
@[simp] def I_impl_PutStream_0 (s3 s6 s7 s8 : S) (ob : List (Nat × O)) : F := ⟨[.dead, .dead, .dead, s3, .dead, .dead, s6, s7, s8, .dead, .dead, .dead, .dead, .dead, .dead, .dead, .dead, .dead, .dead, .dead, .dead, .dead, .dead, .dead], ob⟩
@[simp] theorem ext37 : E.ext 37 = none := rfl
@[simp] theorem trim37 (id : Nat) : E.trim 37 id = none := rfl
@[simp] theorem how37x0 : E.how 37 0 = 0 := rfl
@[simp] theorem how37x1 : E.how 37 1 = 0 := rfl
@[simp] theorem keep37x4 : E.keep 37 4 = some [0, 1, 5] := rfl
@[simp] def I_laws_eqByteSS_0 (s0 s1 s5 : S) (ob : List (Nat × O)) : F := ⟨[s0, s1, .dead, .dead, .dead, s5, .dead, .dead, .dead, .dead, .dead, .dead, .dead, .dead, .dead, .dead, .dead, .dead, .dead, .dead, .dead, .dead, .dead, .dead, .dead, .dead, .dead], ob⟩
@[simp] theorem ext38 : E.ext 38 = none := rfl
@[simp] theorem trim38 (id : Nat) : E.trim 38 id = none := rfl
@[simp] theorem how38x0 : E.how 38 0 = 1 := rfl
@[simp] theorem how38x1 : E.how 38 1 = 0 := rfl
@[simp] theorem keep38x2 : E.keep 38 2 = some [0, 1, 5] := rfl
@[simp] def I_laws_markByteSS_0 (s0 s1 s5 : S) (ob : List (Nat × O)) : F := ⟨[s0, s1, .dead, .dead, .dead, s5, .dead, .dead, .dead, .dead, .dead, .dead, .dead, .dead, .dead, .dead, .dead, .dead, .dead], ob⟩
@[simp] theorem ext39 : E.ext 39 = none := rfl
@[simp] theorem trim39 (id : Nat) : E.trim 39 id = none := rfl
@[simp] theorem how39x0 : E.how 39 0 = 0 := rfl
@[simp] theorem ext40 : E.ext 40 = none := rfl
@[simp] theorem trim40 (id : Nat) : E.trim 40 id = none := rfl
@[simp] theorem how40x0 : E.how 40 0 = 0 := rfl
@[simp] theorem ext41 : E.ext 41 = none := rfl
@[simp] theorem trim41 (id : Nat) : E.trim 41 id = none := rfl
@[simp] theorem how41x0 : E.how 41 0 = 0 := rfl
@[simp] theorem keep41x5 : E.keep 41 5 = some [0, 5, 6] := rfl
@[simp] def I_spec_Scan_0 (s0 s5 s6 : S) (ob : List (Nat × O)) : F := ⟨[s0, .dead, .dead, .dead, .dead, s5, s6, .dead, .dead, .dead, .dead, .dead, .dead, .dead, .dead, .dead, .dead, .dead, .dead, .dead, .dead, .dead, .dead, .dead, .dead, .dead, .dead, .dead, .dead, .dead, .dead, .dead, .dead, .dead, .dead, .dead, .dead, .dead, .dead, .dead, .dead, .dead, .dead, .dead, .dead, .dead, .dead, .dead, .dead, .dead, .dead, .dead, .dead, .dead, .dead, .dead, .dead, .dead, .dead, .dead, .dead, .dead, .dead, .dead, .dead, .dead, .dead, .dead, .dead, .dead, .dead, .dead, .dead, .dead, .dead, .dead, .dead, .dead, .dead, .dead, .dead, .dead, .dead, .dead, .dead, .dead, .dead, .dead, .dead, .dead, .dead, .dead, .dead, .dead, .dead, .dead, .dead, .dead], ob⟩
@[simp] theorem ext42 : E.ext 42 = none := rfl
@[simp] theorem trim42 (id : Nat) : E.trim 42 id = none := rfl
@[simp] theorem how42x0 : E.how 42 0 = 0 := rfl
@[simp] theorem keep42x5 : E.keep 42 5 = some [0, 5, 6] := rfl
@[simp] def I_impl_Scan_0 (s0 s5 s6 : S) (ob : List (Nat × O)) : F := ⟨[s0, .dead, .dead, .dead, .dead, s5, s6, .dead, .dead, .dead, .dead, .dead, .dead, .dead, .dead, .dead, .dead, .dead, .dead, .dead, .dead, .dead, .dead, .dead, .dead, .dead, .dead, .dead, .dead, .dead, .dead, .dead, .dead, .dead, .dead, .dead, .dead, .dead, .dead, .dead, .dead, .dead, .dead, .dead, .dead, .dead, .dead, .dead, .dead, .dead, .dead, .dead, .dead, .dead, .dead, .dead, .dead, .dead, .dead, .dead, .dead, .dead, .dead, .dead, .dead, .dead, .dead, .dead, .dead, .dead, .dead, .dead, .dead, .dead, .dead, .dead, .dead, .dead, .dead, .dead, .dead, .dead, .dead, .dead, .dead, .dead, .dead, .dead, .dead, .dead, .dead], ob⟩
@[simp] theorem ext43 : E.ext 43 = none := rfl
@[simp] theorem trim43 (id : Nat) : E.trim 43 id = none := rfl
@[simp] theorem how43x0 : E.how 43 0 = 0 := rfl
@[simp] theorem how43x1 : E.how 43 1 = 0 := rfl
@[simp] theorem keep43x2 : E.keep 43 2 = some [0, 1, 5] := rfl
@[simp] def I_laws_heldByteSS_0 (s0 s1 s5 : S) (ob : List (Nat × O)) : F := ⟨[s0, s1, .dead, .dead, .dead, s5, .dead, .dead, .dead, .dead, .dead, .dead, .dead, .dead, .dead, .dead, .dead, .dead, .dead, .dead, .dead], ob⟩
@[simp] theorem ext44 : E.ext 44 = none := rfl
@[simp] theorem trim44 (id : Nat) : E.trim 44 id = none := rfl
@[simp] theorem how44x0 : E.how 44 0 = 0 := rfl
@[simp] theorem keep44x3 : E.keep 44 3 = some [0, 5, 6] := rfl
@[simp] def I_spec_Fields_0 (s0 s5 s6 : S) (ob : List (Nat × O)) : F := ⟨[s0, .dead, .dead, .dead, .dead, s5, s6, .dead, .dead, .dead, .dead, .dead, .dead, .dead, .dead, .dead, .dead, .dead, .dead, .dead, .dead, .dead, .dead, .dead, .dead, .dead, .dead, .dead, .dead, .dead, .dead, .dead, .dead, .dead, .dead, .dead, .dead, .dead, .dead, .dead, .dead, .dead, .dead, .dead, .dead, .dead, .dead, .dead, .dead, .dead], ob⟩
@[simp] theorem ext45 : E.ext 45 = none := rfl
@[simp] theorem trim45 (id : Nat) : E.trim 45 id = none := rfl
@[simp] theorem how45x0 : E.how 45 0 = 0 := rfl
@[simp] theorem keep45x3 : E.keep 45 3 = some [0, 5, 6] := rfl
@[simp] def I_impl_Fields_0 (s0 s5 s6 : S) (ob : List (Nat × O)) : F := ⟨[s0, .dead, .dead, .dead, .dead, s5, s6, .dead, .dead, .dead, .dead, .dead, .dead, .dead, .dead, .dead, .dead, .dead, .dead, .dead, .dead, .dead, .dead, .dead, .dead, .dead, .dead, .dead, .dead, .dead, .dead, .dead, .dead, .dead, .dead, .dead, .dead, .dead, .dead, .dead, .dead, .dead, .dead, .dead, .dead, .dead, .dead, .dead], ob⟩
@[simp] theorem ext46 : E.ext 46 = none := rfl
@[simp] theorem trim46 (id : Nat) : E.trim 46 id = none := rfl
@[simp] theorem how46x0 : E.how 46 0 = 1 := rfl
@[simp] theorem how46x1 : E.how 46 1 = 0 := rfl
@[simp] theorem keep46x2 : E.keep 46 2 = some [0, 1, 5] := rfl
@[simp] def I_laws_markIntS_0 (s0 s1 s5 : S) (ob : List (Nat × O)) : F := ⟨[s0, s1, .dead, .dead, .dead, s5, .dead, .dead, .dead, .dead, .dead, .dead, .dead, .dead, .dead, .dead, .dead, .dead, .dead], ob⟩
@[simp] theorem ext47 : E.ext 47 = none := rfl
@[simp] theorem trim47 (id : Nat) : E.trim 47 id = none := rfl
@[simp] theorem how47x0 : E.how 47 0 = 0 := rfl
@[simp] theorem how47x1 : E.how 47 1 = 0 := rfl
@[simp] theorem keep47x2 : E.keep 47 2 = some [0, 1, 5] := rfl
@[simp] def I_laws_heldIntS_0 (s0 s1 s5 : S) (ob : List (Nat × O)) : F := ⟨[s0, s1, .dead, .dead, .dead, s5, .dead, .dead, .dead, .dead, .dead, .dead, .dead, .dead, .dead, .dead, .dead, .dead, .dead, .dead, .dead], ob⟩
@[simp] theorem ext48 : E.ext 48 = none := rfl
@[simp] theorem trim48 (id : Nat) : E.trim 48 id = none := rfl
@[simp] theorem how48x0 : E.how 48 0 = 0 := rfl
@[simp] theorem how48x1 : E.how 48 1 = 0 := rfl
@[simp] theorem ext49 : E.ext 49 = none := rfl
@[simp] theorem trim49 (id : Nat) : E.trim 49 id = none := rfl
@[simp] theorem how49x0 : E.how 49 0 = 0 := rfl
@[simp] theorem keep49x6 : E.keep 49 6 = some [1, 2, 3, 4] := rfl
@[simp] def I_spec_IrStats_0 (s1 s2 s3 s4 : S) (ob : List (Nat × O)) : F := ⟨[.dead, s1, s2, s3, s4, .dead, .dead, .dead, .dead, .dead, .dead, .dead, .dead, .dead, .dead, .dead, .dead, .dead, .dead, .dead, .dead, .dead, .dead, .dead, .dead, .dead, .dead, .dead, .dead, .dead, .dead, .dead, .dead, .dead, .dead, .dead, .dead, .dead, .dead, .dead, .dead, .dead, .dead, .dead, .dead, .dead, .dead, .dead, .dead, .dead, .dead], ob⟩
@[simp] theorem keep49x9 : E.keep 49 9 = some [1, 2, 3, 4, 5] := rfl
@[simp] def I_spec_IrStats_1 (s1 s2 s3 s4 s5 : S) (ob : List (Nat × O)) : F := ⟨[.dead, s1, s2, s3, s4, s5, .dead, .dead, .dead, .dead, .dead, .dead, .dead, .dead, .dead, .dead, .dead, .dead, .dead, .dead, .dead, .dead, .dead, .dead, .dead, .dead, .dead, .dead, .dead, .dead, .dead, .dead, .dead, .dead, .dead, .dead, .dead, .dead, .dead, .dead, .dead, .dead, .dead, .dead, .dead, .dead, .dead, .dead, .dead, .dead, .dead], ob⟩
@[simp] theorem ext50 : E.ext 50 = none := rfl
@[simp] theorem trim50 (id : Nat) : E.trim 50 id = none := rfl
@[simp] theorem how50x0 : E.how 50 0 = 0 := rfl
@[simp] theorem ext51 : E.ext 51 = none := rfl
@[simp] theorem trim51 (id : Nat) : E.trim 51 id = none := rfl
@[simp] theorem how51x0 : E.how 51 0 = 0 := rfl
@[simp] theorem keep51x6 : E.keep 51 6 = some [2, 3, 17, 18, 19] := rfl
@[simp] def I_impl_IrStats_0 (s2 s3 s17 s18 s19 : S) (ob : List (Nat × O)) : F := ⟨[.dead, .dead, s2, s3, .dead, .dead, .dead, .dead, .dead, .dead, .dead, .dead, .dead, .dead, .dead, .dead, .dead, s17, s18, s19, .dead, .dead, .dead, .dead, .dead, .dead, .dead, .dead, .dead, .dead, .dead, .dead, .dead, .dead, .dead, .dead, .dead, .dead, .dead], ob⟩
@[simp] theorem keep51x9 : E.keep 51 9 = some [2, 3, 17, 18, 19, 24, 25, 26] := rfl
@[simp] def I_impl_IrStats_1 (s2 s3 s17 s18 s19 s24 s25 s26 : S) (ob : List (Nat × O)) : F := ⟨[.dead, .dead, s2, s3, .dead, .dead, .dead, .dead, .dead, .dead, .dead, .dead, .dead, .dead, .dead, .dead, .dead, s17, s18, s19, .dead, .dead, .dead, .dead, s24, s25, s26, .dead, .dead, .dead, .dead, .dead, .dead, .dead, .dead, .dead, .dead, .dead, .dead], ob⟩
@[simp] theorem ext52 : E.ext 52 = none := rfl
@[simp] theorem trim52 (id : Nat) : E.trim 52 id = none := rfl
@[simp] theorem how52x0 : E.how 52 0 = 0 := rfl
@[simp] theorem how52x1 : E.how 52 1 = 0 := rfl
@[simp] theorem keep52x2 : E.keep 52 2 = some [2, 3, 5] := rfl
@[simp] def I_laws_eqIntA18_0 (s2 s3 s5 : S) (ob : List (Nat × O)) : F := ⟨[.dead, .dead, s2, s3, .dead, s5, .dead, .dead, .dead, .dead, .dead, .dead, .dead, .dead, .dead, .dead, .dead], ob⟩
@[simp] theorem ext53 : E.ext 53 = none := rfl
@[simp] theorem trim53 (id : Nat) : E.trim 53 id = none := rfl
@[simp] theorem how53x0 : E.how 53 0 = 0 := rfl
@[simp] theorem how53x1 : E.how 53 1 = 0 := rfl
@[simp] theorem ext57 : E.ext 57 = none := rfl
@[simp] theorem trim57 (id : Nat) : E.trim 57 id = none := rfl
@[simp] theorem how57x0 : E.how 57 0 = 0 := rfl
@[simp] theorem how57x1 : E.how 57 1 = 0 := rfl
@[simp] theorem how57x2 : E.how 57 2 = 0 := rfl
@[simp] theorem ext58 : E.ext 58 = none := rfl
@[simp] theorem trim58 (id : Nat) : E.trim 58 id = none := rfl
@[simp] theorem how58x0 : E.how 58 0 = 0 := rfl
@[simp] theorem ext59 : E.ext 59 = none := rfl
@[simp] theorem trim59 (id : Nat) : E.trim 59 id = none := rfl
@[simp] theorem how59x0 : E.how 59 0 = 0 := rfl
@[simp] theorem how59x1 : E.how 59 1 = 0 := rfl
@[simp] theorem ext60 : E.ext 60 = none := rfl
@[simp] theorem trim60 (id : Nat) : E.trim 60 id = none := rfl
@[simp] theorem how60x0 : E.how 60 0 = 0 := rfl
@[simp] theorem ext61 : E.ext 61 = none := rfl
@[simp] theorem trim61 (id : Nat) : E.trim 61 id = none := rfl
@[simp] theorem how61x0 : E.how 61 0 = 0 := rfl
@[simp] theorem how61x1 : E.how 61 1 = 0 := rfl
@[simp] theorem ext62 : E.ext 62 = none := rfl
@[simp] theorem trim62 (id : Nat) : E.trim 62 id = none := rfl
@[simp] theorem how62x0 : E.how 62 0 = 0 := rfl
@[simp] theorem how62x1 : E.how 62 1 = 0 := rfl
@[simp] theorem ext63 : E.ext 63 = none := rfl
@[simp] theorem trim63 (id : Nat) : E.trim 63 id = none := rfl
@[simp] theorem how63x0 : E.how 63 0 = 0 := rfl
@[simp] theorem how63x1 : E.how 63 1 = 0 := rfl
@[simp] theorem ext64 : E.ext 64 = none := rfl
@[simp] theorem trim64 (id : Nat) : E.trim 64 id = none := rfl
@[simp] theorem how64x0 : E.how 64 0 = 0 := rfl
@[simp] theorem how64x1 : E.how 64 1 = 0 := rfl
@[simp] theorem ext65 : E.ext 65 = none := rfl
@[simp] theorem trim65 (id : Nat) : E.trim 65 id = none := rfl
@[simp] theorem how65x0 : E.how 65 0 = 0 := rfl
@[simp] theorem how65x1 : E.how 65 1 = 0 := rfl
@[simp] theorem ext66 : E.ext 66 = none := rfl
@[simp] theorem trim66 (id : Nat) : E.trim 66 id = none := rfl
@[simp] theorem how66x0 : E.how 66 0 = 0 := rfl
@[simp] theorem how66x1 : E.how 66 1 = 0 := rfl
@[simp] theorem ext67 : E.ext 67 = none := rfl
@[simp] theorem trim67 (id : Nat) : E.trim 67 id = none := rfl
@[simp] theorem how67x0 : E.how 67 0 = 0 := rfl
@[simp] theorem keep67x3 : E.keep 67 3 = some [3, 4] := rfl
@[simp] def I_spec_PutVarint_0 (s3 s4 : S) (ob : List (Nat × O)) : F := ⟨[.dead, .dead, .dead, s3, s4, .dead, .dead, .dead, .dead, .dead, .dead, .dead, .dead, .dead, .dead, .dead, .dead, .dead, .dead, .dead, .dead, .dead, .dead, .dead], ob⟩
@[simp] theorem ext68 : E.ext 68 = none := rfl
@[simp] theorem trim68 (id : Nat) : E.trim 68 id = none := rfl
@[simp] theorem how68x0 : E.how 68 0 = 0 := rfl
@[simp] theorem keep68x3 : E.keep 68 3 = some [0, 3, 4] := rfl
@[simp] def I_spec_l11Sum_0 (s0 s3 s4 : S) (ob : List (Nat × O)) : F := ⟨[s0, .dead, .dead, s3, s4, .dead, .dead, .dead, .dead, .dead, .dead, .dead, .dead, .dead, .dead, .dead, .dead, .dead, .dead, .dead, .dead, .dead, .dead], ob⟩
@[simp] theorem ext69 : E.ext 69 = none := rfl
@[simp] theorem trim69 (id : Nat) : E.trim 69 id = none := rfl
@[simp] theorem how69x0 : E.how 69 0 = 0 := rfl
@[simp] theorem keep69x3 : E.keep 69 3 = some [0, 3, 9, 10, 11] := rfl
@[simp] def I_slices_Concat_Lbyte_byte_0 (s0 s3 s9 s10 s11 : S) (ob : List (Nat × O)) : F := ⟨[s0, .dead, .dead, s3, .dead, .dead, .dead, .dead, .dead, s9, s10, s11, .dead, .dead, .dead, .dead, .dead, .dead, .dead, .dead, .dead, .dead, .dead, .dead, .dead, .dead, .dead, .dead, .dead, .dead, .dead, .dead, .dead, .dead, .dead, .dead], ob⟩
@[simp] theorem keep69x11 : E.keep 69 11 = some [6, 25, 26, 27] := rfl
@[simp] def I_slices_Concat_Lbyte_byte_1 (s6 s25 s26 s27 : S) (ob : List (Nat × O)) : F := ⟨[.dead, .dead, .dead, .dead, .dead, .dead, s6, .dead, .dead, .dead, .dead, .dead, .dead, .dead, .dead, .dead, .dead, .dead, .dead, .dead, .dead, .dead, .dead, .dead, .dead, s25, s26, s27, .dead, .dead, .dead, .dead, .dead, .dead, .dead, .dead], ob⟩
@[simp] theorem ext70 : E.ext 70 = none := rfl
@[simp] theorem trim70 (id : Nat) : E.trim 70 id = none := rfl
@[simp] theorem how70x0 : E.how 70 0 = 0 := rfl
@[simp] theorem keep70x3 : E.keep 70 3 = some [3, 4] := rfl
@[simp] def I_impl_PutVarint_0 (s3 s4 : S) (ob : List (Nat × O)) : F := ⟨[.dead, .dead, .dead, s3, s4, .dead, .dead, .dead, .dead, .dead, .dead, .dead, .dead, .dead, .dead, .dead, .dead, .dead, .dead, .dead, .dead, .dead], ob⟩
@[simp] theorem ext71 : E.ext 71 = none := rfl
@[simp] theorem trim71 (id : Nat) : E.trim 71 id = none := rfl
@[simp] theorem how71x0 : E.how 71 0 = 0 := rfl
@[simp] theorem how71x1 : E.how 71 1 = 0 := rfl
@[simp] theorem keep71x5 : E.keep 71 5 = some [0, 1, 5, 6] := rfl
@[simp] def I_impl_PutFixed_0 (s0 s1 s5 s6 : S) (ob : List (Nat × O)) : F := ⟨[s0, s1, .dead, .dead, .dead, s5, s6, .dead, .dead, .dead, .dead, .dead, .dead, .dead, .dead, .dead, .dead, .dead, .dead, .dead, .dead, .dead, .dead, .dead, .dead, .dead, .dead], ob⟩
@[simp] theorem ext72 : E.ext 72 = none := rfl
@[simp] theorem trim72 (id : Nat) : E.trim 72 id = none := rfl
@[simp] theorem how72x0 : E.how 72 0 = 0 := rfl
@[simp] theorem keep72x3 : E.keep 72 3 = some [3, 6, 7, 8] := rfl
@[simp] def I_impl_sum32_0 (s3 s6 s7 s8 : S) (ob : List (Nat × O)) : F := ⟨[.dead, .dead, .dead, s3, .dead, .dead, s6, s7, s8, .dead, .dead, .dead, .dead, .dead, .dead, .dead, .dead, .dead, .dead, .dead], ob⟩
@[simp] theorem ext73 : E.ext 73 = none := rfl
@[simp] theorem trim73 (id : Nat) : E.trim 73 id = none := rfl
@[simp] theorem how73x0 : E.how 73 0 = 0 := rfl
@[simp] theorem how73x1 : E.how 73 1 = 0 := rfl
@[simp] theorem ext74 : E.ext 74 = none := rfl
@[simp] theorem trim74 (id : Nat) : E.trim 74 id = none := rfl
@[simp] theorem how74x0 : E.how 74 0 = 0 := rfl
@[simp] theorem ext75 : E.ext 75 = none := rfl
@[simp] theorem trim75 (id : Nat) : E.trim 75 id = none := rfl
@[simp] theorem how75x0 : E.how 75 0 = 0 := rfl
@[simp] theorem how75x1 : E.how 75 1 = 0 := rfl
@[simp] theorem keep75x5 : E.keep 75 5 = some [0, 1, 7, 8] := rfl
@[simp] def I_spec_GetVarint_0 (s0 s1 s7 s8 : S) (ob : List (Nat × O)) : F := ⟨[s0, s1, .dead, .dead, .dead, .dead, .dead, s7, s8, .dead, .dead, .dead, .dead, .dead, .dead, .dead, .dead, .dead, .dead, .dead, .dead, .dead, .dead, .dead, .dead, .dead, .dead, .dead, .dead, .dead, .dead, .dead, .dead, .dead, .dead, .dead, .dead, .dead, .dead, .dead, .dead, .dead, .dead, .dead, .dead, .dead, .dead, .dead, .dead, .dead, .dead, .dead, .dead, .dead], ob⟩
@[simp] theorem ext76 : E.ext 76 = none := rfl
@[simp] theorem trim76 (id : Nat) : E.trim 76 id = none := rfl
@[simp] theorem how76x0 : E.how 76 0 = 0 := rfl
@[simp] theorem how76x1 : E.how 76 1 = 0 := rfl
@[simp] theorem keep76x4 : E.keep 76 4 = some [0, 1, 5] := rfl
@[simp] def I_spec_l1Same_0 (s0 s1 s5 : S) (ob : List (Nat × O)) : F := ⟨[s0, s1, .dead, .dead, .dead, s5, .dead, .dead, .dead, .dead, .dead, .dead, .dead, .dead, .dead, .dead, .dead, .dead, .dead, .dead, .dead, .dead, .dead, .dead, .dead, .dead], ob⟩
@[simp] theorem ext77 : E.ext 77 = none := rfl
@[simp] theorem trim77 (id : Nat) : E.trim 77 id = none := rfl
@[simp] theorem how77x0 : E.how 77 0 = 0 := rfl
@[simp] theorem how77x1 : E.how 77 1 = 0 := rfl
@[simp] theorem keep77x5 : E.keep 77 5 = some [0, 1, 7, 8] := rfl
@[simp] def I_impl_GetVarint_0 (s0 s1 s7 s8 : S) (ob : List (Nat × O)) : F := ⟨[s0, s1, .dead, .dead, .dead, .dead, .dead, s7, s8, .dead, .dead, .dead, .dead, .dead, .dead, .dead, .dead, .dead, .dead, .dead, .dead, .dead, .dead, .dead, .dead, .dead, .dead, .dead, .dead, .dead, .dead, .dead, .dead, .dead, .dead, .dead, .dead, .dead, .dead, .dead, .dead, .dead, .dead, .dead, .dead, .dead, .dead, .dead, .dead, .dead, .dead, .dead, .dead], ob⟩
@[simp] theorem ext78 : E.ext 78 = none := rfl
@[simp] theorem trim78 (id : Nat) : E.trim 78 id = none := rfl
@[simp] theorem how78x0 : E.how 78 0 = 0 := rfl
@[simp] theorem how78x1 : E.how 78 1 = 0 := rfl
@[simp] theorem how78x2 : E.how 78 2 = 0 := rfl
@[simp] theorem ext79 : E.ext 79 = none := rfl
@[simp] theorem trim79 (id : Nat) : E.trim 79 id = none := rfl
@[simp] theorem how79x0 : E.how 79 0 = 0 := rfl
@[simp] theorem how79x1 : E.how 79 1 = 0 := rfl
@[simp] theorem how79x2 : E.how 79 2 = 0 := rfl
@[simp] theorem keep79x5 : E.keep 79 5 = some [0, 1, 2, 9, 10] := rfl
@[simp] def I_impl_GetFixed_0 (s0 s1 s2 s9 s10 : S) (ob : List (Nat × O)) : F := ⟨[s0, s1, s2, .dead, .dead, .dead, .dead, .dead, .dead, s9, s10, .dead, .dead, .dead, .dead, .dead, .dead, .dead, .dead, .dead, .dead, .dead, .dead, .dead, .dead, .dead, .dead, .dead, .dead, .dead, .dead, .dead, .dead, .dead, .dead, .dead, .dead, .dead, .dead, .dead, .dead, .dead, .dead, .dead, .dead, .dead, .dead, .dead, .dead, .dead, .dead, .dead, .dead, .dead], ob⟩
@[simp] theorem ext80 : E.ext 80 = none := rfl
@[simp] theorem trim80 (id : Nat) : E.trim 80 id = none := rfl
@[simp] theorem how80x0 : E.how 80 0 = 0 := rfl
@[simp] theorem how80x1 : E.how 80 1 = 0 := rfl
@[simp] theorem ext81 : E.ext 81 = none := rfl
@[simp] theorem trim81 (id : Nat) : E.trim 81 id = none := rfl
@[simp] theorem how81x0 : E.how 81 0 = 0 := rfl
@[simp] theorem ext82 : E.ext 82 = none := rfl
@[simp] theorem trim82 (id : Nat) : E.trim 82 id = none := rfl
@[simp] theorem how82x0 : E.how 82 0 = 0 := rfl
@[simp] theorem how82x1 : E.how 82 1 = 0 := rfl
@[simp] theorem how82x2 : E.how 82 2 = 0 := rfl
@[simp] theorem ext83 : E.ext 83 = none := rfl
@[simp] theorem trim83 (id : Nat) : E.trim 83 id = none := rfl
@[simp] theorem how83x0 : E.how 83 0 = 0 := rfl
@[simp] theorem how83x1 : E.how 83 1 = 0 := rfl
@[simp] theorem ext84 : E.ext 84 = none := rfl
@[simp] theorem trim84 (id : Nat) : E.trim 84 id = none := rfl
@[simp] theorem how84x0 : E.how 84 0 = 0 := rfl
@[simp] theorem ext85 : E.ext 85 = none := rfl
@[simp] theorem trim85 (id : Nat) : E.trim 85 id = none := rfl
@[simp] theorem how85x0 : E.how 85 0 = 0 := rfl
@[simp] theorem how85x1 : E.how 85 1 = 0 := rfl
@[simp] theorem how85x2 : E.how 85 2 = 0 := rfl
@[simp] theorem ext86 : E.ext 86 = none := rfl
@[simp] theorem trim86 (id : Nat) : E.trim 86 id = none := rfl
@[simp] theorem how86x0 : E.how 86 0 = 0 := rfl
@[simp] theorem how86x1 : E.how 86 1 = 0 := rfl
@[simp] theorem keep86x5 : E.keep 86 5 = some [0, 1, 5] := rfl
@[simp] def I_laws_szModS_0 (s0 s1 s5 : S) (ob : List (Nat × O)) : F := ⟨[s0, s1, .dead, .dead, .dead, s5, .dead, .dead, .dead, .dead, .dead, .dead, .dead, .dead, .dead, .dead, .dead, .dead, .dead, .dead, .dead, .dead, .dead, .dead, .dead, .dead, .dead], ob⟩
@[simp] theorem ext87 : E.ext 87 = none := rfl
@[simp] theorem trim87 (id : Nat) : E.trim 87 id = none := rfl
@[simp] theorem how87x0 : E.how 87 0 = 0 := rfl
@[simp] theorem keep87x4 : E.keep 87 4 = some [1, 3] := rfl
@[simp] def I_spec_IrOk_0 (s1 s3 : S) (ob : List (Nat × O)) : F := ⟨[.dead, s1, .dead, s3, .dead, .dead, .dead, .dead, .dead, .dead, .dead, .dead, .dead, .dead, .dead, .dead, .dead, .dead, .dead, .dead, .dead, .dead, .dead, .dead, .dead, .dead, .dead, .dead, .dead, .dead, .dead, .dead, .dead, .dead, .dead, .dead, .dead, .dead, .dead, .dead, .dead, .dead, .dead, .dead, .dead, .dead, .dead, .dead, .dead, .dead, .dead, .dead, .dead, .dead, .dead, .dead, .dead, .dead, .dead, .dead, .dead, .dead, .dead, .dead, .dead, .dead, .dead, .dead], ob⟩
@[simp] theorem keep87x9 : E.keep 87 9 = some [1, 4] := rfl
@[simp] def I_spec_IrOk_1 (s1 s4 : S) (ob : List (Nat × O)) : F := ⟨[.dead, s1, .dead, .dead, s4, .dead, .dead, .dead, .dead, .dead, .dead, .dead, .dead, .dead, .dead, .dead, .dead, .dead, .dead, .dead, .dead, .dead, .dead, .dead, .dead, .dead, .dead, .dead, .dead, .dead, .dead, .dead, .dead, .dead, .dead, .dead, .dead, .dead, .dead, .dead, .dead, .dead, .dead, .dead, .dead, .dead, .dead, .dead, .dead, .dead, .dead, .dead, .dead, .dead, .dead, .dead, .dead, .dead, .dead, .dead, .dead, .dead, .dead, .dead, .dead, .dead, .dead, .dead], ob⟩
@[simp] theorem keep87x13 : E.keep 87 13 = some [1, 4, 5, 6] := rfl
@[simp] def I_spec_IrOk_2 (s1 s4 s5 s6 : S) (ob : List (Nat × O)) : F := ⟨[.dead, s1, .dead, .dead, s4, s5, s6, .dead, .dead, .dead, .dead, .dead, .dead, .dead, .dead, .dead, .dead, .dead, .dead, .dead, .dead, .dead, .dead, .dead, .dead, .dead, .dead, .dead, .dead, .dead, .dead, .dead, .dead, .dead, .dead, .dead, .dead, .dead, .dead, .dead, .dead, .dead, .dead, .dead, .dead, .dead, .dead, .dead, .dead, .dead, .dead, .dead, .dead, .dead, .dead, .dead, .dead, .dead, .dead, .dead, .dead, .dead, .dead, .dead, .dead, .dead, .dead, .dead], ob⟩
@[simp] theorem ext88 : E.ext 88 = none := rfl
@[simp] theorem trim88 (id : Nat) : E.trim 88 id = none := rfl
@[simp] theorem how88x0 : E.how 88 0 = 0 := rfl
@[simp] theorem keep88x3 : E.keep 88 3 = some [0, 3, 4] := rfl
@[simp] def I_laws_toModS_0 (s0 s3 s4 : S) (ob : List (Nat × O)) : F := ⟨[s0, .dead, .dead, s3, s4, .dead, .dead, .dead, .dead, .dead, .dead, .dead, .dead, .dead, .dead, .dead, .dead, .dead, .dead, .dead, .dead, .dead, .dead], ob⟩
@[simp] theorem ext89 : E.ext 89 = none := rfl
@[simp] theorem trim89x0 : E.trim 89 0 = none := rfl
@[simp] theorem trim89x1 : E.trim 89 1 = none := rfl
@[simp] theorem trim89x2 : E.trim 89 2 = none := rfl
@[simp] theorem trim89x3 : E.trim 89 3 = none := rfl
@[simp] theorem trim89x4 : E.trim 89 4 = none := rfl
@[simp] theorem trim89x5 : E.trim 89 5 = none := rfl
@[simp] theorem trim89x6 : E.trim 89 6 = none := rfl
@[simp] theorem trim89x7 : E.trim 89 7 = none := rfl
@[simp] theorem trim89x8 : E.trim 89 8 = some [1, 4, 18, 19, 20] := rfl
@[simp] def J_impl_IrOk_8 (s1 s4 s18 s19 s20 : S) (ob : List (Nat × O)) : F := ⟨[.dead, s1, .dead, .dead, s4, .dead, .dead, .dead, .dead, .dead, .dead, .dead, .dead, .dead, .dead, .dead, .dead, .dead, s18, s19, s20, .dead, .dead, .dead, .dead, .dead, .dead, .dead, .dead, .dead, .dead, .dead, .dead, .dead, .dead, .dead, .dead, .dead, .dead, .dead, .dead, .dead, .dead, .dead, .dead, .dead, .dead, .dead, .dead, .dead], ob⟩
@[simp] theorem trim89x9 : E.trim 89 9 = none := rfl
@[simp] theorem trim89x10 : E.trim 89 10 = none := rfl
@[simp] theorem trim89x11 : E.trim 89 11 = none := rfl
@[simp] theorem trim89x12 : E.trim 89 12 = none := rfl
@[simp] theorem trim89x13 : E.trim 89 13 = none := rfl
@[simp] theorem trim89x14 : E.trim 89 14 = none := rfl
@[simp] theorem trim89x15 : E.trim 89 15 = none := rfl
@[simp] theorem how89x0 : E.how 89 0 = 0 := rfl
@[simp] theorem keep89x4 : E.keep 89 4 = some [1, 18, 19, 20] := rfl
@[simp] def I_impl_IrOk_0 (s1 s18 s19 s20 : S) (ob : List (Nat × O)) : F := ⟨[.dead, s1, .dead, .dead, .dead, .dead, .dead, .dead, .dead, .dead, .dead, .dead, .dead, .dead, .dead, .dead, .dead, .dead, s18, s19, s20, .dead, .dead, .dead, .dead, .dead, .dead, .dead, .dead, .dead, .dead, .dead, .dead, .dead, .dead, .dead, .dead, .dead, .dead, .dead, .dead, .dead, .dead, .dead, .dead, .dead, .dead, .dead, .dead, .dead], ob⟩
@[simp] theorem keep89x9 : E.keep 89 9 = some [1, 4, 18, 19, 20, 38, 39] := rfl
@[simp] def I_impl_IrOk_1 (s1 s4 s18 s19 s20 s38 s39 : S) (ob : List (Nat × O)) : F := ⟨[.dead, s1, .dead, .dead, s4, .dead, .dead, .dead, .dead, .dead, .dead, .dead, .dead, .dead, .dead, .dead, .dead, .dead, s18, s19, s20, .dead, .dead, .dead, .dead, .dead, .dead, .dead, .dead, .dead, .dead, .dead, .dead, .dead, .dead, .dead, .dead, .dead, s38, s39, .dead, .dead, .dead, .dead, .dead, .dead, .dead, .dead, .dead, .dead], ob⟩
@[simp] theorem ext90 : E.ext 90 = none := rfl
@[simp] theorem trim90 (id : Nat) : E.trim 90 id = none := rfl
@[simp] theorem how90x0 : E.how 90 0 = 0 := rfl
@[simp] theorem how90x1 : E.how 90 1 = 0 := rfl
@[simp] theorem keep90x4 : E.keep 90 4 = some [0, 1, 5] := rfl
@[simp] def I_laws_eqModS_0 (s0 s1 s5 : S) (ob : List (Nat × O)) : F := ⟨[s0, s1, .dead, .dead, .dead, s5, .dead, .dead, .dead, .dead, .dead, .dead, .dead, .dead, .dead, .dead, .dead, .dead, .dead, .dead, .dead, .dead, .dead, .dead, .dead, .dead, .dead], ob⟩
@[simp] theorem ext94 : E.ext 94 = none := rfl
@[simp] theorem trim94 (id : Nat) : E.trim 94 id = none := rfl
@[simp] theorem how94x0 : E.how 94 0 = 0 := rfl
@[simp] theorem how94x1 : E.how 94 1 = 0 := rfl
@[simp] theorem keep94x2 : E.keep 94 2 = some [0, 1, 7, 8] := rfl
@[simp] def I_slices_IndexFunc_Limpl_Change_impl_Change_0 (s0 s1 s7 s8 : S) (ob : List (Nat × O)) : F := ⟨[s0, s1, .dead, .dead, .dead, .dead, .dead, s7, s8, .dead, .dead, .dead, .dead, .dead, .dead, .dead, .dead, .dead, .dead], ob⟩
@[simp] theorem ext95 : E.ext 95 = none := rfl
@[simp] theorem trim95 (id : Nat) : E.trim 95 id = none := rfl
@[simp] theorem how95x0 : E.how 95 0 = 0 := rfl
@[simp] theorem how95x1 : E.how 95 1 = 0 := rfl
@[simp] theorem keep95x4 : E.keep 95 4 = some [0, 1, 5] := rfl
@[simp] def I_spec_l9SameInts_0 (s0 s1 s5 : S) (ob : List (Nat × O)) : F := ⟨[s0, s1, .dead, .dead, .dead, s5, .dead, .dead, .dead, .dead, .dead, .dead, .dead, .dead, .dead, .dead, .dead, .dead, .dead, .dead, .dead, .dead, .dead, .dead, .dead, .dead], ob⟩
@[simp] theorem ext96 : E.ext 96 = none := rfl
@[simp] theorem trim96 (id : Nat) : E.trim 96 id = none := rfl
@[simp] theorem how96x0 : E.how 96 0 = 0 := rfl
@[simp] theorem how96x1 : E.how 96 1 = 0 := rfl
@[simp] theorem keep96x2 : E.keep 96 2 = some [0, 1, 7, 8] := rfl
@[simp] def I_slices_IndexFunc_LLint_Lint_0 (s0 s1 s7 s8 : S) (ob : List (Nat × O)) : F := ⟨[s0, s1, .dead, .dead, .dead, .dead, .dead, s7, s8, .dead, .dead, .dead, .dead, .dead, .dead, .dead, .dead, .dead, .dead], ob⟩
@[simp] theorem ext97 : E.ext 97 = none := rfl
@[simp] theorem trim97 (id : Nat) : E.trim 97 id = none := rfl
@[simp] theorem how97x0 : E.how 97 0 = 0 := rfl
@[simp] theorem how97x1 : E.how 97 1 = 0 := rfl
@[simp] theorem keep97x4 : E.keep 97 4 = some [0, 1, 12, 13] := rfl
@[simp] def I_slices_Equal_Lint_int_0 (s0 s1 s12 s13 : S) (ob : List (Nat × O)) : F := ⟨[s0, s1, .dead, .dead, .dead, .dead, .dead, .dead, .dead, .dead, .dead, .dead, s12, s13, .dead, .dead, .dead, .dead, .dead, .dead, .dead, .dead, .dead, .dead, .dead, .dead], ob⟩
@[simp] theorem ext98 : E.ext 98 = none := rfl
@[simp] theorem trim98 (id : Nat) : E.trim 98 id = none := rfl
@[simp] theorem how98x0 : E.how 98 0 = 0 := rfl
@[simp] theorem how98x1 : E.how 98 1 = 0 := rfl
@[simp] theorem keep98x6 : E.keep 98 6 = some [1, 5, 6, 7] := rfl
@[simp] def I_spec_PutFixed_0 (s1 s5 s6 s7 : S) (ob : List (Nat × O)) : F := ⟨[.dead, s1, .dead, .dead, .dead, s5, s6, s7, .dead, .dead, .dead, .dead, .dead, .dead, .dead, .dead, .dead, .dead, .dead, .dead, .dead, .dead, .dead, .dead, .dead, .dead, .dead, .dead, .dead, .dead, .dead, .dead], ob⟩
@[simp] theorem ext99 : E.ext 99 = none := rfl
@[simp] theorem trim99 (id : Nat) : E.trim 99 id = none := rfl
@[simp] theorem how99x0 : E.how 99 0 = 1 := rfl
@[simp] theorem how99x1 : E.how 99 1 = 0 := rfl
@[simp] theorem ext100 : E.ext 100 = none := rfl
@[simp] theorem trim100 (id : Nat) : E.trim 100 id = none := rfl
@[simp] theorem how100x0 : E.how 100 0 = 0 := rfl
@[simp] theorem how100x1 : E.how 100 1 = 0 := rfl
@[simp] theorem how100x2 : E.how 100 2 = 0 := rfl
@[simp] theorem keep100x5 : E.keep 100 5 = some [0, 1, 2, 9, 10] := rfl
@[simp] def I_spec_GetFixed_0 (s0 s1 s2 s9 s10 : S) (ob : List (Nat × O)) : F := ⟨[s0, s1, s2, .dead, .dead, .dead, .dead, .dead, .dead, s9, s10, .dead, .dead, .dead, .dead, .dead, .dead, .dead, .dead, .dead, .dead, .dead, .dead, .dead, .dead, .dead, .dead, .dead, .dead, .dead, .dead, .dead, .dead, .dead, .dead, .dead, .dead, .dead, .dead, .dead, .dead, .dead, .dead, .dead, .dead, .dead, .dead, .dead, .dead, .dead], ob⟩
@[simp] theorem ext101 : E.ext 101 = none := rfl
@[simp] theorem trim101 (id : Nat) : E.trim 101 id = none := rfl
@[simp] theorem how101x0 : E.how 101 0 = 0 := rfl
@[simp] theorem how101x1 : E.how 101 1 = 0 := rfl
@[simp] theorem ext102 : E.ext 102 = none := rfl
@[simp] theorem trim102x0 : E.trim 102 0 = none := rfl
@[simp] theorem trim102x1 : E.trim 102 1 = none := rfl
@[simp] theorem trim102x2 : E.trim 102 2 = none := rfl
@[simp] theorem trim102x3 : E.trim 102 3 = none := rfl
@[simp] theorem trim102x4 : E.trim 102 4 = none := rfl
@[simp] theorem trim102x5 : E.trim 102 5 = some [2, 3, 4, 7, 8] := rfl
@[simp] def J_spec_l9OpOk_5 (s2 s3 s4 s7 s8 : S) (ob : List (Nat × O)) : F := ⟨[.dead, .dead, s2, s3, s4, .dead, .dead, s7, s8, .dead, .dead, .dead, .dead, .dead, .dead, .dead, .dead, .dead, .dead, .dead, .dead, .dead, .dead, .dead, .dead, .dead, .dead, .dead, .dead, .dead, .dead, .dead, .dead, .dead, .dead, .dead, .dead, .dead, .dead, .dead, .dead, .dead, .dead, .dead, .dead, .dead, .dead, .dead, .dead, .dead, .dead, .dead, .dead, .dead, .dead, .dead, .dead, .dead, .dead, .dead, .dead, .dead, .dead, .dead, .dead, .dead, .dead, .dead, .dead, .dead, .dead, .dead, .dead, .dead, .dead, .dead, .dead, .dead, .dead, .dead, .dead, .dead, .dead, .dead, .dead, .dead, .dead, .dead, .dead, .dead, .dead, .dead, .dead, .dead, .dead, .dead, .dead, .dead, .dead, .dead, .dead, .dead, .dead, .dead, .dead, .dead, .dead, .dead, .dead, .dead, .dead, .dead, .dead, .dead, .dead, .dead, .dead, .dead, .dead, .dead, .dead, .dead, .dead, .dead, .dead, .dead, .dead, .dead, .dead, .dead, .dead, .dead, .dead, .dead, .dead, .dead, .dead, .dead, .dead, .dead, .dead, .dead, .dead], ob⟩
@[simp] theorem trim102x6 : E.trim 102 6 = none := rfl
@[simp] theorem trim102x7 : E.trim 102 7 = some [2, 3, 4, 7] := rfl
@[simp] def J_spec_l9OpOk_7 (s2 s3 s4 s7 : S) (ob : List (Nat × O)) : F := ⟨[.dead, .dead, s2, s3, s4, .dead, .dead, s7, .dead, .dead, .dead, .dead, .dead, .dead, .dead, .dead, .dead, .dead, .dead, .dead, .dead, .dead, .dead, .dead, .dead, .dead, .dead, .dead, .dead, .dead, .dead, .dead, .dead, .dead, .dead, .dead, .dead, .dead, .dead, .dead, .dead, .dead, .dead, .dead, .dead, .dead, .dead, .dead, .dead, .dead, .dead, .dead, .dead, .dead, .dead, .dead, .dead, .dead, .dead, .dead, .dead, .dead, .dead, .dead, .dead, .dead, .dead, .dead, .dead, .dead, .dead, .dead, .dead, .dead, .dead, .dead, .dead, .dead, .dead, .dead, .dead, .dead, .dead, .dead, .dead, .dead, .dead, .dead, .dead, .dead, .dead, .dead, .dead, .dead, .dead, .dead, .dead, .dead, .dead, .dead, .dead, .dead, .dead, .dead, .dead, .dead, .dead, .dead, .dead, .dead, .dead, .dead, .dead, .dead, .dead, .dead, .dead, .dead, .dead, .dead, .dead, .dead, .dead, .dead, .dead, .dead, .dead, .dead, .dead, .dead, .dead, .dead, .dead, .dead, .dead, .dead, .dead, .dead, .dead, .dead, .dead, .dead, .dead], ob⟩
@[simp] theorem trim102x8 : E.trim 102 8 = none := rfl
@[simp] theorem trim102x9 : E.trim 102 9 = some [2, 4, 7] := rfl
@[simp] def J_spec_l9OpOk_9 (s2 s4 s7 : S) (ob : List (Nat × O)) : F := ⟨[.dead, .dead, s2, .dead, s4, .dead, .dead, s7, .dead, .dead, .dead, .dead, .dead, .dead, .dead, .dead, .dead, .dead, .dead, .dead, .dead, .dead, .dead, .dead, .dead, .dead, .dead, .dead, .dead, .dead, .dead, .dead, .dead, .dead, .dead, .dead, .dead, .dead, .dead, .dead, .dead, .dead, .dead, .dead, .dead, .dead, .dead, .dead, .dead, .dead, .dead, .dead, .dead, .dead, .dead, .dead, .dead, .dead, .dead, .dead, .dead, .dead, .dead, .dead, .dead, .dead, .dead, .dead, .dead, .dead, .dead, .dead, .dead, .dead, .dead, .dead, .dead, .dead, .dead, .dead, .dead, .dead, .dead, .dead, .dead, .dead, .dead, .dead, .dead, .dead, .dead, .dead, .dead, .dead, .dead, .dead, .dead, .dead, .dead, .dead, .dead, .dead, .dead, .dead, .dead, .dead, .dead, .dead, .dead, .dead, .dead, .dead, .dead, .dead, .dead, .dead, .dead, .dead, .dead, .dead, .dead, .dead, .dead, .dead, .dead, .dead, .dead, .dead, .dead, .dead, .dead, .dead, .dead, .dead, .dead, .dead, .dead, .dead, .dead, .dead, .dead, .dead, .dead], ob⟩
@[simp] theorem trim102x10 : E.trim 102 10 = none := rfl
@[simp] theorem trim102x11 : E.trim 102 11 = none := rfl
@[simp] theorem trim102x12 : E.trim 102 12 = none := rfl
@[simp] theorem trim102x13 : E.trim 102 13 = none := rfl
@[simp] theorem trim102x14 : E.trim 102 14 = none := rfl
@[simp] theorem trim102x16 : E.trim 102 16 = none := rfl
@[simp] theorem trim102x17 : E.trim 102 17 = none := rfl
@[simp] theorem trim102x15 : E.trim 102 15 = none := rfl
@[simp] theorem trim102x18 : E.trim 102 18 = none := rfl
@[simp] theorem how102x0 : E.how 102 0 = 0 := rfl
@[simp] theorem how102x1 : E.how 102 1 = 0 := rfl
@[simp] theorem how102x2 : E.how 102 2 = 0 := rfl
@[simp] theorem keep102x14 : E.keep 102 14 = some [2, 4, 7, 9] := rfl
@[simp] def I_spec_l9OpOk_0 (s2 s4 s7 s9 : S) (ob : List (Nat × O)) : F := ⟨[.dead, .dead, s2, .dead, s4, .dead, .dead, s7, .dead, s9, .dead, .dead, .dead, .dead, .dead, .dead, .dead, .dead, .dead, .dead, .dead, .dead, .dead, .dead, .dead, .dead, .dead, .dead, .dead, .dead, .dead, .dead, .dead, .dead, .dead, .dead, .dead, .dead, .dead, .dead, .dead, .dead, .dead, .dead, .dead, .dead, .dead, .dead, .dead, .dead, .dead, .dead, .dead, .dead, .dead, .dead, .dead, .dead, .dead, .dead, .dead, .dead, .dead, .dead, .dead, .dead, .dead, .dead, .dead, .dead, .dead, .dead, .dead, .dead, .dead, .dead, .dead, .dead, .dead, .dead, .dead, .dead, .dead, .dead, .dead, .dead, .dead, .dead, .dead, .dead, .dead, .dead, .dead, .dead, .dead, .dead, .dead, .dead, .dead, .dead, .dead, .dead, .dead, .dead, .dead, .dead, .dead, .dead, .dead, .dead, .dead, .dead, .dead, .dead, .dead, .dead, .dead, .dead, .dead, .dead, .dead, .dead, .dead, .dead, .dead, .dead, .dead, .dead, .dead, .dead, .dead, .dead, .dead, .dead, .dead, .dead, .dead, .dead, .dead, .dead, .dead, .dead, .dead], ob⟩
@[simp] theorem ext103 : E.ext 103 = none := rfl
@[simp] theorem trim103 (id : Nat) : E.trim 103 id = none := rfl
@[simp] theorem how103x0 : E.how 103 0 = 0 := rfl
@[simp] theorem keep103x2 : E.keep 103 2 = some [1, 3] := rfl
@[simp] def I_spec_l9OneofsOk_0 (s1 s3 : S) (ob : List (Nat × O)) : F := ⟨[.dead, s1, .dead, s3, .dead, .dead, .dead, .dead, .dead, .dead, .dead, .dead, .dead, .dead, .dead, .dead, .dead, .dead, .dead, .dead, .dead, .dead, .dead, .dead, .dead, .dead, .dead, .dead, .dead, .dead, .dead, .dead], ob⟩
@[simp] theorem keep103x6 : E.keep 103 6 = some [1, 3, 4, 5] := rfl
@[simp] def I_spec_l9OneofsOk_1 (s1 s3 s4 s5 : S) (ob : List (Nat × O)) : F := ⟨[.dead, s1, .dead, s3, s4, s5, .dead, .dead, .dead, .dead, .dead, .dead, .dead, .dead, .dead, .dead, .dead, .dead, .dead, .dead, .dead, .dead, .dead, .dead, .dead, .dead, .dead, .dead, .dead, .dead, .dead, .dead], ob⟩
@[simp] theorem ext104 : E.ext 104 = none := rfl
@[simp] theorem trim104 (id : Nat) : E.trim 104 id = none := rfl
@[simp] theorem how104x0 : E.how 104 0 = 0 := rfl
@[simp] theorem keep104x6 : E.keep 104 6 = some [1, 3, 4, 5] := rfl
@[simp] def I_spec_l9Jumps_0 (s1 s3 s4 s5 : S) (ob : List (Nat × O)) : F := ⟨[.dead, s1, .dead, s3, s4, s5, .dead, .dead, .dead, .dead, .dead, .dead, .dead, .dead, .dead, .dead, .dead, .dead, .dead, .dead, .dead, .dead, .dead, .dead, .dead, .dead, .dead, .dead, .dead, .dead, .dead, .dead, .dead, .dead, .dead, .dead, .dead, .dead, .dead, .dead, .dead, .dead, .dead, .dead, .dead, .dead, .dead, .dead, .dead, .dead, .dead, .dead, .dead, .dead, .dead], ob⟩
@[simp] theorem keep104x10 : E.keep 104 10 = some [1, 3, 4, 5, 6, 7] := rfl
@[simp] def I_spec_l9Jumps_1 (s1 s3 s4 s5 s6 s7 : S) (ob : List (Nat × O)) : F := ⟨[.dead, s1, .dead, s3, s4, s5, s6, s7, .dead, .dead, .dead, .dead, .dead, .dead, .dead, .dead, .dead, .dead, .dead, .dead, .dead, .dead, .dead, .dead, .dead, .dead, .dead, .dead, .dead, .dead, .dead, .dead, .dead, .dead, .dead, .dead, .dead, .dead, .dead, .dead, .dead, .dead, .dead, .dead, .dead, .dead, .dead, .dead, .dead, .dead, .dead, .dead, .dead, .dead, .dead], ob⟩
@[simp] theorem ext105 : E.ext 105 = none := rfl
@[simp] theorem trim105 (id : Nat) : E.trim 105 id = none := rfl
@[simp] theorem how105x0 : E.how 105 0 = 0 := rfl
@[simp] theorem ext106 : E.ext 106 = none := rfl
@[simp] theorem trim106 (id : Nat) : E.trim 106 id = none := rfl
@[simp] theorem how106x0 : E.how 106 0 = 0 := rfl
@[simp] theorem how106x1 : E.how 106 1 = 0 := rfl
@[simp] theorem ext107 : E.ext 107 = none := rfl
@[simp] theorem trim107 (id : Nat) : E.trim 107 id = none := rfl
@[simp] theorem how107x0 : E.how 107 0 = 0 := rfl
@[simp] theorem how107x1 : E.how 107 1 = 0 := rfl
@[simp] theorem ext108 : E.ext 108 = none := rfl
@[simp] theorem trim108x0 : E.trim 108 0 = none := rfl
@[simp] theorem trim108x1 : E.trim 108 1 = none := rfl
@[simp] theorem trim108x2 : E.trim 108 2 = none := rfl
@[simp] theorem trim108x3 : E.trim 108 3 = none := rfl
@[simp] theorem trim108x4 : E.trim 108 4 = none := rfl
@[simp] theorem trim108x5 : E.trim 108 5 = none := rfl
@[simp] theorem trim108x6 : E.trim 108 6 = none := rfl
@[simp] theorem trim108x7 : E.trim 108 7 = some [1, 2, 5, 7, 9, 10, 11] := rfl
@[simp] def J_impl_opsOk_7 (s1 s2 s5 s7 s9 s10 s11 : S) (ob : List (Nat × O)) : F := ⟨[.dead, s1, s2, .dead, .dead, s5, .dead, s7, .dead, s9, s10, s11, .dead, .dead, .dead, .dead, .dead, .dead, .dead, .dead, .dead, .dead, .dead, .dead, .dead, .dead, .dead, .dead, .dead, .dead, .dead, .dead, .dead, .dead, .dead, .dead, .dead, .dead, .dead, .dead, .dead, .dead, .dead, .dead, .dead, .dead, .dead, .dead, .dead, .dead, .dead, .dead, .dead, .dead, .dead, .dead, .dead, .dead, .dead, .dead, .dead, .dead, .dead, .dead, .dead, .dead, .dead, .dead, .dead, .dead, .dead, .dead, .dead, .dead, .dead, .dead, .dead, .dead, .dead, .dead, .dead, .dead, .dead, .dead, .dead, .dead, .dead, .dead, .dead, .dead, .dead, .dead, .dead, .dead, .dead, .dead, .dead, .dead, .dead, .dead, .dead, .dead], ob⟩
@[simp] theorem trim108x8 : E.trim 108 8 = none := rfl
@[simp] theorem trim108x9 : E.trim 108 9 = some [1, 2, 5, 7, 9, 10, 11] := rfl
@[simp] def J_impl_opsOk_9 (s1 s2 s5 s7 s9 s10 s11 : S) (ob : List (Nat × O)) : F := ⟨[.dead, s1, s2, .dead, .dead, s5, .dead, s7, .dead, s9, s10, s11, .dead, .dead, .dead, .dead, .dead, .dead, .dead, .dead, .dead, .dead, .dead, .dead, .dead, .dead, .dead, .dead, .dead, .dead, .dead, .dead, .dead, .dead, .dead, .dead, .dead, .dead, .dead, .dead, .dead, .dead, .dead, .dead, .dead, .dead, .dead, .dead, .dead, .dead, .dead, .dead, .dead, .dead, .dead, .dead, .dead, .dead, .dead, .dead, .dead, .dead, .dead, .dead, .dead, .dead, .dead, .dead, .dead, .dead, .dead, .dead, .dead, .dead, .dead, .dead, .dead, .dead, .dead, .dead, .dead, .dead, .dead, .dead, .dead, .dead, .dead, .dead, .dead, .dead, .dead, .dead, .dead, .dead, .dead, .dead, .dead, .dead, .dead, .dead, .dead, .dead], ob⟩
@[simp] theorem trim108x10 : E.trim 108 10 = some [1, 2, 5, 9, 10, 11] := rfl
@[simp] def J_impl_opsOk_10 (s1 s2 s5 s9 s10 s11 : S) (ob : List (Nat × O)) : F := ⟨[.dead, s1, s2, .dead, .dead, s5, .dead, .dead, .dead, s9, s10, s11, .dead, .dead, .dead, .dead, .dead, .dead, .dead, .dead, .dead, .dead, .dead, .dead, .dead, .dead, .dead, .dead, .dead, .dead, .dead, .dead, .dead, .dead, .dead, .dead, .dead, .dead, .dead, .dead, .dead, .dead, .dead, .dead, .dead, .dead, .dead, .dead, .dead, .dead, .dead, .dead, .dead, .dead, .dead, .dead, .dead, .dead, .dead, .dead, .dead, .dead, .dead, .dead, .dead, .dead, .dead, .dead, .dead, .dead, .dead, .dead, .dead, .dead, .dead, .dead, .dead, .dead, .dead, .dead, .dead, .dead, .dead, .dead, .dead, .dead, .dead, .dead, .dead, .dead, .dead, .dead, .dead, .dead, .dead, .dead, .dead, .dead, .dead, .dead, .dead, .dead], ob⟩
@[simp] theorem trim108x11 : E.trim 108 11 = some [1, 5] := rfl
@[simp] def J_impl_opsOk_11 (s1 s5 : S) (ob : List (Nat × O)) : F := ⟨[.dead, s1, .dead, .dead, .dead, s5, .dead, .dead, .dead, .dead, .dead, .dead, .dead, .dead, .dead, .dead, .dead, .dead, .dead, .dead, .dead, .dead, .dead, .dead, .dead, .dead, .dead, .dead, .dead, .dead, .dead, .dead, .dead, .dead, .dead, .dead, .dead, .dead, .dead, .dead, .dead, .dead, .dead, .dead, .dead, .dead, .dead, .dead, .dead, .dead, .dead, .dead, .dead, .dead, .dead, .dead, .dead, .dead, .dead, .dead, .dead, .dead, .dead, .dead, .dead, .dead, .dead, .dead, .dead, .dead, .dead, .dead, .dead, .dead, .dead, .dead, .dead, .dead, .dead, .dead, .dead, .dead, .dead, .dead, .dead, .dead, .dead, .dead, .dead, .dead, .dead, .dead, .dead, .dead, .dead, .dead, .dead, .dead, .dead, .dead, .dead, .dead], ob⟩
@[simp] theorem trim108x12 : E.trim 108 12 = none := rfl
@[simp] theorem trim108x13 : E.trim 108 13 = none := rfl
@[simp] theorem trim108x14 : E.trim 108 14 = none := rfl
@[simp] theorem trim108x16 : E.trim 108 16 = none := rfl
@[simp] theorem trim108x17 : E.trim 108 17 = none := rfl
@[simp] theorem trim108x18 : E.trim 108 18 = none := rfl
@[simp] theorem trim108x19 : E.trim 108 19 = none := rfl
@[simp] theorem trim108x15 : E.trim 108 15 = none := rfl
@[simp] theorem trim108x20 : E.trim 108 20 = none := rfl
@[simp] theorem how108x0 : E.how 108 0 = 0 := rfl
@[simp] theorem how108x1 : E.how 108 1 = 0 := rfl
@[simp] theorem keep108x3 : E.keep 108 3 = some [1, 2, 5, 9, 10, 11] := rfl
@[simp] def I_impl_opsOk_0 (s1 s2 s5 s9 s10 s11 : S) (ob : List (Nat × O)) : F := ⟨[.dead, s1, s2, .dead, .dead, s5, .dead, .dead, .dead, s9, s10, s11, .dead, .dead, .dead, .dead, .dead, .dead, .dead, .dead, .dead, .dead, .dead, .dead, .dead, .dead, .dead, .dead, .dead, .dead, .dead, .dead, .dead, .dead, .dead, .dead, .dead, .dead, .dead, .dead, .dead, .dead, .dead, .dead, .dead, .dead, .dead, .dead, .dead, .dead, .dead, .dead, .dead, .dead, .dead, .dead, .dead, .dead, .dead, .dead, .dead, .dead, .dead, .dead, .dead, .dead, .dead, .dead, .dead, .dead, .dead, .dead, .dead, .dead, .dead, .dead, .dead, .dead, .dead, .dead, .dead, .dead, .dead, .dead, .dead, .dead, .dead, .dead, .dead, .dead, .dead, .dead, .dead, .dead, .dead, .dead, .dead, .dead, .dead, .dead, .dead, .dead], ob⟩
@[simp] theorem keep108x14 : E.keep 108 14 = some [1, 5, 8] := rfl
@[simp] def I_impl_opsOk_1 (s1 s5 s8 : S) (ob : List (Nat × O)) : F := ⟨[.dead, s1, .dead, .dead, .dead, s5, .dead, .dead, s8, .dead, .dead, .dead, .dead, .dead, .dead, .dead, .dead, .dead, .dead, .dead, .dead, .dead, .dead, .dead, .dead, .dead, .dead, .dead, .dead, .dead, .dead, .dead, .dead, .dead, .dead, .dead, .dead, .dead, .dead, .dead, .dead, .dead, .dead, .dead, .dead, .dead, .dead, .dead, .dead, .dead, .dead, .dead, .dead, .dead, .dead, .dead, .dead, .dead, .dead, .dead, .dead, .dead, .dead, .dead, .dead, .dead, .dead, .dead, .dead, .dead, .dead, .dead, .dead, .dead, .dead, .dead, .dead, .dead, .dead, .dead, .dead, .dead, .dead, .dead, .dead, .dead, .dead, .dead, .dead, .dead, .dead, .dead, .dead, .dead, .dead, .dead, .dead, .dead, .dead, .dead, .dead, .dead], ob⟩
@[simp] theorem ext109 : E.ext 109 = none := rfl
@[simp] theorem trim109 (id : Nat) : E.trim 109 id = none := rfl
@[simp] theorem how109x0 : E.how 109 0 = 0 := rfl
@[simp] theorem keep109x6 : E.keep 109 6 = some [1, 4, 31, 32] := rfl
@[simp] def I_impl_jumpsOf_0 (s1 s4 s31 s32 : S) (ob : List (Nat × O)) : F := ⟨[.dead, s1, .dead, .dead, s4, .dead, .dead, .dead, .dead, .dead, .dead, .dead, .dead, .dead, .dead, .dead, .dead, .dead, .dead, .dead, .dead, .dead, .dead, .dead, .dead, .dead, .dead, .dead, .dead, .dead, .dead, s31, s32, .dead, .dead, .dead, .dead, .dead, .dead, .dead, .dead, .dead, .dead, .dead], ob⟩
@[simp] theorem ext110 : E.ext 110 = none := rfl
@[simp] theorem trim110x0 : E.trim 110 0 = none := rfl
@[simp] theorem trim110x1 : E.trim 110 1 = none := rfl
@[simp] theorem trim110x2 : E.trim 110 2 = none := rfl
@[simp] theorem trim110x3 : E.trim 110 3 = none := rfl
@[simp] theorem trim110x4 : E.trim 110 4 = some [1, 2, 3, 7] := rfl
@[simp] def J_impl_marksOk_4 (s1 s2 s3 s7 : S) (ob : List (Nat × O)) : F := ⟨[.dead, s1, s2, s3, .dead, .dead, .dead, s7, .dead, .dead, .dead, .dead, .dead, .dead, .dead, .dead, .dead, .dead, .dead, .dead, .dead, .dead, .dead, .dead, .dead, .dead, .dead, .dead, .dead, .dead, .dead, .dead, .dead, .dead, .dead, .dead, .dead, .dead, .dead, .dead, .dead, .dead, .dead, .dead, .dead, .dead, .dead, .dead, .dead, .dead, .dead, .dead, .dead, .dead, .dead, .dead, .dead, .dead, .dead, .dead, .dead, .dead, .dead, .dead, .dead, .dead, .dead, .dead, .dead, .dead, .dead, .dead, .dead, .dead, .dead, .dead, .dead, .dead, .dead, .dead, .dead, .dead, .dead, .dead, .dead, .dead, .dead, .dead, .dead, .dead, .dead, .dead, .dead, .dead, .dead, .dead, .dead], ob⟩
@[simp] theorem trim110x5 : E.trim 110 5 = none := rfl
@[simp] theorem trim110x6 : E.trim 110 6 = none := rfl
@[simp] theorem trim110x7 : E.trim 110 7 = none := rfl
@[simp] theorem trim110x8 : E.trim 110 8 = none := rfl
@[simp] theorem trim110x9 : E.trim 110 9 = none := rfl
@[simp] theorem trim110x10 : E.trim 110 10 = none := rfl
@[simp] theorem trim110x11 : E.trim 110 11 = none := rfl
@[simp] theorem trim110x12 : E.trim 110 12 = none := rfl
@[simp] theorem trim110x13 : E.trim 110 13 = some [3, 7] := rfl
@[simp] def J_impl_marksOk_13 (s3 s7 : S) (ob : List (Nat × O)) : F := ⟨[.dead, .dead, .dead, s3, .dead, .dead, .dead, s7, .dead, .dead, .dead, .dead, .dead, .dead, .dead, .dead, .dead, .dead, .dead, .dead, .dead, .dead, .dead, .dead, .dead, .dead, .dead, .dead, .dead, .dead, .dead, .dead, .dead, .dead, .dead, .dead, .dead, .dead, .dead, .dead, .dead, .dead, .dead, .dead, .dead, .dead, .dead, .dead, .dead, .dead, .dead, .dead, .dead, .dead, .dead, .dead, .dead, .dead, .dead, .dead, .dead, .dead, .dead, .dead, .dead, .dead, .dead, .dead, .dead, .dead, .dead, .dead, .dead, .dead, .dead, .dead, .dead, .dead, .dead, .dead, .dead, .dead, .dead, .dead, .dead, .dead, .dead, .dead, .dead, .dead, .dead, .dead, .dead, .dead, .dead, .dead, .dead], ob⟩
@[simp] theorem trim110x14 : E.trim 110 14 = none := rfl
@[simp] theorem trim110x15 : E.trim 110 15 = none := rfl
@[simp] theorem how110x0 : E.how 110 0 = 0 := rfl
@[simp] theorem how110x1 : E.how 110 1 = 0 := rfl
@[simp] theorem how110x2 : E.how 110 2 = 0 := rfl
@[simp] theorem keep110x8 : E.keep 110 8 = some [3, 7, 63, 64, 65] := rfl
@[simp] def I_impl_marksOk_0 (s3 s7 s63 s64 s65 : S) (ob : List (Nat × O)) : F := ⟨[.dead, .dead, .dead, s3, .dead, .dead, .dead, s7, .dead, .dead, .dead, .dead, .dead, .dead, .dead, .dead, .dead, .dead, .dead, .dead, .dead, .dead, .dead, .dead, .dead, .dead, .dead, .dead, .dead, .dead, .dead, .dead, .dead, .dead, .dead, .dead, .dead, .dead, .dead, .dead, .dead, .dead, .dead, .dead, .dead, .dead, .dead, .dead, .dead, .dead, .dead, .dead, .dead, .dead, .dead, .dead, .dead, .dead, .dead, .dead, .dead, .dead, .dead, s63, s64, s65, .dead, .dead, .dead, .dead, .dead, .dead, .dead, .dead, .dead, .dead, .dead, .dead, .dead, .dead, .dead, .dead, .dead, .dead, .dead, .dead, .dead, .dead, .dead, .dead, .dead, .dead, .dead, .dead, .dead, .dead, .dead], ob⟩
@[simp] theorem ext111 : E.ext 111 = none := rfl
@[simp] theorem trim111 (id : Nat) : E.trim 111 id = none := rfl
@[simp] theorem how111x0 : E.how 111 0 = 0 := rfl
@[simp] theorem how111x1 : E.how 111 1 = 0 := rfl
@[simp] theorem ext118 : E.ext 118 = none := rfl
@[simp] theorem trim118 (id : Nat) : E.trim 118 id = none := rfl
@[simp] theorem how118x0 : E.how 118 0 = 0 := rfl
@[simp] theorem how118x1 : E.how 118 1 = 0 := rfl
@[simp] theorem keep118x5 : E.keep 118 5 = some [0, 1, 5] := rfl
@[simp] def I_laws_szOpS_0 (s0 s1 s5 : S) (ob : List (Nat × O)) : F := ⟨[s0, s1, .dead, .dead, .dead, s5, .dead, .dead, .dead, .dead, .dead, .dead, .dead, .dead, .dead, .dead, .dead, .dead, .dead, .dead, .dead, .dead, .dead, .dead, .dead, .dead, .dead], ob⟩
@[simp] theorem ext119 : E.ext 119 = none := rfl
@[simp] theorem trim119 (id : Nat) : E.trim 119 id = none := rfl
@[simp] theorem how119x0 : E.how 119 0 = 0 := rfl
@[simp] theorem ext120 : E.ext 120 = none := rfl
@[simp] theorem trim120 (id : Nat) : E.trim 120 id = none := rfl
@[simp] theorem how120x0 : E.how 120 0 = 0 := rfl
@[simp] theorem how120x1 : E.how 120 1 = 0 := rfl
@[simp] theorem ext121 : E.ext 121 = none := rfl
@[simp] theorem trim121 (id : Nat) : E.trim 121 id = none := rfl
@[simp] theorem how121x0 : E.how 121 0 = 0 := rfl
@[simp] theorem ext122 : E.ext 122 = none := rfl
@[simp] theorem trim122 (id : Nat) : E.trim 122 id = none := rfl
@[simp] theorem how122x0 : E.how 122 0 = 0 := rfl
@[simp] theorem ext123 : E.ext 123 = none := rfl
@[simp] theorem trim123 (id : Nat) : E.trim 123 id = none := rfl
@[simp] theorem how123x0 : E.how 123 0 = 0 := rfl
@[simp] theorem how123x1 : E.how 123 1 = 0 := rfl
@[simp] theorem keep123x6 : E.keep 123 6 = some [2, 3, 5] := rfl
@[simp] def I_spec_l9Inline_0 (s2 s3 s5 : S) (ob : List (Nat × O)) : F := ⟨[.dead, .dead, s2, s3, .dead, s5, .dead, .dead, .dead, .dead, .dead, .dead, .dead, .dead, .dead, .dead, .dead, .dead, .dead, .dead, .dead, .dead, .dead, .dead, .dead, .dead, .dead, .dead, .dead, .dead, .dead, .dead, .dead, .dead, .dead, .dead, .dead, .dead, .dead, .dead, .dead, .dead, .dead, .dead, .dead, .dead, .dead, .dead, .dead, .dead, .dead, .dead, .dead, .dead, .dead, .dead, .dead, .dead, .dead, .dead], ob⟩
@[simp] theorem ext124 : E.ext 124 = none := rfl
@[simp] theorem trim124 (id : Nat) : E.trim 124 id = none := rfl
@[simp] theorem how124x0 : E.how 124 0 = 0 := rfl
@[simp] theorem ext125 : E.ext 125 = none := rfl
@[simp] theorem trim125 (id : Nat) : E.trim 125 id = none := rfl
@[simp] theorem how125x0 : E.how 125 0 = 0 := rfl
@[simp] theorem keep125x3 : E.keep 125 3 = some [1, 3, 4] := rfl
@[simp] def I_spec_l9Oneofs_0 (s1 s3 s4 : S) (ob : List (Nat × O)) : F := ⟨[.dead, s1, .dead, s3, s4, .dead, .dead, .dead, .dead, .dead, .dead, .dead, .dead, .dead, .dead, .dead, .dead, .dead, .dead, .dead, .dead, .dead, .dead, .dead, .dead, .dead, .dead], ob⟩
@[simp] theorem ext126 : E.ext 126 = none := rfl
@[simp] theorem trim126 (id : Nat) : E.trim 126 id = none := rfl
@[simp] theorem how126x0 : E.how 126 0 = 0 := rfl
@[simp] theorem keep126x3 : E.keep 126 3 = some [0, 3, 4] := rfl
@[simp] def I_laws_toOpS_0 (s0 s3 s4 : S) (ob : List (Nat × O)) : F := ⟨[s0, .dead, .dead, s3, s4, .dead, .dead, .dead, .dead, .dead, .dead, .dead, .dead, .dead, .dead, .dead, .dead, .dead, .dead, .dead, .dead, .dead, .dead], ob⟩
@[simp] theorem ext127 : E.ext 127 = none := rfl
@[simp] theorem trim127 (id : Nat) : E.trim 127 id = none := rfl
@[simp] theorem how127x0 : E.how 127 0 = 0 := rfl
@[simp] theorem how127x1 : E.how 127 1 = 0 := rfl
@[simp] theorem keep127x2 : E.keep 127 2 = some [0, 1, 7, 8] := rfl
@[simp] def I_slices_IndexFunc_Limpl_Mod_impl_Mod_0 (s0 s1 s7 s8 : S) (ob : List (Nat × O)) : F := ⟨[s0, s1, .dead, .dead, .dead, .dead, .dead, s7, s8, .dead, .dead, .dead, .dead, .dead, .dead, .dead, .dead, .dead, .dead], ob⟩
@[simp] theorem ext128 : E.ext 128 = none := rfl
@[simp] theorem trim128 (id : Nat) : E.trim 128 id = none := rfl
@[simp] theorem how128x0 : E.how 128 0 = 0 := rfl
@[simp] theorem ext129 : E.ext 129 = none := rfl
@[simp] theorem trim129 (id : Nat) : E.trim 129 id = none := rfl
@[simp] theorem how129x0 : E.how 129 0 = 0 := rfl
@[simp] theorem how129x1 : E.how 129 1 = 0 := rfl
@[simp] theorem ext130 : E.ext 130 = none := rfl
@[simp] theorem trim130 (id : Nat) : E.trim 130 id = none := rfl
@[simp] theorem how130x0 : E.how 130 0 = 0 := rfl
@[simp] theorem how130x1 : E.how 130 1 = 0 := rfl
@[simp] theorem ext131 : E.ext 131 = none := rfl
@[simp] theorem trim131 (id : Nat) : E.trim 131 id = none := rfl
@[simp] theorem how131x0 : E.how 131 0 = 0 := rfl
@[simp] theorem how131x1 : E.how 131 1 = 0 := rfl
@[simp] theorem keep131x2 : E.keep 131 2 = some [0, 1, 7, 8] := rfl
@[simp] def I_slices_IndexFunc_Limpl_Op_impl_Op_0 (s0 s1 s7 s8 : S) (ob : List (Nat × O)) : F := ⟨[s0, s1, .dead, .dead, .dead, .dead, .dead, s7, s8, .dead, .dead, .dead, .dead, .dead, .dead, .dead, .dead, .dead, .dead], ob⟩
@[simp] theorem ext132 : E.ext 132 = none := rfl
@[simp] theorem trim132 (id : Nat) : E.trim 132 id = none := rfl
@[simp] theorem how132x0 : E.how 132 0 = 0 := rfl
@[simp] theorem how132x1 : E.how 132 1 = 0 := rfl
@[simp] theorem ext133 : E.ext 133 = none := rfl
@[simp] theorem trim133 (id : Nat) : E.trim 133 id = none := rfl
@[simp] theorem how133x0 : E.how 133 0 = 0 := rfl
@[simp] theorem how133x1 : E.how 133 1 = 0 := rfl
@[simp] theorem keep133x4 : E.keep 133 4 = some [0, 1, 12, 13] := rfl
@[simp] def I_slices_Equal_Lbyte_byte_0 (s0 s1 s12 s13 : S) (ob : List (Nat × O)) : F := ⟨[s0, s1, .dead, .dead, .dead, .dead, .dead, .dead, .dead, .dead, .dead, .dead, s12, s13, .dead, .dead, .dead, .dead, .dead, .dead, .dead, .dead, .dead, .dead, .dead, .dead], ob⟩
@[simp] theorem ext134 : E.ext 134 = none := rfl
@[simp] theorem trim134 (id : Nat) : E.trim 134 id = none := rfl
@[simp] theorem how134x0 : E.how 134 0 = 0 := rfl
@[simp] theorem ext135 : E.ext 135 = none := rfl
@[simp] theorem trim135 (id : Nat) : E.trim 135 id = none := rfl
@[simp] theorem how135x0 : E.how 135 0 = 0 := rfl
@[simp] theorem ext136 : E.ext 136 = none := rfl
@[simp] theorem trim136 (id : Nat) : E.trim 136 id = none := rfl
@[simp] theorem how136x0 : E.how 136 0 = 0 := rfl
@[simp] theorem ext137 : E.ext 137 = none := rfl
@[simp] theorem trim137 (id : Nat) : E.trim 137 id = none := rfl
@[simp] theorem how137x0 : E.how 137 0 = 0 := rfl
@[simp] theorem how137x1 : E.how 137 1 = 0 := rfl
@[simp] theorem how137x2 : E.how 137 2 = 0 := rfl
@[simp] theorem keep137x4 : E.keep 137 4 = some [1, 2, 15, 16, 17] := rfl
@[simp] def I_slices_EqualFunc_Limpl_Op_Limpl_Op_impl_Op_impl_Op_0 (s1 s2 s15 s16 s17 : S) (ob : List (Nat × O)) : F := ⟨[.dead, s1, s2, .dead, .dead, .dead, .dead, .dead, .dead, .dead, .dead, .dead, .dead, .dead, .dead, s15, s16, s17, .dead, .dead, .dead, .dead, .dead, .dead, .dead, .dead, .dead, .dead, .dead, .dead, .dead, .dead], ob⟩
@[simp] theorem ext138 : E.ext 138 = none := rfl
@[simp] theorem trim138 (id : Nat) : E.trim 138 id = none := rfl
@[simp] theorem how138x0 : E.how 138 0 = 0 := rfl
@[simp] theorem how138x1 : E.how 138 1 = 0 := rfl
@[simp] theorem ext139 : E.ext 139 = none := rfl
@[simp] theorem trim139 (id : Nat) : E.trim 139 id = none := rfl
@[simp] theorem how139x0 : E.how 139 0 = 0 := rfl
@[simp] theorem ext140 : E.ext 140 = none := rfl
@[simp] theorem trim140 (id : Nat) : E.trim 140 id = none := rfl
@[simp] theorem how140x0 : E.how 140 0 = 0 := rfl
@[simp] theorem how140x1 : E.how 140 1 = 0 := rfl
@[simp] theorem ext141 : E.ext 141 = none := rfl
@[simp] theorem trim141 (id : Nat) : E.trim 141 id = none := rfl
@[simp] theorem how141x0 : E.how 141 0 = 0 := rfl
@[simp] theorem how141x1 : E.how 141 1 = 0 := rfl
@[simp] theorem keep141x4 : E.keep 141 4 = some [0, 1, 5] := rfl
@[simp] def I_laws_eqOpS_0 (s0 s1 s5 : S) (ob : List (Nat × O)) : F := ⟨[s0, s1, .dead, .dead, .dead, s5, .dead, .dead, .dead, .dead, .dead, .dead, .dead, .dead, .dead, .dead, .dead, .dead, .dead, .dead, .dead, .dead, .dead, .dead, .dead, .dead, .dead], ob⟩
@[simp] theorem ext151 : E.ext 151 = none := rfl
@[simp] theorem trim151 (id : Nat) : E.trim 151 id = none := rfl
@[simp] theorem how151x0 : E.how 151 0 = 0 := rfl
@[simp] theorem how151x1 : E.how 151 1 = 0 := rfl
@[simp] theorem ext152 : E.ext 152 = none := rfl
@[simp] theorem trim152 (id : Nat) : E.trim 152 id = none := rfl
@[simp] theorem how152x0 : E.how 152 0 = 0 := rfl
@[simp] theorem ext153 : E.ext 153 = none := rfl
@[simp] theorem trim153 (id : Nat) : E.trim 153 id = none := rfl
@[simp] theorem how153x0 : E.how 153 0 = 0 := rfl
@[simp] theorem ext154 : E.ext 154 = none := rfl
@[simp] theorem trim154 (id : Nat) : E.trim 154 id = none := rfl
@[simp] theorem how154x0 : E.how 154 0 = 0 := rfl
@[simp] theorem how154x1 : E.how 154 1 = 0 := rfl
@[simp] theorem ext155 : E.ext 155 = none := rfl
@[simp] theorem trim155 (id : Nat) : E.trim 155 id = none := rfl
@[simp] theorem how155x0 : E.how 155 0 = 0 := rfl
@[simp] theorem ext156 : E.ext 156 = none := rfl
@[simp] theorem trim156 (id : Nat) : E.trim 156 id = none := rfl
@[simp] theorem how156x0 : E.how 156 0 = 0 := rfl
@[simp] theorem how156x1 : E.how 156 1 = 0 := rfl
@[simp] theorem ext157 : E.ext 157 = none := rfl
@[simp] theorem trim157 (id : Nat) : E.trim 157 id = none := rfl
@[simp] theorem how157x0 : E.how 157 0 = 0 := rfl
@[simp] theorem how157x1 : E.how 157 1 = 0 := rfl
@[simp] theorem ext158 : E.ext 158 = none := rfl
@[simp] theorem trim158 (id : Nat) : E.trim 158 id = none := rfl
@[simp] theorem how158x0 : E.how 158 0 = 0 := rfl
@[simp] theorem how158x1 : E.how 158 1 = 0 := rfl
end Go.Proofs.Ytmkhdnpnjjdgfaa.Th
