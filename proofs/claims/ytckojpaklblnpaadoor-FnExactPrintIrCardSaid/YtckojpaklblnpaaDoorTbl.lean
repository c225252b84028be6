/- Tables for the evaluator: types, how arguments are handed over, what lives at loops' heads; the functions' codes. Printed by a program of mine. -/
import Derived.Test.YtckojpaklblnpaaDoorExt
import Derived.Test.YtckojpaklblnpaaDoorEd
import Derived.Test.YtckojpaklblnpaaDoorChecked
import Derived.KernelRfl
set_option maxRecDepth 10000
namespace Go.Proofs.YtckojpaklblnpaaDoor.Th
open Go Go.RowKit Go.Proofs.YtckojpaklblnpaaDoor.Ev

def howTab : FuncId → Nat → Nat
  | _, _ => 0

def keepTab : FuncId → Nat → Option (List Nat)
  | 5, 5 => some [1, 3, 4]
  | 5, 14 => some [1, 3, 4, 6]
  | 7, 5 => some [3, 13, 14, 15]
  | 7, 14 => some [3, 13, 14, 15, 38, 39, 40]
  | 9, 5 => some [0, 1, 5]
  | 10, 4 => some [1, 3]
  | 10, 9 => some [1, 4]
  | 10, 13 => some [1, 4, 5, 6]
  | 13, 3 => some [0, 3, 4]
  | 14, 4 => some [1, 18, 19, 20]
  | 14, 9 => some [1, 4, 18, 19, 20, 38, 39]
  | 16, 12 => some [0, 1, 5, 39, 40, 41]
  | 16, 22 => some [1, 8, 63, 64, 65]
  | 18, 4 => some [0, 1, 5]
  | 21, 14 => some [2, 4, 7, 9]
  | 22, 2 => some [1, 3]
  | 22, 6 => some [1, 3, 4, 5]
  | 23, 4 => some [0, 1, 5]
  | 24, 6 => some [1, 3, 4, 5]
  | 24, 10 => some [1, 3, 4, 5, 6, 7]
  | 31, 3 => some [1, 2, 5, 9, 10, 11]
  | 31, 14 => some [1, 5, 8]
  | 32, 4 => some [0, 1, 12, 13]
  | 33, 6 => some [1, 4, 31, 32]
  | 34, 8 => some [3, 7, 63, 64, 65]
  | 42, 5 => some [0, 1, 5]
  | 45, 4 => some [0, 1, 5]
  | 49, 6 => some [2, 3, 5]
  | 51, 3 => some [1, 3, 4]
  | 53, 3 => some [0, 3, 4]
  | 54, 3 => some [0, 3, 4]
  | 55, 2 => some [0, 1, 7, 8]
  | 59, 2 => some [0, 1, 7, 8]
  | 61, 4 => some [0, 1, 12, 13]
  | 65, 4 => some [1, 2, 15, 16, 17]
  | 72, 4 => some [0, 1, 5]
  | 73, 4 => some [0, 1, 5]
  | 76, 3 => some [3, 4]
  | 90, 3 => some [0, 3, 4]
  | 91, 3 => some [3, 4]
  | 97, 4 => some [0, 1, 5]
  | _, _ => none

def trimTab : FuncId → Nat → Option (List Nat)
  | 5, 10 => some [1, 3, 4, 5]
  | 5, 12 => some [1, 3, 4, 5]
  | 7, 10 => some [3, 5, 6, 13, 14, 15]
  | 7, 12 => some [3, 5, 6, 13, 14, 15]
  | 12, 2 => some [1, 3]
  | 12, 4 => some [1, 3]
  | 12, 6 => some [1, 3]
  | 12, 8 => some [1, 3]
  | 12, 10 => some [1, 3]
  | 12, 12 => some [1, 3]
  | 12, 14 => some [1, 3]
  | 12, 16 => some [3]
  | 14, 8 => some [1, 4, 18, 19, 20]
  | 17, 8 => some [1, 3]
  | 21, 5 => some [2, 3, 4, 7, 8]
  | 21, 7 => some [2, 3, 4, 7]
  | 21, 9 => some [2, 4, 7]
  | 31, 7 => some [1, 2, 5, 7, 9, 10, 11]
  | 31, 9 => some [1, 2, 5, 7, 9, 10, 11]
  | 31, 10 => some [1, 2, 5, 9, 10, 11]
  | 31, 11 => some [1, 5]
  | 34, 4 => some [1, 2, 3, 7]
  | 34, 13 => some [3, 7]
  | _, _ => none

def codeAt : List Nat → Code → Code
  | [], c => c
  | 0 :: p, .seq a _ => codeAt p a
  | _ :: p, .seq _ b => codeAt p b
  | 0 :: p, .cond _ a _ => codeAt p a
  | _ :: p, .cond _ _ b => codeAt p b
  | _ :: p, .block _ c => codeAt p c
  | _ :: p, .loop c => codeAt p c
  | _ :: p, .scope c => codeAt p c
  | _, _ => .skip

def bodyOf (f : Func) : Code := match f.body with | some c => c | none => .skip

def extTab : FuncId → Option (List S → List O → Option (V × List (Option O)))
  | 15 => some extItoa
  | 16 => some extJoin
  | _ => none

noncomputable def E : Env := { ty := tvOf Tryd.prog, how := howTab, ext := extTab, keep := keepTab, trim := trimTab }

noncomputable def fs (f : FuncId) : Option Func := Tryd.prog.funcs[f]?
abbrev f_laws_FnExactPrintIr : FuncId := 3
@[simp] theorem fs_laws_FnExactPrintIr : fs 3 = some Tryd.f3 := Tryd.func3
abbrev f_laws_szIR : FuncId := 4
@[simp] theorem fs_laws_szIR : fs 4 = some Tryd.f4 := Tryd.func4
abbrev f_spec_PrintIr : FuncId := 5
@[simp] theorem fs_spec_PrintIr : fs 5 = some Tryd.f5 := Tryd.func5
abbrev f_laws_toIR : FuncId := 6
@[simp] theorem fs_laws_toIR : fs 6 = some Tryd.f6 := Tryd.func6
abbrev f_impl_PrintIr : FuncId := 7
@[simp] theorem fs_impl_PrintIr : fs 7 = some Tryd.f7 := Tryd.func7
abbrev f_laws_eqIR : FuncId := 8
@[simp] theorem fs_laws_eqIR : fs 8 = some Tryd.f8 := Tryd.func8
abbrev f_laws_szModS : FuncId := 9
@[simp] theorem fs_laws_szModS : fs 9 = some Tryd.f9 := Tryd.func9
abbrev f_spec_IrOk : FuncId := 10
@[simp] theorem fs_spec_IrOk : fs 10 = some Tryd.f10 := Tryd.func10
abbrev f_spec_l4Decimal : FuncId := 11
@[simp] theorem fs_spec_l4Decimal : fs 11 = some Tryd.f11 := Tryd.func11
abbrev f_spec_l20Op : FuncId := 12
@[simp] theorem fs_spec_l20Op : fs 12 = some Tryd.f12 := Tryd.func12
abbrev f_laws_toModS : FuncId := 13
@[simp] theorem fs_laws_toModS : fs 13 = some Tryd.f13 := Tryd.func13
abbrev f_impl_IrOk : FuncId := 14
@[simp] theorem fs_impl_IrOk : fs 14 = some Tryd.f14 := Tryd.func14
abbrev f_strconv_Itoa : FuncId := 15
@[simp] theorem fs_strconv_Itoa : fs 15 = some Tryd.f15 := Tryd.func15
abbrev f_strings_Join : FuncId := 16
@[simp] theorem fs_strings_Join : fs 16 = some Tryd.f16 := Tryd.func16
abbrev f_impl_opWords : FuncId := 17
@[simp] theorem fs_impl_opWords : fs 17 = some Tryd.f17 := Tryd.func17
abbrev f_laws_eqModS : FuncId := 18
@[simp] theorem fs_laws_eqModS : fs 18 = some Tryd.f18 := Tryd.func18
abbrev f_laws_szMod : FuncId := 19
@[simp] theorem fs_laws_szMod : fs 19 = some Tryd.f19 := Tryd.func19
abbrev f_spec_l1In : FuncId := 20
@[simp] theorem fs_spec_l1In : fs 20 = some Tryd.f20 := Tryd.func20
abbrev f_spec_l9OpOk : FuncId := 21
@[simp] theorem fs_spec_l9OpOk : fs 21 = some Tryd.f21 := Tryd.func21
abbrev f_spec_l9OneofsOk : FuncId := 22
@[simp] theorem fs_spec_l9OneofsOk : fs 22 = some Tryd.f22 := Tryd.func22
abbrev f_spec_l9SameInts : FuncId := 23
@[simp] theorem fs_spec_l9SameInts : fs 23 = some Tryd.f23 := Tryd.func23
abbrev f_spec_l9Jumps : FuncId := 24
@[simp] theorem fs_spec_l9Jumps : fs 24 = some Tryd.f24 := Tryd.func24
abbrev f_spec_l4Figures : FuncId := 25
@[simp] theorem fs_spec_l4Figures : fs 25 = some Tryd.f25 := Tryd.func25
abbrev f_spec_l20Word : FuncId := 26
@[simp] theorem fs_spec_l20Word : fs 26 = some Tryd.f26 := Tryd.func26
abbrev f_laws_toMod : FuncId := 27
@[simp] theorem fs_laws_toMod : fs 27 = some Tryd.f27 := Tryd.func27
abbrev f_impl_within : FuncId := 28
@[simp] theorem fs_impl_within : fs 28 = some Tryd.f28 := Tryd.func28
abbrev f_slices_ContainsFunc_Limpl_Mod_impl_Mod : FuncId := 29
@[simp] theorem fs_slices_ContainsFunc_Limpl_Mod_impl_Mod : fs 29 = some Tryd.f29 := Tryd.func29
abbrev f_impl_IrOkS1 : FuncId := 30
@[simp] theorem fs_impl_IrOkS1 : fs 30 = some Tryd.f30 := Tryd.func30
abbrev f_impl_opsOk : FuncId := 31
@[simp] theorem fs_impl_opsOk : fs 31 = some Tryd.f31 := Tryd.func31
abbrev f_slices_Equal_Lint_int : FuncId := 32
@[simp] theorem fs_slices_Equal_Lint_int : fs 32 = some Tryd.f32 := Tryd.func32
abbrev f_impl_jumpsOf : FuncId := 33
@[simp] theorem fs_impl_jumpsOf : fs 33 = some Tryd.f33 := Tryd.func33
abbrev f_impl_marksOk : FuncId := 34
@[simp] theorem fs_impl_marksOk : fs 34 = some Tryd.f34 := Tryd.func34
abbrev f_impl_kindNames : FuncId := 39
@[simp] theorem fs_impl_kindNames : fs 39 = some Tryd.f39 := Tryd.func39
abbrev f_impl_opWordsS1 : FuncId := 40
@[simp] theorem fs_impl_opWordsS1 : fs 40 = some Tryd.f40 := Tryd.func40
abbrev f_laws_eqMod : FuncId := 41
@[simp] theorem fs_laws_eqMod : fs 41 = some Tryd.f41 := Tryd.func41
abbrev f_laws_szOpS : FuncId := 42
@[simp] theorem fs_laws_szOpS : fs 42 = some Tryd.f42 := Tryd.func42
abbrev f_laws_szIntS : FuncId := 43
@[simp] theorem fs_laws_szIntS : fs 43 = some Tryd.f43 := Tryd.func43
abbrev f_spec_l5Num : FuncId := 44
@[simp] theorem fs_spec_l5Num : fs 44 = some Tryd.f44 := Tryd.func44
abbrev f_spec_l1Same : FuncId := 45
@[simp] theorem fs_spec_l1Same : fs 45 = some Tryd.f45 := Tryd.func45
abbrev f_spec_PutTag : FuncId := 46
@[simp] theorem fs_spec_PutTag : fs 46 = some Tryd.f46 := Tryd.func46
abbrev f_spec_l9Wire : FuncId := 47
@[simp] theorem fs_spec_l9Wire : fs 47 = some Tryd.f47 := Tryd.func47
abbrev f_spec_WireOf : FuncId := 48
@[simp] theorem fs_spec_WireOf : fs 48 = some Tryd.f48 := Tryd.func48
abbrev f_spec_l9Inline : FuncId := 49
@[simp] theorem fs_spec_l9Inline : fs 49 = some Tryd.f49 := Tryd.func49
abbrev f_spec_l9Block : FuncId := 50
@[simp] theorem fs_spec_l9Block : fs 50 = some Tryd.f50 := Tryd.func50
abbrev f_spec_l9Oneofs : FuncId := 51
@[simp] theorem fs_spec_l9Oneofs : fs 51 = some Tryd.f51 := Tryd.func51
abbrev f_spec_l4Scalars : FuncId := 52
@[simp] theorem fs_spec_l4Scalars : fs 52 = some Tryd.f52 := Tryd.func52
abbrev f_laws_toOpS : FuncId := 53
@[simp] theorem fs_laws_toOpS : fs 53 = some Tryd.f53 := Tryd.func53
abbrev f_laws_toIntS : FuncId := 54
@[simp] theorem fs_laws_toIntS : fs 54 = some Tryd.f54 := Tryd.func54
abbrev f_slices_IndexFunc_Limpl_Mod_impl_Mod : FuncId := 55
@[simp] theorem fs_slices_IndexFunc_Limpl_Mod_impl_Mod : fs 55 = some Tryd.f55 := Tryd.func55
abbrev f_impl_numOk : FuncId := 56
@[simp] theorem fs_impl_numOk : fs 56 = some Tryd.f56 := Tryd.func56
abbrev f_slices_ContainsFunc_Limpl_Op_impl_Op : FuncId := 57
@[simp] theorem fs_slices_ContainsFunc_Limpl_Op_impl_Op : fs 57 = some Tryd.f57 := Tryd.func57
abbrev f_impl_opsOkS1 : FuncId := 58
@[simp] theorem fs_impl_opsOkS1 : fs 58 = some Tryd.f58 := Tryd.func58
abbrev f_slices_IndexFunc_Limpl_Op_impl_Op : FuncId := 59
@[simp] theorem fs_slices_IndexFunc_Limpl_Op_impl_Op : fs 59 = some Tryd.f59 := Tryd.func59
abbrev f_impl_jumpsOfS1 : FuncId := 60
@[simp] theorem fs_impl_jumpsOfS1 : fs 60 = some Tryd.f60 := Tryd.func60
abbrev f_slices_Equal_Lbyte_byte : FuncId := 61
@[simp] theorem fs_slices_Equal_Lbyte_byte : fs 61 = some Tryd.f61 := Tryd.func61
abbrev f_impl_tagOf : FuncId := 62
@[simp] theorem fs_impl_tagOf : fs 62 = some Tryd.f62 := Tryd.func62
abbrev f_impl_WireOf : FuncId := 63
@[simp] theorem fs_impl_WireOf : fs 63 = some Tryd.f63 := Tryd.func63
abbrev f_impl_mayRun : FuncId := 64
@[simp] theorem fs_impl_mayRun : fs 64 = some Tryd.f64 := Tryd.func64
abbrev f_slices_EqualFunc_Limpl_Op_Limpl_Op_impl_Op_impl_Op : FuncId := 65
@[simp] theorem fs_slices_EqualFunc_Limpl_Op_Limpl_Op_impl_Op_impl_Op : fs 65 = some Tryd.f65 := Tryd.func65
abbrev f_impl_marksOkS1 : FuncId := 66
@[simp] theorem fs_impl_marksOkS1 : fs 66 = some Tryd.f66 := Tryd.func66
abbrev f_impl_isBare : FuncId := 67
@[simp] theorem fs_impl_isBare : fs 67 = some Tryd.f67 := Tryd.func67
abbrev f_impl_sameField : FuncId := 68
@[simp] theorem fs_impl_sameField : fs 68 = some Tryd.f68 := Tryd.func68
abbrev f_laws_eqOpS : FuncId := 72
@[simp] theorem fs_laws_eqOpS : fs 72 = some Tryd.f72 := Tryd.func72
abbrev f_laws_eqIntS : FuncId := 73
@[simp] theorem fs_laws_eqIntS : fs 73 = some Tryd.f73 := Tryd.func73
abbrev f_laws_szOp : FuncId := 74
@[simp] theorem fs_laws_szOp : fs 74 = some Tryd.f74 := Tryd.func74
abbrev f_spec_l1Wire : FuncId := 75
@[simp] theorem fs_spec_l1Wire : fs 75 = some Tryd.f75 := Tryd.func75
abbrev f_spec_PutVarint : FuncId := 76
@[simp] theorem fs_spec_PutVarint : fs 76 = some Tryd.f76 := Tryd.func76
abbrev f_spec_l9Plain : FuncId := 77
@[simp] theorem fs_spec_l9Plain : fs 77 = some Tryd.f77 := Tryd.func77
abbrev f_spec_l9Same : FuncId := 78
@[simp] theorem fs_spec_l9Same : fs 78 = some Tryd.f78 := Tryd.func78
abbrev f_laws_toOp : FuncId := 79
@[simp] theorem fs_laws_toOp : fs 79 = some Tryd.f79 := Tryd.func79
abbrev f_impl_isPacked : FuncId := 80
@[simp] theorem fs_impl_isPacked : fs 80 = some Tryd.f80 := Tryd.func80
abbrev f_impl_PutTag : FuncId := 81
@[simp] theorem fs_impl_PutTag : fs 81 = some Tryd.f81 := Tryd.func81
abbrev f_laws_eqOp : FuncId := 88
@[simp] theorem fs_laws_eqOp : fs 88 = some Tryd.f88 := Tryd.func88
abbrev f_laws_szByteS : FuncId := 89
@[simp] theorem fs_laws_szByteS : fs 89 = some Tryd.f89 := Tryd.func89
abbrev f_laws_toByteS : FuncId := 90
@[simp] theorem fs_laws_toByteS : fs 90 = some Tryd.f90 := Tryd.func90
abbrev f_impl_PutVarint : FuncId := 91
@[simp] theorem fs_impl_PutVarint : fs 91 = some Tryd.f91 := Tryd.func91
abbrev f_laws_eqByteS : FuncId := 97
@[simp] theorem fs_laws_eqByteS : fs 97 = some Tryd.f97 := Tryd.func97
@[simp] theorem ty3 : E.ty 3 = some ⟨.int .i64, 1, 8, [.lit (.int .i64 0)], false⟩ := by kernel_rfl
@[simp] theorem ty4 : E.ty 4 = some ⟨.bool, 1, 1, [.lit (.bool false)], false⟩ := by kernel_rfl
@[simp] theorem ty5 : E.ty 5 = some ⟨.int .u8, 1, 1, [.lit (.int .u8 0)], false⟩ := by kernel_rfl
@[simp] theorem ty9 : E.ty 9 = some ⟨.string, 1, 16, [.lit (.string ⟨#[]⟩)], false⟩ := by kernel_rfl
@[simp] theorem ty22 : E.ty 22 = some ⟨.slice 52, 1, 24, [.sl 0 []], false⟩ := by kernel_rfl
@[simp] theorem ty24 : E.ty 24 = some ⟨.struct #[⟨"Mods", 22, 0, false, "", "", 0⟩], 1, 24, [.sl 0 []], true⟩ := by kernel_rfl
@[simp] theorem ty27 : E.ty 27 = some ⟨.slice 40, 1, 24, [.sl 0 []], false⟩ := by kernel_rfl
@[simp] theorem ty29 : E.ty 29 = some ⟨.struct #[⟨"Mods", 27, 0, false, "", "", 0⟩], 1, 24, [.sl 0 []], true⟩ := by kernel_rfl
@[simp] theorem ty35 : E.ty 35 = some ⟨.slice 5, 1, 24, [.sl 0 []], false⟩ := by kernel_rfl
@[simp] theorem ty37 : E.ty 37 = some ⟨.slice 43, 1, 24, [.sl 0 []], false⟩ := by kernel_rfl
@[simp] theorem ty38 : E.ty 38 = some ⟨.slice 3, 1, 24, [.sl 0 []], false⟩ := by kernel_rfl
@[simp] theorem ty40 : E.ty 40 = some ⟨.struct #[⟨"Ops", 37, 0, false, "", "", 0⟩, ⟨"Jumps", 38, 1, false, "", "", 24⟩, ⟨"Cached", 4, 2, false, "", "", 48⟩], 3, 56, [.sl 0 [], .sl 0 [], .lit (.bool false)], true⟩ := by kernel_rfl
@[simp] theorem ty43 : E.ty 43 = some ⟨.struct #[⟨"Num", 3, 0, false, "", "", 0⟩, ⟨"Kind", 3, 1, false, "", "", 8⟩, ⟨"Ref", 3, 2, false, "", "", 16⟩, ⟨"Repeated", 4, 3, false, "", "", 24⟩, ⟨"Oneof", 3, 4, false, "", "", 32⟩, ⟨"Tag", 35, 5, false, "", "", 40⟩, ⟨"Quick", 4, 6, false, "", "", 64⟩, ⟨"Run", 3, 7, false, "", "", 72⟩, ⟨"Inline", 37, 8, false, "", "", 80⟩], 9, 104, [.lit (.int .i64 0), .lit (.int .i64 0), .lit (.int .i64 0), .lit (.bool false), .lit (.int .i64 0), .sl 0 [], .lit (.bool false), .lit (.int .i64 0), .sl 0 []], true⟩ := by kernel_rfl
@[simp] theorem ty46 : E.ty 46 = some ⟨.slice 9, 1, 24, [.sl 0 []], false⟩ := by kernel_rfl
@[simp] theorem ty50 : E.ty 50 = some ⟨.slice 99, 1, 24, [.sl 0 []], false⟩ := by kernel_rfl
@[simp] theorem ty52 : E.ty 52 = some ⟨.struct #[⟨"Ops", 50, 0, false, "", "", 0⟩, ⟨"Jumps", 38, 1, false, "", "", 24⟩, ⟨"Cached", 4, 2, false, "", "", 48⟩], 3, 56, [.sl 0 [], .sl 0 [], .lit (.bool false)], true⟩ := by kernel_rfl
@[simp] theorem ty59 : E.ty 59 = some ⟨.int .u64, 1, 8, [.lit (.int .u64 0)], false⟩ := by kernel_rfl
@[simp] theorem ty64 : E.ty 64 = some ⟨.pointer 66, 1, 8, [.lit (.pointer none)], false⟩ := by kernel_rfl
@[simp] theorem ty66 : E.ty 66 = some ⟨.struct #[⟨"addr", 64, 0, false, "", "strings", 0⟩, ⟨"buf", 35, 1, false, "", "strings", 8⟩], 2, 32, [.lit (.pointer none), .sl 0 []], true⟩ := by kernel_rfl
@[simp] theorem ty99 : E.ty 99 = some ⟨.struct #[⟨"Num", 3, 0, false, "", "", 0⟩, ⟨"Kind", 3, 1, false, "", "", 8⟩, ⟨"Ref", 3, 2, false, "", "", 16⟩, ⟨"Repeated", 4, 3, false, "", "", 24⟩, ⟨"Oneof", 3, 4, false, "", "", 32⟩, ⟨"Tag", 35, 5, false, "", "", 40⟩, ⟨"Quick", 4, 6, false, "", "", 64⟩, ⟨"Run", 3, 7, false, "", "", 72⟩, ⟨"Inline", 50, 8, false, "", "", 80⟩], 9, 104, [.lit (.int .i64 0), .lit (.int .i64 0), .lit (.int .i64 0), .lit (.bool false), .lit (.int .i64 0), .sl 0 [], .lit (.bool false), .lit (.int .i64 0), .sl 0 []], true⟩ := by kernel_rfl
@[simp] theorem ext3 : E.ext 3 = none := rfl
@[simp] theorem trim3 (id : Nat) : E.trim 3 id = none := rfl
@[simp] theorem how3x0 : E.how 3 0 = 0 := rfl
@[simp] theorem ext4 : E.ext 4 = none := rfl
@[simp] theorem trim4 (id : Nat) : E.trim 4 id = none := rfl
@[simp] theorem how4x0 : E.how 4 0 = 0 := rfl
@[simp] theorem how4x1 : E.how 4 1 = 0 := rfl
@[simp] theorem ext5 : E.ext 5 = none := rfl
@[simp] theorem trim5x0 : E.trim 5 0 = none := rfl
@[simp] theorem trim5x1 : E.trim 5 1 = none := rfl
@[simp] theorem trim5x2 : E.trim 5 2 = none := rfl
@[simp] theorem trim5x3 : E.trim 5 3 = none := rfl
@[simp] theorem trim5x4 : E.trim 5 4 = none := rfl
@[simp] theorem trim5x5 : E.trim 5 5 = none := rfl
@[simp] theorem trim5x7 : E.trim 5 7 = none := rfl
@[simp] theorem trim5x8 : E.trim 5 8 = none := rfl
@[simp] theorem trim5x9 : E.trim 5 9 = none := rfl
@[simp] theorem trim5x10 : E.trim 5 10 = some [1, 3, 4, 5] := rfl
@[simp] def J_spec_PrintIr_10 (s1 s3 s4 s5 : S) (ob : List (Nat × O)) : F := ⟨[.dead, s1, .dead, s3, s4, s5, .dead, .dead, .dead, .dead, .dead, .dead, .dead, .dead, .dead, .dead, .dead, .dead, .dead, .dead, .dead, .dead, .dead, .dead, .dead, .dead, .dead, .dead, .dead, .dead, .dead, .dead, .dead, .dead, .dead, .dead, .dead, .dead, .dead, .dead, .dead, .dead, .dead, .dead, .dead, .dead, .dead, .dead, .dead, .dead, .dead, .dead, .dead, .dead, .dead, .dead, .dead, .dead, .dead, .dead, .dead, .dead, .dead, .dead, .dead, .dead, .dead, .dead, .dead], ob⟩
@[simp] theorem trim5x11 : E.trim 5 11 = none := rfl
@[simp] theorem trim5x12 : E.trim 5 12 = some [1, 3, 4, 5] := rfl
@[simp] def J_spec_PrintIr_12 (s1 s3 s4 s5 : S) (ob : List (Nat × O)) : F := ⟨[.dead, s1, .dead, s3, s4, s5, .dead, .dead, .dead, .dead, .dead, .dead, .dead, .dead, .dead, .dead, .dead, .dead, .dead, .dead, .dead, .dead, .dead, .dead, .dead, .dead, .dead, .dead, .dead, .dead, .dead, .dead, .dead, .dead, .dead, .dead, .dead, .dead, .dead, .dead, .dead, .dead, .dead, .dead, .dead, .dead, .dead, .dead, .dead, .dead, .dead, .dead, .dead, .dead, .dead, .dead, .dead, .dead, .dead, .dead, .dead, .dead, .dead, .dead, .dead, .dead, .dead, .dead, .dead], ob⟩
@[simp] theorem trim5x13 : E.trim 5 13 = none := rfl
@[simp] theorem trim5x14 : E.trim 5 14 = none := rfl
@[simp] theorem trim5x16 : E.trim 5 16 = none := rfl
@[simp] theorem trim5x15 : E.trim 5 15 = none := rfl
@[simp] theorem trim5x6 : E.trim 5 6 = none := rfl
@[simp] theorem trim5x17 : E.trim 5 17 = none := rfl
@[simp] theorem how5x0 : E.how 5 0 = 0 := rfl
@[simp] theorem keep5x5 : E.keep 5 5 = some [1, 3, 4] := rfl
@[simp] def I_spec_PrintIr_0 (s1 s3 s4 : S) (ob : List (Nat × O)) : F := ⟨[.dead, s1, .dead, s3, s4, .dead, .dead, .dead, .dead, .dead, .dead, .dead, .dead, .dead, .dead, .dead, .dead, .dead, .dead, .dead, .dead, .dead, .dead, .dead, .dead, .dead, .dead, .dead, .dead, .dead, .dead, .dead, .dead, .dead, .dead, .dead, .dead, .dead, .dead, .dead, .dead, .dead, .dead, .dead, .dead, .dead, .dead, .dead, .dead, .dead, .dead, .dead, .dead, .dead, .dead, .dead, .dead, .dead, .dead, .dead, .dead, .dead, .dead, .dead, .dead, .dead, .dead, .dead, .dead], ob⟩
@[simp] theorem keep5x14 : E.keep 5 14 = some [1, 3, 4, 6] := rfl
@[simp] def I_spec_PrintIr_1 (s1 s3 s4 s6 : S) (ob : List (Nat × O)) : F := ⟨[.dead, s1, .dead, s3, s4, .dead, s6, .dead, .dead, .dead, .dead, .dead, .dead, .dead, .dead, .dead, .dead, .dead, .dead, .dead, .dead, .dead, .dead, .dead, .dead, .dead, .dead, .dead, .dead, .dead, .dead, .dead, .dead, .dead, .dead, .dead, .dead, .dead, .dead, .dead, .dead, .dead, .dead, .dead, .dead, .dead, .dead, .dead, .dead, .dead, .dead, .dead, .dead, .dead, .dead, .dead, .dead, .dead, .dead, .dead, .dead, .dead, .dead, .dead, .dead, .dead, .dead, .dead, .dead], ob⟩
@[simp] theorem ext6 : E.ext 6 = none := rfl
@[simp] theorem trim6 (id : Nat) : E.trim 6 id = none := rfl
@[simp] theorem how6x0 : E.how 6 0 = 0 := rfl
@[simp] theorem ext7 : E.ext 7 = none := rfl
@[simp] theorem trim7x0 : E.trim 7 0 = none := rfl
@[simp] theorem trim7x1 : E.trim 7 1 = none := rfl
@[simp] theorem trim7x2 : E.trim 7 2 = none := rfl
@[simp] theorem trim7x3 : E.trim 7 3 = none := rfl
@[simp] theorem trim7x4 : E.trim 7 4 = none := rfl
@[simp] theorem trim7x5 : E.trim 7 5 = none := rfl
@[simp] theorem trim7x6 : E.trim 7 6 = none := rfl
@[simp] theorem trim7x7 : E.trim 7 7 = none := rfl
@[simp] theorem trim7x8 : E.trim 7 8 = none := rfl
@[simp] theorem trim7x9 : E.trim 7 9 = none := rfl
@[simp] theorem trim7x10 : E.trim 7 10 = some [3, 5, 6, 13, 14, 15] := rfl
@[simp] def J_impl_PrintIr_10 (s3 s5 s6 s13 s14 s15 : S) (ob : List (Nat × O)) : F := ⟨[.dead, .dead, .dead, s3, .dead, s5, s6, .dead, .dead, .dead, .dead, .dead, .dead, s13, s14, s15, .dead, .dead, .dead, .dead, .dead, .dead, .dead, .dead, .dead, .dead, .dead, .dead, .dead, .dead, .dead, .dead, .dead, .dead, .dead, .dead, .dead, .dead, .dead, .dead, .dead, .dead, .dead, .dead, .dead, .dead, .dead, .dead, .dead, .dead, .dead, .dead, .dead, .dead, .dead], ob⟩
@[simp] theorem trim7x11 : E.trim 7 11 = none := rfl
@[simp] theorem trim7x12 : E.trim 7 12 = some [3, 5, 6, 13, 14, 15] := rfl
@[simp] def J_impl_PrintIr_12 (s3 s5 s6 s13 s14 s15 : S) (ob : List (Nat × O)) : F := ⟨[.dead, .dead, .dead, s3, .dead, s5, s6, .dead, .dead, .dead, .dead, .dead, .dead, s13, s14, s15, .dead, .dead, .dead, .dead, .dead, .dead, .dead, .dead, .dead, .dead, .dead, .dead, .dead, .dead, .dead, .dead, .dead, .dead, .dead, .dead, .dead, .dead, .dead, .dead, .dead, .dead, .dead, .dead, .dead, .dead, .dead, .dead, .dead, .dead, .dead, .dead, .dead, .dead, .dead], ob⟩
@[simp] theorem trim7x13 : E.trim 7 13 = none := rfl
@[simp] theorem trim7x14 : E.trim 7 14 = none := rfl
@[simp] theorem trim7x15 : E.trim 7 15 = none := rfl
@[simp] theorem trim7x16 : E.trim 7 16 = none := rfl
@[simp] theorem trim7x17 : E.trim 7 17 = none := rfl
@[simp] theorem trim7x18 : E.trim 7 18 = none := rfl
@[simp] theorem trim7x19 : E.trim 7 19 = none := rfl
@[simp] theorem how7x0 : E.how 7 0 = 0 := rfl
@[simp] theorem keep7x5 : E.keep 7 5 = some [3, 13, 14, 15] := rfl
@[simp] def I_impl_PrintIr_0 (s3 s13 s14 s15 : S) (ob : List (Nat × O)) : F := ⟨[.dead, .dead, .dead, s3, .dead, .dead, .dead, .dead, .dead, .dead, .dead, .dead, .dead, s13, s14, s15, .dead, .dead, .dead, .dead, .dead, .dead, .dead, .dead, .dead, .dead, .dead, .dead, .dead, .dead, .dead, .dead, .dead, .dead, .dead, .dead, .dead, .dead, .dead, .dead, .dead, .dead, .dead, .dead, .dead, .dead, .dead, .dead, .dead, .dead, .dead, .dead, .dead, .dead, .dead], ob⟩
@[simp] theorem keep7x14 : E.keep 7 14 = some [3, 13, 14, 15, 38, 39, 40] := rfl
@[simp] def I_impl_PrintIr_1 (s3 s13 s14 s15 s38 s39 s40 : S) (ob : List (Nat × O)) : F := ⟨[.dead, .dead, .dead, s3, .dead, .dead, .dead, .dead, .dead, .dead, .dead, .dead, .dead, s13, s14, s15, .dead, .dead, .dead, .dead, .dead, .dead, .dead, .dead, .dead, .dead, .dead, .dead, .dead, .dead, .dead, .dead, .dead, .dead, .dead, .dead, .dead, .dead, s38, s39, s40, .dead, .dead, .dead, .dead, .dead, .dead, .dead, .dead, .dead, .dead, .dead, .dead, .dead, .dead], ob⟩
@[simp] theorem ext8 : E.ext 8 = none := rfl
@[simp] theorem trim8 (id : Nat) : E.trim 8 id = none := rfl
@[simp] theorem how8x0 : E.how 8 0 = 0 := rfl
@[simp] theorem how8x1 : E.how 8 1 = 0 := rfl
@[simp] theorem ext9 : E.ext 9 = none := rfl
@[simp] theorem trim9 (id : Nat) : E.trim 9 id = none := rfl
@[simp] theorem how9x0 : E.how 9 0 = 0 := rfl
@[simp] theorem how9x1 : E.how 9 1 = 0 := rfl
@[simp] theorem keep9x5 : E.keep 9 5 = some [0, 1, 5] := rfl
@[simp] def I_laws_szModS_0 (s0 s1 s5 : S) (ob : List (Nat × O)) : F := ⟨[s0, s1, .dead, .dead, .dead, s5, .dead, .dead, .dead, .dead, .dead, .dead, .dead, .dead, .dead, .dead, .dead, .dead, .dead, .dead, .dead, .dead, .dead, .dead, .dead, .dead, .dead], ob⟩
@[simp] theorem ext10 : E.ext 10 = none := rfl
@[simp] theorem trim10 (id : Nat) : E.trim 10 id = none := rfl
@[simp] theorem how10x0 : E.how 10 0 = 0 := rfl
@[simp] theorem keep10x4 : E.keep 10 4 = some [1, 3] := rfl
@[simp] def I_spec_IrOk_0 (s1 s3 : S) (ob : List (Nat × O)) : F := ⟨[.dead, s1, .dead, s3, .dead, .dead, .dead, .dead, .dead, .dead, .dead, .dead, .dead, .dead, .dead, .dead, .dead, .dead, .dead, .dead, .dead, .dead, .dead, .dead, .dead, .dead, .dead, .dead, .dead, .dead, .dead, .dead, .dead, .dead, .dead, .dead, .dead, .dead, .dead, .dead, .dead, .dead, .dead, .dead, .dead, .dead, .dead, .dead, .dead, .dead, .dead, .dead, .dead, .dead, .dead, .dead, .dead, .dead, .dead, .dead, .dead, .dead, .dead, .dead, .dead, .dead, .dead, .dead], ob⟩
@[simp] theorem keep10x9 : E.keep 10 9 = some [1, 4] := rfl
@[simp] def I_spec_IrOk_1 (s1 s4 : S) (ob : List (Nat × O)) : F := ⟨[.dead, s1, .dead, .dead, s4, .dead, .dead, .dead, .dead, .dead, .dead, .dead, .dead, .dead, .dead, .dead, .dead, .dead, .dead, .dead, .dead, .dead, .dead, .dead, .dead, .dead, .dead, .dead, .dead, .dead, .dead, .dead, .dead, .dead, .dead, .dead, .dead, .dead, .dead, .dead, .dead, .dead, .dead, .dead, .dead, .dead, .dead, .dead, .dead, .dead, .dead, .dead, .dead, .dead, .dead, .dead, .dead, .dead, .dead, .dead, .dead, .dead, .dead, .dead, .dead, .dead, .dead, .dead], ob⟩
@[simp] theorem keep10x13 : E.keep 10 13 = some [1, 4, 5, 6] := rfl
@[simp] def I_spec_IrOk_2 (s1 s4 s5 s6 : S) (ob : List (Nat × O)) : F := ⟨[.dead, s1, .dead, .dead, s4, s5, s6, .dead, .dead, .dead, .dead, .dead, .dead, .dead, .dead, .dead, .dead, .dead, .dead, .dead, .dead, .dead, .dead, .dead, .dead, .dead, .dead, .dead, .dead, .dead, .dead, .dead, .dead, .dead, .dead, .dead, .dead, .dead, .dead, .dead, .dead, .dead, .dead, .dead, .dead, .dead, .dead, .dead, .dead, .dead, .dead, .dead, .dead, .dead, .dead, .dead, .dead, .dead, .dead, .dead, .dead, .dead, .dead, .dead, .dead, .dead, .dead, .dead], ob⟩
@[simp] theorem ext11 : E.ext 11 = none := rfl
@[simp] theorem trim11 (id : Nat) : E.trim 11 id = none := rfl
@[simp] theorem how11x0 : E.how 11 0 = 0 := rfl
@[simp] theorem ext12 : E.ext 12 = none := rfl
@[simp] theorem trim12x0 : E.trim 12 0 = none := rfl
@[simp] theorem trim12x1 : E.trim 12 1 = none := rfl
@[simp] theorem trim12x2 : E.trim 12 2 = some [1, 3] := rfl
@[simp] def J_spec_l20Op_2 (s1 s3 : S) (ob : List (Nat × O)) : F := ⟨[.dead, s1, .dead, s3, .dead, .dead, .dead, .dead, .dead, .dead, .dead, .dead, .dead, .dead, .dead, .dead, .dead, .dead, .dead, .dead, .dead, .dead, .dead, .dead, .dead, .dead, .dead, .dead, .dead, .dead, .dead, .dead, .dead, .dead, .dead, .dead, .dead, .dead, .dead, .dead, .dead, .dead, .dead, .dead, .dead, .dead, .dead, .dead, .dead, .dead, .dead, .dead, .dead, .dead, .dead, .dead, .dead, .dead, .dead, .dead, .dead, .dead], ob⟩
@[simp] theorem trim12x3 : E.trim 12 3 = none := rfl
@[simp] theorem trim12x4 : E.trim 12 4 = some [1, 3] := rfl
@[simp] def J_spec_l20Op_4 (s1 s3 : S) (ob : List (Nat × O)) : F := ⟨[.dead, s1, .dead, s3, .dead, .dead, .dead, .dead, .dead, .dead, .dead, .dead, .dead, .dead, .dead, .dead, .dead, .dead, .dead, .dead, .dead, .dead, .dead, .dead, .dead, .dead, .dead, .dead, .dead, .dead, .dead, .dead, .dead, .dead, .dead, .dead, .dead, .dead, .dead, .dead, .dead, .dead, .dead, .dead, .dead, .dead, .dead, .dead, .dead, .dead, .dead, .dead, .dead, .dead, .dead, .dead, .dead, .dead, .dead, .dead, .dead, .dead], ob⟩
@[simp] theorem trim12x5 : E.trim 12 5 = none := rfl
@[simp] theorem trim12x6 : E.trim 12 6 = some [1, 3] := rfl
@[simp] def J_spec_l20Op_6 (s1 s3 : S) (ob : List (Nat × O)) : F := ⟨[.dead, s1, .dead, s3, .dead, .dead, .dead, .dead, .dead, .dead, .dead, .dead, .dead, .dead, .dead, .dead, .dead, .dead, .dead, .dead, .dead, .dead, .dead, .dead, .dead, .dead, .dead, .dead, .dead, .dead, .dead, .dead, .dead, .dead, .dead, .dead, .dead, .dead, .dead, .dead, .dead, .dead, .dead, .dead, .dead, .dead, .dead, .dead, .dead, .dead, .dead, .dead, .dead, .dead, .dead, .dead, .dead, .dead, .dead, .dead, .dead, .dead], ob⟩
@[simp] theorem trim12x7 : E.trim 12 7 = none := rfl
@[simp] theorem trim12x8 : E.trim 12 8 = some [1, 3] := rfl
@[simp] def J_spec_l20Op_8 (s1 s3 : S) (ob : List (Nat × O)) : F := ⟨[.dead, s1, .dead, s3, .dead, .dead, .dead, .dead, .dead, .dead, .dead, .dead, .dead, .dead, .dead, .dead, .dead, .dead, .dead, .dead, .dead, .dead, .dead, .dead, .dead, .dead, .dead, .dead, .dead, .dead, .dead, .dead, .dead, .dead, .dead, .dead, .dead, .dead, .dead, .dead, .dead, .dead, .dead, .dead, .dead, .dead, .dead, .dead, .dead, .dead, .dead, .dead, .dead, .dead, .dead, .dead, .dead, .dead, .dead, .dead, .dead, .dead], ob⟩
@[simp] theorem trim12x9 : E.trim 12 9 = none := rfl
@[simp] theorem trim12x10 : E.trim 12 10 = some [1, 3] := rfl
@[simp] def J_spec_l20Op_10 (s1 s3 : S) (ob : List (Nat × O)) : F := ⟨[.dead, s1, .dead, s3, .dead, .dead, .dead, .dead, .dead, .dead, .dead, .dead, .dead, .dead, .dead, .dead, .dead, .dead, .dead, .dead, .dead, .dead, .dead, .dead, .dead, .dead, .dead, .dead, .dead, .dead, .dead, .dead, .dead, .dead, .dead, .dead, .dead, .dead, .dead, .dead, .dead, .dead, .dead, .dead, .dead, .dead, .dead, .dead, .dead, .dead, .dead, .dead, .dead, .dead, .dead, .dead, .dead, .dead, .dead, .dead, .dead, .dead], ob⟩
@[simp] theorem trim12x11 : E.trim 12 11 = none := rfl
@[simp] theorem trim12x12 : E.trim 12 12 = some [1, 3] := rfl
@[simp] def J_spec_l20Op_12 (s1 s3 : S) (ob : List (Nat × O)) : F := ⟨[.dead, s1, .dead, s3, .dead, .dead, .dead, .dead, .dead, .dead, .dead, .dead, .dead, .dead, .dead, .dead, .dead, .dead, .dead, .dead, .dead, .dead, .dead, .dead, .dead, .dead, .dead, .dead, .dead, .dead, .dead, .dead, .dead, .dead, .dead, .dead, .dead, .dead, .dead, .dead, .dead, .dead, .dead, .dead, .dead, .dead, .dead, .dead, .dead, .dead, .dead, .dead, .dead, .dead, .dead, .dead, .dead, .dead, .dead, .dead, .dead, .dead], ob⟩
@[simp] theorem trim12x13 : E.trim 12 13 = none := rfl
@[simp] theorem trim12x14 : E.trim 12 14 = some [1, 3] := rfl
@[simp] def J_spec_l20Op_14 (s1 s3 : S) (ob : List (Nat × O)) : F := ⟨[.dead, s1, .dead, s3, .dead, .dead, .dead, .dead, .dead, .dead, .dead, .dead, .dead, .dead, .dead, .dead, .dead, .dead, .dead, .dead, .dead, .dead, .dead, .dead, .dead, .dead, .dead, .dead, .dead, .dead, .dead, .dead, .dead, .dead, .dead, .dead, .dead, .dead, .dead, .dead, .dead, .dead, .dead, .dead, .dead, .dead, .dead, .dead, .dead, .dead, .dead, .dead, .dead, .dead, .dead, .dead, .dead, .dead, .dead, .dead, .dead, .dead], ob⟩
@[simp] theorem trim12x15 : E.trim 12 15 = none := rfl
@[simp] theorem trim12x16 : E.trim 12 16 = some [3] := rfl
@[simp] def J_spec_l20Op_16 (s3 : S) (ob : List (Nat × O)) : F := ⟨[.dead, .dead, .dead, s3, .dead, .dead, .dead, .dead, .dead, .dead, .dead, .dead, .dead, .dead, .dead, .dead, .dead, .dead, .dead, .dead, .dead, .dead, .dead, .dead, .dead, .dead, .dead, .dead, .dead, .dead, .dead, .dead, .dead, .dead, .dead, .dead, .dead, .dead, .dead, .dead, .dead, .dead, .dead, .dead, .dead, .dead, .dead, .dead, .dead, .dead, .dead, .dead, .dead, .dead, .dead, .dead, .dead, .dead, .dead, .dead, .dead, .dead], ob⟩
@[simp] theorem how12x0 : E.how 12 0 = 0 := rfl
@[simp] theorem ext13 : E.ext 13 = none := rfl
@[simp] theorem trim13 (id : Nat) : E.trim 13 id = none := rfl
@[simp] theorem how13x0 : E.how 13 0 = 0 := rfl
@[simp] theorem keep13x3 : E.keep 13 3 = some [0, 3, 4] := rfl
@[simp] def I_laws_toModS_0 (s0 s3 s4 : S) (ob : List (Nat × O)) : F := ⟨[s0, .dead, .dead, s3, s4, .dead, .dead, .dead, .dead, .dead, .dead, .dead, .dead, .dead, .dead, .dead, .dead, .dead, .dead, .dead, .dead, .dead, .dead], ob⟩
@[simp] theorem ext14 : E.ext 14 = none := rfl
@[simp] theorem trim14x0 : E.trim 14 0 = none := rfl
@[simp] theorem trim14x1 : E.trim 14 1 = none := rfl
@[simp] theorem trim14x2 : E.trim 14 2 = none := rfl
@[simp] theorem trim14x3 : E.trim 14 3 = none := rfl
@[simp] theorem trim14x4 : E.trim 14 4 = none := rfl
@[simp] theorem trim14x5 : E.trim 14 5 = none := rfl
@[simp] theorem trim14x6 : E.trim 14 6 = none := rfl
@[simp] theorem trim14x7 : E.trim 14 7 = none := rfl
@[simp] theorem trim14x8 : E.trim 14 8 = some [1, 4, 18, 19, 20] := rfl
@[simp] def J_impl_IrOk_8 (s1 s4 s18 s19 s20 : S) (ob : List (Nat × O)) : F := ⟨[.dead, s1, .dead, .dead, s4, .dead, .dead, .dead, .dead, .dead, .dead, .dead, .dead, .dead, .dead, .dead, .dead, .dead, s18, s19, s20, .dead, .dead, .dead, .dead, .dead, .dead, .dead, .dead, .dead, .dead, .dead, .dead, .dead, .dead, .dead, .dead, .dead, .dead, .dead, .dead, .dead, .dead, .dead, .dead, .dead, .dead, .dead, .dead, .dead], ob⟩
@[simp] theorem trim14x9 : E.trim 14 9 = none := rfl
@[simp] theorem trim14x10 : E.trim 14 10 = none := rfl
@[simp] theorem trim14x11 : E.trim 14 11 = none := rfl
@[simp] theorem trim14x12 : E.trim 14 12 = none := rfl
@[simp] theorem trim14x13 : E.trim 14 13 = none := rfl
@[simp] theorem trim14x14 : E.trim 14 14 = none := rfl
@[simp] theorem trim14x15 : E.trim 14 15 = none := rfl
@[simp] theorem how14x0 : E.how 14 0 = 0 := rfl
@[simp] theorem keep14x4 : E.keep 14 4 = some [1, 18, 19, 20] := rfl
@[simp] def I_impl_IrOk_0 (s1 s18 s19 s20 : S) (ob : List (Nat × O)) : F := ⟨[.dead, s1, .dead, .dead, .dead, .dead, .dead, .dead, .dead, .dead, .dead, .dead, .dead, .dead, .dead, .dead, .dead, .dead, s18, s19, s20, .dead, .dead, .dead, .dead, .dead, .dead, .dead, .dead, .dead, .dead, .dead, .dead, .dead, .dead, .dead, .dead, .dead, .dead, .dead, .dead, .dead, .dead, .dead, .dead, .dead, .dead, .dead, .dead, .dead], ob⟩
@[simp] theorem keep14x9 : E.keep 14 9 = some [1, 4, 18, 19, 20, 38, 39] := rfl
@[simp] def I_impl_IrOk_1 (s1 s4 s18 s19 s20 s38 s39 : S) (ob : List (Nat × O)) : F := ⟨[.dead, s1, .dead, .dead, s4, .dead, .dead, .dead, .dead, .dead, .dead, .dead, .dead, .dead, .dead, .dead, .dead, .dead, s18, s19, s20, .dead, .dead, .dead, .dead, .dead, .dead, .dead, .dead, .dead, .dead, .dead, .dead, .dead, .dead, .dead, .dead, .dead, s38, s39, .dead, .dead, .dead, .dead, .dead, .dead, .dead, .dead, .dead, .dead], ob⟩
@[simp] theorem ext15 : E.ext 15 = some extItoa := rfl
@[simp] theorem trim15 (id : Nat) : E.trim 15 id = none := rfl
@[simp] theorem how15x0 : E.how 15 0 = 0 := rfl
@[simp] theorem ext16 : E.ext 16 = some extJoin := rfl
@[simp] theorem trim16 (id : Nat) : E.trim 16 id = none := rfl
@[simp] theorem how16x0 : E.how 16 0 = 0 := rfl
@[simp] theorem how16x1 : E.how 16 1 = 0 := rfl
@[simp] theorem keep16x12 : E.keep 16 12 = some [0, 1, 5, 39, 40, 41] := rfl
@[simp] def I_strings_Join_0 (s0 s1 s5 s39 s40 s41 : S) (ob : List (Nat × O)) : F := ⟨[s0, s1, .dead, .dead, .dead, s5, .dead, .dead, .dead, .dead, .dead, .dead, .dead, .dead, .dead, .dead, .dead, .dead, .dead, .dead, .dead, .dead, .dead, .dead, .dead, .dead, .dead, .dead, .dead, .dead, .dead, .dead, .dead, .dead, .dead, .dead, .dead, .dead, .dead, s39, s40, s41, .dead, .dead, .dead, .dead, .dead, .dead, .dead, .dead, .dead, .dead, .dead, .dead, .dead, .dead, .dead, .dead, .dead, .dead, .dead, .dead, .dead, .dead, .dead, .dead, .dead, .dead, .dead, .dead, .dead, .dead, .dead, .dead, .dead], ob⟩
@[simp] theorem keep16x22 : E.keep 16 22 = some [1, 8, 63, 64, 65] := rfl
@[simp] def I_strings_Join_1 (s1 s8 s63 s64 s65 : S) (ob : List (Nat × O)) : F := ⟨[.dead, s1, .dead, .dead, .dead, .dead, .dead, .dead, s8, .dead, .dead, .dead, .dead, .dead, .dead, .dead, .dead, .dead, .dead, .dead, .dead, .dead, .dead, .dead, .dead, .dead, .dead, .dead, .dead, .dead, .dead, .dead, .dead, .dead, .dead, .dead, .dead, .dead, .dead, .dead, .dead, .dead, .dead, .dead, .dead, .dead, .dead, .dead, .dead, .dead, .dead, .dead, .dead, .dead, .dead, .dead, .dead, .dead, .dead, .dead, .dead, .dead, .dead, s63, s64, s65, .dead, .dead, .dead, .dead, .dead, .dead, .dead, .dead, .dead], ob⟩
@[simp] theorem ext17 : E.ext 17 = none := rfl
@[simp] theorem trim17x0 : E.trim 17 0 = none := rfl
@[simp] theorem trim17x1 : E.trim 17 1 = none := rfl
@[simp] theorem trim17x2 : E.trim 17 2 = none := rfl
@[simp] theorem trim17x4 : E.trim 17 4 = none := rfl
@[simp] theorem trim17x5 : E.trim 17 5 = none := rfl
@[simp] theorem trim17x6 : E.trim 17 6 = none := rfl
@[simp] theorem trim17x7 : E.trim 17 7 = none := rfl
@[simp] theorem trim17x3 : E.trim 17 3 = none := rfl
@[simp] theorem trim17x8 : E.trim 17 8 = some [1, 3] := rfl
@[simp] def J_impl_opWords_8 (s1 s3 : S) (ob : List (Nat × O)) : F := ⟨[.dead, s1, .dead, s3, .dead, .dead, .dead, .dead, .dead, .dead, .dead, .dead, .dead, .dead, .dead, .dead, .dead, .dead, .dead, .dead, .dead, .dead, .dead, .dead, .dead, .dead, .dead, .dead, .dead, .dead, .dead, .dead, .dead, .dead, .dead, .dead, .dead, .dead, .dead, .dead, .dead, .dead, .dead, .dead, .dead, .dead, .dead, .dead, .dead, .dead, .dead, .dead, .dead, .dead, .dead, .dead, .dead, .dead, .dead, .dead, .dead, .dead, .dead, .dead, .dead, .dead, .dead, .dead, .dead, .dead, .dead, .dead, .dead, .dead], ob⟩
@[simp] theorem trim17x9 : E.trim 17 9 = none := rfl
@[simp] theorem trim17x10 : E.trim 17 10 = none := rfl
@[simp] theorem trim17x11 : E.trim 17 11 = none := rfl
@[simp] theorem trim17x12 : E.trim 17 12 = none := rfl
@[simp] theorem trim17x13 : E.trim 17 13 = none := rfl
@[simp] theorem trim17x14 : E.trim 17 14 = none := rfl
@[simp] theorem trim17x15 : E.trim 17 15 = none := rfl
@[simp] theorem how17x0 : E.how 17 0 = 0 := rfl
@[simp] theorem ext18 : E.ext 18 = none := rfl
@[simp] theorem trim18 (id : Nat) : E.trim 18 id = none := rfl
@[simp] theorem how18x0 : E.how 18 0 = 0 := rfl
@[simp] theorem how18x1 : E.how 18 1 = 0 := rfl
@[simp] theorem keep18x4 : E.keep 18 4 = some [0, 1, 5] := rfl
@[simp] def I_laws_eqModS_0 (s0 s1 s5 : S) (ob : List (Nat × O)) : F := ⟨[s0, s1, .dead, .dead, .dead, s5, .dead, .dead, .dead, .dead, .dead, .dead, .dead, .dead, .dead, .dead, .dead, .dead, .dead, .dead, .dead, .dead, .dead, .dead, .dead, .dead, .dead], ob⟩
@[simp] theorem ext19 : E.ext 19 = none := rfl
@[simp] theorem trim19 (id : Nat) : E.trim 19 id = none := rfl
@[simp] theorem how19x0 : E.how 19 0 = 0 := rfl
@[simp] theorem how19x1 : E.how 19 1 = 0 := rfl
@[simp] theorem ext20 : E.ext 20 = none := rfl
@[simp] theorem trim20 (id : Nat) : E.trim 20 id = none := rfl
@[simp] theorem how20x0 : E.how 20 0 = 0 := rfl
@[simp] theorem how20x1 : E.how 20 1 = 0 := rfl
@[simp] theorem how20x2 : E.how 20 2 = 0 := rfl
@[simp] theorem ext21 : E.ext 21 = none := rfl
@[simp] theorem trim21x0 : E.trim 21 0 = none := rfl
@[simp] theorem trim21x1 : E.trim 21 1 = none := rfl
@[simp] theorem trim21x2 : E.trim 21 2 = none := rfl
@[simp] theorem trim21x3 : E.trim 21 3 = none := rfl
@[simp] theorem trim21x4 : E.trim 21 4 = none := rfl
@[simp] theorem trim21x5 : E.trim 21 5 = some [2, 3, 4, 7, 8] := rfl
@[simp] def J_spec_l9OpOk_5 (s2 s3 s4 s7 s8 : S) (ob : List (Nat × O)) : F := ⟨[.dead, .dead, s2, s3, s4, .dead, .dead, s7, s8, .dead, .dead, .dead, .dead, .dead, .dead, .dead, .dead, .dead, .dead, .dead, .dead, .dead, .dead, .dead, .dead, .dead, .dead, .dead, .dead, .dead, .dead, .dead, .dead, .dead, .dead, .dead, .dead, .dead, .dead, .dead, .dead, .dead, .dead, .dead, .dead, .dead, .dead, .dead, .dead, .dead, .dead, .dead, .dead, .dead, .dead, .dead, .dead, .dead, .dead, .dead, .dead, .dead, .dead, .dead, .dead, .dead, .dead, .dead, .dead, .dead, .dead, .dead, .dead, .dead, .dead, .dead, .dead, .dead, .dead, .dead, .dead, .dead, .dead, .dead, .dead, .dead, .dead, .dead, .dead, .dead, .dead, .dead, .dead, .dead, .dead, .dead, .dead, .dead, .dead, .dead, .dead, .dead, .dead, .dead, .dead, .dead, .dead, .dead, .dead, .dead, .dead, .dead, .dead, .dead, .dead, .dead, .dead, .dead, .dead, .dead, .dead, .dead, .dead, .dead, .dead, .dead, .dead, .dead, .dead, .dead, .dead, .dead, .dead, .dead, .dead, .dead, .dead, .dead, .dead, .dead, .dead, .dead, .dead], ob⟩
@[simp] theorem trim21x6 : E.trim 21 6 = none := rfl
@[simp] theorem trim21x7 : E.trim 21 7 = some [2, 3, 4, 7] := rfl
@[simp] def J_spec_l9OpOk_7 (s2 s3 s4 s7 : S) (ob : List (Nat × O)) : F := ⟨[.dead, .dead, s2, s3, s4, .dead, .dead, s7, .dead, .dead, .dead, .dead, .dead, .dead, .dead, .dead, .dead, .dead, .dead, .dead, .dead, .dead, .dead, .dead, .dead, .dead, .dead, .dead, .dead, .dead, .dead, .dead, .dead, .dead, .dead, .dead, .dead, .dead, .dead, .dead, .dead, .dead, .dead, .dead, .dead, .dead, .dead, .dead, .dead, .dead, .dead, .dead, .dead, .dead, .dead, .dead, .dead, .dead, .dead, .dead, .dead, .dead, .dead, .dead, .dead, .dead, .dead, .dead, .dead, .dead, .dead, .dead, .dead, .dead, .dead, .dead, .dead, .dead, .dead, .dead, .dead, .dead, .dead, .dead, .dead, .dead, .dead, .dead, .dead, .dead, .dead, .dead, .dead, .dead, .dead, .dead, .dead, .dead, .dead, .dead, .dead, .dead, .dead, .dead, .dead, .dead, .dead, .dead, .dead, .dead, .dead, .dead, .dead, .dead, .dead, .dead, .dead, .dead, .dead, .dead, .dead, .dead, .dead, .dead, .dead, .dead, .dead, .dead, .dead, .dead, .dead, .dead, .dead, .dead, .dead, .dead, .dead, .dead, .dead, .dead, .dead, .dead, .dead], ob⟩
@[simp] theorem trim21x8 : E.trim 21 8 = none := rfl
@[simp] theorem trim21x9 : E.trim 21 9 = some [2, 4, 7] := rfl
@[simp] def J_spec_l9OpOk_9 (s2 s4 s7 : S) (ob : List (Nat × O)) : F := ⟨[.dead, .dead, s2, .dead, s4, .dead, .dead, s7, .dead, .dead, .dead, .dead, .dead, .dead, .dead, .dead, .dead, .dead, .dead, .dead, .dead, .dead, .dead, .dead, .dead, .dead, .dead, .dead, .dead, .dead, .dead, .dead, .dead, .dead, .dead, .dead, .dead, .dead, .dead, .dead, .dead, .dead, .dead, .dead, .dead, .dead, .dead, .dead, .dead, .dead, .dead, .dead, .dead, .dead, .dead, .dead, .dead, .dead, .dead, .dead, .dead, .dead, .dead, .dead, .dead, .dead, .dead, .dead, .dead, .dead, .dead, .dead, .dead, .dead, .dead, .dead, .dead, .dead, .dead, .dead, .dead, .dead, .dead, .dead, .dead, .dead, .dead, .dead, .dead, .dead, .dead, .dead, .dead, .dead, .dead, .dead, .dead, .dead, .dead, .dead, .dead, .dead, .dead, .dead, .dead, .dead, .dead, .dead, .dead, .dead, .dead, .dead, .dead, .dead, .dead, .dead, .dead, .dead, .dead, .dead, .dead, .dead, .dead, .dead, .dead, .dead, .dead, .dead, .dead, .dead, .dead, .dead, .dead, .dead, .dead, .dead, .dead, .dead, .dead, .dead, .dead, .dead, .dead], ob⟩
@[simp] theorem trim21x10 : E.trim 21 10 = none := rfl
@[simp] theorem trim21x11 : E.trim 21 11 = none := rfl
@[simp] theorem trim21x12 : E.trim 21 12 = none := rfl
@[simp] theorem trim21x13 : E.trim 21 13 = none := rfl
@[simp] theorem trim21x14 : E.trim 21 14 = none := rfl
@[simp] theorem trim21x16 : E.trim 21 16 = none := rfl
@[simp] theorem trim21x17 : E.trim 21 17 = none := rfl
@[simp] theorem trim21x15 : E.trim 21 15 = none := rfl
@[simp] theorem trim21x18 : E.trim 21 18 = none := rfl
@[simp] theorem how21x0 : E.how 21 0 = 0 := rfl
@[simp] theorem how21x1 : E.how 21 1 = 0 := rfl
@[simp] theorem how21x2 : E.how 21 2 = 0 := rfl
@[simp] theorem keep21x14 : E.keep 21 14 = some [2, 4, 7, 9] := rfl
@[simp] def I_spec_l9OpOk_0 (s2 s4 s7 s9 : S) (ob : List (Nat × O)) : F := ⟨[.dead, .dead, s2, .dead, s4, .dead, .dead, s7, .dead, s9, .dead, .dead, .dead, .dead, .dead, .dead, .dead, .dead, .dead, .dead, .dead, .dead, .dead, .dead, .dead, .dead, .dead, .dead, .dead, .dead, .dead, .dead, .dead, .dead, .dead, .dead, .dead, .dead, .dead, .dead, .dead, .dead, .dead, .dead, .dead, .dead, .dead, .dead, .dead, .dead, .dead, .dead, .dead, .dead, .dead, .dead, .dead, .dead, .dead, .dead, .dead, .dead, .dead, .dead, .dead, .dead, .dead, .dead, .dead, .dead, .dead, .dead, .dead, .dead, .dead, .dead, .dead, .dead, .dead, .dead, .dead, .dead, .dead, .dead, .dead, .dead, .dead, .dead, .dead, .dead, .dead, .dead, .dead, .dead, .dead, .dead, .dead, .dead, .dead, .dead, .dead, .dead, .dead, .dead, .dead, .dead, .dead, .dead, .dead, .dead, .dead, .dead, .dead, .dead, .dead, .dead, .dead, .dead, .dead, .dead, .dead, .dead, .dead, .dead, .dead, .dead, .dead, .dead, .dead, .dead, .dead, .dead, .dead, .dead, .dead, .dead, .dead, .dead, .dead, .dead, .dead, .dead, .dead], ob⟩
@[simp] theorem ext22 : E.ext 22 = none := rfl
@[simp] theorem trim22 (id : Nat) : E.trim 22 id = none := rfl
@[simp] theorem how22x0 : E.how 22 0 = 0 := rfl
@[simp] theorem keep22x2 : E.keep 22 2 = some [1, 3] := rfl
@[simp] def I_spec_l9OneofsOk_0 (s1 s3 : S) (ob : List (Nat × O)) : F := ⟨[.dead, s1, .dead, s3, .dead, .dead, .dead, .dead, .dead, .dead, .dead, .dead, .dead, .dead, .dead, .dead, .dead, .dead, .dead, .dead, .dead, .dead, .dead, .dead, .dead, .dead, .dead, .dead, .dead, .dead, .dead, .dead], ob⟩
@[simp] theorem keep22x6 : E.keep 22 6 = some [1, 3, 4, 5] := rfl
@[simp] def I_spec_l9OneofsOk_1 (s1 s3 s4 s5 : S) (ob : List (Nat × O)) : F := ⟨[.dead, s1, .dead, s3, s4, s5, .dead, .dead, .dead, .dead, .dead, .dead, .dead, .dead, .dead, .dead, .dead, .dead, .dead, .dead, .dead, .dead, .dead, .dead, .dead, .dead, .dead, .dead, .dead, .dead, .dead, .dead], ob⟩
@[simp] theorem ext23 : E.ext 23 = none := rfl
@[simp] theorem trim23 (id : Nat) : E.trim 23 id = none := rfl
@[simp] theorem how23x0 : E.how 23 0 = 0 := rfl
@[simp] theorem how23x1 : E.how 23 1 = 0 := rfl
@[simp] theorem keep23x4 : E.keep 23 4 = some [0, 1, 5] := rfl
@[simp] def I_spec_l9SameInts_0 (s0 s1 s5 : S) (ob : List (Nat × O)) : F := ⟨[s0, s1, .dead, .dead, .dead, s5, .dead, .dead, .dead, .dead, .dead, .dead, .dead, .dead, .dead, .dead, .dead, .dead, .dead, .dead, .dead, .dead, .dead, .dead, .dead, .dead], ob⟩
@[simp] theorem ext24 : E.ext 24 = none := rfl
@[simp] theorem trim24 (id : Nat) : E.trim 24 id = none := rfl
@[simp] theorem how24x0 : E.how 24 0 = 0 := rfl
@[simp] theorem keep24x6 : E.keep 24 6 = some [1, 3, 4, 5] := rfl
@[simp] def I_spec_l9Jumps_0 (s1 s3 s4 s5 : S) (ob : List (Nat × O)) : F := ⟨[.dead, s1, .dead, s3, s4, s5, .dead, .dead, .dead, .dead, .dead, .dead, .dead, .dead, .dead, .dead, .dead, .dead, .dead, .dead, .dead, .dead, .dead, .dead, .dead, .dead, .dead, .dead, .dead, .dead, .dead, .dead, .dead, .dead, .dead, .dead, .dead, .dead, .dead, .dead, .dead, .dead, .dead, .dead, .dead, .dead, .dead, .dead, .dead, .dead, .dead, .dead, .dead, .dead, .dead], ob⟩
@[simp] theorem keep24x10 : E.keep 24 10 = some [1, 3, 4, 5, 6, 7] := rfl
@[simp] def I_spec_l9Jumps_1 (s1 s3 s4 s5 s6 s7 : S) (ob : List (Nat × O)) : F := ⟨[.dead, s1, .dead, s3, s4, s5, s6, s7, .dead, .dead, .dead, .dead, .dead, .dead, .dead, .dead, .dead, .dead, .dead, .dead, .dead, .dead, .dead, .dead, .dead, .dead, .dead, .dead, .dead, .dead, .dead, .dead, .dead, .dead, .dead, .dead, .dead, .dead, .dead, .dead, .dead, .dead, .dead, .dead, .dead, .dead, .dead, .dead, .dead, .dead, .dead, .dead, .dead, .dead, .dead], ob⟩
@[simp] theorem ext25 : E.ext 25 = none := rfl
@[simp] theorem trim25 (id : Nat) : E.trim 25 id = none := rfl
@[simp] theorem how25x0 : E.how 25 0 = 0 := rfl
@[simp] theorem ext26 : E.ext 26 = none := rfl
@[simp] theorem trim26 (id : Nat) : E.trim 26 id = none := rfl
@[simp] theorem how26x0 : E.how 26 0 = 0 := rfl
@[simp] theorem ext27 : E.ext 27 = none := rfl
@[simp] theorem trim27 (id : Nat) : E.trim 27 id = none := rfl
@[simp] theorem how27x0 : E.how 27 0 = 0 := rfl
@[simp] theorem ext28 : E.ext 28 = none := rfl
@[simp] theorem trim28 (id : Nat) : E.trim 28 id = none := rfl
@[simp] theorem how28x0 : E.how 28 0 = 0 := rfl
@[simp] theorem how28x1 : E.how 28 1 = 0 := rfl
@[simp] theorem how28x2 : E.how 28 2 = 0 := rfl
@[simp] theorem ext29 : E.ext 29 = none := rfl
@[simp] theorem trim29 (id : Nat) : E.trim 29 id = none := rfl
@[simp] theorem how29x0 : E.how 29 0 = 0 := rfl
@[simp] theorem how29x1 : E.how 29 1 = 0 := rfl
@[simp] theorem ext30 : E.ext 30 = none := rfl
@[simp] theorem trim30 (id : Nat) : E.trim 30 id = none := rfl
@[simp] theorem how30x0 : E.how 30 0 = 0 := rfl
@[simp] theorem how30x1 : E.how 30 1 = 0 := rfl
@[simp] theorem ext31 : E.ext 31 = none := rfl
@[simp] theorem trim31x0 : E.trim 31 0 = none := rfl
@[simp] theorem trim31x1 : E.trim 31 1 = none := rfl
@[simp] theorem trim31x2 : E.trim 31 2 = none := rfl
@[simp] theorem trim31x3 : E.trim 31 3 = none := rfl
@[simp] theorem trim31x4 : E.trim 31 4 = none := rfl
@[simp] theorem trim31x5 : E.trim 31 5 = none := rfl
@[simp] theorem trim31x6 : E.trim 31 6 = none := rfl
@[simp] theorem trim31x7 : E.trim 31 7 = some [1, 2, 5, 7, 9, 10, 11] := rfl
@[simp] def J_impl_opsOk_7 (s1 s2 s5 s7 s9 s10 s11 : S) (ob : List (Nat × O)) : F := ⟨[.dead, s1, s2, .dead, .dead, s5, .dead, s7, .dead, s9, s10, s11, .dead, .dead, .dead, .dead, .dead, .dead, .dead, .dead, .dead, .dead, .dead, .dead, .dead, .dead, .dead, .dead, .dead, .dead, .dead, .dead, .dead, .dead, .dead, .dead, .dead, .dead, .dead, .dead, .dead, .dead, .dead, .dead, .dead, .dead, .dead, .dead, .dead, .dead, .dead, .dead, .dead, .dead, .dead, .dead, .dead, .dead, .dead, .dead, .dead, .dead, .dead, .dead, .dead, .dead, .dead, .dead, .dead, .dead, .dead, .dead, .dead, .dead, .dead, .dead, .dead, .dead, .dead, .dead, .dead, .dead, .dead, .dead, .dead, .dead, .dead, .dead, .dead, .dead, .dead, .dead, .dead, .dead, .dead, .dead, .dead, .dead, .dead, .dead, .dead, .dead], ob⟩
@[simp] theorem trim31x8 : E.trim 31 8 = none := rfl
@[simp] theorem trim31x9 : E.trim 31 9 = some [1, 2, 5, 7, 9, 10, 11] := rfl
@[simp] def J_impl_opsOk_9 (s1 s2 s5 s7 s9 s10 s11 : S) (ob : List (Nat × O)) : F := ⟨[.dead, s1, s2, .dead, .dead, s5, .dead, s7, .dead, s9, s10, s11, .dead, .dead, .dead, .dead, .dead, .dead, .dead, .dead, .dead, .dead, .dead, .dead, .dead, .dead, .dead, .dead, .dead, .dead, .dead, .dead, .dead, .dead, .dead, .dead, .dead, .dead, .dead, .dead, .dead, .dead, .dead, .dead, .dead, .dead, .dead, .dead, .dead, .dead, .dead, .dead, .dead, .dead, .dead, .dead, .dead, .dead, .dead, .dead, .dead, .dead, .dead, .dead, .dead, .dead, .dead, .dead, .dead, .dead, .dead, .dead, .dead, .dead, .dead, .dead, .dead, .dead, .dead, .dead, .dead, .dead, .dead, .dead, .dead, .dead, .dead, .dead, .dead, .dead, .dead, .dead, .dead, .dead, .dead, .dead, .dead, .dead, .dead, .dead, .dead, .dead], ob⟩
@[simp] theorem trim31x10 : E.trim 31 10 = some [1, 2, 5, 9, 10, 11] := rfl
@[simp] def J_impl_opsOk_10 (s1 s2 s5 s9 s10 s11 : S) (ob : List (Nat × O)) : F := ⟨[.dead, s1, s2, .dead, .dead, s5, .dead, .dead, .dead, s9, s10, s11, .dead, .dead, .dead, .dead, .dead, .dead, .dead, .dead, .dead, .dead, .dead, .dead, .dead, .dead, .dead, .dead, .dead, .dead, .dead, .dead, .dead, .dead, .dead, .dead, .dead, .dead, .dead, .dead, .dead, .dead, .dead, .dead, .dead, .dead, .dead, .dead, .dead, .dead, .dead, .dead, .dead, .dead, .dead, .dead, .dead, .dead, .dead, .dead, .dead, .dead, .dead, .dead, .dead, .dead, .dead, .dead, .dead, .dead, .dead, .dead, .dead, .dead, .dead, .dead, .dead, .dead, .dead, .dead, .dead, .dead, .dead, .dead, .dead, .dead, .dead, .dead, .dead, .dead, .dead, .dead, .dead, .dead, .dead, .dead, .dead, .dead, .dead, .dead, .dead, .dead], ob⟩
@[simp] theorem trim31x11 : E.trim 31 11 = some [1, 5] := rfl
@[simp] def J_impl_opsOk_11 (s1 s5 : S) (ob : List (Nat × O)) : F := ⟨[.dead, s1, .dead, .dead, .dead, s5, .dead, .dead, .dead, .dead, .dead, .dead, .dead, .dead, .dead, .dead, .dead, .dead, .dead, .dead, .dead, .dead, .dead, .dead, .dead, .dead, .dead, .dead, .dead, .dead, .dead, .dead, .dead, .dead, .dead, .dead, .dead, .dead, .dead, .dead, .dead, .dead, .dead, .dead, .dead, .dead, .dead, .dead, .dead, .dead, .dead, .dead, .dead, .dead, .dead, .dead, .dead, .dead, .dead, .dead, .dead, .dead, .dead, .dead, .dead, .dead, .dead, .dead, .dead, .dead, .dead, .dead, .dead, .dead, .dead, .dead, .dead, .dead, .dead, .dead, .dead, .dead, .dead, .dead, .dead, .dead, .dead, .dead, .dead, .dead, .dead, .dead, .dead, .dead, .dead, .dead, .dead, .dead, .dead, .dead, .dead, .dead], ob⟩
@[simp] theorem trim31x12 : E.trim 31 12 = none := rfl
@[simp] theorem trim31x13 : E.trim 31 13 = none := rfl
@[simp] theorem trim31x14 : E.trim 31 14 = none := rfl
@[simp] theorem trim31x16 : E.trim 31 16 = none := rfl
@[simp] theorem trim31x17 : E.trim 31 17 = none := rfl
@[simp] theorem trim31x18 : E.trim 31 18 = none := rfl
@[simp] theorem trim31x19 : E.trim 31 19 = none := rfl
@[simp] theorem trim31x15 : E.trim 31 15 = none := rfl
@[simp] theorem trim31x20 : E.trim 31 20 = none := rfl
@[simp] theorem how31x0 : E.how 31 0 = 0 := rfl
@[simp] theorem how31x1 : E.how 31 1 = 0 := rfl
@[simp] theorem keep31x3 : E.keep 31 3 = some [1, 2, 5, 9, 10, 11] := rfl
@[simp] def I_impl_opsOk_0 (s1 s2 s5 s9 s10 s11 : S) (ob : List (Nat × O)) : F := ⟨[.dead, s1, s2, .dead, .dead, s5, .dead, .dead, .dead, s9, s10, s11, .dead, .dead, .dead, .dead, .dead, .dead, .dead, .dead, .dead, .dead, .dead, .dead, .dead, .dead, .dead, .dead, .dead, .dead, .dead, .dead, .dead, .dead, .dead, .dead, .dead, .dead, .dead, .dead, .dead, .dead, .dead, .dead, .dead, .dead, .dead, .dead, .dead, .dead, .dead, .dead, .dead, .dead, .dead, .dead, .dead, .dead, .dead, .dead, .dead, .dead, .dead, .dead, .dead, .dead, .dead, .dead, .dead, .dead, .dead, .dead, .dead, .dead, .dead, .dead, .dead, .dead, .dead, .dead, .dead, .dead, .dead, .dead, .dead, .dead, .dead, .dead, .dead, .dead, .dead, .dead, .dead, .dead, .dead, .dead, .dead, .dead, .dead, .dead, .dead, .dead], ob⟩
@[simp] theorem keep31x14 : E.keep 31 14 = some [1, 5, 8] := rfl
@[simp] def I_impl_opsOk_1 (s1 s5 s8 : S) (ob : List (Nat × O)) : F := ⟨[.dead, s1, .dead, .dead, .dead, s5, .dead, .dead, s8, .dead, .dead, .dead, .dead, .dead, .dead, .dead, .dead, .dead, .dead, .dead, .dead, .dead, .dead, .dead, .dead, .dead, .dead, .dead, .dead, .dead, .dead, .dead, .dead, .dead, .dead, .dead, .dead, .dead, .dead, .dead, .dead, .dead, .dead, .dead, .dead, .dead, .dead, .dead, .dead, .dead, .dead, .dead, .dead, .dead, .dead, .dead, .dead, .dead, .dead, .dead, .dead, .dead, .dead, .dead, .dead, .dead, .dead, .dead, .dead, .dead, .dead, .dead, .dead, .dead, .dead, .dead, .dead, .dead, .dead, .dead, .dead, .dead, .dead, .dead, .dead, .dead, .dead, .dead, .dead, .dead, .dead, .dead, .dead, .dead, .dead, .dead, .dead, .dead, .dead, .dead, .dead, .dead], ob⟩
@[simp] theorem ext32 : E.ext 32 = none := rfl
@[simp] theorem trim32 (id : Nat) : E.trim 32 id = none := rfl
@[simp] theorem how32x0 : E.how 32 0 = 0 := rfl
@[simp] theorem how32x1 : E.how 32 1 = 0 := rfl
@[simp] theorem keep32x4 : E.keep 32 4 = some [0, 1, 12, 13] := rfl
@[simp] def I_slices_Equal_Lint_int_0 (s0 s1 s12 s13 : S) (ob : List (Nat × O)) : F := ⟨[s0, s1, .dead, .dead, .dead, .dead, .dead, .dead, .dead, .dead, .dead, .dead, s12, s13, .dead, .dead, .dead, .dead, .dead, .dead, .dead, .dead, .dead, .dead, .dead, .dead], ob⟩
@[simp] theorem ext33 : E.ext 33 = none := rfl
@[simp] theorem trim33 (id : Nat) : E.trim 33 id = none := rfl
@[simp] theorem how33x0 : E.how 33 0 = 0 := rfl
@[simp] theorem keep33x6 : E.keep 33 6 = some [1, 4, 31, 32] := rfl
@[simp] def I_impl_jumpsOf_0 (s1 s4 s31 s32 : S) (ob : List (Nat × O)) : F := ⟨[.dead, s1, .dead, .dead, s4, .dead, .dead, .dead, .dead, .dead, .dead, .dead, .dead, .dead, .dead, .dead, .dead, .dead, .dead, .dead, .dead, .dead, .dead, .dead, .dead, .dead, .dead, .dead, .dead, .dead, .dead, s31, s32, .dead, .dead, .dead, .dead, .dead, .dead, .dead, .dead, .dead, .dead, .dead], ob⟩
@[simp] theorem ext34 : E.ext 34 = none := rfl
@[simp] theorem trim34x0 : E.trim 34 0 = none := rfl
@[simp] theorem trim34x1 : E.trim 34 1 = none := rfl
@[simp] theorem trim34x2 : E.trim 34 2 = none := rfl
@[simp] theorem trim34x3 : E.trim 34 3 = none := rfl
@[simp] theorem trim34x4 : E.trim 34 4 = some [1, 2, 3, 7] := rfl
@[simp] def J_impl_marksOk_4 (s1 s2 s3 s7 : S) (ob : List (Nat × O)) : F := ⟨[.dead, s1, s2, s3, .dead, .dead, .dead, s7, .dead, .dead, .dead, .dead, .dead, .dead, .dead, .dead, .dead, .dead, .dead, .dead, .dead, .dead, .dead, .dead, .dead, .dead, .dead, .dead, .dead, .dead, .dead, .dead, .dead, .dead, .dead, .dead, .dead, .dead, .dead, .dead, .dead, .dead, .dead, .dead, .dead, .dead, .dead, .dead, .dead, .dead, .dead, .dead, .dead, .dead, .dead, .dead, .dead, .dead, .dead, .dead, .dead, .dead, .dead, .dead, .dead, .dead, .dead, .dead, .dead, .dead, .dead, .dead, .dead, .dead, .dead, .dead, .dead, .dead, .dead, .dead, .dead, .dead, .dead, .dead, .dead, .dead, .dead, .dead, .dead, .dead, .dead, .dead, .dead, .dead, .dead, .dead, .dead], ob⟩
@[simp] theorem trim34x5 : E.trim 34 5 = none := rfl
@[simp] theorem trim34x6 : E.trim 34 6 = none := rfl
@[simp] theorem trim34x7 : E.trim 34 7 = none := rfl
@[simp] theorem trim34x8 : E.trim 34 8 = none := rfl
@[simp] theorem trim34x9 : E.trim 34 9 = none := rfl
@[simp] theorem trim34x10 : E.trim 34 10 = none := rfl
@[simp] theorem trim34x11 : E.trim 34 11 = none := rfl
@[simp] theorem trim34x12 : E.trim 34 12 = none := rfl
@[simp] theorem trim34x13 : E.trim 34 13 = some [3, 7] := rfl
@[simp] def J_impl_marksOk_13 (s3 s7 : S) (ob : List (Nat × O)) : F := ⟨[.dead, .dead, .dead, s3, .dead, .dead, .dead, s7, .dead, .dead, .dead, .dead, .dead, .dead, .dead, .dead, .dead, .dead, .dead, .dead, .dead, .dead, .dead, .dead, .dead, .dead, .dead, .dead, .dead, .dead, .dead, .dead, .dead, .dead, .dead, .dead, .dead, .dead, .dead, .dead, .dead, .dead, .dead, .dead, .dead, .dead, .dead, .dead, .dead, .dead, .dead, .dead, .dead, .dead, .dead, .dead, .dead, .dead, .dead, .dead, .dead, .dead, .dead, .dead, .dead, .dead, .dead, .dead, .dead, .dead, .dead, .dead, .dead, .dead, .dead, .dead, .dead, .dead, .dead, .dead, .dead, .dead, .dead, .dead, .dead, .dead, .dead, .dead, .dead, .dead, .dead, .dead, .dead, .dead, .dead, .dead, .dead], ob⟩
@[simp] theorem trim34x14 : E.trim 34 14 = none := rfl
@[simp] theorem trim34x15 : E.trim 34 15 = none := rfl
@[simp] theorem how34x0 : E.how 34 0 = 0 := rfl
@[simp] theorem how34x1 : E.how 34 1 = 0 := rfl
@[simp] theorem how34x2 : E.how 34 2 = 0 := rfl
@[simp] theorem keep34x8 : E.keep 34 8 = some [3, 7, 63, 64, 65] := rfl
@[simp] def I_impl_marksOk_0 (s3 s7 s63 s64 s65 : S) (ob : List (Nat × O)) : F := ⟨[.dead, .dead, .dead, s3, .dead, .dead, .dead, s7, .dead, .dead, .dead, .dead, .dead, .dead, .dead, .dead, .dead, .dead, .dead, .dead, .dead, .dead, .dead, .dead, .dead, .dead, .dead, .dead, .dead, .dead, .dead, .dead, .dead, .dead, .dead, .dead, .dead, .dead, .dead, .dead, .dead, .dead, .dead, .dead, .dead, .dead, .dead, .dead, .dead, .dead, .dead, .dead, .dead, .dead, .dead, .dead, .dead, .dead, .dead, .dead, .dead, .dead, .dead, s63, s64, s65, .dead, .dead, .dead, .dead, .dead, .dead, .dead, .dead, .dead, .dead, .dead, .dead, .dead, .dead, .dead, .dead, .dead, .dead, .dead, .dead, .dead, .dead, .dead, .dead, .dead, .dead, .dead, .dead, .dead, .dead, .dead], ob⟩
@[simp] theorem ext39 : E.ext 39 = none := rfl
@[simp] theorem trim39 (id : Nat) : E.trim 39 id = none := rfl
@[simp] theorem ext40 : E.ext 40 = none := rfl
@[simp] theorem trim40 (id : Nat) : E.trim 40 id = none := rfl
@[simp] theorem how40x0 : E.how 40 0 = 0 := rfl
@[simp] theorem how40x1 : E.how 40 1 = 0 := rfl
@[simp] theorem how40x2 : E.how 40 2 = 0 := rfl
@[simp] theorem ext41 : E.ext 41 = none := rfl
@[simp] theorem trim41 (id : Nat) : E.trim 41 id = none := rfl
@[simp] theorem how41x0 : E.how 41 0 = 0 := rfl
@[simp] theorem how41x1 : E.how 41 1 = 0 := rfl
@[simp] theorem ext42 : E.ext 42 = none := rfl
@[simp] theorem trim42 (id : Nat) : E.trim 42 id = none := rfl
@[simp] theorem how42x0 : E.how 42 0 = 0 := rfl
@[simp] theorem how42x1 : E.how 42 1 = 0 := rfl
@[simp] theorem keep42x5 : E.keep 42 5 = some [0, 1, 5] := rfl
@[simp] def I_laws_szOpS_0 (s0 s1 s5 : S) (ob : List (Nat × O)) : F := ⟨[s0, s1, .dead, .dead, .dead, s5, .dead, .dead, .dead, .dead, .dead, .dead, .dead, .dead, .dead, .dead, .dead, .dead, .dead, .dead, .dead, .dead, .dead, .dead, .dead, .dead, .dead], ob⟩
@[simp] theorem ext43 : E.ext 43 = none := rfl
@[simp] theorem trim43 (id : Nat) : E.trim 43 id = none := rfl
@[simp] theorem how43x0 : E.how 43 0 = 0 := rfl
@[simp] theorem how43x1 : E.how 43 1 = 0 := rfl
@[simp] theorem ext44 : E.ext 44 = none := rfl
@[simp] theorem trim44 (id : Nat) : E.trim 44 id = none := rfl
@[simp] theorem how44x0 : E.how 44 0 = 0 := rfl
@[simp] theorem ext45 : E.ext 45 = none := rfl
@[simp] theorem trim45 (id : Nat) : E.trim 45 id = none := rfl
@[simp] theorem how45x0 : E.how 45 0 = 0 := rfl
@[simp] theorem how45x1 : E.how 45 1 = 0 := rfl
@[simp] theorem keep45x4 : E.keep 45 4 = some [0, 1, 5] := rfl
@[simp] def I_spec_l1Same_0 (s0 s1 s5 : S) (ob : List (Nat × O)) : F := ⟨[s0, s1, .dead, .dead, .dead, s5, .dead, .dead, .dead, .dead, .dead, .dead, .dead, .dead, .dead, .dead, .dead, .dead, .dead, .dead, .dead, .dead, .dead, .dead, .dead, .dead], ob⟩
@[simp] theorem ext46 : E.ext 46 = none := rfl
@[simp] theorem trim46 (id : Nat) : E.trim 46 id = none := rfl
@[simp] theorem how46x0 : E.how 46 0 = 0 := rfl
@[simp] theorem how46x1 : E.how 46 1 = 0 := rfl
@[simp] theorem ext47 : E.ext 47 = none := rfl
@[simp] theorem trim47 (id : Nat) : E.trim 47 id = none := rfl
@[simp] theorem how47x0 : E.how 47 0 = 0 := rfl
@[simp] theorem ext48 : E.ext 48 = none := rfl
@[simp] theorem trim48 (id : Nat) : E.trim 48 id = none := rfl
@[simp] theorem how48x0 : E.how 48 0 = 0 := rfl
@[simp] theorem ext49 : E.ext 49 = none := rfl
@[simp] theorem trim49 (id : Nat) : E.trim 49 id = none := rfl
@[simp] theorem how49x0 : E.how 49 0 = 0 := rfl
@[simp] theorem how49x1 : E.how 49 1 = 0 := rfl
@[simp] theorem keep49x6 : E.keep 49 6 = some [2, 3, 5] := rfl
@[simp] def I_spec_l9Inline_0 (s2 s3 s5 : S) (ob : List (Nat × O)) : F := ⟨[.dead, .dead, s2, s3, .dead, s5, .dead, .dead, .dead, .dead, .dead, .dead, .dead, .dead, .dead, .dead, .dead, .dead, .dead, .dead, .dead, .dead, .dead, .dead, .dead, .dead, .dead, .dead, .dead, .dead, .dead, .dead, .dead, .dead, .dead, .dead, .dead, .dead, .dead, .dead, .dead, .dead, .dead, .dead, .dead, .dead, .dead, .dead, .dead, .dead, .dead, .dead, .dead, .dead, .dead, .dead, .dead, .dead, .dead, .dead], ob⟩
@[simp] theorem ext50 : E.ext 50 = none := rfl
@[simp] theorem trim50 (id : Nat) : E.trim 50 id = none := rfl
@[simp] theorem how50x0 : E.how 50 0 = 0 := rfl
@[simp] theorem ext51 : E.ext 51 = none := rfl
@[simp] theorem trim51 (id : Nat) : E.trim 51 id = none := rfl
@[simp] theorem how51x0 : E.how 51 0 = 0 := rfl
@[simp] theorem keep51x3 : E.keep 51 3 = some [1, 3, 4] := rfl
@[simp] def I_spec_l9Oneofs_0 (s1 s3 s4 : S) (ob : List (Nat × O)) : F := ⟨[.dead, s1, .dead, s3, s4, .dead, .dead, .dead, .dead, .dead, .dead, .dead, .dead, .dead, .dead, .dead, .dead, .dead, .dead, .dead, .dead, .dead, .dead, .dead, .dead, .dead, .dead], ob⟩
@[simp] theorem ext52 : E.ext 52 = none := rfl
@[simp] theorem trim52 (id : Nat) : E.trim 52 id = none := rfl
@[simp] theorem ext53 : E.ext 53 = none := rfl
@[simp] theorem trim53 (id : Nat) : E.trim 53 id = none := rfl
@[simp] theorem how53x0 : E.how 53 0 = 0 := rfl
@[simp] theorem keep53x3 : E.keep 53 3 = some [0, 3, 4] := rfl
@[simp] def I_laws_toOpS_0 (s0 s3 s4 : S) (ob : List (Nat × O)) : F := ⟨[s0, .dead, .dead, s3, s4, .dead, .dead, .dead, .dead, .dead, .dead, .dead, .dead, .dead, .dead, .dead, .dead, .dead, .dead, .dead, .dead, .dead, .dead], ob⟩
@[simp] theorem ext54 : E.ext 54 = none := rfl
@[simp] theorem trim54 (id : Nat) : E.trim 54 id = none := rfl
@[simp] theorem how54x0 : E.how 54 0 = 0 := rfl
@[simp] theorem keep54x3 : E.keep 54 3 = some [0, 3, 4] := rfl
@[simp] def I_laws_toIntS_0 (s0 s3 s4 : S) (ob : List (Nat × O)) : F := ⟨[s0, .dead, .dead, s3, s4, .dead, .dead, .dead, .dead, .dead, .dead, .dead, .dead, .dead, .dead, .dead, .dead, .dead, .dead, .dead, .dead, .dead], ob⟩
@[simp] theorem ext55 : E.ext 55 = none := rfl
@[simp] theorem trim55 (id : Nat) : E.trim 55 id = none := rfl
@[simp] theorem how55x0 : E.how 55 0 = 0 := rfl
@[simp] theorem how55x1 : E.how 55 1 = 0 := rfl
@[simp] theorem keep55x2 : E.keep 55 2 = some [0, 1, 7, 8] := rfl
@[simp] def I_slices_IndexFunc_Limpl_Mod_impl_Mod_0 (s0 s1 s7 s8 : S) (ob : List (Nat × O)) : F := ⟨[s0, s1, .dead, .dead, .dead, .dead, .dead, s7, s8, .dead, .dead, .dead, .dead, .dead, .dead, .dead, .dead, .dead, .dead], ob⟩
@[simp] theorem ext56 : E.ext 56 = none := rfl
@[simp] theorem trim56 (id : Nat) : E.trim 56 id = none := rfl
@[simp] theorem how56x0 : E.how 56 0 = 0 := rfl
@[simp] theorem ext57 : E.ext 57 = none := rfl
@[simp] theorem trim57 (id : Nat) : E.trim 57 id = none := rfl
@[simp] theorem how57x0 : E.how 57 0 = 0 := rfl
@[simp] theorem how57x1 : E.how 57 1 = 0 := rfl
@[simp] theorem ext58 : E.ext 58 = none := rfl
@[simp] theorem trim58 (id : Nat) : E.trim 58 id = none := rfl
@[simp] theorem how58x0 : E.how 58 0 = 0 := rfl
@[simp] theorem how58x1 : E.how 58 1 = 0 := rfl
@[simp] theorem ext59 : E.ext 59 = none := rfl
@[simp] theorem trim59 (id : Nat) : E.trim 59 id = none := rfl
@[simp] theorem how59x0 : E.how 59 0 = 0 := rfl
@[simp] theorem how59x1 : E.how 59 1 = 0 := rfl
@[simp] theorem keep59x2 : E.keep 59 2 = some [0, 1, 7, 8] := rfl
@[simp] def I_slices_IndexFunc_Limpl_Op_impl_Op_0 (s0 s1 s7 s8 : S) (ob : List (Nat × O)) : F := ⟨[s0, s1, .dead, .dead, .dead, .dead, .dead, s7, s8, .dead, .dead, .dead, .dead, .dead, .dead, .dead, .dead, .dead, .dead], ob⟩
@[simp] theorem ext60 : E.ext 60 = none := rfl
@[simp] theorem trim60 (id : Nat) : E.trim 60 id = none := rfl
@[simp] theorem how60x0 : E.how 60 0 = 0 := rfl
@[simp] theorem how60x1 : E.how 60 1 = 0 := rfl
@[simp] theorem ext61 : E.ext 61 = none := rfl
@[simp] theorem trim61 (id : Nat) : E.trim 61 id = none := rfl
@[simp] theorem how61x0 : E.how 61 0 = 0 := rfl
@[simp] theorem how61x1 : E.how 61 1 = 0 := rfl
@[simp] theorem keep61x4 : E.keep 61 4 = some [0, 1, 12, 13] := rfl
@[simp] def I_slices_Equal_Lbyte_byte_0 (s0 s1 s12 s13 : S) (ob : List (Nat × O)) : F := ⟨[s0, s1, .dead, .dead, .dead, .dead, .dead, .dead, .dead, .dead, .dead, .dead, s12, s13, .dead, .dead, .dead, .dead, .dead, .dead, .dead, .dead, .dead, .dead, .dead, .dead], ob⟩
@[simp] theorem ext62 : E.ext 62 = none := rfl
@[simp] theorem trim62 (id : Nat) : E.trim 62 id = none := rfl
@[simp] theorem how62x0 : E.how 62 0 = 0 := rfl
@[simp] theorem ext63 : E.ext 63 = none := rfl
@[simp] theorem trim63 (id : Nat) : E.trim 63 id = none := rfl
@[simp] theorem how63x0 : E.how 63 0 = 0 := rfl
@[simp] theorem ext64 : E.ext 64 = none := rfl
@[simp] theorem trim64 (id : Nat) : E.trim 64 id = none := rfl
@[simp] theorem how64x0 : E.how 64 0 = 0 := rfl
@[simp] theorem ext65 : E.ext 65 = none := rfl
@[simp] theorem trim65 (id : Nat) : E.trim 65 id = none := rfl
@[simp] theorem how65x0 : E.how 65 0 = 0 := rfl
@[simp] theorem how65x1 : E.how 65 1 = 0 := rfl
@[simp] theorem how65x2 : E.how 65 2 = 0 := rfl
@[simp] theorem keep65x4 : E.keep 65 4 = some [1, 2, 15, 16, 17] := rfl
@[simp] def I_slices_EqualFunc_Limpl_Op_Limpl_Op_impl_Op_impl_Op_0 (s1 s2 s15 s16 s17 : S) (ob : List (Nat × O)) : F := ⟨[.dead, s1, s2, .dead, .dead, .dead, .dead, .dead, .dead, .dead, .dead, .dead, .dead, .dead, .dead, s15, s16, s17, .dead, .dead, .dead, .dead, .dead, .dead, .dead, .dead, .dead, .dead, .dead, .dead, .dead, .dead], ob⟩
@[simp] theorem ext66 : E.ext 66 = none := rfl
@[simp] theorem trim66 (id : Nat) : E.trim 66 id = none := rfl
@[simp] theorem how66x0 : E.how 66 0 = 0 := rfl
@[simp] theorem how66x1 : E.how 66 1 = 0 := rfl
@[simp] theorem ext67 : E.ext 67 = none := rfl
@[simp] theorem trim67 (id : Nat) : E.trim 67 id = none := rfl
@[simp] theorem how67x0 : E.how 67 0 = 0 := rfl
@[simp] theorem ext68 : E.ext 68 = none := rfl
@[simp] theorem trim68 (id : Nat) : E.trim 68 id = none := rfl
@[simp] theorem how68x0 : E.how 68 0 = 0 := rfl
@[simp] theorem how68x1 : E.how 68 1 = 0 := rfl
@[simp] theorem ext72 : E.ext 72 = none := rfl
@[simp] theorem trim72 (id : Nat) : E.trim 72 id = none := rfl
@[simp] theorem how72x0 : E.how 72 0 = 0 := rfl
@[simp] theorem how72x1 : E.how 72 1 = 0 := rfl
@[simp] theorem keep72x4 : E.keep 72 4 = some [0, 1, 5] := rfl
@[simp] def I_laws_eqOpS_0 (s0 s1 s5 : S) (ob : List (Nat × O)) : F := ⟨[s0, s1, .dead, .dead, .dead, s5, .dead, .dead, .dead, .dead, .dead, .dead, .dead, .dead, .dead, .dead, .dead, .dead, .dead, .dead, .dead, .dead, .dead, .dead, .dead, .dead, .dead], ob⟩
@[simp] theorem ext73 : E.ext 73 = none := rfl
@[simp] theorem trim73 (id : Nat) : E.trim 73 id = none := rfl
@[simp] theorem how73x0 : E.how 73 0 = 0 := rfl
@[simp] theorem how73x1 : E.how 73 1 = 0 := rfl
@[simp] theorem keep73x4 : E.keep 73 4 = some [0, 1, 5] := rfl
@[simp] def I_laws_eqIntS_0 (s0 s1 s5 : S) (ob : List (Nat × O)) : F := ⟨[s0, s1, .dead, .dead, .dead, s5, .dead, .dead, .dead, .dead, .dead, .dead, .dead, .dead, .dead, .dead, .dead, .dead, .dead, .dead, .dead, .dead, .dead, .dead, .dead, .dead], ob⟩
@[simp] theorem ext74 : E.ext 74 = none := rfl
@[simp] theorem trim74 (id : Nat) : E.trim 74 id = none := rfl
@[simp] theorem how74x0 : E.how 74 0 = 0 := rfl
@[simp] theorem how74x1 : E.how 74 1 = 0 := rfl
@[simp] theorem ext75 : E.ext 75 = none := rfl
@[simp] theorem trim75 (id : Nat) : E.trim 75 id = none := rfl
@[simp] theorem how75x0 : E.how 75 0 = 0 := rfl
@[simp] theorem ext76 : E.ext 76 = none := rfl
@[simp] theorem trim76 (id : Nat) : E.trim 76 id = none := rfl
@[simp] theorem how76x0 : E.how 76 0 = 0 := rfl
@[simp] theorem keep76x3 : E.keep 76 3 = some [3, 4] := rfl
@[simp] def I_spec_PutVarint_0 (s3 s4 : S) (ob : List (Nat × O)) : F := ⟨[.dead, .dead, .dead, s3, s4, .dead, .dead, .dead, .dead, .dead, .dead, .dead, .dead, .dead, .dead, .dead, .dead, .dead, .dead, .dead, .dead, .dead, .dead, .dead], ob⟩
@[simp] theorem ext77 : E.ext 77 = none := rfl
@[simp] theorem trim77 (id : Nat) : E.trim 77 id = none := rfl
@[simp] theorem how77x0 : E.how 77 0 = 0 := rfl
@[simp] theorem ext78 : E.ext 78 = none := rfl
@[simp] theorem trim78 (id : Nat) : E.trim 78 id = none := rfl
@[simp] theorem how78x0 : E.how 78 0 = 0 := rfl
@[simp] theorem how78x1 : E.how 78 1 = 0 := rfl
@[simp] theorem ext79 : E.ext 79 = none := rfl
@[simp] theorem trim79 (id : Nat) : E.trim 79 id = none := rfl
@[simp] theorem how79x0 : E.how 79 0 = 0 := rfl
@[simp] theorem ext80 : E.ext 80 = none := rfl
@[simp] theorem trim80 (id : Nat) : E.trim 80 id = none := rfl
@[simp] theorem how80x0 : E.how 80 0 = 0 := rfl
@[simp] theorem how80x1 : E.how 80 1 = 0 := rfl
@[simp] theorem ext81 : E.ext 81 = none := rfl
@[simp] theorem trim81 (id : Nat) : E.trim 81 id = none := rfl
@[simp] theorem how81x0 : E.how 81 0 = 0 := rfl
@[simp] theorem how81x1 : E.how 81 1 = 0 := rfl
@[simp] theorem ext88 : E.ext 88 = none := rfl
@[simp] theorem trim88 (id : Nat) : E.trim 88 id = none := rfl
@[simp] theorem how88x0 : E.how 88 0 = 0 := rfl
@[simp] theorem how88x1 : E.how 88 1 = 0 := rfl
@[simp] theorem ext89 : E.ext 89 = none := rfl
@[simp] theorem trim89 (id : Nat) : E.trim 89 id = none := rfl
@[simp] theorem how89x0 : E.how 89 0 = 0 := rfl
@[simp] theorem how89x1 : E.how 89 1 = 0 := rfl
@[simp] theorem ext90 : E.ext 90 = none := rfl
@[simp] theorem trim90 (id : Nat) : E.trim 90 id = none := rfl
@[simp] theorem how90x0 : E.how 90 0 = 0 := rfl
@[simp] theorem keep90x3 : E.keep 90 3 = some [0, 3, 4] := rfl
@[simp] def I_laws_toByteS_0 (s0 s3 s4 : S) (ob : List (Nat × O)) : F := ⟨[s0, .dead, .dead, s3, s4, .dead, .dead, .dead, .dead, .dead, .dead, .dead, .dead, .dead, .dead, .dead, .dead, .dead, .dead, .dead, .dead, .dead], ob⟩
@[simp] theorem ext91 : E.ext 91 = none := rfl
@[simp] theorem trim91 (id : Nat) : E.trim 91 id = none := rfl
@[simp] theorem how91x0 : E.how 91 0 = 0 := rfl
@[simp] theorem keep91x3 : E.keep 91 3 = some [3, 4] := rfl
@[simp] def I_impl_PutVarint_0 (s3 s4 : S) (ob : List (Nat × O)) : F := ⟨[.dead, .dead, .dead, s3, s4, .dead, .dead, .dead, .dead, .dead, .dead, .dead, .dead, .dead, .dead, .dead, .dead, .dead, .dead, .dead, .dead, .dead], ob⟩
@[simp] theorem ext97 : E.ext 97 = none := rfl
@[simp] theorem trim97 (id : Nat) : E.trim 97 id = none := rfl
@[simp] theorem how97x0 : E.how 97 0 = 0 := rfl
@[simp] theorem how97x1 : E.how 97 1 = 0 := rfl
@[simp] theorem keep97x4 : E.keep 97 4 = some [0, 1, 5] := rfl
@[simp] def I_laws_eqByteS_0 (s0 s1 s5 : S) (ob : List (Nat × O)) : F := ⟨[s0, s1, .dead, .dead, .dead, s5, .dead, .dead, .dead, .dead, .dead, .dead, .dead, .dead, .dead, .dead, .dead, .dead, .dead, .dead, .dead, .dead, .dead, .dead, .dead, .dead], ob⟩
end Go.Proofs.YtckojpaklblnpaaDoor.Th
