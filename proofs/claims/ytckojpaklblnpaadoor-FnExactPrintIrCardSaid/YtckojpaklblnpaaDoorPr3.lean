/- Texts: the words of an Op. -/
import Derived.Test.YtckojpaklblnpaaDoorComm
import Derived.Test.YtckojpaklblnpaaDoorPr2
set_option linter.unusedVariables false
set_option linter.unusedSimpArgs false
set_option maxRecDepth 10000
set_option maxHeartbeats 2000000
namespace Go.Proofs.YtckojpaklblnpaaDoor.Th
open Go Go.RowKit Go.Proofs.YtckojpaklblnpaaDoor.Ev

theorem cut3x (m : Mc) {a b d g : Code} {K : List Fr} {σ : F} {x} (h : ∀ c, c = g → m.at (.seq a (.seq b (.seq d c))) K σ = x) : m.at (.seq a (.seq b (.seq d g))) K σ = x := h _ rfl
abbrev boxW (ws : List (List UInt8)) : O := { cells := [.own 1 [[.ow (.sl 1 (ws.map encW))]]], box := true }

theorem c_impl_opWordsS1 (is : Bool) (w : List UInt8) (ws : List (List UInt8)) (h : ws.length ≤ 1000) : cw f_impl_opWordsS1 [.lit (.bool is), .lit (.string (str w)), .ptr 0 [(0, 0)] 0] [boxW ws] = some (.tup [], [some (boxW (if is then ws ++ [w] else ws))]) := by
  refine callW_run (by simp) fs_impl_opWordsS1 rfl rfl rfl ?_
  cases is with
  | false => simp
  | true =>
    have hb : (ws.length + 1) * 16 ≤ maxBytes := by unfold maxBytes; omega
    simp [hb, encW]

def addW (is : Bool) (w : List UInt8) (ws : List (List UInt8)) : List (List UInt8) := if is then ws ++ [w] else ws
theorem addW_len (is : Bool) (w : List UInt8) (ws : List (List UInt8)) : (addW is w ws).length ≤ ws.length + 1 := by unfold addW; split <;> simp

def restW (x : OpT) (ws : List (List UInt8)) : List (List UInt8) :=
  addW (decide (0 < x.inl.length)) [105, 110, 108, 105, 110, 101] (addW (!decide (x.run = 0)) ([114, 117, 110] ++ Lib.itoa x.run) (addW x.quick [113, 117, 105, 99, 107] (addW (decide (0 < x.tag.length)) [116, 97, 103] (addW (!decide (x.oneof = 0)) ([111, 110, 101, 111, 102] ++ Lib.itoa x.oneof) (addW x.rep [114, 101, 112, 101, 97, 116, 101, 100] ws)))))

theorem opWords_tail (b : Bool) (x : OpT) (hx : OkN x) (ws : List (List UInt8)) (hw : ws.length ≤ 100) (c : Code) (hc : some c = Tryd.f17.body.map (Code.drop 3)) (σ : F)
    (hσ : σ.keep (E.trim f_impl_opWords 8) = J_impl_opWords_8 (.ptr 72 [(0, 0)] 0) (.ptr 88 [(0, 0)] 0) [(72, boxO b x), (88, boxW ws)]) : Mc.at ⟨E, callW E fs, f_impl_opWords, Tryd.f17.results.toList, 0⟩ c [] σ = some (.ov [.ow (.sl 1 ((restW x ws).map encW))] false, []) := by
  obtain rfl : c = _ := Option.some.inj (hc.trans rfl)
  simp only [Code.drop]
  rw [Mc.at_seq]
  refine (at_region_of _ _ _ _ _ _ hσ).trans ?_
  clear hσ
  have i1 := c_strconv_Itoa x.oneof (by have := hx.oneof; omega) (by have := hx.oneof; omega)
  have i2 := c_strconv_Itoa x.run (by have := hx.run; omega) (by have := hx.run; omega)
  have n1 := itoa_len x.oneof (by have := hx.oneof; omega) (by have := hx.oneof; omega)
  have n2 := itoa_len x.run (by have := hx.run; omega) (by have := hx.run; omega)
  have m1 : 5 + (Lib.itoa x.oneof).length ≤ 9223372036854775807 := by omega
  have m2 : 3 + (Lib.itoa x.run).length ≤ 9223372036854775807 := by omega
  have m1' : (Lib.itoa x.oneof).length + 5 ≤ 9223372036854775807 := by omega
  have m2' : (Lib.itoa x.run).length + 3 ≤ 9223372036854775807 := by omega
  unfold restW
  have a1 := c_impl_opWordsS1 x.rep [114, 101, 112, 101, 97, 116, 101, 100] ws (by omega)
  have l1 := addW_len x.rep [114, 101, 112, 101, 97, 116, 101, 100] ws
  rw [show (if x.rep then ws ++ [[114, 101, 112, 101, 97, 116, 101, 100]] else ws) = addW x.rep [114, 101, 112, 101, 97, 116, 101, 100] ws from rfl] at a1
  generalize addW x.rep [114, 101, 112, 101, 97, 116, 101, 100] ws = ws1 at a1 l1 ⊢
  have a2 := c_impl_opWordsS1 (!decide (x.oneof = 0)) ([111, 110, 101, 111, 102] ++ Lib.itoa x.oneof) ws1 (by omega)
  have l2 := addW_len (!decide (x.oneof = 0)) ([111, 110, 101, 111, 102] ++ Lib.itoa x.oneof) ws1
  rw [show (if (!decide (x.oneof = 0)) = true then ws1 ++ [[111, 110, 101, 111, 102] ++ Lib.itoa x.oneof] else ws1) = addW (!decide (x.oneof = 0)) ([111, 110, 101, 111, 102] ++ Lib.itoa x.oneof) ws1 from rfl] at a2
  generalize addW (!decide (x.oneof = 0)) ([111, 110, 101, 111, 102] ++ Lib.itoa x.oneof) ws1 = ws2 at a2 l2 ⊢
  have a3 := c_impl_opWordsS1 (decide (0 < x.tag.length)) [116, 97, 103] ws2 (by omega)
  have l3 := addW_len (decide (0 < x.tag.length)) [116, 97, 103] ws2
  rw [show (if decide (0 < x.tag.length) = true then ws2 ++ [[116, 97, 103]] else ws2) = addW (decide (0 < x.tag.length)) [116, 97, 103] ws2 from rfl] at a3
  generalize addW (decide (0 < x.tag.length)) [116, 97, 103] ws2 = ws3 at a3 l3 ⊢
  have a4 := c_impl_opWordsS1 x.quick [113, 117, 105, 99, 107] ws3 (by omega)
  have l4 := addW_len x.quick [113, 117, 105, 99, 107] ws3
  rw [show (if x.quick = true then ws3 ++ [[113, 117, 105, 99, 107]] else ws3) = addW x.quick [113, 117, 105, 99, 107] ws3 from rfl] at a4
  generalize addW x.quick [113, 117, 105, 99, 107] ws3 = ws4 at a4 l4 ⊢
  have a5 := c_impl_opWordsS1 (!decide (x.run = 0)) ([114, 117, 110] ++ Lib.itoa x.run) ws4 (by omega)
  have l5 := addW_len (!decide (x.run = 0)) ([114, 117, 110] ++ Lib.itoa x.run) ws4
  rw [show (if (!decide (x.run = 0)) = true then ws4 ++ [[114, 117, 110] ++ Lib.itoa x.run] else ws4) = addW (!decide (x.run = 0)) ([114, 117, 110] ++ Lib.itoa x.run) ws4 from rfl] at a5
  generalize addW (!decide (x.run = 0)) ([114, 117, 110] ++ Lib.itoa x.run) ws4 = ws5 at a5 l5 ⊢
  have a6 := c_impl_opWordsS1 (decide (0 < x.inl.length)) [105, 110, 108, 105, 110, 101] ws5 (by omega)
  rw [show (if decide (0 < x.inl.length) = true then ws5 ++ [[105, 110, 108, 105, 110, 101]] else ws5) = addW (decide (0 < x.inl.length)) [105, 110, 108, 105, 110, 101] ws5 from rfl] at a6
  generalize addW (decide (0 < x.inl.length)) [105, 110, 108, 105, 110, 101] ws5 = ws6 at a6 ⊢
  simp only [cw, List.cons_append, List.nil_append] at i1 i2 a1 a2 a3 a4 a5 a6
  simp [i1, i2, m1, m2, m1', m2', a1, a2, a3, a4, a5, a6]
  exact ⟨.b (by kernel_rfl), .b (by kernel_rfl)⟩

def headW (x : OpT) : List (List UInt8) := [Lib.itoa x.num] ++ (if x.kind = 16 then [[109, 101, 115, 115, 97, 103, 101], [64] ++ Lib.itoa x.ref] else [wordT x.kind])
def wordsT (x : OpT) : List (List UInt8) := restW x (headW x)

theorem c_impl_opWords (b : Bool) (x : OpT) (hx : OkN x) : cw f_impl_opWords [.agg b x.enc] [] = some (.ov [.ow (.sl 1 ((wordsT x).map encW))] false, []) := by
  refine callW_run (by simp) fs_impl_opWords rfl rfl rfl ?_
  have hh : (headW x).length ≤ 100 := by unfold headW; split <;> simp
  refine cut3x _ fun c hc => ?_
  have T := fun σ => opWords_tail b x hx (headW x) hh c (by rw [hc]; rfl) σ
  clear hc
  unfold wordsT
  generalize restW x (headW x) = res at T ⊢
  unfold headW at T
  have i1 := c_strconv_Itoa x.num (by have := hx.num; omega) (by have := hx.num; omega)
  have i2 := c_strconv_Itoa x.ref (by have := hx.ref; omega) (by have := hx.ref; omega)
  have n2 := itoa_len x.ref (by have := hx.ref; omega) (by have := hx.ref; omega)
  have m2 : 1 + (Lib.itoa x.ref).length ≤ 9223372036854775807 := by omega
  have m2' : (Lib.itoa x.ref).length + 1 ≤ 9223372036854775807 := by omega
  simp only [cw] at i1 i2
  generalize Lib.itoa x.num = dn at i1 T ⊢
  generalize Lib.itoa x.ref = dr at i2 n2 m2 m2' T ⊢
  by_cases h16 : x.kind = 16
  · have h16' : (x.kind = 16) = True := eq_true h16
    rw [if_pos h16] at T
    simp [OpT.enc_eq, i1, i2, m2, m2', h16', maxBytes]
    exact ⟨.b (by kernel_rfl), T _ (by simp [encW, h16])⟩
  rw [if_neg h16] at T
  have h16' : (x.kind = 16) = False := eq_false h16
  by_cases h17 : x.kind = 17
  · have hw : wordT x.kind = [101, 110, 117, 109] := by rw [h17]; rfl
    have h17' : (x.kind = 17) = True := eq_true h17
    rw [hw] at T
    simp [OpT.enc_eq, i1, h16', h17', maxBytes]
    exact T _ (by simp [encW])
  have hk := hx.kind
  have h17' : (x.kind = 17) = False := eq_false h17
  have hc := c_impl_kindNames
  simp only [cw] at hc
  obtain ⟨j, hj⟩ : ∃ j : Nat, x.kind = (j : Int) + 1 := ⟨(x.kind - 1).toNat, by omega⟩
  have hj15 : j < 15 := by omega
  have hw : IntKind.wrap .i64 (x.kind - 1) = j := by rw [i64_wrap (by omega) (by omega)]; omega
  have hj2 : ¬ ((j : Int) < 0) := by omega
  have hlen : kindList.length = 15 := rfl
  have hget : kindList[j]? = some (kindList.getD j []) := by
    rw [List.getD_eq_getElem?_getD, List.getElem?_eq_getElem (by omega)]; rfl
  have hwt : wordT x.kind = kindList.getD j [] := by
    unfold wordT
    rw [if_neg h16, if_neg h17]
    congr 1
    omega
  rw [hwt] at T
  generalize kindList = kl at hc hlen hget T ⊢
  generalize kl.getD j [] = wd at hget T ⊢
  simp [OpT.enc_eq, i1, h16', h17', hc, hw, hj2, hget, encW, maxBytes]
  exact ⟨.b (by kernel_rfl), T _ (by simp [encW])⟩

end Go.Proofs.YtckojpaklblnpaaDoor.Th
