/- Texts: an IR, by the program. -/
import Derived.Test.YtckojpaklblnpaaGreatDoorKG1
import Derived.Test.YtckojpaklblnpaaGreatDoorKG6
set_option linter.unusedVariables false
set_option linter.unusedSimpArgs false
set_option maxRecDepth 10000
set_option maxHeartbeats 2000000
namespace Go.Proofs.YtckojpaklblnpaaGreatDoor.Th
open Go Go.RowKit Go.Proofs.YtckojpaklblnpaaGreatDoor.Ev
theorem wordsT_len (x : OpT) : (wordsT x).length ≤ 100 := by
  have hh : (headW x).length ≤ 3 := by unfold headW; split <;> simp
  unfold wordsT restW
  have l1 := addW_len x.rep [114, 101, 112, 101, 97, 116, 101, 100] (headW x)
  generalize addW x.rep [114, 101, 112, 101, 97, 116, 101, 100] (headW x) = ws1 at l1 ⊢
  have l2 := addW_len (!decide (x.oneof = 0)) ([111, 110, 101, 111, 102] ++ Lib.itoa x.oneof) ws1
  generalize addW (!decide (x.oneof = 0)) ([111, 110, 101, 111, 102] ++ Lib.itoa x.oneof) ws1 = ws2 at l2 ⊢
  have l3 := addW_len (decide (0 < x.tag.length)) [116, 97, 103] ws2
  generalize addW (decide (0 < x.tag.length)) [116, 97, 103] ws2 = ws3 at l3 ⊢
  have l4 := addW_len x.quick [113, 117, 105, 99, 107] ws3
  generalize addW x.quick [113, 117, 105, 99, 107] ws3 = ws4 at l4 ⊢
  have l5 := addW_len (!decide (x.run = 0)) ([114, 117, 110] ++ Lib.itoa x.run) ws4
  generalize addW (!decide (x.run = 0)) ([114, 117, 110] ++ Lib.itoa x.run) ws4 = ws5 at l5 ⊢
  have l6 := addW_len (decide (0 < x.inl.length)) [105, 110, 108, 105, 110, 101] ws5
  omega
def invP (b : Bool) (ms : List ModT) : Nat → F
  | 0 => I_impl_PrintIr_0 .nils (.val b (.sl 3 (ms.map ModT.enc))) (.lit (.int .i64 ms.length)) (.lit (.int .i64 (0 : Nat))) []
  | i + 1 => I_impl_PrintIr_0 (.vw 88 [] 0 1 false) (.val b (.sl 3 (ms.map ModT.enc))) (.lit (.int .i64 ms.length)) (.lit (.int .i64 (i + 1 : Nat))) [(88, { cells := [.ow (.sl 1 (encU (prN ms (i + 1))))], var := true })]
theorem c_impl_PrintIr (b : Bool) (ms : List ModT) (hms : ms.length ≤ 2 ^ 40) (hs : ∀ m ∈ ms, m.Small) : cw f_impl_PrintIr [.agg b (encM ms)] [] = some (.lit (.string (str (if specB ms then prN ms ms.length else []))), []) := by
  refine callW_run (by simp) fs_impl_PrintIr rfl rfl rfl ?_
  have f1 := c_impl_IrOk b ms hms hs
  rw [specB_eq] at f1
  simp only [cw, encM] at f1
  cases q : specB ms with
  | false =>
    rw [q] at f1
    simp [encM, f1]
  | true =>
  rw [q] at f1
  obtain ⟨h30, hok⟩ := specB_ok q
  simp [encM, f1]
  clear f1
  refine Mc.loop_ind (α := Nat) _ _ _ _ (invP b ms) (fun i => ms.length - i) (fun i => i ≤ ms.length) 0 _ (by simp [invP]) (by simp) ?_
  intro i hi ih
  have hlen := prN_len ms hok i (by omega)
  by_cases hl : i < ms.length
  rotate_left
  · have hi2 : i = ms.length := by omega
    rw [← hi2]
    cases i with
    | zero =>
      have : ¬ (0 < ms.length) := by omega
      have hb0 : bytesOf [] = some [] := rfl
      simp [invP, this, prN, hb0]
    | succ k =>
      have hb := bytesOf_encU (prN ms (k + 1))
      have hl2 := encU_len (prN ms (k + 1))
      have hl' : ¬ ((k : Int) + 1 < ms.length) := by omega
      simp only [invP]
      generalize prN ms (k + 1) = acc at hb hl2 hlen ⊢
      generalize encU acc = ea at hb hl2 ⊢
      simp [hl', hb]
  have hnx : prN ms (i + 1) = prN ms i ++ modT i ms[i] := by
    show prN ms i ++ _ = _
    rw [List.getElem?_eq_getElem hl]
  have ih' := fun σ' hσ' => ih (i + 1) σ' hσ' (by omega) (by omega)
  clear ih
  simp only [invP] at ih'
  rw [hnx] at ih'
  obtain ⟨hm40, hmo⟩ := hok ms[i] (List.getElem_mem hl)
  have hmT : modT i ms[i] = modH i ms[i] ++ opsN ms[i].ops ms[i].ops.length := rfl
  rw [hmT] at ih'
  generalize (V.lit (Value.string (str (prN ms ms.length)))) = res at ih' ⊢
  cases i with
  | zero =>
    have h0 : prN ms 0 = [] := rfl
    rw [h0] at hlen ih'
    simp only [invP]
    refine cut2 _ fun c hc => ?_
    generalize hm : ms[0] = m at ih' hm40 hmo
    have hlI : (0 : Int) < (ms.length : Int) := by omega
    simp [hl, hlI]
    subst hc
    rw [Mc.at_seq, Mc.at_block]
    refine cutK _ fun K hK => ?_
    refine cut4 _ fun c12 hc12 => ?_
    have T12 : ∀ a : List UInt8, a ++ [10] = modH 0 m → a.length ≤ 50 → ∀ σ : F, σ.keep (E.trim f_impl_PrintIr 12) = J_impl_PrintIr_12 .nils (.ptr 104 [(0, 0)] 0) (.lit (.string (str a))) (.val b (.sl 3 (ms.map ModT.enc))) (.lit (.int .i64 ms.length)) (.lit (.int .i64 (0 : Nat))) [(104, boxM b m)] → Mc.at ⟨E, callW E fs, f_impl_PrintIr, [ResultVar.tmp 2], 0⟩ c12 K σ = some (res, []) := by
      intro a ha hal σ hσ
      subst hc12
      rw [Mc.at_seq]
      refine (at_region_of _ _ _ _ _ _ hσ).trans ?_
      clear hσ
      have hb0 : a.length + 1 ≤ 9223372036854775807 := by omega
      have hb2 : ([] : List UInt8).length + (a.length + 1) ≤ maxBytes := by simp; unfold maxBytes; omega
      have hE : encU (a ++ [10]) = encU (modH 0 m) := by rw [← ha]
      have hb2' : ([] : List UInt8).length + (modH 0 m).length ≤ maxBytes := by rw [← ha]; simpa using hb2
      have hb2'' : (modH 0 m).length ≤ maxBytes := by simpa using hb2'
      have hlen2 : (modH 0 m).length ≤ 13000 * 0 + 51 := by rw [← ha]; simp; omega
      have hass : ([] : List UInt8) ++ (modH 0 m ++ opsN m.ops m.ops.length) = (modH 0 m) ++ opsN m.ops m.ops.length := by simp
      rw [hass] at ih'
      rw [ha] at hE
      generalize modH 0 m = acc2 at hlen2 hE hb2'' hb2' ha ih'
      simp [hb0, hb2, hb2', hb2'', str_list, ha, hE]
      clear hE hb2 hb2' hb2'' hass
      refine Mc.loop_ind (α := Nat) _ _ _ _ (fun j => I_impl_PrintIr_1 (.vw 88 [] 0 1 false) (.val b (.sl 3 (ms.map ModT.enc))) (.lit (.int .i64 ms.length)) (.lit (.int .i64 (0 : Nat))) (.val b (.sl 9 (m.ops.map OpT.enc))) (.lit (.int .i64 m.ops.length)) (.lit (.int .i64 j)) [(88, { cells := [.ow (.sl 1 (encU (acc2 ++ opsN m.ops j)))], var := true })]) (fun j => m.ops.length - j) (fun j => j ≤ m.ops.length) 0 _ (by simp [opsN]) (by simp) ?_
      intro j hj ihj
      by_cases hjl : j < m.ops.length
      rotate_left
      · have hj2 : j = m.ops.length := by omega
        have hwi : IntKind.wrap .i64 ((0 : Int) + 1) = (0 : Int) + 1 := i64_wrap (by omega) (by omega)
        have hw1 : IntKind.wrap .i64 (1 : Int) = 1 := i64_wrap (by omega) (by omega)
        subst hK
        rw [hj2]
        simp [hl, hm, ModT.enc, hwi, hw1]
        exact ih' _ (by simp [hw1])
      have hlj := opsN_len m.ops hmo j
      have hx := hmo m.ops[j] (List.getElem_mem hjl)
      have hxl := opT_len _ hx
      have hwj := words_join m.ops[j] hx
      have hwl : (Lib.join (wordsT m.ops[j]) [32]).length ≤ 300 := by rw [← hwj] at hxl; simp at hxl; omega
      have hws : (wordsT m.ops[j]).length ≤ 100 := wordsT_len _
      have f2 := c_impl_opWords b m.ops[j] hx
      have f3 := c_strings_Join true (wordsT m.ops[j]) [32] (by omega) (by omega)
      have hnj : opsN m.ops (j + 1) = opsN m.ops j ++ opT m.ops[j] := by
        show opsN m.ops j ++ _ = _
        rw [List.getElem?_eq_getElem hjl]
      have hEj : encU (acc2 ++ opsN m.ops j) ++ encU (opT m.ops[j]) = encU (acc2 ++ opsN m.ops (j + 1)) := by rw [hnj, ← encU_append, List.append_assoc]
      have hl3 : (acc2 ++ opsN m.ops j).length = acc2.length + (opsN m.ops j).length := by simp
      have hb3 : (acc2 ++ opsN m.ops j).length + (opT m.ops[j]).length ≤ maxBytes := by rw [hl3]; unfold maxBytes; omega
      have hb4 : (acc2 ++ opsN m.ops (j + 1)).length ≤ maxBytes := by rw [hnj, ← List.append_assoc, List.length_append]; exact hb3
      simp only [cw, OpT.enc_eq] at f2 f3
      have ihj' := fun σ' hσ' => ihj (j + 1) σ' hσ' (by omega) (by omega)
      clear ihj
      have hwj' : (32 : UInt8) :: 32 :: (Lib.join (wordsT m.ops[j]) [32] ++ [10]) = opT m.ops[j] := by simpa using hwj
      clear hwj hlj hnj hl3
      generalize acc2 ++ opsN m.ops (j + 1) = acc4 at hEj hb4 ihj'
      generalize acc2 ++ opsN m.ops j = acc3 at hb3 hEj ⊢
      generalize Lib.join (wordsT m.ops[j]) [32] = jn at f3 hwl hwj'
      generalize wordsT m.ops[j] = ws at f2 f3 hws
      have k1 : jn.length + 1 + 1 ≤ 9223372036854775807 := by omega
      have k2 : jn.length + 1 + 1 + 1 ≤ 9223372036854775807 := by omega
      have k3 : jn.length + 2 ≤ 9223372036854775807 := by omega
      have k4 : 2 + jn.length ≤ 9223372036854775807 := by omega
      generalize opT m.ops[j] = ox at hb3 hEj hwj'
      simp [hl, hm, ModT.enc, OpT.enc_eq, hjl, f2, f3, k1, k2, k3, k4, hwj', hb3, hb4, str_list, hEj, wrap_add j (by omega)]
      exact ihj' _ (by simp)
    clear hc12 hK ih'
    refine cut3 _ fun c10 hc10 => ?_
    have T10 : ∀ a : List UInt8, a ++ ((if m.cached = true then [32, 99, 97, 99, 104, 101, 100] else []) ++ [10]) = modH 0 m → a.length ≤ 40 → ∀ σ : F, σ.keep (E.trim f_impl_PrintIr 10) = J_impl_PrintIr_10 .nils (.ptr 104 [(0, 0)] 0) (.lit (.string (str a))) (.val b (.sl 3 (ms.map ModT.enc))) (.lit (.int .i64 ms.length)) (.lit (.int .i64 (0 : Nat))) [(104, boxM b m)] → Mc.at ⟨E, callW E fs, f_impl_PrintIr, [ResultVar.tmp 2], 0⟩ c10 K σ = some (res, []) := by
      intro a ha hal σ hσ
      subst hc10
      rw [Mc.at_seq, Mc.at_seq]
      refine (at_region_of _ _ _ _ _ _ hσ).trans ?_
      clear hσ
      have hb : a.length + 7 ≤ 9223372036854775807 := by omega
      cases hcd : m.cached with
      | false =>
        rw [hcd] at ha
        simp [hl, hm, ModT.enc, hcd]
        exact T12 a (by simpa using ha) (by omega) _ (by simp [hcd])
      | true =>
        rw [hcd] at ha
        simp [hl, hm, ModT.enc, hcd, hb]
        exact T12 (a ++ [32, 99, 97, 99, 104, 101, 100] ) (by simpa using ha) (by simp; omega) _ (by simp [hcd])
    clear hc10 T12
    have hd := c_strconv_Itoa (0 : Int) (by omega) (by omega)
    have hdl := itoa_len (0 : Int) (by omega) (by omega)
    have hb1 : (Lib.itoa (0 : Int)).length + 4 ≤ 9223372036854775807 := by omega
    have hb2 : 4 + (Lib.itoa (0 : Int)).length ≤ 9223372036854775807 := by omega
    have hb4 : (Lib.itoa (0 : Int)).length + 1 + 1 + 1 + 1 + 6 ≤ 9223372036854775807 := by omega
    simp only [cw] at hd
    have hcast : modH 0 m = [109, 111, 100, 32] ++ Lib.itoa (0 : Int) ++ (if m.jumps ≠ [] then [32, 106, 117, 109, 112, 115] else []) ++ (if m.cached = true then [32, 99, 97, 99, 104, 101, 100] else []) ++ [10] := rfl
    rw [hcast] at T10
    generalize Lib.itoa (0 : Int) = dn at hd hdl hb1 hb2 hb4 T10
    by_cases hj : m.jumps = []
    · have hj' : (0 < m.jumps.length) = False := by rw [hj]; simp
      simp [hl, hm, ModT.enc, hd, hb1, hb2, hj']
      exact T10 ([109, 111, 100, 32] ++ dn) (by simp [hj]) (by simp; omega) _ (by simp [hj])
    · have hj' : (0 < m.jumps.length) = True := eq_true (List.length_pos_iff.mpr hj)
      simp [hl, hm, ModT.enc, hd, hb1, hb2, hb4, hj']
      exact T10 ([109, 111, 100, 32] ++ dn ++ [32, 106, 117, 109, 112, 115] ) (by simp [hj]) (by simp; omega) _ (by simp)
  | succ i =>
    simp only [invP]
    generalize prN ms (i + 1) = acc at hlen ih' ⊢
    refine cut2 _ fun c hc => ?_
    generalize hm : ms[(i + 1)] = m at ih' hm40 hmo
    have hlI : ((i : Int) + 1) < (ms.length : Int) := by omega
    simp [hl, hlI]
    subst hc
    rw [Mc.at_seq, Mc.at_block]
    refine cutK _ fun K hK => ?_
    refine cut4 _ fun c12 hc12 => ?_
    have T12 : ∀ a : List UInt8, a ++ [10] = modH (i + 1) m → a.length ≤ 50 → ∀ σ : F, σ.keep (E.trim f_impl_PrintIr 12) = J_impl_PrintIr_12 (.vw 88 [] 0 1 false) (.ptr 104 [(0, 0)] 0) (.lit (.string (str a))) (.val b (.sl 3 (ms.map ModT.enc))) (.lit (.int .i64 ms.length)) (.lit (.int .i64 (i + 1 : Nat))) [(88, { cells := [.ow (.sl 1 (encU acc))], var := true }), (104, boxM b m)] → Mc.at ⟨E, callW E fs, f_impl_PrintIr, [ResultVar.tmp 2], 0⟩ c12 K σ = some (res, []) := by
      intro a ha hal σ hσ
      subst hc12
      rw [Mc.at_seq]
      refine (at_region_of _ _ _ _ _ _ hσ).trans ?_
      clear hσ
      have hb0 : a.length + 1 ≤ 9223372036854775807 := by omega
      have hb2 : acc.length + (a.length + 1) ≤ maxBytes := by unfold maxBytes; omega
      have hE : encU acc ++ encU (a ++ [10]) = encU (acc ++ modH (i + 1) m) := by rw [← ha, ← encU_append]
      have hb2' : acc.length + (modH (i + 1) m).length ≤ maxBytes := by rw [← ha]; simpa using hb2
      have hb2'' : (acc ++ modH (i + 1) m).length ≤ maxBytes := by rw [List.length_append]; simpa using hb2'
      have hlen2 : (acc ++ modH (i + 1) m).length ≤ 13000 * (i + 1) + 51 := by rw [← ha]; simp; omega
      have hass : acc ++ (modH (i + 1) m ++ opsN m.ops m.ops.length) = (acc ++ modH (i + 1) m) ++ opsN m.ops m.ops.length := by simp
      rw [hass] at ih'
      rw [ha] at hE
      generalize acc ++ modH (i + 1) m = acc2 at hlen2 hE hb2'' ih'
      simp [hb0, hb2, hb2', hb2'', str_list, ha, hE]
      clear hE hb2 hb2' hb2'' hass
      refine Mc.loop_ind (α := Nat) _ _ _ _ (fun j => I_impl_PrintIr_1 (.vw 88 [] 0 1 false) (.val b (.sl 3 (ms.map ModT.enc))) (.lit (.int .i64 ms.length)) (.lit (.int .i64 (i + 1 : Nat))) (.val b (.sl 9 (m.ops.map OpT.enc))) (.lit (.int .i64 m.ops.length)) (.lit (.int .i64 j)) [(88, { cells := [.ow (.sl 1 (encU (acc2 ++ opsN m.ops j)))], var := true })]) (fun j => m.ops.length - j) (fun j => j ≤ m.ops.length) 0 _ (by simp [opsN]) (by simp) ?_
      intro j hj ihj
      by_cases hjl : j < m.ops.length
      rotate_left
      · have hj2 : j = m.ops.length := by omega
        have hwi : IntKind.wrap .i64 (((i : Int) + 1) + 1) = ((i : Int) + 1) + 1 := i64_wrap (by omega) (by omega)
        have hw1 : IntKind.wrap .i64 (1 : Int) = 1 := i64_wrap (by omega) (by omega)
        subst hK
        rw [hj2]
        simp [hl, hm, ModT.enc, hwi, hw1]
        exact ih' _ (by simp [hw1])
      have hlj := opsN_len m.ops hmo j
      have hx := hmo m.ops[j] (List.getElem_mem hjl)
      have hxl := opT_len _ hx
      have hwj := words_join m.ops[j] hx
      have hwl : (Lib.join (wordsT m.ops[j]) [32]).length ≤ 300 := by rw [← hwj] at hxl; simp at hxl; omega
      have hws : (wordsT m.ops[j]).length ≤ 100 := wordsT_len _
      have f2 := c_impl_opWords b m.ops[j] hx
      have f3 := c_strings_Join true (wordsT m.ops[j]) [32] (by omega) (by omega)
      have hnj : opsN m.ops (j + 1) = opsN m.ops j ++ opT m.ops[j] := by
        show opsN m.ops j ++ _ = _
        rw [List.getElem?_eq_getElem hjl]
      have hEj : encU (acc2 ++ opsN m.ops j) ++ encU (opT m.ops[j]) = encU (acc2 ++ opsN m.ops (j + 1)) := by rw [hnj, ← encU_append, List.append_assoc]
      have hl3 : (acc2 ++ opsN m.ops j).length = acc2.length + (opsN m.ops j).length := by simp
      have hb3 : (acc2 ++ opsN m.ops j).length + (opT m.ops[j]).length ≤ maxBytes := by rw [hl3]; unfold maxBytes; omega
      have hb4 : (acc2 ++ opsN m.ops (j + 1)).length ≤ maxBytes := by rw [hnj, ← List.append_assoc, List.length_append]; exact hb3
      simp only [cw, OpT.enc_eq] at f2 f3
      have ihj' := fun σ' hσ' => ihj (j + 1) σ' hσ' (by omega) (by omega)
      clear ihj
      have hwj' : (32 : UInt8) :: 32 :: (Lib.join (wordsT m.ops[j]) [32] ++ [10]) = opT m.ops[j] := by simpa using hwj
      clear hwj hlj hnj hl3
      generalize acc2 ++ opsN m.ops (j + 1) = acc4 at hEj hb4 ihj'
      generalize acc2 ++ opsN m.ops j = acc3 at hb3 hEj ⊢
      generalize Lib.join (wordsT m.ops[j]) [32] = jn at f3 hwl hwj'
      generalize wordsT m.ops[j] = ws at f2 f3 hws
      have k1 : jn.length + 1 + 1 ≤ 9223372036854775807 := by omega
      have k2 : jn.length + 1 + 1 + 1 ≤ 9223372036854775807 := by omega
      have k3 : jn.length + 2 ≤ 9223372036854775807 := by omega
      have k4 : 2 + jn.length ≤ 9223372036854775807 := by omega
      generalize opT m.ops[j] = ox at hb3 hEj hwj'
      simp [hl, hm, ModT.enc, OpT.enc_eq, hjl, f2, f3, k1, k2, k3, k4, hwj', hb3, hb4, str_list, hEj, wrap_add j (by omega)]
      exact ihj' _ (by simp)
    clear hc12 hK ih'
    refine cut3 _ fun c10 hc10 => ?_
    have T10 : ∀ a : List UInt8, a ++ ((if m.cached = true then [32, 99, 97, 99, 104, 101, 100] else []) ++ [10]) = modH (i + 1) m → a.length ≤ 40 → ∀ σ : F, σ.keep (E.trim f_impl_PrintIr 10) = J_impl_PrintIr_10 (.vw 88 [] 0 1 false) (.ptr 104 [(0, 0)] 0) (.lit (.string (str a))) (.val b (.sl 3 (ms.map ModT.enc))) (.lit (.int .i64 ms.length)) (.lit (.int .i64 (i + 1 : Nat))) [(88, { cells := [.ow (.sl 1 (encU acc))], var := true }), (104, boxM b m)] → Mc.at ⟨E, callW E fs, f_impl_PrintIr, [ResultVar.tmp 2], 0⟩ c10 K σ = some (res, []) := by
      intro a ha hal σ hσ
      subst hc10
      rw [Mc.at_seq, Mc.at_seq]
      refine (at_region_of _ _ _ _ _ _ hσ).trans ?_
      clear hσ
      have hb : a.length + 7 ≤ 9223372036854775807 := by omega
      cases hcd : m.cached with
      | false =>
        rw [hcd] at ha
        simp [hl, hm, ModT.enc, hcd]
        exact T12 a (by simpa using ha) (by omega) _ (by simp [hcd])
      | true =>
        rw [hcd] at ha
        simp [hl, hm, ModT.enc, hcd, hb]
        exact T12 (a ++ [32, 99, 97, 99, 104, 101, 100] ) (by simpa using ha) (by simp; omega) _ (by simp [hcd])
    clear hc10 T12
    have hd := c_strconv_Itoa ((i : Int) + 1) (by omega) (by omega)
    have hdl := itoa_len ((i : Int) + 1) (by omega) (by omega)
    have hb1 : (Lib.itoa ((i : Int) + 1)).length + 4 ≤ 9223372036854775807 := by omega
    have hb2 : 4 + (Lib.itoa ((i : Int) + 1)).length ≤ 9223372036854775807 := by omega
    have hb4 : (Lib.itoa ((i : Int) + 1)).length + 1 + 1 + 1 + 1 + 6 ≤ 9223372036854775807 := by omega
    simp only [cw] at hd
    have hcast : modH (i + 1) m = [109, 111, 100, 32] ++ Lib.itoa ((i : Int) + 1) ++ (if m.jumps ≠ [] then [32, 106, 117, 109, 112, 115] else []) ++ (if m.cached = true then [32, 99, 97, 99, 104, 101, 100] else []) ++ [10] := rfl
    rw [hcast] at T10
    generalize Lib.itoa ((i : Int) + 1) = dn at hd hdl hb1 hb2 hb4 T10
    by_cases hj : m.jumps = []
    · have hj' : (0 < m.jumps.length) = False := by rw [hj]; simp
      simp [hl, hm, ModT.enc, hd, hb1, hb2, hj']
      exact T10 ([109, 111, 100, 32] ++ dn) (by simp [hj]) (by simp; omega) _ (by simp [hj])
    · have hj' : (0 < m.jumps.length) = True := eq_true (List.length_pos_iff.mpr hj)
      simp [hl, hm, ModT.enc, hd, hb1, hb2, hb4, hj']
      exact T10 ([109, 111, 100, 32] ++ dn ++ [32, 106, 117, 109, 112, 115] ) (by simp [hj]) (by simp; omega) _ (by simp)
end Go.Proofs.YtckojpaklblnpaaGreatDoor.Th
