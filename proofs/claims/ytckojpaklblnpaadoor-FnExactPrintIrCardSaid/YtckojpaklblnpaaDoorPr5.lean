/- Texts: an IR. -/
import Derived.Test.YtckojpaklblnpaaDoorComm
import Derived.Test.YtckojpaklblnpaaDoorPr4
import Derived.Test.YtckojpaklblnpaaDoorIr16
set_option linter.unusedVariables false
set_option linter.unusedSimpArgs false
set_option maxRecDepth 10000
set_option maxHeartbeats 2000000
namespace Go.Proofs.YtckojpaklblnpaaDoor.Th
open Go Go.RowKit Go.Proofs.YtckojpaklblnpaaDoor.Ev

def encU (l : List UInt8) : List (List T) := l.map fun b => [.lit (.int .u8 b.toNat)]
theorem encU_append (a b : List UInt8) : encU (a ++ b) = encU a ++ encU b := List.map_append
@[simp] theorem encU_len (a : List UInt8) : (encU a).length = a.length := List.length_map _
theorem bytesOf_encU : ∀ (l : List UInt8), bytesOf (encU l) = some l
  | [] => rfl
  | x :: r => by
    have h1 : Ev.byteOf [T.lit (.int .u8 x.toNat)] = some x := by
      simp [Ev.byteOf]
    have h2 : encU (x :: r) = [T.lit (.int .u8 x.toNat)] :: encU r := rfl
    rw [h2]
    unfold bytesOf
    rw [h1, bytesOf_encU r]

@[simp] theorem ownedRows_U : ∀ (l : List UInt8), ownedRows (l.map fun b => [C.ow (T.lit (Value.int IntKind.u8 (b.toNat : Int)))]) = some (encU l)
  | [] => rfl
  | x :: r => by
    have ih := ownedRows_U r
    simp only [List.map_cons]
    unfold ownedRows
    rw [ih]
    rfl

def opsN (ops : List OpT) : Nat → List UInt8
  | 0 => []
  | j + 1 => opsN ops j ++ (match ops[j]? with | some x => opT x | none => [])
def modH (i : Nat) (m : ModT) : List UInt8 := [109, 111, 100, 32] ++ Lib.itoa i ++ (if m.jumps ≠ [] then [32, 106, 117, 109, 112, 115] else []) ++ (if m.cached = true then [32, 99, 97, 99, 104, 101, 100] else []) ++ [10]
def modT (i : Nat) (m : ModT) : List UInt8 := modH i m ++ opsN m.ops m.ops.length
def prN (ms : List ModT) : Nat → List UInt8
  | 0 => []
  | i + 1 => prN ms i ++ (match ms[i]? with | some m => modT i m | none => [])

theorem modH_len (i : Nat) (hi : i < 2 ^ 40) (m : ModT) : (modH i m).length ≤ 50 := by
  have h1 := itoa_len (i : Int) (by omega) (by omega)
  have k1 : (if m.jumps ≠ [] then [32, 106, 117, 109, 112, 115] else ([] : List UInt8)).length ≤ 6 := by split <;> simp
  have k2 : (if m.cached = true then [32, 99, 97, 99, 104, 101, 100] else ([] : List UInt8)).length ≤ 7 := by split <;> simp
  unfold modH
  simp only [List.length_append, List.length_cons, List.length_nil]
  omega
theorem opsN_len (ops : List OpT) (h : ∀ x ∈ ops, OkN x) : ∀ j, (opsN ops j).length ≤ 300 * j
  | 0 => by simp [opsN]
  | j + 1 => by
    have ih := opsN_len ops h j
    unfold opsN
    cases hq : ops[j]? with
    | none => simp; omega
    | some x =>
      have := opT_len x (h x (List.mem_of_getElem? hq))
      simp
      omega
theorem prN_len (ms : List ModT) (h : ∀ m ∈ ms, m.ops.length ≤ 40 ∧ ∀ x ∈ m.ops, OkN x) : ∀ i, i ≤ 2 ^ 30 → (prN ms i).length ≤ 13000 * i
  | 0, _ => by simp [prN]
  | i + 1, hi => by
    have ih := prN_len ms h i (by omega)
    unfold prN
    cases hq : ms[i]? with
    | none => simp; omega
    | some m =>
      obtain ⟨h1, h2⟩ := h m (List.mem_of_getElem? hq)
      have k1 := modH_len i (by omega) m
      have k2 := opsN_len m.ops h2 m.ops.length
      unfold modT
      simp
      omega

open Classical in
theorem specB_ok {ms : List ModT} (h : specB ms = true) : ms.length ≤ 30 ∧ ∀ m ∈ ms, m.ops.length ≤ 40 ∧ ∀ x ∈ m.ops, OkN x := by
  have h0 := specB_len h
  refine ⟨h0, fun m hm => ?_⟩
  unfold specB at h
  obtain ⟨q1, q2, q3⟩ := of_decide_eq_true h
  obtain ⟨j, hj, rfl⟩ := List.getElem_of_mem hm
  refine ⟨q2 j hj, fun x hx => ?_⟩
  obtain ⟨k, hk, rfl⟩ := List.getElem_of_mem hx
  have h40 := q2 j hj
  have hop := (q3 j hj).1 k hk
  obtain ⟨p1, p2, p3, p4, p5, p6⟩ := fineB_parts ((opOkB_iff ..).mp hop).1
  have p7 := ((opOkB_iff ..).mp hop).2.1
  have hm := ((opOkB_iff ..).mp hop).2.2
  unfold marksB runB at hm
  simp only [Bool.and_eq_true, Bool.or_eq_true, decide_eq_true_eq] at hm
  have hrun := hm.2.2.1
  simp only [numOkB, Bool.and_eq_true, decide_eq_true_eq] at p1
  unfold refsT at p6
  refine ⟨by omega, ?_, by omega, ?_, p3⟩
  · split at p6 <;> omega
  · rcases hrun with hr | hr
    · omega
    · have := hr.1; omega

theorem c_spec_PrintIr (b : Bool) (ms : List ModT) (hms : ms.length ≤ 2 ^ 40) (hs : ∀ m ∈ ms, m.Small) : cw f_spec_PrintIr [.agg b (encM ms)] [] = some (.lit (.string (str (if specB ms then prN ms ms.length else []))), []) := by
  refine callW_run (by simp) fs_spec_PrintIr rfl rfl rfl ?_
  have f1 := c_spec_IrOk b ms hms hs
  simp only [cw, encM] at f1
  cases q : specB ms with
  | false =>
    rw [q] at f1
    simp [encM, f1]
  | true =>
  rw [q] at f1
  obtain ⟨h30, hok⟩ := specB_ok q
  simp [encM, f1]
  clear f1
  refine Mc.loop_ind (α := Nat) _ _ _ _ (fun i => I_spec_PrintIr_0 (.ptr 72 [(0, 0)] 0) (.vw 88 [] 0 1 false) (.lit (.int .i64 i)) [(72, boxI b ms), (88, { cells := [.ow (.sl 1 (encU (prN ms i)))], var := true })]) (fun i => ms.length - i) (fun i => i ≤ ms.length) 0 _ (by simp [prN, encU]) (by simp) ?_
  intro i hi ih
  have hlen := prN_len ms hok i (by omega)
  by_cases hl : i < ms.length
  rotate_left
  · have hi2 : i = ms.length := by omega
    rw [← hi2]
    have hb := bytesOf_encU (prN ms i)
    have hl2 := encU_len (prN ms i)
    generalize prN ms i = acc at hb hl2 hlen ⊢
    generalize encU acc = ea at hb hl2 ⊢
    simp [hl, hb]
  have hnx : prN ms (i + 1) = prN ms i ++ modT i ms[i] := by
    show prN ms i ++ _ = _
    rw [List.getElem?_eq_getElem hl]
  have ih' := fun σ' hσ' => ih (i + 1) σ' hσ' (by omega) (by omega)
  clear ih
  rw [hnx] at ih'
  have hwi := wrap_add i (by omega)
  obtain ⟨hm40, hmo⟩ := hok ms[i] (List.getElem_mem hl)
  have hmT : modT i ms[i] = modH i ms[i] ++ opsN ms[i].ops ms[i].ops.length := rfl
  rw [hmT] at ih'
  generalize (V.lit (Value.string (str (prN ms ms.length)))) = res at ih' ⊢
  generalize prN ms i = acc at hlen ih' ⊢
  refine cut1 _ fun c hc => ?_
  generalize hm : ms[i] = m at ih' hm40 hmo
  simp [hl]
  subst hc
  rw [Mc.at_seq, Mc.at_block]
  refine cutK _ fun K hK => ?_
  refine cut3 _ fun c12 hc12 => ?_
  have T12 : ∀ a : List UInt8, a ++ [10] = modH i m → a.length ≤ 50 → ∀ σ : F, σ.keep (E.trim f_spec_PrintIr 12) = J_spec_PrintIr_12 (.ptr 72 [(0, 0)] 0) (.vw 88 [] 0 1 false) (.lit (.int .i64 i)) (.lit (.string (str a))) [(72, boxI b ms), (88, { cells := [.ow (.sl 1 (encU acc))], var := true })] → Mc.at ⟨E, callW E fs, f_spec_PrintIr, [ResultVar.tmp 2], 0⟩ c12 K σ = some (res, []) := by
    intro a ha hal σ hσ
    subst hc12
    rw [Mc.at_seq]
    refine (at_region_of _ _ _ _ _ _ hσ).trans ?_
    clear hσ
    have hb1 : acc.length + a.length ≤ maxBytes := by unfold maxBytes; omega
    have hb2 : acc.length + (a.length + 1) ≤ maxBytes := by unfold maxBytes; omega
    have hE : encU acc ++ (encU a ++ [[T.lit (Value.int .u8 10)]]) = encU (acc ++ modH i m) := by rw [← ha, encU_append, encU_append]; rfl
    have hb2' : acc.length + (modH i m).length ≤ maxBytes := by rw [← ha]; simpa using hb2
    simp [hb1, hb2, hb2', str_list, hE]
    have hlen2 : (acc ++ modH i m).length ≤ 13000 * i + 51 := by rw [← ha]; simp; omega
    have hass : acc ++ (modH i m ++ opsN m.ops m.ops.length) = (acc ++ modH i m) ++ opsN m.ops m.ops.length := by simp
    rw [hass] at ih'
    generalize acc ++ modH i m = acc2 at hlen2 ih' ⊢
    clear hE hb1 hb2 hass
    refine Mc.loop_ind (α := Nat) _ _ _ _ (fun j => I_spec_PrintIr_1 (.ptr 72 [(0, 0)] 0) (.vw 88 [] 0 1 false) (.lit (.int .i64 i)) (.lit (.int .i64 j)) [(72, boxI b ms), (88, { cells := [.ow (.sl 1 (encU (acc2 ++ opsN m.ops j)))], var := true })]) (fun j => m.ops.length - j) (fun j => j ≤ m.ops.length) 0 _ (by simp [opsN]) (by simp) ?_
    intro j hj ihj
    by_cases hjl : j < m.ops.length
    rotate_left
    · have hj2 : j = m.ops.length := by omega
      subst hK
      rw [hj2]
      simp [hl, hm, ModT.enc, hwi]
      exact ih' _ (by simp)
    have hlj := opsN_len m.ops hmo j
    have hx := hmo m.ops[j] (List.getElem_mem hjl)
    have f2 := c_spec_l20Op b m.ops[j] hx
    have hxl := opT_len _ hx
    have hnj : opsN m.ops (j + 1) = opsN m.ops j ++ opT m.ops[j] := by
      show opsN m.ops j ++ _ = _
      rw [List.getElem?_eq_getElem hjl]
    have hEj : encU (acc2 ++ opsN m.ops j) ++ encU (opT m.ops[j]) = encU (acc2 ++ opsN m.ops (j + 1)) := by rw [hnj, ← encU_append, List.append_assoc]
    have hb3 : acc2.length + (opsN m.ops j).length + (opT m.ops[j]).length ≤ maxBytes := by unfold maxBytes; omega
    simp only [cw, OpT.enc_eq] at f2
    have ihj' := fun σ' hσ' => ihj (j + 1) σ' hσ' (by omega) (by omega)
    clear ihj
    have hl3 : (acc2 ++ opsN m.ops j).length = acc2.length + (opsN m.ops j).length := by simp
    rw [← hl3] at hb3
    have hb4 : (acc2 ++ opsN m.ops (j + 1)).length ≤ maxBytes := by rw [hnj]; simp; omega
    generalize acc2 ++ opsN m.ops (j + 1) = acc4 at hEj hb4 ihj'
    generalize acc2 ++ opsN m.ops j = acc3 at hb3 hEj ⊢
    generalize opT m.ops[j] = ox at f2 hb3 hEj
    simp [hl, hm, ModT.enc, OpT.enc_eq, hjl, f2, hb3, hb4, str_list, hEj, wrap_add j (by omega)]
    exact ihj' _ (by simp)
  clear hc12 hK ih'
  refine cut2 _ fun c10 hc10 => ?_
  have T10 : ∀ a : List UInt8, a ++ ((if m.cached = true then [32, 99, 97, 99, 104, 101, 100] else []) ++ [10]) = modH i m → a.length ≤ 40 → ∀ σ : F, σ.keep (E.trim f_spec_PrintIr 10) = J_spec_PrintIr_10 (.ptr 72 [(0, 0)] 0) (.vw 88 [] 0 1 false) (.lit (.int .i64 i)) (.lit (.string (str a))) [(72, boxI b ms), (88, { cells := [.ow (.sl 1 (encU acc))], var := true })] → Mc.at ⟨E, callW E fs, f_spec_PrintIr, [ResultVar.tmp 2], 0⟩ c10 K σ = some (res, []) := by
    intro a ha hal σ hσ
    subst hc10
    rw [Mc.at_seq, Mc.at_seq]
    refine (at_region_of _ _ _ _ _ _ hσ).trans ?_
    clear hσ
    have hb : a.length + 7 ≤ 9223372036854775807 := by omega
    cases hcd : m.cached with
    | false =>
      rw [hcd] at ha
      simp [hl, hm, ModT.enc, hcd]
      exact T12 a (by simpa using ha) (by omega) _ (by simp)
    | true =>
      rw [hcd] at ha
      simp [hl, hm, ModT.enc, hcd, hb]
      exact T12 (a ++ [32, 99, 97, 99, 104, 101, 100] ) (by simpa using ha) (by simp; omega) _ (by simp)
  clear hc10 T12
  have hd := c_spec_l4Decimal (i : Int) (by omega) (by omega)
  have hdl := itoa_len (i : Int) (by omega) (by omega)
  have hb1 : (Lib.itoa (i : Int)).length + 4 ≤ 9223372036854775807 := by omega
  have hb2 : 4 + (Lib.itoa (i : Int)).length ≤ 9223372036854775807 := by omega
  have hb3 : (Lib.itoa (i : Int)).length + 4 + 6 ≤ 9223372036854775807 := by omega
  have hb4 : (Lib.itoa (i : Int)).length + 1 + 1 + 1 + 1 + 6 ≤ 9223372036854775807 := by omega
  simp only [cw] at hd
  unfold modH at T10
  generalize Lib.itoa (i : Int) = dn at hd hdl hb1 hb2 hb3 hb4 T10
  by_cases hj : m.jumps = []
  · have hj' : (0 < m.jumps.length) = False := by rw [hj]; simp
    simp [hl, hm, ModT.enc, hd, hb1, hb2, hj']
    exact T10 ([109, 111, 100, 32] ++ dn) (by simp [hj]) (by simp; omega) _ (by simp)
  · have hj' : (0 < m.jumps.length) = True := eq_true (List.length_pos_iff.mpr hj)
    simp [hl, hm, ModT.enc, hd, hb1, hb2, hb3, hb4, hj']
    exact T10 ([109, 111, 100, 32] ++ dn ++ [32, 106, 117, 109, 112, 115] ) (by simp [hj]) (by simp; omega) _ (by simp)

end Go.Proofs.YtckojpaklblnpaaDoor.Th
