/- Marks laid out, by the program. -/
import Derived.Test.YtckojpaklblnpaaGreatDoorKG1
import Derived.Test.YtckojpaklblnpaaGreatDoorKG5
set_option linter.unusedVariables false
set_option linter.unusedSimpArgs false
set_option maxRecDepth 10000
set_option maxHeartbeats 2000000
namespace Go.Proofs.YtckojpaklblnpaaGreatDoor.Th
open Go Go.RowKit Go.Proofs.YtckojpaklblnpaaGreatDoor.Ev
def setTag (x : OpT) (t : List Int) : OpT := .mk x.num x.kind x.ref x.rep x.oneof t x.quick x.run []
theorem rows_set (L : List ModT) (k i : Nat) (Os : List OpT) (J : List Int) (c : Bool) (x : OpT) : ((L.set k ⟨Os, J, c⟩).map ModT.enc).set k [.sl 9 ((Os.map OpT.enc).set i x.enc), .sl 1 (J.map encI), .lit (.bool c)] = (L.set k ⟨Os.set i x, J, c⟩).map ModT.enc := by
  simp [List.map_set, ModT.enc]
theorem bads {st : Bool} {ms : List ModT} {fl : List Int} {fo : List (List Int)} {r : Option (V × List (Option O))} (h : ¬ okAll st ms fl fo) (hr : ∃ c, r = some (.lit (.bool false), [some { cells := [c] }]) ∧ C.lent c = false) : Ans (LQ st ms fl fo) r := by
  obtain ⟨c, rfl, hc⟩ := hr
  exact ⟨_, _, rfl, .inr ⟨h, rfl, c, hc, rfl⟩⟩
theorem drawOk_of {ops : Array Oper} {l : List (Nat × Res)} (hs hq : List (Nat × Nat)) (h1 : stillH hs l) (hq1 : stillQ hq l) (h2 : Region.noSelect ops = true) (h3 : depB ops (depMat ops.toList) = true) (dm : List (List Nat)) (h4 : depMat ops.toList = dm) (h5 : pairsH hs hq dm l = true) : DrawOk ops l := by
  refine .q hs hq h1 hq1 ?_
  unfold drawH
  rw [h2, h3, h4, h5]
  rfl
theorem ans_if {Q : V → List (Option O) → Prop} {c : Prop} {inst : Decidable c} {a : Option (V × List (Option O))} : Ans Q (@ite _ c inst a none) ↔ c ∧ Ans Q a := by
  by_cases h : c
  · rw [if_pos h]; exact ⟨fun hh => ⟨h, hh⟩, fun hh => hh.2⟩
  · rw [if_neg h]
    constructor
    · rintro ⟨v, os, h1, _⟩; cases h1
    · intro hh; exact absurd hh.1 h
theorem not_op {st : Bool} {ms : List ModT} {fl : List Int} {fo : List (List Int)} (hr : Raw ms fl fo) {k i : Nat} (hk : k < ms.length) (hi : i < ms[k].ops.length) (h : ∀ (h1 : k < fo.length) (h2 : i < fo[k].length), okOp st ms ms[k].ops[i] fo[k][i] = false) : ¬ okAll st ms fl fo := by
  intro hh
  have h1 : k < fo.length := by rw [hr.hfo]; exact hk
  have h2 : i < fo[k].length := by rw [hr.ops k hk h1]; exact hi
  have h3 := (hh k hk (by rw [hr.hfl]; exact hk) h1).2 i hi h2
  rw [h h1 h2] at h3
  cases h3
theorem c_impl_laid (b b' : Bool) (ms : List ModT) (fl : List Int) (fo : List (List Int)) (hr : Raw ms fl fo) (hnn : ∀ m ∈ ms, ∀ x ∈ m.ops, 0 ≤ x.num) : Ans (LQ true ms fl fo) (cw f_impl_laid [.vw 0 [] 0 1 true, .val b (.sl 1 (fl.map encI)), .val b' (.sl 1 (fo.map (encS 1 encI)))] [{ cells := [.ow (.sl 3 (ms.map ModT.enc))] }]) := by
  refine callW_runQ (by simp) fs_impl_laid rfl rfl rfl (by kernel_rfl) ?_
  have gFL : ∀ k, (fl.map encI)[k]? = fl[k]?.map encI := fun k => List.getElem?_map
  have gFO : ∀ k, (fo.map (encS 1 encI))[k]? = fo[k]?.map (encS 1 encI) := fun k => List.getElem?_map
  generalize fl.map encI = FL at gFL ⊢
  generalize fo.map (encS 1 encI) = FO at gFO ⊢
  have hms := hr.len
  simp
  refine Mc.loop_indP (α := Nat × List ModT) _ _ _ (Ans (LQ true ms fl fo)) (fun a => I_impl_laid_0 (.vw 88 [(0, 0)] 0 1 true) (.val b (.sl 1 FL)) (.val b' (.sl 1 FO)) (.ptr 88 [(0, 0)] 0) (.lit (.int .i64 ms.length)) (.lit (.int .i64 a.1)) [(88, boxL (a.2.map ModT.enc))]) (fun a => ms.length - a.1) (fun a => a.1 ≤ ms.length ∧ ModsAt true ms fl fo a.1 a.2) (0, ms) _ (by simp) ⟨by simp, ⟨rfl, fun j h => by omega, fun j _ _ _ => rfl⟩⟩ ?_
  intro ⟨k, L⟩ ⟨hk, hM⟩ ih
  dsimp only at hk hM
  by_cases hkl : k < ms.length
  rotate_left
  · have hke : k = ms.length := by omega
    subst hke
    obtain ⟨rfl, hok⟩ := hM.full hr
    obtain ⟨hs1, hs2⟩ := small_layL hr
    have hc := c_impl_IrOk true (layL true ms fl fo) hs1 hs2
    rw [specB_eq] at hc
    simp only [cw, encM] at hc
    have hlen := hM.len
    simp [hc]
    exact ⟨_, _, rfl, .inl ⟨hok, rfl, by simp⟩⟩
  have hLk : k < L.length := by rw [hM.len]; exact hkl
  have hrest := hM.rest k (Nat.le_refl k) hkl hLk
  have hfk : k < fl.length := by rw [hr.hfl]; exact hkl
  have hok2 : k < fo.length := by rw [hr.hfo]; exact hkl
  have hjm := hr.jumps ms[k] (List.getElem_mem hkl)
  have hops := hr.ops k hkl hok2
  have hsm := hr.small ms[k] (List.getElem_mem hkl)
  have hnum := hnn ms[k] (List.getElem_mem hkl)
  have hpl := hr.plain ms[k] (List.getElem_mem hkl)
  have gk := gFL k
  rw [List.getElem?_eq_getElem hfk, Option.map_some] at gk
  have gok := gFO k
  rw [List.getElem?_eq_getElem hok2, Option.map_some] at gok
  have hnx := hM.next hr hkl
  have hno := fun i hi => not_op (st := true) (i := i) hr hkl hi
  have hnoj : bit fl[k] 1 = true → jumpsT ms[k].ops = [] → ¬ okAll true ms fl fo := fun h1 h2 hh => ((hh k hkl hfk hok2).1 h1) (by simp only [jmpF, if_true]; exact h2)
  have hsk := fun Os J c => hM.sk hr (k := k) Os J c hkl
  have ih' : ∀ σ', okMod true ms ms[k] fl[k] fo[k] → keepAt E f_impl_laid _ σ' = _ → _ := fun σ' hok hσ' => ih (k + 1, L.set k (modL true ms ms[k] fl[k] fo[k])) σ' hσ' ⟨by simp; omega, hnx hok⟩ (by simp; omega)
  clear ih hnx
  simp only [okMod, modL, jmpF, if_true] at ih'
  have hbk : ∀ f, bits .and .i64 f 1 = 0 ↔ bit f 1 = false := fun f => by simp [bit]
  generalize hmk : ms[k] = m at *
  generalize fl[k] = j at *
  generalize hfkd : fo[k] = fk at *
  obtain ⟨ops, jm, cc⟩ := m
  dsimp only at *
  subst hjm
  have hkl' : (k : Int) < (ms.length : Int) := by omega
  refine cutGP 2 _ (Ans (LQ true ms fl fo)) fun c hc => ?_
  simp only [Code.graft]
  simp [hkl, hkl']
  subst hc
  simp only [Code.drop]
  rw [Mc.at_seq, Mc.at_block]
  refine cutKP _ (Ans (LQ true ms fl fo)) fun K hK => ?_
  refine cutGP 3 _ (Ans (LQ true ms fl fo)) fun c9 hc9 => ?_
  simp only [Code.graft]
  have T9 : ∀ J : List Int, J = (if bit j 1 = true then jumpsT ops else []) → (bit j 1 = true → jumpsT ops ≠ []) → ∀ σ : F, σ.keep (E.trim f_impl_laid 9) = J_impl_laid_9 (.vw 88 [(0, 0)] 0 1 true) (.val b (.sl 1 FL)) (.val b' (.sl 1 FO)) (.ptr 88 [(0, 0)] 0) (.lit (.int .i64 k)) (.ptr 88 [(0, 0), (0, k)] 0) (.lit (.int .i64 ms.length)) (.lit (.int .i64 k)) [(88, boxL ((L.set k ⟨ops, J, cc⟩).map ModT.enc))] → Ans (LQ true ms fl fo) (Mc.at ⟨E, callW E fs, f_impl_laid, Tryz.f21.results.toList, 1⟩ c9 K σ) := by
    intro J hJ hJ2 σ hσ
    subst hc9
    simp only [Code.drop]
    rw [Mc.at_seq]
    refine at_regionP _ (Ans (LQ true ms fl fo)) _ _ _ _ _ hσ ?_
    clear hσ
    have hk0 : ((L.set k ⟨ops, J, cc⟩).map ModT.enc)[k]? = some [.sl 9 (ops.map OpT.enc), .sl 1 (J.map encI), .lit (.bool cc)] := by simp [hLk, ModT.enc]
    have hRl : ((L.set k ⟨ops, J, cc⟩).map ModT.enc).length = ms.length := by simp [hM.len]
    have hn0 : ∀ sh, nrmRows sh ((L.set k ⟨ops, J, cc⟩).map ModT.enc) = ((L.set k ⟨ops, J, cc⟩).map ModT.enc) := fun sh => nrm_encMod sh _
    obtain ⟨R0, hR0⟩ : ∃ R0, R0 = ((L.set k ⟨ops, J, cc⟩).map ModT.enc) := ⟨_, rfl⟩
    rw [← hR0] at hk0 hRl hn0 ⊢
    have hk0' := at_of hk0
    simp [hk0, hk0', hRl, hkl]
    refine Mc.loop_indP (α := Nat × List OpT) _ _ _ (Ans (LQ true ms fl fo)) (fun a => I_impl_laid_1 (.vw 88 [(0, 0)] 0 1 true) (.val b (.sl 1 FL)) (.val b' (.sl 1 FO)) (.ptr 88 [(0, 0)] 0) (.lit (.int .i64 k)) (.ptr 88 [(0, 0), (0, k)] 0) (.lit (.int .i64 ms.length)) (.lit (.int .i64 k)) (.lit (.int .i64 ops.length)) (.lit (.int .i64 a.1)) [(88, boxL ((L.set k ⟨a.2, J, cc⟩).map ModT.enc))]) (fun a => ops.length - a.1) (fun a => a.1 ≤ ops.length ∧ OpsAt true ms ops fk a.1 a.2) (0, ops) _ (by simp [hn0]; rw [← List.map_set]; exact hR0) ⟨by simp, ⟨rfl, fun j h => by omega, fun j _ _ _ => rfl⟩⟩ ?_
    intro ⟨i, Os⟩ ⟨hi, hO⟩ ih2
    dsimp only at hi hO
    by_cases hil : i < ops.length
    rotate_left
    · have hie : i = ops.length := by omega
      subst hie
      obtain ⟨rfl, hokk⟩ := hO.full hops
      subst hK
      have hnR : ∀ sh, nrmRows sh ((L.set k ⟨opsL ms ops fk, J, cc⟩).map ModT.enc) = ((L.set k ⟨opsL ms ops fk, J, cc⟩).map ModT.enc) := fun sh => nrm_encMod sh _
      generalize hRR : ((L.set k ⟨opsL ms ops fk, J, cc⟩).map ModT.enc) = RR at hnR
      simp [wrap_add k (show k < 2 ^ 62 by omega)]
      refine ih' _ ⟨hJ2, hokk⟩ ?_
      rw [← hJ]
      simp only [hRR]
      simp [hnR, wrap_add k (show k < 2 ^ 62 by omega)]
    have hfi : i < fk.length := by rw [hops]; exact hil
    have hOl : i < Os.length := by rw [hO.len]; exact hil
    have hOi := hO.rest i (Nat.le_refl i) hil hOl
    have hnoi := hno i hil
    have hnxt := hO.next hops hil
    have hskO := hO.bare hops
    have gfi : (fk.map encI)[i]? = some (encI fk[i]) := by rw [List.getElem?_map, List.getElem?_eq_getElem hfi]; rfl
    have hpx := hpl ops[i] (List.getElem_mem hil)
    have hxo : ops[i] ∈ ops := List.getElem_mem hil
    have ih3 : okOp true ms ops[i] fk[i] = true → ∀ σ', keepAt E f_impl_laid _ σ' = _ → _ := fun hok σ' hσ' => ih2 (i + 1, Os.set i (opL ms ops[i] fk[i])) σ' hσ' ⟨by simp; omega, hnxt hok⟩ (by simp; omega)
    have hfk2 : ∀ (h1 : k < fo.length) (h2 : i < (fo[k]'h1).length), (fo[k]'h1)[i]'h2 = fk[i] := fun h1 h2 => by simp only [hfkd]
    have hno2 : okOp true ms ops[i] fk[i] = false → ¬ okAll true ms fl fo := fun h => hnoi fun h1 h2 => by rw [hfk2 h1 h2]; exact h
    clear ih2 hnxt hnoi hfk2 ih'
    have gok2 : FO[k]? = some [.sl 1 (fk.map encI)] := gok
    generalize fk.map encI = FK at gfi gok2
    have hbx : (ops.map bareOp)[i]? = some (bareOp ops[i]) := by rw [List.getElem?_map, List.getElem?_eq_getElem hil]; rfl
    generalize ops[i] = x at *
    generalize fk[i] = f at *
    have hb4 : bits .and .i64 f 4 = 0 ↔ bit f 4 = false := by simp [bit]
    have hb8 : bits .and .i64 f 8 = 0 ↔ bit f 8 = false := by simp [bit]
    have hil' : (i : Int) < (ops.length : Int) := by omega
    have hrows : ∀ y : OpT, ((L.set k ⟨Os, J, cc⟩).map ModT.enc).set k [.sl 9 ((Os.map OpT.enc).set i y.enc), .sl 1 (J.map encI), .lit (.bool cc)] = (L.set k ⟨Os.set i y, J, cc⟩).map ModT.enc := fun y => rows_set L k i Os J cc y
    have hOx : (Os.map OpT.enc)[i]? = some x.enc := by rw [List.getElem?_map, List.getElem?_eq_getElem hOl, hOi]; rfl
    have hORl : (Os.map OpT.enc).length = ops.length := by rw [List.length_map, hO.len]
    have hk0 : ((L.set k ⟨Os, J, cc⟩).map ModT.enc)[k]? = some [.sl 9 (Os.map OpT.enc), .sl 1 (J.map encI), .lit (.bool cc)] := by simp [hLk, ModT.enc]
    have hRl : ((L.set k ⟨Os, J, cc⟩).map ModT.enc).length = ms.length := by simp [hM.len]
    dsimp only
    obtain ⟨R1, hR1⟩ : ∃ R1, R1 = ((L.set k ⟨Os, J, cc⟩).map ModT.enc) := ⟨_, rfl⟩
    rw [← hR1] at hk0 hRl ⊢
    simp only [← hR1] at hrows
    have hk0' := at_of hk0
    have hxs : Os.set i (setTag x []) = Os := by
      have : setTag x [] = Os[i] := by
        rw [hOi]
        unfold setTag
        cases x
        simp only [Plain, OpT.tag, OpT.inl] at hpx
        simp [OpT.num, OpT.kind, OpT.ref, OpT.rep, OpT.oneof, OpT.quick, OpT.run, hpx.1, hpx.2]
      rw [this, List.set_getElem_self]
    refine cutGP 2 _ (Ans (LQ true ms fl fo)) fun c hc => ?_
    simp only [Code.graft]
    simp [hil, hil']
    subst hc
    simp only [Code.drop]
    rw [Mc.at_seq, Mc.at_block]
    refine cutKP _ (Ans (LQ true ms fl fo)) fun K2 hK2 => ?_
    refine cutGP 3 _ (Ans (LQ true ms fl fo)) fun c17 hc17 => ?_
    simp only [Code.graft]
    have T17 : ∀ t : List Int, t = tagL x f → (bit f 4 = true → tagT x ≠ []) → ∀ σ : F, σ.keep (E.trim f_impl_laid 17) = J_impl_laid_17 (.vw 88 [(0, 0)] 0 1 true) (.val b (.sl 1 FL)) (.val b' (.sl 1 FO)) (.ptr 88 [(0, 0)] 0) (.lit (.int .i64 k)) (.ptr 88 [(0, 0), (0, k)] 0) (.lit (.int .i64 i)) (.ptr 88 [(0, 0), (0, k), (0, i)] 0) (.lit (.int .i64 ms.length)) (.lit (.int .i64 k)) (.lit (.int .i64 ops.length)) (.lit (.int .i64 i)) [(88, boxL ((L.set k ⟨Os.set i (setTag x t), J, cc⟩).map ModT.enc))] → Ans (LQ true ms fl fo) (Mc.at ⟨E, callW E fs, f_impl_laid, Tryz.f21.results.toList, 1⟩ c17 K2 σ) := by
      intro t ht ht2 σ hσ
      subst hc17
      simp only [Code.drop]
      repeat rw [Mc.at_seq]
      refine at_regionP _ (Ans (LQ true ms fl fo)) _ _ _ _ _ hσ ?_
      clear hσ hrows hOx hk0 hk0' hRl hR1 hxs
      have hok4 : okOp true ms x f = (!bit f 8 || inlOk ms x) := by
        unfold okOp
        simp only [Bool.true_and]
        cases h4 : bit f 4 with
        | false => simp
        | true => simp [ht2 h4]
      cases h8 : bit f 8 with
      | false =>
        have hz := hb8.mpr h8
        have hopL : opL ms x f = setTag x t := by unfold opL setTag inlL; rw [h8, ← ht]; rfl
        have ih3 := ih3 (by rw [hok4, h8]; rfl)
        rw [hopL] at ih3
        have hn0 : ∀ sh, nrmRows sh ((L.set k ⟨Os.set i (setTag x t), J, cc⟩).map ModT.enc) = ((L.set k ⟨Os.set i (setTag x t), J, cc⟩).map ModT.enc) := fun sh => nrm_encMod sh _
        simp only at ih3
        generalize ((L.set k ⟨Os.set i (setTag x t), J, cc⟩).map ModT.enc) = R2 at hn0 ih3 ⊢
        subst hK2
        simp [gok2, at_of gok2, gfi, at_of gfi, encI, hz]
        exact ih3 _ (by simp [hn0, wrap_add i (show i < 2 ^ 62 by omega)])
      | true =>
        have hz : ¬ bits .and .i64 f 8 = 0 := fun h => by rw [hb8.mp h] at h8; cases h8
        have hok5 : okOp true ms x f = inlOk ms x := by rw [hok4, h8]; rfl
        have hbare : (Os.set i (setTag x t)).map bareOp = ops.map bareOp := by
          rw [List.map_set, hskO]
          apply List.ext_getElem?
          intro q
          by_cases hq : i = q
          · subst hq
            rw [List.getElem?_set_self (by simpa using hil), hbx]
            rfl
          · rw [List.getElem?_set_ne hq]
        have hSk := hsk (Os.set i (setTag x t)) J cc hbare
        have hx1 : ((Os.set i (setTag x t)).map OpT.enc)[i]? = some [.lit (.int .i64 x.num), .lit (.int .i64 x.kind), .lit (.int .i64 x.ref), .lit (.bool x.rep), .lit (.int .i64 x.oneof), .sl 1 (t.map encB), .lit (.bool x.quick), .lit (.int .i64 x.run), .sl 9 []] := by
          rw [List.getElem?_map, List.getElem?_set_self hOl, Option.map_some, OpT.enc_eq]; rfl
        have hO1l : ((Os.set i (setTag x t)).map OpT.enc).length = ops.length := by simp [hO.len]
        have hk1 : ((L.set k ⟨Os.set i (setTag x t), J, cc⟩).map ModT.enc)[k]? = some [.sl 9 ((Os.set i (setTag x t)).map OpT.enc), .sl 1 (J.map encI), .lit (.bool cc)] := by simp [hLk, ModT.enc]
        have hR1l : ((L.set k ⟨Os.set i (setTag x t), J, cc⟩).map ModT.enc).length = ms.length := by simp [hM.len]
        have hrw := rows_set L k i (Os.set i (setTag x t)) J cc (opL ms x f)
        rw [List.set_set] at hrw
        have hwi : IntKind.wrap .i64 ((ms.length : Int) - 1) = (ms.length : Int) - 1 := i64_wrap (by omega) (by omega)
        have hcw := c_impl_within x.ref 0 ((ms.length : Int) - 1)
        simp only [cw] at hcw
        by_cases h16 : x.kind = 16
        rotate_left
        · have hno3 := hno2 (by rw [hok5]; unfold inlOk; simp [h16])
          generalize (L.set k ⟨Os.set i (setTag x t), J, cc⟩).map ModT.enc = R1 at hk1 hR1l ⊢
          generalize (Os.set i (setTag x t)).map OpT.enc = OR at hk1 hx1 hO1l
          subst hK2
          subst hK
          simp [gok2, at_of gok2, gfi, at_of gfi, encI, hz, hk1, at_of hk1, hx1, at_of hx1, hR1l, hO1l, hkl, hil, h16, ans_if]
          exact ⟨.b (by kernel_rfl), bads hno3 ⟨_, rfl, by simp⟩⟩
        by_cases hw : 0 ≤ x.ref ∧ x.ref ≤ (ms.length : Int) - 1
        rotate_left
        · have hno3 := hno2 (by rw [hok5]; unfold inlOk; simp [h16, hw])
          rw [decide_eq_false hw] at hcw
          generalize (L.set k ⟨Os.set i (setTag x t), J, cc⟩).map ModT.enc = R1 at hk1 hR1l ⊢
          generalize (Os.set i (setTag x t)).map OpT.enc = OR at hk1 hx1 hO1l
          subst hK2
          subst hK
          simp [gok2, at_of gok2, gfi, at_of gfi, encI, hz, hk1, at_of hk1, hx1, at_of hx1, hR1l, hO1l, hkl, hil, h16, hwi, hcw, ans_if]
          exact ⟨.b (by kernel_rfl), bads hno3 ⟨_, rfl, by simp⟩⟩
        rw [decide_eq_true hw] at hcw
        obtain ⟨r, hre⟩ : ∃ r : Nat, x.ref = r := ⟨x.ref.toNat, by omega⟩
        have hrl : r < (L.set k ⟨Os.set i (setTag x t), J, cc⟩).length := by simp [hM.len]; omega
        have hrn : r < ms.length := by omega
        have hr1 : ((L.set k ⟨Os.set i (setTag x t), J, cc⟩).map ModT.enc)[r]? = some (((L.set k ⟨Os.set i (setTag x t), J, cc⟩)[r]).enc) := by rw [List.getElem?_map, List.getElem?_eq_getElem hrl]; rfl
        have hro : refOps (L.set k ⟨Os.set i (setTag x t), J, cc⟩) x.ref = ((L.set k ⟨Os.set i (setTag x t), J, cc⟩)[r]).ops := by
          unfold refOps
          rw [hre, Int.toNat_natCast, List.getElem?_eq_getElem hrl]
        have hrb := hSk.ref x.ref
        have hre0 := hSk.empty x.ref
        rw [hro] at hrb hre0
        have hrsm : ((L.set k ⟨Os.set i (setTag x t), J, cc⟩)[r]).ops.length ≤ 2 ^ 40 := by
          have h1 := congrArg List.length hrb
          simp only [List.length_map] at h1
          rw [h1]
          unfold refOps
          rw [hre, Int.toNat_natCast, List.getElem?_eq_getElem hrn]
          exact hr.small _ (List.getElem_mem hrn)
        rw [ModT.enc] at hr1
        generalize (L.set k ⟨Os.set i (setTag x t), J, cc⟩)[r] = mr at hr1 hrb hre0 hrsm
        obtain ⟨rops, rj, rc⟩ := mr
        dsimp only at hr1 hrb hre0 hrsm
        have hcb := c_impl_bareAll true rops hrsm
        simp only [cw] at hcb
        by_cases hem : rops = []
        · have hno3 := hno2 (by rw [hok5]; unfold inlOk; simp [cast hre0 hem])
          generalize (L.set k ⟨Os.set i (setTag x t), J, cc⟩).map ModT.enc = R1 at hk1 hR1l hr1 ⊢
          generalize (Os.set i (setTag x t)).map OpT.enc = OR at hk1 hx1 hO1l
          subst hK2
          subst hK
          rw [hre] at hx1 hcw
          simp [hem] at hr1
          simp [gok2, at_of gok2, gfi, at_of gfi, encI, hz, hk1, at_of hk1, hx1, at_of hx1, hR1l, hO1l, hkl, hil, h16, hwi, hcw, hr1, at_of hr1, hrn, ans_if]
          exact ⟨.b (by kernel_rfl), bads hno3 ⟨_, rfl, by simp⟩⟩
        · have hokx : inlOk ms x = true := by
            have hne : ¬ refOps ms x.ref = [] := fun h => hem (cast hre0.symm h)
            unfold inlOk; simp [h16, hne, hw.1, hw.2]
          have ih3 := ih3 (by rw [hok5, hokx])
          have hopL : (opL ms x f).enc = [.lit (.int .i64 x.num), .lit (.int .i64 x.kind), .lit (.int .i64 x.ref), .lit (.bool x.rep), .lit (.int .i64 x.oneof), .sl 1 (t.map encB), .lit (.bool x.quick), .lit (.int .i64 x.run), .sl 9 (opRows (rops.map bareOp))] := by
            rw [OpT.enc_eq]
            unfold opL inlL opRows
            rw [h8, if_pos rfl, ← ht, ← hrb]
            rfl
          rw [hopL] at hrw
          have hn0 : ∀ sh, nrmRows sh ((L.set k ⟨Os.set i (opL ms x f), J, cc⟩).map ModT.enc) = ((L.set k ⟨Os.set i (opL ms x f), J, cc⟩).map ModT.enc) := fun sh => nrm_encMod sh _
          simp only at ih3
          generalize (L.set k ⟨Os.set i (opL ms x f), J, cc⟩).map ModT.enc = RN at hrw hn0 ih3
          generalize (L.set k ⟨Os.set i (setTag x t), J, cc⟩).map ModT.enc = R1 at hk1 hR1l hr1 hrw ⊢
          generalize (Os.set i (setTag x t)).map OpT.enc = OR at hk1 hx1 hO1l hrw
          have hel : ¬ rops.length = 0 := fun h => hem (List.length_eq_zero_iff.mp h)
          generalize opRows (rops.map bareOp) = BR at hcb hrw
          rw [hre] at hx1 hcw hrw
          subst hK2
          simp [gok2, at_of gok2, gfi, at_of gfi, encI, hz, hk1, at_of hk1, hx1, at_of hx1, hR1l, hO1l, hkl, hil, h16, hwi, hcw, hr1, at_of hr1, hrn, hem, hcb, ans_if]
          rw [h16] at hrw
          refine ⟨.b (by kernel_rfl), drawOk_of [(10, 88)] [] ⟨⟨by kernel_rfl, by rfl⟩, trivial⟩ trivial (by kernel_rfl) (by kernel_rfl) [[], [], [1], [], [3], [4, 3], [5, 4, 3], [2, 1, 6, 5, 4, 3], [7, 2, 1, 6, 5, 4, 3], [8, 7, 2, 1, 6, 5, 4, 3], [9, 8, 7, 2, 1, 6, 5, 4, 3], [0, 1, 2, 3, 4, 5, 6, 7, 8, 9, 10], [11, 0, 1, 2, 3, 4, 5, 6, 7, 8, 9, 10], [12, 11, 0, 1, 2, 3, 4, 5, 6, 7, 8, 9, 10]] (by kernel_rfl) (by simp [pairsH, indepH, Res.dst, Res.rs, Res.tk, Res.rks, Qry.key, Res.cont, Res.okS, Res.out, apartL, S.isDead, S.ok, S.oks, stillV, stillP, rowOk]), ?_⟩
          exact ih3 _ (by simp [hrw, hn0, wrap_add i (show i < 2 ^ 62 by omega)])
    clear hc17
    have hx0 : x.enc = [.lit (.int .i64 x.num), .lit (.int .i64 x.kind), .lit (.int .i64 x.ref), .lit (.bool x.rep), .lit (.int .i64 x.oneof), .sl 1 [], .lit (.bool x.quick), .lit (.int .i64 x.run), .sl 9 []] := by
      rw [OpT.enc_eq, hpx.1, hpx.2]; rfl
    have hsetT : ∀ t : List Int, (setTag x t).enc = [.lit (.int .i64 x.num), .lit (.int .i64 x.kind), .lit (.int .i64 x.ref), .lit (.bool x.rep), .lit (.int .i64 x.oneof), .sl 1 (t.map encB), .lit (.bool x.quick), .lit (.int .i64 x.run), .sl 9 []] := fun t => by rw [OpT.enc_eq]; rfl
    have hct := c_impl_tagOf true x
    simp only [cw, hx0] at hct
    rw [hx0] at hOx
    have hrT := fun t => hrows (setTag x t)
    simp only [hsetT] at hrT
    cases h4 : bit f 4 with
    | false =>
      have hz := hb4.mpr h4
      have T17 := T17 [] (by unfold tagL; rw [h4]; rfl) (by simp [h4])
      rw [hxs, ← hR1] at T17
      clear hrT hrows hR1
      generalize Os.map OpT.enc = OR at hk0 hk0' hOx hORl
      simp [hk0, hk0', hRl, hkl, hOx, at_of hOx, hORl, hil, gok2, at_of gok2, gfi, at_of gfi, encI, hz]
      exact T17 _ (by simp)
    | true =>
      have hz : ¬ bits .and .i64 f 4 = 0 := fun h => by rw [hb4.mp h] at h4; cases h4
      by_cases htt : tagT x = []
      · rw [if_pos htt] at hct
        have hno3 := hno2 (by unfold okOp; simp [h4, htt])
        clear hR1
        generalize Os.map OpT.enc = OR at hk0 hk0' hOx hORl
        subst hK2
        subst hK
        simp [hk0, hk0', hRl, hkl, hOx, at_of hOx, hORl, hil, gok2, at_of gok2, gfi, at_of gfi, encI, hz, hct]
        exact bads hno3 ⟨_, rfl, by simp⟩
      · rw [if_neg htt] at hct
        have T17 := T17 (tagT x) (by unfold tagL; rw [h4]; rfl) (fun _ => htt)
        rw [← hrT] at T17
        have htl : ¬ (tagT x).length = 0 := fun h => htt (List.length_eq_zero_iff.mp h)
        clear hrT hrows
        generalize tagT x = t at hct T17 htl
        clear hR1
        generalize Os.map OpT.enc = OR at hk0 hk0' hOx hORl T17
        simp [hk0, hk0', hRl, hkl, hOx, at_of hOx, hORl, hil, gok2, at_of gok2, gfi, at_of gfi, encI, hz, hct, htl]
        exact T17 _ (by simp)
  clear hc9
  have hset : ∀ J : List Int, (L.map ModT.enc).set k [.sl 9 (ops.map OpT.enc), .sl 1 (J.map encI), .lit (.bool cc)] = (L.set k ⟨ops, J, cc⟩).map ModT.enc := fun J => by simp [List.map_set, ModT.enc]
  have hk0 : (L.map ModT.enc)[k]? = some [.sl 9 (ops.map OpT.enc), .sl 1 [], .lit (.bool cc)] := by simp [hLk, ModT.enc, hrest]
  have hk0' := at_of hk0
  have hRl : (L.map ModT.enc).length = ms.length := by simp [hM.len]
  have hsame : (L.set k ⟨ops, [], cc⟩).map ModT.enc = L.map ModT.enc := by
    have : L.set k ⟨ops, [], cc⟩ = L := by
      apply List.ext_getElem
      · simp
      · intro q h1 h2
        by_cases hq : k = q
        · subst hq; rw [List.getElem_set_self, hrest]
        · rw [List.getElem_set_ne hq]
    rw [this]
  have hcj := c_impl_jumpsOf0 true ⟨ops, [], cc⟩ hsm hnum
  simp only [cw, ModT.enc] at hcj
  generalize L.map ModT.enc = R at hset hk0 hk0' hRl hsame ⊢
  cases hb : bit j 1 with
  | false =>
    have hb0 := (hbk j).mpr hb
    have T9 := T9 [] (by simp [hb]) (by simp [hb])
    rw [hsame] at T9
    simp [gk, at_of gk, hk0, hk0', hRl, hkl, encI, hb0]
    exact T9 _ (by simp)
  | true =>
    have hb0 : ¬ bits .and .i64 j 1 = 0 := fun h => by rw [(hbk j).mp h] at hb; cases hb
    by_cases hjt : jumpsT ops = []
    · rw [if_pos hjt] at hcj
      have hno := hnoj hb hjt
      subst hK
      simp at hcj
      simp [gk, at_of gk, hk0, hk0', hRl, hkl, encI, hb0, hcj]
      exact bads hno ⟨_, rfl, by simp⟩
    · rw [if_neg hjt] at hcj
      have T9 := T9 (jumpsT ops) (by simp [hb]) (fun _ => hjt)
      rw [← hset] at T9
      have hjl : ¬ (jumpsT ops).length = 0 := fun h => hjt (List.length_eq_zero_iff.mp h)
      simp at hcj
      generalize jumpsT ops = J at hcj T9 hjl
      simp [gk, at_of gk, hk0, hk0', hRl, hkl, encI, hb0, hcj, hjl]
      exact T9 _ (by simp)
end Go.Proofs.YtckojpaklblnpaaGreatDoor.Th
