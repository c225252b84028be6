/- Texts of IRs read, by the reference. -/
import Derived.Test.YtckojpaklblnpaaGreatDoorKG1
import Derived.Test.YtckojpaklblnpaaGreatDoorKG7
import Derived.Test.YtckojpaklblnpaaGreatDoorKPa9
set_option linter.unusedVariables false
set_option linter.unusedSimpArgs false
set_option maxRecDepth 10000
set_option maxHeartbeats 2000000
namespace Go.Proofs.YtckojpaklblnpaaGreatDoor.Th
open Go Go.RowKit Go.Proofs.YtckojpaklblnpaaGreatDoor.Ev
theorem c_spec_ParseIr (text : List UInt8) (h : text.length ≤ 2 ^ 20) : cw f_spec_ParseIr [.lit (.string (str text))] [] = ansI (parseS text) := by
  refine callW_run (by simp) fs_spec_ParseIr rfl rfl rfl ?_
  have fS := c_spec_l18Lines text (by omega)
  have hll := linesOf_len text
  have hlm := linesOf_mem text
  unfold parseS
  by_cases h2 : 200000 < text.length
  · have h2' : (200000 : Int) < (text.length : Int) := by omega
    rw [if_pos h2]
    simp [h2, h2']
  have h2' : ¬ (200000 : Int) < (text.length : Int) := by omega
  rw [if_neg h2]
  generalize linesOf text = L at fS hll hlm ⊢
  have gL : ∀ i (hi : i < L.length), (strRows L)[i]? = some [.lit (.string (str L[i]))] := fun i hi => by
    unfold strRows
    rw [List.getElem?_map, List.getElem?_eq_getElem hi]
    rfl
  have hLN : (strRows L).length = L.length := by simp
  have hL20 : L.length ≤ 2 ^ 21 := by omega
  have hLm : ∀ w ∈ L, w.length ≤ 2 ^ 20 := fun w hw => by have := hlm w hw; omega
  generalize strRows L = LN at fS gL hLN
  clear hll hlm
  simp only [cw] at fS
  generalize hF : finS text (runL stepS L ([], [], [])) = F
  simp [fS, h2, h2']
  refine Mc.loop_ind (α := Nat × StS) _ _ _ _ (fun a => I_spec_ParseIr_0 (.lit (.string (str text))) (.ptr 80 [(0, 0)] 0) (.vw 96 [] 0 1 false) (.ptr 104 [(0, 0)] 0) (.vw 112 [] 0 1 false) (.vw 120 [] 0 1 false) (.lit (.int .i64 a.1)) [(80, boxN), (96, { cells := [.ow (.sl 1 LN)], var := true }), (104, boxL (a.2.1.map modRaw)), (112, { cells := [.ow (.sl 1 (a.2.2.1.map encBo))], var := true }), (120, { cells := [.ow (.sl 1 (a.2.2.2.map (encS 1 encI)))], var := true })]) (fun a => L.length - a.1) (fun a => a.1 ≤ L.length ∧ RawS false a.1 (a.2.1, a.2.2.1.map b2i, a.2.2.2) ∧ finS text (runL stepS (L.drop a.1) a.2) = F) (0, ([], [], [])) _ (by simp) ⟨by simp, RawS.nil, hF⟩ ?_
  clear hF
  intro ⟨i, ms, jb, fo⟩ ⟨hi, hraw, hF⟩ ih
  dsimp only at hi hraw hF
  have hlen := hraw.len
  dsimp only at hlen
  by_cases hil : i < L.length
  rotate_left
  · have hie : i = L.length := by omega
    subst hie
    rw [List.drop_length] at hF
    simp only [runL, finS] at hF
    have hr := hraw.raw (by omega)
    dsimp only at hr
    obtain ⟨v, os, hc, hq⟩ := c_spec_l11Layout true true ms jb fo hr
    obtain ⟨hs1, hs2⟩ := small_layL (st := false) hr
    have hci := c_spec_IrOk true (layL false ms (jb.map b2i) fo) hs1 hs2
    have hcp := c_spec_PrintIr true (layL false ms (jb.map b2i) fo) hs1 hs2
    simp only [cw, encM] at hc hci hcp
    rcases hq with ⟨hok, rfl, rfl⟩ | ⟨hbad, rfl, c, hcl, rfl⟩
    rotate_left
    · rw [if_neg (fun hh => hbad hh.1)] at hF
      subst hF
      generalize ms.map modRaw = R at hc ⊢
      generalize jb.map encBo = JB at hc ⊢
      generalize fo.map (encS 1 encI) = FO at hc ⊢
      simp [hLN, hc, hcl]
    simp only [Bool.false_eq_true, if_false] at hc
    have n4 : ∀ sh, nrmRows sh ((layL false ms (jb.map b2i) fo).map ModT.enc) = (layL false ms (jb.map b2i) fo).map ModT.enc := fun sh => nrm_encMod sh _
    generalize ms.map modRaw = R at hc ⊢
    generalize jb.map encBo = JB at hc ⊢
    generalize fo.map (encS 1 encI) = FO at hc ⊢
    cases hsb : specB (layL false ms (jb.map b2i) fo) with
    | false =>
      rw [if_neg (fun hh => by rw [hsb] at hh; cases hh.2.1)] at hF
      subst hF
      rw [hsb] at hci
      generalize (layL false ms (jb.map b2i) fo).map ModT.enc = R2 at hc hci n4
      simp [hLN, hc, hci, n4]
    | true =>
      rw [hsb] at hci hcp
      rw [if_pos rfl] at hcp
      by_cases ht : prN (layL false ms (jb.map b2i) fo) (layL false ms (jb.map b2i) fo).length = text
      · rw [if_pos ⟨hok, hsb, ht⟩] at hF
        subst hF
        rw [ht] at hcp
        dsimp only
        generalize (layL false ms (jb.map b2i) fo).map ModT.enc = R2 at hc hci hcp n4 ⊢
        simp [hLN, hc, hci, hcp, n4]
      · rw [if_neg (fun hh => ht hh.2.2)] at hF
        subst hF
        generalize (layL false ms (jb.map b2i) fo).map ModT.enc = R2 at hc hci hcp n4
        generalize prN (layL false ms (jb.map b2i) fo) (layL false ms (jb.map b2i) fo).length = pt at ht hcp
        simp [hLN, hc, hci, hcp, ht, n4]
  have hl20 := hLm L[i] (List.getElem_mem hil)
  have gi := gL i hil
  have hd : L.drop i = L[i] :: L.drop (i + 1) := List.drop_eq_getElem_cons hil
  rw [hd] at hF
  clear hd gL
  generalize L[i] = l at hl20 gi hF
  have hil' : (i : Int) < (L.length : Int) := by omega
  have fW := c_spec_l20Words l (by omega)
  have hw1 := wordsOf_len l
  have hw2 := wordsOf_mem l
  have fR := c_spec_l20Read true (wordsOf l) (by omega) (fun w hw => by have := hw2 w hw; omega)
  have hplain := readR_plain (wordsOf l)
  simp only [runL, stepS] at hF
  have hMl : (ms.map modRaw).length = ms.length := List.length_map _
  generalize wordsOf l = ws at fW fR hF hw1 hw2 hplain
  have fR : cw f_spec_l20Read [.val true (.sl 1 (strRows ws))] [] = readFin (readR ws) := fR
  simp only [cw] at fW fR
  cases ws with
  | nil =>
    have hWl : (strRows []).length = 0 := rfl
    dsimp only at hF
    generalize strRows [] = W at fW fR hWl
    by_cases h0 : ms.length = 0
    · rw [if_pos (.inl h0)] at hF
      simp only [finS] at hF
      subst hF
      rw [h0] at hMl
      generalize ms.map modRaw = R at hMl ⊢
      simp [hil, hil', gi, at_of gi, hLN, hMl, fW, hWl]
    by_cases h30 : 30 < ms.length
    · have h30' : (30 : Int) < (ms.length : Int) := by omega
      rw [if_pos (.inr (.inl h30))] at hF
      simp only [finS] at hF
      subst hF
      generalize ms.map modRaw = R at hMl ⊢
      simp [hil, hil', gi, at_of gi, hLN, hMl, h0, h30, h30', fW, hWl]
    have h30' : ¬ (30 : Int) < (ms.length : Int) := by omega
    obtain ⟨k, hk⟩ : ∃ k, ms.length = k + 1 := ⟨ms.length - 1, by omega⟩
    have hkm : k < ms.length := by omega
    have hfo := hraw.hfo
    dsimp only at hfo
    have hkf : k < fo.length := by omega
    have hlo : lastOps ms = ms[k].ops.length := by
      unfold lastOps
      rw [show ms.length - 1 = k by omega, List.getElem?_eq_getElem hkm]
    have hjm := hraw.jumps ms[k] (List.getElem_mem hkm)
    have hsm := hraw.small ms[k] (List.getElem_mem hkm)
    have hofk := hraw.ops k hkm hkf
    dsimp only at hofk
    have hRk : (ms.map modRaw)[k]? = some [.sl 9 (ms[k].ops.map fun x => rowX x 0 [] 0 []), .sl 1 [], .lit (.bool ms[k].cached)] := by
      rw [List.getElem?_map, List.getElem?_eq_getElem hkm]
      rfl
    have hol : (ms[k].ops.map fun x => rowX x 0 [] 0 []).length = ms[k].ops.length := List.length_map _
    have wk2 : ((k : Int) + 1 - 1) = (k : Int) := by omega
    have wk3 : IntKind.wrap .i64 (k : Int) = (k : Int) := i64_wrap (by omega) (by omega)
    have wk4 : IntKind.wrap .i64 ((k : Int) + 1 - 1) = (k : Int) := by rw [wk2]; exact wk3
    have hkk : k < k + 1 := by omega
    have hk0 : ¬ ((k : Int) + 1 = 0) := by omega
    have hk30 : ¬ (30 : Int) < (k : Int) + 1 := by omega
    have hk30' : ¬ 30 < k + 1 := by omega
    have hk1 : (k : Int) < (k : Int) + 1 := by omega
    by_cases h40 : 40 < ms[k].ops.length
    · have h40' : (40 : Int) < (ms[k].ops.length : Int) := by omega
      rw [if_pos (.inr (.inr (by rw [hlo]; exact h40)))] at hF
      simp only [finS] at hF
      subst hF
      rw [hk] at hMl
      generalize ms.map modRaw = R at hMl hRk ⊢
      generalize (ms[k].ops.map fun x => rowX x 0 [] 0 []) = OR at hRk hol
      simp [hil, hil', gi, at_of gi, hLN, hMl, hk0, hk30, hk30', wk2, wk3, wk4, hRk, at_of hRk, hkk, hk1, hol, h40, h40', fW, hWl]
    have h40' : ¬ (40 : Int) < (ms[k].ops.length : Int) := by omega
    rw [if_neg (by rw [hlo]; omega)] at hF
    have hraw' := hraw.op (readR []).1 (flg (readR []).2.1 (readR []).2.2) hplain (fun h => by cases h)
    dsimp only at hraw'
    unfold readFin at fR
    generalize (readR []).1 = x at fR hF hraw' hplain
    generalize flg (readR []).2.1 (readR []).2.2 = f at fR hF hraw'
    have m1 : (addOp ms x).map modRaw = (ms.map modRaw).set k [.sl 9 ((ms[k].ops.map fun x => rowX x 0 [] 0 []) ++ [rowX x 0 [] 0 []]), .sl 1 [], .lit (.bool ms[k].cached)] := by
      unfold addOp
      rw [show ms.length - 1 = k by omega, List.getElem?_eq_getElem hkm]
      simp [List.map_set, modRaw]
    have m3 : (addF fo f).map (encS 1 encI) = (fo.map (encS 1 encI)).set k [.sl 1 (fo[k].map encI ++ [[.lit (.int .i64 f)]])] := by
      unfold addF
      rw [show fo.length - 1 = k by omega, List.getElem?_eq_getElem hkf]
      simp [List.map_set, encS, encI]
    have hFk : (fo.map (encS 1 encI))[k]? = some [.sl 1 (fo[k].map encI)] := by
      rw [List.getElem?_map, List.getElem?_eq_getElem hkf]
      rfl
    have hfl : (fo[k].map encI).length = ms[k].ops.length := by rw [List.length_map, hofk]
    have hbm : (ms[k].ops.length + 1) * 104 ≤ maxBytes := by unfold maxBytes; omega
    have hbm2 : (ms[k].ops.length + 1) * 8 ≤ maxBytes := by unfold maxBytes; omega
    have hFo : (fo.map (encS 1 encI)).length = k + 1 := by simp [hfo, hk]
    have nR := nrm_raw ms
    have nFO : ∀ sh, nrmRows sh (fo.map (encS 1 encI)) = fo.map (encS 1 encI) := fun sh => nrm_encIs sh _
    have nJB := nrm_encBo jb
    have nFK : ∀ sh, nrmRows sh (fo[k].map encI) = fo[k].map encI := fun sh => nrm_encI sh _
    have ih' := ih (i + 1, (addOp ms x, jb, addF fo f))
    dsimp only at ih'
    rw [m1, m3] at ih'
    clear m1 m3 hofk hsm hjm hraw hlo
    rw [hk] at hMl
    generalize ms[k].cached = cc at ih' hRk
    generalize (ms[k].ops.map fun x => rowX x 0 [] 0 []) = OR at ih' hRk hol
    generalize fo[k].map encI = FK at ih' hFk hfl nFK
    generalize ms[k].ops.length = no at hol hfl hbm hbm2 h40 h40'
    obtain ⟨R, hR⟩ : ∃ R, R = ms.map modRaw := ⟨_, rfl⟩
    obtain ⟨FO, hFO⟩ : ∃ FO, FO = fo.map (encS 1 encI) := ⟨_, rfl⟩
    obtain ⟨JB, hJB⟩ : ∃ JB, JB = jb.map encBo := ⟨_, rfl⟩
    rw [← hR, ← hFO, ← hJB] at ih' ⊢
    rw [← hR] at hMl hRk nR
    rw [← hFO] at hFk hFo
    rw [← hJB] at nJB
    simp only [← hFO] at nFO
    clear hR hFO hJB
    obtain ⟨R2, hR2⟩ : ∃ R2, R2 = R.set k [.sl 9 (OR ++ [rowX x 0 [] 0 []]), .sl 1 [], .lit (.bool cc)] := ⟨_, rfl⟩
    obtain ⟨FO2, hFO2⟩ : ∃ FO2, FO2 = FO.set k [.sl 1 (FK ++ [[.lit (.int .i64 f)]])] := ⟨_, rfl⟩
    rw [← hR2, ← hFO2] at ih'
    have hR2l : R2.length = k + 1 := by rw [hR2]; simp [hMl]
    have hF2l : FO2.length = k + 1 := by rw [hFO2]; simp [hFo]
    simp [hil, hil', gi, at_of gi, hLN, hMl, hk0, hk30, hk30', wk2, wk3, wk4, hRk, at_of hRk, hkk, hk1, hol, h40, h40', fR, fW, hWl]
    refine ⟨by kernel_rfl, ?_⟩
    refine (Mc.at_yn _ _ _ _ _ (K_spec_ParseIr_20 (.lit (.string (str text))) (.ptr 80 [(0, 0)] 0) (.vw 96 [] 0 1 false) (.ptr 104 [(0, 0)] 0) (.vw 112 [] 0 1 false) (.vw 120 [] 0 1 false) (.lit (.int .i64 i)) (.lit (.int .i64 (k + 1))) (.lit (.int .i64 f)) [(80, boxN), (96, { cells := [.ow (.sl 1 LN)], var := true }), (104, boxL R2), (112, { cells := [.ow (.sl 1 JB)], var := true }), (120, { cells := [.ow (.sl 1 FO)], var := true })]) ?_ ?_).trans ?_
    · clear ih'
      simp [hMl, wk2, wk3, wk4, hRk, at_of hRk, hkk, hk1, hol, hbm, app_effG, ownedRows_set]
      exact ⟨drawOk_of [] [(14, 1)] trivial ⟨sees1 (by kernel_rfl) (by simp [hMl, hRk, at_of hRk, hkk, hol]), trivial⟩ (by kernel_rfl) (by kernel_rfl) [[], [0], [], [2], [], [4], [], [6], [5, 4, 7, 6], [8, 5, 4, 7, 6], [9, 8, 5, 4, 7, 6], [], [10, 9, 8, 5, 4, 7, 6], [], [10, 9, 8, 5, 4, 7, 6, 13, 0, 1, 2, 3, 11, 12], [1, 0, 3, 2, 4, 5, 6, 7, 8, 9, 10, 11, 12, 13, 14], [15, 1, 0, 3, 2, 4, 5, 6, 7, 8, 9, 10, 11, 12, 13, 14], [16, 15, 1, 0, 3, 2, 4, 5, 6, 7, 8, 9, 10, 11, 12, 13, 14]] (by kernel_rfl) (by simp [pairsH, indepH, Res.dst, Res.rs, Res.tk, Res.rks, Qry.key, Res.cont, Res.okS, Res.out, apartL, S.isDead, S.ok, S.oks, stillV, stillP, rowOk]), Mc.ret_test _ _ _ _ _ (by simp [joinAt, hR2, Sh.same, nrmCRows_same, nrmCRows_set, nrmCRows_nil, ownedRows_app, ownedRows_set, hMl, hkk, rowX])⟩
    · clear ih'
      simp [hMl, wk2, wk3, wk4, hRk, at_of hRk, hkk, hk1, hol, hbm, app_effG, ownedRows_set]
      exact ⟨drawOk_of [] [(13, 1)] trivial ⟨sees1 (by kernel_rfl) (by simp [hMl, hRk, at_of hRk, hkk, hol]), trivial⟩ (by kernel_rfl) (by kernel_rfl) [[], [0], [], [2], [], [4], [], [6], [5, 4, 7, 6], [8, 5, 4, 7, 6], [9, 8, 5, 4, 7, 6], [], [11], [10, 9, 8, 5, 4, 7, 6, 12, 11], [1, 0, 3, 2, 4, 5, 6, 7, 8, 9, 10, 11, 12, 13], [14, 1, 0, 3, 2, 4, 5, 6, 7, 8, 9, 10, 11, 12, 13], [15, 14, 1, 0, 3, 2, 4, 5, 6, 7, 8, 9, 10, 11, 12, 13]] (by kernel_rfl) (by simp [pairsH, indepH, Res.dst, Res.rs, Res.tk, Res.rks, Qry.key, Res.cont, Res.okS, Res.out, apartL, S.isDead, S.ok, S.oks, stillV, stillP, rowOk]), Mc.ret_test _ _ _ _ _ (by simp [joinAt, hR2, Sh.same, nrmCRows_same, nrmCRows_set, nrmCRows_nil, ownedRows_app, ownedRows_set, hMl, hkk, rowX])⟩
    · simp [hF2l, hFo, wk2, wk3, wk4, hFk, at_of hFk, hkk, hk1, hfl, hbm2]
      exact ih' _ (by simp [hR2, hFO2, nrmCRows_set, nrmCRows_ow, nrmCRows_nil, ownedRows_set, nrmRows_append, nrmRows_set, nrmRows_nil, nR, nJB, nFO, nFK, hMl, hFo, hkk, wrap_add i (show i < 2 ^ 62 by omega), rowX]) ⟨by omega, hraw', hF⟩ (by omega)
  | cons w r =>
    have hWl : (strRows (w :: r)).length = r.length + 1 := by simp
    have gw : (strRows (w :: r))[0]? = some [.lit (.string (str w))] := rfl
    by_cases hmod : w = [109, 111, 100]
    · have hgl : (strRows (w :: r))[r.length]? = some [.lit (.string (str ((w :: r).getLast (by simp))))] := by
        unfold strRows
        rw [List.getElem?_map, List.getLast_eq_getElem, List.getElem?_eq_getElem (by simp)]
        rfl
      have hg2 : 2 < (w :: r).length → (strRows (w :: r))[2]? = some [.lit (.string (str ((w :: r).getD 2 [])))] := fun h => by
        unfold strRows
        rw [List.getElem?_map, List.getD_eq_getElem?_getD, List.getElem?_eq_getElem h]
        rfl
      dsimp only at hF
      rw [if_pos hmod] at hF
      simp only [List.length_cons] at hF hg2 hw1
      generalize (w :: r).getLast (by simp) = lw at hF hgl
      generalize (w :: r).getD 2 [] = w2 at hF hg2
      generalize strRows (w :: r) = W at fW fR hWl gw hgl hg2
      have hraw' := hraw.modS (decide (lw = [99, 97, 99, 104, 101, 100])) (decide (2 < r.length + 1) && decide (w2 = [106, 117, 109, 112, 115]))
      have hbm : (ms.length + 1) * 56 ≤ maxBytes := by unfold maxBytes; omega
      have hfl := hraw.hfl
      have hfo := hraw.hfo
      dsimp only at hfl hfo
      have hFl : (jb.map encBo).length = ms.length := by rw [List.length_map] at hfl ⊢; exact hfl
      have hFo : (fo.map (encS 1 encI)).length = ms.length := by simp [hfo]
      have hbm2 : ms.length + 1 ≤ maxBytes := by unfold maxBytes; omega
      have hbm3 : (ms.length + 1) * 24 ≤ maxBytes := by unfold maxBytes; omega
      have nR := nrm_raw ms
      have nFO : ∀ sh, nrmRows sh (fo.map (encS 1 encI)) = fo.map (encS 1 encI) := fun sh => nrm_encIs sh _
      have nJB := nrm_encBo jb
      have ih' := ih (i + 1, addModS (ms, jb, fo) (decide (lw = [99, 97, 99, 104, 101, 100])) (decide (2 < r.length + 1) && decide (w2 = [106, 117, 109, 112, 115])))
      dsimp only at ih'
      have m1 : (addModS (ms, jb, fo) (decide (lw = [99, 97, 99, 104, 101, 100])) (decide (2 < r.length + 1) && decide (w2 = [106, 117, 109, 112, 115]))).1.map modRaw = ms.map modRaw ++ [[.sl 9 [], .sl 1 [], .lit (.bool (decide (lw = [99, 97, 99, 104, 101, 100])))]] := by simp [addModS, modRaw]
      have m2 : (addModS (ms, jb, fo) (decide (lw = [99, 97, 99, 104, 101, 100])) (decide (2 < r.length + 1) && decide (w2 = [106, 117, 109, 112, 115]))).2.1.map encBo = jb.map encBo ++ [[.lit (.bool (decide (2 < r.length + 1) && decide (w2 = [106, 117, 109, 112, 115])))]] := by simp [addModS, encBo]
      have m3 : (addModS (ms, jb, fo) (decide (lw = [99, 97, 99, 104, 101, 100])) (decide (2 < r.length + 1) && decide (w2 = [106, 117, 109, 112, 115]))).2.2.map (encS 1 encI) = fo.map (encS 1 encI) ++ [[.sl 1 []]] := by simp [addModS, encS]
      rw [m1, m2, m3] at ih'
      clear m1 m2 m3 hraw hlen
      generalize ms.map modRaw = R at ih' hMl nR ⊢
      generalize jb.map encBo = JB at ih' hFl nJB ⊢
      generalize fo.map (encS 1 encI) = FO at ih' hFo nFO ⊢
      have wr : IntKind.wrap .i64 ((r.length : Int) + 1 - 1) = (r.length : Int) := by rw [i64_wrap (by omega) (by omega)]; omega
      have wr' : ((r.length : Int) + 1 - 1) = (r.length : Int) := by omega
      have wr2 : IntKind.wrap .i64 (r.length : Int) = (r.length : Int) := i64_wrap (by omega) (by omega)
      have hr1 : r.length < r.length + 1 := by omega
      by_cases h3 : 2 < r.length + 1
      · have h3' : (2 : Int) < (r.length : Int) + 1 := by omega
        have hg2 := hg2 h3
        simp [hil, hil', gi, at_of gi, hLN, hMl, hFl, hFo, fW, hWl, gw, at_of gw, hmod, hgl, at_of hgl, hg2, at_of hg2, wr, wr', wr2, hr1, h3, h3', hbm, hbm2, hbm3, encW]
        refine ⟨.b (by kernel_rfl), ?_⟩
        exact ih' _ (by simp [nrmRows_append, nR, nJB, nFO, wrap_add i (show i < 2 ^ 62 by omega), h3]) ⟨by omega, hraw', hF⟩ (by omega)
      · have h3' : ¬ (2 : Int) < (r.length : Int) + 1 := by omega
        simp [hil, hil', gi, at_of gi, hLN, hMl, hFl, hFo, fW, hWl, gw, at_of gw, hmod, hgl, at_of hgl, wr, wr', wr2, hr1, h3, h3', hbm, hbm2, hbm3, encW]
        refine ⟨.b (by kernel_rfl), ?_⟩
        exact ih' _ (by simp [nrmRows_append, nR, nJB, nFO, wrap_add i (show i < 2 ^ 62 by omega), h3]) ⟨by omega, hraw', hF⟩ (by omega)
    · dsimp only at hF
      rw [if_neg hmod] at hF
      generalize strRows (w :: r) = W at fW fR hWl gw
      by_cases h0 : ms.length = 0
      · rw [if_pos (.inl h0)] at hF
        simp only [finS] at hF
        subst hF
        rw [h0] at hMl
        generalize ms.map modRaw = R at hMl ⊢
        simp [hil, hil', gi, at_of gi, hLN, hMl, fW, hWl, gw, at_of gw, hmod]
      by_cases h30 : 30 < ms.length
      · have h30' : (30 : Int) < (ms.length : Int) := by omega
        rw [if_pos (.inr (.inl h30))] at hF
        simp only [finS] at hF
        subst hF
        generalize ms.map modRaw = R at hMl ⊢
        simp [hil, hil', gi, at_of gi, hLN, hMl, h0, h30, h30', fW, hWl, gw, at_of gw, hmod]
      have h30' : ¬ (30 : Int) < (ms.length : Int) := by omega
      obtain ⟨k, hk⟩ : ∃ k, ms.length = k + 1 := ⟨ms.length - 1, by omega⟩
      have hkm : k < ms.length := by omega
      have hfo := hraw.hfo
      dsimp only at hfo
      have hkf : k < fo.length := by omega
      have hlo : lastOps ms = ms[k].ops.length := by
        unfold lastOps
        rw [show ms.length - 1 = k by omega, List.getElem?_eq_getElem hkm]
      have hjm := hraw.jumps ms[k] (List.getElem_mem hkm)
      have hsm := hraw.small ms[k] (List.getElem_mem hkm)
      have hofk := hraw.ops k hkm hkf
      dsimp only at hofk
      have hRk : (ms.map modRaw)[k]? = some [.sl 9 (ms[k].ops.map fun x => rowX x 0 [] 0 []), .sl 1 [], .lit (.bool ms[k].cached)] := by
        rw [List.getElem?_map, List.getElem?_eq_getElem hkm]
        rfl
      have hol : (ms[k].ops.map fun x => rowX x 0 [] 0 []).length = ms[k].ops.length := List.length_map _
      have wk2 : ((k : Int) + 1 - 1) = (k : Int) := by omega
      have wk3 : IntKind.wrap .i64 (k : Int) = (k : Int) := i64_wrap (by omega) (by omega)
      have wk4 : IntKind.wrap .i64 ((k : Int) + 1 - 1) = (k : Int) := by rw [wk2]; exact wk3
      have hkk : k < k + 1 := by omega
      have hk0 : ¬ ((k : Int) + 1 = 0) := by omega
      have hk30 : ¬ (30 : Int) < (k : Int) + 1 := by omega
      have hk30' : ¬ 30 < k + 1 := by omega
      have hk1 : (k : Int) < (k : Int) + 1 := by omega
      by_cases h40 : 40 < ms[k].ops.length
      · have h40' : (40 : Int) < (ms[k].ops.length : Int) := by omega
        rw [if_pos (.inr (.inr (by rw [hlo]; exact h40)))] at hF
        simp only [finS] at hF
        subst hF
        rw [hk] at hMl
        generalize ms.map modRaw = R at hMl hRk ⊢
        generalize (ms[k].ops.map fun x => rowX x 0 [] 0 []) = OR at hRk hol
        simp [hil, hil', gi, at_of gi, hLN, hMl, hk0, hk30, hk30', wk2, wk3, wk4, hRk, at_of hRk, hkk, hk1, hol, h40, h40', fW, hWl, gw, at_of gw, hmod]
      have h40' : ¬ (40 : Int) < (ms[k].ops.length : Int) := by omega
      rw [if_neg (by rw [hlo]; omega)] at hF
      have hraw' := hraw.op (readR (w :: r)).1 (flg (readR (w :: r)).2.1 (readR (w :: r)).2.2) hplain (fun h => by cases h)
      dsimp only at hraw'
      unfold readFin at fR
      generalize (readR (w :: r)).1 = x at fR hF hraw' hplain
      generalize flg (readR (w :: r)).2.1 (readR (w :: r)).2.2 = f at fR hF hraw'
      have m1 : (addOp ms x).map modRaw = (ms.map modRaw).set k [.sl 9 ((ms[k].ops.map fun x => rowX x 0 [] 0 []) ++ [rowX x 0 [] 0 []]), .sl 1 [], .lit (.bool ms[k].cached)] := by
        unfold addOp
        rw [show ms.length - 1 = k by omega, List.getElem?_eq_getElem hkm]
        simp [List.map_set, modRaw]
      have m3 : (addF fo f).map (encS 1 encI) = (fo.map (encS 1 encI)).set k [.sl 1 (fo[k].map encI ++ [[.lit (.int .i64 f)]])] := by
        unfold addF
        rw [show fo.length - 1 = k by omega, List.getElem?_eq_getElem hkf]
        simp [List.map_set, encS, encI]
      have hFk : (fo.map (encS 1 encI))[k]? = some [.sl 1 (fo[k].map encI)] := by
        rw [List.getElem?_map, List.getElem?_eq_getElem hkf]
        rfl
      have hfl : (fo[k].map encI).length = ms[k].ops.length := by rw [List.length_map, hofk]
      have hbm : (ms[k].ops.length + 1) * 104 ≤ maxBytes := by unfold maxBytes; omega
      have hbm2 : (ms[k].ops.length + 1) * 8 ≤ maxBytes := by unfold maxBytes; omega
      have hFo : (fo.map (encS 1 encI)).length = k + 1 := by simp [hfo, hk]
      have nR := nrm_raw ms
      have nFO : ∀ sh, nrmRows sh (fo.map (encS 1 encI)) = fo.map (encS 1 encI) := fun sh => nrm_encIs sh _
      have nJB := nrm_encBo jb
      have nFK : ∀ sh, nrmRows sh (fo[k].map encI) = fo[k].map encI := fun sh => nrm_encI sh _
      have ih' := ih (i + 1, (addOp ms x, jb, addF fo f))
      dsimp only at ih'
      rw [m1, m3] at ih'
      clear m1 m3 hofk hsm hjm hraw hlo
      rw [hk] at hMl
      generalize ms[k].cached = cc at ih' hRk
      generalize (ms[k].ops.map fun x => rowX x 0 [] 0 []) = OR at ih' hRk hol
      generalize fo[k].map encI = FK at ih' hFk hfl nFK
      generalize ms[k].ops.length = no at hol hfl hbm hbm2 h40 h40'
      obtain ⟨R, hR⟩ : ∃ R, R = ms.map modRaw := ⟨_, rfl⟩
      obtain ⟨FO, hFO⟩ : ∃ FO, FO = fo.map (encS 1 encI) := ⟨_, rfl⟩
      obtain ⟨JB, hJB⟩ : ∃ JB, JB = jb.map encBo := ⟨_, rfl⟩
      rw [← hR, ← hFO, ← hJB] at ih' ⊢
      rw [← hR] at hMl hRk nR
      rw [← hFO] at hFk hFo
      rw [← hJB] at nJB
      simp only [← hFO] at nFO
      clear hR hFO hJB
      obtain ⟨R2, hR2⟩ : ∃ R2, R2 = R.set k [.sl 9 (OR ++ [rowX x 0 [] 0 []]), .sl 1 [], .lit (.bool cc)] := ⟨_, rfl⟩
      obtain ⟨FO2, hFO2⟩ : ∃ FO2, FO2 = FO.set k [.sl 1 (FK ++ [[.lit (.int .i64 f)]])] := ⟨_, rfl⟩
      rw [← hR2, ← hFO2] at ih'
      have hR2l : R2.length = k + 1 := by rw [hR2]; simp [hMl]
      have hF2l : FO2.length = k + 1 := by rw [hFO2]; simp [hFo]
      simp [hil, hil', gi, at_of gi, hLN, hMl, hk0, hk30, hk30', wk2, wk3, wk4, hRk, at_of hRk, hkk, hk1, hol, h40, h40', fR, fW, hWl, gw, at_of gw, hmod]
      refine ⟨by kernel_rfl, ?_⟩
      refine (Mc.at_yn _ _ _ _ _ (K_spec_ParseIr_20 (.lit (.string (str text))) (.ptr 80 [(0, 0)] 0) (.vw 96 [] 0 1 false) (.ptr 104 [(0, 0)] 0) (.vw 112 [] 0 1 false) (.vw 120 [] 0 1 false) (.lit (.int .i64 i)) (.lit (.int .i64 (k + 1))) (.lit (.int .i64 f)) [(80, boxN), (96, { cells := [.ow (.sl 1 LN)], var := true }), (104, boxL R2), (112, { cells := [.ow (.sl 1 JB)], var := true }), (120, { cells := [.ow (.sl 1 FO)], var := true })]) ?_ ?_).trans ?_
      · clear ih'
        simp [hMl, wk2, wk3, wk4, hRk, at_of hRk, hkk, hk1, hol, hbm, app_effG, ownedRows_set]
        exact ⟨drawOk_of [] [(14, 1)] trivial ⟨sees1 (by kernel_rfl) (by simp [hMl, hRk, at_of hRk, hkk, hol]), trivial⟩ (by kernel_rfl) (by kernel_rfl) [[], [0], [], [2], [], [4], [], [6], [5, 4, 7, 6], [8, 5, 4, 7, 6], [9, 8, 5, 4, 7, 6], [], [10, 9, 8, 5, 4, 7, 6], [], [10, 9, 8, 5, 4, 7, 6, 13, 0, 1, 2, 3, 11, 12], [1, 0, 3, 2, 4, 5, 6, 7, 8, 9, 10, 11, 12, 13, 14], [15, 1, 0, 3, 2, 4, 5, 6, 7, 8, 9, 10, 11, 12, 13, 14], [16, 15, 1, 0, 3, 2, 4, 5, 6, 7, 8, 9, 10, 11, 12, 13, 14]] (by kernel_rfl) (by simp [pairsH, indepH, Res.dst, Res.rs, Res.tk, Res.rks, Qry.key, Res.cont, Res.okS, Res.out, apartL, S.isDead, S.ok, S.oks, stillV, stillP, rowOk]), Mc.ret_test _ _ _ _ _ (by simp [joinAt, hR2, Sh.same, nrmCRows_same, nrmCRows_set, nrmCRows_nil, ownedRows_app, ownedRows_set, hMl, hkk, rowX])⟩
      · clear ih'
        simp [hMl, wk2, wk3, wk4, hRk, at_of hRk, hkk, hk1, hol, hbm, app_effG, ownedRows_set]
        exact ⟨drawOk_of [] [(13, 1)] trivial ⟨sees1 (by kernel_rfl) (by simp [hMl, hRk, at_of hRk, hkk, hol]), trivial⟩ (by kernel_rfl) (by kernel_rfl) [[], [0], [], [2], [], [4], [], [6], [5, 4, 7, 6], [8, 5, 4, 7, 6], [9, 8, 5, 4, 7, 6], [], [11], [10, 9, 8, 5, 4, 7, 6, 12, 11], [1, 0, 3, 2, 4, 5, 6, 7, 8, 9, 10, 11, 12, 13], [14, 1, 0, 3, 2, 4, 5, 6, 7, 8, 9, 10, 11, 12, 13], [15, 14, 1, 0, 3, 2, 4, 5, 6, 7, 8, 9, 10, 11, 12, 13]] (by kernel_rfl) (by simp [pairsH, indepH, Res.dst, Res.rs, Res.tk, Res.rks, Qry.key, Res.cont, Res.okS, Res.out, apartL, S.isDead, S.ok, S.oks, stillV, stillP, rowOk]), Mc.ret_test _ _ _ _ _ (by simp [joinAt, hR2, Sh.same, nrmCRows_same, nrmCRows_set, nrmCRows_nil, ownedRows_app, ownedRows_set, hMl, hkk, rowX])⟩
      · simp [hF2l, hFo, wk2, wk3, wk4, hFk, at_of hFk, hkk, hk1, hfl, hbm2]
        exact ih' _ (by simp [hR2, hFO2, nrmCRows_set, nrmCRows_ow, nrmCRows_nil, ownedRows_set, nrmRows_append, nrmRows_set, nrmRows_nil, nR, nJB, nFO, nFK, hMl, hFo, hkk, wrap_add i (show i < 2 ^ 62 by omega), rowX]) ⟨by omega, hraw', hF⟩ (by omega)
end Go.Proofs.YtckojpaklblnpaaGreatDoor.Th
