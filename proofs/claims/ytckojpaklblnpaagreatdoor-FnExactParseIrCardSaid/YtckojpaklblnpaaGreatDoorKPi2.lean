/- Texts of IRs read, by the program. -/
import Derived.Test.YtckojpaklblnpaaGreatDoorKG1
import Derived.Test.YtckojpaklblnpaaGreatDoorKG7
set_option linter.unusedVariables false
set_option linter.unusedSimpArgs false
set_option maxRecDepth 10000
set_option maxHeartbeats 2000000
namespace Go.Proofs.YtckojpaklblnpaaGreatDoor.Th
open Go Go.RowKit Go.Proofs.YtckojpaklblnpaaGreatDoor.Ev
theorem splitL_len (c : UInt8) : ∀ l, (splitL c l).length ≤ l.length + 1
  | [] => by simp [splitL]
  | a :: r => by
    have ih := splitL_len c r
    unfold splitL
    split
    · simp; omega
    · split
      · rename_i h t e
        rw [e] at ih
        simp at ih ⊢
        omega
      · simp
theorem splitL_mem (c : UInt8) : ∀ l, ∀ w ∈ splitL c l, w.length ≤ l.length
  | [], w, hw => by simp [splitL] at hw; simp [hw]
  | a :: r, w, hw => by
    have ih := splitL_mem c r
    unfold splitL at hw
    split at hw
    · rcases List.mem_cons.mp hw with rfl | hw
      · simp
      · have := ih w hw; simp; omega
    · split at hw
      · rename_i h t e
        rw [e] at ih
        rcases List.mem_cons.mp hw with rfl | hw
        · have := ih h (by simp); simp; omega
        · have := ih w (by simp [hw]); simp; omega
      · simp only [List.mem_singleton] at hw
        subst hw
        simp
theorem numB_nn {s : List UInt8} (h : (numB s).2 = true) : 0 ≤ (numB s).1 := by
  unfold numB numIn at *
  split at h
  · rename_i v hv
    simp only [Bool.and_eq_true, decide_eq_true_eq] at h
    simp only
    exact h.1.1
  · simp at h
  · simp at h
theorem rdW_num (st : OpT × Bool × Bool × Bool) (s : List UInt8) : (rdW st s).1.num = st.1.num ∧ ((rdW st s).2.2.2 = true → st.2.2.2 = true) := by
  obtain ⟨x, t, i, ok⟩ := st
  unfold rdW
  dsimp only
  repeat' split
  all_goals first | exact ⟨rfl, fun h => h⟩ | exact ⟨rfl, fun h => by simp only [Bool.and_eq_true] at h; exact h.1⟩ | exact ⟨rfl, fun h => by cases h⟩
theorem foldW_num : ∀ (l : List (List UInt8)) (st : OpT × Bool × Bool × Bool), (l.foldl rdW st).1.num = st.1.num ∧ ((l.foldl rdW st).2.2.2 = true → st.2.2.2 = true)
  | [], st => ⟨rfl, fun h => h⟩
  | s :: r, st => by
    have h1 := foldW_num r (rdW st s)
    have h2 := rdW_num st s
    exact ⟨h1.1.trans h2.1, fun h => h2.2 (h1.2 h)⟩
theorem opOfT_ok {ws : List (List UInt8)} (h : (opOfT ws).2.2 = true) : 0 ≤ (opOfT ws).1.num ∧ Plain (opOfT ws).1 := by
  unfold opOfT at *
  split at h
  · cases h
  · rename_i hl
    rw [if_neg hl]
    simp only [Bool.and_eq_true] at h
    have h1 := foldW_num (ws.drop 2) (opH ws)
    refine ⟨?_, opR_plain ws⟩
    show 0 ≤ (opR ws).1.num
    unfold opR
    rw [h1.1]
    exact numB_nn (h1.2 h.1)
theorem c_impl_ParseIr (text : List UInt8) (h : text.length ≤ 2 ^ 20) : cw f_impl_ParseIr [.lit (.string (str text))] [] = ansI (parseI text) := by
  refine callW_run (by simp) fs_impl_ParseIr rfl rfl rfl ?_
  have fS := c_strings_Split 10 text (by omega)
  have hll := splitL_len 10 text
  have hlm := splitL_mem 10 text
  unfold parseI
  have hcat := List.dropLast_concat_getLast (splitL_ne 10 text)
  generalize (splitL 10 text).getLast (splitL_ne 10 text) = z at hcat ⊢
  generalize (splitL 10 text).dropLast = L at hcat ⊢
  rw [← hcat] at fS hll hlm
  clear hcat
  have gL : ∀ i (hi : i < L.length), (strRows (L ++ [z]))[i]? = some [.lit (.string (str L[i]))] := fun i hi => by
    unfold strRows
    rw [List.getElem?_map, List.getElem?_append_left hi, List.getElem?_eq_getElem hi]
    rfl
  have gz : (strRows (L ++ [z]))[L.length]? = some [.lit (.string (str z))] := by
    unfold strRows
    rw [List.getElem?_map, List.getElem?_append_right (Nat.le_refl _), Nat.sub_self]
    rfl
  have hLN : (strRows (L ++ [z])).length = L.length + 1 := by simp
  have hL20 : L.length ≤ 2 ^ 21 := by simp at hll; omega
  have hLm : ∀ w ∈ L, w.length ≤ 2 ^ 20 := fun w hw => by have := hlm w (by simp [hw]); omega
  generalize strRows (L ++ [z]) = LN at fS gL gz hLN
  clear hll hlm
  simp only [cw] at fS
  have wN : IntKind.wrap .i64 ((L.length : Int) + 1 - 1) = (L.length : Int) := by rw [i64_wrap (by omega) (by omega)]; omega
  have wN' : IntKind.wrap .i64 (L.length : Int) = (L.length : Int) := i64_wrap (by omega) (by omega)
  by_cases h2 : 200000 < text.length
  · have h2' : (200000 : Int) < (text.length : Int) := by omega
    rw [if_pos (.inl h2)]
    simp [fS, h2, h2']
  have h2' : ¬ (200000 : Int) < (text.length : Int) := by omega
  by_cases hz : z = []
  rotate_left
  · rw [if_pos (.inr hz)]
    simp [fS, h2, h2', hLN, wN, wN', gz, at_of gz, hz]
  rw [if_neg (by simp [h2, hz])]
  subst hz
  generalize hF : finI text (runL stepI L ([], [], [])) = F
  have hns : ¬ ((L.length : Int) < 0) := by omega
  have hle : (L.length : Int) ≤ (L.length : Int) + 1 := by omega
  simp [fS, h2, h2', hLN, wN, wN', gz, at_of gz, hns, hle]
  refine Mc.loop_ind (α := Nat × St) _ _ _ _ (fun a => I_impl_ParseIr_0 (.lit (.string (str text))) (.ptr 80 [(0, 0)] 0) (.ptr 104 [(0, 0)] 0) (.vw 112 [] 0 1 false) (.vw 120 [] 0 1 false) (.sub 96 [] 0 1 0 L.length) (.lit (.int .i64 L.length)) (.lit (.int .i64 a.1)) [(80, boxN), (104, boxL (a.2.1.map ModT.enc)), (112, { cells := [.ow (.sl 1 (a.2.2.1.map encI))], var := true }), (120, { cells := [.ow (.sl 1 (a.2.2.2.map (encS 1 encI)))], var := true }), (96, { cells := [.ow (.sl 1 LN)], var := true })]) (fun a => L.length - a.1) (fun a => a.1 ≤ L.length ∧ RawS true a.1 a.2 ∧ finI text (runL stepI (L.drop a.1) a.2) = F) (0, ([], [], [])) _ (by simp) ⟨by simp, RawS.nil, hF⟩ ?_
  clear hF
  intro ⟨i, ms, fl, fo⟩ ⟨hi, hraw, hF⟩ ih
  dsimp only at hi hraw hF
  have hlen := hraw.len
  dsimp only at hlen
  by_cases hil : i < L.length
  rotate_left
  · have hie : i = L.length := by omega
    subst hie
    rw [List.drop_length] at hF
    simp only [runL, finI] at hF
    have hr := hraw.raw (by omega)
    dsimp only at hr
    have hMl : (ms.map ModT.enc).length = ms.length := List.length_map _
    by_cases h30 : 30 < ms.length
    · have h30' : (30 : Int) < (ms.length : Int) := by omega
      rw [if_neg (fun hh => by have := hh.1; omega)] at hF
      subst hF
      generalize ms.map ModT.enc = R at hMl ⊢
      simp [hMl, h30, h30']
    have h30' : ¬ (30 : Int) < (ms.length : Int) := by omega
    obtain ⟨v, os, hc, hq⟩ := c_impl_laid true true ms fl fo hr (hraw.num rfl)
    obtain ⟨hs1, hs2⟩ := small_layL (st := true) hr
    have hcp := c_impl_PrintIr true (layL true ms fl fo) hs1 hs2
    simp only [cw, encM] at hc hcp
    rcases hq with ⟨hok, rfl, rfl⟩ | ⟨hbad, rfl, c, hcl, rfl⟩
    rotate_left
    · rw [if_neg (fun hh => hbad hh.2.1)] at hF
      subst hF
      generalize ms.map ModT.enc = R at hMl hc ⊢
      simp [hMl, h30, h30', hc, hcl]
    simp only [if_true] at hc
    generalize ms.map ModT.enc = R at hMl hc ⊢
    cases hsb : specB (layL true ms fl fo) with
    | false =>
      rw [if_neg (fun hh => by rw [hsb] at hh; cases hh.2.2.1)] at hF
      subst hF
      rw [hsb] at hc
      generalize (layL true ms fl fo).map ModT.enc = R2 at hc
      simp [hMl, h30, h30', hc]
    | true =>
      rw [hsb] at hc hcp
      rw [if_pos rfl] at hcp
      by_cases ht : prN (layL true ms fl fo) (layL true ms fl fo).length = text
      · rw [if_pos ⟨by omega, hok, hsb, ht⟩] at hF
        subst hF
        rw [ht] at hcp
        dsimp only
        have n4 : ∀ sh, nrmRows sh ((layL true ms fl fo).map ModT.enc) = (layL true ms fl fo).map ModT.enc := fun sh => nrm_encMod sh _
        generalize (layL true ms fl fo).map ModT.enc = R2 at hc hcp n4 ⊢
        simp [hMl, h30, h30', hc, hcp, n4]
      · rw [if_neg (fun hh => ht hh.2.2.2)] at hF
        subst hF
        generalize (layL true ms fl fo).map ModT.enc = R2 at hc hcp
        generalize prN (layL true ms fl fo) (layL true ms fl fo).length = pt at ht hcp
        simp [hMl, h30, h30', hc, hcp, ht]
  have hl20 := hLm L[i] (List.getElem_mem hil)
  have gi := gL i hil
  have hd : L.drop i = L[i] :: L.drop (i + 1) := List.drop_eq_getElem_cons hil
  rw [hd] at hF
  clear hd gL
  generalize L[i] = l at hl20 gi hF
  have hil' : (i : Int) < (L.length : Int) := by omega
  have fC := c_strings_CutPrefix l [32, 32]
  simp only [cw] at fC
  simp only [runL, stepI] at hF
  have hMl : (ms.map ModT.enc).length = ms.length := List.length_map _
  cases hp : Lib.hasPrefix l [32, 32] with
  | false =>
    rw [hp, if_neg (by simp)] at hF
    rw [hp] at fC
    have f1 := c_strings_Contains l [32, 106, 117, 109, 112, 115] (by omega)
    have f2 := c_impl_bitOf (Lib.contains l [32, 106, 117, 109, 112, 115]) 1
    have f3 := c_strings_HasSuffix l [32, 99, 97, 99, 104, 101, 100] (by omega)
    have hraw' := hraw.mod (Lib.hasSuffix l [32, 99, 97, 99, 104, 101, 100]) (if Lib.contains l [32, 106, 117, 109, 112, 115] then 1 else 0)
    simp only [cw] at f1 f2 f3
    have hbm : (ms.length + 1) * 56 ≤ maxBytes := by unfold maxBytes; omega
    have hfl := hraw.hfl
    have hfo := hraw.hfo
    dsimp only at hfl hfo
    have hFl : (fl.map encI).length = ms.length := by simp [hfl]
    have hFo : (fo.map (encS 1 encI)).length = ms.length := by simp [hfo]
    have hbm2 : (ms.length + 1) * 8 ≤ maxBytes := by unfold maxBytes; omega
    have hbm3 : (ms.length + 1) * 24 ≤ maxBytes := by unfold maxBytes; omega
    generalize hjf : (if Lib.contains l [32, 106, 117, 109, 112, 115] = true then (1 : Int) else 0) = jf at f2 hraw' hF
    clear hjf
    generalize Lib.contains l [32, 106, 117, 109, 112, 115] = jb at f1 f2
    generalize Lib.hasSuffix l [32, 99, 97, 99, 104, 101, 100] = cb at f3 hraw' hF
    obtain ⟨R, hR⟩ : ∃ R, R = ms.map ModT.enc := ⟨_, rfl⟩
    obtain ⟨FL, hFL⟩ : ∃ FL, FL = fl.map encI := ⟨_, rfl⟩
    obtain ⟨FO, hFO⟩ : ∃ FO, FO = fo.map (encS 1 encI) := ⟨_, rfl⟩
    have n1 : ∀ sh, nrmRows sh R = R := fun sh => by rw [hR]; exact nrm_encMod sh _
    have n2 : ∀ sh, nrmRows sh FL = FL := fun sh => by rw [hFL]; exact nrm_encI sh _
    have n3 : ∀ sh, nrmRows sh FO = FO := fun sh => by rw [hFO]; exact nrm_encIs sh _
    have m1 : (addMod (ms, fl, fo) cb jf).1.map ModT.enc = R ++ [[.sl 9 [], .sl 1 [], .lit (.bool cb)]] := by rw [hR]; simp [addMod, ModT.enc]
    have m2 : (addMod (ms, fl, fo) cb jf).2.1.map encI = FL ++ [[.lit (.int .i64 jf)]] := by rw [hFL]; simp [addMod, encI]
    have m3 : (addMod (ms, fl, fo) cb jf).2.2.map (encS 1 encI) = FO ++ [[.sl 1 []]] := by rw [hFO]; simp [addMod, encS]
    rw [← hR] at hMl
    rw [← hFL] at hFl
    rw [← hFO] at hFo
    rw [← hR, ← hFL, ← hFO]
    clear hR hFL hFO
    simp [hil, hil', gi, at_of gi, hLN, encW, fC, f1, f2, f3, hMl, hFl, hFo, hbm, hbm2, hbm3]
    refine ⟨.b (by kernel_rfl), ?_⟩
    refine ih (i + 1, addMod (ms, fl, fo) cb jf) _ ?_ ⟨by simp; omega, hraw', hF⟩ (by simp; omega)
    dsimp only
    rw [m1, m2, m3]
    simp [n1, n2, n3, hfl, hfo, wrap_add i (show i < 2 ^ 62 by omega)]
  | true =>
    rw [hp, if_pos rfl] at hF
    have ht : Lib.trimPrefix l [32, 32] = l.drop 2 := by unfold Lib.trimPrefix; rw [if_pos hp]; rfl
    rw [hp, ht] at fC
    have f1 := c_strings_Split 32 (l.drop 2) (by simp; omega)
    have hw1 := splitL_len 32 (l.drop 2)
    have hw2 := splitL_mem 32 (l.drop 2)
    have f2 : cw f_impl_opOf [.val true (.sl 1 (strRows (splitL 32 (l.drop 2))))] [] = _ := c_impl_opOf true (splitL 32 (l.drop 2)) (by simp at hw1; omega) (fun w hw => by have := hw2 w hw; simp at this; omega)
    have hoo := fun h => opOfT_ok (ws := splitL 32 (l.drop 2)) h
    clear hw1 hw2
    generalize splitL 32 (l.drop 2) = ws at f1 f2 hF hoo
    generalize opOfT ws = o at f2 hF hoo
    obtain ⟨x, f, ok⟩ := o
    dsimp only at f2 hF hoo
    simp only [cw] at f1 f2
    generalize strRows ws = WS at f1 f2
    have wk : IntKind.wrap .i64 ((ms.length : Int) - 1) = (ms.length : Int) - 1 := i64_wrap (by omega) (by omega)
    cases ok with
    | false =>
      rw [if_neg (by simp)] at hF
      simp only [finI] at hF
      subst hF
      generalize ms.map ModT.enc = R at hMl ⊢
      simp [hil, hil', gi, at_of gi, hLN, encW, fC, f1, f2, hMl, wk]
    | true =>
    by_cases hm0 : ms = []
    · rw [if_neg (by simp [hm0])] at hF
      simp only [finI] at hF
      subst hF
      have hm1 : ms.length = 0 := by rw [hm0]; rfl
      have wz : IntKind.wrap .i64 (0 - 1) = -1 := rfl
      have wz' : IntKind.wrap .i64 (-1) = -1 := rfl
      rw [hm1] at hMl
      generalize ms.map ModT.enc = R at hMl ⊢
      simp [hil, hil', gi, at_of gi, hLN, encW, fC, f1, f2, hMl, wz, wz']
    rw [if_pos ⟨rfl, hm0⟩] at hF
    obtain ⟨hx0, hxp⟩ := hoo rfl
    have hraw' := hraw.op x f hxp (fun _ => hx0)
    have hpos : 0 < ms.length := List.length_pos_iff.mpr hm0
    obtain ⟨k, hk⟩ : ∃ k, ms.length = k + 1 := ⟨ms.length - 1, by omega⟩
    have hkm : k < ms.length := by omega
    have hkf : k < fo.length := by have := hraw.hfo; dsimp only at this; omega
    have hfo := hraw.hfo
    dsimp only at hfo
    have hjm := hraw.jumps ms[k] (List.getElem_mem hkm)
    have hsm := hraw.small ms[k] (List.getElem_mem hkm)
    have hofk := hraw.ops k hkm hkf
    dsimp only at hofk
    have m1 : (addOp ms x).map ModT.enc = (ms.map ModT.enc).set k [.sl 9 (ms[k].ops.map OpT.enc ++ [x.enc]), .sl 1 [], .lit (.bool ms[k].cached)] := by
      unfold addOp
      rw [show ms.length - 1 = k by omega, List.getElem?_eq_getElem hkm]
      simp [List.map_set, ModT.enc, hjm]
    have m3 : (addF fo f).map (encS 1 encI) = (fo.map (encS 1 encI)).set k [.sl 1 (fo[k].map encI ++ [[.lit (.int .i64 f)]])] := by
      unfold addF
      rw [show fo.length - 1 = k by omega, List.getElem?_eq_getElem hkf]
      simp [List.map_set, encS, encI]
    have hRk : (ms.map ModT.enc)[k]? = some [.sl 9 (ms[k].ops.map OpT.enc), .sl 1 [], .lit (.bool ms[k].cached)] := by
      rw [List.getElem?_map, List.getElem?_eq_getElem hkm]
      simp [ModT.enc, hjm]
    have hFk : (fo.map (encS 1 encI))[k]? = some [.sl 1 (fo[k].map encI)] := by
      rw [List.getElem?_map, List.getElem?_eq_getElem hkf]
      rfl
    have hxe : x.enc = [.lit (.int .i64 x.num), .lit (.int .i64 x.kind), .lit (.int .i64 x.ref), .lit (.bool x.rep), .lit (.int .i64 x.oneof), .sl 1 [], .lit (.bool x.quick), .lit (.int .i64 x.run), .sl 9 []] := by
      rw [OpT.enc_eq, hxp.1, hxp.2]; rfl
    have hol : (ms[k].ops.map OpT.enc).length = ms[k].ops.length := List.length_map _
    have hfl : (fo[k].map encI).length = ms[k].ops.length := by rw [List.length_map, hofk]
    have hbm : (ms[k].ops.length + 1) * 104 ≤ maxBytes := by unfold maxBytes; omega
    have hbm2 : (ms[k].ops.length + 1) * 8 ≤ maxBytes := by unfold maxBytes; omega
    have hFo : (fo.map (encS 1 encI)).length = ms.length := by simp [hfo]
    have nO : ∀ sh, nrmRows sh (ms[k].ops.map OpT.enc) = ms[k].ops.map OpT.enc := fun sh => nrm_encOp sh _
    have nFK : ∀ sh, nrmRows sh (fo[k].map encI) = fo[k].map encI := fun sh => nrm_encI sh _
    have nR : ∀ sh, nrmRows sh (ms.map ModT.enc) = ms.map ModT.enc := fun sh => nrm_encMod sh _
    have nFO : ∀ sh, nrmRows sh (fo.map (encS 1 encI)) = fo.map (encS 1 encI) := fun sh => nrm_encIs sh _
    generalize ms[k].cached = cc at m1 hRk
    generalize ms[k].ops.map OpT.enc = OR at m1 hRk hol nO
    generalize fo[k].map encI = FK at m3 hFk hfl nFK
    generalize ms[k].ops.length = no at hol hfl hbm hbm2
    obtain ⟨R, hR⟩ : ∃ R, R = ms.map ModT.enc := ⟨_, rfl⟩
    obtain ⟨FO, hFO⟩ : ∃ FO, FO = fo.map (encS 1 encI) := ⟨_, rfl⟩
    have n1 : ∀ sh, nrmRows sh ((addOp ms x).map ModT.enc) = (addOp ms x).map ModT.enc := fun sh => nrm_encMod sh _
    have n3 : ∀ sh, nrmRows sh ((addF fo f).map (encS 1 encI)) = (addF fo f).map (encS 1 encI) := fun sh => nrm_encIs sh _
    rw [← hR] at hMl hRk m1
    rw [← hFO] at hFk m3 hFo
    simp only [← hR] at nR
    simp only [← hFO] at nFO
    rw [m1] at n1
    rw [m3] at n3
    rw [← hR, ← hFO]
    clear hR hFO hofk hsm hjm
    rw [hxe] at m1 n1
    rw [hk] at hMl hFo wk
    have wk2 : ((k : Int) + 1 - 1) = (k : Int) := by omega
    have wk3 : IntKind.wrap .i64 (k : Int) = (k : Int) := i64_wrap (by omega) (by omega)
    have wk4 : IntKind.wrap .i64 ((k : Int) + 1 - 1) = (k : Int) := by rw [wk2]; exact wk3
    have hkk : k < k + 1 := by omega
    simp [hil, hil', gi, at_of gi, hLN, encW, fC, f1, f2, hMl, hFo, wk2, wk3, wk4, hRk, at_of hRk, hFk, at_of hFk, hol, hfl, hbm, hbm2, hkk, app_effG]
    refine ⟨drawOk_of [] [(13, 1)] trivial ⟨sees1 (by kernel_rfl) (by simp [hMl, hRk, at_of hRk, hkk, hol]), trivial⟩ (by kernel_rfl) (by kernel_rfl) [[], [0], [], [], [], [], [5], [], [6, 5, 7], [8, 6, 5, 7], [9, 8, 6, 5, 7], [], [11], [10, 9, 8, 6, 5, 7, 12, 11], [], [], [14, 15], [16, 14, 15], [], [18], [17, 16, 14, 15, 19, 18, 13, 10, 9, 8, 6, 5, 7, 12, 11], [1, 0, 2, 5, 6, 7, 8, 9, 10, 11, 12, 13, 17, 16, 14, 15, 20, 19, 18], [21, 1, 0, 2, 5, 6, 7, 8, 9, 10, 11, 12, 13, 17, 16, 14, 15, 20, 19, 18], [22, 21, 1, 0, 2, 5, 6, 7, 8, 9, 10, 11, 12, 13, 17, 16, 14, 15, 20, 19, 18], [3, 4, 0, 1, 2, 5, 6, 7, 8, 9, 10, 11, 12, 13, 14, 15, 16, 17, 18, 19, 20, 21, 22, 23], [24, 3, 4, 0, 1, 2, 5, 6, 7, 8, 9, 10, 11, 12, 13, 14, 15, 16, 17, 18, 19, 20, 21, 22, 23]] (by kernel_rfl) (by simp [pairsH, indepH, Res.dst, Res.rs, Res.tk, Res.rks, Qry.key, Res.cont, Res.okS, Res.out, apartL, S.isDead, S.ok, S.oks, stillV, stillP, rowOk]), ?_⟩
    refine ih (i + 1, (addOp ms x, fl, addF fo f)) _ ?_ ⟨by simp; omega, hraw', hF⟩ (by simp; omega)
    dsimp only
    rw [m1, m3]
    simp [nrmCRows_set, nrmCRows_ow, ownedRows_set, nrmRows_append, nR, nO, nFO, nFK, hMl, hFo, hkk, wrap_add i (show i < 2 ^ 62 by omega)]
end Go.Proofs.YtckojpaklblnpaaGreatDoor.Th
