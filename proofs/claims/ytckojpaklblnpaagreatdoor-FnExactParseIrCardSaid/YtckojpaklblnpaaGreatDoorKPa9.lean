/- Marks laid out, by the reference. -/
import Derived.Test.YtckojpaklblnpaaGreatDoorKG1
import Derived.Test.YtckojpaklblnpaaGreatDoorKPb1
import Derived.Test.YtckojpaklblnpaaGreatDoorKPb2
import Derived.Test.YtckojpaklblnpaaGreatDoorKPb3
import Derived.Test.YtckojpaklblnpaaGreatDoorKPb4
set_option linter.unusedVariables false
set_option linter.unusedSimpArgs false
set_option maxRecDepth 10000
set_option maxHeartbeats 16000000
namespace Go.Proofs.YtckojpaklblnpaaGreatDoor.Th
open Go Go.RowKit Go.Proofs.YtckojpaklblnpaaGreatDoor.Ev
theorem at_ynP (m : Mc) (Q : Option (V × List (Option O)) → Prop) (x y : Code) (K : List Fr) (σ τ : F) (hx : m.at x [.test x τ] σ = some (.tup [], [])) (hy : m.at y [.test x τ] σ = some (.tup [], [])) (hq : Q (m.ret .normal K τ)) : Q (m.yn x y K σ .yn) := by
  rw [Mc.at_yn m x y K σ τ hx hy]
  exact hq
theorem c_spec_l11Layout (b b' : Bool) (ms : List ModT) (jb : List Bool) (fo : List (List Int)) (hr : Raw ms (jb.map b2i) fo) : Ans (LQ false ms (jb.map b2i) fo) (cw f_spec_l11Layout [.vw 0 [] 0 1 true, .val b (.sl 1 (jb.map encBo)), .val b' (.sl 1 (fo.map (encS 1 encI)))] [{ cells := [.ow (.sl 3 (ms.map modRaw))] }]) := by
  refine callW_runQ (by simp) fs_spec_l11Layout rfl rfl rfl (by kernel_rfl) ?_
  have gFL : ∀ k, (jb.map encBo)[k]? = jb[k]?.map encBo := fun k => List.getElem?_map
  have gFO : ∀ k, (fo.map (encS 1 encI))[k]? = fo[k]?.map (encS 1 encI) := fun k => List.getElem?_map
  generalize jb.map encBo = FL at gFL ⊢
  generalize fo.map (encS 1 encI) = FO at gFO ⊢
  have hms := hr.len
  have hjl : jb.length = ms.length := by have := hr.hfl; simpa using this
  have init : ModRows ms (jb.map b2i) fo 0 (ms.map modRaw) := ⟨SK_raw ms, fun j h => by omega, fun j _ h1 => by rw [List.getElem?_map, List.getElem?_eq_getElem h1]; rfl⟩
  generalize ms.map modRaw = R0 at init ⊢
  simp
  refine Mc.loop_indP (α := Nat × List (List T)) _ _ _ (Ans (LQ false ms (jb.map b2i) fo)) (fun a => I_spec_l11Layout_0 (.vw 88 [(0, 0)] 0 1 true) (.val b (.sl 1 FL)) (.val b' (.sl 1 FO)) (.ptr 88 [(0, 0)] 0) (.lit (.int .i64 a.1)) [(88, boxL a.2)]) (fun a => ms.length - a.1) (fun a => a.1 ≤ ms.length ∧ ModRows ms (jb.map b2i) fo a.1 a.2) (0, R0) _ (by simp) ⟨by simp, init⟩ ?_
  clear init
  intro ⟨k, R⟩ ⟨hk, hM⟩ ih
  dsimp only at hk hM
  have hRl := hM.sk.1
  by_cases hkl : k < ms.length
  rotate_left
  · have hke : k = ms.length := by omega
    subst hke
    obtain ⟨hfull, hok⟩ := hM.full hr
    have hR0 : ¬ (3 = 0 ∧ R = []) := fun h => absurd h.1 (by omega)
    simp only [shMod, shOp] at hfull
    simp [hRl]
    exact ⟨_, _, rfl, .inl ⟨hok, rfl, by simp [hfull]⟩⟩
  have hfk : k < jb.length := by rw [hjl]; exact hkl
  have hok2 : k < fo.length := by rw [hr.hfo]; exact hkl
  have hops := hr.ops k hkl hok2
  have hsm := hr.small ms[k] (List.getElem_mem hkl)
  have hpl := hr.plain ms[k] (List.getElem_mem hkl)
  have hRk := hM.rest k (Nat.le_refl k) hkl
  have gk := gFL k
  rw [List.getElem?_eq_getElem hfk, Option.map_some] at gk
  have gok := gFO k
  rw [List.getElem?_eq_getElem hok2, Option.map_some] at gok
  have hno := fun i hi => not_op (st := false) (i := i) hr hkl hi
  have hfe : (jb.map b2i)[k]'(by rw [List.length_map]; exact hfk) = b2i jb[k] := by simp
  have hnx := fun OR J => hM.next hr hkl OR J
  rw [hfe, bit_b2i] at hnx
  have hnoj : jb[k] = true → jumpsL ms[k].ops = [] → ¬ okAll false ms (jb.map b2i) fo := fun h1 h2 hh => (hh k hkl (by rw [List.length_map]; exact hfk) hok2).1 (by rw [hfe, bit_b2i]; exact h1) (by simpa [jmpF] using h2)
  have hsk := fun OR J c hO => hM.sk.set k hkl OR J c hO
  have ih' := fun OR J h1 h2 h3 σ' hσ' => ih (k + 1, R.set k [.sl 9 OR, .sl 1 (J.map encI), .lit (.bool (ms[k]'hkl).cached)]) σ' hσ' ⟨by simp; omega, hnx OR J h1 h2 h3⟩ (by simp; omega)
  clear ih hnx hM hfe
  unfold modRaw at hRk
  generalize hmk : ms[k] = m at *
  generalize jb[k] = j at *
  generalize hfkd : fo[k] = fk at *
  obtain ⟨ops, jm, cc⟩ := m
  dsimp only at *
  have hkl' : (k : Int) < (ms.length : Int) := by omega
  refine cutGP 1 _ (Ans (LQ false ms (jb.map b2i) fo)) fun c hc => ?_
  simp only [Code.graft]
  simp [hkl, hkl', hRl]
  subst hc
  simp only [Code.drop]
  rw [Mc.at_seq, Mc.at_block]
  refine cutKP _ (Ans (LQ false ms (jb.map b2i) fo)) fun K hK => ?_
  have hraw := ORok_raw ops
  have init2 : RowsAt ms ops fk 0 (ops.map fun x => rowX x 0 [] 0 []) := ⟨hraw, fun j h => by omega, fun j _ h1 => by rw [List.getElem?_map, List.getElem?_eq_getElem h1]; rfl⟩
  have hRs : R.set k [.sl 9 (ops.map fun x => rowX x 0 [] 0 []), .sl 1 [], .lit (.bool cc)] = R := by
    apply List.ext_getElem?
    intro q
    by_cases hq : k = q
    · subst hq
      rw [List.getElem?_set_self (by rw [hRl]; exact hkl), hRk]
    · rw [List.getElem?_set_ne hq]
  generalize (ops.map fun x => rowX x 0 [] 0 []) = OR0 at hRk init2 hRs
  clear hraw
  simp
  refine Mc.loop_indP (α := Nat × List (List T)) _ _ _ (Ans (LQ false ms (jb.map b2i) fo)) (fun a => I_spec_l11Layout_1 (.vw 88 [(0, 0)] 0 1 true) (.val b (.sl 1 FL)) (.val b' (.sl 1 FO)) (.ptr 88 [(0, 0)] 0) (.lit (.int .i64 k)) (.lit (.int .i64 a.1)) [(88, boxL (R.set k [.sl 9 a.2, .sl 1 [], .lit (.bool cc)]))]) (fun a => ops.length - a.1) (fun a => a.1 ≤ ops.length ∧ RowsAt ms ops fk a.1 a.2) (0, OR0) _ (by simp [hRs]) ⟨by simp, init2⟩ ?_
  clear init2 hRs hRk
  intro ⟨i, OR⟩ ⟨hi, hO⟩ ih2
  dsimp only at hi hO
  have hORl := hO.ok.1
  obtain ⟨R1, hR1⟩ : ∃ R1, R1 = R.set k [.sl 9 OR, .sl 1 [], .lit (.bool cc)] := ⟨_, rfl⟩
  have hk1 : R1[k]? = some [.sl 9 OR, .sl 1 [], .lit (.bool cc)] := by rw [hR1, List.getElem?_set_self (by rw [hRl]; exact hkl)]
  have hR1l : R1.length = ms.length := by rw [hR1]; simp [hRl]
  have hset : ∀ X, R1.set k X = R.set k X := fun X => by rw [hR1, List.set_set]
  rw [← hR1]
  by_cases hil : i < ops.length
  rotate_left
  · have hie : i = ops.length := by omega
    subst hie
    have hcj := c_spec_l9JumpsR true ⟨ops, jm, cc⟩ OR hO.ok hsm
    simp only [cw] at hcj
    clear hR1
    subst hK
    cases j with
    | false =>
      have ih' := ih' OR [] hO rfl (by simp)
      simp only [List.map_nil] at ih'
      rw [← hset] at ih'
      have hsame : R1.set k [.sl 9 OR, .sl 1 [], .lit (.bool cc)] = R1 := by
        apply List.ext_getElem?
        intro q
        by_cases hq : k = q
        · subst hq
          rw [List.getElem?_set_self (by rw [hR1l]; exact hkl), hk1]
        · rw [List.getElem?_set_ne hq]
      rw [hsame] at ih'
      simp [hk1, at_of hk1, hR1l, hkl, hORl, gk, at_of gk, encBo]
      exact ih' _ (by simp [wrap_add k (show k < 2 ^ 62 by omega)])
    | true =>
      by_cases hje : jumpsL ops = []
      · have hno := hnoj rfl hje
        rw [hje] at hcj
        simp [hk1, at_of hk1, hR1l, hkl, hORl, gk, at_of gk, encBo, hcj, ans_if]
        exact ⟨.h [(8, 88)] ⟨⟨by kernel_rfl, by rfl⟩, trivial⟩ (by kernel_rfl), bads hno ⟨_, rfl, by simp⟩⟩
      · have ih' := ih' OR (jumpsL ops) hO (by simp) (by simp [hje])
        rw [← hset] at ih'
        have hjn : ¬ (jumpsL ops).length = 0 := fun h => hje (List.length_eq_zero_iff.mp h)
        generalize jumpsL ops = JJ at hcj ih' hjn
        simp [hk1, at_of hk1, hR1l, hkl, hORl, gk, at_of gk, encBo, hcj, hjn, ans_if]
        refine ⟨.h [(8, 88)] ⟨⟨by kernel_rfl, by rfl⟩, trivial⟩ (by kernel_rfl), ?_⟩
        exact ih' _ (by simp [wrap_add k (show k < 2 ^ 62 by omega)])
  have hfi : i < fk.length := by rw [hops]; exact hil
  have hOi := hO.rest i (Nat.le_refl i) hil
  have hnoi := hno i hil
  have hnxt := hO.next hops hil
  have gfi : (fk.map encI)[i]? = some (encI fk[i]) := by rw [List.getElem?_map, List.getElem?_eq_getElem hfi]; rfl
  have hpx := hpl ops[i] (List.getElem_mem hil)
  have ih3 := fun tz tr iz ir hok hn σ' hσ' => ih2 (i + 1, OR.set i (rowX (ops[i]'hil) tz tr iz ir)) σ' hσ' ⟨by simp; omega, hnxt hok tz tr iz ir hn⟩ (by simp; omega)
  have hfk2 : ∀ (h1 : k < fo.length) (h2 : i < (fo[k]'h1).length), (fo[k]'h1)[i]'h2 = fk[i] := fun h1 h2 => by simp only [hfkd]
  have hno2 : okOp false ms ops[i] fk[i] = false → ¬ okAll false ms (jb.map b2i) fo := fun h => hnoi fun h1 h2 => by rw [hfk2 h1 h2]; exact h
  have hORs := fun tz tr iz ir => hO.ok.set i hil tz tr iz ir
  clear ih2 hnxt hnoi hfk2 ih' hno hnoj hO
  have gok2 : FO[k]? = some [.sl 1 (fk.map encI)] := gok
  generalize fk.map encI = FK at gfi gok2
  generalize ops[i] = x at *
  generalize fk[i] = f at *
  have hb4 : bits .and .i64 f 4 = 0 ↔ bit f 4 = false := by simp [bit]
  have hb8 : bits .and .i64 f 8 = 0 ↔ bit f 8 = false := by simp [bit]
  have hil' : (i : Int) < (ops.length : Int) := by omega
  refine cutGP 1 _ (Ans (LQ false ms (jb.map b2i) fo)) fun c hc => ?_
  simp only [Code.graft]
  simp [hk1, at_of hk1, hR1l, hkl, hORl, hil, hil']
  subst hc
  simp only [Code.drop]
  rw [Mc.at_seq, Mc.at_block]
  refine cutKP _ (Ans (LQ false ms (jb.map b2i) fo)) fun K2 hK2 => ?_
  refine cutGP 2 _ (Ans (LQ false ms (jb.map b2i) fo)) fun c10 hc10 => ?_
  simp only [Code.graft]
  have T10 : ∀ (tz : Nat) (tr : List (List T)), nrmT (.sl 1 []) (.sl tz tr) = .sl 1 ((tagL x f).map encB) → ∀ σ : F, σ.keep (E.trim f_spec_l11Layout 10) = J_spec_l11Layout_10 (.vw 88 [(0, 0)] 0 1 true) (.val b (.sl 1 FL)) (.val b' (.sl 1 FO)) (.ptr 88 [(0, 0)] 0) (.lit (.int .i64 k)) (.lit (.int .i64 i)) (.ptr 136 [(0, 0)] 0) [(88, boxL (R.set k [.sl 9 (OR.set i (rowX x tz tr 0 [])), .sl 1 [], .lit (.bool cc)])), (136, boxR x)] → Ans (LQ false ms (jb.map b2i) fo) (Mc.at ⟨E, callW E fs, f_spec_l11Layout, Tryz.f12.results.toList, 1⟩ c10 K2 σ) := by
    intro tz tr hnt σ hσ
    subst hc10
    simp only [Code.drop]
    repeat rw [Mc.at_seq]
    refine at_regionP _ (Ans (LQ false ms (jb.map b2i) fo)) _ _ _ _ _ hσ ?_
    clear hσ hk1 hR1l hset hR1
    have hok4 : okOp false ms x f = (!bit f 8 || inlOk ms x) := by unfold okOp; simp
    have hO1 := hORs tz tr 0 []
    obtain ⟨OR1, hOR1⟩ : ∃ OR1, OR1 = OR.set i (rowX x tz tr 0 []) := ⟨_, rfl⟩
    have hx1 : OR1[i]? = some (rowX x tz tr 0 []) := by rw [hOR1, List.getElem?_set_self (by rw [hORl]; exact hil)]
    have hO1l : OR1.length = ops.length := by rw [hOR1]; simp [hORl]
    rw [← hOR1] at hO1 ⊢
    obtain ⟨R2, hR2⟩ : ∃ R2, R2 = R.set k [.sl 9 OR1, .sl 1 [], .lit (.bool cc)] := ⟨_, rfl⟩
    have hk2 : R2[k]? = some [.sl 9 OR1, .sl 1 [], .lit (.bool cc)] := by rw [hR2, List.getElem?_set_self (by rw [hRl]; exact hkl)]
    have hR2l : R2.length = ms.length := by rw [hR2]; simp [hRl]
    have hSK2 : SK ms R2 := by rw [hR2]; exact hsk OR1 (.sl 1 []) (.lit (.bool cc)) hO1
    rw [← hR2]
    cases h8 : bit f 8 with
    | false =>
      have hz := hb8.mpr h8
      have hopL : nrmTs shOp (rowX x tz tr 0 []) = (opL ms x f).enc := by
        rw [OpT.enc_eq]
        unfold opL rowX inlL
        rw [h8]
        simp only [shOp, nrmTs, hnt]
        simp [nrmT, OpT.num, OpT.kind, OpT.ref, OpT.rep, OpT.oneof, OpT.tag, OpT.quick, OpT.run, OpT.inl]
      have ih3 := ih3 tz tr 0 [] (by rw [hok4, h8]; rfl) hopL
      simp only [← hOR1, ← hR2] at ih3
      subst hK2
      simp [gok2, at_of gok2, gfi, at_of gfi, encI, hz]
      exact ih3 _ (by simp [wrap_add i (show i < 2 ^ 62 by omega)])
    | true =>
      have hz : ¬ bits .and .i64 f 8 = 0 := fun h => by rw [hb8.mp h] at h8; cases h8
      have hok5 : okOp false ms x f = inlOk ms x := by rw [hok4, h8]; rfl
      have hwi : IntKind.wrap .i64 ((ms.length : Int) - 1) = (ms.length : Int) - 1 := i64_wrap (by omega) (by omega)
      have hcw := c_spec_l1In x.ref 0 ((ms.length : Int) - 1)
      simp only [cw] at hcw
      by_cases h16 : x.kind = 16
      rotate_left
      · have hno3 := hno2 (by rw [hok5]; unfold inlOk; simp [h16])
        subst hK2
        subst hK
        simp [gok2, at_of gok2, gfi, at_of gfi, encI, hz, h16]
        exact bads hno3 ⟨_, rfl, by simp⟩
      by_cases hw : 0 ≤ x.ref ∧ x.ref ≤ (ms.length : Int) - 1
      rotate_left
      · have hno3 := hno2 (by rw [hok5]; unfold inlOk; simp [h16, hw])
        rw [decide_eq_false hw] at hcw
        subst hK2
        subst hK
        simp [gok2, at_of gok2, gfi, at_of gfi, encI, hz, h16, hR2l, hwi, hcw]
        exact bads hno3 ⟨_, rfl, by simp⟩
      rw [decide_eq_true hw] at hcw
      obtain ⟨r, hre⟩ : ∃ r : Nat, x.ref = r := ⟨x.ref.toNat, by omega⟩
      have hrn : r < ms.length := by omega
      have hro : refOps ms x.ref = ms[r].ops := by
        unfold refOps
        rw [hre, Int.toNat_natCast, List.getElem?_eq_getElem hrn]
      have hrsm := hr.small ms[r] (List.getElem_mem hrn)
      have hSK3 := fun OR' hO' => (hsk OR' (.sl 1 []) (.lit (.bool cc)) hO').2 r hrn
      obtain ⟨ORr, Jr, cr, hr2, hor2⟩ := hSK2.2 r hrn
      have hrl := hor2.1
      generalize hrops : ms[r].ops = rops at *
      by_cases hem : rops = []
      · have hno3 := hno2 (by rw [hok5]; unfold inlOk; simp [hro, hem])
        have hr0 : ORr.length = 0 := by rw [hrl, hem]; rfl
        subst hK2
        subst hK
        rw [hre] at hcw
        simp [gok2, at_of gok2, gfi, at_of gfi, encI, hz, h16, hre, hR2l, hwi, hcw, hr2, at_of hr2, hrn, hr0]
        exact bads hno3 ⟨_, rfl, by simp⟩
      have hokx : inlOk ms x = true := by unfold inlOk; simp [h16, hro, hem, hw.1, hw.2]
      have hel : ¬ rops.length = 0 := fun h => hem (List.length_eq_zero_iff.mp h)
      have hrows : ∀ n, (rops.take n).length ≤ n := fun n => by simp; omega
      have hBRn : ∀ n (h : n < rops.length), (rops.take (n + 1)).map (fun y => rowX (bareOp y) 0 [] 0 []) = (rops.take n).map (fun y => rowX (bareOp y) 0 [] 0 []) ++ [rowX (bareOp rops[n]) 0 [] 0 []] := fun n h => by rw [take_next _ n h, List.map_append]; rfl
      have ih3 := fun hn => ih3 tz tr 9 (rops.map fun y => rowX (bareOp y) 0 [] 0 []) (by rw [hok5, hokx]) hn
      have hfin : nrmTs shOp (rowX x tz tr 9 (rops.map fun y => rowX (bareOp y) 0 [] 0 [])) = (opL ms x f).enc := by
        rw [OpT.enc_eq]
        unfold opL rowX inlL
        rw [h8, if_pos rfl, hro]
        simp only [shOp, nrmTs, hnt]
        have hmm : ∀ l : List OpT, nrmRows [.any, .any, .any, .any, .any, .sl 1 [], .any, .any, .sl 9 []] (l.map fun y => rowX (bareOp y) 0 [] 0 []) = l.map fun y => (bareOp y).enc := by
          intro l
          induction l with
          | nil => rfl
          | cons a l ihl =>
            simp only [List.map_cons, nrmRows, ihl]
            rw [OpT.enc_eq]
            simp [rowX, bareOp, OpT.num, OpT.kind, OpT.ref, OpT.rep, OpT.oneof, OpT.tag, OpT.quick, OpT.run, OpT.inl]
        have hmm := hmm rops
        simp only [rowX] at hmm
        simp [nrmT, OpT.num, OpT.kind, OpT.ref, OpT.rep, OpT.oneof, OpT.tag, OpT.quick, OpT.run, OpT.inl]
        simpa [Function.comp_def, OpT.num, OpT.kind, OpT.ref, OpT.rep, OpT.oneof, OpT.tag, OpT.quick, OpT.run, OpT.inl] using hmm
      have ih3 := ih3 hfin
      clear hfin
      rw [hre] at hcw
      simp [gok2, at_of gok2, gfi, at_of gfi, encI, hz, h16, hre, hR2l, hwi, hcw, hr2, at_of hr2, hrn, hrl, hel]
      refine Mc.loop_indP (α := Nat) _ _ _ (Ans (LQ false ms (jb.map b2i) fo)) (fun n => I_spec_l11Layout_2 (.vw 88 [(0, 0)] 0 1 true) (.val b (.sl 1 FL)) (.val b' (.sl 1 FO)) (.ptr 88 [(0, 0)] 0) (.lit (.int .i64 k)) (.lit (.int .i64 i)) (.ptr 136 [(0, 0)] 0) (.lit (.int .i64 n)) [(88, boxL (R.set k [.sl 9 (OR.set i (rowX x tz tr (if n = 0 then 0 else 9) ((rops.take n).map fun y => rowX (bareOp y) 0 [] 0 []))), .sl 1 [], .lit (.bool cc)])), (136, boxR x)]) (fun n => rops.length - n) (fun n => n ≤ rops.length) 0 _ (by simp [hR2, hOR1, hre]) (by simp) ?_
      clear hR2 hOR1 hx1 hO1l hO1 hk2 hR2l hSK2 hr2 hor2 hrl
      intro n hn ih4
      by_cases hnl : n < rops.length
      rotate_left
      · have hne : n = rops.length := by omega
        subst hne
        have hO3 := hORs tz tr 9 (rops.map fun y => rowX (bareOp y) 0 [] 0 [])
        obtain ⟨ORr, Jr, cr, hr3, hor3⟩ := hSK3 _ hO3
        have hrl := hor3.1
        have hR3l : (R.set k [.sl 9 (OR.set i (rowX x tz tr 9 (rops.map fun y => rowX (bareOp y) 0 [] 0 []))), .sl 1 [], .lit (.bool cc)]).length = ms.length := by simp [hRl]
        have e1 : (if rops.length = 0 then 0 else 9) = 9 := by rw [if_neg hel]
        rw [List.take_length, e1]
        generalize R.set k [.sl 9 (OR.set i (rowX x tz tr 9 (rops.map fun y => rowX (bareOp y) 0 [] 0 []))), .sl 1 [], .lit (.bool cc)] = R3 at hr3 hR3l ih3 ⊢
        subst hK2
        simp [hre, hR3l, hr3, at_of hr3, hrn, hrl]
        exact ih3 _ (by simp [wrap_add i (show i < 2 ^ 62 by omega)])
      have hz90 : n = 0 → (if n = 0 then 0 else 9) = 0 := fun h => by rw [if_pos h]
      have hz91 : ¬ n = 0 → (if n = 0 then 0 else 9) = 9 := fun h => by rw [if_neg h]
      have hO3 := hORs tz tr (if n = 0 then 0 else 9) ((rops.take n).map fun y => rowX (bareOp y) 0 [] 0 [])
      obtain ⟨ORr, Jr, cr, hr3, hor3⟩ := hSK3 _ hO3
      have hrl := hor3.1
      obtain ⟨tz2, tr2, iz2, ir2, hrn3⟩ := hor3.2 n hnl
      have hbl : ((rops.take n).map fun y => rowX (bareOp y) 0 [] 0 []).length = n := by simp; omega
      have ih4' := fun σ' hσ' => ih4 (n + 1) σ' hσ' (by omega) (by omega)
      clear ih4
      have e9 : (if n + 1 = 0 then 0 else 9) = 9 := by simp
      rw [hBRn n hnl, e9] at ih4'
      generalize rops[n] = y at hrn3 ih4'
      generalize ((rops.take n).map fun y => rowX (bareOp y) 0 [] 0 []) = BR at hbl hr3 hO3 ih4' ⊢
      generalize (if n = 0 then 0 else 9) = z at hz90 hz91 hr3 hO3 ⊢
      obtain ⟨OR3, hOR3⟩ : ∃ OR3, OR3 = OR.set i (rowX x tz tr z BR) := ⟨_, rfl⟩
      have hx3 : OR3[i]? = some (rowX x tz tr z BR) := by rw [hOR3, List.getElem?_set_self (by rw [hORl]; exact hil)]
      have hO3l : OR3.length = ops.length := by rw [hOR3]; simp [hORl]
      have hs3 : ∀ X, OR3.set i X = OR.set i X := fun X => by rw [hOR3, List.set_set]
      rw [← hOR3] at hr3 ⊢
      obtain ⟨R3, hR3⟩ : ∃ R3, R3 = R.set k [.sl 9 OR3, .sl 1 [], .lit (.bool cc)] := ⟨_, rfl⟩
      have hk3 : R3[k]? = some [.sl 9 OR3, .sl 1 [], .lit (.bool cc)] := by rw [hR3, List.getElem?_set_self (by rw [hRl]; exact hkl)]
      have hR3l : R3.length = ms.length := by rw [hR3]; simp [hRl]
      have hs4 : ∀ X, R3.set k X = R.set k X := fun X => by rw [hR3, List.set_set]
      rw [← hR3] at hr3 ⊢
      rw [← hs3, ← hs4] at ih4'
      clear hs3 hs4 hR3 hOR3 hO3 hor3
      obtain ⟨RN, hRN⟩ : ∃ RN, RN = l11N k i R3 OR3 x y tz tr BR cc := ⟨_, rfl⟩
      have hRN2 := hRN
      unfold l11N at hRN2
      rw [← hRN2] at ih4'
      clear hRN2
      have hnl' : (n : Int) < (rops.length : Int) := by omega
      have hbm : (n + 1) * 104 ≤ maxBytes := by unfold maxBytes; omega
      by_cases hn0 : n = 0
      · have hz0 : z = 0 := hz90 hn0
        subst hz0
        subst hn0
        simp [hre, hR3l, hr3, at_of hr3, hrn, hrl, hnl, ans_if]
        refine ⟨by kernel_rfl, ?_⟩
        refine at_ynP _ (Ans (LQ false ms (jb.map b2i) fo)) _ _ _ _ (K_spec_l11Layout_17 (.vw 88 [(0, 0)] 0 1 true) (.val b (.sl 1 FL)) (.val b' (.sl 1 FO)) (.ptr 88 [(0, 0)] 0) (.lit (.int .i64 k)) (.lit (.int .i64 i)) (.ptr 136 [(0, 0)] 0) (.lit (.int .i64 0)) [(88, boxL RN), (136, boxR x)]) ?_ ?_ ?_
        · rw [hRN]
          exact l11_170 hre hk3 hR3l hx3 hO3l hil hkl hr3 hrn hrl hrn3 hnl hbl hbm rfl _ (by kernel_rfl) _ (by kernel_rfl)
        · rw [hRN]
          exact l11_190 hre hk3 hR3l hx3 hO3l hil hkl hr3 hrn hrl hrn3 hnl hbl hbm rfl _ (by kernel_rfl) _ (by kernel_rfl)
        · simp
          exact ih4' _ (by simp; exact i64_wrap (by omega) (by omega))
      · have hz8 : z = 9 := hz91 hn0
        subst hz8
        simp [hre, hR3l, hr3, at_of hr3, hrn, hrl, hnl, hnl', ans_if]
        refine ⟨by kernel_rfl, ?_⟩
        refine at_ynP _ (Ans (LQ false ms (jb.map b2i) fo)) _ _ _ _ (K_spec_l11Layout_17 (.vw 88 [(0, 0)] 0 1 true) (.val b (.sl 1 FL)) (.val b' (.sl 1 FO)) (.ptr 88 [(0, 0)] 0) (.lit (.int .i64 k)) (.lit (.int .i64 i)) (.ptr 136 [(0, 0)] 0) (.lit (.int .i64 n)) [(88, boxL RN), (136, boxR x)]) ?_ ?_ ?_
        · rw [hRN]
          by_cases hkr : k = r
          · by_cases hin : i = n
            · exact l11_17C hre hk3 hR3l hx3 hO3l hil hkl hr3 hrn hrl hrn3 hnl hbl hbm hkr hin _ (by kernel_rfl) _ (by kernel_rfl)
            · exact l11_17B hre hk3 hR3l hx3 hO3l hil hkl hr3 hrn hrl hrn3 hnl hbl hbm hkr hin _ (by kernel_rfl) _ (by kernel_rfl)
          · exact l11_17A hre hk3 hR3l hx3 hO3l hil hkl hr3 hrn hrl hrn3 hnl hbl hbm hkr _ (by kernel_rfl) _ (by kernel_rfl)
        · rw [hRN]
          by_cases hkr : k = r
          · by_cases hin : i = n
            · exact l11_19C hre hk3 hR3l hx3 hO3l hil hkl hr3 hrn hrl hrn3 hnl hbl hbm hkr hin _ (by kernel_rfl) _ (by kernel_rfl)
            · exact l11_19B hre hk3 hR3l hx3 hO3l hil hkl hr3 hrn hrl hrn3 hnl hbl hbm hkr hin _ (by kernel_rfl) _ (by kernel_rfl)
          · exact l11_19A hre hk3 hR3l hx3 hO3l hil hkl hr3 hrn hrl hrn3 hnl hbl hbm hkr _ (by kernel_rfl) _ (by kernel_rfl)
        · simp [wrap_add n (show n < 2 ^ 62 by omega)]
          exact ih4' _ (by simp [wrap_add n (show n < 2 ^ 62 by omega)])
  clear hc10
  have hOs : OR.set i (rowX x 0 [] 0 []) = OR := by
    apply List.ext_getElem?
    intro q
    by_cases hq : i = q
    · subst hq
      rw [List.getElem?_set_self (by rw [hORl]; exact hil), hOi]
    · rw [List.getElem?_set_ne hq]
  have hsetX := fun tz tr => (hset [.sl 9 (OR.set i (rowX x tz tr 0 [])), .sl 1 [], .lit (.bool cc)]).symm
  cases h4 : bit f 4 with
  | false =>
    have hz := hb4.mpr h4
    have T10 := T10 0 [] (by unfold tagL; rw [h4]; simp)
    rw [hOs, ← hR1] at T10
    clear hR1 hset hsetX
    simp [hk1, at_of hk1, hR1l, hkl, hOi, at_of hOi, hORl, hil, rowX, gok2, at_of gok2, gfi, at_of gfi, encI, hz]
    exact T10 _ (by simp)
  | true =>
    have hz : ¬ bits .and .i64 f 4 = 0 := fun h => by rw [hb4.mp h] at h4; cases h4
    have T10 := T10 1 ((tagT x).map encB) (by unfold tagL; rw [h4]; simp)
    rw [hsetX] at T10
    have hcw := c_spec_l9WireR true x 0 [] 0 []
    have hcp := c_spec_PutTag x.num (owire x)
    have hpt : putTag x.num (owire x) = tagT x := rfl
    rw [hpt] at hcp
    simp only [cw, rowX] at hcw hcp T10
    generalize owire x = ow at hcw hcp
    generalize (tagT x).map encB = TG at hcp T10
    clear hR1 hset hsetX
    simp [hk1, at_of hk1, hR1l, hkl, hOi, at_of hOi, hORl, hil, rowX, gok2, at_of gok2, gfi, at_of gfi, encI, hz, hcw, hcp, ans_if]
    refine ⟨.h [(10, 136)] ⟨⟨by kernel_rfl, by rfl⟩, trivial⟩ (by kernel_rfl), ?_⟩
    exact T10 _ (by simp)
end Go.Proofs.YtckojpaklblnpaaGreatDoor.Th
