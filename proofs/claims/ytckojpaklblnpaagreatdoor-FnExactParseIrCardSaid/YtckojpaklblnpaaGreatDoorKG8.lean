/- Parts of the proof, merged: Pm4 Pm5. -/
import Derived.Test.YtckojpaklblnpaaGreatDoorKG1
import Derived.Test.YtckojpaklblnpaaGreatDoorKPm2
import Derived.Test.YtckojpaklblnpaaGreatDoorKPm3
import Derived.Test.YtckojpaklblnpaaGreatDoorKG7
import Derived.Test.YtckojpaklblnpaaGreatDoorKG2
set_option linter.unusedVariables false
set_option linter.unusedSimpArgs false
set_option maxRecDepth 10000
set_option maxHeartbeats 2000000
namespace Go.Proofs.YtckojpaklblnpaaGreatDoor.Th
open Go Go.RowKit Go.Proofs.YtckojpaklblnpaaGreatDoor.Ev
def cntM (m : ModT) : Int := cntOps m.ops + (m.jumps.length : Int) + 1
def cntMs : List ModT → Int
  | [] => 0
  | m :: r => cntM m + cntMs r
def mkMod (m : ModT) (k : Int) : ModT := ⟨mkOps m.ops k, marksI (k + cntOps m.ops) m.jumps.length, is3 (k + cntOps m.ops + m.jumps.length)⟩
def mkMods : List ModT → Int → List ModT
  | [], _ => []
  | m :: r, k => mkMod m k :: mkMods r (k + cntM m)
theorem cntM_nn (m : ModT) : 0 ≤ cntM m := by have := cntOps_nn m.ops; unfold cntM; omega
theorem cntMs_nn : ∀ l : List ModT, 0 ≤ cntMs l
  | [] => by rw [cntMs]; omega
  | x :: r => by have := cntM_nn x; have := cntMs_nn r; rw [cntMs]; omega
theorem cntMs_append : ∀ a b : List ModT, cntMs (a ++ b) = cntMs a + cntMs b
  | [], b => by simp [cntMs]
  | x :: a, b => by simp only [List.cons_append, cntMs, cntMs_append a b]; omega
theorem mkMods_append : ∀ (a b : List ModT) (k : Int), mkMods (a ++ b) k = mkMods a k ++ mkMods b (k + cntMs a)
  | [], b, k => by simp [mkMods, cntMs]
  | x :: a, b, k => by simp only [List.cons_append, mkMods, mkMods_append a b, cntMs]; congr 3; omega
theorem mkMods_len : ∀ (l : List ModT) (k : Int), (mkMods l k).length = l.length
  | [], _ => rfl
  | x :: r, k => by simp [mkMods, mkMods_len r]
theorem cntMs_take (l : List ModT) (i : Nat) (h : i < l.length) : cntMs (l.take (i + 1)) = cntMs (l.take i) + cntM l[i] := by
  rw [take_next l i h, cntMs_append]; simp [cntMs]
theorem mkMods_take (l : List ModT) (i : Nat) (h : i < l.length) (k : Int) : mkMods (l.take (i + 1)) k = mkMods (l.take i) k ++ [mkMod l[i] (k + cntMs (l.take i))] := by
  rw [take_next l i h, mkMods_append]; simp [mkMods]
theorem cntMs_le (l : List ModT) (i : Nat) : cntMs (l.take i) ≤ cntMs l := by
  have h1 := cntMs_append (l.take i) (l.drop i)
  rw [List.take_append_drop] at h1
  have := cntMs_nn (l.drop i)
  omega
theorem mkMods_get (l : List ModT) (k : Int) (i : Nat) (h : i < l.length) (h' : i < (mkMods l k).length) : (mkMods l k)[i] = mkMod l[i] (k + cntMs (l.take i)) := by
  have h1 := mkMods_append (l.take i) (l.drop i) k
  rw [List.take_append_drop] at h1
  have hl : (mkMods (l.take i) k).length = i := by rw [mkMods_len]; simp; omega
  have hd : l.drop i = l[i] :: l.drop (i + 1) := List.drop_eq_getElem_cons h
  rw [hd, mkMods] at h1
  have h2 : (mkMods l k)[i]? = some (mkMod l[i] (k + cntMs (l.take i))) := by
    rw [h1, List.getElem?_append_right (by omega), hl, Nat.sub_self]
    rfl
  rw [List.getElem?_eq_getElem h'] at h2
  exact Option.some.inj h2
theorem c_laws_markModS (l : List ModT) (k : Int) (vr : Bool) (hl : l.length ≤ 2 ^ 40) (hs : ∀ m ∈ l, m.Small) (h0 : 0 ≤ k) (h1 : k + cntMs l ≤ 2 ^ 50) :
    cw f_laws_markModS [.vw 0 [] 0 1 false, .lit (.int .i64 k)] [{ cells := [.ow (.sl 3 (l.map ModT.enc))], var := vr }] = some (.lit (.int .i64 (k + cntMs l)), [some { cells := [.ow (.sl 3 ((mkMods l k).map ModT.enc))], var := vr }]) := by
  refine callW_run (by simp) fs_laws_markModS rfl rfl rfl ?_
  simp
  refine Mc.loop_ind (α := Nat) _ _ _ _ (fun i => I_laws_markModS_0 (.vw 0 [] 0 1 false) (.lit (.int .i64 (k + cntMs (l.take i)))) (.lit (.int .i64 i)) [(0, { cells := [.ow (.sl 3 ((mkMods (l.take i) k).map ModT.enc ++ (l.drop i).map ModT.enc))], var := vr })]) (fun i => l.length - i) (fun i => i ≤ l.length) 0 _ (by simp [mkMods, cntMs]) (by simp) ?_
  intro i hi ih
  by_cases hil : i < l.length
  rotate_left
  · have hie : i = l.length := by omega
    subst hie
    have hRl : ((mkMods l k).map ModT.enc).length = l.length := by rw [List.length_map, mkMods_len]
    have e1 : (mkMods (l.take l.length) k).map ModT.enc ++ (l.drop l.length).map ModT.enc = (mkMods l k).map ModT.enc := by rw [List.take_length, List.drop_length]; simp
    have e2 : cntMs (l.take l.length) = cntMs l := by rw [List.take_length]
    rw [e1, e2]
    generalize (mkMods l k).map ModT.enc = R at hRl ⊢
    simp [hRl]
  have hlen1 : ((mkMods (l.take i) k).map ModT.enc).length = i := by rw [List.length_map, mkMods_len]; simp; omega
  obtain ⟨m, hme⟩ : ∃ m, m = l[i] := ⟨_, rfl⟩
  have hm := hs l[i] (List.getElem_mem hil)
  have hct := cntMs_take l i hil
  have hle := cntMs_le l (i + 1)
  have hnn := cntMs_nn (l.take i)
  have hR : ((mkMods (l.take i) k).map ModT.enc ++ (l.drop i).map ModT.enc)[i]? = some l[i].enc := by
    rw [List.getElem?_append_right (by omega), hlen1, Nat.sub_self, List.getElem?_map, List.getElem?_drop, Nat.add_zero, List.getElem?_eq_getElem hil]
    rfl
  have hRl : ((mkMods (l.take i) k).map ModT.enc ++ (l.drop i).map ModT.enc).length = l.length := by rw [List.length_append, hlen1, List.length_map, List.length_drop]; omega
  have hnR : ∀ sh, nrmRows sh ((mkMods (l.take i) k).map ModT.enc ++ (l.drop i).map ModT.enc) = (mkMods (l.take i) k).map ModT.enc ++ (l.drop i).map ModT.enc := fun sh => by rw [← List.map_append]; exact nrm_encMod sh _
  have hnext : (mkMods (l.take (i + 1)) k).map ModT.enc ++ (l.drop (i + 1)).map ModT.enc = ((mkMods (l.take i) k).map ModT.enc ++ (l.drop i).map ModT.enc).set i (mkMod l[i] (k + cntMs (l.take i))).enc := by
    have hd : (l.drop i).map ModT.enc = l[i].enc :: (l.drop (i + 1)).map ModT.enc := by rw [List.drop_eq_getElem_cons hil]; rfl
    rw [mkMods_take l i hil, List.map_append, List.set_append_right _ _ (by omega), hlen1, Nat.sub_self, hd, List.set_cons_zero, List.append_assoc]
    rfl
  rw [← hme] at hm hct hR hnext
  clear hme
  obtain ⟨hm1, hm2, hm3⟩ := hm
  have hin := cntOps_nn m.ops
  have hki0 : 0 ≤ k + cntMs (l.take i) := by omega
  have hki : k + cntMs (l.take i) + (cntOps m.ops + (m.jumps.length : Int) + 1) ≤ 2 ^ 50 := by unfold cntM at hct; omega
  have hK : k + cntMs (l.take (i + 1)) = k + cntMs (l.take i) + (cntOps m.ops + (m.jumps.length : Int) + 1) := by unfold cntM at hct; omega
  obtain ⟨R, hRe⟩ : ∃ R, R = (mkMods (l.take i) k).map ModT.enc ++ (l.drop i).map ModT.enc := ⟨_, rfl⟩
  rw [← hRe] at hR hRl hnext ⊢
  simp only [← hRe] at hnR
  clear hRe hct hle hnn hlen1
  obtain ⟨ki, hkie⟩ : ∃ ki, ki = k + cntMs (l.take i) := ⟨_, rfl⟩
  rw [← hkie] at hki0 hki hK hnext ⊢
  clear hkie
  have hmO := c_laws_markOpS' (SizeOf.sizeOf m.ops + 1) m.ops ki false (fun x hx => by have := List.sizeOf_lt_of_mem hx; omega) hm1 hm2 hki0 (by omega)
  obtain ⟨ops, jm, cc⟩ := m
  dsimp only at hm1 hm2 hm3 hin hki hK hmO
  obtain ⟨k1, hk1⟩ : ∃ k1, k1 = ki + cntOps ops := ⟨_, rfl⟩
  obtain ⟨k2, hk2⟩ : ∃ k2, k2 = k1 + (jm.length : Int) := ⟨_, rfl⟩
  obtain ⟨k3, hk3⟩ : ∃ k3, k3 = k2 + 1 := ⟨_, rfl⟩
  have w1 : IntKind.wrap .i64 (k2 + 1) = k3 := by rw [hk3]; exact i64_wrap (by omega) (by omega)
  have hmJ := c_laws_markIntS false jm k1 hm3 (by omega) (by omega)
  rw [← hk1] at hmO
  rw [← hk2] at hmJ
  have hK3 : ki + (cntOps ops + (jm.length : Int) + 1) = k3 := by omega
  rw [hK3] at hK
  have hx : (mkMod ⟨ops, jm, cc⟩ ki).enc = [.sl 9 (opRows (mkOps ops ki)), .sl 1 ((marksI k1 jm.length).map encI), .lit (.bool (is3 k2))] := by
    simp only [mkMod, ModT.enc, ← hk1, ← hk2]; rfl
  rw [hx] at hnext
  have hR' : R[i]? = some [.sl 9 (opRows ops), .sl 1 (jm.map encI), .lit (.bool cc)] := hR
  clear hR hx hk1 hk2 hk3 hK3 hki hin
  have i3 : ∀ q : Int, decide (q.tmod 3 = 0) = is3 q := fun q => rfl
  have hil' : (i : Int) < (l.length : Int) := by omega
  simp only [cw] at hmO hmJ
  have ih := fun σ' hσ' => ih (i + 1) σ' hσ' (by omega) (by omega)
  rw [hnext, hK] at ih
  have n1 : ∀ sh, nrmRows sh (opRows (mkOps ops ki)) = opRows (mkOps ops ki) := fun sh => by simp
  have n2 : ∀ sh, nrmRows sh ((marksI k1 jm.length).map encI) = (marksI k1 jm.length).map encI := fun sh => nrm_encI sh _
  generalize opRows (mkOps ops ki) = OR at hmO ih n1
  generalize (marksI k1 jm.length).map encI = JR at hmJ ih n2
  clear hnext
  simp [hR', gat hR', hRl, hil, hil', hmO, hmJ, w1, i3]
  exact ih _ (by simp [nrmCRows_set, nrmCRows_ow, ownedRows_set, hnR, n1, n2, hRl, hil, wrap_add i (show i < 2 ^ 62 by omega)])
theorem c_laws_heldModS (l : List ModT) (k : Int) (b : Bool) (hl : l.length ≤ 2 ^ 40) (hs : ∀ m ∈ l, m.Small) (h0 : 0 ≤ k) (h1 : k + cntMs l ≤ 2 ^ 50) :
    cw f_laws_heldModS [.val b (.sl 3 ((mkMods l k).map ModT.enc)), .lit (.int .i64 k)] [] = some (.lit (.int .i64 (k + cntMs l)), []) := by
  refine callW_run (by simp) fs_laws_heldModS rfl rfl rfl ?_
  have hRl : ((mkMods l k).map ModT.enc).length = l.length := by rw [List.length_map, mkMods_len]
  have hRg : ∀ i (h : i < l.length), ((mkMods l k).map ModT.enc)[i]? = some (mkMod l[i] (k + cntMs (l.take i))).enc := fun i h => by
    have h' : i < (mkMods l k).length := by rw [mkMods_len]; exact h
    rw [List.getElem?_map, List.getElem?_eq_getElem h', mkMods_get l k i h h']
    rfl
  generalize (mkMods l k).map ModT.enc = R at hRl hRg ⊢
  simp
  refine Mc.loop_ind (α := Nat) _ _ _ _ (fun i => I_laws_heldModS_0 (.val b (.sl 3 R)) (.lit (.int .i64 (k + cntMs (l.take i)))) (.lit (.int .i64 i)) []) (fun i => l.length - i) (fun i => i ≤ l.length) 0 _ (by simp [cntMs]) (by simp) ?_
  intro i hi ih
  by_cases hil : i < l.length
  rotate_left
  · have hie : i = l.length := by omega
    subst hie
    simp [hRl]
  have hm := hs l[i] (List.getElem_mem hil)
  have hct := cntMs_take l i hil
  have hle := cntMs_le l (i + 1)
  have hnn := cntMs_nn (l.take i)
  have hR := hRg i hil
  clear hRg
  generalize l[i] = m at hm hct hR
  obtain ⟨hm1, hm2, hm3⟩ := hm
  have hin := cntOps_nn m.ops
  have hki0 : 0 ≤ k + cntMs (l.take i) := by omega
  have hki : k + cntMs (l.take i) + (cntOps m.ops + (m.jumps.length : Int) + 1) ≤ 2 ^ 50 := by unfold cntM at hct; omega
  have hK : k + cntMs (l.take (i + 1)) = k + cntMs (l.take i) + (cntOps m.ops + (m.jumps.length : Int) + 1) := by unfold cntM at hct; omega
  clear hct hle hnn
  obtain ⟨ki, hkie⟩ : ∃ ki, ki = k + cntMs (l.take i) := ⟨_, rfl⟩
  rw [← hkie] at hki0 hki hK hR ⊢
  clear hkie
  have hmO := c_laws_heldOpS' (SizeOf.sizeOf m.ops + 1) m.ops ki b (fun x hx => by have := List.sizeOf_lt_of_mem hx; omega) hm1 hm2 hki0 (by omega)
  obtain ⟨ops, jm, cc⟩ := m
  dsimp only at hm1 hm2 hm3 hin hki hK hmO
  obtain ⟨k1, hk1⟩ : ∃ k1, k1 = ki + cntOps ops := ⟨_, rfl⟩
  obtain ⟨k2, hk2⟩ : ∃ k2, k2 = k1 + (jm.length : Int) := ⟨_, rfl⟩
  obtain ⟨k3, hk3⟩ : ∃ k3, k3 = k2 + 1 := ⟨_, rfl⟩
  have w1 : IntKind.wrap .i64 (k2 + 1) = k3 := by rw [hk3]; exact i64_wrap (by omega) (by omega)
  have hmJ := c_laws_heldIntS b jm.length k1 hm3 (by omega) (by omega)
  rw [← hk1] at hmO
  rw [← hk2] at hmJ
  have hK3 : ki + (cntOps ops + (jm.length : Int) + 1) = k3 := by omega
  rw [hK3] at hK
  have hx : (mkMod ⟨ops, jm, cc⟩ ki).enc = [.sl 9 (opRows (mkOps ops ki)), .sl 1 ((marksI k1 jm.length).map encI), .lit (.bool (is3 k2))] := by
    simp only [mkMod, ModT.enc, ← hk1, ← hk2]; rfl
  rw [hx] at hR
  have n1 : ¬ k1 < 0 := by omega
  have n2 : ¬ k2 < 0 := by omega
  clear hx hk1 hk2 hk3 hK3 hki hin
  have i3 : ∀ q : Int, decide (q.tmod 3 = 0) = is3 q := fun q => rfl
  have hil' : (i : Int) < (l.length : Int) := by omega
  simp only [cw] at hmO hmJ
  have ih := fun σ' hσ' => ih (i + 1) σ' hσ' (by omega) (by omega)
  rw [hK] at ih
  generalize opRows (mkOps ops ki) = OR at hmO hR
  generalize (marksI k1 jm.length).map encI = JR at hmJ hR
  simp [hR, gat hR, hRl, hil, hil', hmO, hmJ, w1, i3, n1, n2]
  exact ih _ (by simp [wrap_add i (show i < 2 ^ 62 by omega)])
theorem c_laws_heldIR (l : List ModT) (k : Int) (b : Bool) (hl : l.length ≤ 2 ^ 40) (hs : ∀ m ∈ l, m.Small) (h0 : 0 ≤ k) (h1 : k + cntMs l ≤ 2 ^ 50) :
    cw f_laws_heldIR [.agg b [.sl 3 ((mkMods l k).map ModT.enc)], .lit (.int .i64 k)] [] = some (.lit (.int .i64 (k + cntMs l)), []) := by
  refine callW_run (by simp) fs_laws_heldIR rfl rfl rfl ?_
  have hc := c_laws_heldModS l k b hl hs h0 h1
  have hnn := cntMs_nn l
  have hn : ¬ k + cntMs l < 0 := by omega
  simp only [cw] at hc
  generalize (mkMods l k).map ModT.enc = R at hc ⊢
  generalize k + cntMs l = q at hc hn ⊢
  simp [hc, hn]
theorem c_laws_markIR (l : List ModT) (k : Int) (hl : l.length ≤ 2 ^ 40) (hs : ∀ m ∈ l, m.Small) (h0 : 0 ≤ k) (h1 : k + cntMs l ≤ 2 ^ 50) :
    cw f_laws_markIR [.vw 0 [] 0 1 true, .lit (.int .i64 k)] [{ cells := [.ow (.sl 3 (l.map ModT.enc))] }] = some (.lit (.int .i64 (k + cntMs l)), [some { cells := [.ow (.sl 3 ((mkMods l k).map ModT.enc))] }]) := by
  refine callW_runU (by simp) fs_laws_markIR rfl rfl rfl (by kernel_rfl) ?_
  have hc := c_laws_markModS l k false hl hs h0 h1
  simp only [cw] at hc
  have n1 : ∀ sh, nrmRows sh ((mkMods l k).map ModT.enc) = (mkMods l k).map ModT.enc := fun sh => nrm_encMod sh _
  generalize (mkMods l k).map ModT.enc = R at hc n1 ⊢
  generalize l.map ModT.enc = R0 at hc ⊢
  simp [hc, n1]
end Go.Proofs.YtckojpaklblnpaaGreatDoor.Th
set_option linter.unusedVariables false
set_option linter.unusedSimpArgs false
set_option maxRecDepth 10000
set_option maxHeartbeats 2000000
namespace Go.Proofs.YtckojpaklblnpaaGreatDoor.Th
open Go Go.RowKit Go.Proofs.YtckojpaklblnpaaGreatDoor.Ev
theorem c_laws_eqOpS' : ∀ (N : Nat) (l : List OpT) (b b' : Bool), (∀ x ∈ l, SizeOf.sizeOf x < N) → l.length ≤ 2 ^ 40 → (∀ x ∈ l, x.Small) →
    cw f_laws_eqOpS [.val b (.sl 9 (opRows l)), .val b' (.sl 9 (opRows l))] [] = some (.lit (.bool true), []) := by
  intro N
  induction N with
  | zero =>
    intro l b b' hN hl hs
    cases l with
    | cons x r => exact absurd (hN x (by simp)) (Nat.not_lt_zero _)
    | nil =>
      refine callW_run (by simp) fs_laws_eqOpS rfl rfl rfl ?_
      simp [Mc.at_loop, opRows]
  | succ N ihN =>
    intro l b b' hN hl hs
    have one : ∀ x ∈ l, cw f_laws_eqOp [.agg b x.enc, .agg b' x.enc] [] = some (.lit (.bool true), []) := by
      intro x hx
      refine callW_run (by simp) fs_laws_eqOp rfl rfl rfl ?_
      obtain ⟨hx1, hx2, hx3⟩ := (hs x hx).inv
      have hins : ∀ y ∈ x.inl, SizeOf.sizeOf y < N := fun y hy => by have := OpT.mem_lt hy; have := hN x hx; omega
      have h1 := ihN x.inl b b' hins hx2 hx3
      have h2 := c_laws_eqByteS b b' x.tag x.tag (by omega)
      rw [decide_eq_true rfl] at h2
      rw [OpT.enc_eq]
      simp only [cw] at h1 h2
      unfold opRows at h1
      generalize x.inl.map OpT.enc = IR at h1 ⊢
      generalize x.tag.map encB = TG at h2 ⊢
      generalize x.num = x1
      generalize x.kind = x2
      generalize x.ref = x3
      generalize x.rep = x4
      generalize x.oneof = x5
      generalize x.quick = x6
      generalize x.run = x7
      simp [h1, h2]
    refine callW_run (by simp) fs_laws_eqOpS rfl rfl rfl ?_
    have hRl : (opRows l).length = l.length := opRows_len l
    have hRg : ∀ i (h : i < l.length), (opRows l)[i]? = some l[i].enc := fun i h => by
      unfold opRows
      rw [List.getElem?_map, List.getElem?_eq_getElem h]
      rfl
    generalize opRows l = R at hRl hRg ⊢
    simp [hRl]
    refine Mc.loop_ind (α := Nat) _ _ _ _ (fun i => I_laws_eqOpS_0 (.val b (.sl 9 R)) (.val b' (.sl 9 R)) (.lit (.int .i64 i)) []) (fun i => l.length - i) (fun i => i ≤ l.length) 0 _ (by simp) (by simp) ?_
    intro i hi ih
    by_cases hil : i < l.length
    rotate_left
    · simp [hRl, hil]
    have hR := hRg i hil
    have hc := one l[i] (List.getElem_mem hil)
    have hil' : (i : Int) < (l.length : Int) := by omega
    rw [OpT.enc_eq] at hR hc
    simp only [cw] at hc
    clear hRg one
    generalize l[i].inl.map OpT.enc = IR at hR hc
    generalize l[i].tag.map encB = TG at hR hc
    generalize l[i].num = x1 at hR hc
    generalize l[i].kind = x2 at hR hc
    generalize l[i].ref = x3 at hR hc
    generalize l[i].rep = x4 at hR hc
    generalize l[i].oneof = x5 at hR hc
    generalize l[i].quick = x6 at hR hc
    generalize l[i].run = x7 at hR hc
    simp [hR, gat hR, hRl, hil, hil', hc]
    exact ⟨.b (by kernel_rfl), ih (i + 1) _ (by simp [wrap_add i (show i < 2 ^ 62 by omega)]) (by omega) (by omega)⟩
theorem c_laws_eqMod (m : ModT) (b b' : Bool) (hs : m.Small) : cw f_laws_eqMod [.agg b m.enc, .agg b' m.enc] [] = some (.lit (.bool true), []) := by
  refine callW_run (by simp) fs_laws_eqMod rfl rfl rfl ?_
  obtain ⟨hm1, hm2, hm3⟩ := hs
  have h1 := c_laws_eqOpS' (SizeOf.sizeOf m.ops + 1) m.ops b b' (fun x hx => by have := List.sizeOf_lt_of_mem hx; omega) hm1 hm2
  have h2 := c_laws_eqIntS b b' m.jumps m.jumps (by omega)
  rw [decide_eq_true rfl] at h2
  obtain ⟨ops, jm, cc⟩ := m
  dsimp only at h1 h2
  unfold ModT.enc
  simp only [cw] at h1 h2
  unfold opRows at h1
  generalize ops.map OpT.enc = IR at h1 ⊢
  generalize jm.map encI = TG at h2 ⊢
  simp [h1, h2]
theorem c_laws_eqModS (l : List ModT) (b b' : Bool) (hl : l.length ≤ 2 ^ 40) (hs : ∀ m ∈ l, m.Small) : cw f_laws_eqModS [.val b (.sl 3 (l.map ModT.enc)), .val b' (.sl 3 (l.map ModT.enc))] [] = some (.lit (.bool true), []) := by
  refine callW_run (by simp) fs_laws_eqModS rfl rfl rfl ?_
  have hRl : (l.map ModT.enc).length = l.length := List.length_map _
  have hRg : ∀ i (h : i < l.length), (l.map ModT.enc)[i]? = some l[i].enc := fun i h => by
    rw [List.getElem?_map, List.getElem?_eq_getElem h]
    rfl
  generalize l.map ModT.enc = R at hRl hRg ⊢
  simp [hRl]
  refine Mc.loop_ind (α := Nat) _ _ _ _ (fun i => I_laws_eqModS_0 (.val b (.sl 3 R)) (.val b' (.sl 3 R)) (.lit (.int .i64 i)) []) (fun i => l.length - i) (fun i => i ≤ l.length) 0 _ (by simp) (by simp) ?_
  intro i hi ih
  by_cases hil : i < l.length
  rotate_left
  · simp [hRl, hil]
  have hR := hRg i hil
  have hc := c_laws_eqMod l[i] b b' (hs _ (List.getElem_mem hil))
  have hil' : (i : Int) < (l.length : Int) := by omega
  unfold ModT.enc at hR hc
  simp only [cw] at hc
  clear hRg
  generalize l[i].ops.map OpT.enc = IR at hR hc
  generalize l[i].jumps.map encI = TG at hR hc
  generalize l[i].cached = x1 at hR hc
  simp [hR, gat hR, hRl, hil, hil', hc]
  exact ⟨.b (by kernel_rfl), ih (i + 1) _ (by simp [wrap_add i (show i < 2 ^ 62 by omega)]) (by omega) (by omega)⟩
theorem c_laws_eqIR (l : List ModT) (b b' : Bool) (hl : l.length ≤ 2 ^ 40) (hs : ∀ m ∈ l, m.Small) : cw f_laws_eqIR [.agg b [.sl 3 (l.map ModT.enc)], .agg b' [.sl 3 (l.map ModT.enc)]] [] = some (.lit (.bool true), []) := by
  refine callW_run (by simp) fs_laws_eqIR rfl rfl rfl ?_
  have hc := c_laws_eqModS l b b' hl hs
  simp only [cw] at hc
  generalize l.map ModT.enc = R at hc ⊢
  simp [hc]
end Go.Proofs.YtckojpaklblnpaaGreatDoor.Th
