/- What the harness writes into Ops: the walk. -/
import Derived.Test.YtckojpaklblnpaaGreatDoorKG1
import Derived.Test.YtckojpaklblnpaaGreatDoorKG7
set_option linter.unusedVariables false
set_option linter.unusedSimpArgs false
set_option maxRecDepth 10000
set_option maxHeartbeats 2000000
namespace Go.Proofs.YtckojpaklblnpaaGreatDoor.Th
open Go Go.RowKit Go.Proofs.YtckojpaklblnpaaGreatDoor.Ev
theorem c_laws_markOpS' : ∀ (N : Nat) (l : List OpT) (k : Int) (vr : Bool), (∀ x ∈ l, SizeOf.sizeOf x < N) → l.length ≤ 2 ^ 40 → (∀ x ∈ l, x.Small) → 0 ≤ k → k + cntOps l ≤ 2 ^ 50 →
    cw f_laws_markOpS [.vw 0 [] 0 1 false, .lit (.int .i64 k)] [{ cells := [.ow (.sl 9 (opRows l))], var := vr }] = some (.lit (.int .i64 (k + cntOps l)), [some { cells := [.ow (.sl 9 (opRows (mkOps l k)))], var := vr }]) := by
  intro N
  induction N with
  | zero =>
    intro l k vr hN hl hs h0 h1
    cases l with
    | cons x r => exact absurd (hN x (by simp)) (Nat.not_lt_zero _)
    | nil =>
      refine callW_run (by simp) fs_laws_markOpS rfl rfl rfl ?_
      simp [Mc.at_loop, opRows, cntOps, mkOps]
  | succ N ihN =>
    intro l k vr hN hl hs h0 h1
    refine callW_run (by simp) fs_laws_markOpS rfl rfl rfl ?_
    simp
    refine Mc.loop_ind (α := Nat) _ _ _ _ (fun i => I_laws_markOpS_0 (.vw 0 [] 0 1 false) (.lit (.int .i64 (k + cntOps (l.take i)))) (.lit (.int .i64 i)) [(0, { cells := [.ow (.sl 9 (opRows (mkOps (l.take i) k) ++ opRows (l.drop i)))], var := vr })]) (fun i => l.length - i) (fun i => i ≤ l.length) 0 _ (by simp [mkOps, cntOps, opRows]) (by simp) ?_
    intro i hi ih
    by_cases hil : i < l.length
    rotate_left
    · have hie : i = l.length := by omega
      subst hie
      have hRl : (opRows (mkOps l k)).length = l.length := by rw [opRows_len, mkOps_len]
      have e1 : opRows (mkOps (l.take l.length) k) ++ opRows (l.drop l.length) = opRows (mkOps l k) := by rw [List.take_length, List.drop_length]; simp [opRows]
      have e2 : cntOps (l.take l.length) = cntOps l := by rw [List.take_length]
      rw [e1, e2]
      generalize opRows (mkOps l k) = R at hRl ⊢
      simp [hRl]
    have hlen1 : (opRows (mkOps (l.take i) k)).length = i := by rw [opRows_len, mkOps_len]; simp; omega
    obtain ⟨x, hxe⟩ : ∃ x, x = l[i] := ⟨_, rfl⟩
    have hx := hs l[i] (List.getElem_mem hil)
    have hxN := hN l[i] (List.getElem_mem hil)
    have hct := cntOps_take l i hil
    have hle := cntOps_le l (i + 1)
    have hnn := cntOps_nn (l.take i)
    have hR : (opRows (mkOps (l.take i) k) ++ opRows (l.drop i))[i]? = some l[i].enc := by
      rw [List.getElem?_append_right (by omega), hlen1, Nat.sub_self]
      unfold opRows
      rw [List.getElem?_map, List.getElem?_drop, Nat.add_zero, List.getElem?_eq_getElem hil]
      rfl
    have hRl : (opRows (mkOps (l.take i) k) ++ opRows (l.drop i)).length = l.length := by rw [List.length_append, hlen1, opRows_len, List.length_drop]; omega
    have hnR : ∀ sh, nrmRows sh (opRows (mkOps (l.take i) k) ++ opRows (l.drop i)) = opRows (mkOps (l.take i) k) ++ opRows (l.drop i) := fun sh => by simp
    have hnext : opRows (mkOps (l.take (i + 1)) k) ++ opRows (l.drop (i + 1)) = (opRows (mkOps (l.take i) k) ++ opRows (l.drop i)).set i (mkOp l[i] (k + cntOps (l.take i))).enc := by
      have hd : opRows (l.drop i) = l[i].enc :: opRows (l.drop (i + 1)) := by rw [List.drop_eq_getElem_cons hil]; rfl
      rw [mkOps_take l i hil, opRows_snoc, List.set_append_right _ _ (by omega), hlen1, Nat.sub_self, hd, List.set_cons_zero, List.append_assoc]
      rfl
    rw [← hxe] at hx hxN hct hR hnext
    clear hxe
    obtain ⟨hx1, hx2, hx3⟩ := hx.inv
    have hin := cntOps_nn x.inl
    have hcx := cntOp_eq x
    rw [mkOp_eq, OpT.enc_eq] at hnext
    rw [OpT.enc_eq] at hR
    have hki0 : 0 ≤ k + cntOps (l.take i) := by omega
    have hki : k + cntOps (l.take i) + (7 + (x.tag.length : Int) + cntOps x.inl) ≤ 2 ^ 50 := by omega
    have hK : k + cntOps (l.take (i + 1)) = k + cntOps (l.take i) + (7 + (x.tag.length : Int) + cntOps x.inl) := by omega
    have hins : ∀ y ∈ x.inl, SizeOf.sizeOf y < N := fun y hy => by have := OpT.mem_lt hy; omega
    obtain ⟨R, hRe⟩ : ∃ R, R = opRows (mkOps (l.take i) k) ++ opRows (l.drop i) := ⟨_, rfl⟩
    rw [← hRe] at hR hRl hnext ⊢
    simp only [← hRe] at hnR
    clear hRe hct hle hnn hcx hxN hlen1
    obtain ⟨ki, hkie⟩ : ∃ ki, ki = k + cntOps (l.take i) := ⟨_, rfl⟩
    rw [← hkie] at hki0 hki hK hnext ⊢
    clear hkie
    have hmI := fun (kk : Int) (a : 0 ≤ kk) (b : kk + cntOps x.inl ≤ 2 ^ 50) => ihN x.inl kk false hins hx2 hx3 a b
    have hmB := fun (kk : Int) (a : 0 ≤ kk) (b : kk ≤ 2 ^ 50) => c_laws_markByteS false x.tag kk hx1 a b
    obtain ⟨xa, xb, xc, xd, xe, xt, xg, xh, xi⟩ := x
    simp only [OpT.num, OpT.kind, OpT.ref, OpT.rep, OpT.oneof, OpT.tag, OpT.quick, OpT.run, OpT.inl] at hnext hR hmI hmB hki hin hx1 hx2 hK
    obtain ⟨k1, hk1⟩ : ∃ k1, k1 = ki + 1 := ⟨_, rfl⟩
    obtain ⟨k2, hk2⟩ : ∃ k2, k2 = ki + 2 := ⟨_, rfl⟩
    obtain ⟨k3, hk3⟩ : ∃ k3, k3 = ki + 3 := ⟨_, rfl⟩
    obtain ⟨k4, hk4⟩ : ∃ k4, k4 = ki + 4 := ⟨_, rfl⟩
    obtain ⟨k5, hk5⟩ : ∃ k5, k5 = ki + 5 := ⟨_, rfl⟩
    have w1 : IntKind.wrap .i64 (ki + 1) = k1 := by rw [hk1]; exact i64_wrap (by omega) (by omega)
    have w2 : IntKind.wrap .i64 (k1 + 1) = k2 := by rw [i64_wrap (by omega) (by omega)]; omega
    have w3 : IntKind.wrap .i64 (k2 + 1) = k3 := by rw [i64_wrap (by omega) (by omega)]; omega
    have w4 : IntKind.wrap .i64 (k3 + 1) = k4 := by rw [i64_wrap (by omega) (by omega)]; omega
    have w5 : IntKind.wrap .i64 (k4 + 1) = k5 := by rw [i64_wrap (by omega) (by omega)]; omega
    have hmB := hmB k5 (by omega) (by omega)
    obtain ⟨k6, hk6⟩ : ∃ k6, k6 = k5 + (xt.length : Int) := ⟨_, rfl⟩
    obtain ⟨k7, hk7⟩ : ∃ k7, k7 = ki + 6 + (xt.length : Int) := ⟨_, rfl⟩
    obtain ⟨k8, hk8⟩ : ∃ k8, k8 = ki + 7 + (xt.length : Int) := ⟨_, rfl⟩
    have w7 : IntKind.wrap .i64 (k6 + 1) = k7 := by rw [i64_wrap (by omega) (by omega)]; omega
    have w8 : IntKind.wrap .i64 (k7 + 1) = k8 := by rw [i64_wrap (by omega) (by omega)]; omega
    have hmI := hmI k8 (by omega) (by omega)
    have hk6' : ki + 5 + (xt.length : Int) = k6 := by omega
    obtain ⟨k9, hk9⟩ : ∃ k9, k9 = k8 + cntOps xi := ⟨_, rfl⟩
    have hk9' : ki + (7 + (xt.length : Int) + cntOps xi) = k9 := by omega
    rw [← hk6] at hmB
    rw [← hk9] at hmI
    rw [hk9'] at hK
    rw [← hk1, ← hk2, ← hk3, ← hk4, hk6', ← hk7, ← hk8, ← hk5] at hnext
    have i3 : ∀ q : Int, decide (q.tmod 3 = 0) = is3 q := fun q => rfl
    simp only [cw] at hmB hmI
    unfold opRows at hmI
    have hil' : (i : Int) < (l.length : Int) := by omega
    refine cutG 1 _ fun c hc => ?_
    simp only [Code.graft]
    simp [hRl, hil]
    subst hc
    simp only [Code.drop]
    rw [Mc.at_seq, Mc.at_block]
    refine cutK _ fun K hK => ?_
    refine cutG 6 _ fun c1 hc1 => ?_
    simp only [Code.graft]
    simp [hR, gat hR, hRl, hil, w1, w2, w3]
    subst hc1
    simp only [Code.drop]
    refine cutG 4 _ fun c2 hc2 => ?_
    simp only [Code.graft]
    simp [hR, gat hR, hRl, hil, w3, w4, w5, i3]
    subst hc2
    simp only [Code.drop]
    refine cutG 2 _ fun c3 hc3 => ?_
    simp only [Code.graft]
    simp [hR, gat hR, hRl, hil, hmB, i3]
    subst hc3
    simp only [Code.drop]
    refine cutG 3 _ fun c4 hc4 => ?_
    simp only [Code.graft]
    simp [hR, gat hR, hRl, hil, w7, w8]
    subst hc4
    subst hK
    simp only [Code.drop]
    simp [hR, gat hR, hRl, hil, hmI]
    refine ih (i + 1) _ ?_ (by omega) (by omega)
    rw [hnext, hK]
    simp [nrmCRows_set, nrmCRows_ow, ownedRows_set, hnR, hRl, hil, wrap_add i (show i < 2 ^ 62 by omega), opRows]
end Go.Proofs.YtckojpaklblnpaaGreatDoor.Th
