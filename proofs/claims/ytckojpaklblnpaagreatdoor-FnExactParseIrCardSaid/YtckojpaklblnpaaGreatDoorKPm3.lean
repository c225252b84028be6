/- What the harness reads back of Ops. -/
import Derived.Test.YtckojpaklblnpaaGreatDoorKG1
import Derived.Test.YtckojpaklblnpaaGreatDoorKG7
set_option linter.unusedVariables false
set_option linter.unusedSimpArgs false
set_option maxRecDepth 10000
set_option maxHeartbeats 2000000
namespace Go.Proofs.YtckojpaklblnpaaGreatDoor.Th
open Go Go.RowKit Go.Proofs.YtckojpaklblnpaaGreatDoor.Ev
theorem c_laws_heldOpS' : ∀ (N : Nat) (l : List OpT) (k : Int) (b : Bool), (∀ x ∈ l, SizeOf.sizeOf x < N) → l.length ≤ 2 ^ 40 → (∀ x ∈ l, x.Small) → 0 ≤ k → k + cntOps l ≤ 2 ^ 50 →
    cw f_laws_heldOpS [.val b (.sl 9 (opRows (mkOps l k))), .lit (.int .i64 k)] [] = some (.lit (.int .i64 (k + cntOps l)), []) := by
  intro N
  induction N with
  | zero =>
    intro l k b hN hl hs h0 h1
    cases l with
    | cons x r => exact absurd (hN x (by simp)) (Nat.not_lt_zero _)
    | nil =>
      refine callW_run (by simp) fs_laws_heldOpS rfl rfl rfl ?_
      simp [Mc.at_loop, opRows, cntOps, mkOps]
  | succ N ihN =>
    intro l k b hN hl hs h0 h1
    refine callW_run (by simp) fs_laws_heldOpS rfl rfl rfl ?_
    have hRl : (opRows (mkOps l k)).length = l.length := by rw [opRows_len, mkOps_len]
    have hRg : ∀ i (h : i < l.length), (opRows (mkOps l k))[i]? = some (mkOp l[i] (k + cntOps (l.take i))).enc := fun i h => by
      have h' : i < (mkOps l k).length := by rw [mkOps_len]; exact h
      unfold opRows
      rw [List.getElem?_map, List.getElem?_eq_getElem h', mkOps_get l k i h h']
      rfl
    generalize opRows (mkOps l k) = R at hRl hRg ⊢
    simp
    refine Mc.loop_ind (α := Nat) _ _ _ _ (fun i => I_laws_heldOpS_0 (.val b (.sl 9 R)) (.lit (.int .i64 (k + cntOps (l.take i)))) (.lit (.int .i64 i)) []) (fun i => l.length - i) (fun i => i ≤ l.length) 0 _ (by simp [cntOps]) (by simp) ?_
    intro i hi ih
    by_cases hil : i < l.length
    rotate_left
    · have hie : i = l.length := by omega
      subst hie
      simp [hRl]
    have hx := hs l[i] (List.getElem_mem hil)
    have hxN := hN l[i] (List.getElem_mem hil)
    have hct := cntOps_take l i hil
    have hle := cntOps_le l (i + 1)
    have hnn := cntOps_nn (l.take i)
    have hR := hRg i hil
    clear hRg
    generalize l[i] = x at hx hxN hct hR
    obtain ⟨hx1, hx2, hx3⟩ := hx.inv
    have hin := cntOps_nn x.inl
    have hcx := cntOp_eq x
    rw [mkOp_eq, OpT.enc_eq] at hR
    have hki0 : 0 ≤ k + cntOps (l.take i) := by omega
    have hki : k + cntOps (l.take i) + (7 + (x.tag.length : Int) + cntOps x.inl) ≤ 2 ^ 50 := by omega
    have hK : k + cntOps (l.take (i + 1)) = k + cntOps (l.take i) + (7 + (x.tag.length : Int) + cntOps x.inl) := by omega
    have hins : ∀ y ∈ x.inl, SizeOf.sizeOf y < N := fun y hy => by have := OpT.mem_lt hy; omega
    clear hct hle hnn hcx hxN
    obtain ⟨ki, hkie⟩ : ∃ ki, ki = k + cntOps (l.take i) := ⟨_, rfl⟩
    rw [← hkie] at hki0 hki hK hR ⊢
    clear hkie
    have hmI := fun (kk : Int) (a : 0 ≤ kk) (c : kk + cntOps x.inl ≤ 2 ^ 50) => ihN x.inl kk b hins hx2 hx3 a c
    have hmB := fun (kk : Int) (a : 0 ≤ kk) (c : kk ≤ 2 ^ 50) => c_laws_heldByteS b x.tag.length kk hx1 a c
    obtain ⟨xa, xb, xc, xd, xe, xt, xg, xh, xi⟩ := x
    simp only [OpT.num, OpT.kind, OpT.ref, OpT.rep, OpT.oneof, OpT.tag, OpT.quick, OpT.run, OpT.inl] at hR hmI hmB hki hin hx1 hx2 hK
    obtain ⟨k1, hk1⟩ : ∃ k1, k1 = ki + 1 := ⟨_, rfl⟩
    obtain ⟨k2, hk2⟩ : ∃ k2, k2 = ki + 2 := ⟨_, rfl⟩
    obtain ⟨k3, hk3⟩ : ∃ k3, k3 = ki + 3 := ⟨_, rfl⟩
    obtain ⟨k4, hk4⟩ : ∃ k4, k4 = ki + 4 := ⟨_, rfl⟩
    obtain ⟨k5, hk5⟩ : ∃ k5, k5 = ki + 5 := ⟨_, rfl⟩
    have w1 : IntKind.wrap .i64 (ki + 1) = k1 := by rw [hk1]; exact i64_wrap (by omega) (by omega)
    have w2 : IntKind.wrap .i64 (k1 + 1) = k2 := by rw [i64_wrap (by omega) (by omega)]; omega
    have w3 : IntKind.wrap .i64 (k2 + 1) = k3 := by rw [i64_wrap (by omega) (by omega)]; omega
    have w4 : IntKind.wrap .i64 (k3 + 1) = k4 := by rw [i64_wrap (by omega) (by omega)]; omega
    have w5 : IntKind.wrap .i64 (k4 + 1) = k5 := by rw [i64_wrap (by omega) (by omega)]; omega
    have hmB := hmB k5 (by omega) (by omega)
    obtain ⟨k6, hk6⟩ : ∃ k6, k6 = k5 + (xt.length : Int) := ⟨_, rfl⟩
    obtain ⟨k7, hk7⟩ : ∃ k7, k7 = ki + 6 + (xt.length : Int) := ⟨_, rfl⟩
    obtain ⟨k8, hk8⟩ : ∃ k8, k8 = ki + 7 + (xt.length : Int) := ⟨_, rfl⟩
    have w7 : IntKind.wrap .i64 (k6 + 1) = k7 := by rw [i64_wrap (by omega) (by omega)]; omega
    have w8 : IntKind.wrap .i64 (k7 + 1) = k8 := by rw [i64_wrap (by omega) (by omega)]; omega
    have hmI := hmI k8 (by omega) (by omega)
    have hk6' : ki + 5 + (xt.length : Int) = k6 := by omega
    obtain ⟨k9, hk9⟩ : ∃ k9, k9 = k8 + cntOps xi := ⟨_, rfl⟩
    have hk9' : ki + (7 + (xt.length : Int) + cntOps xi) = k9 := by omega
    rw [← hk6] at hmB
    rw [← hk9] at hmI
    rw [hk9'] at hK
    rw [← hk1, ← hk2, ← hk3, ← hk4, hk6', ← hk7, ← hk8, ← hk5] at hR
    have i3 : ∀ q : Int, decide (q.tmod 3 = 0) = is3 q := fun q => rfl
    have n6 : ¬ k6 < 0 := by omega
    have n9 : ¬ k9 < 0 := by omega
    simp only [cw] at hmB hmI
    unfold opRows at hmI
    have hil' : (i : Int) < (l.length : Int) := by omega
    have ih := fun σ' hσ' => ih (i + 1) σ' hσ' (by omega) (by omega)
    rw [hK] at ih
    clear hk1 hk2 hk3 hk4 hk5 hk6 hk7 hk8 hk9 hk6' hk9' hki hki0 hin hK
    simp [hR, gat hR, hRl, hil, hil', w1, w2, w3, w4, w5, w7, w8, i3, hmB, hmI, n6, n9, OpT.num, OpT.kind, OpT.ref, OpT.rep, OpT.oneof, OpT.tag, OpT.quick, OpT.run, OpT.inl]
    exact ih _ (by simp [wrap_add i (show i < 2 ^ 62 by omega)])
end Go.Proofs.YtckojpaklblnpaaGreatDoor.Th
