/- Streams, read by the program. -/
import Derived.Test.YtmkhdnpnjjdgfaaComm
import Derived.Test.YtmkhdnpnjjdgfaaScan2
set_option linter.unusedVariables false
set_option linter.unusedSimpArgs false
set_option maxRecDepth 10000
set_option maxHeartbeats 2000000
namespace Go.Proofs.Ytmkhdnpnjjdgfaa.Th
open Go Go.RowKit Go.Proofs.Ytmkhdnpnjjdgfaa.Ev
open Go.Proofs.Ytmkhdnpnjjdgfaa.Wire

theorem le_fixedN : ∀ (n x : Nat), le (fixedN x n) = ((x % 256 ^ n : Nat) : Int)
  | 0, x => by simp [fixedN, le, Nat.mod_one]
  | n + 1, x => by
    rw [fixedN, le, le_fixedN n (x / 256), Nat.pow_succ, Nat.mul_comm (256 ^ n) 256, Nat.mod_mul]
    omega

theorem fixedN_le : ∀ (w : List Int), IsB w → fixedN (le w).toNat w.length = w
  | [], _ => rfl
  | c :: r, h => by
    have hc := h c (by simp)
    have hr : IsB r := fun x hx => h x (by simp [hx])
    have hl := le_range hr
    have ih := fixedN_le r hr
    simp only [List.length_cons, fixedN, le]
    have e1 : (c + 256 * le r).toNat / 256 = (le r).toNat := by omega
    have e2 : (((c + 256 * le r).toNat % 256 : Nat) : Int) = c := by omega
    rw [e1, e2, ih]

theorem fixed_eq (x : Nat) (w : List Int) (hx : x < 4294967296) (hw : IsB w) (hl : w.length = 4) : fixedN x 4 = w ↔ le w = (x : Int) := by
  constructor
  · intro e
    rw [← e, le_fixedN]
    omega
  · intro e
    have := fixedN_le w hw
    rw [e, hl, Int.toNat_natCast] at this
    exact this

theorem c_impl_GetFixed4 (b : Bool) (l : List Int) (hB : IsB l) (h : l.length ≤ 2 ^ 46) (a : Nat) (ha : a + 4 ≤ l.length) : cw f_impl_GetFixed [.val b (.sl 1 (l.map encB)), .lit (.int .i64 ((a : Nat) : Int)), .lit (.int .i64 4)] [] = some (tri (le ((l.drop a).take 4), ((a + 4 : Nat) : Int), 0), []) := by
  refine callW_run (by simp) fs_impl_GetFixed rfl rfl rfl ?_
  have h0 := c_impl_within a 0 l.length
  simp only [cw, decide_eq_true (show (0 : Int) ≤ (a : Int) ∧ (a : Int) ≤ l.length by omega)] at h0
  have hw1 : IntKind.wrap .i64 ((l.length : Int) - a) = (l.length : Int) - a := i64_wrap (by omega) (by omega)
  have hge : ¬ ((l.length : Int) - a < 4) := by omega
  simp [h0, hw1, hge]
  refine Mc.loop_ind (α := Nat × Int) _ _ _ _ (fun x => I_impl_GetFixed_0 (.val b (.sl 1 (l.map encB))) (.lit (.int .i64 a)) (.lit (.int .i64 4)) (.lit (.int .u64 x.2)) (.lit (.int .i64 x.1)) []) (fun x => 4 - x.1) (fun x => x.1 ≤ 4 ∧ x.2 = le ((l.drop a).take x.1)) (0, 0) _ (by simp) (by simp [le]) ?_
  intro ⟨i, u⟩ ⟨hi, hu⟩ ih
  dsimp only at hi hu
  have hIB : IsB ((l.drop a).take i) := fun y hy => hB y (List.mem_of_mem_drop (List.mem_of_mem_take hy))
  have hlr := le_range hIB
  have hlen : ((l.drop a).take i).length = i := by simp only [List.length_take, List.length_drop]; omega
  rw [hlen, ← hu] at hlr
  by_cases hl : i < 4
  · have hl' : (i : Int) < 4 := by omega
    have hlt : a + i < l.length := by omega
    have hc := hB l[a + i] (List.getElem_mem hlt)
    have hsn := take_snoc_getD l a i hlt
    have hgd : l.getD (a + i) 0 = l[a + i] := by simp [hlt]
    have hs := fix_or i (by omega) u l[a + i] hlr.1 hlr.2 hc.1 hc.2
    have hle : le ((l.drop a).take (i + 1)) = u + l[a + i] * p8 i := by rw [hsn, le_snoc, hlen, ← hu, hgd]
    generalize u + l[a + i] * p8 i = u' at hs hle
    have hw : IntKind.wrap .i64 ((a : Int) + i) = (a : Int) + i := i64_wrap (by omega) (by omega)
    have hnn : ¬ ((a : Int) + i < 0) := by omega
    have hto : ((a : Int) + i).toNat = a + i := by omega
    have hw8 : IntKind.wrap .i64 (8 * (i : Int)) = 8 * (i : Int) := i64_wrap (by omega) (by omega)
    have hn8 : ¬ (8 * (i : Int) < 0) := by omega
    rw [← w64, hw8] at hs
    simp [hl', hw, hlt, hnn, hto, encB, hw8, hn8, hs, wrap_add i (by omega)]
    exact ih (i + 1, u') _ (by simp) ⟨by simp; omega, hle.symm⟩ (by simp; omega)
  · have h4 : i = 4 := by omega
    subst h4
    have hp : p8 4 = 4294967296 := by rw [p8_eq]; rfl
    have hwu : IntKind.wrap .i64 u = u := i64_wrap (by omega) (by omega)
    have hwa : IntKind.wrap .i64 ((a : Int) + 4) = (a : Int) + 4 := i64_wrap (by omega) (by omega)
    simp [hwu, hwa, tri, ← hu]

theorem c_impl_Scan (b : Bool) (l : List Int) (hB : IsB l) (h : l.length ≤ 2 ^ 40) : cw f_impl_Scan [.val b (.sl 1 (l.map encB))] [] = some (scanV true (scanT l), []) := by
  refine callW_run (by simp) fs_impl_Scan rfl rfl rfl ?_
  unfold scanT
  by_cases hlen : 60000 < l.length
  · have hlen' : (60000 : Int) < l.length := by omega
    simp [hlen, hlen', scanV]
  · have hlen' : ¬ (60000 : Int) < l.length := by omega
    simp [hlen, hlen']
    refine Mc.loop_ind (α := Nat × Nat × List (List Int)) _ _ _ _ (fun x => I_impl_Scan_0 (.val b (.sl 1 (l.map encB))) (if x.2.2 = [] then .nils else .vw 104 [] 0 1 false) (.lit (.int .i64 x.2.1)) (if x.2.2 = [] then [] else [(104, { cells := [.ow (.sl 1 (x.2.2.map (encS 1 encB)))], var := true })])) (fun x => x.1) (fun x => l.length ≤ x.2.1 + x.1 ∧ x.2.1 ≤ l.length ∧ x.2.2.length ≤ x.2.1 ∧ scanF l x.1 x.2.1 x.2.2 = scanF l l.length 0 []) (l.length, 0, []) _ (by simp) (by simp) ?_
    intro ⟨f, a, acc⟩ ⟨hf, ha, hacc, hr⟩ ih
    dsimp only at hf ha hacc hr
    by_cases hl : a < l.length
    · obtain ⟨f, rfl⟩ : ∃ g, f = g + 1 := ⟨f - 1, by omega⟩
      rw [scanF, if_neg (by omega)] at hr
      have hc := c_impl_GetVarint b l hB (by omega) a
      have ht := getVarint_tells l a
      have hrg := getVarint_range l a
      simp only [cw, tri] at hc
      have hst := @stepS_lt l a
      unfold stepS at hr hst
      generalize getVarint l a = v at hc hr ht hst hrg
      obtain ⟨x, y, z⟩ := v
      dsimp only at hc hr ht hst hrg
      by_cases h0 : acc = []
      all_goals
        by_cases hz1 : z = 1
        · rw [if_pos hz1] at hr
          dsimp only at hr
          simp [h0, hl, hc, hz1, ← hr, scanV]
        · rw [if_neg hz1] at hr hst
          have hin := c_impl_within x 0 5000
          simp only [cw] at hin
          by_cases hz0 : z = 0
          · subst hz0
            by_cases hx : 0 ≤ x ∧ x ≤ 5000
            · obtain ⟨n, rfl⟩ := Int.eq_ofNat_of_zero_le hx.1
              obtain ⟨p, rfl⟩ : ∃ p : Nat, y = (p : Int) := ⟨y.toNat, by omega⟩
              have hp : a < p ∧ p ≤ l.length := by omega
              have hn : n ≤ 5000 := by omega
              have hpv := c_impl_PutVarint n (by omega)
              simp only [cw] at hpv
              simp only [decide_eq_true hx] at hin
              simp only [Int.toNat_natCast] at hr hst
              have hw1 : IntKind.wrap .i64 ((p : Int) - a) = (p : Int) - a := i64_wrap (by omega) (by omega)
              by_cases hvl : ((varint n).length : Int) = (p : Int) - a
              · rw [if_neg (by simp; omega)] at hr hst
                have hw2 : IntKind.wrap .i64 ((l.length : Int) - p) = (l.length : Int) - p := i64_wrap (by omega) (by omega)
                have hw3 : IntKind.wrap .i64 ((n : Int) + 4) = (n : Int) + 4 := i64_wrap (by omega) (by omega)
                by_cases hsh : (l.length : Int) - p < (n : Int) + 4
                · rw [if_pos hsh] at hr
                  simp [h0, hl, hc, hin, hpv, hw1, hvl, hw2, hw3, hsh, ← hr, scanV]
                · rw [if_neg hsh] at hr hst
                  have hpn : p + n + 4 ≤ l.length := by omega
                  have hw4 : IntKind.wrap .i64 ((p : Int) + n) = (p : Int) + n := i64_wrap (by omega) (by omega)
                  have hw5 : IntKind.wrap .i64 ((p : Int) + n + 4) = (p : Int) + n + 4 := i64_wrap (by omega) (by omega)
                  have hx' : List.take n (List.drop p (List.map encB l)) = ((l.drop p).take n).map encB := by rw [List.map_take, List.map_drop]
                  have hw' : List.take 4 (List.drop (p + n) (List.map encB l)) = ((l.drop (p + n)).take 4).map encB := by rw [List.map_take, List.map_drop]
                  have hxB : IsB ((l.drop p).take n) := fun y hy => hB y (List.mem_of_mem_drop (List.mem_of_mem_take hy))
                  have hxl : ((l.drop p).take n).length ≤ 2 ^ 40 := by simp only [List.length_take, List.length_drop]; omega
                  generalize (l.drop p).take n = x at hr hst hx' hxB hxl
                  have hwB : IsB ((l.drop (p + n)).take 4) := fun y hy => hB y (List.mem_of_mem_drop (List.mem_of_mem_take hy))
                  have hwl : ((l.drop (p + n)).take 4).length = 4 := by simp only [List.length_take, List.length_drop]; omega
                  generalize hwe : (l.drop (p + n)).take 4 = w at hr hst hw' hwB hwl
                  have hfe := fixed_eq (sumN x) w (sumN_lt x) hwB hwl
                  have hs := c_impl_sum32 b x hxB (by omega)
                  have hcb := c_impl_copyBytes b x (by omega)
                  have he := c_impl_GetFixed4 b l hB (by omega) (p + n) (by omega)
                  rw [hwe] at he
                  simp only [cw, tri] at hs he hcb
                  push_cast at he
                  have i1 : (p : Int) + n ≤ l.length := by omega
                  have i2 : (p : Int) + n + 4 ≤ l.length := by omega
                  have i3 : ((p : Int) + n).toNat = p + n := by omega
                  have i4 : ((p : Int) + n + 4).toNat = p + n + 4 := by omega
                  have i5 : (0 : Int) ≤ (p : Int) + n := by omega
                  have i6 : (p : Int) ≤ (p : Int) + n := by omega
                  have i7 : (p : Int) + n ≤ (p : Int) + n + 4 := by omega
                  have i8 : p + n + 4 - (p + n) = 4 := by omega
                  have hm : x.length ≤ 140737488355328 := by omega
                  have hm2 : (acc.length + 1) * 24 ≤ 140737488355328 := by omega
                  by_cases heq : fixedN (sumN x) 4 = w
                  · rw [if_neg (by simpa using heq)] at hr hst
                    rw [(hfe.mp heq)] at he
                    dsimp only at hr
                    obtain ⟨t1, t2, t3, t4, t5⟩ := hst rfl
                    have fin := fun σ' hσ => ih (f, p + n + 4, acc ++ [x]) σ' hσ ⟨by simp; omega, by simp; omega, by simp; omega, hr⟩ (by simp)
                    clear ih
                    dsimp only at fin
                    simp [h0, hl, hc, hin, hpv, hw1, hvl, hw2, hw3, hsh, hw4, hw5, i1, i2, i3, i4, i5, i6, i7, i8, hx', hw', hs, he, hcb, maxBytes, hm, hm2]
                    exact fin _ (by simp [h0, encS] <;> omega)
                  · rw [if_pos (by simpa using heq)] at hr
                    have hne : ¬ le w = (sumN x : Int) := fun e => heq (hfe.mpr e)
                    dsimp only at hr
                    simp [h0, hl, hc, hin, hpv, hw1, hvl, hw2, hw3, hsh, hw4, hw5, i1, i2, i3, i4, i5, i6, i7, i8, hx', hw', hs, he, hne]
                    simp [h0, ← hr, scanV]
              · rw [if_pos (by right; right; exact hvl)] at hr
                simp [h0, hl, hc, hin, hpv, hw1, hvl, ← hr, scanV]
            · rw [if_pos (by right; left; exact hx)] at hr
              simp only [decide_eq_false hx] at hin
              simp [h0, hl, hc, hin, ← hr, scanV]
          · rw [if_pos (by left; exact hz0)] at hr
            have hz2 : z = 2 := by omega
            simp [h0, hl, hc, hz2, ← hr, scanV]
    · have hr' : scanF l f a acc = (acc, a, 0) := by cases f with | zero => rfl | succ f => rw [scanF, if_pos (by omega)]
      rw [hr'] at hr
      by_cases h0 : acc = []
      · simp [h0, hl, ← hr, scanV]
      · simp [h0, hl, ← hr, scanV]

end Go.Proofs.Ytmkhdnpnjjdgfaa.Th
