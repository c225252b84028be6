/- IRs: marksOk. -/
import Derived.Test.YtckojpaklblnpaaGreatDoorKG1
import Derived.Test.YtckojpaklblnpaaGreatDoorKIr11
set_option linter.unusedVariables false
set_option linter.unusedSimpArgs false
set_option maxRecDepth 10000
set_option maxHeartbeats 2000000
namespace Go.Proofs.YtckojpaklblnpaaGreatDoor.Th
open Go Go.RowKit Go.Proofs.YtckojpaklblnpaaGreatDoor.Ev
theorem c_slices_Equal_Lbyte_byte (b b' : Bool) (l k : List Int) (h : l.length ≤ 2 ^ 50) : cw f_slices_Equal_Lbyte_byte [.val b (.sl 1 (l.map encB)), .val b' (.sl 1 (k.map encB))] [] = some (.lit (.bool (decide (l = k))), []) := by
  refine callW_run (by simp) fs_slices_Equal_Lbyte_byte rfl rfl rfl ?_
  by_cases hlen : l.length = k.length
  · simp [hlen]
    refine Mc.loop_ind (α := Nat) _ _ _ _ (fun i => I_slices_Equal_Lbyte_byte_0 (.val b (.sl 1 (l.map encB))) (.val b' (.sl 1 (k.map encB))) (.lit (.int .i64 l.length)) (.lit (.int .i64 i)) []) (fun i => l.length - i) (fun i => i ≤ l.length ∧ l.take i = k.take i) 0 _ (by simp [hlen]) (by simp) ?_
    intro i ⟨hi, ha⟩ ih
    by_cases hl : i < l.length
    · have hl' : i < k.length := by omega
      by_cases ho : l[i] = k[i]
      · skip
        simp [hl, hl', encB, ho, wrap_add i (by omega)]
        refine ⟨.b (by kernel_rfl), ih (i + 1) _ (by simp) ⟨by omega, ?_⟩ (by omega)⟩
        rw [take_next l i hl, take_next k i hl', ha, ho]
      · skip
        simp [hl, hl', encB, ho]
        refine ⟨.b (by kernel_rfl), ?_⟩
        intro e
        subst e
        exact ho rfl
    · simp [hl]
      rw [List.take_of_length_le (by omega), List.take_of_length_le (by omega)] at ha
      exact ha
  · simp [hlen]
    intro e
    subst e
    exact hlen rfl
theorem c_slices_Equal_Lbyte_nil (b : Bool) (l : List Int) (h : l.length ≤ 2 ^ 50) : cw f_slices_Equal_Lbyte_byte [.val b (.sl 1 (l.map encB)), .nils] [] = some (.lit (.bool (decide (l = []))), []) := by
  refine callW_run (by simp) fs_slices_Equal_Lbyte_byte rfl rfl rfl ?_
  cases l with
  | nil =>
    simp
    refine Mc.loop_ind (α := Nat) _ _ _ _ (fun i => I_slices_Equal_Lbyte_byte_0 (.val b (.sl 1 [])) .nils (.lit (.int .i64 0)) (.lit (.int .i64 0)) []) (fun i => 0) (fun i => True) 0 _ (by simp) (by simp) ?_
    intro i _ ih
    simp
  | cons x r =>
    have hn : ¬ ((r.length : Int) + 1 = 0) := by omega
    simp [hn]
theorem marksOk_inl (b b' : Bool) (ms : List ModT) (x : OpT) (h : x.inl.length ≤ 2 ^ 40) (hr : x.kind = 16 → 0 ≤ x.ref ∧ x.ref < ms.length) (c : Code) (hc : some c = Tryz.f89.body.map (Code.drop 4)) (σ : F)
    (hσ : σ.keep (E.trim f_impl_marksOk 13) = J_impl_marksOk_13 (.ptr 88 [(0, 0)] 0) (.ptr 120 [(0, 0)] 0) [(88, boxI b ms), (120, boxO b' x)]) : Mc.at ⟨E, callW E fs, f_impl_marksOk, Tryz.f89.results.toList, 0⟩ c [] σ = some (.lit (.bool (inlineB ms x)), []) := by
  obtain rfl : c = _ := Option.some.inj (hc.trans rfl)
  simp only [Code.drop]
  rw [Mc.at_seq, Mc.at_seq]
  refine (at_region_of _ _ _ _ _ _ hσ).trans ?_
  unfold inlineB
  by_cases h0 : x.inl = []
  · simp [h0]
  by_cases hk : x.kind = 16
  rotate_left
  · have hk' : (x.kind = 16) = False := eq_false hk
    simp [h0, hk']
    exact .b (by kernel_rfl)
  have hk' : (x.kind = 16) = True := eq_true hk
  obtain ⟨hr0, hr1⟩ := hr hk
  obtain ⟨r, hrr⟩ : ∃ r : Nat, x.ref = r := ⟨x.ref.toNat, by omega⟩
  rw [hrr] at hr1
  have hr2 : r < ms.length := by omega
  have hro : refOps ms x.ref = ms[r].ops := by simp [refOps, hrr, hr2]
  have hc := c_EqualFunc b' b x.inl ms[r].ops (by omega)
  simp only [cw] at hc
  rw [hro]
  generalize alikeD x.inl ms[r].ops = al at hc ⊢
  simp [h0, hk', hrr, hr2, ModT.enc, hc]
  exact .b (by kernel_rfl)
theorem marksOk_run (b b' : Bool) (ms : List ModT) (ops : List OpT) (i : Nat) (hi : i < ops.length) (hops : ops.length ≤ 2 ^ 40) (x : OpT) (hx : ops[i] = x) (h : x.inl.length ≤ 2 ^ 40) (hr : x.kind = 16 → 0 ≤ x.ref ∧ x.ref < ms.length) (c : Code) (hc : some c = Tryz.f89.body.map (Code.drop 3)) (σ : F)
    (hσ : σ.keep (E.trim f_impl_marksOk 4) = J_impl_marksOk_4 (.val b' (.sl 9 (ops.map OpT.enc))) (.lit (.int .i64 i)) (.ptr 88 [(0, 0)] 0) (.ptr 120 [(0, 0)] 0) [(88, boxI b ms), (120, boxO b' x)]) : Mc.at ⟨E, callW E fs, f_impl_marksOk, Tryz.f89.results.toList, 0⟩ c [] σ = some (.lit (.bool (runB ops i x && inlineB ms x)), []) := by
  obtain rfl : c = _ := Option.some.inj (hc.trans rfl)
  simp only [Code.drop]
  refine cut1 _ fun c2 hc2 => ?_
  have T2 : ∀ σ : F, σ.keep (E.trim f_impl_marksOk 13) = J_impl_marksOk_13 (.ptr 88 [(0, 0)] 0) (.ptr 120 [(0, 0)] 0) [(88, boxI b ms), (120, boxO b' x)] → Mc.at ⟨E, callW E fs, f_impl_marksOk, Tryz.f89.results.toList, 0⟩ c2 [] σ = some (.lit (.bool (inlineB ms x)), []) := fun σ hσ => marksOk_inl b b' ms x h hr c2 (by rw [hc2]; rfl) σ hσ
  clear hc2 hc
  rw [Mc.at_seq, Mc.at_seq]
  refine (at_region_of _ _ _ _ _ _ hσ).trans ?_
  clear hσ
  generalize inlineB ms x = q9 at T2 ⊢
  unfold runB
  by_cases h0 : x.run = 0
  · simp [h0]
    exact T2 _ (by simp [h0])
  have f6 := c_impl_mayRun b' x
  simp only [cw, OpT.enc_eq] at f6
  have hrw2 : IntKind.wrap .i64 ((ops.length : Int) - i) = (ops.length : Int) - i := i64_wrap (by omega) (by omega)
  by_cases h2 : x.run < 2
  · have hn : ¬ runP ops i x := fun hh => by have := hh.1; omega
    simp [h0, h2, hn]
  by_cases h3 : (ops.length : Int) - i < x.run
  · have hn : ¬ runP ops i x := fun hh => by have := hh.1; omega
    simp [h0, h2, h3, hrw2, hn]
  cases h4 : blockB x with
  | false =>
    have hn : ¬ runP ops i x := fun hh => by have := (hh.2 0 (by omega) (by omega)).1; simp [hx, h4] at this
    rw [h4] at f6
    simp [h0, h2, h3, hrw2, f6, hn]
  | true =>
    rw [h4] at f6
    obtain ⟨n, hn⟩ : ∃ n : Nat, x.run = (n : Int) + 1 := ⟨(x.run - 1).toNat, by omega⟩
    have hw1 : IntKind.wrap .i64 ((i : Int) + 1) = (i : Int) + 1 := i64_wrap (by omega) (by omega)
    have hw2 : IntKind.wrap .i64 ((i : Int) + ((n : Int) + 1)) = (i : Int) + ((n : Int) + 1) := i64_wrap (by omega) (by omega)
    rw [hn] at h0 h2 h3 f6
    have p1 : (0 : Int) ≤ (i : Int) + 1 := by omega
    have p2 : (1 : Int) ≤ (n : Int) + 1 := by omega
    have p3 : (i : Int) + ((n : Int) + 1) ≤ ops.length := by omega
    have p4 : ((i : Int) + ((n : Int) + 1)).toNat - (i + 1) = n := by omega
    have e : List.take n (List.drop (i + 1) (List.map OpT.enc ops)) = ((ops.drop (i + 1)).take n).map OpT.enc := by simp only [List.map_take, List.map_drop]
    have hsl : ((ops.drop (i + 1)).take n).length = n := by simp; omega
    have hsg : ∀ k (hk : k < n), ((ops.drop (i + 1)).take n)[k]? = ops[i + 1 + k]? := fun k hk => by rw [List.getElem?_take_of_lt hk, List.getElem?_drop]
    generalize (ops.drop (i + 1)).take n = seg at hsl hsg e
    have good : ∀ k, k < n → ∀ (h1 : k < seg.length) (h2 : i + (k + 1) < ops.length), ops[i + (k + 1)] = seg[k] := by
      intro k hk h1 h2
      have h3 := hsg k hk
      rw [List.getElem?_eq_getElem h1, List.getElem?_eq_getElem (by omega)] at h3
      have h4 := Option.some.inj h3
      rw [h4]
      congr 1
      omega
    simp [hn, h0, h2, h3, hrw2, f6, hw1, hw2, p1, p2, p3, p4, e]
    have no : ∀ k, k < n → ∀ (h1 : k < seg.length), ¬ (blockB seg[k] = true ∧ seg[k].run = 0) → ¬ runP ops i x := by
      intro k hk h1 hb hh
      have h2 : i + (k + 1) < ops.length := by omega
      have h3 := hh.2 (k + 1) (by omega) h2
      rw [good k hk h1 h2] at h3
      exact hb ⟨h3.1, h3.2 (by omega)⟩
    refine Mc.loop_ind (α := Nat) _ _ _ _ (fun j => I_impl_marksOk_0 (.ptr 88 [(0, 0)] 0) (.ptr 120 [(0, 0)] 0) (.val b' (.sl 9 (seg.map OpT.enc))) (.lit (.int .i64 seg.length)) (.lit (.int .i64 j)) [(88, boxI b ms), (120, boxO b' x)]) (fun j => n - j) (fun j => j ≤ n ∧ ∀ k, k < j → ∀ (h1 : k < seg.length), blockB seg[k] = true ∧ seg[k].run = 0) 0 _ (by simp [hn]) ⟨by omega, fun k hk => by omega⟩ ?_
    intro j ⟨hj, ha⟩ ih
    by_cases hl : j < n
    · have hl' : j < seg.length := by omega
      have no := no j hl hl'
      have f7 := c_impl_mayRun b' seg[j]
      simp only [cw, OpT.enc_eq] at f7
      have next : blockB seg[j] = true ∧ seg[j].run = 0 → ∀ k, k < j + 1 → ∀ (h1 : k < seg.length), blockB seg[k] = true ∧ seg[k].run = 0 := by
        intro hb k hk h1
        by_cases hkj : k = j
        · subst hkj; exact hb
        · exact ha k (by omega) h1
      cases hq : blockB seg[j] with
      | false =>
        have no := no (by simp [hq])
        rw [hq] at f7
        simp [hl, hl', hsl, OpT.enc_eq, f7, no]
      | true =>
        rw [hq] at f7
        by_cases hr0 : seg[j].run = 0
        · rw [hr0] at f7
          simp [hl, hl', hsl, OpT.enc_eq, f7, hr0, wrap_add j (by omega)]
          exact ih (j + 1) _ (by simp [hsl]) ⟨by omega, next ⟨hq, hr0⟩⟩ (by omega)
        · have no := no (by simp [hr0])
          simp [hl, hl', hsl, OpT.enc_eq, f7, hr0, no]
    · have hy : runP ops i x := by
        refine ⟨by omega, fun k hk h2 => ?_⟩
        cases k with
        | zero => exact ⟨by simpa [hx] using h4, fun hh => absurd hh (by omega)⟩
        | succ k =>
          have h1 : k < seg.length := by omega
          rw [good k (by omega) h1 h2]
          exact ⟨(ha k (by omega) h1).1, fun _ => (ha k (by omega) h1).2⟩
      simp [hl, hsl, hy]
      exact T2 _ (by simp [hn])
noncomputable def marksB (ms : List ModT) (ops : List OpT) (i : Nat) (x : OpT) : Bool := tagB x && ((!x.quick || decide (wireT x.kind = 0)) && (runB ops i x && inlineB ms x))
theorem marksOk_head (b b' : Bool) (ms : List ModT) (ops : List OpT) (i : Nat) (hi : i < ops.length) (hops : ops.length ≤ 2 ^ 40) (x : OpT) (hx : ops[i] = x) (hs : x.Small) (hr : x.kind = 16 → 0 ≤ x.ref ∧ x.ref < ms.length) : cw f_impl_marksOk [.agg b (encM ms), .val b' (.sl 9 (ops.map OpT.enc)), .lit (.int .i64 i)] [] = some (.lit (.bool (marksB ms ops i x)), []) := by
  refine callW_run (by simp) fs_impl_marksOk rfl rfl rfl ?_
  obtain ⟨hs1, hs2, hs3⟩ := hs.inv
  refine cut3 _ fun c2 hc2 => ?_
  have T2 : ∀ σ : F, σ.keep (E.trim f_impl_marksOk 4) = J_impl_marksOk_4 (.val b' (.sl 9 (ops.map OpT.enc))) (.lit (.int .i64 i)) (.ptr 88 [(0, 0)] 0) (.ptr 120 [(0, 0)] 0) [(88, boxI b ms), (120, boxO b' x)] → Mc.at ⟨E, callW E fs, f_impl_marksOk, Tryz.f89.results.toList, 0⟩ c2 [] σ = some (.lit (.bool (runB ops i x && inlineB ms x)), []) := fun σ hσ => marksOk_run b b' ms ops i hi hops x hx hs2 hr c2 (by rw [hc2]; rfl) σ hσ
  clear hc2
  unfold marksB
  generalize (runB ops i x && inlineB ms x) = rest at T2 ⊢
  have f5 := c_impl_tagOf b' x
  have f7 := c_slices_Equal_Lbyte_byte b' true x.tag (tagT x) (by omega)
  have f7' := c_slices_Equal_Lbyte_nil b' x.tag (by omega)
  have f8 := c_impl_WireOf x.kind
  simp only [cw, OpT.enc_eq] at f5 f7 f7' f8
  refine cut2 _ fun c5 hc5 => ?_
  simp [hi, hx, OpT.enc_eq, encM]
  subst hc5
  rw [Mc.at_seq, Mc.at_seq]
  unfold tagB
  generalize tagT x = pt at f5 f7 ⊢
  generalize wireT x.kind = wt at f8 ⊢
  by_cases t0 : x.tag = []
  · have hz : (0 < x.tag.length) = False := by rw [t0]; simp
    rw [decide_eq_true t0]
    clear t0 f7 f7'
    cases qq : x.quick with
    | false =>
      simp (maxSteps := 3000000) [hz, qq]
      exact ⟨.b (by kernel_rfl), T2 _ (by simp [qq])⟩
    | true =>
      by_cases q8 : wt = 0
      · rw [q8] at f8
        simp (maxSteps := 3000000) [hz, qq, f8, q8]
        exact ⟨.b (by kernel_rfl), T2 _ (by simp [qq])⟩
      · simp (maxSteps := 3000000) [hz, qq, f8, q8]
        exact .b (by kernel_rfl)
  · have hz : (0 < x.tag.length) = True := eq_true (List.length_pos_iff.mpr t0)
    rw [decide_eq_false t0] at f7' ⊢
    by_cases p0 : pt = []
    · have t1 : ¬ x.tag = pt := by rw [p0]; exact t0
      rw [if_pos p0] at f5
      rw [decide_eq_false t1]
      simp (maxSteps := 3000000) [hz, f5, f7']
      exact .b (by kernel_rfl)
    · rw [if_neg p0] at f5
      clear t0 p0
      by_cases t1 : x.tag = pt
      · rw [decide_eq_true t1] at f7 ⊢
        clear t1
        cases qq : x.quick with
        | false =>
          rw [qq] at f5
          simp (maxSteps := 3000000) [hz, f5, f7, qq]
          exact ⟨.b (by kernel_rfl), T2 _ (by simp [qq])⟩
        | true =>
          rw [qq] at f5
          by_cases q8 : wt = 0
          · rw [q8] at f8
            simp (maxSteps := 3000000) [hz, f5, f7, qq, f8, q8]
            exact ⟨.b (by kernel_rfl), T2 _ (by simp [qq])⟩
          · simp (maxSteps := 3000000) [hz, f5, f7, qq, f8, q8]
            exact .b (by kernel_rfl)
      · rw [decide_eq_false t1] at f7 ⊢
        simp (maxSteps := 3000000) [hz, f5, f7]
        exact .b (by kernel_rfl)
end Go.Proofs.YtckojpaklblnpaaGreatDoor.Th
