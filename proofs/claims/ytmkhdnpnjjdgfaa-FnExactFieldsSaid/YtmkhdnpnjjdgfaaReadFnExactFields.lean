/- What the printed functions of the wire compute, of both packages: the plain functions of Wire. -/
import Derived.Test.YtmkhdnpnjjdgfaaPFnExactFieldsx
import Derived.Test.YtmkhdnpnjjdgfaaWire
namespace Go.Proofs.Ytmkhdnpnjjdgfaa.ReadFnExactFields
open Go Go.RowKit Go.Proofs.Ytmkhdnpnjjdgfaa.PFnExactFields Go.Proofs.YtmkhdnpnjjdgfaaW.PrintWords Go.Proofs.YtmkhdnpnjjdgfaaW.PrintLast Go.Proofs.YtmkhdnpnjjdgfaaW.PrintMore Go.Proofs.Ytmkhdnpnjjdgfaa.Wire

theorem rd_nat (xs : List Int) (i : Nat) : rd xs (i : Int) = xs.getD i 0 := by
  unfold rd; simp

theorem within_f (a b c : Int) : impl_within.f a b c = some (decide (b ≤ a ∧ a ≤ c)) := by
  unfold impl_within.f
  by_cases h : a ≥ b
  · rw [if_pos h]; simp; omega
  · rw [if_neg h]; simp; omega

theorem l1In_f (a b c : Int) : spec_l1In.f a b c = some (decide (b ≤ a ∧ a ≤ c)) := by
  unfold spec_l1In.f
  by_cases h : a ≥ b
  · rw [if_pos h]; simp; omega
  · rw [if_neg h]; simp; omega

theorem iGetVarint_l0 (l : List Int) (hl : IsB l) (hn : l.length ≤ 140737488351232) (a : Nat) (ha : a ≤ l.length) : ∀ n ≤ 10, ∀ (k : Nat) (u : Int), 2 * n + 1 ≤ k → 0 ≤ u → u < p7 (10 - n) →
    impl_GetVarint.l0 k l a u ((10 - n : Nat) : Int) = some (gvl l a n u) := by
  intro n
  induction n with
  | zero =>
    intro _ k u hk hu0 hu
    obtain ⟨k, rfl⟩ : ∃ m, k = m + 1 := ⟨k - 1, by omega⟩
    simp only [impl_GetVarint.l0]
    rw [if_neg (by omega)]
    rfl
  | succ n ih =>
    intro hn10 k u hk hu0 hu
    obtain ⟨k, rfl⟩ : ∃ m, k = m + 1 + 1 := ⟨k - 2, by omega⟩
    have hi : 10 - (n + 1) = 9 - n := by omega
    rw [hi] at hu ⊢
    have ih' := ih (by omega) k
    have hi2 : 10 - n = 9 - n + 1 := by omega
    rw [hi2] at ih'
    have h9 : 9 - n ≤ 9 := by omega
    unfold gvl
    simp only [impl_GetVarint.l0]
    have hc := hl.getD (a + (9 - n))
    have hn0 : (n = 0) ↔ (9 - n = 9) := by omega
    generalize hj : 9 - n = j at *
    rw [if_pos (by omega), wnn a j (by omega)]
    by_cases hlen : l.length ≤ a + j
    · rw [if_pos (by omega), if_pos hlen]
    · rw [if_neg (by omega), if_pos (by omega), if_pos (by omega), if_neg hlen, rd_nat]
      generalize l.getD (a + j) 0 = c at *
      have hj1 : impl_GetVarint.j1 (k + 1) l a u j c (decide (n = 0 ∧ 1 < c)) = some (if n = 0 ∧ 1 < c then (0, 0, 2) else if c < 128 then (wrap64 (u + c % 128 * p7 j), ((a + j + 1 : Nat) : Int), 0) else gvl l a n (u + c % 128 * p7 j)) := by
        simp only [impl_GetVarint.j1]
        by_cases hb : n = 0 ∧ 1 < c
        · rw [if_pos (by simpa using hb), if_pos hb]
        · have h9c : j = 9 → c ≤ 1 := by omega
          rw [if_neg (by simpa using hb), if_neg hb, if_pos (by rw [wrap64_id (by omega) (by omega)]; omega)]
          unfold shl
          rw [step_or j h9 u c hu0 hu hc.1 hc.2 h9c, wnn a j (by omega), wn1 (a + j) (by omega), wn1 j (by omega)]
          by_cases hlt : c < 128
          · rw [if_pos hlt, if_pos hlt]
          · rw [if_neg hlt, if_neg hlt]
            obtain ⟨p0, p1, p2, p3⟩ := part_le j h9 c hc.1 hc.2 h9c
            exact ih' _ (by omega) (by omega) (by have := p2 (by omega); omega)
      by_cases hj9 : j = 9
      · rw [if_pos (by omega)]
        have : n = 0 := by omega
        simp only [this, true_and] at hj1 ⊢
        exact hj1
      · rw [if_neg (by omega)]
        have : n ≠ 0 := by omega
        simp only [this, false_and, decide_false, if_false] at hj1 ⊢
        exact hj1

theorem iGetVarint_f (l : List Int) (hl : IsB l) (hn : l.length ≤ 140737488351232) (a : Int) (k : Nat) (hk : 21 ≤ k) : impl_GetVarint.f k l a = some (getVarint l a) := by
  unfold impl_GetVarint.f getVarint
  rw [within_f, Option.bind_some]
  by_cases h : 0 ≤ a ∧ a ≤ l.length
  · rw [if_pos (by simpa using h), if_pos h]
    have := iGetVarint_l0 l hl hn a.toNat (by omega) 10 (by omega) k 0 (by omega) (by omega) (pow7_pos _)
    rw [Int.toNat_of_nonneg h.1] at this
    exact this
  · rw [if_neg (by simpa using h), if_neg h]

theorem sGetVarint_l0 (l : List Int) (hl : IsB l) (hn : l.length ≤ 140737488351232) (a : Nat) (ha : a ≤ l.length) : ∀ n ≤ 10, ∀ (k : Nat) (u : Int), 2 * n + 1 ≤ k → 0 ≤ u → u < p7 (10 - n) →
    spec_GetVarint.l0 k l a u ((10 - n : Nat) : Int) = some (gvl l a n u) := by
  intro n
  induction n with
  | zero =>
    intro _ k u hk hu0 hu
    obtain ⟨k, rfl⟩ : ∃ m, k = m + 1 := ⟨k - 1, by omega⟩
    simp only [spec_GetVarint.l0]
    rw [if_neg (by omega)]
    rfl
  | succ n ih =>
    intro hn10 k u hk hu0 hu
    obtain ⟨k, rfl⟩ : ∃ m, k = m + 1 + 1 := ⟨k - 2, by omega⟩
    have hi : 10 - (n + 1) = 9 - n := by omega
    rw [hi] at hu ⊢
    have ih' := ih (by omega) k
    have hi2 : 10 - n = 9 - n + 1 := by omega
    rw [hi2] at ih'
    have h9 : 9 - n ≤ 9 := by omega
    unfold gvl
    simp only [spec_GetVarint.l0]
    have hc := hl.getD (a + (9 - n))
    have hn0 : (n = 0) ↔ (9 - n = 9) := by omega
    generalize hj : 9 - n = j at *
    rw [if_pos (by omega), wnn a j (by omega)]
    by_cases hlen : l.length ≤ a + j
    · rw [if_pos (by omega), if_pos hlen]
    · rw [if_neg (by omega), if_pos (by omega), if_pos (by omega), if_neg hlen, rd_nat]
      generalize l.getD (a + j) 0 = c at *
      have hj1 : spec_GetVarint.j1 (k + 1) l a u j c (decide (n = 0 ∧ 1 < c)) = some (if n = 0 ∧ 1 < c then (0, 0, 2) else if c < 128 then (wrap64 (u + c % 128 * p7 j), ((a + j + 1 : Nat) : Int), 0) else gvl l a n (u + c % 128 * p7 j)) := by
        simp only [spec_GetVarint.j1]
        by_cases hb : n = 0 ∧ 1 < c
        · rw [if_pos (by simpa using hb), if_pos hb]
        · have h9c : j = 9 → c ≤ 1 := by omega
          rw [if_neg (by simpa using hb), if_neg hb, if_pos (by rw [wrap64_id (by omega) (by omega), u64_id (by omega) (by omega)]; omega)]
          unfold shl
          rw [step_add j h9 u c hu0 hu hc.1 hc.2 h9c, wnn a j (by omega), wn1 (a + j) (by omega), wn1 j (by omega)]
          by_cases hlt : c < 128
          · rw [if_pos hlt, if_pos hlt]
          · rw [if_neg hlt, if_neg hlt]
            obtain ⟨p0, p1, p2, p3⟩ := part_le j h9 c hc.1 hc.2 h9c
            exact ih' _ (by omega) (by omega) (by have := p2 (by omega); omega)
      by_cases hj9 : j = 9
      · rw [if_pos (by omega)]
        have : n = 0 := by omega
        simp only [this, true_and] at hj1 ⊢
        exact hj1
      · rw [if_neg (by omega)]
        have : n ≠ 0 := by omega
        simp only [this, false_and, decide_false, if_false] at hj1 ⊢
        exact hj1

theorem sGetVarint_f (l : List Int) (hl : IsB l) (hn : l.length ≤ 140737488351232) (a : Int) (k : Nat) (hk : 21 ≤ k) : spec_GetVarint.f k l a = some (getVarint l a) := by
  unfold spec_GetVarint.f getVarint
  rw [l1In_f, Option.bind_some]
  by_cases h : 0 ≤ a ∧ a ≤ l.length
  · rw [if_pos (by simpa using h), if_pos h]
    have := sGetVarint_l0 l hl hn a.toNat (by omega) 10 (by omega) k 0 (by omega) (by omega) (pow7_pos _)
    rw [Int.toNat_of_nonneg h.1] at this
    exact this
  · rw [if_neg (by simpa using h), if_neg h]

/-! ### fixed numbers -/

theorem iGetFixed_l0 (l : List Int) (hl : IsB l) (hn : l.length ≤ 140737488351232) (a size : Nat) (hs : size ≤ 8) (ha : a + size ≤ l.length) : ∀ (d k i : Nat), i + d = size → d < k →
    impl_GetFixed.l0 k l a size (le ((l.drop a).take i)) i = some (wrap64 (le ((l.drop a).take size)), ((a + size : Nat) : Int), 0) := by
  intro d
  induction d with
  | zero =>
    intro k i hd hk
    obtain ⟨k, rfl⟩ : ∃ m, k = m + 1 := ⟨k - 1, by omega⟩
    obtain rfl : i = size := by omega
    simp only [impl_GetFixed.l0]
    rw [if_neg (by omega)]
    rw [wnn a i (by omega)]
  | succ d ih =>
    intro k i hd hk
    obtain ⟨k, rfl⟩ : ∃ m, k = m + 1 := ⟨k - 1, by omega⟩
    simp only [impl_GetFixed.l0]
    have hc := hl.getD (a + i)
    have hB : IsB ((l.drop a).take i) := fun x hx => hl x (List.mem_of_mem_drop (List.mem_of_mem_take hx))
    have hlen : ((l.drop a).take i).length = i := by simp; omega
    have hr := le_range hB
    rw [hlen] at hr
    have hsn := le_snoc ((l.drop a).take i) (l.getD (a + i) 0)
    rw [hlen] at hsn
    rw [if_pos (by omega), wnn a i (by omega), if_pos (by omega), if_pos (by omega), if_pos (by rw [wrap64_id (by omega) (by omega)]; omega), rd_nat]
    unfold shl
    rw [fix_or i (by omega) _ _ hr.1 hr.2 hc.1 hc.2, ← hsn, ← take_snoc_getD l a i (by omega), wn1 i (by omega)]
    exact ih k (i + 1) (by omega) (by omega)

theorem iGetFixed_f (l : List Int) (hl : IsB l) (hn : l.length ≤ 140737488351232) (a size : Int) (k : Nat) (hk : 11 ≤ k) : impl_GetFixed.f k l a size = some (getFixed l a size) := by
  obtain ⟨k, rfl⟩ : ∃ m, k = m + 1 := ⟨k - 1, by omega⟩
  unfold impl_GetFixed.f getFixed
  rw [within_f, Option.bind_some]
  have key : (size = 4 ∨ size = 8) → 0 ≤ a → a ≤ l.length → impl_GetFixed.j0 (k + 1) l a size (decide (size > wrap64 ((l.length : Int) - a))) = some (if (size = 4 ∨ size = 8) ∧ 0 ≤ a ∧ a + size ≤ l.length then (wrap64 (le ((l.drop a.toNat).take size.toNat)), a + size, 0) else (0, 0, 1)) := by
    intro hs h0 h1
    simp only [impl_GetFixed.j0]
    rw [wrap64_id (by omega) (by omega)]
    by_cases h : a + size ≤ l.length
    · rw [if_neg (by simp; omega), if_pos ⟨hs, h0, h⟩]
      have := iGetFixed_l0 l hl hn a.toNat size.toNat (by omega) (by omega) size.toNat k 0 (by omega) (by omega)
      rw [Int.toNat_of_nonneg h0, Int.toNat_of_nonneg (by omega : 0 ≤ size)] at this
      simp only [List.take_zero, le, Int.natCast_zero] at this
      rw [this]
      congr 2
      congr 1
      omega
    · rw [if_pos (by simp; omega), if_neg (by omega)]
  by_cases h : 0 ≤ a ∧ a ≤ l.length
  · rw [if_pos (by simpa using h)]
    by_cases h4 : size = 4
    · rw [if_pos h4]; exact key (.inl h4) h.1 h.2
    · rw [if_neg h4]
      by_cases h8 : size = 8
      · rw [if_pos h8]; exact key (.inr h8) h.1 h.2
      · rw [if_neg h8, if_neg (by omega)]
        simp [impl_GetFixed.j0]
  · rw [if_neg (by simpa using h)]
    have hneg : ¬((size = 4 ∨ size = 8) ∧ 0 ≤ a ∧ a + size ≤ l.length) := by omega
    rw [if_neg hneg]
    simp [impl_GetFixed.j0]

theorem sGetFixed_l0 (l : List Int) (hl : IsB l) (hn : l.length ≤ 140737488351232) (a size : Nat) (hs : size ≤ 8) (ha : a + size ≤ l.length) : ∀ (i k : Nat), i ≤ size → i < k →
    spec_GetFixed.l0 k l a size (le (((l.drop a).take size).drop i)) ((i : Int) - 1) = some (wrap64 (le ((l.drop a).take size)), ((a + size : Nat) : Int), 0) := by
  intro i
  induction i with
  | zero =>
    intro k hd hk
    obtain ⟨k, rfl⟩ : ∃ m, k = m + 1 := ⟨k - 1, by omega⟩
    simp only [spec_GetFixed.l0]
    rw [if_neg (by omega)]
    rw [wnn a size (by omega), List.drop_zero]
  | succ i ih =>
    intro k hd hk
    obtain ⟨k, rfl⟩ : ∃ m, k = m + 1 := ⟨k - 1, by omega⟩
    simp only [spec_GetFixed.l0]
    have e1 : (((i + 1 : Nat) : Int) - 1) = (i : Int) := by omega
    rw [e1]
    have hc := hl.getD (a + i)
    have hB : IsB (((l.drop a).take size).drop (i + 1)) := fun x hx => hl x (List.mem_of_mem_drop (List.mem_of_mem_take (List.mem_of_mem_drop hx)))
    have hr := le_range hB
    have hlen : (((l.drop a).take size).drop (i + 1)).length ≤ 7 := by simp; omega
    have hp := pow8_le _ 7 hlen
    rw [pow8_7] at hp
    have hcons := drop_cons_getD l a i size (by omega) ha
    rw [if_pos (by omega), wnn a i (by omega), if_pos (by omega), if_pos (by omega), rd_nat, wrap64_id (x := (i : Int) - 1) (by omega) (by omega)]
    rw [u64_id (x := le _ * 256) (by omega) (by omega), u64_id (x := l.getD (a + i) 0) hc.1 (by omega), u64_id (by omega) (by omega)]
    have e2 : le (((l.drop a).take size).drop (i + 1)) * 256 + l.getD (a + i) 0 = le (((l.drop a).take size).drop i) := by
      rw [hcons]; simp only [le]; omega
    rw [e2]
    exact ih k (by omega) (by omega)

theorem sGetFixed_f (l : List Int) (hl : IsB l) (hn : l.length ≤ 140737488351232) (a size : Int) (hA : -4611686018427387904 ≤ a) (k : Nat) (hk : 11 ≤ k) : spec_GetFixed.f k l a size = some (getFixed l a size) := by
  obtain ⟨k, rfl⟩ : ∃ m, k = m + 1 := ⟨k - 1, by omega⟩
  unfold spec_GetFixed.f getFixed
  have bad : ∀ b, b = true → ¬((size = 4 ∨ size = 8) ∧ 0 ≤ a ∧ a + size ≤ l.length) → spec_GetFixed.j0 (k + 1) l a size b = some (if (size = 4 ∨ size = 8) ∧ 0 ≤ a ∧ a + size ≤ l.length then (wrap64 (le ((l.drop a.toNat).take size.toNat)), a + size, 0) else (0, 0, 1)) := by
    intro b hb h
    subst hb
    simp only [spec_GetFixed.j0, if_true]
    rw [if_neg h]
  have key : (size = 4 ∨ size = 8) → (if a < 0 then spec_GetFixed.j0 (k + 1) l a size true else spec_GetFixed.j0 (k + 1) l a size (decide (a > wrap64 ((l.length : Int) - size)))) = some (if (size = 4 ∨ size = 8) ∧ 0 ≤ a ∧ a + size ≤ l.length then (wrap64 (le ((l.drop a.toNat).take size.toNat)), a + size, 0) else (0, 0, 1)) := by
    intro hs
    by_cases h0 : a < 0
    · rw [if_pos h0]; exact bad _ rfl (by omega)
    · rw [if_neg h0, wrap64_id (by omega) (by omega)]
      by_cases h : a + size ≤ l.length
      · simp only [spec_GetFixed.j0]
        rw [if_neg (by simp; omega), if_pos ⟨hs, by omega, h⟩]
        have := sGetFixed_l0 l hl hn a.toNat size.toNat (by omega) (by omega) size.toNat k (by omega) (by omega)
        rw [List.drop_eq_nil_of_le (by simp; omega), Int.toNat_of_nonneg (by omega : 0 ≤ a), Int.toNat_of_nonneg (by omega : 0 ≤ size)] at this
        simp only [le] at this
        rw [wrap64_id (by omega) (by omega), this]
        congr 2
        congr 1
        omega
      · exact bad _ (by simp; omega) (by omega)
  by_cases h4 : size = 4
  · rw [if_pos h4]; exact key (.inl h4)
  · rw [if_neg h4]
    by_cases h8 : size = 8
    · rw [if_pos h8]; exact key (.inr h8)
    · rw [if_neg h8]; exact bad _ rfl (by omega)

/-! ### tags -/

theorem i64_and7 (x : Int) : bits .and .i64 x 7 = x % 18446744073709551616 % 8 := by
  have h7 : ((BitVec.ofInt 64 7).toNat) = 2 ^ 3 - 1 := by decide
  show IntKind.i64.wrap (((BitVec.ofInt 64 x &&& BitVec.ofInt 64 7).toNat : Nat) : Int) = _
  rw [BitVec.toNat_and, h7, Nat.and_two_pow_sub_one_eq_mod, BitVec.toNat_ofInt]
  have : IntKind.i64.wrap = wrap64 := by funext n; rw [IntKind.wrap_i64]; unfold wrap64; rfl
  rw [this]
  unfold wrap64
  have : ((2 ^ 64 : Nat) : Int) = 18446744073709551616 := rfl
  rw [this]
  omega

theorem i64_wrap : IntKind.i64.wrap = wrap64 := by funext n; rw [IntKind.wrap_i64]; unfold wrap64; rfl

theorem iGetTag_f (l : List Int) (hl : IsB l) (hn : l.length ≤ 140737488351232) (a : Int) (k : Nat) (hk : 21 ≤ k) : impl_GetTag.f k l a = some (getTag l a) := by
  have hr := getVarint_range l a
  have ht := getVarint_tells l a
  unfold impl_GetTag.f getTag
  rw [iGetVarint_f l hl hn a k hk, Option.bind_some]
  obtain ⟨k, rfl⟩ : ∃ m, k = m + 1 + 1 := ⟨k - 2, by omega⟩
  generalize getVarint l a = v at *
  obtain ⟨x, y, z⟩ := v
  simp only at hr ht ⊢
  rw [i64_and7, u64_wrap]
  by_cases hz : z = 0
  · rw [if_pos hz, if_neg (not_not_intro hz)]
    generalize hu : x % 18446744073709551616 = u
    have hu0 : 0 ≤ u := by omega
    have hu1 : u < 18446744073709551616 := by omega
    have key : (if u / 8 = 0 then impl_GetTag.j0 (k + 1 + 1) y (u / 8) (u % 8) true else impl_GetTag.j0 (k + 1 + 1) y (u / 8) (u % 8) (decide (u / 8 > 536870911))) = impl_GetTag.j0 (k + 1 + 1) y (u / 8) (u % 8) (decide (u / 8 = 0 ∨ u / 8 > 536870911)) := by
      by_cases h : u / 8 = 0
      · rw [if_pos h]; congr 1; simp [h]
      · rw [if_neg h]; congr 1; simp [h]
    rw [key]
    simp only [impl_GetTag.j0]
    by_cases h : u / 8 = 0 ∨ u / 8 > 536870911
    · rw [if_pos (by simpa using h), if_pos h]
    · rw [if_neg (by simpa using h), if_neg h]
      have key2 : (if u % 8 = 3 then impl_GetTag.j1 (k + 1) y (u / 8) (u % 8) true else impl_GetTag.j1 (k + 1) y (u / 8) (u % 8) (u % 8 == 4)) = impl_GetTag.j1 (k + 1) y (u / 8) (u % 8) (decide (u % 8 = 3 ∨ u % 8 = 4)) := by
        by_cases h : u % 8 = 3
        · rw [if_pos h]; congr 1; simp [h]
        · rw [if_neg h]; congr 1; rw [Bool.eq_iff_iff]; simp [h]
      rw [key2]
      simp only [impl_GetTag.j1]
      by_cases h3 : u % 8 = 3 ∨ u % 8 = 4
      · rw [if_pos (by simpa using h3), if_pos h3]
      · rw [if_neg (by simpa using h3), if_neg h3]
        by_cases h5 : u % 8 > 5
        · rw [if_pos h5, if_pos h5]
        · rw [if_neg h5, if_neg h5, wrap64_id (by omega) (by omega)]
  · rw [if_neg hz, if_pos hz]

theorem sGetTag_f (l : List Int) (hl : IsB l) (hn : l.length ≤ 140737488351232) (a : Int) (k : Nat) (hk : 21 ≤ k) : spec_GetTag.f k l a = some (getTag l a) := by
  have hr := getVarint_range l a
  have ht := getVarint_tells l a
  unfold spec_GetTag.f getTag
  rw [sGetVarint_f l hl hn a k hk, Option.bind_some]
  obtain ⟨k, rfl⟩ : ∃ m, k = m + 1 + 1 := ⟨k - 2, by omega⟩
  generalize getVarint l a = v at *
  obtain ⟨x, y, z⟩ := v
  simp only at hr ht ⊢
  rw [u64_wrap x]
  by_cases hz : z = 0
  · rw [if_pos hz, if_neg (not_not_intro hz)]
    generalize hu : x % 18446744073709551616 = u
    have hu0 : 0 ≤ u := by omega
    have hu1 : u < 18446744073709551616 := by omega
    rw [Int.tdiv_eq_ediv_of_nonneg hu0, Int.tmod_eq_emod_of_nonneg hu0, u64_id (x := u / 8) (by omega) (by omega), wrap64_id (x := u % 8) (by omega) (by omega)]
    have key : (if u / 8 = 0 then spec_GetTag.j0 (k + 1 + 1) y (u / 8) (u % 8) true else spec_GetTag.j0 (k + 1 + 1) y (u / 8) (u % 8) (decide (u / 8 > 536870911))) = spec_GetTag.j0 (k + 1 + 1) y (u / 8) (u % 8) (decide (u / 8 = 0 ∨ u / 8 > 536870911)) := by
      by_cases h : u / 8 = 0
      · rw [if_pos h]; congr 1; simp [h]
      · rw [if_neg h]; congr 1; simp [h]
    rw [key]
    simp only [spec_GetTag.j0]
    by_cases h : u / 8 = 0 ∨ u / 8 > 536870911
    · rw [if_pos (by simpa using h), if_pos h]
    · rw [if_neg (by simpa using h), if_neg h]
      have key2 : (if u % 8 = 3 then spec_GetTag.j1 (k + 1) y (u / 8) (u % 8) true else spec_GetTag.j1 (k + 1) y (u / 8) (u % 8) (u % 8 == 4)) = spec_GetTag.j1 (k + 1) y (u / 8) (u % 8) (decide (u % 8 = 3 ∨ u % 8 = 4)) := by
        by_cases h : u % 8 = 3
        · rw [if_pos h]; congr 1; simp [h]
        · rw [if_neg h]; congr 1; rw [Bool.eq_iff_iff]; simp [h]
      rw [key2]
      simp only [spec_GetTag.j1]
      by_cases h3 : u % 8 = 3 ∨ u % 8 = 4
      · rw [if_pos (by simpa using h3), if_pos h3]
      · rw [if_neg (by simpa using h3), if_neg h3]
        by_cases h5 : u % 8 > 5
        · rw [if_pos h5, if_pos h5]
        · rw [if_neg h5, if_neg h5, wrap64_id (by omega) (by omega)]
  · rw [if_neg hz, if_pos hz]

theorem iSkip_f (l : List Int) (hl : IsB l) (hn : l.length ≤ 140737488351232) (a w : Int) (k : Nat) (hk : 21 ≤ k) : impl_Skip.f k l a w = some (skip l a w) := by
  have ht := getVarint_tells l a
  have hr := getVarint_range l a
  unfold impl_Skip.f skip
  rw [iGetVarint_f l hl hn a k hk, iGetFixed_f l hl hn a 8 k (by omega), iGetFixed_f l hl hn a 4 k (by omega)]
  simp only [Option.bind_some]
  generalize getVarint l a = v at *
  obtain ⟨x, y, z⟩ := v
  simp only at ht hr ⊢
  by_cases w0 : w = 0
  · rw [if_pos w0, if_pos w0]
  rw [if_neg w0, if_neg w0]
  by_cases w1 : w = 1
  · rw [if_pos w1, if_pos w1]
  rw [if_neg w1, if_neg w1]
  by_cases w5 : w = 5
  · rw [if_pos w5, if_pos w5]
  rw [if_neg w5, if_neg w5]
  by_cases w2 : w = 2
  · rw [if_pos w2, if_pos w2]
    by_cases hz : z = 0
    · rw [if_pos hz, if_neg (not_not_intro hz), wrap64_id (x := (l.length : Int) - y) (by omega) (by omega)]
      by_cases hx : x < 0
      · rw [if_pos hx, if_pos (.inl hx)]
      · rw [if_neg hx]
        by_cases hx2 : x > l.length - y
        · rw [if_pos hx2, if_pos (.inr hx2)]
        · rw [if_neg hx2, if_neg (by omega), wrap64_id (by omega) (by omega)]
    · rw [if_neg hz, if_pos hz]
  · rw [if_neg w2, if_neg w2]

theorem sSkip_f (l : List Int) (hl : IsB l) (hn : l.length ≤ 140737488351232) (a w : Int) (hA : -4611686018427387904 ≤ a) (k : Nat) (hk : 21 ≤ k) : spec_Skip.f k l a w = some (skip l a w) := by
  have ht := getVarint_tells l a
  have hr := getVarint_range l a
  unfold spec_Skip.f skip
  rw [sGetVarint_f l hl hn a k hk, sGetFixed_f l hl hn a 8 hA k (by omega), sGetFixed_f l hl hn a 4 hA k (by omega)]
  simp only [Option.bind_some]
  generalize getVarint l a = v at *
  obtain ⟨x, y, z⟩ := v
  simp only at ht hr ⊢
  by_cases w0 : w = 0
  · rw [if_pos w0, if_pos w0]
  rw [if_neg w0, if_neg w0]
  by_cases w1 : w = 1
  · rw [if_pos w1, if_pos w1]
  rw [if_neg w1, if_neg w1]
  by_cases w5 : w = 5
  · rw [if_pos w5, if_pos w5]
  rw [if_neg w5, if_neg w5]
  by_cases w2 : w = 2
  · rw [if_pos w2, if_pos w2]
    by_cases hz : z = 0
    · rw [if_pos hz, if_neg (not_not_intro hz), wrap64_id (x := (l.length : Int) - y) (by omega) (by omega)]
      by_cases hx : x < 0
      · rw [if_pos hx, if_pos (.inl hx)]
      · rw [if_neg hx]
        by_cases hx2 : x > l.length - y
        · rw [if_pos hx2, if_pos (.inr hx2)]
        · rw [if_neg hx2, if_neg (by omega), wrap64_id (by omega) (by omega)]
    · rw [if_neg hz, if_pos hz]
  · rw [if_neg w2, if_neg w2]

end Go.Proofs.Ytmkhdnpnjjdgfaa.ReadFnExactFields
