/- Plain numbers and lists: how the wire's functions compute, with no program in sight. -/
import Derived.RowKit
import Derived.Laws.BitsLemmas
namespace Go.Proofs.YtckojpaklblnpaaDoor.Wire
open Go Go.RowKit

def IsB (l : List Int) : Prop := ∀ x ∈ l, 0 ≤ x ∧ x < 256

theorem wf_u8 {x : Int} (h : (Lit.int .u8 x).wf = true) : 0 ≤ x ∧ x < 256 := by
  simp [Lit.wf, IntKind.min, IntKind.max, IntKind.signed, IntKind.bits] at h
  omega

theorem isB_of_wf {l : List Int} (h : ∀ x ∈ l, (Lit.int .u8 x).wf = true) : IsB l := fun x hx => wf_u8 (h x hx)

theorem IsB.getD {l : List Int} (h : IsB l) (i : Nat) : 0 ≤ l.getD i 0 ∧ l.getD i 0 < 256 := by
  rw [List.getD_eq_getElem?_getD]
  cases e : l[i]? with
  | none => simp
  | some x => simpa using h x (List.mem_of_getElem? e)

theorem wrap64_id {x : Int} (h0 : -9223372036854775808 ≤ x) (h1 : x < 9223372036854775808) : wrap64 x = x := by
  unfold wrap64; omega

theorem wnn (a j : Nat) (h : a + j ≤ 4611686018427387904) : wrap64 ((a : Int) + (j : Int)) = ((a + j : Nat) : Int) := by
  unfold wrap64; omega

theorem wn1 (a : Nat) (h : a ≤ 4611686018427387904) : wrap64 ((a : Int) + 1) = ((a + 1 : Nat) : Int) := by
  unfold wrap64; omega

theorem u64_wrap (n : Int) : IntKind.u64.wrap n = n % 18446744073709551616 := by simp [IntKind.wrap, IntKind.bits, IntKind.signed]

theorem u64_id {x : Int} (h0 : 0 ≤ x) (h1 : x < 18446744073709551616) : IntKind.u64.wrap x = x := by
  rw [u64_wrap]; omega

theorem wraps_u64 (n : Int) (h₀ : 0 ≤ n) (h₁ : n < 2 ^ 64) : IntKind.u64.wrap n = n := by rw [u64_wrap]; omega

theorem u8_and127 (x : Int) (h₀ : 0 ≤ x) (h₁ : x < 256) : bits .and .u8 x 127 = x % 128 := bits_mask .u8 8 (by decide) wraps_u8 7 (by decide) x h₀ h₁

theorem or_low (x y : Int) (i : Nat) (hx0 : 0 ≤ x) (hx : x < 2 ^ i) (hx1 : x < 2 ^ 64) (hy0 : 0 ≤ y) (hy : y % 2 ^ i = 0) (hy1 : y < 2 ^ 64) : bits .or .u64 x y = x + y := by
  have h1 := bits_join .u64 64 (by decide) wraps_u64 i y x hy0 hy hy1 hx0 hx hx1
  obtain ⟨a, rfl⟩ := Int.eq_ofNat_of_zero_le hx0
  obtain ⟨b, rfl⟩ := Int.eq_ofNat_of_zero_le hy0
  have ha : a < 2 ^ 64 := by exact_mod_cast hx1
  have hb : b < 2 ^ 64 := by exact_mod_cast hy1
  rw [(bits_nat .u64 64 (by decide) wraps_u64 _ _ hb ha).2] at h1
  rw [(bits_nat .u64 64 (by decide) wraps_u64 _ _ ha hb).2, Nat.or_comm]
  omega

/-- 2^(7 i), closed to omega's look at atoms. -/
@[irreducible] def p7 (i : Nat) : Int := 2 ^ (7 * i)
/-- 2^(8 i). -/
@[irreducible] def p8 (i : Nat) : Int := 2 ^ (8 * i)
theorem p7_eq (i : Nat) : p7 i = 2 ^ (7 * i) := by unfold p7; rfl
theorem p8_eq (i : Nat) : p8 i = 2 ^ (8 * i) := by unfold p8; rfl

/-- What 2^(7 i) is good for. -/
theorem pow7 (i : Nat) : p7 (i + 1) = 128 * p7 i := by
  simp only [p7_eq]; rw [Nat.mul_succ, Int.pow_add]; omega

theorem pow7_pos (i : Nat) : (0 : Int) < p7 i := by rw [p7_eq]; exact Int.pow_pos (by decide)

theorem pow7_le (i : Nat) (h : i ≤ 9) : p7 i ≤ 9223372036854775808 := by
  rw [p7_eq]
  have h2 : ((2 ^ (7 * i) : Nat) : Int) ≤ ((2 ^ 63 : Nat) : Int) := Int.ofNat_le.mpr (Nat.pow_le_pow_right (by decide) (by omega))
  rw [Int.natCast_pow, Int.natCast_pow] at h2
  exact h2

theorem pow7_le8 (i : Nat) (h : i ≤ 8) : p7 i ≤ 72057594037927936 := by
  rw [p7_eq]
  have h2 : ((2 ^ (7 * i) : Nat) : Int) ≤ ((2 ^ 56 : Nat) : Int) := Int.ofNat_le.mpr (Nat.pow_le_pow_right (by decide) (by omega))
  rw [Int.natCast_pow, Int.natCast_pow] at h2
  exact h2

/-- A round's bits: where they lie. -/
theorem part_le (i : Nat) (hi : i ≤ 9) (c : Int) (hc0 : 0 ≤ c) (hc : c < 256) (h9 : i = 9 → c ≤ 1) :
    0 ≤ c % 128 * p7 i ∧ c % 128 * p7 i < 18446744073709551616 ∧ (i ≤ 8 → c % 128 * p7 i + p7 i ≤ p7 (i + 1)) ∧ c % 128 * p7 i + p7 i ≤ 18446744073709551616 := by
  have hp := pow7_pos i
  have h0 : 0 ≤ c % 128 * p7 i := Int.mul_nonneg (by omega) (Int.le_of_lt hp)
  have h127 : c % 128 * p7 i ≤ 127 * p7 i := Int.mul_le_mul_of_nonneg_right (by omega) (Int.le_of_lt hp)
  by_cases h : i ≤ 8
  · have := pow7_le8 i h
    rw [pow7]
    omega
  · obtain rfl : i = 9 := by omega
    have hc1 := h9 rfl
    have := pow7_le 9 (by omega)
    have h1 : c % 128 * p7 9 ≤ 1 * p7 9 := Int.mul_le_mul_of_nonneg_right (by omega) (Int.le_of_lt hp)
    exact ⟨h0, by omega, fun h => by omega, by omega⟩

theorem shift7 (i : Nat) (hi : i ≤ 9) : min (wrap64 (7 * (i : Int))).toNat IntKind.u64.bits = 7 * i := by
  rw [wrap64_id (by omega) (by omega)]
  simp [IntKind.bits]
  omega

theorem shift7u (i : Nat) (hi : i ≤ 9) : min (IntKind.u64.wrap (wrap64 (7 * (i : Int)))).toNat IntKind.u64.bits = 7 * i := by
  rw [wrap64_id (by omega) (by omega), u64_id (by omega) (by omega)]
  simp [IntKind.bits]
  omega

theorem step_or (i : Nat) (hi : i ≤ 9) (u c : Int) (hu0 : 0 ≤ u) (hu : u < p7 i) (hc0 : 0 ≤ c) (hc : c < 256) (h9 : i = 9 → c ≤ 1) :
    bits .or .u64 u (IntKind.u64.wrap (IntKind.u64.wrap (bits .and .u8 c 127) * 2 ^ min (wrap64 (7 * (i : Int))).toNat IntKind.u64.bits)) = u + c % 128 * p7 i := by
  obtain ⟨h0, h1, _, h3⟩ := part_le i hi c hc0 hc h9
  have := pow7_le i hi
  have hx1 : u < 18446744073709551616 := by omega
  rw [shift7 i hi, u8_and127 c hc0 hc, u64_id (x := c % 128) (by omega) (by omega), ← p7_eq, u64_id h0 h1]
  exact or_low u _ (7 * i) hu0 (by rw [← p7_eq]; exact hu) hx1 h0 (by rw [p7_eq]; exact Int.mul_emod_left _ _) h1

theorem step_add (i : Nat) (hi : i ≤ 9) (u c : Int) (hu0 : 0 ≤ u) (hu : u < p7 i) (hc0 : 0 ≤ c) (hc : c < 256) (h9 : i = 9 → c ≤ 1) :
    IntKind.u64.wrap (u + IntKind.u64.wrap (IntKind.u64.wrap (Int.tmod c 128) * 2 ^ min (IntKind.u64.wrap (wrap64 (7 * (i : Int)))).toNat IntKind.u64.bits)) = u + c % 128 * p7 i := by
  obtain ⟨h0, h1, _, h3⟩ := part_le i hi c hc0 hc h9
  rw [shift7u i hi, Int.tmod_eq_emod_of_nonneg hc0, u64_id (x := c % 128) (by omega) (by omega), ← p7_eq, u64_id h0 h1]
  exact u64_id (by omega) (by omega)

/-- A varint, read: n rounds are left. -/
def gvl (l : List Int) (a : Nat) : Nat → Int → Int × Int × Int
  | 0, _ => (0, 0, 2)
  | n + 1, u =>
    if l.length ≤ a + (9 - n) then (0, 0, 1)
    else if n = 0 ∧ 1 < l.getD (a + (9 - n)) 0 then (0, 0, 2)
    else if l.getD (a + (9 - n)) 0 < 128 then (wrap64 (u + l.getD (a + (9 - n)) 0 % 128 * p7 (9 - n)), ((a + (9 - n) + 1 : Nat) : Int), 0)
    else gvl l a n (u + l.getD (a + (9 - n)) 0 % 128 * p7 (9 - n))

def getVarint (l : List Int) (a : Int) : Int × Int × Int := if 0 ≤ a ∧ a ≤ l.length then gvl l a.toNat 10 0 else (0, 0, 1)

/-- What a varint's reading tells: its code; and behind what was read. -/
theorem gvl_tells (l : List Int) (a : Nat) : ∀ n ≤ 10, ∀ u, ((gvl l a n u).2.2 = 0 ∧ (a : Int) < (gvl l a n u).2.1 ∧ (gvl l a n u).2.1 ≤ l.length ∧ (gvl l a n u).2.1 ≤ a + 10) ∨ ((gvl l a n u).2.2 = 1 ∧ (gvl l a n u).1 = 0 ∧ (gvl l a n u).2.1 = 0) ∨ ((gvl l a n u).2.2 = 2 ∧ (gvl l a n u).1 = 0 ∧ (gvl l a n u).2.1 = 0) := by
  intro n
  induction n with
  | zero => intro _ u; simp [gvl]
  | succ n ih =>
    intro hn u
    unfold gvl
    split
    · simp
    · split
      · simp
      · split
        · left; simp; omega
        · exact ih (by omega) _

theorem getVarint_tells (l : List Int) (a : Int) : ((getVarint l a).2.2 = 0 ∧ 0 ≤ a ∧ a < (getVarint l a).2.1 ∧ (getVarint l a).2.1 ≤ l.length ∧ (getVarint l a).2.1 ≤ a + 10) ∨ ((getVarint l a).2.2 = 1 ∧ (getVarint l a).1 = 0 ∧ (getVarint l a).2.1 = 0) ∨ ((getVarint l a).2.2 = 2 ∧ (getVarint l a).1 = 0 ∧ (getVarint l a).2.1 = 0) := by
  unfold getVarint
  split
  · have := gvl_tells l a.toNat 10 (by omega) 0
    omega
  · simp

theorem gvl_range (l : List Int) (a : Nat) : ∀ n ≤ 10, ∀ u, -9223372036854775808 ≤ (gvl l a n u).1 ∧ (gvl l a n u).1 < 9223372036854775808 := by
  intro n
  induction n with
  | zero => intro _ u; simp [gvl]
  | succ n ih =>
    intro hn u
    unfold gvl
    split
    · simp
    · split
      · simp
      · split
        · simp only [wrap64]; omega
        · exact ih (by omega) _

theorem getVarint_range (l : List Int) (a : Int) : -9223372036854775808 ≤ (getVarint l a).1 ∧ (getVarint l a).1 < 9223372036854775808 := by
  unfold getVarint
  split
  · exact gvl_range l a.toNat 10 (by omega) 0
  · simp

/-! ### fixed numbers -/

/-- Bytes as a number, the lowest first. -/
def le : List Int → Int
  | [] => 0
  | b :: t => b + 256 * le t

theorem pow8_pos (i : Nat) : (0 : Int) < p8 i := by rw [p8_eq]; exact Int.pow_pos (by decide)

theorem pow8_zero : p8 0 = 1 := by rw [p8_eq]; rfl

theorem pow8_8 : p8 8 = 18446744073709551616 := by rw [p8_eq]; rfl

theorem pow8_7 : p8 7 = 72057594037927936 := by rw [p8_eq]; rfl

theorem pow8_succ (i : Nat) : p8 (i + 1) = 256 * p8 i := by
  simp only [p8_eq]; rw [Nat.mul_succ, Int.pow_add]; omega

theorem pow8_le (i n : Nat) (h : i ≤ n) : p8 i ≤ p8 n := by
  obtain ⟨d, rfl⟩ := Nat.exists_eq_add_of_le h
  induction d with
  | zero => exact Int.le_refl _
  | succ d ih =>
    have := ih (by omega)
    have hp := pow8_pos (i + d)
    rw [← Nat.add_assoc, pow8_succ]
    omega

theorem le_snoc (l : List Int) (b : Int) : le (l ++ [b]) = le l + b * p8 l.length := by
  induction l with
  | nil => simp [le, pow8_zero]
  | cons c t ih =>
    simp only [List.cons_append, le, ih, List.length_cons]
    rw [pow8_succ, Int.mul_add, ← Int.add_assoc]
    congr 1
    rw [Int.mul_left_comm]

theorem le_range {l : List Int} (hl : IsB l) : 0 ≤ le l ∧ le l < p8 l.length := by
  induction l with
  | nil => simp [le, pow8_zero]
  | cons c t ih =>
    have hc := hl c (by simp)
    have := ih (fun x hx => hl x (by simp [hx]))
    simp only [le, List.length_cons]
    rw [pow8_succ]
    omega

theorem shift8 (i : Nat) (hi : i ≤ 7) : min (wrap64 (8 * (i : Int))).toNat IntKind.u64.bits = 8 * i := by
  rw [wrap64_id (by omega) (by omega)]
  simp [IntKind.bits]
  omega

theorem fix_or (i : Nat) (hi : i ≤ 7) (u c : Int) (hu0 : 0 ≤ u) (hu : u < p8 i) (hc0 : 0 ≤ c) (hc : c < 256) :
    bits .or .u64 u (IntKind.u64.wrap (IntKind.u64.wrap c * 2 ^ min (wrap64 (8 * (i : Int))).toNat IntKind.u64.bits)) = u + c * p8 i := by
  have hp := pow8_pos i
  have h8 := pow8_le (i + 1) 8 (by omega)
  rw [pow8_succ] at h8
  have h0 : 0 ≤ c * p8 i := Int.mul_nonneg hc0 (Int.le_of_lt hp)
  have h1 : c * p8 i ≤ 255 * p8 i := Int.mul_le_mul_of_nonneg_right (by omega) (Int.le_of_lt hp)
  rw [pow8_8] at h8
  have hx1 : u < 18446744073709551616 := by omega
  have hy1 : c * p8 i < 18446744073709551616 := by omega
  rw [shift8 i hi, u64_id (x := c) hc0 (by omega), ← p8_eq, u64_id h0 (by omega)]
  exact or_low u _ (8 * i) hu0 (by rw [← p8_eq]; exact hu) hx1 h0 (by rw [p8_eq]; exact Int.mul_emod_left _ _) hy1

def getFixed (l : List Int) (a size : Int) : Int × Int × Int :=
  if (size = 4 ∨ size = 8) ∧ 0 ≤ a ∧ a + size ≤ l.length then (wrap64 (le ((l.drop a.toNat).take size.toNat)), a + size, 0) else (0, 0, 1)

theorem getFixed_tells (l : List Int) (a size : Int) : ((getFixed l a size).2.2 = 0 ∧ 0 ≤ a ∧ a < (getFixed l a size).2.1 ∧ (getFixed l a size).2.1 ≤ l.length ∧ (getFixed l a size).2.1 = a + size) ∨ ((getFixed l a size).2.2 = 1 ∧ (getFixed l a size).1 = 0 ∧ (getFixed l a size).2.1 = 0) := by
  unfold getFixed
  split
  · rename_i h; exact .inl ⟨rfl, h.2.1, by show a < a + size; omega, h.2.2, rfl⟩
  · right; simp

theorem take_snoc_getD (l : List Int) (a i : Nat) (h : a + i < l.length) : (l.drop a).take (i + 1) = (l.drop a).take i ++ [l.getD (a + i) 0] := by
  rw [List.take_succ_eq_append_getElem (by simp; omega)]
  simp [h]

theorem drop_cons_getD (l : List Int) (a i n : Nat) (hi : i < n) (h : a + n ≤ l.length) : ((l.drop a).take n).drop i = l.getD (a + i) 0 :: ((l.drop a).take n).drop (i + 1) := by
  rw [List.drop_eq_getElem_cons (by simp; omega)]
  congr 1
  have hh : a + i < l.length := by omega
  simp [hh]

/-! ### tags -/

def getTag (l : List Int) (a : Int) : Int × Int × Int × Int :=
  let v := getVarint l a
  if v.2.2 ≠ 0 then (0, 0, 0, v.2.2)
  else
    let u := v.1 % 18446744073709551616
    if u / 8 = 0 ∨ u / 8 > 536870911 then (0, 0, 0, 3)
    else if u % 8 = 3 ∨ u % 8 = 4 then (0, 0, 0, 4)
    else if u % 8 > 5 then (0, 0, 0, 5)
    else (u / 8, u % 8, v.2.1, 0)

theorem getTag_tells (l : List Int) (a : Int) : ((getTag l a).2.2.2 = 0 ∧ 0 ≤ a ∧ a < (getTag l a).2.2.1 ∧ (getTag l a).2.2.1 ≤ l.length ∧ 1 ≤ (getTag l a).1 ∧ (getTag l a).1 ≤ 536870911 ∧ ((getTag l a).2.1 = 0 ∨ (getTag l a).2.1 = 1 ∨ (getTag l a).2.1 = 2 ∨ (getTag l a).2.1 = 5)) ∨ (1 ≤ (getTag l a).2.2.2 ∧ (getTag l a).2.2.2 ≤ 5 ∧ (getTag l a).1 = 0 ∧ (getTag l a).2.1 = 0 ∧ (getTag l a).2.2.1 = 0) := by
  have h := getVarint_tells l a
  unfold getTag
  generalize getVarint l a = v at *
  obtain ⟨x, y, z⟩ := v
  simp only at *
  split
  · right; simp; omega
  · split
    · right; simp
    · split
      · right; simp
      · split
        · right; simp
        · refine .inl ⟨rfl, ?_, ?_, ?_, ?_, ?_, ?_⟩ <;> (try simp only) <;> omega

def skip (l : List Int) (a wire : Int) : Int × Int :=
  if wire = 0 then ((getVarint l a).2.1, (getVarint l a).2.2)
  else if wire = 1 then ((getFixed l a 8).2.1, (getFixed l a 8).2.2)
  else if wire = 5 then ((getFixed l a 4).2.1, (getFixed l a 4).2.2)
  else if wire = 2 then
    (if (getVarint l a).2.2 ≠ 0 then (0, (getVarint l a).2.2)
     else if (getVarint l a).1 < 0 ∨ (getVarint l a).1 > l.length - (getVarint l a).2.1 then (0, 1)
     else ((getVarint l a).2.1 + (getVarint l a).1, 0))
  else (0, 5)

theorem skip_tells (l : List Int) (a wire : Int) : ((skip l a wire).2 = 0 ∧ 0 ≤ a ∧ a < (skip l a wire).1 ∧ (skip l a wire).1 ≤ l.length) ∨ (1 ≤ (skip l a wire).2 ∧ (skip l a wire).2 ≤ 5 ∧ (skip l a wire).1 = 0) := by
  have h := getVarint_tells l a
  have h8 := getFixed_tells l a 8
  have h4 := getFixed_tells l a 4
  unfold skip
  generalize getVarint l a = v at *
  generalize getFixed l a 8 = v8 at *
  generalize getFixed l a 4 = v4 at *
  obtain ⟨x, y, z⟩ := v
  obtain ⟨x8, y8, z8⟩ := v8
  obtain ⟨x4, y4, z4⟩ := v4
  simp only at h h4 h8 ⊢
  by_cases w0 : wire = 0
  · rw [if_pos w0]; clear h8 h4; simp only; omega
  rw [if_neg w0]
  by_cases w1 : wire = 1
  · rw [if_pos w1]; clear h h4
    rcases h8 with ⟨p, q, r, s, _⟩ | ⟨p, _, s⟩
    · exact .inl ⟨p, q, r, s⟩
    · subst p; exact .inr ⟨(by decide : (1 : Int) ≤ 1), (by decide : (1 : Int) ≤ 5), s⟩
  rw [if_neg w1]
  by_cases w5 : wire = 5
  · rw [if_pos w5]; clear h h8
    rcases h4 with ⟨p, q, r, s, _⟩ | ⟨p, _, s⟩
    · exact .inl ⟨p, q, r, s⟩
    · subst p; exact .inr ⟨(by decide : (1 : Int) ≤ 1), (by decide : (1 : Int) ≤ 5), s⟩
  rw [if_neg w5]
  by_cases w2 : wire = 2
  · rw [if_pos w2]; clear h8 h4
    split
    · exact .inr ⟨(by omega : 1 ≤ z), (by omega : z ≤ 5), rfl⟩
    · split
      · right; simp
      · refine .inl ⟨rfl, ?_, ?_, ?_⟩ <;> (try simp only) <;> omega
  · rw [if_neg w2]; simp

end Go.Proofs.YtckojpaklblnpaaDoor.Wire
