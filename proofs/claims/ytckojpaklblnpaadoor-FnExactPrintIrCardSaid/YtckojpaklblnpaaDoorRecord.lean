/- Numbers and records as bytes: what their functions compute. -/
import Derived.Test.YtckojpaklblnpaaDoorBytes
import Derived.Test.YtckojpaklblnpaaDoorWire
import Derived.Lib.Varint
import Derived.Laws.BitsAllLaws
set_option linter.unusedVariables false
set_option linter.unusedSimpArgs false
set_option maxRecDepth 10000
set_option maxHeartbeats 2000000
namespace Go.Proofs.YtckojpaklblnpaaDoor.Th
open Go Go.RowKit Go.Proofs.YtckojpaklblnpaaDoor.Ev Go.Proofs.YtckojpaklblnpaaDoor.Wire

/-- A number, as a varint. -/
def varint (u : Nat) : List Int := if u < 128 then [(u : Int)] else ((u % 128 + 128 : Nat) : Int) :: varint (u / 128)
  termination_by u
  decreasing_by omega

theorem varint_len : ∀ (n u : Nat), u < 128 ^ (n + 1) → (varint u).length ≤ n + 1
  | 0, u, h => by
    unfold varint
    rw [if_pos (by omega)]
    simp
  | n + 1, u, h => by
    unfold varint
    split
    · simp
    · have := varint_len n (u / 128) (by rw [Nat.div_lt_iff_lt_mul (by omega), ← Nat.pow_succ]; exact h)
      simp
      omega

theorem varint_short (u : Nat) (h : u < 2 ^ 64) : (varint u).length ≤ 10 := varint_len 9 u (Nat.lt_of_lt_of_le h (by decide))

@[simp] theorem own_encB (b : Bool) (x : List Int) : ownedRows (List.map (List.map (litC b) ∘ encB) x) = some (x.map encB) := by
  induction x with
  | nil => simp
  | cons a r ih => simp [encB, ih]
@[simp] theorem own_encB' (x : List Int) : ownedRows (List.map (List.map C.ow ∘ encB) x) = some (x.map encB) := by
  induction x with
  | nil => simp
  | cons a r ih => simp [encB, ih]

theorem varint_big {v : Nat} (h : 128 ≤ v) : varint v = ((v % 128 + 128 : Nat) : Int) :: varint (v / 128) := by rw [varint, if_neg (by omega)]
theorem varint_small {v : Nat} (h : v < 128) : varint v = [(v : Int)] := by rw [varint, if_pos h]
theorem vi_byte (v : Nat) : IntKind.wrap .u8 (IntKind.wrap .u64 ((v : Int).tmod 128 + 128)) = ((v % 128 + 128 : Nat) : Int) := by
  rw [Int.tmod_eq_emod_of_nonneg (by omega), wrap_u8, u64_wrap]; omega
theorem vi_rest (v : Nat) (h : v < 2 ^ 64) : IntKind.wrap .u64 ((v : Int) / 128) = (v : Int) / 128 := by
  rw [u64_wrap]; omega
theorem vi_or (v : Nat) : bits .or .u8 (IntKind.wrap .u8 (v : Int)) 128 = ((v % 128 + 128 : Nat) : Int) := by
  rw [wrap_u8, Go.Lib.u8_or128_any _ (by omega) (by omega)]; omega

@[simp high] theorem free_encB (x : List Int) : List.all (List.map (List.map C.ow ∘ encB) x) (fun r => List.all r C.free) = true := by
  induction x with
  | nil => rfl
  | cons a r ih => simp only [List.map_cons, List.all_cons, ih, Bool.and_true]; rfl

theorem own_zero : ∀ n, ownedRows (List.replicate n [C.ow (T.lit (Value.int IntKind.u8 0))]) = some (List.replicate n [T.lit (Value.int IntKind.u8 0)])
  | 0 => by simp
  | n + 1 => by simp [List.replicate_succ, own_zero n]

theorem c_spec_PutVarint (u : Nat) (h : u < 2 ^ 63) : cw f_spec_PutVarint [.lit (.int .i64 u)] [] = some (.ov [.ow (.sl 1 ((varint u).map encB))] false, []) := by
  refine callW_run (by simp) fs_spec_PutVarint rfl rfl rfl ?_
  have e0 : IntKind.wrap .u64 (u : Int) = u := u64_id (by omega) (by omega)
  simp [e0]
  refine Mc.loop_ind (α := Nat × List Int) _ _ _ _ (fun x => I_spec_PutVarint_0 (.lit (.int .u64 x.1)) (.vw 96 [] 0 1 false) [(96, { cells := [.ow (.sl 1 (x.2.map encB))], var := true })]) (fun x => x.1) (fun x => x.1 < 2 ^ 64 ∧ x.2.length + (varint x.1).length ≤ 10 ∧ x.2 ++ varint x.1 = varint u) (u, []) _ (by simp) ⟨by simp; omega, by simpa using varint_short u (by omega), by simp⟩ ?_
  intro ⟨v, acc⟩ ⟨hv, hlen, ha⟩ ih
  dsimp only at hv hlen ha
  by_cases hl : 128 ≤ v
  · have hl' : (128 : Int) ≤ v := by omega
    rw [varint_big hl] at ha hlen
    have hm : acc.length ≤ 140737488355327 := by simp at hlen; omega
    simp [hl', maxBytes, hm, vi_byte, vi_rest v hv]
    refine ih (v / 128, acc ++ [((v % 128 + 128 : Nat) : Int)]) _ (by simp [encB, vi_rest v hv]) ⟨by simp; omega, by simp at hlen ⊢; omega, by simpa using ha⟩ (by simp; omega)
  · have hl' : ¬ (128 : Int) ≤ v := by omega
    rw [varint_small (by omega)] at ha hlen
    have hm : acc.length ≤ 140737488355327 := by simp at hlen; omega
    have e1 : IntKind.wrap .u8 (v : Int) = v := by rw [wrap_u8]; omega
    simp [hl', maxBytes, hm, e1, ← ha, encB]

theorem c_impl_PutVarint (u : Nat) (h : u < 2 ^ 63) : cw f_impl_PutVarint [.lit (.int .i64 u)] [] = some (.ov [.ow (.sl 1 ((varint u).map encB))] false, []) := by
  refine callW_run (by simp) fs_impl_PutVarint rfl rfl rfl ?_
  have e0 : IntKind.wrap .u64 (u : Int) = u := u64_id (by omega) (by omega)
  simp [e0]
  refine Mc.loop_ind (α := Nat × List Int) _ _ _ _ (fun x => I_impl_PutVarint_0 (if x.2 = [] then .nils else .vw 88 [] 0 1 false) (.lit (.int .u64 x.1)) (if x.2 = [] then [] else [(88, { cells := [.ow (.sl 1 (x.2.map encB))], var := true })])) (fun x => x.1) (fun x => x.1 < 2 ^ 64 ∧ x.2.length + (varint x.1).length ≤ 10 ∧ x.2 ++ varint x.1 = varint u) (u, []) _ (by simp) ⟨by simp; omega, by simpa using varint_short u (by omega), by simp⟩ ?_
  intro ⟨v, acc⟩ ⟨hv, hlen, ha⟩ ih
  dsimp only at hv hlen ha
  by_cases hl : 127 < v
  · have hl' : (127 : Int) < v := by omega
    rw [varint_big (by omega)] at ha hlen
    have hm : acc.length ≤ 140737488355327 := by simp at hlen; omega
    cases acc with
    | nil =>
      simp [hl', maxBytes, vi_or, IntKind.bits]
      refine ih (v / 128, [((v % 128 + 128 : Nat) : Int)]) _ (by simp [encB]) ⟨by simp; omega, by simp at hlen ⊢; omega, by simpa using ha⟩ (by simp; omega)
    | cons a r =>
      have hm' : r.length ≤ 140737488355326 := by simp at hm; omega
      simp [hl', maxBytes, vi_or, IntKind.bits, hm']
      refine ih (v / 128, a :: r ++ [((v % 128 + 128 : Nat) : Int)]) _ (by simp [encB]) ⟨by simp; omega, by simp at hlen ⊢; omega, by simpa using ha⟩ (by simp; omega)
  · have hl' : ¬ (127 : Int) < v := by omega
    rw [varint_small (by omega)] at ha hlen
    have hm : acc.length ≤ 140737488355327 := by simp at hlen; omega
    have e1 : IntKind.wrap .u8 (v : Int) = v := by rw [wrap_u8]; omega
    cases acc with
    | nil => simp [hl', maxBytes, hm, e1, ← ha, encB]
    | cons a r =>
      have hm' : r.length ≤ 140737488355326 := by simp at hm; omega
      simp [hl', maxBytes, hm, hm', e1, ← ha, encB]

/-- A number's low bytes, the least first. -/
def fixedN (x : Nat) : Nat → List Int
  | 0 => []
  | n + 1 => ((x % 256 : Nat) : Int) :: fixedN (x / 256) n

theorem fixedN_len (x : Nat) : ∀ n, (fixedN x n).length = n
  | 0 => rfl
  | n + 1 => by simp [fixedN, fixedN_len]

theorem fixedN_succ : ∀ (n x : Nat), fixedN x (n + 1) = fixedN x n ++ [((x / 256 ^ n % 256 : Nat) : Int)]
  | 0, x => by simp [fixedN]
  | n + 1, x => by
    rw [fixedN, fixedN_succ n (x / 256), fixedN]
    simp [Nat.div_div_eq_div_mul, Nat.pow_succ, Nat.mul_comm]

theorem vi_mod (v : Nat) : IntKind.wrap .u8 ((v : Int).tmod 256) = ((v % 256 : Nat) : Int) := by
  rw [Int.tmod_eq_emod_of_nonneg (by omega), wrap_u8]; omega
theorem vi_div (v : Nat) (h : v < 2 ^ 64) : IntKind.wrap .u64 ((v : Int) / 256) = (v : Int) / 256 := by
  rw [u64_wrap]; omega

theorem vi_shr (u i : Nat) (h : i < 8) : IntKind.wrap .u8 ((u : Int) / 2 ^ (8 * i)) = ((u / 256 ^ i % 256 : Nat) : Int) := by
  rw [wrap_u8, show (256 : Nat) ^ i = 2 ^ (8 * i) by rw [Nat.pow_mul]]
  simp

def sstep (x : Nat) (c : Int) : Nat := (x ^^^ c.toNat) * 16777619 % 4294967296
/-- The sum of bytes. -/
def sumN (l : List Int) : Nat := l.foldl sstep 2166136261

theorem sstep_lt (x : Nat) (c : Int) : sstep x c < 4294967296 := Nat.mod_lt _ (by decide)
theorem foldl_sstep_lt : ∀ (l : List Int) (x : Nat), x < 4294967296 → l.foldl sstep x < 4294967296
  | [], x, h => h
  | c :: r, x, _ => foldl_sstep_lt r _ (sstep_lt x c)
theorem sumN_lt (l : List Int) : sumN l < 4294967296 := foldl_sstep_lt l _ (by decide)

theorem s64 (x : Nat) (c : Int) (hx : x < 4294967296) (h0 : 0 ≤ c) (h1 : c < 256) : (IntKind.wrap .u64 (bits .xor .u64 (x : Int) (IntKind.wrap .u64 c) * 16777619)).tmod 4294967296 = ((sstep x c : Nat) : Int) := by
  obtain ⟨d, rfl⟩ := Int.eq_ofNat_of_zero_le h0
  have e1 : IntKind.wrap .u64 (d : Int) = (d : Int) := u64_id (by omega) (by omega)
  have hlt : x ^^^ d < 2 ^ 32 := Nat.xor_lt_two_pow (by omega) (by omega)
  rw [e1, u64_xor_nat x d (by omega) (by omega), u64_id (by omega) (by omega), Int.tmod_eq_emod_of_nonneg (by omega)]
  simp only [sstep, Int.toNat_natCast]
  omega

theorem s32 (x : Nat) (c : Int) (hx : x < 4294967296) (h0 : 0 ≤ c) (h1 : c < 256) : IntKind.wrap .u32 (bits .xor .u32 (x : Int) (IntKind.wrap .u32 c) * 16777619) = ((sstep x c : Nat) : Int) := by
  obtain ⟨d, rfl⟩ := Int.eq_ofNat_of_zero_le h0
  have e1 : IntKind.wrap .u32 (d : Int) = (d : Int) := by rw [IntKind.wrap_u32]; omega
  rw [e1, u32_xor_nat x d (by omega) (by omega), IntKind.wrap_u32]
  simp only [sstep, Int.toNat_natCast]
  omega

/-- What a record is. -/
def record (b : List Int) : List Int := if b.length > 5000 then [] else varint b.length ++ b ++ fixedN (sumN b) 4

/-- How long the first of some slices are together. -/
def lens (ls : List (List Int)) (i : Nat) : Nat := (ls.take i).flatten.length
theorem lens_zero (ls : List (List Int)) : lens ls 0 = 0 := by simp [lens]
theorem lens_succ (ls : List (List Int)) (i : Nat) (h : i < ls.length) : lens ls (i + 1) = lens ls i + ls[i].length := by
  unfold lens; rw [take_next ls i h, List.flatten_append]; simp
theorem lens_le (ls : List (List Int)) (i : Nat) : lens ls i ≤ ls.flatten.length := by
  unfold lens
  conv => rhs; rw [← List.take_append_drop i ls]
  rw [List.flatten_append, List.length_append]; omega
theorem lens_all (ls : List (List Int)) (i : Nat) (h : ls.length ≤ i) : lens ls i = ls.flatten.length := by unfold lens; rw [List.take_of_length_le h]

end Go.Proofs.YtckojpaklblnpaaDoor.Th
