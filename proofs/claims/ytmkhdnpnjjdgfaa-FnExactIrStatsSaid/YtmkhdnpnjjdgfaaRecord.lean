/- Numbers and records as bytes: what their functions compute. -/
import Derived.Test.YtmkhdnpnjjdgfaaBytes
import Derived.Test.YtmkhdnpnjjdgfaaWire
import Derived.Lib.Varint
import Derived.Laws.BitsAllLaws
set_option linter.unusedVariables false
set_option linter.unusedSimpArgs false
set_option maxRecDepth 10000
set_option maxHeartbeats 2000000
namespace Go.Proofs.Ytmkhdnpnjjdgfaa.Th
open Go Go.RowKit Go.Proofs.Ytmkhdnpnjjdgfaa.Ev Go.Proofs.Ytmkhdnpnjjdgfaa.Wire

/-- A number, as a varint. -/
def varint (u : Nat) : List Int := if u < 128 then [(u : Int)] else ((u % 128 + 128 : Nat) : Int) :: varint (u / 128)
  termination_by u
  decreasing_by omega

theorem varint_len : ∀ (n u : Nat), u < 128 ^ (n + 1) → (varint u).length ≤ n + 1
  | 0, u, h => by
    unfold varint
    rw [if_pos (by omega)]
    simp
  | n + 1, u, h => by
    unfold varint
    split
    · simp
    · have := varint_len n (u / 128) (by rw [Nat.div_lt_iff_lt_mul (by omega), ← Nat.pow_succ]; exact h)
      simp
      omega

theorem varint_short (u : Nat) (h : u < 2 ^ 64) : (varint u).length ≤ 10 := varint_len 9 u (Nat.lt_of_lt_of_le h (by decide))

@[simp] theorem own_encB (b : Bool) (x : List Int) : ownedRows (List.map (List.map (litC b) ∘ encB) x) = some (x.map encB) := by
  induction x with
  | nil => simp
  | cons a r ih => simp [encB, ih]
@[simp] theorem own_encB' (x : List Int) : ownedRows (List.map (List.map C.ow ∘ encB) x) = some (x.map encB) := by
  induction x with
  | nil => simp
  | cons a r ih => simp [encB, ih]

theorem varint_big {v : Nat} (h : 128 ≤ v) : varint v = ((v % 128 + 128 : Nat) : Int) :: varint (v / 128) := by rw [varint, if_neg (by omega)]
theorem varint_small {v : Nat} (h : v < 128) : varint v = [(v : Int)] := by rw [varint, if_pos h]
theorem vi_byte (v : Nat) : IntKind.wrap .u8 (IntKind.wrap .u64 ((v : Int).tmod 128 + 128)) = ((v % 128 + 128 : Nat) : Int) := by
  rw [Int.tmod_eq_emod_of_nonneg (by omega), wrap_u8, u64_wrap]; omega
theorem vi_rest (v : Nat) (h : v < 2 ^ 64) : IntKind.wrap .u64 ((v : Int) / 128) = (v : Int) / 128 := by
  rw [u64_wrap]; omega
theorem vi_or (v : Nat) : bits .or .u8 (IntKind.wrap .u8 (v : Int)) 128 = ((v % 128 + 128 : Nat) : Int) := by
  rw [wrap_u8, Go.Lib.u8_or128_any _ (by omega) (by omega)]; omega

@[simp high] theorem free_encB (x : List Int) : List.all (List.map (List.map C.ow ∘ encB) x) (fun r => List.all r C.free) = true := by
  induction x with
  | nil => rfl
  | cons a r ih => simp only [List.map_cons, List.all_cons, ih, Bool.and_true]; rfl

theorem own_zero : ∀ n, ownedRows (List.replicate n [C.ow (T.lit (Value.int IntKind.u8 0))]) = some (List.replicate n [T.lit (Value.int IntKind.u8 0)])
  | 0 => by simp
  | n + 1 => by simp [List.replicate_succ, own_zero n]

theorem c_spec_PutVarint (u : Nat) (h : u < 2 ^ 63) : cw f_spec_PutVarint [.lit (.int .i64 u)] [] = some (.ov [.ow (.sl 1 ((varint u).map encB))] false, []) := by
  refine callW_run (by simp) fs_spec_PutVarint rfl rfl rfl ?_
  have e0 : IntKind.wrap .u64 (u : Int) = u := u64_id (by omega) (by omega)
  simp [e0]
  refine Mc.loop_ind (α := Nat × List Int) _ _ _ _ (fun x => I_spec_PutVarint_0 (.lit (.int .u64 x.1)) (.vw 96 [] 0 1 false) [(96, { cells := [.ow (.sl 1 (x.2.map encB))], var := true })]) (fun x => x.1) (fun x => x.1 < 2 ^ 64 ∧ x.2.length + (varint x.1).length ≤ 10 ∧ x.2 ++ varint x.1 = varint u) (u, []) _ (by simp) ⟨by simp; omega, by simpa using varint_short u (by omega), by simp⟩ ?_
  intro ⟨v, acc⟩ ⟨hv, hlen, ha⟩ ih
  dsimp only at hv hlen ha
  by_cases hl : 128 ≤ v
  · have hl' : (128 : Int) ≤ v := by omega
    rw [varint_big hl] at ha hlen
    have hm : acc.length ≤ 140737488355327 := by simp at hlen; omega
    simp [hl', maxBytes, hm, vi_byte, vi_rest v hv]
    refine ih (v / 128, acc ++ [((v % 128 + 128 : Nat) : Int)]) _ (by simp [encB, vi_rest v hv]) ⟨by simp; omega, by simp at hlen ⊢; omega, by simpa using ha⟩ (by simp; omega)
  · have hl' : ¬ (128 : Int) ≤ v := by omega
    rw [varint_small (by omega)] at ha hlen
    have hm : acc.length ≤ 140737488355327 := by simp at hlen; omega
    have e1 : IntKind.wrap .u8 (v : Int) = v := by rw [wrap_u8]; omega
    simp [hl', maxBytes, hm, e1, ← ha, encB]

theorem c_impl_PutVarint (u : Nat) (h : u < 2 ^ 63) : cw f_impl_PutVarint [.lit (.int .i64 u)] [] = some (.ov [.ow (.sl 1 ((varint u).map encB))] false, []) := by
  refine callW_run (by simp) fs_impl_PutVarint rfl rfl rfl ?_
  have e0 : IntKind.wrap .u64 (u : Int) = u := u64_id (by omega) (by omega)
  simp [e0]
  refine Mc.loop_ind (α := Nat × List Int) _ _ _ _ (fun x => I_impl_PutVarint_0 (if x.2 = [] then .nils else .vw 88 [] 0 1 false) (.lit (.int .u64 x.1)) (if x.2 = [] then [] else [(88, { cells := [.ow (.sl 1 (x.2.map encB))], var := true })])) (fun x => x.1) (fun x => x.1 < 2 ^ 64 ∧ x.2.length + (varint x.1).length ≤ 10 ∧ x.2 ++ varint x.1 = varint u) (u, []) _ (by simp) ⟨by simp; omega, by simpa using varint_short u (by omega), by simp⟩ ?_
  intro ⟨v, acc⟩ ⟨hv, hlen, ha⟩ ih
  dsimp only at hv hlen ha
  by_cases hl : 127 < v
  · have hl' : (127 : Int) < v := by omega
    rw [varint_big (by omega)] at ha hlen
    have hm : acc.length ≤ 140737488355327 := by simp at hlen; omega
    cases acc with
    | nil =>
      simp [hl', maxBytes, vi_or, IntKind.bits]
      refine ih (v / 128, [((v % 128 + 128 : Nat) : Int)]) _ (by simp [encB]) ⟨by simp; omega, by simp at hlen ⊢; omega, by simpa using ha⟩ (by simp; omega)
    | cons a r =>
      have hm' : r.length ≤ 140737488355326 := by simp at hm; omega
      simp [hl', maxBytes, vi_or, IntKind.bits, hm']
      refine ih (v / 128, a :: r ++ [((v % 128 + 128 : Nat) : Int)]) _ (by simp [encB]) ⟨by simp; omega, by simp at hlen ⊢; omega, by simpa using ha⟩ (by simp; omega)
  · have hl' : ¬ (127 : Int) < v := by omega
    rw [varint_small (by omega)] at ha hlen
    have hm : acc.length ≤ 140737488355327 := by simp at hlen; omega
    have e1 : IntKind.wrap .u8 (v : Int) = v := by rw [wrap_u8]; omega
    cases acc with
    | nil => simp [hl', maxBytes, hm, e1, ← ha, encB]
    | cons a r =>
      have hm' : r.length ≤ 140737488355326 := by simp at hm; omega
      simp [hl', maxBytes, hm, hm', e1, ← ha, encB]

/-- A number's low bytes, the least first. -/
def fixedN (x : Nat) : Nat → List Int
  | 0 => []
  | n + 1 => ((x % 256 : Nat) : Int) :: fixedN (x / 256) n

theorem fixedN_len (x : Nat) : ∀ n, (fixedN x n).length = n
  | 0 => rfl
  | n + 1 => by simp [fixedN, fixedN_len]

theorem fixedN_succ : ∀ (n x : Nat), fixedN x (n + 1) = fixedN x n ++ [((x / 256 ^ n % 256 : Nat) : Int)]
  | 0, x => by simp [fixedN]
  | n + 1, x => by
    rw [fixedN, fixedN_succ n (x / 256), fixedN]
    simp [Nat.div_div_eq_div_mul, Nat.pow_succ, Nat.mul_comm]

theorem vi_mod (v : Nat) : IntKind.wrap .u8 ((v : Int).tmod 256) = ((v % 256 : Nat) : Int) := by
  rw [Int.tmod_eq_emod_of_nonneg (by omega), wrap_u8]; omega
theorem vi_div (v : Nat) (h : v < 2 ^ 64) : IntKind.wrap .u64 ((v : Int) / 256) = (v : Int) / 256 := by
  rw [u64_wrap]; omega

theorem c_spec_PutFixed4 (u : Nat) (h : u < 2 ^ 63) : cw f_spec_PutFixed [.lit (.int .i64 u), .lit (.int .i64 4)] [] = some (.ov [.ow (.sl 1 ((fixedN u 4).map encB))] false, []) := by
  refine callW_run (by simp) fs_spec_PutFixed rfl rfl rfl ?_
  have e0 : IntKind.wrap .u64 (u : Int) = u := u64_id (by omega) (by omega)
  simp [e0]
  refine Mc.loop_ind (α := Nat × Nat × List Int) _ _ _ _ (fun x => I_spec_PutFixed_0 (.lit (.int .i64 4)) (.vw 104 [] 0 1 false) (.lit (.int .u64 x.2.1)) (.lit (.int .i64 x.1)) [(104, { cells := [.ow (.sl 1 (x.2.2.map encB))], var := true })]) (fun x => 4 - x.1) (fun x => x.1 ≤ 4 ∧ x.2.1 < 2 ^ 64 ∧ x.2.2.length = x.1 ∧ x.2.2 ++ fixedN x.2.1 (4 - x.1) = fixedN u 4) (0, u, []) _ (by simp) ⟨by simp, by simp; omega, by simp, by simp⟩ ?_
  intro ⟨i, v, acc⟩ ⟨hi, hv, hlen, ha⟩ ih
  dsimp only at hi hv hlen ha
  by_cases hl : i < 4
  · have hl' : (i : Int) < 4 := by omega
    have hm : acc.length ≤ 140737488355327 := by omega
    rw [show 4 - i = (3 - i) + 1 by omega, fixedN] at ha
    simp [hl', maxBytes, hm, vi_mod, vi_div v hv, wrap_add i (by omega)]
    refine ih (i + 1, v / 256, acc ++ [((v % 256 : Nat) : Int)]) _ (by simp [encB]) ⟨by simp; omega, by simp; omega, by simp; omega, by rw [show 4 - (i + 1) = 3 - i by omega]; simpa using ha⟩ (by simp; omega)
  · have hl' : ¬ (i : Int) < 4 := by omega
    rw [show 4 - i = 0 by omega, fixedN] at ha
    simp [hl', ← ha]

theorem vi_shr (u i : Nat) (h : i < 8) : IntKind.wrap .u8 ((u : Int) / 2 ^ (8 * i)) = ((u / 256 ^ i % 256 : Nat) : Int) := by
  rw [wrap_u8, show (256 : Nat) ^ i = 2 ^ (8 * i) by rw [Nat.pow_mul]]
  simp

theorem c_impl_PutFixed4 (u : Nat) (h : u < 2 ^ 63) : cw f_impl_PutFixed [.lit (.int .i64 u), .lit (.int .i64 4)] [] = some (.ov [.ow (.sl 1 ((fixedN u 4).map encB))] false, []) := by
  refine callW_run (by simp) fs_impl_PutFixed rfl rfl rfl ?_
  simp
  refine Mc.loop_ind (α := Nat) _ _ _ _ (fun i => I_impl_PutFixed_0 (.lit (.int .i64 u)) (.lit (.int .i64 4)) (if i = 0 then .nils else .vw 104 [] 0 1 false) (.lit (.int .i64 i)) (if i = 0 then [] else [(104, { cells := [.ow (.sl 1 ((fixedN u i).map encB))], var := true })])) (fun i => 4 - i) (fun i => i ≤ 4) 0 _ (by simp) (by simp) ?_
  intro i hi ih
  by_cases hl : i < 4
  · have hl' : (i : Int) < 4 := by omega
    have hm : (fixedN u i).length ≤ 140737488355327 := by rw [fixedN_len]; omega
    have hw : IntKind.wrap .i64 (8 * (i : Int)) = 8 * (i : Int) := i64_wrap (by omega) (by omega)
    have hn : ¬ (8 * (i : Int) < 0) := by omega
    have hs : min (8 * (i : Int)).toNat 64 = 8 * i := by omega
    by_cases h0 : i = 0
    · subst h0
      have hu : IntKind.wrap .u8 (u : Int) = ((u % 256 : Nat) : Int) := by rw [wrap_u8]; omega
      have h1 : IntKind.wrap .i64 1 = 1 := by decide
      have h0 : IntKind.wrap .i64 0 = 0 := by decide
      simp [maxBytes, IntKind.bits, h1, h0, hu]
      refine ih 1 _ (by simp [fixedN, encB]) (by omega) (by omega)
    · have hsh := vi_shr u i (by omega)
      simp [hl', h0, maxBytes, hm, wrap_add i (by omega), hw, hn, IntKind.bits, hs]
      refine ih (i + 1) _ ?_ (by omega) (by omega)
      simp [fixedN_succ, encB, hsh]
  · have h4 : i = 4 := by omega
    subst h4
    simp

def sstep (x : Nat) (c : Int) : Nat := (x ^^^ c.toNat) * 16777619 % 4294967296
/-- The sum of bytes. -/
def sumN (l : List Int) : Nat := l.foldl sstep 2166136261

theorem sstep_lt (x : Nat) (c : Int) : sstep x c < 4294967296 := Nat.mod_lt _ (by decide)
theorem foldl_sstep_lt : ∀ (l : List Int) (x : Nat), x < 4294967296 → l.foldl sstep x < 4294967296
  | [], x, h => h
  | c :: r, x, _ => foldl_sstep_lt r _ (sstep_lt x c)
theorem sumN_lt (l : List Int) : sumN l < 4294967296 := foldl_sstep_lt l _ (by decide)

theorem s64 (x : Nat) (c : Int) (hx : x < 4294967296) (h0 : 0 ≤ c) (h1 : c < 256) : (IntKind.wrap .u64 (bits .xor .u64 (x : Int) (IntKind.wrap .u64 c) * 16777619)).tmod 4294967296 = ((sstep x c : Nat) : Int) := by
  obtain ⟨d, rfl⟩ := Int.eq_ofNat_of_zero_le h0
  have e1 : IntKind.wrap .u64 (d : Int) = (d : Int) := u64_id (by omega) (by omega)
  have hlt : x ^^^ d < 2 ^ 32 := Nat.xor_lt_two_pow (by omega) (by omega)
  rw [e1, u64_xor_nat x d (by omega) (by omega), u64_id (by omega) (by omega), Int.tmod_eq_emod_of_nonneg (by omega)]
  simp only [sstep, Int.toNat_natCast]
  omega

theorem s32 (x : Nat) (c : Int) (hx : x < 4294967296) (h0 : 0 ≤ c) (h1 : c < 256) : IntKind.wrap .u32 (bits .xor .u32 (x : Int) (IntKind.wrap .u32 c) * 16777619) = ((sstep x c : Nat) : Int) := by
  obtain ⟨d, rfl⟩ := Int.eq_ofNat_of_zero_le h0
  have e1 : IntKind.wrap .u32 (d : Int) = (d : Int) := by rw [IntKind.wrap_u32]; omega
  rw [e1, u32_xor_nat x d (by omega) (by omega), IntKind.wrap_u32]
  simp only [sstep, Int.toNat_natCast]
  omega

theorem c_spec_l11Sum (b : Bool) (l : List Int) (hB : IsB l) (h : l.length ≤ 2 ^ 50) : cw f_spec_l11Sum [.val b (.sl 1 (l.map encB))] [] = some (.ov [.ow (.sl 1 ((fixedN (sumN l) 4).map encB))] false, []) := by
  refine callW_run (by simp) fs_spec_l11Sum rfl rfl rfl ?_
  simp
  refine Mc.loop_ind (α := Nat × Nat) _ _ _ _ (fun x => I_spec_l11Sum_0 (.val b (.sl 1 (l.map encB))) (.lit (.int .u64 x.2)) (.lit (.int .i64 x.1)) []) (fun x => l.length - x.1) (fun x => x.1 ≤ l.length ∧ x.2 < 4294967296 ∧ x.2 = (l.take x.1).foldl sstep 2166136261) (0, 2166136261) _ (by simp) (by simp) ?_
  intro ⟨i, x⟩ ⟨hi, hx, ha⟩ ih
  dsimp only at hi hx ha
  by_cases hl : i < l.length
  · have hc := hB l[i] (List.getElem_mem hl)
    have hs := s64 x l[i] hx hc.1 hc.2
    have hlt := sstep_lt x l[i]
    have hta : (l.take (i + 1)).foldl sstep 2166136261 = sstep x l[i] := by rw [take_next l i hl, List.foldl_append, ← ha, List.foldl_cons, List.foldl_nil]
    generalize sstep x l[i] = y at hs hlt hta
    simp [hl, encB, hs, wrap_add i (by omega)]
    exact ih (i + 1, y) _ (by simp [hs]) ⟨by simp; omega, hlt, hta.symm⟩ (by simp; omega)
  · rw [List.take_of_length_le (by omega)] at ha
    have hc := c_spec_PutFixed4 x (by omega)
    simp only [cw] at hc
    have hw : IntKind.wrap .i64 (x : Int) = x := i64_wrap (by omega) (by omega)
    simp [hl, hw, hc, sumN, ← ha]

theorem c_impl_sum32 (b : Bool) (l : List Int) (hB : IsB l) (h : l.length ≤ 2 ^ 50) : cw f_impl_sum32 [.val b (.sl 1 (l.map encB))] [] = some (.lit (.int .i64 (sumN l)), []) := by
  refine callW_run (by simp) fs_impl_sum32 rfl rfl rfl ?_
  simp
  refine Mc.loop_ind (α := Nat × Nat) _ _ _ _ (fun x => I_impl_sum32_0 (.lit (.int .u32 x.2)) (.val b (.sl 1 (l.map encB))) (.lit (.int .i64 l.length)) (.lit (.int .i64 x.1)) []) (fun x => l.length - x.1) (fun x => x.1 ≤ l.length ∧ x.2 < 4294967296 ∧ x.2 = (l.take x.1).foldl sstep 2166136261) (0, 2166136261) _ (by simp) (by simp) ?_
  intro ⟨i, x⟩ ⟨hi, hx, ha⟩ ih
  dsimp only at hi hx ha
  by_cases hl : i < l.length
  · have hc := hB l[i] (List.getElem_mem hl)
    have hs := s32 x l[i] hx hc.1 hc.2
    have hlt := sstep_lt x l[i]
    have hta : (l.take (i + 1)).foldl sstep 2166136261 = sstep x l[i] := by rw [take_next l i hl, List.foldl_append, ← ha, List.foldl_cons, List.foldl_nil]
    generalize sstep x l[i] = y at hs hlt hta
    simp [hl, encB, -Mc.ops_nil]
    rw [Mc.ops_nil]
    simp [hl, encB, -Mc.ops_nil]
    rw [Mc.ops_nil, Mc.normal_seq, Mc.at_region]
    rw [Mc.ops_cons]
    simp [-Mc.ops_cons]
    rw [Mc.ops_cons]
    simp [-Mc.ops_cons]
    rw [Mc.ops_cons]
    simp [-Mc.ops_cons]
    rw [Mc.ops_cons]
    simp [-Mc.ops_cons]
    rw [Mc.ops_cons]
    simp [-Mc.ops_cons, hs]
    simp [wrap_add i (by omega)]
    exact ih (i + 1, y) _ (by simp) ⟨by simp; omega, hlt, hta.symm⟩ (by simp; omega)
  · rw [List.take_of_length_le (by omega)] at ha
    have hw : IntKind.wrap .i64 (x : Int) = x := i64_wrap (by omega) (by omega)
    simp [hl, hw, sumN, ← ha]

/-- What a record is. -/
def record (b : List Int) : List Int := if b.length > 5000 then [] else varint b.length ++ b ++ fixedN (sumN b) 4

theorem c_slices_Grow (n : Nat) (h : n ≤ 2 ^ 40) (h0 : 0 < n) : cw f_slices_Grow_Lbyte_byte [.nils, .lit (.int .i64 n)] [] = some (.ov [.ow (.sl 1 [])] false, []) := by
  refine callW_run (by simp) fs_slices_Grow_Lbyte_byte rfl rfl rfl ?_
  have hw : IntKind.wrap .i64 (n : Int) = n := i64_wrap (by omega) (by omega)
  have hw0 : IntKind.wrap .i64 0 = 0 := by decide
  have hp : (0 : Int) < n := by omega
  have hm : n ≤ 140737488355328 := by omega
  simp [hw, hw0, hp, h0, hm, maxBytes, own_zero]

theorem c_spec_PutRecord (b : Bool) (l : List Int) (hB : IsB l) (h : l.length ≤ 2 ^ 40) : cw f_spec_PutRecord [.val b (.sl 1 (l.map encB))] [] = some (.ov [.ow (.sl 1 ((record l).map encB))] false, []) := by
  refine callW_run (by simp) fs_spec_PutRecord rfl rfl rfl ?_
  by_cases hl : 5000 < l.length
  · have hl' : (5000 : Int) < l.length := by omega
    simp [hl', hl, record, encB]
  · have hl' : ¬ (5000 : Int) < l.length := by omega
    have h1 := c_spec_PutVarint l.length (by omega)
    have h2 := c_spec_l11Sum b l hB (by omega)
    simp only [cw] at h1 h2
    have h3 := varint_short l.length (by omega)
    have h4 := fixedN_len (sumN l) 4
    have h5 : (varint l.length).length + l.length ≤ 140737488355328 := by omega
    have h6 : (varint l.length).length + (l.length + 4) ≤ 140737488355328 := by omega
    simp [hl', hl, record, h1, h2, maxBytes, h4, h5, h6]

/-- How long the first of some slices are together. -/
def lens (ls : List (List Int)) (i : Nat) : Nat := (ls.take i).flatten.length
theorem lens_zero (ls : List (List Int)) : lens ls 0 = 0 := by simp [lens]
theorem lens_succ (ls : List (List Int)) (i : Nat) (h : i < ls.length) : lens ls (i + 1) = lens ls i + ls[i].length := by
  unfold lens; rw [take_next ls i h, List.flatten_append]; simp
theorem lens_le (ls : List (List Int)) (i : Nat) : lens ls i ≤ ls.flatten.length := by
  unfold lens
  conv => rhs; rw [← List.take_append_drop i ls]
  rw [List.flatten_append, List.length_append]; omega
theorem lens_all (ls : List (List Int)) (i : Nat) (h : ls.length ≤ i) : lens ls i = ls.flatten.length := by unfold lens; rw [List.take_of_length_le h]

/-- What comes of slices behind one another. -/
theorem c_slices_Concat (b : Bool) (ls : List (List Int)) (h : ls.flatten.length ≤ 2 ^ 40) (h0 : 0 < ls.flatten.length) (hn : ls.length ≤ 2 ^ 40) : cw f_slices_Concat_Lbyte_byte [.val b (.sl 1 (ls.map (encS 1 encB)))] [] = some (.ov [.ow (.sl 1 (ls.flatten.map encB))] false, []) := by
  refine callW_run (by simp) fs_slices_Concat_Lbyte_byte rfl rfl rfl ?_
  simp
  refine Mc.loop_ind (α := Nat) _ _ _ _ (fun i => I_slices_Concat_Lbyte_byte_0 (.val b (.sl 1 (ls.map (encS 1 encB)))) (.lit (.int .i64 (lens ls i))) (.val b (.sl 1 (ls.map (encS 1 encB)))) (.lit (.int .i64 ls.length)) (.lit (.int .i64 i)) []) (fun i => ls.length - i) (fun i => i ≤ ls.length) 0 _ (by simp [lens_zero]) (by simp) ?_
  intro i hi ih
  have hle := lens_le ls i
  by_cases hl : i < ls.length
  · have hs := lens_succ ls i hl
    have hle' := lens_le ls (i + 1)
    have hw : IntKind.wrap .i64 ((lens ls i : Int) + ls[i].length) = (lens ls (i + 1) : Int) := by rw [hs, i64_wrap (by omega) (by omega)]; simp
    simp [hl, encS, hw, wrap_add i (by omega)]
    exact ih (i + 1) _ (by simp) (by omega) (by omega)
  · have hc := c_slices_Grow (lens ls i) (by omega) (by rw [lens_all ls i (by omega)]; exact h0)
    simp only [cw] at hc
    simp [hl, hc]
    clear ih
    refine Mc.loop_ind (α := Nat) _ _ _ _ (fun i => I_slices_Concat_Lbyte_byte_1 (.vw 112 [] 0 1 false) (.val b (.sl 1 (ls.map (encS 1 encB)))) (.lit (.int .i64 ls.length)) (.lit (.int .i64 i)) [(112, { cells := [.ow (.sl 1 ((ls.take i).flatten.map encB))], var := true })]) (fun i => ls.length - i) (fun i => i ≤ ls.length) 0 _ (by simp) (by simp) ?_
    intro j hj ih
    by_cases hl : j < ls.length
    · have hs := lens_succ ls j hl
      have hle' := lens_le ls (j + 1)
      have hm : ((ls.take j).flatten).length + ls[j].length ≤ 140737488355328 := by unfold lens at hs hle'; omega
      have ht : (ls.take (j + 1)).flatten = (ls.take j).flatten ++ ls[j] := by rw [take_next ls j hl, List.flatten_append]; simp
      generalize (ls.take j).flatten = acc at hm ht ⊢
      simp [hl, encS, maxBytes, hm, wrap_add j (by omega)]
      exact ih (j + 1) _ (by simp [ht]) (by omega) (by omega)
    · rw [List.take_of_length_le (by omega)]
      simp [hl]

theorem c_impl_PutRecord (b : Bool) (l : List Int) (hB : IsB l) (h : l.length ≤ 2 ^ 40) : cw f_impl_PutRecord [.val b (.sl 1 (l.map encB))] [] = some (if l.length > 5000 then .nils else .ov [.ow (.sl 1 ((record l).map encB))] false, []) := by
  refine callW_run (by simp) fs_impl_PutRecord rfl rfl rfl ?_
  by_cases hl : 5000 < l.length
  · have hl' : (5000 : Int) < l.length := by omega
    simp [hl', hl]
  · have hl' : ¬ (5000 : Int) < l.length := by omega
    have h1 := c_impl_PutVarint l.length (by omega)
    have h2 := c_impl_sum32 b l hB (by omega)
    have h3 := c_impl_PutFixed4 (sumN l) (by have := sumN_lt l; omega)
    have h4 := varint_short l.length (by omega)
    have h5 := fixedN_len (sumN l) 4
    have h6 := c_slices_Concat true [varint l.length, l, fixedN (sumN l) 4] (by simp; omega) (by simp; omega) (by simp)
    simp only [cw] at h1 h2 h3 h6
    simp [encS] at h6
    simp [hl', hl, record, h1, h2, h3, h6]

theorem c_law_PutRecord (l : List Int) (hB : IsB l) (h : l.length ≤ maxLen) : cw f_laws_FnExactPutRecord [.val false (.sl 1 (l.map encB))] [] = some (.lit (.bool true), []) := by
  refine callW_run (by simp) fs_laws_FnExactPutRecord rfl rfl rfl ?_
  by_cases hp : 1048576 < l.length
  · have hp' : (1048576 : Int) < l.length := by omega
    simp [hp']
  · have hp' : ¬ (1048576 : Int) < l.length := by omega
    have h1 := c_laws_toByteS false l (by omega)
    have h2 := c_spec_PutRecord true l hB (by omega)
    have h3 := c_impl_PutRecord true l hB (by omega)
    have hr : (record l).length ≤ 2 ^ 40 := by
      unfold record
      split
      · simp
      · have := varint_short l.length (by omega)
        simp [fixedN_len]
        omega
    have h4 := c_laws_eqByteS true true (record l) (record l) (by omega)
    have h5 := c_laws_eqByteS true true l l (by omega)
    have h6 := c_laws_markByteS true l 1 (by omega) (by omega) (by omega)
    have h7 := c_laws_markByteS true (record l) 1 (by omega) (by omega) (by omega)
    have h8 := c_laws_heldByteS true (record l).length 1 (by omega) (by omega) (by omega)
    have n4 := c_laws_eqByteS_nil true []
    have n7 := c_laws_markByteS_nil 1
    have n8 := c_laws_heldByteS_nil 1
    simp only [cw] at h1 h2 h3 h4 h5 h6 h7 h8 n4 n7 n8
    have g1 : ¬ (1 + (l.length : Int) < 0) := by omega
    have g2 : ¬ (1 + ((record l).length : Int) < 0) := by omega
    by_cases hl : 5000 < l.length
    · have hz : record l = [] := by unfold record; rw [if_pos hl]
      rw [hz] at h2 h3
      simp only [gt_iff_lt, if_pos hl] at h3
      simp at h2 n4
      simp [hp', h1, h2, h3, h5, h6, n4, n7, n8, g1]
    · simp only [gt_iff_lt, if_neg hl] at h3
      simp [hp', h1, h2, h3, h4, h5, h6, h7, h8, g1, g2]

end Go.Proofs.Ytmkhdnpnjjdgfaa.Th
