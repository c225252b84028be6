/- Texts: numbers. -/
import Derived.Test.YtckojpaklblnpaaDoorComm
import Derived.Test.YtckojpaklblnpaaDoorExt
import Derived.Test.YtckojpaklblnpaaDoorComm
set_option linter.unusedVariables false
set_option linter.unusedSimpArgs false
set_option maxRecDepth 10000
set_option maxHeartbeats 2000000
namespace Go.Proofs.YtckojpaklblnpaaDoor.Th
open Go Go.RowKit Go.Proofs.YtckojpaklblnpaaDoor.Ev

/-- A text out of bytes. -/
def str (l : List UInt8) : ByteArray := ⟨l.toArray⟩
theorem str_append (a b : List UInt8) : str a ++ str b = str (a ++ b) := by
  unfold str
  apply ByteArray.ext
  simp
theorem str_size (a : List UInt8) : (str a).size = a.length := by
  unfold str
  simp [ByteArray.size]
@[simp] theorem mk_str (l : List UInt8) : ByteArray.mk l.toArray = str l := rfl
attribute [simp] str_append str_size

theorem dec_len : ∀ (k u : Nat), u < 10 ^ (k + 1) → (Lib.decDigits u).length ≤ k + 1
  | 0, u, h => by
    have : u < 10 := by simpa using h
    rw [Lib.decDigits, dif_pos this]
    simp
  | k + 1, u, h => by
    rw [Lib.decDigits]
    by_cases h0 : u < 10
    · rw [dif_pos h0]; simp
    · rw [dif_neg h0]
      have := dec_len k (u / 10) (by rw [Nat.pow_succ] at h; omega)
      simp
      omega
theorem dec_len20 (u : Nat) (h : u < 2 ^ 64) : (Lib.decDigits u).length ≤ 20 := dec_len 19 u (by omega)

theorem wr64 (n : Int) : IntKind.u64.wrap n = n % 18446744073709551616 := by simp [IntKind.wrap, IntKind.bits, IntKind.signed]
theorem wr8 (n : Int) : IntKind.u8.wrap n = n % 256 := by simp [IntKind.wrap, IntKind.bits, IntKind.signed]
theorem digit_bytes (u : Nat) (h : u < 10) : bytesOf [[T.lit (Value.int .u8 (48 + (u : Int)))]] = some [UInt8.ofNat (48 + u)] := by
  match u, h with
  | 0, _ | 1, _ | 2, _ | 3, _ | 4, _ | 5, _ | 6, _ | 7, _ | 8, _ | 9, _ => rfl

theorem c_spec_l4Figures : ∀ (u : Nat), u < 2 ^ 64 → cw f_spec_l4Figures [.lit (.int .u64 u)] [] = some (.lit (.string (str (Lib.decDigits u))), []) := by
  intro u
  induction u using Nat.strongRecOn with
  | ind u ih =>
    intro hu
    refine callW_run (by simp) fs_spec_l4Figures rfl rfl rfl ?_
    rw [Lib.decDigits]
    by_cases h0 : u < 10
    · have h0' : (u : Int) < 10 := by omega
      have w1 : IntKind.wrap .u64 (48 + (u : Int)) = 48 + u := by rw [wr64]; omega
      have w2 : IntKind.wrap .u8 (48 + (u : Int)) = 48 + u := by rw [wr8]; omega
      have bb : bytesOf [[T.lit (Value.int .u8 (48 + (u : Int)))]] = some [UInt8.ofNat (48 + u)] := by rw [digit_bytes u h0]
      generalize UInt8.ofNat (48 + u) = dg at bb ⊢
      simp [h0, h0', w1, w2, bb]
    · have h0' : ¬ (u : Int) < 10 := by omega
      have hc := ih (u / 10) (by omega) (by omega)
      have hl := dec_len20 (u / 10) (by omega)
      have w0 : IntKind.wrap .u64 ((u : Int) / 10) = ((u / 10 : Nat) : Int) := by rw [wr64]; omega
      have w3 : ((u : Int)).tmod 10 = ((u % 10 : Nat) : Int) := rfl
      have w1 : IntKind.wrap .u64 (48 + ((u % 10 : Nat) : Int)) = 48 + ((u % 10 : Nat) : Int) := by rw [wr64]; omega
      have w2 : IntKind.wrap .u8 (48 + ((u % 10 : Nat) : Int)) = 48 + ((u % 10 : Nat) : Int) := by rw [wr8]; omega
      have bb : bytesOf [[T.lit (Value.int .u8 (48 + ((u % 10 : Nat) : Int)))]] = some [UInt8.ofNat (48 + u % 10)] := by rw [digit_bytes (u % 10) (by omega)]
      have hs : (Lib.decDigits (u / 10)).length + 1 ≤ 9223372036854775807 := by omega
      simp only [cw] at hc
      generalize Lib.decDigits (u / 10) = l at hc hs ⊢
      generalize ((u % 10 : Nat) : Int) = q at w1 w2 w3 bb
      generalize ((u / 10 : Nat) : Int) = q2 at w0 hc
      generalize UInt8.ofNat (48 + u % 10) = dg at bb ⊢
      simp [h0, h0', w0, w1, w2, w3, bb, hc, hs]
      exact .b (by kernel_rfl)

theorem itoa_len (n : Int) (h1 : -9223372036854775808 ≤ n) (h2 : n ≤ 9223372036854775807) : (Lib.itoa n).length ≤ 21 := by
  unfold Lib.itoa
  split
  · have := dec_len20 n.natAbs (by omega)
    simp
    omega
  · have := dec_len20 n.toNat (by omega)
    omega

theorem c_spec_l4Decimal (n : Int) (h1 : 0 ≤ n) (h2 : n ≤ 9223372036854775807) : cw f_spec_l4Decimal [.lit (.int .i64 n)] [] = some (.lit (.string (str (Lib.itoa n))), []) := by
  obtain ⟨u, rfl⟩ : ∃ u : Nat, n = u := ⟨n.toNat, by omega⟩
  refine callW_run (by simp) fs_spec_l4Decimal rfl rfl rfl ?_
  have hc := c_spec_l4Figures u (by omega)
  have hn : ¬ (u : Int) < 0 := by omega
  have hw : IntKind.wrap .u64 (u : Int) = u := by rw [wr64]; omega
  have he : Lib.itoa u = Lib.decDigits u := by unfold Lib.itoa; rw [if_neg hn]; rfl
  simp only [cw] at hc
  rw [he]
  generalize (u : Int) = q at hc hn hw ⊢
  simp [hn, hw, hc]

theorem c_strconv_Itoa (n : Int) (h1 : -9223372036854775808 ≤ n) (h2 : n ≤ 9223372036854775807) : cw f_strconv_Itoa [.lit (.int .i64 n)] [] = some (.lit (.string (str (Lib.itoa n))), []) := by
  refine callW_ext (g := extItoa) rfl ?_
  simp only [extItoa]
  rw [if_pos ⟨h1, h2⟩]
  rfl

def kindList : List (List UInt8) := [[105, 110, 116, 51, 50], [105, 110, 116, 54, 52], [117, 105, 110, 116, 51, 50], [117, 105, 110, 116, 54, 52], [115, 105, 110, 116, 51, 50], [115, 105, 110, 116, 54, 52], [98, 111, 111, 108], [102, 105, 120, 101, 100, 51, 50], [102, 105, 120, 101, 100, 54, 52], [115, 102, 105, 120, 101, 100, 51, 50], [115, 102, 105, 120, 101, 100, 54, 52], [102, 108, 111, 97, 116], [100, 111, 117, 98, 108, 101], [115, 116, 114, 105, 110, 103], [98, 121, 116, 101, 115]]
def wordT (k : Int) : List UInt8 := if k = 16 then [109, 101, 115, 115, 97, 103, 101] else if k = 17 then [101, 110, 117, 109] else kindList.getD (k - 1).toNat []

def encW (l : List UInt8) : List T := [.lit (.string (str l))]

theorem c_spec_l4Scalars : cw f_spec_l4Scalars [] [] = some (.ov [.ow (.sl 1 (kindList.map encW))] false, []) := by
  refine callW_run (by simp) fs_spec_l4Scalars rfl rfl rfl ?_
  simp [kindList, encW]
theorem c_impl_kindNames : cw f_impl_kindNames [] [] = some (.ov [.ow (.sl 1 (kindList.map encW))] false, []) := by
  refine callW_run (by simp) fs_impl_kindNames rfl rfl rfl ?_
  simp [kindList, encW]

theorem c_spec_l20Word (k : Int) (h : 1 ≤ k ∧ k ≤ 17) : cw f_spec_l20Word [.lit (.int .i64 k)] [] = some (.lit (.string (str (wordT k))), []) := by
  refine callW_run (by simp) fs_spec_l20Word rfl rfl rfl ?_
  unfold wordT
  by_cases h16 : k = 16
  · simp [h16]
  by_cases h17 : k = 17
  · simp [h17]
  have hc := c_spec_l4Scalars
  simp only [cw] at hc
  obtain ⟨j, rfl⟩ : ∃ j : Nat, k = (j : Int) + 1 := ⟨(k - 1).toNat, by omega⟩
  have hj : j < 15 := by omega
  have hw : IntKind.wrap .i64 (j : Int) = j := i64_wrap (by omega) (by omega)
  have hj2 : ¬ ((j : Int) < 0) := by omega
  have hlen : kindList.length = 15 := rfl
  have hget : kindList[j]? = some (kindList.getD j []) := by
    rw [List.getD_eq_getElem?_getD, List.getElem?_eq_getElem (by omega)]; rfl
  have hz : ((j : Int) + 1 - 1).toNat = j := by omega
  rw [if_neg h16, if_neg h17, hz]
  generalize kindList = kl at hc hlen hget ⊢
  generalize kl.getD j [] = wd at hget ⊢
  have h17' : ¬ (j : Int) + 1 = 17 := by omega
  simp [h16, h17', hc, hw, hj2, hget, encW]

end Go.Proofs.YtckojpaklblnpaaDoor.Th
