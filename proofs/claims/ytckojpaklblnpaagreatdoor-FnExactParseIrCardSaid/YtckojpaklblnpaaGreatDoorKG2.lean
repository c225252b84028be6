/- Parts of the proof, merged: Pr1 Bytes Ints Ir BytesS Wire Record Stream Scan. -/
import Derived.Test.YtckojpaklblnpaaGreatDoorKG1
import Derived.Test.YtckojpaklblnpaaGreatDoorKExt
import Derived.RowKit
import Derived.Laws.BitsLemmas
import Derived.Lib.Varint
import Derived.Laws.BitsAllLaws
set_option linter.unusedVariables false
set_option linter.unusedSimpArgs false
set_option maxRecDepth 10000
set_option maxHeartbeats 2000000
namespace Go.Proofs.YtckojpaklblnpaaGreatDoor.Th
open Go Go.RowKit Go.Proofs.YtckojpaklblnpaaGreatDoor.Ev
def str (l : List UInt8) : ByteArray := ⟨l.toArray⟩
theorem str_append (a b : List UInt8) : str a ++ str b = str (a ++ b) := by
  unfold str
  apply ByteArray.ext
  simp
theorem str_list (l : List UInt8) : (str l).data.toList = l := by unfold str; rfl
theorem str_size (a : List UInt8) : (str a).size = a.length := by
  unfold str
  simp [ByteArray.size]
@[simp] theorem mk_str (l : List UInt8) : ByteArray.mk l.toArray = str l := rfl
attribute [simp] str_append str_size
theorem dec_len : ∀ (k u : Nat), u < 10 ^ (k + 1) → (Lib.decDigits u).length ≤ k + 1
  | 0, u, h => by
    have : u < 10 := by simpa using h
    rw [Lib.decDigits, dif_pos this]
    simp
  | k + 1, u, h => by
    rw [Lib.decDigits]
    by_cases h0 : u < 10
    · rw [dif_pos h0]; simp
    · rw [dif_neg h0]
      have := dec_len k (u / 10) (by rw [Nat.pow_succ] at h; omega)
      simp
      omega
theorem dec_len20 (u : Nat) (h : u < 2 ^ 64) : (Lib.decDigits u).length ≤ 20 := dec_len 19 u (by omega)
theorem wr64 (n : Int) : IntKind.u64.wrap n = n % 18446744073709551616 := by simp [IntKind.wrap, IntKind.bits, IntKind.signed]
theorem wr8 (n : Int) : IntKind.u8.wrap n = n % 256 := by simp [IntKind.wrap, IntKind.bits, IntKind.signed]
theorem digit_bytes (u : Nat) (h : u < 10) : bytesOf [[T.lit (Value.int .u8 (48 + (u : Int)))]] = some [UInt8.ofNat (48 + u)] := by
  match u, h with
  | 0, _ | 1, _ | 2, _ | 3, _ | 4, _ | 5, _ | 6, _ | 7, _ | 8, _ | 9, _ => rfl
theorem c_spec_l4Figures : ∀ (u : Nat), u < 2 ^ 64 → cw f_spec_l4Figures [.lit (.int .u64 u)] [] = some (.lit (.string (str (Lib.decDigits u))), []) := by
  intro u
  induction u using Nat.strongRecOn with
  | ind u ih =>
    intro hu
    refine callW_run (by simp) fs_spec_l4Figures rfl rfl rfl ?_
    rw [Lib.decDigits]
    by_cases h0 : u < 10
    · have h0' : (u : Int) < 10 := by omega
      have w1 : IntKind.wrap .u64 (48 + (u : Int)) = 48 + u := by rw [wr64]; omega
      have w2 : IntKind.wrap .u8 (48 + (u : Int)) = 48 + u := by rw [wr8]; omega
      have bb : bytesOf [[T.lit (Value.int .u8 (48 + (u : Int)))]] = some [UInt8.ofNat (48 + u)] := by rw [digit_bytes u h0]
      generalize UInt8.ofNat (48 + u) = dg at bb ⊢
      simp [h0, h0', w1, w2, bb]
    · have h0' : ¬ (u : Int) < 10 := by omega
      have hc := ih (u / 10) (by omega) (by omega)
      have hl := dec_len20 (u / 10) (by omega)
      have w0 : IntKind.wrap .u64 ((u : Int) / 10) = ((u / 10 : Nat) : Int) := by rw [wr64]; omega
      have w3 : ((u : Int)).tmod 10 = ((u % 10 : Nat) : Int) := rfl
      have w1 : IntKind.wrap .u64 (48 + ((u % 10 : Nat) : Int)) = 48 + ((u % 10 : Nat) : Int) := by rw [wr64]; omega
      have w2 : IntKind.wrap .u8 (48 + ((u % 10 : Nat) : Int)) = 48 + ((u % 10 : Nat) : Int) := by rw [wr8]; omega
      have bb : bytesOf [[T.lit (Value.int .u8 (48 + ((u % 10 : Nat) : Int)))]] = some [UInt8.ofNat (48 + u % 10)] := by rw [digit_bytes (u % 10) (by omega)]
      have hs : (Lib.decDigits (u / 10)).length + 1 ≤ 9223372036854775807 := by omega
      simp only [cw] at hc
      generalize Lib.decDigits (u / 10) = l at hc hs ⊢
      generalize ((u % 10 : Nat) : Int) = q at w1 w2 w3 bb
      generalize ((u / 10 : Nat) : Int) = q2 at w0 hc
      generalize UInt8.ofNat (48 + u % 10) = dg at bb ⊢
      simp [h0, h0', w0, w1, w2, w3, bb, hc, hs]
      exact .b (by kernel_rfl)
theorem itoa_len (n : Int) (h1 : -9223372036854775808 ≤ n) (h2 : n ≤ 9223372036854775807) : (Lib.itoa n).length ≤ 21 := by
  unfold Lib.itoa
  split
  · have := dec_len20 n.natAbs (by omega)
    simp
    omega
  · have := dec_len20 n.toNat (by omega)
    omega
theorem c_spec_l4Decimal (n : Int) (h1 : 0 ≤ n) (h2 : n ≤ 9223372036854775807) : cw f_spec_l4Decimal [.lit (.int .i64 n)] [] = some (.lit (.string (str (Lib.itoa n))), []) := by
  obtain ⟨u, rfl⟩ : ∃ u : Nat, n = u := ⟨n.toNat, by omega⟩
  refine callW_run (by simp) fs_spec_l4Decimal rfl rfl rfl ?_
  have hc := c_spec_l4Figures u (by omega)
  have hn : ¬ (u : Int) < 0 := by omega
  have hw : IntKind.wrap .u64 (u : Int) = u := by rw [wr64]; omega
  have he : Lib.itoa u = Lib.decDigits u := by unfold Lib.itoa; rw [if_neg hn]; rfl
  simp only [cw] at hc
  rw [he]
  generalize (u : Int) = q at hc hn hw ⊢
  simp [hn, hw, hc]
theorem c_strconv_Itoa (n : Int) (h1 : -9223372036854775808 ≤ n) (h2 : n ≤ 9223372036854775807) : cw f_strconv_Itoa [.lit (.int .i64 n)] [] = some (.lit (.string (str (Lib.itoa n))), []) := by
  refine callW_ext (g := extItoa) rfl ?_
  simp only [extItoa]
  rw [if_pos ⟨h1, h2⟩]
  rfl
def kindList : List (List UInt8) := [[105, 110, 116, 51, 50], [105, 110, 116, 54, 52], [117, 105, 110, 116, 51, 50], [117, 105, 110, 116, 54, 52], [115, 105, 110, 116, 51, 50], [115, 105, 110, 116, 54, 52], [98, 111, 111, 108], [102, 105, 120, 101, 100, 51, 50], [102, 105, 120, 101, 100, 54, 52], [115, 102, 105, 120, 101, 100, 51, 50], [115, 102, 105, 120, 101, 100, 54, 52], [102, 108, 111, 97, 116], [100, 111, 117, 98, 108, 101], [115, 116, 114, 105, 110, 103], [98, 121, 116, 101, 115]]
def wordT (k : Int) : List UInt8 := if k = 16 then [109, 101, 115, 115, 97, 103, 101] else if k = 17 then [101, 110, 117, 109] else kindList.getD (k - 1).toNat []
def encW (l : List UInt8) : List T := [.lit (.string (str l))]
theorem c_spec_l4Scalars : cw f_spec_l4Scalars [] [] = some (.ov [.ow (.sl 1 (kindList.map encW))] false, []) := by
  refine callW_run (by simp) fs_spec_l4Scalars rfl rfl rfl ?_
  simp [kindList, encW]
theorem c_impl_kindNames : cw f_impl_kindNames [] [] = some (.ov [.ow (.sl 1 (kindList.map encW))] false, []) := by
  refine callW_run (by simp) fs_impl_kindNames rfl rfl rfl ?_
  simp [kindList, encW]
theorem c_spec_l20Word (k : Int) (h : 1 ≤ k ∧ k ≤ 17) : cw f_spec_l20Word [.lit (.int .i64 k)] [] = some (.lit (.string (str (wordT k))), []) := by
  refine callW_run (by simp) fs_spec_l20Word rfl rfl rfl ?_
  unfold wordT
  by_cases h16 : k = 16
  · simp [h16]
  by_cases h17 : k = 17
  · simp [h17]
  have hc := c_spec_l4Scalars
  simp only [cw] at hc
  obtain ⟨j, rfl⟩ : ∃ j : Nat, k = (j : Int) + 1 := ⟨(k - 1).toNat, by omega⟩
  have hj : j < 15 := by omega
  have hw : IntKind.wrap .i64 (j : Int) = j := i64_wrap (by omega) (by omega)
  have hj2 : ¬ ((j : Int) < 0) := by omega
  have hlen : kindList.length = 15 := rfl
  have hget : kindList[j]? = some (kindList.getD j []) := by
    rw [List.getD_eq_getElem?_getD, List.getElem?_eq_getElem (by omega)]; rfl
  have hz : ((j : Int) + 1 - 1).toNat = j := by omega
  rw [if_neg h16, if_neg h17, hz]
  generalize kindList = kl at hc hlen hget ⊢
  generalize kl.getD j [] = wd at hget ⊢
  have h17' : ¬ (j : Int) + 1 = 17 := by omega
  simp [h16, h17', hc, hw, hj2, hget, encW]
end Go.Proofs.YtckojpaklblnpaaGreatDoor.Th
set_option linter.unusedVariables false
set_option linter.unusedSimpArgs false
set_option maxRecDepth 10000
set_option maxHeartbeats 2000000
namespace Go.Proofs.YtckojpaklblnpaaGreatDoor.Th
open Go Go.RowKit Go.Proofs.YtckojpaklblnpaaGreatDoor.Ev
def marks (k : Int) (n : Nat) : List Int := (List.range n).map fun (j : Nat) => (k + (j : Int)) % 256
@[simp] theorem marks_length (k : Int) (n : Nat) : (marks k n).length = n := by simp [marks]
theorem marks_succ (k : Int) (n : Nat) : marks k (n + 1) = marks k n ++ [(k + (n : Int)) % 256] := by simp [marks, List.range_succ]
theorem marks_get (k : Int) (n i : Nat) (h : i < (marks k n).length) : (marks k n)[i] = (k + (i : Int)) % 256 := by simp [marks]
theorem wrap_u8 (k : Int) : IntKind.wrap .u8 k = k % 256 := by simp [IntKind.wrap, IntKind.bits, IntKind.signed]
theorem c_laws_eqByteS (b b' : Bool) (l k : List Int) (h : l.length ≤ 2 ^ 50) : cw f_laws_eqByteS [.val b (.sl 1 (l.map encB)), .val b' (.sl 1 (k.map encB))] [] = some (.lit (.bool (decide (l = k))), []) := by
  refine callW_run (by simp) fs_laws_eqByteS rfl rfl rfl ?_
  by_cases hlen : l.length = k.length
  · simp [hlen]
    refine Mc.loop_ind (α := Nat) _ _ _ _ (fun i => I_laws_eqByteS_0 (.val b (.sl 1 (l.map encB))) (.val b' (.sl 1 (k.map encB))) (.lit (.int .i64 i)) []) (fun i => l.length - i) (fun i => i ≤ l.length ∧ l.take i = k.take i) 0 _ (by simp) (by simp) ?_
    intro i ⟨hi, ha⟩ ih
    by_cases hl : i < l.length
    · have hl' : i < k.length := by omega
      by_cases ho : l[i] = k[i]
      · skip
        simp [hl, hl', encB, ho, wrap_add i (by omega)]
        refine ⟨.b (by kernel_rfl), ih (i + 1) _ (by simp) ⟨by omega, ?_⟩ (by omega)⟩
        rw [take_next l i hl, take_next k i hl', ha, ho]
      · skip
        simp [hl, hl', encB, ho]
        refine ⟨.b (by kernel_rfl), ?_⟩
        intro e
        subst e
        exact ho rfl
    · simp [hl]
      rw [List.take_of_length_le (by omega), List.take_of_length_le (by omega)] at ha
      exact ha
  · simp [hlen]
    intro e
    subst e
    exact hlen rfl
theorem c_laws_markByteS (vr : Bool) (l : List Int) (k : Int) (h : l.length ≤ 2 ^ 40) (h0 : 0 ≤ k) (h1 : k ≤ 2 ^ 50) : cw f_laws_markByteS [.vw 0 [] 0 1 false, .lit (.int .i64 k)] [{ cells := [.ow (.sl 1 (l.map encB))], var := vr }] = some (.lit (.int .i64 (k + l.length)), [some { cells := [.ow (.sl 1 ((marks k l.length).map encB))], var := vr }]) := by
  refine callW_run (by simp) fs_laws_markByteS rfl rfl rfl ?_
  simp
  refine Mc.loop_ind (α := Nat × List (List T)) _ _ _ _ (fun x => I_laws_markByteS_0 (.vw 0 [] 0 1 false) (.lit (.int .i64 (k + x.1))) (.lit (.int .i64 x.1)) [(0, { cells := [.ow (.sl 1 x.2)], var := vr })]) (fun x => l.length - x.1) (fun x => x.1 ≤ l.length ∧ x.2.length = l.length ∧ (∀ r ∈ x.2, r.length = 1) ∧ x.2.take x.1 = (marks k x.1).map encB) (0, l.map encB) _ (by simp) ⟨by simp, by simp, by simp [encB], by simp [marks]⟩ ?_
  intro ⟨i, rows⟩ ⟨hi, hn, h3, ha⟩ ih
  dsimp only at hi hn ha h3
  by_cases hl : i < l.length
  · have hl' : i < rows.length := by omega
    have hr : rows[i].length = 1 := h3 _ (List.getElem_mem hl')
    have hd : List.drop 1 (List.map C.ow rows[i]) = [] := List.drop_eq_nil_of_le (by simp [hr])
    have hd' : List.drop 1 rows[i] = [] := List.drop_eq_nil_of_le (by simp [hr])
    have hw : IntKind.wrap .i64 (k + (i : Int) + 1) = k + ((i + 1 : Nat) : Int) := by rw [i64_wrap (by omega) (by omega)]; omega
    simp [hl, hl', hn, encB, wrap_add i (by omega), hr, hd, hd', hw, wrap_u8]
    refine ih (i + 1, rows.set i (encB ((k + (i : Int)) % 256))) _ (by simp [encB]) ⟨by simp; omega, by simpa using hn, set_all h3 (by simp [encB]), ?_⟩ (by simp; omega)
    simp only [take_set _ _ _ hl', marks_succ, ha, List.map_append, List.map_cons, List.map_nil]
  · have hi' : i = l.length := by omega
    subst hi'
    rw [List.take_of_length_le (by omega)] at ha
    simp [hn, ha]
theorem c_laws_heldByteS (b : Bool) (n : Nat) (k : Int) (h : n ≤ 2 ^ 40) (h0 : 0 ≤ k) (h1 : k ≤ 2 ^ 50) : cw f_laws_heldByteS [.val b (.sl 1 ((marks k n).map encB)), .lit (.int .i64 k)] [] = some (.lit (.int .i64 (k + n)), []) := by
  refine callW_run (by simp) fs_laws_heldByteS rfl rfl rfl ?_
  simp
  refine Mc.loop_ind (α := Nat) _ _ _ _ (fun i => I_laws_heldByteS_0 (.val b (.sl 1 ((marks k n).map encB))) (.lit (.int .i64 (k + i))) (.lit (.int .i64 i)) []) (fun i => n - i) (fun i => i ≤ n) 0 _ (by simp) (by simp) ?_
  intro i hi ih
  by_cases hl : i < n
  · have hl' : i < (marks k n).length := by simpa using hl
    have hw : IntKind.wrap .i64 (k + (i : Int) + 1) = k + ((i + 1 : Nat) : Int) := by rw [i64_wrap (by omega) (by omega)]; omega
    simp [hl, hl', encB, wrap_add i (by omega), hw, wrap_u8, marks_get]
    exact ih (i + 1) _ (by simp) (by omega) (by omega)
  · have hi' : i = n := by omega
    subst hi'
    simp
end Go.Proofs.YtckojpaklblnpaaGreatDoor.Th
set_option linter.unusedVariables false
set_option linter.unusedSimpArgs false
set_option maxRecDepth 10000
set_option maxHeartbeats 2000000
namespace Go.Proofs.YtckojpaklblnpaaGreatDoor.Th
open Go Go.RowKit Go.Proofs.YtckojpaklblnpaaGreatDoor.Ev
theorem c_laws_eqIntS (b b' : Bool) (l k : List Int) (h : l.length ≤ 2 ^ 50) : cw f_laws_eqIntS [.val b (.sl 1 (l.map encI)), .val b' (.sl 1 (k.map encI))] [] = some (.lit (.bool (decide (l = k))), []) := by
  refine callW_run (by simp) fs_laws_eqIntS rfl rfl rfl ?_
  by_cases hlen : l.length = k.length
  · simp [hlen]
    refine Mc.loop_ind (α := Nat) _ _ _ _ (fun i => I_laws_eqIntS_0 (.val b (.sl 1 (l.map encI))) (.val b' (.sl 1 (k.map encI))) (.lit (.int .i64 i)) []) (fun i => l.length - i) (fun i => i ≤ l.length ∧ l.take i = k.take i) 0 _ (by simp) (by simp) ?_
    intro i ⟨hi, ha⟩ ih
    by_cases hl : i < l.length
    · have hl' : i < k.length := by omega
      by_cases ho : l[i] = k[i]
      · skip
        simp [hl, hl', encI, ho, wrap_add i (by omega)]
        refine ⟨.b (by kernel_rfl), ih (i + 1) _ (by simp) ⟨by omega, ?_⟩ (by omega)⟩
        rw [take_next l i hl, take_next k i hl', ha, ho]
      · skip
        simp [hl, hl', encI, ho]
        refine ⟨.b (by kernel_rfl), ?_⟩
        intro e
        subst e
        exact ho rfl
    · simp [hl]
      rw [List.take_of_length_le (by omega), List.take_of_length_le (by omega)] at ha
      exact ha
  · simp [hlen]
    intro e
    subst e
    exact hlen rfl
theorem c_spec_l9SameInts (b b' : Bool) (l k : List Int) (h : l.length ≤ 2 ^ 50) : cw f_spec_l9SameInts [.val b (.sl 1 (l.map encI)), .val b' (.sl 1 (k.map encI))] [] = some (.lit (.bool (decide (l = k))), []) := by
  refine callW_run (by simp) fs_spec_l9SameInts rfl rfl rfl ?_
  by_cases hlen : l.length = k.length
  · simp [hlen]
    refine Mc.loop_ind (α := Nat) _ _ _ _ (fun i => I_spec_l9SameInts_0 (.val b (.sl 1 (l.map encI))) (.val b' (.sl 1 (k.map encI))) (.lit (.int .i64 i)) []) (fun i => l.length - i) (fun i => i ≤ l.length ∧ l.take i = k.take i) 0 _ (by simp) (by simp) ?_
    intro i ⟨hi, ha⟩ ih
    by_cases hl : i < l.length
    · have hl' : i < k.length := by omega
      by_cases ho : l[i] = k[i]
      · skip
        simp [hl, hl', encI, ho, wrap_add i (by omega)]
        refine ⟨.b (by kernel_rfl), ih (i + 1) _ (by simp) ⟨by omega, ?_⟩ (by omega)⟩
        rw [take_next l i hl, take_next k i hl', ha, ho]
      · skip
        simp [hl, hl', encI, ho]
        refine ⟨.b (by kernel_rfl), ?_⟩
        intro e
        subst e
        exact ho rfl
    · simp [hl]
      rw [List.take_of_length_le (by omega), List.take_of_length_le (by omega)] at ha
      exact ha
  · simp [hlen]
    intro e
    subst e
    exact hlen rfl
theorem c_slices_Equal_Lint_int (b b' : Bool) (l k : List Int) (h : l.length ≤ 2 ^ 50) : cw f_slices_Equal_Lint_int [.val b (.sl 1 (l.map encI)), .val b' (.sl 1 (k.map encI))] [] = some (.lit (.bool (decide (l = k))), []) := by
  refine callW_run (by simp) fs_slices_Equal_Lint_int rfl rfl rfl ?_
  by_cases hlen : l.length = k.length
  · simp [hlen]
    refine Mc.loop_ind (α := Nat) _ _ _ _ (fun i => I_slices_Equal_Lint_int_0 (.val b (.sl 1 (l.map encI))) (.val b' (.sl 1 (k.map encI))) (.lit (.int .i64 l.length)) (.lit (.int .i64 i)) []) (fun i => l.length - i) (fun i => i ≤ l.length ∧ l.take i = k.take i) 0 _ (by simp [hlen]) (by simp) ?_
    intro i ⟨hi, ha⟩ ih
    by_cases hl : i < l.length
    · have hl' : i < k.length := by omega
      by_cases ho : l[i] = k[i]
      · skip
        simp [hl, hl', encI, ho, wrap_add i (by omega)]
        refine ⟨.b (by kernel_rfl), ih (i + 1) _ (by simp) ⟨by omega, ?_⟩ (by omega)⟩
        rw [take_next l i hl, take_next k i hl', ha, ho]
      · skip
        simp [hl, hl', encI, ho]
        refine ⟨.b (by kernel_rfl), ?_⟩
        intro e
        subst e
        exact ho rfl
    · simp [hl]
      rw [List.take_of_length_le (by omega), List.take_of_length_le (by omega)] at ha
      exact ha
  · simp [hlen]
    intro e
    subst e
    exact hlen rfl
end Go.Proofs.YtckojpaklblnpaaGreatDoor.Th
set_option linter.unusedVariables false
set_option linter.unusedSimpArgs false
set_option maxRecDepth 10000
set_option maxHeartbeats 2000000
namespace Go.Proofs.YtckojpaklblnpaaGreatDoor.Th
open Go Go.RowKit Go.Proofs.YtckojpaklblnpaaGreatDoor.Ev
inductive OpT where
  | mk (num kind ref : Int) (rep : Bool) (oneof : Int) (tag : List Int) (quick : Bool) (run : Int) (inl : List OpT)
  deriving Inhabited
namespace OpT
def num : OpT → Int | .mk a _ _ _ _ _ _ _ _ => a
def kind : OpT → Int | .mk _ a _ _ _ _ _ _ _ => a
def ref : OpT → Int | .mk _ _ a _ _ _ _ _ _ => a
def rep : OpT → Bool | .mk _ _ _ a _ _ _ _ _ => a
def oneof : OpT → Int | .mk _ _ _ _ a _ _ _ _ => a
def tag : OpT → List Int | .mk _ _ _ _ _ a _ _ _ => a
def quick : OpT → Bool | .mk _ _ _ _ _ _ a _ _ => a
def run : OpT → Int | .mk _ _ _ _ _ _ _ a _ => a
def inl : OpT → List OpT | .mk _ _ _ _ _ _ _ _ a => a
end OpT
mutual
def OpT.enc : OpT → List T
  | .mk a b c d e f g h i => [.lit (.int .i64 a), .lit (.int .i64 b), .lit (.int .i64 c), .lit (.bool d), .lit (.int .i64 e), .sl 1 (f.map encB), .lit (.bool g), .lit (.int .i64 h), .sl 9 (encOps i)]
def encOps : List OpT → List (List T)
  | [] => []
  | x :: r => x.enc :: encOps r
end
theorem encOps_eq : ∀ l : List OpT, encOps l = l.map OpT.enc
  | [] => by simp [encOps]
  | x :: r => by simp [encOps, encOps_eq r]
theorem OpT.enc_eq (x : OpT) : x.enc = [.lit (.int .i64 x.num), .lit (.int .i64 x.kind), .lit (.int .i64 x.ref), .lit (.bool x.rep), .lit (.int .i64 x.oneof), .sl 1 (x.tag.map encB), .lit (.bool x.quick), .lit (.int .i64 x.run), .sl 9 (x.inl.map OpT.enc)] := by
  cases x
  simp [OpT.enc, encOps_eq, num, kind, ref, rep, oneof, tag, quick, run, inl]
noncomputable instance : DecidableEq OpT := fun a b => Classical.propDecidable (a = b)
theorem OpT.mem_lt {x y : OpT} (h : y ∈ x.inl) : SizeOf.sizeOf y < SizeOf.sizeOf x := by
  cases x
  simp only [inl] at h
  have := List.sizeOf_lt_of_mem h
  simp only [mk.sizeOf_spec]
  omega
inductive OpT.Small : OpT → Prop
  | mk (x : OpT) (h1 : x.tag.length ≤ 2 ^ 40) (h2 : x.inl.length ≤ 2 ^ 40) (h3 : ∀ y ∈ x.inl, OpT.Small y) : OpT.Small x
theorem OpT.Small.inv {x : OpT} (h : x.Small) : x.tag.length ≤ 2 ^ 40 ∧ x.inl.length ≤ 2 ^ 40 ∧ ∀ y ∈ x.inl, y.Small := by
  cases h with
  | mk _ h1 h2 h3 => exact ⟨h1, h2, h3⟩
structure ModT where
  ops : List OpT
  jumps : List Int
  cached : Bool
def ModT.enc (m : ModT) : List T := [.sl 9 (m.ops.map OpT.enc), .sl 1 (m.jumps.map encI), .lit (.bool m.cached)]
noncomputable instance : DecidableEq ModT := fun a b => Classical.propDecidable (a = b)
def ModT.Small (m : ModT) : Prop := m.ops.length ≤ 2 ^ 40 ∧ (∀ y ∈ m.ops, y.Small) ∧ m.jumps.length ≤ 2 ^ 40
def encM (l : List ModT) : List T := [.sl 3 (l.map ModT.enc)]
end Go.Proofs.YtckojpaklblnpaaGreatDoor.Th
set_option linter.unusedVariables false
set_option linter.unusedSimpArgs false
set_option maxRecDepth 10000
set_option maxHeartbeats 2000000
namespace Go.Proofs.YtckojpaklblnpaaGreatDoor.Th
open Go Go.RowKit Go.Proofs.YtckojpaklblnpaaGreatDoor.Ev
def marksS (k : Int) : List Nat → List (List Int)
  | [] => []
  | n :: r => marks k n :: marksS (k + n) r
@[simp] theorem marksS_length : ∀ (l : List Nat) (k : Int), (marksS k l).length = l.length
  | [], _ => rfl
  | n :: r, k => by simp [marksS, marksS_length r]
end Go.Proofs.YtckojpaklblnpaaGreatDoor.Th
namespace Go.Proofs.YtckojpaklblnpaaGreatDoor.Wire
open Go Go.RowKit
def IsB (l : List Int) : Prop := ∀ x ∈ l, 0 ≤ x ∧ x < 256
theorem IsB.getD {l : List Int} (h : IsB l) (i : Nat) : 0 ≤ l.getD i 0 ∧ l.getD i 0 < 256 := by
  rw [List.getD_eq_getElem?_getD]
  cases e : l[i]? with
  | none => simp
  | some x => simpa using h x (List.mem_of_getElem? e)
theorem u64_wrap (n : Int) : IntKind.u64.wrap n = n % 18446744073709551616 := by simp [IntKind.wrap, IntKind.bits, IntKind.signed]
theorem u64_id {x : Int} (h0 : 0 ≤ x) (h1 : x < 18446744073709551616) : IntKind.u64.wrap x = x := by
  rw [u64_wrap]; omega
@[irreducible] def p7 (i : Nat) : Int := 2 ^ (7 * i)
@[irreducible] def p8 (i : Nat) : Int := 2 ^ (8 * i)
def gvl (l : List Int) (a : Nat) : Nat → Int → Int × Int × Int
  | 0, _ => (0, 0, 2)
  | n + 1, u =>
    if l.length ≤ a + (9 - n) then (0, 0, 1)
    else if n = 0 ∧ 1 < l.getD (a + (9 - n)) 0 then (0, 0, 2)
    else if l.getD (a + (9 - n)) 0 < 128 then (wrap64 (u + l.getD (a + (9 - n)) 0 % 128 * p7 (9 - n)), ((a + (9 - n) + 1 : Nat) : Int), 0)
    else gvl l a n (u + l.getD (a + (9 - n)) 0 % 128 * p7 (9 - n))
def getVarint (l : List Int) (a : Int) : Int × Int × Int := if 0 ≤ a ∧ a ≤ l.length then gvl l a.toNat 10 0 else (0, 0, 1)
/-! ### fixed numbers -/
def le : List Int → Int
  | [] => 0
  | b :: t => b + 256 * le t
def getFixed (l : List Int) (a size : Int) : Int × Int × Int :=
  if (size = 4 ∨ size = 8) ∧ 0 ≤ a ∧ a + size ≤ l.length then (wrap64 (le ((l.drop a.toNat).take size.toNat)), a + size, 0) else (0, 0, 1)
/-! ### tags -/
def skip (l : List Int) (a wire : Int) : Int × Int :=
  if wire = 0 then ((getVarint l a).2.1, (getVarint l a).2.2)
  else if wire = 1 then ((getFixed l a 8).2.1, (getFixed l a 8).2.2)
  else if wire = 5 then ((getFixed l a 4).2.1, (getFixed l a 4).2.2)
  else if wire = 2 then
    (if (getVarint l a).2.2 ≠ 0 then (0, (getVarint l a).2.2)
     else if (getVarint l a).1 < 0 ∨ (getVarint l a).1 > l.length - (getVarint l a).2.1 then (0, 1)
     else ((getVarint l a).2.1 + (getVarint l a).1, 0))
  else (0, 5)
end Go.Proofs.YtckojpaklblnpaaGreatDoor.Wire
set_option linter.unusedVariables false
set_option linter.unusedSimpArgs false
set_option maxRecDepth 10000
set_option maxHeartbeats 2000000
namespace Go.Proofs.YtckojpaklblnpaaGreatDoor.Th
open Go Go.RowKit Go.Proofs.YtckojpaklblnpaaGreatDoor.Ev Go.Proofs.YtckojpaklblnpaaGreatDoor.Wire
def varint (u : Nat) : List Int := if u < 128 then [(u : Int)] else ((u % 128 + 128 : Nat) : Int) :: varint (u / 128)
  termination_by u
  decreasing_by omega
theorem varint_len : ∀ (n u : Nat), u < 128 ^ (n + 1) → (varint u).length ≤ n + 1
  | 0, u, h => by
    unfold varint
    rw [if_pos (by omega)]
    simp
  | n + 1, u, h => by
    unfold varint
    split
    · simp
    · have := varint_len n (u / 128) (by rw [Nat.div_lt_iff_lt_mul (by omega), ← Nat.pow_succ]; exact h)
      simp
      omega
theorem varint_short (u : Nat) (h : u < 2 ^ 64) : (varint u).length ≤ 10 := varint_len 9 u (Nat.lt_of_lt_of_le h (by decide))
@[simp] theorem own_encB (b : Bool) (x : List Int) : ownedRows (List.map (List.map (litC b) ∘ encB) x) = some (x.map encB) := by
  induction x with
  | nil => simp
  | cons a r ih => simp [encB, ih]
@[simp] theorem own_encB' (x : List Int) : ownedRows (List.map (List.map C.ow ∘ encB) x) = some (x.map encB) := by
  induction x with
  | nil => simp
  | cons a r ih => simp [encB, ih]
theorem varint_big {v : Nat} (h : 128 ≤ v) : varint v = ((v % 128 + 128 : Nat) : Int) :: varint (v / 128) := by rw [varint, if_neg (by omega)]
theorem varint_small {v : Nat} (h : v < 128) : varint v = [(v : Int)] := by rw [varint, if_pos h]
theorem vi_byte (v : Nat) : IntKind.wrap .u8 (IntKind.wrap .u64 ((v : Int).tmod 128 + 128)) = ((v % 128 + 128 : Nat) : Int) := by
  rw [Int.tmod_eq_emod_of_nonneg (by omega), wrap_u8, u64_wrap]; omega
theorem vi_rest (v : Nat) (h : v < 2 ^ 64) : IntKind.wrap .u64 ((v : Int) / 128) = (v : Int) / 128 := by
  rw [u64_wrap]; omega
theorem vi_or (v : Nat) : bits .or .u8 (IntKind.wrap .u8 (v : Int)) 128 = ((v % 128 + 128 : Nat) : Int) := by
  rw [wrap_u8, Go.Lib.u8_or128_any _ (by omega) (by omega)]; omega
@[simp high] theorem free_encB (x : List Int) : List.all (List.map (List.map C.ow ∘ encB) x) (fun r => List.all r C.free) = true := by
  induction x with
  | nil => rfl
  | cons a r ih => simp only [List.map_cons, List.all_cons, ih, Bool.and_true]; rfl
theorem c_spec_PutVarint (u : Nat) (h : u < 2 ^ 63) : cw f_spec_PutVarint [.lit (.int .i64 u)] [] = some (.ov [.ow (.sl 1 ((varint u).map encB))] false, []) := by
  refine callW_run (by simp) fs_spec_PutVarint rfl rfl rfl ?_
  have e0 : IntKind.wrap .u64 (u : Int) = u := u64_id (by omega) (by omega)
  simp [e0]
  refine Mc.loop_ind (α := Nat × List Int) _ _ _ _ (fun x => I_spec_PutVarint_0 (.lit (.int .u64 x.1)) (.vw 96 [] 0 1 false) [(96, { cells := [.ow (.sl 1 (x.2.map encB))], var := true })]) (fun x => x.1) (fun x => x.1 < 2 ^ 64 ∧ x.2.length + (varint x.1).length ≤ 10 ∧ x.2 ++ varint x.1 = varint u) (u, []) _ (by simp) ⟨by simp; omega, by simpa using varint_short u (by omega), by simp⟩ ?_
  intro ⟨v, acc⟩ ⟨hv, hlen, ha⟩ ih
  dsimp only at hv hlen ha
  by_cases hl : 128 ≤ v
  · have hl' : (128 : Int) ≤ v := by omega
    rw [varint_big hl] at ha hlen
    have hm : acc.length ≤ 140737488355327 := by simp at hlen; omega
    simp [hl', maxBytes, hm, vi_byte, vi_rest v hv]
    refine ih (v / 128, acc ++ [((v % 128 + 128 : Nat) : Int)]) _ (by simp [encB, vi_rest v hv]) ⟨by simp; omega, by simp at hlen ⊢; omega, by simpa using ha⟩ (by simp; omega)
  · have hl' : ¬ (128 : Int) ≤ v := by omega
    rw [varint_small (by omega)] at ha hlen
    have hm : acc.length ≤ 140737488355327 := by simp at hlen; omega
    have e1 : IntKind.wrap .u8 (v : Int) = v := by rw [wrap_u8]; omega
    simp [hl', maxBytes, hm, e1, ← ha, encB]
theorem c_impl_PutVarint (u : Nat) (h : u < 2 ^ 63) : cw f_impl_PutVarint [.lit (.int .i64 u)] [] = some (.ov [.ow (.sl 1 ((varint u).map encB))] false, []) := by
  refine callW_run (by simp) fs_impl_PutVarint rfl rfl rfl ?_
  have e0 : IntKind.wrap .u64 (u : Int) = u := u64_id (by omega) (by omega)
  simp [e0]
  refine Mc.loop_ind (α := Nat × List Int) _ _ _ _ (fun x => I_impl_PutVarint_0 (if x.2 = [] then .nils else .vw 88 [] 0 1 false) (.lit (.int .u64 x.1)) (if x.2 = [] then [] else [(88, { cells := [.ow (.sl 1 (x.2.map encB))], var := true })])) (fun x => x.1) (fun x => x.1 < 2 ^ 64 ∧ x.2.length + (varint x.1).length ≤ 10 ∧ x.2 ++ varint x.1 = varint u) (u, []) _ (by simp) ⟨by simp; omega, by simpa using varint_short u (by omega), by simp⟩ ?_
  intro ⟨v, acc⟩ ⟨hv, hlen, ha⟩ ih
  dsimp only at hv hlen ha
  by_cases hl : 127 < v
  · have hl' : (127 : Int) < v := by omega
    rw [varint_big (by omega)] at ha hlen
    have hm : acc.length ≤ 140737488355327 := by simp at hlen; omega
    cases acc with
    | nil =>
      simp [hl', maxBytes, vi_or, IntKind.bits]
      refine ih (v / 128, [((v % 128 + 128 : Nat) : Int)]) _ (by simp [encB]) ⟨by simp; omega, by simp at hlen ⊢; omega, by simpa using ha⟩ (by simp; omega)
    | cons a r =>
      have hm' : r.length ≤ 140737488355326 := by simp at hm; omega
      simp [hl', maxBytes, vi_or, IntKind.bits, hm']
      refine ih (v / 128, a :: r ++ [((v % 128 + 128 : Nat) : Int)]) _ (by simp [encB]) ⟨by simp; omega, by simp at hlen ⊢; omega, by simpa using ha⟩ (by simp; omega)
  · have hl' : ¬ (127 : Int) < v := by omega
    rw [varint_small (by omega)] at ha hlen
    have hm : acc.length ≤ 140737488355327 := by simp at hlen; omega
    have e1 : IntKind.wrap .u8 (v : Int) = v := by rw [wrap_u8]; omega
    cases acc with
    | nil => simp [hl', maxBytes, hm, e1, ← ha, encB]
    | cons a r =>
      have hm' : r.length ≤ 140737488355326 := by simp at hm; omega
      simp [hl', maxBytes, hm, hm', e1, ← ha, encB]
def fixedN (x : Nat) : Nat → List Int
  | 0 => []
  | n + 1 => ((x % 256 : Nat) : Int) :: fixedN (x / 256) n
def sstep (x : Nat) (c : Int) : Nat := (x ^^^ c.toNat) * 16777619 % 4294967296
def sumN (l : List Int) : Nat := l.foldl sstep 2166136261
theorem s64 (x : Nat) (c : Int) (hx : x < 4294967296) (h0 : 0 ≤ c) (h1 : c < 256) : (IntKind.wrap .u64 (bits .xor .u64 (x : Int) (IntKind.wrap .u64 c) * 16777619)).tmod 4294967296 = ((sstep x c : Nat) : Int) := by
  obtain ⟨d, rfl⟩ := Int.eq_ofNat_of_zero_le h0
  have e1 : IntKind.wrap .u64 (d : Int) = (d : Int) := u64_id (by omega) (by omega)
  have hlt : x ^^^ d < 2 ^ 32 := Nat.xor_lt_two_pow (by omega) (by omega)
  rw [e1, u64_xor_nat x d (by omega) (by omega), u64_id (by omega) (by omega), Int.tmod_eq_emod_of_nonneg (by omega)]
  simp only [sstep, Int.toNat_natCast]
  omega
theorem s32 (x : Nat) (c : Int) (hx : x < 4294967296) (h0 : 0 ≤ c) (h1 : c < 256) : IntKind.wrap .u32 (bits .xor .u32 (x : Int) (IntKind.wrap .u32 c) * 16777619) = ((sstep x c : Nat) : Int) := by
  obtain ⟨d, rfl⟩ := Int.eq_ofNat_of_zero_le h0
  have e1 : IntKind.wrap .u32 (d : Int) = (d : Int) := by rw [IntKind.wrap_u32]; omega
  rw [e1, u32_xor_nat x d (by omega) (by omega), IntKind.wrap_u32]
  simp only [sstep, Int.toNat_natCast]
  omega
def record (b : List Int) : List Int := if b.length > 5000 then [] else varint b.length ++ b ++ fixedN (sumN b) 4
end Go.Proofs.YtckojpaklblnpaaGreatDoor.Th
set_option linter.unusedVariables false
set_option linter.unusedSimpArgs false
set_option maxRecDepth 10000
set_option maxHeartbeats 2000000
namespace Go.Proofs.YtckojpaklblnpaaGreatDoor.Th
open Go Go.RowKit Go.Proofs.YtckojpaklblnpaaGreatDoor.Ev Go.Proofs.YtckojpaklblnpaaGreatDoor.Wire
def pre (ls : List (List Int)) (i : Nat) : List Int := ((ls.take i).map record).flatten
end Go.Proofs.YtckojpaklblnpaaGreatDoor.Th
set_option linter.unusedVariables false
set_option linter.unusedSimpArgs false
set_option maxRecDepth 10000
set_option maxHeartbeats 2000000
namespace Go.Proofs.YtckojpaklblnpaaGreatDoor.Th
open Go Go.RowKit Go.Proofs.YtckojpaklblnpaaGreatDoor.Ev Go.Proofs.YtckojpaklblnpaaGreatDoor.Wire
theorem c_spec_l1In (a lo hi : Int) : cw f_spec_l1In [.lit (.int .i64 a), .lit (.int .i64 lo), .lit (.int .i64 hi)] [] = some (.lit (.bool (decide (lo ≤ a ∧ a ≤ hi))), []) := by
  refine callW_run (by simp) fs_spec_l1In rfl rfl rfl ?_
  by_cases h : lo ≤ a <;> simp [h]
theorem c_impl_within (a lo hi : Int) : cw f_impl_within [.lit (.int .i64 a), .lit (.int .i64 lo), .lit (.int .i64 hi)] [] = some (.lit (.bool (decide (lo ≤ a ∧ a ≤ hi))), []) := by
  refine callW_run (by simp) fs_impl_within rfl rfl rfl ?_
  by_cases h : lo ≤ a <;> simp [h]
end Go.Proofs.YtckojpaklblnpaaGreatDoor.Th
