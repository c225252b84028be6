/- The program's Enough returns what the reference's Enough returns, for every slice of bytes; the law answers true. -/
import Derived.Test.YtmkhdnpnjjdgfaaPFnExactEnoughx1
namespace Go.Proofs.Ytmkhdnpnjjdgfaa.Pure
open Go.RowKit Go.Proofs.Ytmkhdnpnjjdgfaa.PFnExactEnough Go.Proofs.YtmkhdnpnjjdgfaaW.PrintWords Go.Proofs.YtmkhdnpnjjdgfaaW.PrintLast

theorem w1 {i n : Nat} (h : i < n) (hn : n ≤ 140737488351232) : wrap64 ((i : Int) + 1) = ((i + 1 : Nat) : Int) := by
  unfold wrap64; omega

theorem rd_nat (xs : List Int) (i : Nat) : rd xs (i : Int) = xs.getD i 0 := by
  unfold rd; simp

theorem toByteS_l0 (l : List Int) (hl : l.length ≤ 140737488351232) : ∀ (d k i : Nat) (x : List Int), x.length = l.length → x.take i = l.take i → i ≤ l.length → l.length - i = d → d < k →
    laws_toByteS.l0 k l x (i : Int) = some l := by
  intro d
  induction d with
  | zero =>
    intro k i x hx ht hi hd hk
    obtain ⟨k, rfl⟩ : ∃ m, k = m + 1 := ⟨k - 1, by omega⟩
    simp only [laws_toByteS.l0]
    rw [if_neg (by omega)]
    have : i = l.length := by omega
    subst this
    rw [List.take_length, ← hx, List.take_length] at ht
    rw [ht]
  | succ d ih =>
    intro k i x hx ht hi hd hk
    obtain ⟨k, rfl⟩ : ∃ m, k = m + 1 := ⟨k - 1, by omega⟩
    simp only [laws_toByteS.l0]
    rw [if_pos (by omega), if_pos (by omega), if_pos (by omega), w1 (n := l.length) (by omega) hl]
    refine ih k (i + 1) _ (by simpa using hx) ?_ (by omega) (by omega) (by omega)
    have hil : i < l.length := by omega
    have hix : i < x.length := by omega
    rw [List.take_succ_eq_append_getElem (by simpa using hix), List.take_succ_eq_append_getElem hil]
    rw [List.take_set, ht, List.set_eq_of_length_le (by simp; omega)]
    simp [rd_nat, hil]

theorem toByteS_f (l : List Int) (hl : l.length ≤ 140737488351232) (k : Nat) (hk : l.length < k) : laws_toByteS.f k l = some l := by
  unfold laws_toByteS.f
  rw [if_pos (by omega), if_pos (by omega)]
  exact toByteS_l0 l hl l.length k 0 _ (by simp) (by simp) (by omega) (by omega) (by omega)

theorem eqByteS_l0 (l : List Int) (hl : l.length ≤ 140737488351232) : ∀ (d k i : Nat), i ≤ l.length → l.length - i = d → d < k →
    laws_eqByteS.l0 k l l (i : Int) = some true := by
  intro d
  induction d with
  | zero =>
    intro k i hi hd hk
    obtain ⟨k, rfl⟩ : ∃ m, k = m + 1 := ⟨k - 1, by omega⟩
    simp only [laws_eqByteS.l0]
    rw [if_neg (by omega)]
  | succ d ih =>
    intro k i hi hd hk
    obtain ⟨k, rfl⟩ : ∃ m, k = m + 1 := ⟨k - 1, by omega⟩
    simp only [laws_eqByteS.l0]
    rw [if_pos (by omega), if_pos (by omega), if_pos (by omega), if_pos trivial, w1 (n := l.length) (by omega) hl]
    exact ih k (i + 1) (by omega) (by omega) (by omega)

theorem eqByteS_f (l : List Int) (hl : l.length ≤ 140737488351232) (k : Nat) (hk : l.length < k) : laws_eqByteS.f k l l = some true := by
  unfold laws_eqByteS.f
  rw [if_pos rfl]
  exact eqByteS_l0 l hl l.length k 0 (by omega) (by omega) (by omega)

theorem FnExactEnough : laws_FnExactEnough.Pure := by
  intro l _ hl _
  have hl : l.length ≤ 140737488351232 := by omega
  refine ⟨l.length + 1, ?_⟩
  have e1 := toByteS_f l hl (l.length + 1) (Nat.lt_succ_self _)
  have e2 := eqByteS_f l hl (l.length + 1) (Nat.lt_succ_self _)
  generalize l.length + 1 = k at *
  unfold laws_FnExactEnough.f
  split
  · rfl
  · rw [e1, Option.bind_some]
    unfold spec_Enough.f impl_Enough.f
    rw [Option.bind_some, Option.bind_some, Option.bind_some, if_pos rfl, Option.bind_some, e2, Option.bind_some, if_pos rfl]

end Go.Proofs.Ytmkhdnpnjjdgfaa.Pure
