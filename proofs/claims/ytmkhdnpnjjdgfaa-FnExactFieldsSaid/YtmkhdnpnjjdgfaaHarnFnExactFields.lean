/- What the law's own helpers compute: copies, comparisons, marks. -/
import Derived.Test.YtmkhdnpnjjdgfaaPFnExactFieldsx
import Derived.Test.YtmkhdnpnjjdgfaaWire
namespace Go.Proofs.Ytmkhdnpnjjdgfaa.HarnFnExactFields
open Go Go.RowKit Go.Proofs.Ytmkhdnpnjjdgfaa.PFnExactFields Go.Proofs.YtmkhdnpnjjdgfaaW.PrintWords Go.Proofs.YtmkhdnpnjjdgfaaW.PrintLast Go.Proofs.YtmkhdnpnjjdgfaaW.PrintMore Go.Proofs.Ytmkhdnpnjjdgfaa.Wire

theorem rd_nat (xs : List Int) (i : Nat) : rd xs (i : Int) = xs.getD i 0 := by
  unfold rd; simp

theorem set_take_next (l x : List Int) (i : Nat) (hx : x.length = l.length) (ht : x.take i = l.take i) (hil : i < l.length) : (x.set i (l.getD i 0)).take (i + 1) = l.take (i + 1) := by
  rw [List.take_succ_eq_append_getElem (by simpa using (by omega : i < x.length)), List.take_succ_eq_append_getElem hil]
  rw [List.take_set, ht, List.set_eq_of_length_le (by simp; omega)]
  simp [hil]

/-- k, k + 1, .. -/
def upFrom (m : Int) : Nat → List Int
  | 0 => []
  | n + 1 => m :: upFrom (m + 1) n

theorem upFrom_length (n : Nat) : ∀ m, (upFrom m n).length = n := by
  induction n with
  | zero => intro m; rfl
  | succ n ih => intro m; simp [upFrom, ih]

theorem upFrom_getD (n : Nat) : ∀ m i, i < n → (upFrom m n).getD i 0 = m + i := by
  induction n with
  | zero => intro m i h; omega
  | succ n ih =>
    intro m i h
    cases i with
    | zero => simp [upFrom]
    | succ i => simp only [upFrom, List.getD_cons_succ]; rw [ih _ _ (by omega)]; omega

theorem ext_getD {a b : List Int} (hl : a.length = b.length) (h : ∀ i, i < a.length → a.getD i 0 = b.getD i 0) : a = b := by
  apply List.ext_getElem hl
  intro i h1 h2
  have := h i h1
  simpa [h1, h2] using this

theorem toByteS_l0 (l : List Int) (hl : l.length ≤ 140737488351232) : ∀ (d k i : Nat) (x : List Int), x.length = l.length → x.take i = l.take i → i ≤ l.length → l.length - i = d → d < k →
    laws_toByteS.l0 k l x (i : Int) = some l := by
  intro d
  induction d with
  | zero =>
    intro k i x hx ht hi hd hk
    obtain ⟨k, rfl⟩ : ∃ m, k = m + 1 := ⟨k - 1, by omega⟩
    simp only [laws_toByteS.l0]
    rw [if_neg (by omega)]
    have : i = l.length := by omega
    subst this
    rw [List.take_length, ← hx, List.take_length] at ht
    rw [ht]
  | succ d ih =>
    intro k i x hx ht hi hd hk
    obtain ⟨k, rfl⟩ : ∃ m, k = m + 1 := ⟨k - 1, by omega⟩
    simp only [laws_toByteS.l0]
    rw [if_pos (by omega), if_pos (by omega), if_pos (by omega), wn1 i (by omega), Int.toNat_natCast, rd_nat]
    exact ih k (i + 1) _ (by simpa using hx) (set_take_next l x i hx ht (by omega)) (by omega) (by omega) (by omega)

theorem toByteS_f (l : List Int) (hl : l.length ≤ 140737488351232) (k : Nat) (hk : l.length < k) : laws_toByteS.f k l = some l := by
  unfold laws_toByteS.f
  rw [if_pos (by omega), if_pos (by omega)]
  exact toByteS_l0 l hl l.length k 0 _ (by simp) (by simp) (by omega) (by omega) (by omega)

theorem eqByteS_l0 (l : List Int) (hl : l.length ≤ 140737488351232) : ∀ (d k i : Nat), i ≤ l.length → l.length - i = d → d < k →
    laws_eqByteS.l0 k l l (i : Int) = some true := by
  intro d
  induction d with
  | zero =>
    intro k i hi hd hk
    obtain ⟨k, rfl⟩ : ∃ m, k = m + 1 := ⟨k - 1, by omega⟩
    simp only [laws_eqByteS.l0]
    rw [if_neg (by omega)]
  | succ d ih =>
    intro k i hi hd hk
    obtain ⟨k, rfl⟩ : ∃ m, k = m + 1 := ⟨k - 1, by omega⟩
    simp only [laws_eqByteS.l0]
    rw [if_pos (by omega), if_pos (by omega), if_pos (by omega), if_pos trivial, wn1 i (by omega)]
    exact ih k (i + 1) (by omega) (by omega) (by omega)

theorem eqByteS_f (l : List Int) (hl : l.length ≤ 140737488351232) (k : Nat) (hk : l.length < k) : laws_eqByteS.f k l l = some true := by
  unfold laws_eqByteS.f
  rw [if_pos rfl]
  exact eqByteS_l0 l hl l.length k 0 (by omega) (by omega) (by omega)

theorem eqIntS_l0 (l : List Int) (hl : l.length ≤ 140737488351232) : ∀ (d k i : Nat), i ≤ l.length → l.length - i = d → d < k →
    laws_eqIntS.l0 k l l (i : Int) = some true := by
  intro d
  induction d with
  | zero =>
    intro k i hi hd hk
    obtain ⟨k, rfl⟩ : ∃ m, k = m + 1 := ⟨k - 1, by omega⟩
    simp only [laws_eqIntS.l0]
    rw [if_neg (by omega)]
  | succ d ih =>
    intro k i hi hd hk
    obtain ⟨k, rfl⟩ : ∃ m, k = m + 1 := ⟨k - 1, by omega⟩
    simp only [laws_eqIntS.l0]
    rw [if_pos (by omega), if_pos (by omega), if_pos (by omega), if_pos trivial, wn1 i (by omega)]
    exact ih k (i + 1) (by omega) (by omega) (by omega)

theorem eqIntS_f (l : List Int) (hl : l.length ≤ 140737488351232) (k : Nat) (hk : l.length < k) : laws_eqIntS.f k l l = some true := by
  unfold laws_eqIntS.f
  rw [if_pos rfl]
  exact eqIntS_l0 l hl l.length k 0 (by omega) (by omega) (by omega)

theorem markByteS_l0 (n : Nat) (hn : n ≤ 140737488351232) : ∀ (d k i : Nat) (m : Int) (x : List Int), x.length = n → (∀ j < i, x.getD j 0 = (m + j) % 256) → i ≤ n → n - i = d → d < k → 0 ≤ m → m ≤ 140737488351232 →
    ∃ y, laws_markByteS.l0 k x (m + i) (i : Int) = some (m + n, y) ∧ y.length = n ∧ ∀ j < n, y.getD j 0 = (m + j) % 256 := by
  intro d
  induction d with
  | zero =>
    intro k i m x hx ht hi hd hk hm0 hm1
    obtain ⟨k, rfl⟩ : ∃ m, k = m + 1 := ⟨k - 1, by omega⟩
    obtain rfl : i = n := by omega
    refine ⟨x, ?_, hx, ht⟩
    simp only [laws_markByteS.l0]
    rw [if_neg (by omega)]
  | succ d ih =>
    intro k i m x hx ht hi hd hk hm0 hm1
    obtain ⟨k, rfl⟩ : ∃ m, k = m + 1 := ⟨k - 1, by omega⟩
    obtain ⟨y, hy, hy2⟩ := ih k (i + 1) m (x.set i ((m + i) % 256)) (by simpa using hx) (by
      intro j hj
      by_cases e : j = i
      · subst e; rw [List.getD_eq_getElem?_getD, List.getElem?_set_self (by omega)]; rfl
      · rw [List.getD_eq_getElem?_getD, List.getElem?_set_ne (by omega), ← List.getD_eq_getElem?_getD]; exact ht j (by omega)) (by omega) (by omega) (by omega) hm0 hm1
    refine ⟨y, ?_, hy2⟩
    simp only [laws_markByteS.l0]
    rw [if_pos (by omega), if_pos (by omega), Int.toNat_natCast, wn1 i (by omega), wrap64_id (x := m + i + 1) (by omega) (by omega)]
    rw [← hy]
    congr 1
    omega

theorem markByteS_f (l : List Int) (hl : l.length ≤ 140737488351232) (m : Int) (hm0 : 0 ≤ m) (hm1 : m ≤ 140737488351232) (k : Nat) (hk : l.length < k) : ∃ y, laws_markByteS.f k l m = some (m + l.length, y) ∧ y.length = l.length ∧ ∀ j < l.length, y.getD j 0 = (m + j) % 256 := by
  have := markByteS_l0 l.length hl l.length k 0 m l rfl (by omega) (by omega) (by omega) (by omega) hm0 hm1
  simp only [Int.natCast_zero, Int.add_zero] at this
  exact this

theorem markIntS_l0 (n : Nat) (hn : n ≤ 140737488351232) : ∀ (d k i : Nat) (m : Int) (x : List Int), x.length = n → (∀ j < i, x.getD j 0 = m + j) → i ≤ n → n - i = d → d < k → 0 ≤ m → m ≤ 140737488351232 →
    ∃ y, laws_markIntS.l0 k x (m + i) (i : Int) = some (m + n, y) ∧ y.length = n ∧ ∀ j < n, y.getD j 0 = m + j := by
  intro d
  induction d with
  | zero =>
    intro k i m x hx ht hi hd hk hm0 hm1
    obtain ⟨k, rfl⟩ : ∃ m, k = m + 1 := ⟨k - 1, by omega⟩
    obtain rfl : i = n := by omega
    refine ⟨x, ?_, hx, ht⟩
    simp only [laws_markIntS.l0]
    rw [if_neg (by omega)]
  | succ d ih =>
    intro k i m x hx ht hi hd hk hm0 hm1
    obtain ⟨k, rfl⟩ : ∃ m, k = m + 1 := ⟨k - 1, by omega⟩
    obtain ⟨y, hy, hy2⟩ := ih k (i + 1) m (x.set i (m + i)) (by simpa using hx) (by
      intro j hj
      by_cases e : j = i
      · subst e; rw [List.getD_eq_getElem?_getD, List.getElem?_set_self (by omega)]; rfl
      · rw [List.getD_eq_getElem?_getD, List.getElem?_set_ne (by omega), ← List.getD_eq_getElem?_getD]; exact ht j (by omega)) (by omega) (by omega) (by omega) hm0 hm1
    refine ⟨y, ?_, hy2⟩
    simp only [laws_markIntS.l0]
    rw [if_pos (by omega), if_pos (by omega), Int.toNat_natCast, wn1 i (by omega), wrap64_id (x := m + i + 1) (by omega) (by omega)]
    rw [← hy]
    congr 1
    omega

theorem markIntS_f (l : List Int) (hl : l.length ≤ 140737488351232) (m : Int) (hm0 : 0 ≤ m) (hm1 : m ≤ 140737488351232) (k : Nat) (hk : l.length < k) : ∃ y, laws_markIntS.f k l m = some (m + l.length, y) ∧ y.length = l.length ∧ ∀ j < l.length, y.getD j 0 = m + j := by
  have := markIntS_l0 l.length hl l.length k 0 m l rfl (by omega) (by omega) (by omega) (by omega) hm0 hm1
  simp only [Int.natCast_zero, Int.add_zero] at this
  exact this

theorem heldIntS_l0 (l : List Int) (hl : l.length ≤ 140737488351232) (m : Int) (hm0 : 0 ≤ m) (hm1 : m ≤ 140737488351232) (hm : ∀ j < l.length, l.getD j 0 = m + j) : ∀ (d k i : Nat), i ≤ l.length → l.length - i = d → d < k →
    laws_heldIntS.l0 k l (m + i) (i : Int) = some (m + l.length) := by
  intro d
  induction d with
  | zero =>
    intro k i hi hd hk
    obtain ⟨k, rfl⟩ : ∃ m, k = m + 1 := ⟨k - 1, by omega⟩
    have hi : i = l.length := by omega
    subst hi
    simp only [laws_heldIntS.l0]
    rw [if_neg (by omega)]
  | succ d ih =>
    intro k i hi hd hk
    obtain ⟨k, rfl⟩ : ∃ m, k = m + 1 := ⟨k - 1, by omega⟩
    have h1 := hm i (by omega)
    simp only [laws_heldIntS.l0]
    rw [if_pos (by omega), if_pos (by omega), rd_nat, h1, if_pos rfl, wn1 i (by omega), wrap64_id (x := m + i + 1) (by omega) (by omega)]
    have := ih k (i + 1) (by omega) (by omega) (by omega)
    rw [← this]
    congr 1
    omega

theorem heldIntS_f (l : List Int) (hl : l.length ≤ 140737488351232) (m : Int) (hm0 : 0 ≤ m) (hm1 : m ≤ 140737488351232) (hm : ∀ j < l.length, l.getD j 0 = m + j) (k : Nat) (hk : l.length < k) : laws_heldIntS.f k l m = some (m + l.length) := by
  have := heldIntS_l0 l hl m hm0 hm1 hm l.length k 0 (by omega) (by omega) hk
  simp only [Int.natCast_zero, Int.add_zero] at this
  exact this

end Go.Proofs.Ytmkhdnpnjjdgfaa.HarnFnExactFields
