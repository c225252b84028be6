/- Texts of IRs read: numbers, words and lines, by the reference. -/
import Derived.Test.YtckojpaklblnpaaGreatDoorKG1
import Derived.Test.YtckojpaklblnpaaGreatDoorKPa2
set_option linter.unusedVariables false
set_option linter.unusedSimpArgs false
set_option maxRecDepth 10000
set_option maxHeartbeats 2000000
namespace Go.Proofs.YtckojpaklblnpaaGreatDoor.Th
open Go Go.RowKit Go.Proofs.YtckojpaklblnpaaGreatDoor.Ev
theorem str_at (l : List UInt8) (i : Nat) (h : i < (str l).size) : (str l)[i]'h = l[i]'(by simpa using h) := rfl
attribute [simp] str_at
def strRows (l : List (List UInt8)) : List (List T) := l.map encW
@[simp] theorem strRows_len (l : List (List UInt8)) : (strRows l).length = l.length := List.length_map _
theorem strRows_snoc (l : List (List UInt8)) (x : List UInt8) : strRows (l ++ [x]) = strRows l ++ [[.lit (.string (str x))]] := by simp [strRows, encW]
theorem c_spec_l3Digit (n : Int) : cw f_spec_l3Digit [.lit (.int .i64 n)] [] = some (.lit (.bool (decide (48 ≤ n ∧ n ≤ 57))), []) := by
  have hc := c_spec_l1In n 48 57
  refine callW_run (by simp) fs_spec_l3Digit rfl rfl rfl ?_
  simp only [cw] at hc
  simp [hc]
theorem hp_take (s p : List UInt8) : Lib.hasPrefix s p = (decide (p.length ≤ s.length) && decide (s.take p.length = p)) := by
  unfold Lib.hasPrefix
  rw [Bool.eq_iff_iff]
  simp only [List.isPrefixOf_iff_prefix, Bool.and_eq_true, decide_eq_true_eq]
  constructor
  · intro h
    exact ⟨h.length_le, (List.prefix_iff_eq_take.mp h).symm⟩
  · intro ⟨_, h⟩
    exact List.prefix_iff_eq_take.mpr h.symm
theorem c_spec_l8Begins (s p : List UInt8) : cw f_spec_l8Begins [.lit (.string (str s)), .lit (.string (str p))] [] = some (.lit (.bool (Lib.hasPrefix s p)), []) := by
  refine callW_run (by simp) fs_spec_l8Begins rfl rfl rfl ?_
  rw [hp_take]
  by_cases h : p.length ≤ s.length
  · simp [h]
  · simp [h]
def dig (c : UInt8) : Bool := decide (48 ≤ (c.toNat : Int) ∧ (c.toNat : Int) ≤ 57)
def digs : List UInt8 → Int → Option Int
  | [], x => some x
  | c :: r, x => if dig c = true then digs r ((x * 10 + ((c.toNat : Int) - 48)) % 18446744073709551616) else none
def fin8 (from_ : Nat) : Option Int → Int × Bool
  | none => (0, false)
  | some x => (if from_ = 1 then IntKind.i64.wrap (-(IntKind.i64.wrap x)) else IntKind.i64.wrap x, true)
def from8 (t : List UInt8) : Nat := if t.head? = some 45 then 1 else 0
def l8n (t : List UInt8) : Int × Bool := if t.length = from8 t ∨ 20 < t.length then (0, false) else fin8 (from8 t) (digs (t.drop (from8 t)) 0)
theorem c_spec_l8Number (t : List UInt8) (h : t.length ≤ 2 ^ 40) : cw f_spec_l8Number [.lit (.string (str t))] [] = some (.tup [.lit (.int .i64 (l8n t).1), .lit (.bool (l8n t).2)], []) := by
  refine callW_run (by simp) fs_spec_l8Number rfl rfl rfl ?_
  unfold l8n
  cases t with
  | nil => simp [from8]
  | cons a r =>
    have hrl : r.length ≤ 2 ^ 40 := by simp at h; omega
    by_cases ha : a = 45
    · have e1 : from8 (a :: r) = 1 := by simp [from8, ha]
      rw [e1]
      subst ha
      have hi : ((r.length : Int) + 1 = 1) = (r = []) := by
        apply propext
        constructor
        · intro h; exact List.length_eq_zero_iff.mp (by omega)
        · rintro rfl; rfl
      by_cases h1 : r = []
      · simp [h1]
      · have h1' : r.length ≠ 0 := fun h => h1 (List.length_eq_zero_iff.mp h)
        by_cases h2 : 20 < r.length + 1
        · have h2' : (20 : Int) < (r.length : Int) + 1 := by omega
          simp [h1, h2, h2', hi]
        · have h2' : ¬ (20 : Int) < (r.length : Int) + 1 := by omega
          rw [if_neg (by simp [h1']; omega)]
          simp [h1, h2, h2', hi]
          generalize hT : ((45 : UInt8) :: r) = t at *
          have htl : t.length = r.length + 1 := by rw [← hT]; simp
          have htI : (r.length : Int) + 1 = (t.length : Int) := by omega
          try rw [htI]
          have hD : digs (t.drop 1) 0 = digs r 0 := by rw [← hT]; rfl
          generalize digs r 0 = D at hD ⊢
          refine Mc.loop_ind (α := Nat × Int) _ _ _ _ (fun a => I_spec_l8Number_0 (.lit (.string (str t))) (.lit (.int .i64 1)) (.lit (.int .u64 a.2)) (.lit (.int .i64 a.1)) []) (fun a => t.length - a.1) (fun a => a.1 ≤ t.length ∧ 0 ≤ a.2 ∧ digs (t.drop a.1) a.2 = D) (1, 0) _ (by simp [← hT]) ⟨by omega, by simp, hD⟩ ?_
          intro ⟨i, x⟩ ⟨hi, hx, hd0⟩ ih
          dsimp only at hi hx hd0
          rw [← hd0]
          by_cases hl : i < t.length
          · have hd : t.drop i = t[i] :: t.drop (i + 1) := List.drop_eq_getElem_cons hl
            have hc := c_spec_l3Digit ((t[i].toNat : Nat) : Int)
            have hg : t[i]? = some t[i] := List.getElem?_eq_getElem hl
            have ih' := fun (y : Int) (hy : 0 ≤ y) (hd2 : digs (t.drop (i + 1)) y = D) σ' hσ' => ih (i + 1, y) σ' hσ' ⟨by simp; omega, hy, hd2⟩ (by simp; omega)
            clear ih
            rw [hd] at hd0 ⊢
            simp only [cw] at hc
            unfold digs at hd0 ⊢
            have hq : dig t[i] = decide (48 ≤ ((t[i].toNat : Nat) : Int) ∧ ((t[i].toNat : Nat) : Int) ≤ 57) := rfl
            have hlt : t[i].toNat < 256 := t[i].toNat_lt
            generalize he : t[i] = c at hc hq hg hlt hd0 ⊢
            have w1 : IntKind.wrap .i64 (c.toNat : Int) = c.toNat := i64_wrap (by omega) (by omega)
            cases hdg : dig c with
            | false =>
              rw [hdg] at hq
              rw [← hq] at hc
              simp [hl, hg, he, w1, hc, fin8]
            | true =>
              rw [hdg] at hq
              rw [← hq] at hc
              rw [hdg, if_pos rfl] at hd0
              have hr := of_decide_eq_true hq.symm
              have w2 : IntKind.wrap .u8 ((c.toNat : Int) - 48) = (c.toNat : Int) - 48 := by rw [wr8]; omega
              have w3 : IntKind.wrap .u64 ((c.toNat : Int) - 48) = (c.toNat : Int) - 48 := by rw [wr64]; omega
              have w4 : IntKind.wrap .u64 (IntKind.wrap .u64 (x * 10) + ((c.toNat : Int) - 48)) = (x * 10 + ((c.toNat : Int) - 48)) % 18446744073709551616 := by rw [wr64, wr64]; omega
              rw [if_pos rfl, hd0]
              simp [hl, hg, he, w1, hc, w2, w3, w4, wrap_add i (by omega)]
              exact ih' _ (by omega) hd0 _ (by simp)
          · have hd : t.drop i = [] := List.drop_eq_nil_of_le (by omega)
            rw [hd]
            simp [hl, digs, fin8]
    · have e1 : from8 (a :: r) = 0 := by simp [from8, ha]
      rw [e1]
      have ha' : ¬ ((a.toNat : Int) = 45) := fun h => ha (UInt8.toNat_inj.mp (by simp; omega))
      have hi : ¬ ((r.length : Int) + 1 = 0) := by omega
      by_cases h2 : 20 < r.length + 1
      · have h2' : (20 : Int) < (r.length : Int) + 1 := by omega
        simp [h2, h2', hi, ha']
      · have h2' : ¬ (20 : Int) < (r.length : Int) + 1 := by omega
        rw [if_neg (by simp; omega)]
        simp [h2, h2', hi, ha']
        generalize hT : (a :: r) = t at *
        have htl : t.length = r.length + 1 := by rw [← hT]; simp
        have htI : (r.length : Int) + 1 = (t.length : Int) := by omega
        try rw [htI]
        have hD : digs (t.drop 0) 0 = digs t 0 := rfl
        generalize digs t 0 = D at hD ⊢
        refine Mc.loop_ind (α := Nat × Int) _ _ _ _ (fun a => I_spec_l8Number_0 (.lit (.string (str t))) (.lit (.int .i64 0)) (.lit (.int .u64 a.2)) (.lit (.int .i64 a.1)) []) (fun a => t.length - a.1) (fun a => a.1 ≤ t.length ∧ 0 ≤ a.2 ∧ digs (t.drop a.1) a.2 = D) (0, 0) _ (by simp [← hT]) ⟨by omega, by simp, hD⟩ ?_
        intro ⟨i, x⟩ ⟨hi, hx, hd0⟩ ih
        dsimp only at hi hx hd0
        rw [← hd0]
        by_cases hl : i < t.length
        · have hd : t.drop i = t[i] :: t.drop (i + 1) := List.drop_eq_getElem_cons hl
          have hc := c_spec_l3Digit ((t[i].toNat : Nat) : Int)
          have hg : t[i]? = some t[i] := List.getElem?_eq_getElem hl
          have ih' := fun (y : Int) (hy : 0 ≤ y) (hd2 : digs (t.drop (i + 1)) y = D) σ' hσ' => ih (i + 1, y) σ' hσ' ⟨by simp; omega, hy, hd2⟩ (by simp; omega)
          clear ih
          rw [hd] at hd0 ⊢
          simp only [cw] at hc
          unfold digs at hd0 ⊢
          have hq : dig t[i] = decide (48 ≤ ((t[i].toNat : Nat) : Int) ∧ ((t[i].toNat : Nat) : Int) ≤ 57) := rfl
          have hlt : t[i].toNat < 256 := t[i].toNat_lt
          generalize he : t[i] = c at hc hq hg hlt hd0 ⊢
          have w1 : IntKind.wrap .i64 (c.toNat : Int) = c.toNat := i64_wrap (by omega) (by omega)
          cases hdg : dig c with
          | false =>
            rw [hdg] at hq
            rw [← hq] at hc
            simp [hl, hg, he, w1, hc, fin8]
          | true =>
            rw [hdg] at hq
            rw [← hq] at hc
            rw [hdg, if_pos rfl] at hd0
            have hr := of_decide_eq_true hq.symm
            have w2 : IntKind.wrap .u8 ((c.toNat : Int) - 48) = (c.toNat : Int) - 48 := by rw [wr8]; omega
            have w3 : IntKind.wrap .u64 ((c.toNat : Int) - 48) = (c.toNat : Int) - 48 := by rw [wr64]; omega
            have w4 : IntKind.wrap .u64 (IntKind.wrap .u64 (x * 10) + ((c.toNat : Int) - 48)) = (x * 10 + ((c.toNat : Int) - 48)) % 18446744073709551616 := by rw [wr64, wr64]; omega
            rw [if_pos rfl, hd0]
            simp [hl, hg, he, w1, hc, w2, w3, w4, wrap_add i (by omega)]
            exact ih' _ (by omega) hd0 _ (by simp)
        · have hd : t.drop i = [] := List.drop_eq_nil_of_le (by omega)
          rw [hd]
          simp [hl, digs, fin8]
def tailT (w p : List UInt8) : Int := if ¬ Lib.hasPrefix w p = true ∨ p.length + 9 < w.length then 0 else if (l8n (w.drop p.length)).2 = false ∨ (l8n (w.drop p.length)).1 < 0 then 0 else (l8n (w.drop p.length)).1
theorem c_spec_l20Tail (w p : List UInt8) (hw : w.length ≤ 2 ^ 40) (hp : p.length ≤ 2 ^ 40) : cw f_spec_l20Tail [.lit (.string (str w)), .lit (.string (str p))] [] = some (.lit (.int .i64 (tailT w p)), []) := by
  have f1 := c_spec_l8Begins w p
  have f2 := c_spec_l8Number (w.drop p.length) (by simp; omega)
  refine callW_run (by simp) fs_spec_l20Tail rfl rfl rfl ?_
  simp only [cw] at f1 f2
  unfold tailT
  have wi : IntKind.wrap .i64 ((p.length : Int) + 9) = (p.length : Int) + 9 := i64_wrap (by omega) (by omega)
  cases h1 : Lib.hasPrefix w p with
  | false =>
    rw [h1] at f1
    simp [f1]
  | true =>
    rw [h1] at f1
    have hlen := hp_len h1
    by_cases h2 : p.length + 9 < w.length
    · have h2' : (p.length : Int) + 9 < (w.length : Int) := by omega
      rw [if_pos (.inr h2)]
      simp [f1, wi, h2', h2]
    · have h2' : ¬ (p.length : Int) + 9 < (w.length : Int) := by omega
      rw [if_neg (by simp; omega)]
      have e1 : List.take (w.length - p.length) (w.drop p.length) = w.drop p.length := List.take_of_length_le (by simp)
      generalize (l8n (w.drop p.length)).1 = n at f2 ⊢
      generalize (l8n (w.drop p.length)).2 = ok at f2 ⊢
      cases ok with
      | false => simp [f1, wi, h2', h2, hlen, e1, f2]
      | true =>
        by_cases h3 : n < 0
        · simp [f1, wi, h2', h2, hlen, e1, f2, h3]
        · simp [f1, wi, h2', h2, hlen, e1, f2, h3]
def wst (l : List UInt8) : Nat → List (List UInt8) × Nat
  | 0 => ([], 0)
  | i + 1 => if i = l.length ∨ l[i]? = some 32 then (if (wst l i).2 < i then (wst l i).1 ++ [(l.drop (wst l i).2).take (i - (wst l i).2)] else (wst l i).1, i + 1) else wst l i
def wordsOf (l : List UInt8) : List (List UInt8) := (wst l (l.length + 1)).1
theorem wst_le (l : List UInt8) : ∀ i, (wst l i).1.length ≤ i ∧ (wst l i).2 ≤ i ∧ ∀ w ∈ (wst l i).1, w.length ≤ l.length
  | 0 => by simp [wst]
  | i + 1 => by
    obtain ⟨h1, h2, h3⟩ := wst_le l i
    unfold wst
    split
    · dsimp only
      split
      · refine ⟨by simp; omega, by omega, fun w hw => ?_⟩
        rcases List.mem_append.mp hw with hw | hw
        · exact h3 w hw
        · simp only [List.mem_singleton] at hw
          subst hw
          simp
          omega
      · exact ⟨by omega, by omega, h3⟩
    · exact ⟨by omega, by omega, h3⟩
theorem c_spec_l20Words (l : List UInt8) (h : l.length ≤ 2 ^ 40) : cw f_spec_l20Words [.lit (.string (str l))] [] = some (.ov [.ow (.sl 1 (strRows (wordsOf l)))] false, []) := by
  refine callW_run (by simp) fs_spec_l20Words rfl rfl rfl ?_
  simp
  refine Mc.loop_ind (α := Nat) _ _ _ _ (fun i => I_spec_l20Words_0 (.lit (.string (str l))) (.vw 88 [] 0 1 false) (.lit (.int .i64 (wst l i).2)) (.lit (.int .i64 i)) [(88, { cells := [.ow (.sl 1 (strRows (wst l i).1))], var := true })]) (fun i => l.length + 1 - i) (fun i => i ≤ l.length + 1) 0 _ (by simp [wst, strRows]) (by simp) ?_
  intro i hi ih
  obtain ⟨hn, hf, _⟩ := wst_le l i
  by_cases hl : i ≤ l.length
  rotate_left
  · have : i = l.length + 1 := by omega
    subst this
    have hl' : ¬ ((l.length : Int) + 1 ≤ l.length) := by omega
    unfold wordsOf
    simp [hl']
  have ih' := fun σ' hσ' => ih (i + 1) σ' hσ' (by omega) (by omega)
  clear ih
  have hb : ((wst l i).1.length + 1) * 16 ≤ maxBytes := by unfold maxBytes; omega
  unfold wst at ih'
  by_cases he : i = l.length
  · subst he
    rw [if_pos (.inl rfl)] at ih'
    generalize (wst l l.length).2 = fr at hf ih' ⊢
    generalize (wst l l.length).1 = out at hn hb ih' ⊢
    dsimp only at ih'
    by_cases hw : fr < l.length
    · have hwl : fr ≤ l.length := by omega
      rw [if_pos hw, strRows_snoc] at ih'
      have hlr := strRows_len out
      generalize strRows out = R at hlr ih' ⊢
      simp [hw, hwl, hlr, hb, wrap_add l.length (by omega)]
      exact ih' _ (by simp)
    · rw [if_neg hw] at ih'
      simp [hw, wrap_add l.length (by omega)]
      exact ih' _ (by simp)
  · have hlt : i < l.length := by omega
    have hne : ¬ ((i : Int) = (l.length : Int)) := by omega
    have hle : (i : Int) ≤ (l.length : Int) := by omega
    have hg : l[i]? = some l[i] := List.getElem?_eq_getElem hlt
    rw [hg] at ih'
    generalize he9 : l[i] = ch at hg ih'
    by_cases hb32 : ch = 32
    · rw [if_pos (.inr (by rw [hb32]))] at ih'
      subst hb32
      generalize (wst l i).2 = fr at hf ih' ⊢
      generalize (wst l i).1 = out at hn hb ih' ⊢
      dsimp only at ih'
      by_cases hw : fr < i
      · have hwl : fr ≤ i := by omega
        rw [if_pos hw, strRows_snoc] at ih'
        have hlr := strRows_len out
        generalize strRows out = R at hlr ih' ⊢
        simp [hw, hwl, hlr, hb, hg, he9, he, hne, hle, hl, wrap_add i (by omega)]
        exact ih' _ (by simp)
      · rw [if_neg hw] at ih'
        simp [hw, hg, he9, he, hne, hle, hl, wrap_add i (by omega)]
        exact ih' _ (by simp)
    · have hn32 : ¬ ((ch.toNat : Int) = 32) := fun h => hb32 (UInt8.toNat_inj.mp (by simp; omega))
      rw [if_neg (by simp [he, hb32])] at ih'
      generalize (wst l i).2 = fr at hf ih' ⊢
      generalize (wst l i).1 = out at hn hb ih' ⊢
      simp [hg, he9, he, hne, hle, hl, hn32, wrap_add i (by omega)]
      exact ih' _ (by simp)
def lst (l : List UInt8) : Nat → List (List UInt8) × Nat
  | 0 => ([], 0)
  | i + 1 => if l[i]? = some 10 then ((lst l i).1 ++ [(l.drop (lst l i).2).take (i - (lst l i).2)], i + 1) else lst l i
def linesOf (l : List UInt8) : List (List UInt8) := (lst l l.length).1 ++ (if (lst l l.length).2 < l.length then [l.drop (lst l l.length).2] else [])
theorem lst_le (l : List UInt8) : ∀ i, (lst l i).1.length ≤ i ∧ (lst l i).2 ≤ i ∧ ∀ w ∈ (lst l i).1, w.length ≤ l.length
  | 0 => by simp [lst]
  | i + 1 => by
    obtain ⟨h1, h2, h3⟩ := lst_le l i
    unfold lst
    split
    · refine ⟨by simp; omega, by simp, fun w hw => ?_⟩
      rcases List.mem_append.mp hw with hw | hw
      · exact h3 w hw
      · simp only [List.mem_singleton] at hw
        subst hw
        simp
        omega
    · exact ⟨by omega, by omega, h3⟩
theorem c_spec_l18Lines (l : List UInt8) (h : l.length ≤ 2 ^ 40) : cw f_spec_l18Lines [.lit (.string (str l))] [] = some (.ov [.ow (.sl 1 (strRows (linesOf l)))] false, []) := by
  refine callW_run (by simp) fs_spec_l18Lines rfl rfl rfl ?_
  simp
  refine Mc.loop_ind (α := Nat) _ _ _ _ (fun i => I_spec_l18Lines_0 (.lit (.string (str l))) (.vw 88 [] 0 1 false) (.lit (.int .i64 (lst l i).2)) (.lit (.int .i64 i)) [(88, { cells := [.ow (.sl 1 (strRows (lst l i).1))], var := true })]) (fun i => l.length - i) (fun i => i ≤ l.length) 0 _ (by simp [lst, strRows]) (by simp) ?_
  intro i hi ih
  obtain ⟨hn, hf, _⟩ := lst_le l i
  have hb : ((lst l i).1.length + 1) * 16 ≤ maxBytes := by unfold maxBytes; omega
  by_cases hl : i < l.length
  rotate_left
  · have : i = l.length := by omega
    subst this
    unfold linesOf
    generalize (lst l l.length).2 = fr at hf ⊢
    generalize (lst l l.length).1 = out at hn hb ⊢
    by_cases hw : fr < l.length
    · have e1 : List.take (l.length - fr) (l.drop fr) = l.drop fr := List.take_of_length_le (by simp)
      rw [if_pos hw, strRows_snoc]
      have hlr := strRows_len out
      generalize strRows out = R at hlr ⊢
      simp [hw, hf, e1, hlr, hb]
    · rw [if_neg hw, List.append_nil]
      simp [hw]
  have ih' := fun σ' hσ' => ih (i + 1) σ' hσ' (by omega) (by omega)
  clear ih
  have hg : l[i]? = some l[i] := List.getElem?_eq_getElem hl
  unfold lst at ih'
  rw [hg] at ih'
  generalize he9 : l[i] = ch at hg ih'
  by_cases hb10 : ch = 10
  · rw [if_pos (by rw [hb10])] at ih'
    subst hb10
    generalize (lst l i).2 = fr at hf ih' ⊢
    generalize (lst l i).1 = out at hn hb ih' ⊢
    dsimp only at ih'
    rw [strRows_snoc] at ih'
    have hlr := strRows_len out
    generalize strRows out = R at hlr ih' ⊢
    have hil : i ≤ l.length := by omega
    simp [hf, hil, hlr, hb, hg, he9, hl, wrap_add i (by omega)]
    exact ih' _ (by simp [wrap_add i (show i < 2 ^ 62 by omega)])
  · have hn10 : ¬ ((ch.toNat : Int) = 10) := fun h => hb10 (UInt8.toNat_inj.mp (by simp; omega))
    rw [if_neg (by simp [hb10])] at ih'
    generalize (lst l i).2 = fr at hf ih' ⊢
    generalize (lst l i).1 = out at hn hb ih' ⊢
    simp [hg, he9, hl, hn10, wrap_add i (by omega)]
    exact ih' _ (by simp)
end Go.Proofs.YtckojpaklblnpaaGreatDoor.Th
