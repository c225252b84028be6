/- Parts of the proof, merged: Pi1 Pq2 Pq3 Ps1 Pq4 Pq5 Pm1. -/
import Derived.Test.YtckojpaklblnpaaGreatDoorKG1
import Derived.Lib.SplitLaws
import Derived.Test.YtckojpaklblnpaaGreatDoorKPa7
import Derived.Test.YtckojpaklblnpaaGreatDoorKG6
import Derived.Test.YtckojpaklblnpaaGreatDoorKPr6
import Derived.Test.YtckojpaklblnpaaGreatDoorKG4
import Derived.Test.YtckojpaklblnpaaGreatDoorKG3
import Derived.Test.YtckojpaklblnpaaGreatDoorKG2
set_option linter.unusedVariables false
set_option linter.unusedSimpArgs false
set_option maxRecDepth 10000
set_option maxHeartbeats 2000000
namespace Go.Proofs.YtckojpaklblnpaaGreatDoor.Th
open Go Go.RowKit Go.Proofs.YtckojpaklblnpaaGreatDoor.Ev
def splitL (c : UInt8) : List UInt8 → List (List UInt8)
  | [] => [[]]
  | a :: r => if a = c then [] :: splitL c r else match splitL c r with | h :: t => (a :: h) :: t | [] => [[a]]
theorem splitL_ne (c : UInt8) : ∀ l, splitL c l ≠ []
  | [] => by simp [splitL]
  | a :: r => by
    unfold splitL
    split
    · simp
    · split <;> simp
theorem splitL_miss (c : UInt8) : ∀ l, c ∉ l → splitL c l = [l]
  | [], _ => rfl
  | a :: r, h => by
    have h1 : a ≠ c := fun e => h (by simp [e])
    have h2 := splitL_miss c r (fun e => h (by simp [e]))
    unfold splitL
    rw [if_neg h1, h2]
theorem splitL_hit (c : UInt8) : ∀ (a b : List UInt8), c ∉ a → splitL c (a ++ c :: b) = a :: splitL c b
  | [], b, _ => by simp [splitL]
  | x :: a, b, h => by
    have h1 : x ≠ c := fun e => h (by simp [e])
    have h2 := splitL_hit c a b (fun e => h (by simp [e]))
    rw [List.cons_append, splitL, if_neg h1, h2]
theorem index_hit1 (c : UInt8) (a b : List UInt8) (h : c ∉ a) : Lib.index (a ++ c :: b) [c] = a.length := by
  rw [Lib.index_one]
  induction a with
  | nil => simp [Lib.indexByte]
  | cons x a ih =>
    have h1 : ¬ (x == c) = true := fun e => h (by simp [beq_iff_eq.mp e])
    have h2 := ih (fun e => h (by simp [e]))
    rw [List.cons_append, Lib.indexByte, if_neg h1, h2]
    rw [if_neg (by simp)]
    simp
theorem cut_at (c : UInt8) : ∀ l : List UInt8, c ∈ l → ∃ a b, l = a ++ c :: b ∧ c ∉ a
  | [], h => by cases h
  | x :: r, h => by
    by_cases hx : x = c
    · exact ⟨[], r, by simp [hx], by simp⟩
    · have : c ∈ r := by
        rcases List.mem_cons.mp h with h | h
        · exact absurd h.symm hx
        · exact h
      obtain ⟨a, b, h1, h2⟩ := cut_at c r this
      exact ⟨x :: a, b, by rw [h1]; rfl, fun e => by
        rcases List.mem_cons.mp e with e | e
        · exact hx e.symm
        · exact h2 e⟩
theorem splitK_eq (c : UInt8) : ∀ (n : Nat) (l : List UInt8), l.length ≤ n → Lib.splitK [c] 0 (l.count c) l = splitL c l := by
  intro n
  induction n with
  | zero =>
    intro l hl
    have : l = [] := List.length_eq_zero_iff.mp (by omega)
    subst this
    rfl
  | succ n ih =>
    intro l hl
    by_cases hc : c ∈ l
    · obtain ⟨a, b, rfl, ha⟩ := cut_at c l hc
      have hcnt : (a ++ c :: b).count c = b.count c + 1 := by
        rw [List.count_append, List.count_eq_zero_of_not_mem ha, List.count_cons_self]; omega
      rw [hcnt, splitL_hit c a b ha, Lib.splitK, index_hit1 c a b ha]
      have h0 : ¬ ((a.length : Int) == -1) = true := by simp
      rw [if_neg h0]
      have hd : (a ++ c :: b).drop ((a.length : Int).toNat + [c].length) = b := by simp
      have ht : (a ++ c :: b).take ((a.length : Int).toNat + 0) = a := by simp
      rw [hd, ht, ih b (by simp at hl; omega)]
    · have h0 : l.count c = 0 := List.count_eq_zero_of_not_mem hc
      rw [h0, splitL_miss c l hc]
      rfl
theorem c_strings_Split (c : UInt8) (l : List UInt8) (h : l.length ≤ 2 ^ 30) : cw f_strings_Split [.lit (.string (str l)), .lit (.string (str [c]))] [] = some (.ov [.ow (.sl 1 (strRows (splitL c l)))] false, []) := by
  refine callW_ext (g := extSplit) rfl ?_
  simp only [extSplit]
  rw [if_pos ⟨by rw [str_size]; omega, by rw [str_size]; simp⟩]
  have h1 : Lib.countB (str l) (str [c]) = l.count c := by
    show Lib.count (str l).data.toList (str [c]).data.toList = _
    rw [str_list, str_list, Lib.count_one]
  have h2 := Lib.splitB_data (str [c]) 0 (Lib.countB (str l) (str [c])) (str l)
  rw [str_list, str_list, h1, splitK_eq c l.length l (Nat.le_refl _)] at h2
  have h3 : Lib.splitB (str [c]) 0 (l.count c) (str l) = (splitL c l).map str := by
    rw [← h2, List.map_map]
    have : (str ∘ fun x : ByteArray => x.data.toList) = id := by
      funext x
      show str x.data.toList = x
      unfold str
      cases x
      simp
    rw [this, List.map_id]
  rw [h1, h3, List.map_map]
  rfl
theorem c_strings_CutPrefix (s p : List UInt8) : cw f_strings_CutPrefix [.lit (.string (str s)), .lit (.string (str p))] [] = some (.tup [.lit (.string (str (Lib.trimPrefix s p))), .lit (.bool (Lib.hasPrefix s p))], []) := by
  refine callW_ext (g := extCutPrefix) rfl ?_
  simp only [extCutPrefix, str_list]
  rfl
theorem c_strings_HasSuffix (s p : List UInt8) (h : s.length ≤ 2 ^ 40) : cw f_strings_HasSuffix [.lit (.string (str s)), .lit (.string (str p))] [] = some (.lit (.bool (Lib.hasSuffix s p)), []) := by
  refine callW_ext (g := extHasSuffix) rfl ?_
  simp only [extHasSuffix, str_list]
  rw [if_pos (by rw [str_size]; omega)]
theorem c_strings_Contains (s p : List UInt8) (h : s.length ≤ 2 ^ 30) : cw f_strings_Contains [.lit (.string (str s)), .lit (.string (str p))] [] = some (.lit (.bool (Lib.contains s p)), []) := by
  refine callW_ext (g := extContains) rfl ?_
  simp only [extContains, str_list]
  rw [if_pos (by rw [str_size]; omega)]
abbrev St := List ModT × List Int × List (List Int)
def addOp (ms : List ModT) (x : OpT) : List ModT := match ms[ms.length - 1]? with
  | some m => ms.set (ms.length - 1) ⟨m.ops ++ [x], m.jumps, m.cached⟩
  | none => ms
def addF (fo : List (List Int)) (f : Int) : List (List Int) := match fo[fo.length - 1]? with
  | some l => fo.set (fo.length - 1) (l ++ [f])
  | none => fo
def addMod (st : St) (c : Bool) (j : Int) : St := (st.1 ++ [⟨[], [], c⟩], st.2.1 ++ [j], st.2.2 ++ [[]])
def stepI (st : St) (line : List UInt8) : Option St :=
  if Lib.hasPrefix line [32, 32] = true then
    (if (opOfT (splitL 32 (line.drop 2))).2.2 = true ∧ st.1 ≠ [] then some (addOp st.1 (opOfT (splitL 32 (line.drop 2))).1, st.2.1, addF st.2.2 (opOfT (splitL 32 (line.drop 2))).2.1) else none)
  else some (addMod st (Lib.hasSuffix line [32, 99, 97, 99, 104, 101, 100]) (if Lib.contains line [32, 106, 117, 109, 112, 115] then 1 else 0))
def runL {α : Type} (f : α → List UInt8 → Option α) : List (List UInt8) → α → Option α
  | [], s => some s
  | l :: r, s => match f s l with
    | some s' => runL f r s'
    | none => none
open Classical in
noncomputable def finI (text : List UInt8) : Option St → List ModT × Bool
  | none => ([], false)
  | some (ms, fl, fo) => if ms.length ≤ 30 ∧ okAll true ms fl fo ∧ specB (layL true ms fl fo) = true ∧ prN (layL true ms fl fo) (layL true ms fl fo).length = text then (layL true ms fl fo, true) else ([], false)
noncomputable def parseI (text : List UInt8) : List ModT × Bool :=
  if 200000 < text.length ∨ (splitL 10 text).getLast (splitL_ne 10 text) ≠ [] then ([], false) else finI text (runL stepI (splitL 10 text).dropLast ([], [], []))
abbrev boxN : O := { cells := [.own 1 [[.ow (.sl 0 [])]]], box := true }
noncomputable def ansI (r : List ModT × Bool) : Option (V × List (Option O)) := some (.tup [.ov [.ow (.sl 3 (r.1.map ModT.enc))] true, .lit (.bool r.2)], [])
structure RawS (p : Bool) (n : Nat) (st : St) : Prop where
  len : st.1.length ≤ n
  hfl : st.2.1.length = st.1.length
  hfo : st.2.2.length = st.1.length
  ops : ∀ k (h : k < st.1.length) (h2 : k < st.2.2.length), st.2.2[k].length = st.1[k].ops.length
  small : ∀ m ∈ st.1, m.ops.length ≤ n
  num : p = true → ∀ m ∈ st.1, ∀ x ∈ m.ops, 0 ≤ x.num
  plain : ∀ m ∈ st.1, ∀ x ∈ m.ops, Plain x
  jumps : ∀ m ∈ st.1, m.jumps = []
theorem RawS.raw {p : Bool} {n : Nat} {st : St} (h : RawS p n st) (hn : n ≤ 2 ^ 40) : Raw st.1 st.2.1 st.2.2 := ⟨by have := h.len; omega, h.hfl, h.hfo, h.ops, fun m hm => Nat.le_trans (h.small m hm) hn, h.plain, h.jumps⟩
theorem RawS.nil {p : Bool} : RawS p 0 ([], [], []) := ⟨by simp, rfl, rfl, fun k h => by simp at h, by simp, by simp, by simp, by simp⟩
theorem RawS.mod {p : Bool} {n : Nat} {st : St} (h : RawS p n st) (c : Bool) (j : Int) : RawS p (n + 1) (addMod st c j) where
  len := by have := h.len; simp [addMod]; omega
  hfl := by have := h.hfl; simp [addMod]; omega
  hfo := by have := h.hfo; simp [addMod]; omega
  ops k h1 h2 := by
    simp only [addMod] at h1 h2 ⊢
    simp only [List.length_append, List.length_singleton] at h1 h2
    have hfo := h.hfo
    by_cases hk : k < st.1.length
    · rw [List.getElem_append_left (by omega), List.getElem_append_left hk]
      exact h.ops k hk (by omega)
    · rw [List.getElem_append_right (by omega), List.getElem_append_right (by omega)]
      simp
  small m hm := by
    rcases List.mem_append.mp hm with hm | hm
    · exact Nat.le_succ_of_le (h.small m hm)
    · simp only [List.mem_singleton] at hm; subst hm; simp
  num hp m hm x hx := by
    rcases List.mem_append.mp hm with hm | hm
    · exact h.num hp m hm x hx
    · simp only [List.mem_singleton] at hm; subst hm; simp at hx
  plain m hm x hx := by
    rcases List.mem_append.mp hm with hm | hm
    · exact h.plain m hm x hx
    · simp only [List.mem_singleton] at hm; subst hm; simp at hx
  jumps m hm := by
    rcases List.mem_append.mp hm with hm | hm
    · exact h.jumps m hm
    · simp only [List.mem_singleton] at hm; subst hm; rfl
theorem addOp_mem {ms : List ModT} {x : OpT} {m : ModT} (h : m ∈ addOp ms x) : m ∈ ms ∨ ∃ m0 ∈ ms, m = ⟨m0.ops ++ [x], m0.jumps, m0.cached⟩ := by
  unfold addOp at h
  split at h
  · rename_i m0 hm0
    rcases List.mem_or_eq_of_mem_set h with h | h
    · exact .inl h
    · exact .inr ⟨m0, List.mem_of_getElem? hm0, h⟩
  · exact .inl h
theorem addOp_len (ms : List ModT) (x : OpT) : (addOp ms x).length = ms.length := by
  unfold addOp; split <;> simp
theorem addF_len (fo : List (List Int)) (f : Int) : (addF fo f).length = fo.length := by
  unfold addF; split <;> simp
theorem RawS.op {p : Bool} {n : Nat} {st : St} (h : RawS p n st) (x : OpT) (f : Int) (hx : Plain x) (hn : p = true → 0 ≤ x.num) : RawS p (n + 1) (addOp st.1 x, st.2.1, addF st.2.2 f) where
  len := by have := h.len; simp only [addOp_len]; omega
  hfl := by have := h.hfl; simp only [addOp_len]; omega
  hfo := by have := h.hfo; simp only [addOp_len, addF_len]; omega
  ops k h1 h2 := by
    simp only [addOp_len, addF_len] at h1 h2
    have hfo := h.hfo
    have e1 : st.1[st.1.length - 1]? = some (st.1[st.1.length - 1]'(by omega)) := List.getElem?_eq_getElem _
    have e2 : st.2.2[st.2.2.length - 1]? = some (st.2.2[st.2.2.length - 1]'(by omega)) := List.getElem?_eq_getElem _
    have e3 : addOp st.1 x = st.1.set (st.1.length - 1) ⟨(st.1[st.1.length - 1]'(by omega)).ops ++ [x], (st.1[st.1.length - 1]'(by omega)).jumps, (st.1[st.1.length - 1]'(by omega)).cached⟩ := by unfold addOp; rw [e1]
    have e4 : addF st.2.2 f = st.2.2.set (st.2.2.length - 1) ((st.2.2[st.2.2.length - 1]'(by omega)) ++ [f]) := by unfold addF; rw [e2]
    simp only [e3, e4]
    have ho := h.ops (st.1.length - 1) (by omega) (by omega)
    by_cases hk : k = st.1.length - 1
    · subst hk
      simp only [List.getElem_set_self, List.length_append, List.length_singleton, hfo, ho]
    · rw [List.getElem_set_ne (by omega), List.getElem_set_ne (by omega)]
      exact h.ops k h1 h2
  small m hm := by
    rcases addOp_mem hm with hm | ⟨m0, hm0, rfl⟩
    · exact Nat.le_succ_of_le (h.small m hm)
    · have := h.small m0 hm0; simp; omega
  num hp m hm y hy := by
    rcases addOp_mem hm with hm | ⟨m0, hm0, rfl⟩
    · exact h.num hp m hm y hy
    · rcases List.mem_append.mp hy with hy | hy
      · exact h.num hp m0 hm0 y hy
      · simp only [List.mem_singleton] at hy; subst hy; exact hn hp
  plain m hm y hy := by
    rcases addOp_mem hm with hm | ⟨m0, hm0, rfl⟩
    · exact h.plain m hm y hy
    · rcases List.mem_append.mp hy with hy | hy
      · exact h.plain m0 hm0 y hy
      · simp only [List.mem_singleton] at hy; subst hy; exact hx
  jumps m hm := by
    rcases addOp_mem hm with hm | ⟨m0, hm0, rfl⟩
    · exact h.jumps m hm
    · exact h.jumps m0 hm0
end Go.Proofs.YtckojpaklblnpaaGreatDoor.Th
set_option linter.unusedVariables false
set_option linter.unusedSimpArgs false
set_option maxRecDepth 10000
set_option maxHeartbeats 2000000
namespace Go.Proofs.YtckojpaklblnpaaGreatDoor.Th
open Go Go.RowKit Go.Proofs.YtckojpaklblnpaaGreatDoor.Ev
/-! ### parts of a text -/
theorem splitL_snoc_hit (c : UInt8) : ∀ l, splitL c (l ++ [c]) = splitL c l ++ [[]]
  | [] => by simp [splitL]
  | a :: r => by
    have ih := splitL_snoc_hit c r
    simp only [List.cons_append, splitL, ih]
    split
    · rfl
    · cases hs : splitL c r with
      | nil => exact absurd hs (splitL_ne c r)
      | cons h t => rfl
theorem splitL_snoc_miss (c a : UInt8) (ha : a ≠ c) : ∀ l (S : List (List UInt8)) (t : List UInt8), splitL c l = S ++ [t] → splitL c (l ++ [a]) = S ++ [t ++ [a]]
  | [], S, t, h => by
    simp only [splitL] at h
    have : S = [] ∧ t = [] := by
      cases S with
      | nil => simpa using h.symm
      | cons x r => simp at h
    obtain ⟨rfl, rfl⟩ := this
    simp [splitL, ha]
  | b :: r, S, t, h => by
    simp only [List.cons_append, splitL] at h ⊢
    by_cases hb : b = c
    · rw [if_pos hb] at h ⊢
      cases S with
      | nil =>
        exfalso
        have := splitL_ne c r
        simp at h
        exact this h.2
      | cons x S =>
        simp only [List.cons_append, List.cons.injEq] at h
        obtain ⟨rfl, h⟩ := h
        rw [splitL_snoc_miss c a ha r S t h]
        rfl
    · rw [if_neg hb] at h ⊢
      cases hs : splitL c r with
      | nil => exact absurd hs (splitL_ne c r)
      | cons x T =>
        rw [hs] at h
        simp only at h
        cases S with
        | nil =>
          simp only [List.nil_append, List.cons.injEq] at h
          obtain ⟨rfl, rfl⟩ := h
          rw [splitL_snoc_miss c a ha r [] x (by rw [hs]; rfl)]
          rfl
        | cons y S =>
          simp only [List.cons_append, List.cons.injEq] at h
          obtain ⟨rfl, rfl⟩ := h
          rw [splitL_snoc_miss c a ha r (x :: S) t (by rw [hs]; rfl)]
          rfl
def full_ (l : List (List UInt8)) : List (List UInt8) := l.filter fun w => decide (w ≠ [])
theorem full_app (a b : List (List UInt8)) : full_ (a ++ b) = full_ a ++ full_ b := List.filter_append ..
theorem take_snoc (l : List UInt8) (i : Nat) (h : i < l.length) : l.take (i + 1) = l.take i ++ [l[i]] := by
  rw [List.take_add_one, List.getElem?_eq_getElem h]; rfl
theorem wst_inv (l : List UInt8) : ∀ i, i ≤ l.length → ∃ S t, splitL 32 (l.take i) = S ++ [t] ∧ (wst l i).1 = full_ S ∧ t.length + (wst l i).2 = i ∧ t = (l.take i).drop (wst l i).2
  | 0, _ => ⟨[], [], by simp [splitL], rfl, rfl, by simp⟩
  | i + 1, hi => by
    obtain ⟨S, t, h1, h2, h3, h4⟩ := wst_inv l i (by omega)
    have hl : i < l.length := by omega
    have hne : ¬ i = l.length := by omega
    rw [take_snoc l i hl]
    unfold wst
    by_cases hc : l[i] = 32
    · rw [if_pos (.inr (by rw [List.getElem?_eq_getElem hl, hc]))]
      dsimp only
      rw [hc, splitL_snoc_hit, h1]
      refine ⟨S ++ [t], [], rfl, ?_, by simp, by simp; omega⟩
      rw [full_app, ← h2]
      by_cases hf : (wst l i).2 < i
      · rw [if_pos hf]
        have e : (l.drop (wst l i).2).take (i - (wst l i).2) = t := by rw [h4, List.drop_take]
        have ht : t ≠ [] := fun h => by rw [h] at h3; simp at h3; omega
        rw [e]
        simp [full_, ht]
      · rw [if_neg hf]
        have ht : t = [] := List.length_eq_zero_iff.mp (by omega)
        simp [full_, ht]
    · rw [if_neg (by
        rintro (h | h)
        · exact hne h
        · rw [List.getElem?_eq_getElem hl] at h
          exact hc (Option.some.inj h))]
      refine ⟨S, t ++ [l[i]], splitL_snoc_miss 32 l[i] hc _ S t h1, h2, by simp; omega, ?_⟩
      rw [List.drop_append_of_le_length (by simp; omega), ← h4]
theorem wordsOf_eq (l : List UInt8) : wordsOf l = full_ (splitL 32 l) := by
  obtain ⟨S, t, h1, h2, h3, h4⟩ := wst_inv l l.length (Nat.le_refl _)
  rw [List.take_length] at h1 h4
  unfold wordsOf
  unfold wst
  rw [if_pos (.inl rfl), h1, full_app]
  dsimp only
  rw [← h2]
  by_cases hf : (wst l l.length).2 < l.length
  · rw [if_pos hf]
    have e : (l.drop (wst l l.length).2).take (l.length - (wst l l.length).2) = t := by rw [h4, List.take_of_length_le (by simp)]
    have ht : t ≠ [] := fun h => by rw [h] at h3; simp at h3; omega
    rw [e]
    simp [full_, ht]
  · rw [if_neg hf]
    have ht : t = [] := List.length_eq_zero_iff.mp (by omega)
    simp [full_, ht]
theorem lst_inv (l : List UInt8) : ∀ i, i ≤ l.length → ∃ S t, splitL 10 (l.take i) = S ++ [t] ∧ (lst l i).1 = S ∧ t.length + (lst l i).2 = i ∧ t = (l.take i).drop (lst l i).2
  | 0, _ => ⟨[], [], by simp [splitL], rfl, rfl, by simp⟩
  | i + 1, hi => by
    obtain ⟨S, t, h1, h2, h3, h4⟩ := lst_inv l i (by omega)
    have hl : i < l.length := by omega
    rw [take_snoc l i hl]
    unfold lst
    by_cases hc : l[i] = 10
    · rw [if_pos (by rw [List.getElem?_eq_getElem hl, hc])]
      dsimp only
      rw [hc, splitL_snoc_hit, h1]
      refine ⟨S ++ [t], [], rfl, ?_, by simp, by simp; omega⟩
      have e : (l.drop (lst l i).2).take (i - (lst l i).2) = t := by rw [h4, List.drop_take]
      rw [e, h2]
    · rw [if_neg (by
        intro h
        rw [List.getElem?_eq_getElem hl] at h
        exact hc (Option.some.inj h))]
      refine ⟨S, t ++ [l[i]], splitL_snoc_miss 10 l[i] hc _ S t h1, h2, by simp; omega, ?_⟩
      rw [List.drop_append_of_le_length (by simp; omega), ← h4]
theorem linesOf_of {l : List UInt8} {S : List (List UInt8)} (h : splitL 10 l = S ++ [[]]) : linesOf l = S := by
  obtain ⟨S', t, h1, h2, h3, h4⟩ := lst_inv l l.length (Nat.le_refl _)
  rw [List.take_length] at h1 h4
  rw [h] at h1
  obtain ⟨rfl, e⟩ := List.append_inj' h1 rfl
  simp only [List.cons.injEq, and_true] at e
  subst e
  unfold linesOf
  rw [if_neg (by simp at h3; omega), h2, List.append_nil]
def unl : List (List UInt8) → List UInt8
  | [] => []
  | l :: r => l ++ 10 :: unl r
theorem unl_app : ∀ a b, unl (a ++ b) = unl a ++ unl b
  | [], b => rfl
  | l :: a, b => by simp [unl, unl_app a b]
theorem splitL_unl : ∀ L : List (List UInt8), (∀ l ∈ L, (10 : UInt8) ∉ l) → splitL 10 (unl L) = L ++ [[]]
  | [], _ => by simp [unl, splitL]
  | l :: L, h => by
    rw [unl, splitL_hit 10 l _ (h l (by simp)), splitL_unl L (fun x hx => h x (by simp [hx]))]
    rfl
theorem splitL_join : ∀ ws : List (List UInt8), ws ≠ [] → (∀ w ∈ ws, (32 : UInt8) ∉ w) → splitL 32 (Lib.join ws [32]) = ws
  | [], h, _ => absurd rfl h
  | [a], _, h => by
    have : Lib.join [a] [32] = a := by simp [Lib.join, List.intercalate]
    rw [this]
    exact splitL_miss 32 a (h a (by simp))
  | a :: b :: r, _, h => by
    have ih := splitL_join (b :: r) (by simp) (fun w hw => h w (by simp [hw]))
    have : Lib.join (a :: b :: r) [32] = a ++ 32 :: Lib.join (b :: r) [32] := by simp [Lib.join, List.intercalate]
    rw [this, splitL_hit 32 a _ (h a (by simp)), ih]
theorem full_id : ∀ ws : List (List UInt8), (∀ w ∈ ws, w ≠ []) → full_ ws = ws := by
  intro ws h
  unfold full_
  rw [List.filter_eq_self]
  intro w hw
  simpa using h w hw
theorem join_miss (c : UInt8) (hc : c ≠ 32) : ∀ ws : List (List UInt8), (∀ w ∈ ws, c ∉ w) → c ∉ Lib.join ws [32]
  | [], _ => by simp [Lib.join, List.intercalate]
  | [a], h => by
    have : Lib.join [a] [32] = a := by simp [Lib.join, List.intercalate]
    rw [this]
    exact h a (by simp)
  | a :: b :: r, h => by
    have ih := join_miss c hc (b :: r) (fun w hw => h w (by simp [hw]))
    have : Lib.join (a :: b :: r) [32] = a ++ 32 :: Lib.join (b :: r) [32] := by simp [Lib.join, List.intercalate]
    rw [this]
    have h1 := h a (by simp)
    simp only [List.mem_append, List.mem_cons, not_or]
    exact ⟨h1, hc, ih⟩
end Go.Proofs.YtckojpaklblnpaaGreatDoor.Th
set_option linter.unusedVariables false
set_option linter.unusedSimpArgs false
set_option maxRecDepth 10000
set_option maxHeartbeats 2000000
namespace Go.Proofs.YtckojpaklblnpaaGreatDoor.Th
open Go Go.RowKit Go.Proofs.YtckojpaklblnpaaGreatDoor.Ev
/-! ### an Op's words -/
structure OkW (x : OpT) : Prop where
  num : 1 ≤ x.num ∧ x.num ≤ 536870911
  kind : 1 ≤ x.kind ∧ x.kind ≤ 17
  ref : 0 ≤ x.ref ∧ x.ref ≤ 30
  ref0 : x.kind ≠ 16 → x.ref = 0
  oneof : 0 ≤ x.oneof ∧ x.oneof ≤ 40
  run : 0 ≤ x.run ∧ x.run ≤ 40
theorem mk_num (a b c : Int) (d : Bool) (e : Int) (f : List Int) (g : Bool) (h : Int) (i : List OpT) : (OpT.mk a b c d e f g h i).num = a := rfl
theorem mk_kind (a b c : Int) (d : Bool) (e : Int) (f : List Int) (g : Bool) (h : Int) (i : List OpT) : (OpT.mk a b c d e f g h i).kind = b := rfl
theorem mk_ref (a b c : Int) (d : Bool) (e : Int) (f : List Int) (g : Bool) (h : Int) (i : List OpT) : (OpT.mk a b c d e f g h i).ref = c := rfl
theorem mk_rep (a b c : Int) (d : Bool) (e : Int) (f : List Int) (g : Bool) (h : Int) (i : List OpT) : (OpT.mk a b c d e f g h i).rep = d := rfl
theorem mk_oneof (a b c : Int) (d : Bool) (e : Int) (f : List Int) (g : Bool) (h : Int) (i : List OpT) : (OpT.mk a b c d e f g h i).oneof = e := rfl
theorem mk_tag (a b c : Int) (d : Bool) (e : Int) (f : List Int) (g : Bool) (h : Int) (i : List OpT) : (OpT.mk a b c d e f g h i).tag = f := rfl
theorem mk_quick (a b c : Int) (d : Bool) (e : Int) (f : List Int) (g : Bool) (h : Int) (i : List OpT) : (OpT.mk a b c d e f g h i).quick = g := rfl
theorem mk_run (a b c : Int) (d : Bool) (e : Int) (f : List Int) (g : Bool) (h : Int) (i : List OpT) : (OpT.mk a b c d e f g h i).run = h := rfl
theorem mk_inl (a b c : Int) (d : Bool) (e : Int) (f : List Int) (g : Bool) (h : Int) (i : List OpT) : (OpT.mk a b c d e f g h i).inl = i := rfl
def rawOp (x : OpT) : OpT := .mk x.num x.kind x.ref x.rep x.oneof [] x.quick x.run []
theorem addW_app (is : Bool) (w : List UInt8) (a l : List (List UInt8)) : addW is w (a ++ l) = a ++ addW is w l := by unfold addW; split <;> simp
theorem restW_app (x : OpT) (a l : List (List UInt8)) : restW x (a ++ l) = a ++ restW x l := by unfold restW; simp only [addW_app]
def refW (x : OpT) : List (List UInt8) := if x.kind = 16 then [[64] ++ Lib.itoa x.ref] else []
theorem words_eq (x : OpT) : wordsT x = [Lib.itoa x.num, wordT x.kind] ++ restW x (refW x) := by
  unfold wordsT
  rw [← restW_app]
  congr 1
  unfold headW refW
  by_cases h : x.kind = 16
  · simp [h, wordT]
  · simp [h]
theorem foldl_addW {α : Type} (f : α → List UInt8 → α) (s : α) (is : Bool) (w : List UInt8) (l : List (List UInt8)) : (addW is w l).foldl f s = if is = true then f (l.foldl f s) w else l.foldl f s := by
  unfold addW
  split <;> simp
theorem mem_addW {is : Bool} {w : List UInt8} {l : List (List UInt8)} {v : List UInt8} (h : v ∈ addW is w l) : v = w ∨ v ∈ l := by
  unfold addW at h
  split at h
  · rcases List.mem_append.mp h with h | h
    · exact .inr h
    · exact .inl (by simpa using h)
  · exact .inr h
def Clean (w : List UInt8) : Prop := w ≠ [] ∧ (32 : UInt8) ∉ w ∧ (10 : UInt8) ∉ w
theorem clean_itoa {n : Int} (h : 0 ≤ n) : Clean (Lib.itoa n) := ⟨itoa_ne h, itoa_miss h _ (by decide), itoa_miss h _ (by decide)⟩
theorem clean_app {p w : List UInt8} (hp : (32 : UInt8) ∉ p ∧ (10 : UInt8) ∉ p) (hw : Clean w) : Clean (p ++ w) := by
  refine ⟨by simp [hw.1], ?_, ?_⟩
  · simp only [List.mem_append, not_or]; exact ⟨hp.1, hw.2.1⟩
  · simp only [List.mem_append, not_or]; exact ⟨hp.2, hw.2.2⟩
theorem word_all : ∀ j : Fin 17, wordT ((j.val : Int) + 1) ≠ [] ∧ (32 : UInt8) ∉ wordT ((j.val : Int) + 1) ∧ (10 : UInt8) ∉ wordT ((j.val : Int) + 1) ∧ kindW (wordT ((j.val : Int) + 1)) = (j.val : Int) + 1 := by decide
theorem word_of {k : Int} (h : 1 ≤ k ∧ k ≤ 17) : Clean (wordT k) ∧ kindW (wordT k) = k := by
  obtain ⟨j, hj⟩ : ∃ j : Fin 17, k = (j.val : Int) + 1 := ⟨⟨(k - 1).toNat, by omega⟩, by simp; omega⟩
  have := word_all j
  rw [← hj] at this
  exact ⟨⟨this.1, this.2.1, this.2.2.1⟩, this.2.2.2⟩
theorem words_clean {x : OpT} (hx : OkW x) : ∀ w ∈ wordsT x, Clean w := by
  intro w hw
  rw [words_eq] at hw
  rcases List.mem_append.mp hw with hw | hw
  · simp only [List.mem_cons, List.not_mem_nil, or_false] at hw
    rcases hw with rfl | rfl
    · exact clean_itoa (by have := hx.num; omega)
    · exact (word_of hx.kind).1
  unfold restW at hw
  rcases mem_addW hw with rfl | hw
  · exact ⟨by simp, by decide, by decide⟩
  rcases mem_addW hw with rfl | hw
  · exact clean_app (by decide) (clean_itoa hx.run.1)
  rcases mem_addW hw with rfl | hw
  · exact ⟨by simp, by decide, by decide⟩
  rcases mem_addW hw with rfl | hw
  · exact ⟨by simp, by decide, by decide⟩
  rcases mem_addW hw with rfl | hw
  · exact clean_app (by decide) (clean_itoa hx.oneof.1)
  rcases mem_addW hw with rfl | hw
  · exact ⟨by simp, by decide, by decide⟩
  unfold refW at hw
  split at hw
  · simp only [List.mem_singleton] at hw
    subst hw
    exact clean_app (by decide) (clean_itoa hx.ref.1)
  · cases hw
theorem wordsT_ne (x : OpT) : wordsT x ≠ [] := by rw [words_eq]; simp
theorem opOfT_words {x : OpT} (hx : OkW x) : opOfT (wordsT x) = (rawOp x, flg (decide (0 < x.tag.length)) (decide (0 < x.inl.length)), true) := by
  have hn := numB_itoa (n := x.num) (by have := hx.num; omega) (by have := hx.num; omega)
  have hr := numB_itoa (n := x.ref) hx.ref.1 (by have := hx.ref; omega)
  have ho := numB_itoa (n := x.oneof) hx.oneof.1 (by have := hx.oneof; omega)
  have hu := numB_itoa (n := x.run) hx.run.1 (by have := hx.run; omega)
  have hk := (word_of hx.kind).2
  have h0 : opH (wordsT x) = (.mk x.num x.kind 0 false 0 [] false 0 [], false, false, true) := by
    unfold opH
    rw [words_eq]
    simp [hn, hk]
  have hd : (wordsT x).drop 2 = restW x (refW x) := by rw [words_eq]; rfl
  have s1 : (refW x).foldl rdW (.mk x.num x.kind 0 false 0 [] false 0 [], false, false, true) = (.mk x.num x.kind x.ref false 0 [] false 0 [], false, false, true) := by
    unfold refW
    by_cases h : x.kind = 16
    · simp [h, rdW, Lib.hasPrefix, hr, mk_num, mk_kind, mk_ref, mk_rep, mk_oneof, mk_tag, mk_quick, mk_run, mk_inl]
    · simp [h, hx.ref0 h]
  have hR : opR (wordsT x) = (rawOp x, decide (0 < x.tag.length), decide (0 < x.inl.length), true) := by
    unfold opR
    rw [h0, hd]
    unfold restW
    simp only [foldl_addW]
    rw [s1]
    have e1 : (if x.rep = true then rdW (OpT.mk x.num x.kind x.ref false 0 [] false 0 [], false, false, true) [114, 101, 112, 101, 97, 116, 101, 100] else (OpT.mk x.num x.kind x.ref false 0 [] false 0 [], false, false, true)) = (.mk x.num x.kind x.ref x.rep 0 [] false 0 [], false, false, true) := by
      cases x.rep <;> simp [rdW, mk_num, mk_kind, mk_ref, mk_rep, mk_oneof, mk_tag, mk_quick, mk_run, mk_inl]
    rw [e1]
    have e2 : (if (!decide (x.oneof = 0)) = true then rdW (OpT.mk x.num x.kind x.ref x.rep 0 [] false 0 [], false, false, true) ([111, 110, 101, 111, 102] ++ Lib.itoa x.oneof) else (OpT.mk x.num x.kind x.ref x.rep 0 [] false 0 [], false, false, true)) = (.mk x.num x.kind x.ref x.rep x.oneof [] false 0 [], false, false, true) := by
      by_cases h : x.oneof = 0
      · simp [h]
      · simp [h, rdW, Lib.hasPrefix, ho, mk_num, mk_kind, mk_ref, mk_rep, mk_oneof, mk_tag, mk_quick, mk_run, mk_inl]
    rw [e2]
    have e3 : (if decide (0 < x.tag.length) = true then rdW (OpT.mk x.num x.kind x.ref x.rep x.oneof [] false 0 [], false, false, true) [116, 97, 103] else (OpT.mk x.num x.kind x.ref x.rep x.oneof [] false 0 [], false, false, true)) = (.mk x.num x.kind x.ref x.rep x.oneof [] false 0 [], decide (0 < x.tag.length), false, true) := by
      by_cases h : 0 < x.tag.length
      · simp only [h, decide_true, if_true]; simp [rdW]
      · simp [h]
    rw [e3]
    generalize decide (0 < x.tag.length) = tg
    have e4 : (if x.quick = true then rdW (OpT.mk x.num x.kind x.ref x.rep x.oneof [] false 0 [], tg, false, true) [113, 117, 105, 99, 107] else (OpT.mk x.num x.kind x.ref x.rep x.oneof [] false 0 [], tg, false, true)) = (.mk x.num x.kind x.ref x.rep x.oneof [] x.quick 0 [], tg, false, true) := by
      cases x.quick <;> simp [rdW, mk_num, mk_kind, mk_ref, mk_rep, mk_oneof, mk_tag, mk_quick, mk_run, mk_inl]
    rw [e4]
    have e5 : (if (!decide (x.run = 0)) = true then rdW (OpT.mk x.num x.kind x.ref x.rep x.oneof [] x.quick 0 [], tg, false, true) ([114, 117, 110] ++ Lib.itoa x.run) else (OpT.mk x.num x.kind x.ref x.rep x.oneof [] x.quick 0 [], tg, false, true)) = (rawOp x, tg, false, true) := by
      by_cases h : x.run = 0
      · simp [h, rawOp]
      · simp [h, rdW, rawOp, Lib.hasPrefix, hu, mk_num, mk_kind, mk_ref, mk_rep, mk_oneof, mk_tag, mk_quick, mk_run, mk_inl]
    rw [e5]
    by_cases h : 0 < x.inl.length
    · simp only [h, decide_true, if_true]; simp [rdW]
    · simp [h]
  have hl : ¬ (wordsT x).length < 2 := by rw [words_eq]; simp
  unfold opOfT
  rw [if_neg hl, hR]
  have hk0 : ¬ x.kind = 0 := by have := hx.kind; omega
  simp [rawOp, mk_num, mk_kind, mk_ref, mk_rep, mk_oneof, mk_tag, mk_quick, mk_run, mk_inl, hk0]
theorem readR_words {x : OpT} (hx : OkW x) : readR (wordsT x) = (rawOp x, decide (0 < x.tag.length), decide (0 < x.inl.length)) := by
  have hn := l8n_itoa (n := x.num) (by have := hx.num; omega) (by have := hx.num; omega)
  have hr := tailT_itoa (n := x.ref) [64] hx.ref.1 (by have := hx.ref; omega)
  have ho := tailT_itoa (n := x.oneof) [111, 110, 101, 111, 102] hx.oneof.1 (by have := hx.oneof; omega)
  have hu := tailT_itoa (n := x.run) [114, 117, 110] hx.run.1 (by have := hx.run; omega)
  have hk := (word_of hx.kind).2
  have hl : 1 < (wordsT x).length := by rw [words_eq]; simp
  have h0 : readH (wordsT x) = (.mk x.num x.kind 0 false 0 [] false 0 [], false, false) := by
    unfold readH
    rw [if_pos hl, words_eq]
    simp [hn, hk]
  have hd : (wordsT x).drop 2 = restW x (refW x) := by rw [words_eq]; rfl
  simp only [List.cons_append, List.nil_append] at hr ho hu
  have s1 : (refW x).foldl rdS (.mk x.num x.kind 0 false 0 [] false 0 [], false, false) = (.mk x.num x.kind x.ref false 0 [] false 0 [], false, false) := by
    unfold refW
    by_cases h : x.kind = 16
    · simp [h, rdS, Lib.hasPrefix, hr, mk_num, mk_kind, mk_ref, mk_rep, mk_oneof, mk_tag, mk_quick, mk_run, mk_inl]
    · simp [h, hx.ref0 h]
  unfold readR
  rw [h0, hd]
  unfold restW
  simp only [foldl_addW]
  rw [s1]
  have e1 : (if x.rep = true then rdS (OpT.mk x.num x.kind x.ref false 0 [] false 0 [], false, false) [114, 101, 112, 101, 97, 116, 101, 100] else (OpT.mk x.num x.kind x.ref false 0 [] false 0 [], false, false)) = (.mk x.num x.kind x.ref x.rep 0 [] false 0 [], false, false) := by
    cases x.rep <;> simp [rdS, mk_num, mk_kind, mk_ref, mk_rep, mk_oneof, mk_tag, mk_quick, mk_run, mk_inl]
  rw [e1]
  have e2 : (if (!decide (x.oneof = 0)) = true then rdS (OpT.mk x.num x.kind x.ref x.rep 0 [] false 0 [], false, false) ([111, 110, 101, 111, 102] ++ Lib.itoa x.oneof) else (OpT.mk x.num x.kind x.ref x.rep 0 [] false 0 [], false, false)) = (.mk x.num x.kind x.ref x.rep x.oneof [] false 0 [], false, false) := by
    by_cases h : x.oneof = 0
    · simp [h]
    · simp [h, rdS, Lib.hasPrefix, ho, mk_num, mk_kind, mk_ref, mk_rep, mk_oneof, mk_tag, mk_quick, mk_run, mk_inl]
  rw [e2]
  have e3 : (if decide (0 < x.tag.length) = true then rdS (OpT.mk x.num x.kind x.ref x.rep x.oneof [] false 0 [], false, false) [116, 97, 103] else (OpT.mk x.num x.kind x.ref x.rep x.oneof [] false 0 [], false, false)) = (.mk x.num x.kind x.ref x.rep x.oneof [] false 0 [], decide (0 < x.tag.length), false) := by
    by_cases h : 0 < x.tag.length
    · simp only [h, decide_true, if_true]; simp [rdS]
    · simp [h]
  rw [e3]
  generalize decide (0 < x.tag.length) = tg
  have e4 : (if x.quick = true then rdS (OpT.mk x.num x.kind x.ref x.rep x.oneof [] false 0 [], tg, false) [113, 117, 105, 99, 107] else (OpT.mk x.num x.kind x.ref x.rep x.oneof [] false 0 [], tg, false)) = (.mk x.num x.kind x.ref x.rep x.oneof [] x.quick 0 [], tg, false) := by
    cases x.quick <;> simp [rdS, mk_num, mk_kind, mk_ref, mk_rep, mk_oneof, mk_tag, mk_quick, mk_run, mk_inl]
  rw [e4]
  have e5 : (if (!decide (x.run = 0)) = true then rdS (OpT.mk x.num x.kind x.ref x.rep x.oneof [] x.quick 0 [], tg, false) ([114, 117, 110] ++ Lib.itoa x.run) else (OpT.mk x.num x.kind x.ref x.rep x.oneof [] x.quick 0 [], tg, false)) = (rawOp x, tg, false) := by
    by_cases h : x.run = 0
    · simp [h, rawOp]
    · simp [h, rdS, rawOp, Lib.hasPrefix, hu, mk_num, mk_kind, mk_ref, mk_rep, mk_oneof, mk_tag, mk_quick, mk_run, mk_inl]
  rw [e5]
  by_cases h : 0 < x.inl.length
  · simp only [h, decide_true, if_true]; simp [rdS]
  · simp [h]
def lineO (x : OpT) : List UInt8 := [32, 32] ++ Lib.join (wordsT x) [32]
theorem lineO_T {x : OpT} (hx : OkW x) : opT x = lineO x ++ [10] := by
  have := hx.num; have := hx.ref; have := hx.oneof; have := hx.run
  exact (words_join x ⟨by omega, by omega, by omega, by omega, hx.kind⟩).symm
theorem lineO_miss {x : OpT} (hx : OkW x) : (10 : UInt8) ∉ lineO x := by
  have := join_miss 10 (by decide) (wordsT x) (fun w hw => (words_clean hx w hw).2.2)
  unfold lineO
  simp only [List.mem_append, not_or]
  exact ⟨by decide, this⟩
theorem lineO_split {x : OpT} (hx : OkW x) : splitL 32 ((lineO x).drop 2) = wordsT x := splitL_join _ (wordsT_ne x) fun w hw => (words_clean hx w hw).2.1
theorem lineO_words {x : OpT} (hx : OkW x) : wordsOf (lineO x) = wordsT x := by
  have h1 := lineO_split hx
  rw [wordsOf_eq]
  have e : splitL 32 (lineO x) = [] :: [] :: splitL 32 ((lineO x).drop 2) := by
    unfold lineO
    simp [splitL]
  rw [e, h1]
  have := full_id (wordsT x) fun w hw => (words_clean hx w hw).1
  unfold full_ at this ⊢
  simp only [List.filter_cons, ne_eq, not_true_eq_false, decide_false, Bool.false_eq_true, if_false]
  exact this
end Go.Proofs.YtckojpaklblnpaaGreatDoor.Th
set_option linter.unusedVariables false
set_option linter.unusedSimpArgs false
set_option maxRecDepth 10000
set_option maxHeartbeats 2000000
namespace Go.Proofs.YtckojpaklblnpaaGreatDoor.Th
open Go Go.RowKit Go.Proofs.YtckojpaklblnpaaGreatDoor.Ev
abbrev StS := List ModT × List Bool × List (List Int)
def addModS (st : StS) (c j : Bool) : StS := (st.1 ++ [⟨[], [], c⟩], st.2.1 ++ [j], st.2.2 ++ [[]])
def lastOps (ms : List ModT) : Nat := match ms[ms.length - 1]? with
  | some m => m.ops.length
  | none => 0
def stepS (st : StS) (line : List UInt8) : Option StS :=
  match wordsOf line with
  | [] => if st.1.length = 0 ∨ 30 < st.1.length ∨ 40 < lastOps st.1 then none else some (addOp st.1 (readR []).1, st.2.1, addF st.2.2 (flg (readR []).2.1 (readR []).2.2))
  | w :: r => if w = [109, 111, 100] then some (addModS st (decide ((w :: r).getLast (by simp) = [99, 97, 99, 104, 101, 100])) (decide (2 < (w :: r).length) && decide ((w :: r).getD 2 [] = [106, 117, 109, 112, 115])))
    else if st.1.length = 0 ∨ 30 < st.1.length ∨ 40 < lastOps st.1 then none
    else some (addOp st.1 (readR (w :: r)).1, st.2.1, addF st.2.2 (flg (readR (w :: r)).2.1 (readR (w :: r)).2.2))
open Classical in
noncomputable def finS (text : List UInt8) : Option StS → List ModT × Bool
  | none => ([], false)
  | some (ms, jb, fo) => if okAll false ms (jb.map b2i) fo ∧ specB (layL false ms (jb.map b2i) fo) = true ∧ prN (layL false ms (jb.map b2i) fo) (layL false ms (jb.map b2i) fo).length = text then (layL false ms (jb.map b2i) fo, true) else ([], false)
noncomputable def parseS (text : List UInt8) : List ModT × Bool := if 200000 < text.length then ([], false) else finS text (runL stepS (linesOf text) ([], [], []))
theorem RawS.modS {p : Bool} {n : Nat} {ms : List ModT} {jb : List Bool} {fo : List (List Int)} (h : RawS p n (ms, jb.map b2i, fo)) (c j : Bool) : RawS p (n + 1) ((addModS (ms, jb, fo) c j).1, (addModS (ms, jb, fo) c j).2.1.map b2i, (addModS (ms, jb, fo) c j).2.2) := by
  have := h.mod c (b2i j)
  simpa [addMod, addModS] using this
theorem wordsOf_len (l : List UInt8) : (wordsOf l).length ≤ l.length + 1 := (wst_le l (l.length + 1)).1
theorem wordsOf_mem (l : List UInt8) : ∀ w ∈ wordsOf l, w.length ≤ l.length := (wst_le l (l.length + 1)).2.2
theorem linesOf_len (l : List UInt8) : (linesOf l).length ≤ l.length + 1 := by
  have := (lst_le l l.length).1
  unfold linesOf
  split <;> simp <;> omega
theorem linesOf_mem (l : List UInt8) : ∀ w ∈ linesOf l, w.length ≤ l.length := by
  intro w hw
  unfold linesOf at hw
  rcases List.mem_append.mp hw with hw | hw
  · exact (lst_le l l.length).2.2 w hw
  · split at hw
    · simp only [List.mem_singleton] at hw
      subst hw
      simp
    · cases hw
theorem nrmRows_nil : ∀ rs : List (List T), nrmRows [] rs = rs
  | [] => rfl
  | r :: rs => by simp only [nrmRows, nrmTs, nrmRows_nil rs]
theorem nrm_raw (ms : List ModT) : nrmRows [.sl 9 [], .sl 1 [], .any] (ms.map modRaw) = ms.map modRaw := by
  induction ms with
  | nil => rfl
  | cons m ms ih =>
    simp only [List.map_cons, nrmRows, ih]
    simp [modRaw, nrmRows_nil]
theorem nrm_encBo (jb : List Bool) : nrmRows [.any] (jb.map encBo) = jb.map encBo := by
  induction jb with
  | nil => rfl
  | cons m ms ih =>
    simp only [List.map_cons, nrmRows, ih]
    simp [encBo]
end Go.Proofs.YtckojpaklblnpaaGreatDoor.Th
set_option linter.unusedVariables false
set_option linter.unusedSimpArgs false
set_option maxRecDepth 10000
set_option maxHeartbeats 2000000
namespace Go.Proofs.YtckojpaklblnpaaGreatDoor.Th
open Go Go.RowKit Go.Proofs.YtckojpaklblnpaaGreatDoor.Ev
/-! ### a Mod's line -/
theorem contains_in (a s b : List UInt8) : Lib.contains (a ++ s ++ b) s = true := by
  unfold Lib.contains
  rw [decide_eq_true_eq]
  rcases Lib.index_spec (a ++ s ++ b) s with ⟨_, h⟩ | ⟨i, h, _⟩
  · exfalso
    have := h a.length (by simp)
    unfold Lib.occAt at this
    rw [List.append_assoc, List.drop_left] at this
    have h2 : s.isPrefixOf (s ++ b) = true := by simp
    rw [h2] at this
    cases this
  · rw [h]; exact Int.natCast_nonneg _
theorem contains_miss (l s : List UInt8) (c : UInt8) (hc : c ∈ s) (hl : c ∉ l) : Lib.contains l s = false := by
  unfold Lib.contains
  rw [decide_eq_false_iff_not]
  intro h0
  rcases Lib.index_spec l s with ⟨h, _⟩ | ⟨i, _, _, h, _⟩
  · rw [h] at h0; omega
  · unfold Lib.occAt at h
    have := List.isPrefixOf_iff_prefix.mp h
    have hm := this.subset hc
    exact hl (List.mem_of_mem_drop hm)
theorem suffix_last {l p : List UInt8} {c : UInt8} (h : Lib.hasSuffix l (p ++ [c]) = true) : l.getLast? = some c := by
  unfold Lib.hasSuffix at h
  obtain ⟨t, rfl⟩ := List.isSuffixOf_iff_suffix.mp h
  rw [← List.append_assoc]
  simp
theorem suffix_in (a p : List UInt8) : Lib.hasSuffix (a ++ p) p = true := by
  unfold Lib.hasSuffix
  exact List.isSuffixOf_iff_suffix.mpr ⟨a, rfl⟩
def wordsM (i : Nat) (m : ModT) : List (List UInt8) := [[109, 111, 100], Lib.itoa i] ++ (if m.jumps ≠ [] then [[106, 117, 109, 112, 115]] else []) ++ (if m.cached = true then [[99, 97, 99, 104, 101, 100]] else [])
def lineM (i : Nat) (m : ModT) : List UInt8 := [109, 111, 100, 32] ++ Lib.itoa i ++ (if m.jumps ≠ [] then [32, 106, 117, 109, 112, 115] else []) ++ (if m.cached = true then [32, 99, 97, 99, 104, 101, 100] else [])
theorem modH_line (i : Nat) (m : ModT) : modH i m = lineM i m ++ [10] := rfl
theorem wordsM_clean (i : Nat) (m : ModT) : ∀ w ∈ wordsM i m, Clean w := by
  intro w hw
  unfold wordsM at hw
  rcases List.mem_append.mp hw with hw | hw
  · rcases List.mem_append.mp hw with hw | hw
    · simp only [List.mem_cons, List.not_mem_nil, or_false] at hw
      rcases hw with rfl | rfl
      · exact ⟨by simp, by decide, by decide⟩
      · exact clean_itoa (by omega)
    · split at hw
      · simp only [List.mem_singleton] at hw; subst hw; exact ⟨by simp, by decide, by decide⟩
      · cases hw
  · split at hw
    · simp only [List.mem_singleton] at hw; subst hw; exact ⟨by simp, by decide, by decide⟩
    · cases hw
theorem lineM_join (i : Nat) (m : ModT) : lineM i m = Lib.join (wordsM i m) [32] := by
  unfold lineM wordsM
  by_cases h1 : m.jumps ≠ [] <;> cases h2 : m.cached <;> simp [h1, Lib.join, List.intercalate]
theorem wordsM_ne (i : Nat) (m : ModT) : wordsM i m ≠ [] := by unfold wordsM; simp
theorem lineM_miss (i : Nat) (m : ModT) : (10 : UInt8) ∉ lineM i m := by
  rw [lineM_join]
  exact join_miss 10 (by decide) _ fun w hw => (wordsM_clean i m w hw).2.2
theorem lineM_words (i : Nat) (m : ModT) : wordsOf (lineM i m) = wordsM i m := by
  rw [wordsOf_eq, lineM_join, splitL_join _ (wordsM_ne i m) fun w hw => (wordsM_clean i m w hw).2.1]
  exact full_id _ fun w hw => (wordsM_clean i m w hw).1
theorem lineM_prefix (i : Nat) (m : ModT) : Lib.hasPrefix (lineM i m) [32, 32] = false := by
  unfold lineM Lib.hasPrefix
  simp only [List.cons_append]
  rfl
theorem lineM_suffix (i : Nat) (m : ModT) : Lib.hasSuffix (lineM i m) [32, 99, 97, 99, 104, 101, 100] = m.cached := by
  unfold lineM
  cases hc : m.cached with
  | true => simp only [if_true]; exact suffix_in _ _
  | false =>
    rw [Bool.eq_false_iff]
    intro h
    have h2 := suffix_last (p := [32, 99, 97, 99, 104, 101]) (c := 100) h
    simp only [Bool.false_eq_true, if_false, List.append_nil] at h2
    by_cases hj : m.jumps ≠ []
    · rw [if_pos hj, List.getLast?_append] at h2
      exact absurd h2 (by simp)
    · rw [if_neg hj, List.append_nil] at h2
      have hne := itoa_ne (n := (i : Int)) (by omega)
      rw [List.getLast?_append] at h2
      cases hl : (Lib.itoa (i : Int)).getLast? with
      | none => exact hne (List.getLast?_eq_none_iff.mp hl)
      | some c =>
        rw [hl] at h2
        simp only [Option.some_or, Option.some.injEq] at h2
        have := itoa_digit (n := (i : Int)) (by omega) c (List.mem_of_getLast? hl)
        rw [h2] at this
        exact absurd this.2 (by decide)
theorem lineM_contains (i : Nat) (m : ModT) : Lib.contains (lineM i m) [32, 106, 117, 109, 112, 115] = decide (m.jumps ≠ []) := by
  by_cases hj : m.jumps ≠ []
  · rw [decide_eq_true hj]
    unfold lineM
    rw [if_pos hj]
    exact contains_in _ _ _
  · rw [decide_eq_false hj]
    refine contains_miss _ _ 106 (by decide) ?_
    unfold lineM
    rw [if_neg hj]
    have := itoa_miss (n := (i : Int)) (by omega) 106 (by decide)
    simp only [List.append_nil, List.mem_append, not_or]
    refine ⟨⟨by decide, this⟩, ?_⟩
    split <;> decide
/-! ### all lines -/
def linesP (ms : List ModT) : Nat → List (List UInt8)
  | 0 => []
  | i + 1 => linesP ms i ++ (match ms[i]? with | some m => lineM i m :: m.ops.map lineO | none => [])
theorem opsN_unl (ops : List OpT) (h : ∀ x ∈ ops, OkW x) : ∀ j, j ≤ ops.length → opsN ops j = unl ((ops.take j).map lineO)
  | 0, _ => by simp [opsN, unl]
  | j + 1, hj => by
    have hl : j < ops.length := by omega
    have ih := opsN_unl ops h j (by omega)
    rw [opsN, ih, take_next ops j hl, List.map_append, unl_app, List.getElem?_eq_getElem hl]
    simp only [List.map_cons, List.map_nil, unl]
    rw [lineO_T (h _ (List.getElem_mem hl))]
theorem prN_unl (ms : List ModT) (h : ∀ m ∈ ms, ∀ x ∈ m.ops, OkW x) : ∀ i, i ≤ ms.length → prN ms i = unl (linesP ms i)
  | 0, _ => rfl
  | i + 1, hi => by
    have hl : i < ms.length := by omega
    have ih := prN_unl ms h i (by omega)
    have ho := opsN_unl ms[i].ops (h _ (List.getElem_mem hl)) ms[i].ops.length (Nat.le_refl _)
    rw [List.take_length] at ho
    rw [prN, linesP, ih, unl_app, List.getElem?_eq_getElem hl]
    dsimp only
    rw [modT, modH_line, ho, unl]
    simp
theorem linesP_miss (ms : List ModT) (h : ∀ m ∈ ms, ∀ x ∈ m.ops, OkW x) : ∀ i, ∀ l ∈ linesP ms i, (10 : UInt8) ∉ l
  | 0, l, hl => by cases hl
  | i + 1, l, hl => by
    rw [linesP] at hl
    rcases List.mem_append.mp hl with hl | hl
    · exact linesP_miss ms h i l hl
    · cases hq : ms[i]? with
      | none => rw [hq] at hl; cases hl
      | some m =>
        rw [hq] at hl
        dsimp only at hl
        rcases List.mem_cons.mp hl with rfl | hl
        · exact lineM_miss i m
        · obtain ⟨x, hx, rfl⟩ := List.mem_map.mp hl
          exact lineO_miss (h m (List.mem_of_getElem? hq) x hx)
/-! ### what the lines give -/
theorem runL_app {α : Type} (f : α → List UInt8 → Option α) : ∀ (a b : List (List UInt8)) (s : α), runL f (a ++ b) s = (runL f a s).bind (runL f b)
  | [], b, s => rfl
  | l :: a, b, s => by
    simp only [List.cons_append, runL]
    cases f s l with
    | none => rfl
    | some t => exact runL_app f a b t
def flO (x : OpT) : Int := flg (decide (0 < x.tag.length)) (decide (0 < x.inl.length))
def rawM (m : ModT) : ModT := ⟨m.ops.map rawOp, [], m.cached⟩
theorem addOp_last (A : List ModT) (ops : List OpT) (c : Bool) (x : OpT) : addOp (A ++ [⟨ops, [], c⟩]) x = A ++ [⟨ops ++ [x], [], c⟩] := by
  unfold addOp
  have : (A ++ [(⟨ops, [], c⟩ : ModT)])[(A ++ [(⟨ops, [], c⟩ : ModT)]).length - 1]? = some ⟨ops, [], c⟩ := by simp
  rw [this]
  simp
theorem addF_last (A : List (List Int)) (fs : List Int) (f : Int) : addF (A ++ [fs]) f = A ++ [fs ++ [f]] := by
  unfold addF
  have : (A ++ [fs])[(A ++ [fs]).length - 1]? = some fs := by simp
  rw [this]
  simp
theorem lastOps_last (A : List ModT) (m : ModT) : lastOps (A ++ [m]) = m.ops.length := by
  unfold lastOps
  have : (A ++ [m])[(A ++ [m]).length - 1]? = some m := by simp
  rw [this]
theorem runI_ops (c : Bool) (A : List ModT) (fl : List Int) (B : List (List Int)) : ∀ (ops pre : List OpT) (fs : List Int), (∀ x ∈ ops, OkW x) →
    runL stepI (ops.map lineO) (A ++ [⟨pre, [], c⟩], fl, B ++ [fs]) = some (A ++ [⟨pre ++ ops.map rawOp, [], c⟩], fl, B ++ [fs ++ ops.map flO])
  | [], pre, fs, _ => by simp [runL]
  | x :: ops, pre, fs, h => by
    have hx := h x (by simp)
    have hp : Lib.hasPrefix (lineO x) [32, 32] = true := by unfold lineO Lib.hasPrefix; simp
    have hs : stepI (A ++ [⟨pre, [], c⟩], fl, B ++ [fs]) (lineO x) = some (A ++ [⟨pre ++ [rawOp x], [], c⟩], fl, B ++ [fs ++ [flO x]]) := by
      unfold stepI
      rw [if_pos hp, lineO_split hx, opOfT_words hx]
      dsimp only
      rw [if_pos ⟨rfl, by simp⟩, addOp_last, addF_last]
      rfl
    simp only [List.map_cons, runL, hs]
    rw [runI_ops c A fl B ops (pre ++ [rawOp x]) (fs ++ [flO x]) (fun y hy => h y (by simp [hy]))]
    simp
theorem itoa_mod (n : Int) (h : 0 ≤ n) : Lib.itoa n ≠ [109, 111, 100] := by
  intro e
  have := itoa_digit h 109 (by rw [e]; decide)
  exact absurd this.2 (by decide)
theorem runS_ops (c : Bool) (A : List ModT) (jb : List Bool) (B : List (List Int)) (hA : A.length < 30) : ∀ (ops pre : List OpT) (fs : List Int), (∀ x ∈ ops, OkW x) → pre.length + ops.length ≤ 41 →
    runL stepS (ops.map lineO) (A ++ [⟨pre, [], c⟩], jb, B ++ [fs]) = some (A ++ [⟨pre ++ ops.map rawOp, [], c⟩], jb, B ++ [fs ++ ops.map flO])
  | [], pre, fs, _, _ => by simp [runL]
  | x :: ops, pre, fs, h, hl => by
    have hx := h x (by simp)
    have hs : stepS (A ++ [⟨pre, [], c⟩], jb, B ++ [fs]) (lineO x) = some (A ++ [⟨pre ++ [rawOp x], [], c⟩], jb, B ++ [fs ++ [flO x]]) := by
      have hw := lineO_words hx
      have hr := readR_words hx
      unfold stepS
      rw [hw]
      rw [words_eq] at hr ⊢
      have hn := itoa_mod x.num (by have := hx.num; omega)
      simp only [List.cons_append, List.nil_append] at hr ⊢
      rw [if_neg hn, if_neg (by
        rw [lastOps_last]
        simp only [List.length_append, List.length_singleton, not_or]
        simp at hl
        omega), hr, addOp_last, addF_last]
      rfl
    simp only [List.map_cons, runL, hs]
    rw [runS_ops c A jb B hA ops (pre ++ [rawOp x]) (fs ++ [flO x]) (fun y hy => h y (by simp [hy])) (by simp at hl ⊢; omega)]
    simp
def jmB (m : ModT) : Bool := decide (m.jumps ≠ [])
theorem runI_all (ms : List ModT) (h : ∀ m ∈ ms, ∀ x ∈ m.ops, OkW x) : ∀ n, n ≤ ms.length → runL stepI (linesP ms n) ([], [], []) = some ((ms.take n).map rawM, (ms.take n).map (fun m => b2i (jmB m)), (ms.take n).map fun m => m.ops.map flO)
  | 0, _ => by simp [linesP, runL]
  | n + 1, hn => by
    have hl : n < ms.length := by omega
    have ih := runI_all ms h n (by omega)
    rw [linesP, runL_app, ih, List.getElem?_eq_getElem hl]
    dsimp only [Option.bind]
    have hs : stepI ((ms.take n).map rawM, (ms.take n).map (fun m => b2i (jmB m)), (ms.take n).map fun m => m.ops.map flO) (lineM n ms[n]) = some ((ms.take n).map rawM ++ [⟨[], [], ms[n].cached⟩], (ms.take n).map (fun m => b2i (jmB m)) ++ [b2i (jmB ms[n])], ((ms.take n).map fun m => m.ops.map flO) ++ [[]]) := by
      unfold stepI
      rw [if_neg (by rw [lineM_prefix]; simp), lineM_suffix, lineM_contains]
      rfl
    simp only [runL, hs]
    rw [runI_ops _ _ _ _ ms[n].ops [] [] (h _ (List.getElem_mem hl)), take_next ms n hl]
    simp only [List.map_append, List.map_cons, List.map_nil, List.nil_append, rawM]
theorem runS_all (ms : List ModT) (h : ∀ m ∈ ms, ∀ x ∈ m.ops, OkW x) (h30 : ms.length ≤ 30) (h40 : ∀ m ∈ ms, m.ops.length ≤ 40) : ∀ n, n ≤ ms.length → runL stepS (linesP ms n) ([], [], []) = some ((ms.take n).map rawM, (ms.take n).map jmB, (ms.take n).map fun m => m.ops.map flO)
  | 0, _ => by simp [linesP, runL]
  | n + 1, hn => by
    have hl : n < ms.length := by omega
    have ih := runS_all ms h h30 h40 n (by omega)
    rw [linesP, runL_app, ih, List.getElem?_eq_getElem hl]
    dsimp only [Option.bind]
    have hs : stepS ((ms.take n).map rawM, (ms.take n).map jmB, (ms.take n).map fun m => m.ops.map flO) (lineM n ms[n]) = some ((ms.take n).map rawM ++ [⟨[], [], ms[n].cached⟩], (ms.take n).map jmB ++ [jmB ms[n]], ((ms.take n).map fun m => m.ops.map flO) ++ [[]]) := by
      unfold stepS
      rw [lineM_words]
      unfold wordsM
      simp only [List.cons_append, List.nil_append]
      rw [if_pos trivial]
      have hi : Lib.itoa (n : Int) ≠ [99, 97, 99, 104, 101, 100] := by
        intro e
        have := itoa_digit (n := (n : Int)) (by omega) 99 (by rw [e]; decide)
        exact absurd this.2 (by decide)
      unfold addModS jmB
      by_cases hj : ms[n].jumps ≠ [] <;> cases hc : ms[n].cached <;> simp [hj, hi]
    simp only [runL, hs]
    rw [runS_ops _ _ _ _ (by simp; omega) ms[n].ops [] [] (h _ (List.getElem_mem hl)) (by have := h40 _ (List.getElem_mem hl); simp; omega), take_next ms n hl]
    simp only [List.map_append, List.map_cons, List.map_nil, List.nil_append, rawM]
end Go.Proofs.YtckojpaklblnpaaGreatDoor.Th
set_option linter.unusedVariables false
set_option linter.unusedSimpArgs false
set_option maxRecDepth 10000
set_option maxHeartbeats 2000000
namespace Go.Proofs.YtckojpaklblnpaaGreatDoor.Th
open Go Go.RowKit Go.Proofs.YtckojpaklblnpaaGreatDoor.Ev
/-! ### laid out again -/
open Classical in
theorem specB_okW {ms : List ModT} (h : specB ms = true) : ∀ m ∈ ms, ∀ x ∈ m.ops, OkW x := by
  have h0 := specB_len h
  intro m hm x hx
  unfold specB at h
  obtain ⟨q1, q2, q3⟩ := of_decide_eq_true h
  obtain ⟨j, hj, rfl⟩ := List.getElem_of_mem hm
  obtain ⟨k, hk, rfl⟩ := List.getElem_of_mem hx
  have h40 := q2 j hj
  have hop := (q3 j hj).1 k hk
  unfold opOkB at hop
  simp only [Bool.and_eq_true, decide_eq_true_eq] at hop
  obtain ⟨p1, p2, p3, p4, p5, p6, p7, p8, p9, p10⟩ := hop
  simp only [numOkB, Bool.and_eq_true, decide_eq_true_eq] at p1
  unfold refsT at p4
  refine ⟨p1.1, p3, ?_, ?_, p5, ?_⟩
  · split at p4 <;> omega
  · intro hk16
    rw [if_neg hk16] at p4
    omega
  · unfold runB at p10
    simp only [Bool.or_eq_true, decide_eq_true_eq] at p10
    rcases p10 with p10 | p10
    · omega
    · have := p10.1
      omega
theorem bit_flg4 (t i : Bool) : bit (flg t i) 4 = t := by cases t <;> cases i <;> rfl
theorem bit_flg8 (t i : Bool) : bit (flg t i) 8 = i := by cases t <;> cases i <;> rfl
theorem bare_raw (x : OpT) : bareOp (rawOp x) = bareOp x := rfl
theorem tagT_raw (x : OpT) : tagT (rawOp x) = tagT x := tagT_of (bare_raw x)
theorem refOps_raw (ms : List ModT) (r : Int) : refOps (ms.map rawM) r = (refOps ms r).map rawOp := by
  unfold refOps
  rw [List.getElem?_map]
  cases ms[r.toNat]? <;> rfl
theorem bare_of {y z : OpT} (h1 : bareB y = true) (h2 : sameB y z = true) : bareOp z = y := by
  obtain ⟨a, b, c, d, e, f, g, h, i⟩ := y
  unfold bareB at h1
  unfold sameB at h2
  simp only [Bool.and_eq_true, decide_eq_true_eq, Bool.not_eq_true', mk_num, mk_kind, mk_ref, mk_rep, mk_oneof, mk_tag, mk_quick, mk_run, mk_inl] at h1 h2
  obtain ⟨e1, e2, e3, e4⟩ := h1
  obtain ⟨d1, d2, d3, d4, d5⟩ := h2
  have e1 := of_decide_eq_true e1
  have e3 := of_decide_eq_true e3
  have e4 := of_decide_eq_true e4
  have d1 := of_decide_eq_true d1
  have d2 := of_decide_eq_true d2
  have d3 := of_decide_eq_true d3
  have d4 := of_decide_eq_true d4
  have d5 := of_decide_eq_true d5
  unfold bareOp
  rw [d1, d2, d3, d4, d5, e1, e2, e3, e4]
theorem alike_bare {l k : List OpT} (h : alikeP l k) : k.map bareOp = l := by
  apply List.ext_getElem
  · rw [List.length_map]; exact h.1.symm
  · intro j h1 h2
    rw [List.getElem_map]
    have := h.2 j h2 (by simpa using h1)
    exact bare_of this.1 this.2
structure OkL (ms : List ModT) (x : OpT) : Prop where
  tag : x.tag = [] ∨ x.tag = tagT x
  ref : 0 ≤ x.ref ∧ (x.kind = 16 → x.ref ≤ (ms.length : Int) - 1)
  inl : x.inl = [] ∨ x.kind = 16 ∧ alikeP x.inl (refOps ms x.ref)
open Classical in
theorem specB_okL {ms : List ModT} (h : specB ms = true) : ∀ m ∈ ms, ∀ x ∈ m.ops, OkL ms x := by
  intro m hm x hx
  unfold specB at h
  obtain ⟨q1, q2, q3⟩ := of_decide_eq_true h
  obtain ⟨j, hj, rfl⟩ := List.getElem_of_mem hm
  obtain ⟨k, hk, rfl⟩ := List.getElem_of_mem hx
  have hop := (q3 j hj).1 k hk
  unfold opOkB at hop
  simp only [Bool.and_eq_true, decide_eq_true_eq] at hop
  obtain ⟨p1, p2, p3, p4, p5, p6, p7, p8, p9, p10⟩ := hop
  refine ⟨?_, ⟨p4.1, fun hk16 => ?_⟩, ?_⟩
  · unfold tagB at p7
    simpa using p7
  · unfold refsT at p4
    rw [if_pos hk16] at p4
    exact p4.2
  · unfold inlineB alikeD at p9
    simpa using p9
theorem inlOk_raw {ms : List ModT} {x : OpT} (h : OkL ms x) (hi : x.inl ≠ []) : inlOk (ms.map rawM) (rawOp x) = true := by
  rcases h.inl with h1 | ⟨h1, h2⟩
  · exact absurd h1 hi
  unfold inlOk
  rw [refOps_raw]
  have h3 : refOps ms x.ref ≠ [] := fun e => by
    have := h2.1
    rw [e] at this
    exact hi (List.length_eq_zero_iff.mp this)
  have h4 := h.ref.2 h1
  have h5 := h.ref.1
  simp only [Bool.and_eq_true, decide_eq_true_eq, Bool.not_eq_true', decide_eq_false_iff_not, List.length_map]
  refine ⟨h1, ⟨h5, h4⟩, ?_⟩
  show ¬ (refOps ms x.ref).map rawOp = []
  simpa using h3
theorem opL_raw {ms : List ModT} {x : OpT} (h : OkL ms x) : opL (ms.map rawM) (rawOp x) (flO x) = x := by
  unfold opL tagL inlL flO
  rw [bit_flg4, bit_flg8, tagT_raw]
  show OpT.mk x.num x.kind x.ref x.rep x.oneof _ x.quick x.run _ = x
  have e1 : (if decide (0 < x.tag.length) = true then tagT x else []) = x.tag := by
    rcases h.tag with h1 | h1
    · simp [h1]
    · by_cases h2 : 0 < x.tag.length
      · simp only [h2, decide_true, if_true]
        exact h1.symm
      · have : x.tag = [] := List.length_eq_zero_iff.mp (by omega)
        simp [this]
  have e2 : (if decide (0 < x.inl.length) = true then (refOps (ms.map rawM) (rawOp x).ref).map bareOp else []) = x.inl := by
    rcases h.inl with h1 | ⟨h1, h2⟩
    · simp [h1]
    · by_cases h3 : 0 < x.inl.length
      · simp only [h3, decide_true, if_true]
        show (refOps (ms.map rawM) x.ref).map bareOp = x.inl
        rw [refOps_raw, List.map_map]
        exact alike_bare h2
      · have : x.inl = [] := List.length_eq_zero_iff.mp (by omega)
        simp [this]
  rw [e1, e2]
  obtain ⟨a, b, c, d, e, f, g, h, i⟩ := x
  rfl
theorem okOp_raw {st : Bool} {ms : List ModT} {x : OpT} (h : OkL ms x) : okOp st (ms.map rawM) (rawOp x) (flO x) = true := by
  unfold okOp flO
  rw [bit_flg4, bit_flg8, tagT_raw]
  simp only [Bool.and_eq_true, Bool.or_eq_true, Bool.not_eq_true', Bool.and_eq_false_iff, decide_eq_false_iff_not]
  constructor
  · by_cases h2 : 0 < x.tag.length
    · right
      intro e
      rcases h.tag with h1 | h1
      · rw [h1] at h2; simp at h2
      · rw [h1, e] at h2; simp at h2
    · exact .inl (.inr h2)
  · by_cases h3 : 0 < x.inl.length
    · exact .inr (inlOk_raw h fun e => by rw [e] at h3; simp at h3)
    · exact .inl h3
theorem idx_raw (q : Int) : ∀ l : List OpT, idxOf (isNum q) (l.map rawOp) = idxOf (isNum q) l
  | [] => rfl
  | x :: l => by
    have ih := idx_raw q l
    have h1 : isNum q (rawOp x) = isNum q x := rfl
    unfold idxOf at ih ⊢
    rw [List.map_cons, List.findIdx?_cons, List.findIdx?_cons, h1]
    cases isNum q x with
    | true => rfl
    | false =>
      simp only [Bool.false_eq_true, if_false]
      cases h2 : List.findIdx? (isNum q) (l.map rawOp) <;> cases h3 : List.findIdx? (isNum q) l <;> rw [h2, h3] at ih <;> simp at ih ⊢ <;> omega
theorem jumpsT_raw (l : List OpT) : jumpsT (l.map rawOp) = jumpsT l := by
  unfold jumpsT
  have hj : ∀ n, jl (l.map rawOp) n = jl l n := by
    intro n
    unfold jl jmp
    exact List.map_congr_left fun k _ => idx_raw _ l
  rw [List.getLast?_map]
  cases l.getLast? with
  | none => rfl
  | some x =>
    simp only [Option.map_some, hj]
    rfl
theorem asc_raw {l : List OpT} (h : Asc l) : Asc (l.map rawOp) := by
  refine ⟨fun x hx => ?_, fun i j hi hj hij => ?_⟩
  · obtain ⟨y, hy, rfl⟩ := List.mem_map.mp hx
    exact h.1 y hy
  · simp only [List.length_map] at hi hj
    simp only [List.getElem_map]
    exact h.2 i j hi hj hij
theorem jmpF_raw (st : Bool) {l : List OpT} (h : Asc l) : jmpF st (l.map rawOp) = jumpsT l := by
  unfold jmpF
  cases st with
  | true => exact jumpsT_raw l
  | false =>
    simp only [Bool.false_eq_true, if_false]
    rw [jumpsL_eq _ (asc_raw h), jumpsT_raw]
abbrev fls (ms : List ModT) : List Int := ms.map fun m => b2i (jmB m)
abbrev fos (ms : List ModT) : List (List Int) := ms.map fun m => m.ops.map flO
open Classical in
theorem lay_raw (st : Bool) {ms : List ModT} (h : specB ms = true) : okAll st (ms.map rawM) (fls ms) (fos ms) ∧ layL st (ms.map rawM) (fls ms) (fos ms) = ms := by
  have hL := specB_okL h
  have hS := h
  unfold specB at hS
  obtain ⟨q1, q2, q3⟩ := of_decide_eq_true hS
  have key : ∀ k (hk : k < ms.length), okMod st (ms.map rawM) (rawM ms[k]) (b2i (jmB ms[k])) (ms[k].ops.map flO) ∧ modL st (ms.map rawM) (rawM ms[k]) (b2i (jmB ms[k])) (ms[k].ops.map flO) = ms[k] := by
    intro k hk
    have hm := List.getElem_mem hk
    obtain ⟨r1, r2, r3⟩ := q3 k hk
    have hA := (modP_asc r1).1
    have hLk := hL ms[k] hm
    generalize ms[k] = m at *
    constructor
    · refine ⟨fun hb => ?_, fun i h1 h2 => ?_⟩
      · rw [bit_b2i] at hb
        have hj : m.jumps ≠ [] := of_decide_eq_true hb
        rw [show (rawM m).ops = m.ops.map rawOp from rfl, jmpF_raw st hA]
        rcases r3 with r3 | r3
        · exact absurd r3 hj
        · rw [← r3]; exact hj
      · have h1' : i < m.ops.length := by simpa [rawM] using h1
        have e1 : (rawM m).ops[i] = rawOp m.ops[i] := by simp [rawM]
        rw [e1, List.getElem_map]
        exact okOp_raw (hLk _ (List.getElem_mem h1'))
    · unfold modL
      have e1 : opsL (ms.map rawM) (rawM m).ops (m.ops.map flO) = m.ops := by
        unfold opsL
        apply List.ext_getElem
        · simp [rawM]
        · intro i h1 h2
          simp only [List.getElem_zipWith, List.getElem_map, rawM]
          exact opL_raw (hLk _ (List.getElem_mem h2))
      have e2 : (if bit (b2i (jmB m)) 1 = true then jmpF st (rawM m).ops else []) = m.jumps := by
        rw [bit_b2i, show (rawM m).ops = m.ops.map rawOp from rfl, jmpF_raw st hA]
        unfold jmB
        by_cases hj : m.jumps = []
        · simp [hj]
        · rcases r3 with r3 | r3
          · exact absurd r3 hj
          · simp only [ne_eq, hj, not_false_eq_true, decide_true, if_true]
            exact r3.symm
      rw [e1, e2]
      rfl
  constructor
  · intro k hk h1 h2
    simp only [List.length_map] at hk
    simp only [List.getElem_map]
    exact (key k hk).1
  · unfold layL
    apply List.ext_getElem
    · simp
    · intro k h1 h2
      simp only [List.getElem_zipWith, List.getElem_zip, List.getElem_map]
      exact (key k h2).2
theorem print_split {ms : List ModT} (h : specB ms = true) : splitL 10 (prN ms ms.length) = linesP ms ms.length ++ [[]] := by
  have hW := specB_okW h
  rw [prN_unl ms hW ms.length (Nat.le_refl _)]
  exact splitL_unl _ (linesP_miss ms hW ms.length)
theorem parseI_print {ms : List ModT} (h : specB ms = true) (hl : (prN ms ms.length).length ≤ 200000) : parseI (prN ms ms.length) = (ms, true) := by
  have hW := specB_okW h
  have hs := print_split h
  have h30 := specB_len h
  have hr := runI_all ms hW ms.length (Nat.le_refl _)
  rw [List.take_length] at hr
  obtain ⟨k1, k2⟩ := lay_raw true h
  have e1 : ∀ hne, (splitL 10 (prN ms ms.length)).getLast hne = [] := by rw [hs]; intro hne; simp
  have e2 : (splitL 10 (prN ms ms.length)).dropLast = linesP ms ms.length := by rw [hs]; simp
  unfold parseI
  rw [if_neg (by rw [e1]; simp; omega), e2, hr]
  simp only [finI]
  rw [k2, if_pos ⟨by rw [List.length_map]; exact h30, k1, h, rfl⟩]
theorem parseS_print {ms : List ModT} (h : specB ms = true) (hl : (prN ms ms.length).length ≤ 200000) : parseS (prN ms ms.length) = (ms, true) := by
  have hW := specB_okW h
  have hs := print_split h
  obtain ⟨h30, h40⟩ := specB_ok h
  have hr := runS_all ms hW h30 (fun m hm => (h40 m hm).1) ms.length (Nat.le_refl _)
  rw [List.take_length] at hr
  obtain ⟨k1, k2⟩ := lay_raw false h
  have e2 : linesOf (prN ms ms.length) = linesP ms ms.length := linesOf_of hs
  have e3 : (ms.map jmB).map b2i = fls ms := by rw [List.map_map]; rfl
  unfold parseS
  rw [if_neg (by omega), e2, hr]
  simp only [finS]
  rw [e3, k2, if_pos ⟨k1, h, rfl⟩]
theorem parseI_is (t : List UInt8) : parseI t = ([], false) ∨ ∃ ms, specB ms = true ∧ prN ms ms.length = t ∧ t.length ≤ 200000 ∧ parseI t = (ms, true) := by
  by_cases h1 : 200000 < t.length ∨ (splitL 10 t).getLast (splitL_ne 10 t) ≠ []
  · left
    unfold parseI
    rw [if_pos h1]
  · have e : parseI t = finI t (runL stepI (splitL 10 t).dropLast ([], [], [])) := by unfold parseI; rw [if_neg h1]
    rw [e]
    cases runL stepI (splitL 10 t).dropLast ([], [], []) with
    | none => left; rfl
    | some st =>
      obtain ⟨ms, fl, fo⟩ := st
      simp only [finI]
      by_cases h2 : ms.length ≤ 30 ∧ okAll true ms fl fo ∧ specB (layL true ms fl fo) = true ∧ prN (layL true ms fl fo) (layL true ms fl fo).length = t
      · rw [if_pos h2]
        exact .inr ⟨_, h2.2.2.1, h2.2.2.2, by omega, rfl⟩
      · rw [if_neg h2]
        exact .inl rfl
theorem parseS_is (t : List UInt8) : parseS t = ([], false) ∨ ∃ ms, specB ms = true ∧ prN ms ms.length = t ∧ t.length ≤ 200000 ∧ parseS t = (ms, true) := by
  by_cases h1 : 200000 < t.length
  · left
    unfold parseS
    rw [if_pos h1]
  · have e : parseS t = finS t (runL stepS (linesOf t) ([], [], [])) := by unfold parseS; rw [if_neg h1]
    rw [e]
    cases runL stepS (linesOf t) ([], [], []) with
    | none => left; rfl
    | some st =>
      obtain ⟨ms, jb, fo⟩ := st
      simp only [finS]
      by_cases h2 : okAll false ms (jb.map b2i) fo ∧ specB (layL false ms (jb.map b2i) fo) = true ∧ prN (layL false ms (jb.map b2i) fo) (layL false ms (jb.map b2i) fo).length = t
      · rw [if_pos h2]
        exact .inr ⟨_, h2.2.1, h2.2.2, by omega, rfl⟩
      · rw [if_neg h2]
        exact .inl rfl
theorem parse_eq (t : List UInt8) : parseI t = parseS t := by
  rcases parseI_is t with h | ⟨ms, h1, h2, h3, h4⟩
  · rcases parseS_is t with k | ⟨ms, k1, k2, k3, k4⟩
    · rw [h, k]
    · have := parseI_print k1 (by rw [k2]; exact k3)
      rw [k2] at this
      rw [this, k4]
  · have := parseS_print h1 (by rw [h2]; exact h3)
    rw [h2] at this
    rw [h4, this]
theorem parseI_ok (t : List UInt8) : (parseI t).1 = [] ∨ specB (parseI t).1 = true := by
  rcases parseI_is t with h | ⟨ms, h1, h2, h3, h4⟩
  · left; rw [h]
  · right; rw [h4]; exact h1
end Go.Proofs.YtckojpaklblnpaaGreatDoor.Th
set_option linter.unusedVariables false
set_option linter.unusedSimpArgs false
set_option maxRecDepth 10000
set_option maxHeartbeats 2000000
namespace Go.Proofs.YtckojpaklblnpaaGreatDoor.Th
open Go Go.RowKit Go.Proofs.YtckojpaklblnpaaGreatDoor.Ev
def marksI (k : Int) (n : Nat) : List Int := (List.range n).map fun (j : Nat) => k + (j : Int)
@[simp] theorem marksI_length (k : Int) (n : Nat) : (marksI k n).length = n := by simp [marksI]
theorem marksI_succ (k : Int) (n : Nat) : marksI k (n + 1) = marksI k n ++ [k + (n : Int)] := by simp [marksI, List.range_succ]
theorem marksI_get (k : Int) (n i : Nat) (h : i < (marksI k n).length) : (marksI k n)[i] = k + (i : Int) := by simp [marksI]
theorem c_laws_markIntS (vr : Bool) (l : List Int) (k : Int) (h : l.length ≤ 2 ^ 40) (h0 : 0 ≤ k) (h1 : k ≤ 2 ^ 50) : cw f_laws_markIntS [.vw 0 [] 0 1 false, .lit (.int .i64 k)] [{ cells := [.ow (.sl 1 (l.map encI))], var := vr }] = some (.lit (.int .i64 (k + l.length)), [some { cells := [.ow (.sl 1 ((marksI k l.length).map encI))], var := vr }]) := by
  refine callW_run (by simp) fs_laws_markIntS rfl rfl rfl ?_
  simp
  refine Mc.loop_ind (α := Nat × List (List T)) _ _ _ _ (fun x => I_laws_markIntS_0 (.vw 0 [] 0 1 false) (.lit (.int .i64 (k + x.1))) (.lit (.int .i64 x.1)) [(0, { cells := [.ow (.sl 1 x.2)], var := vr })]) (fun x => l.length - x.1) (fun x => x.1 ≤ l.length ∧ x.2.length = l.length ∧ (∀ r ∈ x.2, r.length = 1) ∧ x.2.take x.1 = (marksI k x.1).map encI) (0, l.map encI) _ (by simp) ⟨by simp, by simp, by simp [encI], by simp [marksI]⟩ ?_
  intro ⟨i, rows⟩ ⟨hi, hn, h3, ha⟩ ih
  dsimp only at hi hn ha h3
  by_cases hl : i < l.length
  · have hl' : i < rows.length := by omega
    have hr : rows[i].length = 1 := h3 _ (List.getElem_mem hl')
    have hd : List.drop 1 (List.map C.ow rows[i]) = [] := List.drop_eq_nil_of_le (by simp [hr])
    have hd' : List.drop 1 rows[i] = [] := List.drop_eq_nil_of_le (by simp [hr])
    have hw : IntKind.wrap .i64 (k + (i : Int) + 1) = k + ((i + 1 : Nat) : Int) := by rw [i64_wrap (by omega) (by omega)]; omega
    simp [hl, hl', hn, encI, wrap_add i (by omega), hr, hd, hd', hw]
    refine ih (i + 1, rows.set i (encI ((k + (i : Int))))) _ (by simp [encI]) ⟨by simp; omega, by simpa using hn, set_all h3 (by simp [encI]), ?_⟩ (by simp; omega)
    simp only [take_set _ _ _ hl', marksI_succ, ha, List.map_append, List.map_cons, List.map_nil]
  · have hi' : i = l.length := by omega
    subst hi'
    rw [List.take_of_length_le (by omega)] at ha
    simp [hn, ha]
theorem c_laws_heldIntS (b : Bool) (n : Nat) (k : Int) (h : n ≤ 2 ^ 40) (h0 : 0 ≤ k) (h1 : k ≤ 2 ^ 50) : cw f_laws_heldIntS [.val b (.sl 1 ((marksI k n).map encI)), .lit (.int .i64 k)] [] = some (.lit (.int .i64 (k + n)), []) := by
  refine callW_run (by simp) fs_laws_heldIntS rfl rfl rfl ?_
  simp
  refine Mc.loop_ind (α := Nat) _ _ _ _ (fun i => I_laws_heldIntS_0 (.val b (.sl 1 ((marksI k n).map encI))) (.lit (.int .i64 (k + i))) (.lit (.int .i64 i)) []) (fun i => n - i) (fun i => i ≤ n) 0 _ (by simp) (by simp) ?_
  intro i hi ih
  by_cases hl : i < n
  · have hl' : i < (marksI k n).length := by simpa using hl
    have hw : IntKind.wrap .i64 (k + (i : Int) + 1) = k + ((i + 1 : Nat) : Int) := by rw [i64_wrap (by omega) (by omega)]; omega
    simp [hl, hl', encI, wrap_add i (by omega), hw, marksI_get]
    exact ih (i + 1) _ (by simp) (by omega) (by omega)
  · have hi' : i = n := by omega
    subst hi'
    simp
theorem gat {α : Type} {l : List α} {i : Nat} {x : α} (h : l[i]? = some x) : ∀ h' : i < l.length, l[i] = x := fun h' => by
  rw [List.getElem?_eq_getElem h'] at h
  exact Option.some.inj h
def is3 (k : Int) : Bool := decide (k.tmod 3 = 0)
mutual
def cntOp : OpT → Int
  | .mk _ _ _ _ _ f _ _ i => 7 + (f.length : Int) + cntOps i
def cntOps : List OpT → Int
  | [] => 0
  | x :: r => cntOp x + cntOps r
end
mutual
def mkOp : OpT → Int → OpT
  | .mk _ _ _ _ _ f _ _ i, k => .mk k (k + 1) (k + 2) (is3 (k + 3)) (k + 4) (marks (k + 5) f.length) (is3 (k + 5 + f.length)) (k + 6 + f.length) (mkOps i (k + 7 + f.length))
def mkOps : List OpT → Int → List OpT
  | [], _ => []
  | x :: r, k => mkOp x k :: mkOps r (k + cntOp x)
end
theorem cntOp_eq (x : OpT) : cntOp x = 7 + (x.tag.length : Int) + cntOps x.inl := by cases x; rfl
theorem mkOp_eq (x : OpT) (k : Int) : mkOp x k = .mk k (k + 1) (k + 2) (is3 (k + 3)) (k + 4) (marks (k + 5) x.tag.length) (is3 (k + 5 + x.tag.length)) (k + 6 + x.tag.length) (mkOps x.inl (k + 7 + x.tag.length)) := by cases x; rfl
mutual
theorem cntOp_nn : ∀ x : OpT, 0 ≤ cntOp x
  | .mk _ _ _ _ _ f _ _ i => by have := cntOps_nn i; rw [cntOp]; omega
theorem cntOps_nn : ∀ l : List OpT, 0 ≤ cntOps l
  | [] => by rw [cntOps]; omega
  | x :: r => by have := cntOp_nn x; have := cntOps_nn r; rw [cntOps]; omega
end
theorem cntOps_append : ∀ a b : List OpT, cntOps (a ++ b) = cntOps a + cntOps b
  | [], b => by simp [cntOps]
  | x :: a, b => by simp only [List.cons_append, cntOps, cntOps_append a b]; omega
theorem mkOps_append : ∀ (a b : List OpT) (k : Int), mkOps (a ++ b) k = mkOps a k ++ mkOps b (k + cntOps a)
  | [], b, k => by simp [mkOps, cntOps]
  | x :: a, b, k => by simp only [List.cons_append, mkOps, mkOps_append a b, cntOps]; congr 3; omega
theorem mkOps_len : ∀ (l : List OpT) (k : Int), (mkOps l k).length = l.length
  | [], _ => rfl
  | x :: r, k => by simp [mkOps, mkOps_len r]
theorem cntOps_take (l : List OpT) (i : Nat) (h : i < l.length) : cntOps (l.take (i + 1)) = cntOps (l.take i) + cntOp l[i] := by
  rw [take_next l i h, cntOps_append]; simp [cntOps]
theorem mkOps_take (l : List OpT) (i : Nat) (h : i < l.length) (k : Int) : mkOps (l.take (i + 1)) k = mkOps (l.take i) k ++ [mkOp l[i] (k + cntOps (l.take i))] := by
  rw [take_next l i h, mkOps_append]; simp [mkOps]
theorem cntOps_le (l : List OpT) (i : Nat) : cntOps (l.take i) ≤ cntOps l := by
  have h1 := cntOps_append (l.take i) (l.drop i)
  rw [List.take_append_drop] at h1
  have := cntOps_nn (l.drop i)
  omega
theorem mkOps_get (l : List OpT) (k : Int) (i : Nat) (h : i < l.length) (h' : i < (mkOps l k).length) : (mkOps l k)[i] = mkOp l[i] (k + cntOps (l.take i)) := by
  have h1 := mkOps_append (l.take i) (l.drop i) k
  rw [List.take_append_drop] at h1
  have hl : (mkOps (l.take i) k).length = i := by rw [mkOps_len]; simp; omega
  have hd : l.drop i = l[i] :: l.drop (i + 1) := List.drop_eq_getElem_cons h
  rw [hd, mkOps] at h1
  have h2 : (mkOps l k)[i]? = some (mkOp l[i] (k + cntOps (l.take i))) := by
    rw [h1, List.getElem?_append_right (by omega), hl, Nat.sub_self]
    rfl
  rw [List.getElem?_eq_getElem h'] at h2
  exact Option.some.inj h2
end Go.Proofs.YtckojpaklblnpaaGreatDoor.Th
