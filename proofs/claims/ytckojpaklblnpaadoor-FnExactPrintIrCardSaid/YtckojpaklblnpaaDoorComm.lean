/- Plain lemmas that many functions want. -/
import Derived.Test.YtckojpaklblnpaaDoorTbl
import Derived.Test.YtckojpaklblnpaaDoorSimp
set_option linter.unusedVariables false
set_option linter.unusedSimpArgs false
namespace Go.Proofs.YtckojpaklblnpaaDoor.Th
open Go Go.RowKit Go.Proofs.YtckojpaklblnpaaDoor.Ev

noncomputable abbrev cw : Rn := callW E fs

theorem take_set {α : Type} (rows : List α) (i : Nat) (x : α) (h : i < rows.length) : (rows.set i x).take (i + 1) = rows.take i ++ [x] := by
  rw [List.take_succ_eq_append_getElem (by simpa using h)]
  simp [List.take_set_of_le]

theorem set_all {α : Type} {rows : List α} {p : α → Prop} (h : ∀ r ∈ rows, p r) {i : Nat} {x : α} (hx : p x) : ∀ r ∈ rows.set i x, p r := by
  intro r hr
  rcases List.mem_or_eq_of_mem_set hr with h1 | h1
  · exact h r h1
  · exact h1 ▸ hx

theorem take_next {α : Type} (l : List α) (i : Nat) (h : i < l.length) : l.take (i + 1) = l.take i ++ [l[i]] := List.take_succ_eq_append_getElem h

theorem wrap_add (i : Nat) (h : i < 2 ^ 62) : IntKind.wrap .i64 ((i : Int) + 1) = (i : Int) + 1 := i64_wrap (by omega) (by omega)

/-- The place of the first that is so. -/
def idxOf {α : Type} (p : α → Bool) (l : List α) : Int := match l.findIdx? p with | some i => i | none => -1

theorem idxOf_none {α : Type} (p : α → Bool) (l : List α) (h : ∀ j (h : j < l.length), p l[j] = false) : idxOf p l = -1 := by
  unfold idxOf
  have : l.findIdx? p = none := by
    rw [List.findIdx?_eq_none_iff]
    intro x hx
    obtain ⟨j, hj, rfl⟩ := List.getElem_of_mem hx
    exact h j hj
  rw [this]

theorem idxOf_at {α : Type} (p : α → Bool) (l : List α) (i : Nat) (hi : i < l.length) (hp : p l[i] = true) (h : ∀ j (_ : j < i) (h' : j < l.length), p l[j] = false) : idxOf p l = i := by
  unfold idxOf
  have : l.findIdx? p = some i := by
    rw [List.findIdx?_eq_some_iff_getElem]
    exact ⟨hi, hp, fun j hj => by simp [h j hj (by omega)]⟩
  rw [this]

/-- Sizes of all of a list, taken from what is left; -1: too much. -/
def szL {α : Type} (f : α → Int → Int) : List α → Int → Int
  | [], k => k
  | a :: r, k => if f a k < 0 then -1 else szL f r (f a k)

def szF {α : Type} (a : List α) (k : Int) : Int := if k - a.length < 0 then -1 else k - a.length

theorem szF_le {α : Type} (a : List α) (k : Int) (h : 0 ≤ k) : szF a k ≤ k := by unfold szF; split <;> omega

theorem szL_all {α : Type} {f : α → Int → Int} (hf : ∀ a k, f a k ≤ k ∨ f a k < 0) {p : α → Int → Prop} (hp : ∀ a k, 0 ≤ f a k → p a k) (hm : ∀ a k k', k ≤ k' → p a k → p a k') : ∀ (l : List α) (k : Int), 0 ≤ szL f l k → ∀ a ∈ l, p a k
  | [], _, _, _, h => by cases h
  | a :: r, k, h, x, hx => by
    rw [szL] at h
    split at h
    · omega
    · rename_i hn
      rcases List.mem_cons.mp hx with rfl | hx
      · exact hp _ _ (by omega)
      · have h1 := szL_all hf hp hm r _ h x hx
        rcases hf a k with h2 | h2
        · exact hm _ _ _ h2 h1
        · omega

def encI (n : Int) : List T := [.lit (.int .i64 n)]
def encB (n : Int) : List T := [.lit (.int .u8 n)]
def encS {α : Type} (sz : Nat) (enc : α → List T) (l : List α) : List T := [.sl sz (l.map enc)]

theorem idxOf_any {α : Type} (p : α → Bool) (l : List α) : decide (idxOf p l ≥ 0) = l.any p := by
  unfold idxOf
  cases h : l.findIdx? p with
  | none =>
    rw [List.findIdx?_eq_none_iff] at h
    have : l.any p = false := by simpa using h
    simp [this]
  | some i =>
    obtain ⟨hi, hp, _⟩ := List.findIdx?_eq_some_iff_getElem.mp h
    have : l.any p = true := List.any_eq_true.mpr ⟨l[i], List.getElem_mem hi, hp⟩
    simp [this]

end Go.Proofs.YtckojpaklblnpaaDoor.Th
