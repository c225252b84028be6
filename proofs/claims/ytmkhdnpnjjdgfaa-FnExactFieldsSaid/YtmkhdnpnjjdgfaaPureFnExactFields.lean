/- The program's Fields returns what the reference's Fields returns, for every slice of bytes; it writes into no argument, and its answer owns its memory. -/
import Derived.Test.YtmkhdnpnjjdgfaaPFnExactFieldsx
import Derived.Test.YtmkhdnpnjjdgfaaReadFnExactFields
import Derived.Test.YtmkhdnpnjjdgfaaHarnFnExactFields
namespace Go.Proofs.Ytmkhdnpnjjdgfaa.Pure
open Go Go.RowKit Go.Proofs.Ytmkhdnpnjjdgfaa.PFnExactFields Go.Proofs.YtmkhdnpnjjdgfaaW.PrintWords Go.Proofs.YtmkhdnpnjjdgfaaW.PrintLast Go.Proofs.Ytmkhdnpnjjdgfaa.Wire Go.Proofs.Ytmkhdnpnjjdgfaa.ReadFnExactFields Go.Proofs.Ytmkhdnpnjjdgfaa.HarnFnExactFields

/-- The numbers of a row of fields: so many rounds at most. -/
def fieldsFrom (l : List Int) : Nat → List Int → Int → List Int × Int × Int
  | 0, out, _ => (out, 0, 0)
  | d + 1, out, at_ =>
    if at_ < l.length then
      (if (getTag l at_).2.2.2 = 0 then
        (if (skip l (getTag l at_).2.2.1 (getTag l at_).2.1).2 = 0 then fieldsFrom l d (out ++ [(getTag l at_).1]) (skip l (getTag l at_).2.2.1 (getTag l at_).2.1).1
         else ([], 49 + (skip l (getTag l at_).2.2.1 (getTag l at_).2.1).2, (getTag l at_).2.2.1))
       else ([], 49 + (getTag l at_).2.2.2, at_))
    else (out, 0, 0)

theorem fieldsFrom_length (l : List Int) : ∀ (d : Nat) (out : List Int) (a : Int), (fieldsFrom l d out a).1.length ≤ out.length + d := by
  intro d
  induction d with
  | zero => intro out a; simp [fieldsFrom]
  | succ d ih =>
    intro out a
    unfold fieldsFrom
    split
    · split
      · split
        · have := ih (out ++ [(getTag l a).1]) (skip l (getTag l a).2.2.1 (getTag l a).2.1).1
          simp at this; omega
        · simp
      · simp
    · simp

theorem tagCode_f (c : Int) (h0 : 1 ≤ c) (h1 : c ≤ 5) : impl_tagCode.f c = some (49 + c) := by
  unfold impl_tagCode.f
  rw [Option.bind_some, if_pos (by omega), if_pos (by simp; omega)]
  obtain rfl | rfl | rfl | rfl | rfl : c = 1 ∨ c = 2 ∨ c = 3 ∨ c = 4 ∨ c = 5 := by omega
  all_goals rfl

theorem l7Code_f (c : Int) (h0 : 1 ≤ c) (h1 : c ≤ 5) : spec_l7Code.f c = some (49 + c) := by
  unfold spec_l7Code.f
  rw [wrap64_id (x := 50 + c) (by omega) (by omega), wrap64_id (by omega) (by omega)]
  congr 1
  omega

theorem iFields_l0 (l : List Int) (hl : IsB l) (hn : l.length ≤ 1048576) : ∀ (d k : Nat) (out : List Int) (a : Int), 0 ≤ a → (l.length : Int) - a ≤ d → d + out.length ≤ 1048576 → d + 22 ≤ k → impl_Fields.l0 k l out a = some (fieldsFrom l d out a) := by
  intro d
  induction d with
  | zero =>
    intro k out a ha hd ho hk
    obtain ⟨k, rfl⟩ : ∃ m, k = m + 1 := ⟨k - 1, by omega⟩
    simp only [impl_Fields.l0, fieldsFrom]
    rw [if_neg (by omega)]
  | succ d ih =>
    intro k out a ha hd ho hk
    obtain ⟨k, rfl⟩ : ∃ m, k = m + 1 := ⟨k - 1, by omega⟩
    have ht := getTag_tells l a
    simp only [impl_Fields.l0, fieldsFrom]
    by_cases h : a < (l.length : Int)
    · rw [if_pos h, if_pos h, iGetTag_f l hl (by omega) a k (by omega), Option.bind_some]
      generalize getTag l a = t at *
      by_cases hc : t.2.2.2 = 0
      · have hs := skip_tells l t.2.2.1 t.2.1
        rw [if_pos hc, if_pos hc, iSkip_f l hl (by omega) _ _ k (by omega), Option.bind_some]
        generalize skip l t.2.2.1 t.2.1 = s at *
        by_cases hs0 : s.2 = 0
        · rw [if_pos hs0, if_pos hs0, if_pos (by omega)]
          exact ih k _ _ (by omega) (by omega) (by simp; omega) (by omega)
        · rw [if_neg hs0, if_neg hs0, tagCode_f _ (by omega) (by omega), Option.bind_some]
      · rw [if_neg hc, if_neg hc, tagCode_f _ (by omega) (by omega), Option.bind_some]
    · rw [if_neg h, if_neg h]

theorem sFields_l0 (l : List Int) (hl : IsB l) (hn : l.length ≤ 1048576) : ∀ (d k : Nat) (out : List Int) (a : Int), 0 ≤ a → (l.length : Int) - a ≤ d → d + out.length ≤ 1048576 → d + 22 ≤ k → spec_Fields.l0 k l out a = some (fieldsFrom l d out a) := by
  intro d
  induction d with
  | zero =>
    intro k out a ha hd ho hk
    obtain ⟨k, rfl⟩ : ∃ m, k = m + 1 := ⟨k - 1, by omega⟩
    simp only [spec_Fields.l0, fieldsFrom]
    rw [if_neg (by omega)]
  | succ d ih =>
    intro k out a ha hd ho hk
    obtain ⟨k, rfl⟩ : ∃ m, k = m + 1 := ⟨k - 1, by omega⟩
    have ht := getTag_tells l a
    simp only [spec_Fields.l0, fieldsFrom]
    by_cases h : a < (l.length : Int)
    · rw [if_pos h, if_pos h, sGetTag_f l hl (by omega) a k (by omega), Option.bind_some]
      generalize getTag l a = t at *
      by_cases hc : t.2.2.2 = 0
      · have hs := skip_tells l t.2.2.1 t.2.1
        rw [if_pos hc, if_pos hc, sSkip_f l hl (by omega) _ _ (by omega) k (by omega), Option.bind_some]
        generalize skip l t.2.2.1 t.2.1 = s at *
        by_cases hs0 : s.2 = 0
        · rw [if_pos hs0, if_pos hs0, if_pos (by omega)]
          exact ih k _ _ (by omega) (by omega) (by simp; omega) (by omega)
        · rw [if_neg hs0, if_neg hs0, l7Code_f _ (by omega) (by omega), Option.bind_some]
      · rw [if_neg hc, if_neg hc, l7Code_f _ (by omega) (by omega), Option.bind_some]
    · rw [if_neg h, if_neg h]

theorem law_true (k n1 n2 : Nat) (l o : List Int) (p c : Int) (h1 : laws_toByteS.f (k + 3) l = some l) (h2 : spec_Fields.f (k + 3) l = some (o, p, c)) (h3 : impl_Fields.f (k + 3) l = some (o, p, c)) (h4 : laws_eqIntS.f (k + 3) o o = some true)
    (h1' : laws_toByteS.f (k + 2) l = some l) (h5 : laws_eqByteS.f (k + 2) l l = some true) (y : List Int) (h6 : laws_markByteS.f (k + 2) l 1 = some (1 + (n1 : Int), y)) (h4' : laws_eqIntS.f (k + 2) o o = some true)
    (h1'' : laws_toByteS.f (k + 1) l = some l) (h3'' : impl_Fields.f (k + 1) l = some (o, p, c)) (h4'' : laws_eqIntS.f (k + 1) o o = some true) (z : List Int) (h7 : laws_markIntS.f (k + 1) o 1 = some (1 + (n2 : Int), z)) (h8 : laws_heldIntS.f (k + 1) z 1 = some (1 + (n2 : Int))) (h8' : laws_heldIntS.f k z 1 = some (1 + (n2 : Int))) (hl : ¬((l.length : Int) > 1048576)) :
    laws_FnExactFields.f (k + 3) l = some true := by
  unfold laws_FnExactFields.f
  rw [if_neg hl, h1, Option.bind_some, h2, Option.bind_some, Option.bind_some, h3, Option.bind_some, h4, Option.bind_some]
  simp only [bne_self_eq_false, if_true, laws_FnExactFields.j0, Bool.false_eq_true, if_false]
  rw [h1', Option.bind_some, h5, Option.bind_some]
  simp only [if_true]
  rw [h6, Option.bind_some, if_neg (by omega), h4', Option.bind_some]
  simp only [if_true, laws_FnExactFields.j1, Bool.false_eq_true, if_false]
  rw [h7, Option.bind_some, h8, Option.bind_some, if_neg (by omega)]
  simp only [if_true]
  rw [h1'', Option.bind_some, h3'', Option.bind_some, h4'', Option.bind_some]
  simp only [if_true, laws_FnExactFields.j2, bne_self_eq_false, Bool.false_eq_true, if_false]
  rw [h8', Option.bind_some, if_neg (by omega)]
  simp only [if_true]

theorem FnExactFields : laws_FnExactFields.Pure := by
  intro l hm hl hw
  have hB := isB_of_wf hw
  clear hm hl hw
  by_cases h : (l.length : Int) > 1048576
  · exact ⟨0, by unfold laws_FnExactFields.f; rw [if_pos h]⟩
  have hn : l.length ≤ 1048576 := by omega
  have hlen := fieldsFrom_length l l.length [] 0
  simp only [List.length_nil, Nat.zero_add] at hlen
  obtain ⟨k, hk⟩ : ∃ k, 1048576 + 100 = k := ⟨_, rfl⟩
  have e1 : ∀ j, k ≤ j → laws_toByteS.f j l = some l := fun j hj => toByteS_f l (by omega) j (by omega)
  have e2 : ∀ j, k ≤ j → spec_Fields.f j l = some (fieldsFrom l l.length [] 0) := fun j hj => by
    unfold spec_Fields.f
    exact sFields_l0 l hB hn l.length j [] 0 (by omega) (by omega) (by simp; omega) (by omega)
  have e3 : ∀ j, k ≤ j → impl_Fields.f j l = some (fieldsFrom l l.length [] 0) := fun j hj => by
    unfold impl_Fields.f
    exact iFields_l0 l hB hn l.length j [] 0 (by omega) (by omega) (by simp; omega) (by omega)
  generalize fieldsFrom l l.length [] 0 = r at *
  obtain ⟨o, p, c⟩ := r
  simp only at hlen
  have e4 : ∀ j, k ≤ j → laws_eqIntS.f j o o = some true := fun j hj => eqIntS_f o (by omega) j (by omega)
  have e5 : ∀ j, k ≤ j → laws_eqByteS.f j l l = some true := fun j hj => eqByteS_f l (by omega) j (by omega)
  obtain ⟨y, hy, _, _⟩ := markByteS_f l (by omega) 1 (by omega) (by omega) (k + 2) (by omega)
  obtain ⟨z, hz, hz1, hz2⟩ := markIntS_f o (by omega) 1 (by omega) (by omega) (k + 1) (by omega)
  have e8 : ∀ j, k ≤ j → laws_heldIntS.f j z 1 = some (1 + (o.length : Int)) := fun j hj => by
    have := heldIntS_f z (by omega) 1 (by omega) (by omega) (by intro i hi; exact hz2 i (by omega)) j (by omega)
    rw [this, hz1]
  exact ⟨k + 3, law_true k l.length o.length l o p c (e1 _ (by omega)) (e2 _ (by omega)) (e3 _ (by omega)) (e4 _ (by omega)) (e1 _ (by omega)) (e5 _ (by omega)) y hy (e4 _ (by omega)) (e1 _ (by omega)) (e3 _ (by omega)) (e4 _ (by omega)) z hz (e8 _ (by omega)) (e8 _ (by omega)) h⟩

end Go.Proofs.Ytmkhdnpnjjdgfaa.Pure
