/- Parts of the proof, merged: Pr2 Pr3 Pr4 Pq1 Pa5. -/
import Derived.Test.YtckojpaklblnpaaGreatDoorKG1
import Derived.Test.YtckojpaklblnpaaGreatDoorKG2
import Derived.Test.YtckojpaklblnpaaGreatDoorKIr9
import Derived.Lib.AtoiTie
import Derived.Test.YtckojpaklblnpaaGreatDoorKPa4
set_option linter.unusedVariables false
set_option linter.unusedSimpArgs false
set_option maxRecDepth 10000
set_option maxHeartbeats 2000000
namespace Go.Proofs.YtckojpaklblnpaaGreatDoor.Th
open Go Go.RowKit Go.Proofs.YtckojpaklblnpaaGreatDoor.Ev
structure OkN (x : OpT) : Prop where
  num : 0 ≤ x.num ∧ x.num ≤ 2 ^ 40
  ref : 0 ≤ x.ref ∧ x.ref ≤ 2 ^ 40
  oneof : 0 ≤ x.oneof ∧ x.oneof ≤ 2 ^ 40
  run : 0 ≤ x.run ∧ x.run ≤ 2 ^ 40
  kind : 1 ≤ x.kind ∧ x.kind ≤ 17
theorem cut2x (m : Mc) {a b g : Code} {K : List Fr} {σ : F} {x} (h : ∀ c, c = g → m.at (.seq a (.seq b c)) K σ = x) : m.at (.seq a (.seq b g)) K σ = x := h _ rfl
theorem wordT_len (k : Int) : (wordT k).length ≤ 8 := by
  unfold wordT
  split
  · decide
  · split
    · decide
    · have key : ∀ (l : List (List UInt8)) (i : Nat), (∀ x ∈ l, x.length ≤ 8) → (l.getD i []).length ≤ 8 := by
        intro l
        induction l with
        | nil => intro i _; simp
        | cons a r ih =>
          intro i h
          cases i with
          | zero => exact h a (by simp)
          | succ i => simpa using ih i fun x hx => h x (by simp [hx])
      exact key _ _ (by decide)
def tEnd (x : OpT) : List UInt8 := [10]
def tInl (x : OpT) : List UInt8 := (if x.inl ≠ [] then [32, 105, 110, 108, 105, 110, 101] else []) ++ tEnd x
def tRun (x : OpT) : List UInt8 := (if 0 < x.run then [32, 114, 117, 110] ++ Lib.itoa x.run else []) ++ tInl x
def tQuick (x : OpT) : List UInt8 := (if x.quick = true then [32, 113, 117, 105, 99, 107] else []) ++ tRun x
def tTag (x : OpT) : List UInt8 := (if x.tag ≠ [] then [32, 116, 97, 103] else []) ++ tQuick x
def tOneof (x : OpT) : List UInt8 := (if 0 < x.oneof then [32, 111, 110, 101, 111, 102] ++ Lib.itoa x.oneof else []) ++ tTag x
def tRep (x : OpT) : List UInt8 := (if x.rep = true then [32, 114, 101, 112, 101, 97, 116, 101, 100] else []) ++ tOneof x
def tRef (x : OpT) : List UInt8 := (if x.kind = 16 then [32, 64] ++ Lib.itoa x.ref else []) ++ tRep x
def opT (x : OpT) : List UInt8 := [32, 32] ++ Lib.itoa x.num ++ [32] ++ wordT x.kind ++ tRef x
theorem l20_End (b : Bool) (x : OpT) (a : List UInt8) (ha : a.length ≤ 1000) (c : Code) (hc : some c = Tryz.f39.body.map (Code.drop 9)) (σ : F)
    (hσ : σ.keep (E.trim f_spec_l20Op 16) = J_spec_l20Op_16 (.lit (.string (str a))) []) : Mc.at ⟨E, callW E fs, f_spec_l20Op, Tryz.f39.results.toList, 0⟩ c [] σ = some (.lit (.string (str (a ++ tEnd x))), []) := by
  obtain rfl : c = _ := Option.some.inj (hc.trans rfl)
  simp only [Code.drop]
  rw [Mc.at_seq]
  refine (at_region_of _ _ _ _ _ _ hσ).trans ?_
  have h1 : a.length + 1 ≤ 9223372036854775807 := by omega
  simp [h1, tEnd]
theorem l20_Inl (b : Bool) (x : OpT) (hx : OkN x) (a : List UInt8) (ha : a.length ≤ 950) (c : Code) (hc : some c = Tryz.f39.body.map (Code.drop 8)) (σ : F)
    (hσ : σ.keep (E.trim f_spec_l20Op 14) = J_spec_l20Op_14 (.ptr 72 [(0, 0)] 0) (.lit (.string (str a))) [(72, boxO b x)]) : Mc.at ⟨E, callW E fs, f_spec_l20Op, Tryz.f39.results.toList, 0⟩ c [] σ = some (.lit (.string (str (a ++ tInl x))), []) := by
  obtain rfl : c = _ := Option.some.inj (hc.trans rfl)
  simp only [Code.drop]
  refine cut1 _ fun c2 hc2 => ?_
  have T2 : ∀ (p : List UInt8), p.length ≤ 50 → ∀ σ : F, σ.keep (E.trim f_spec_l20Op 16) = J_spec_l20Op_16 (.lit (.string (str (a ++ p)))) [] → Mc.at ⟨E, callW E fs, f_spec_l20Op, Tryz.f39.results.toList, 0⟩ c2 [] σ = some (.lit (.string (str (a ++ p ++ tEnd x))), []) := fun p hp σ hσ => l20_End b x (a ++ p) (by simp; omega) c2 (by rw [hc2]; rfl) σ hσ
  clear hc2 hc
  rw [Mc.at_seq, Mc.at_seq]
  refine (at_region_of _ _ _ _ _ _ hσ).trans ?_
  clear hσ
  unfold tInl
  have h1 : a.length + 7 ≤ 9223372036854775807 := by omega
  by_cases h : x.inl = []
  · have hz : (0 < x.inl.length) = False := by rw [h]; simp
    rw [if_neg (by simp [h])]
    simp [hz]
    refine Eq.trans (T2 [] (by simp) _ (by simp)) (by simp)
  · have hz : (0 < x.inl.length) = True := eq_true (List.length_pos_iff.mpr h)
    rw [if_pos h]
    simp [hz, h1]
    refine Eq.trans (T2 [32, 105, 110, 108, 105, 110, 101] (by simp) _ (by simp)) (by simp)
theorem l20_Run (b : Bool) (x : OpT) (hx : OkN x) (a : List UInt8) (ha : a.length ≤ 900) (c : Code) (hc : some c = Tryz.f39.body.map (Code.drop 7)) (σ : F)
    (hσ : σ.keep (E.trim f_spec_l20Op 12) = J_spec_l20Op_12 (.ptr 72 [(0, 0)] 0) (.lit (.string (str a))) [(72, boxO b x)]) : Mc.at ⟨E, callW E fs, f_spec_l20Op, Tryz.f39.results.toList, 0⟩ c [] σ = some (.lit (.string (str (a ++ tRun x))), []) := by
  obtain rfl : c = _ := Option.some.inj (hc.trans rfl)
  simp only [Code.drop]
  refine cut1 _ fun c2 hc2 => ?_
  have T2 : ∀ (p : List UInt8), p.length ≤ 50 → ∀ σ : F, σ.keep (E.trim f_spec_l20Op 14) = J_spec_l20Op_14 (.ptr 72 [(0, 0)] 0) (.lit (.string (str (a ++ p)))) [(72, boxO b x)] → Mc.at ⟨E, callW E fs, f_spec_l20Op, Tryz.f39.results.toList, 0⟩ c2 [] σ = some (.lit (.string (str (a ++ p ++ tInl x))), []) := fun p hp σ hσ => l20_Inl b x hx (a ++ p) (by simp; omega) c2 (by rw [hc2]; rfl) σ hσ
  clear hc2 hc
  rw [Mc.at_seq, Mc.at_seq]
  refine (at_region_of _ _ _ _ _ _ hσ).trans ?_
  clear hσ
  unfold tRun
  have h1 : a.length + 4 ≤ 9223372036854775807 := by omega
  by_cases h : 0 < x.run
  rotate_left
  · rw [if_neg h]
    simp [h]
    refine Eq.trans (T2 [] (by simp) _ (by simp)) (by simp)
  · rw [if_pos h]
    have hc := c_spec_l4Decimal x.run (by have := hx.run; omega) (by have := hx.run; omega)
    have hl := itoa_len x.run (by have := hx.run; omega) (by have := hx.run; omega)
    have h2 : a.length + (4 + (Lib.itoa x.run).length) ≤ 9223372036854775807 := by omega
    have h3 : a.length + 4 + (Lib.itoa x.run).length ≤ 9223372036854775807 := by omega
    simp only [cw] at hc
    simp [h, h1, h2, h3, hc]
    refine Eq.trans (T2 ([32, 114, 117, 110] ++ Lib.itoa x.run) (by simp; omega) _ (by simp)) (by simp)
theorem l20_Quick (b : Bool) (x : OpT) (hx : OkN x) (a : List UInt8) (ha : a.length ≤ 850) (c : Code) (hc : some c = Tryz.f39.body.map (Code.drop 6)) (σ : F)
    (hσ : σ.keep (E.trim f_spec_l20Op 10) = J_spec_l20Op_10 (.ptr 72 [(0, 0)] 0) (.lit (.string (str a))) [(72, boxO b x)]) : Mc.at ⟨E, callW E fs, f_spec_l20Op, Tryz.f39.results.toList, 0⟩ c [] σ = some (.lit (.string (str (a ++ tQuick x))), []) := by
  obtain rfl : c = _ := Option.some.inj (hc.trans rfl)
  simp only [Code.drop]
  refine cut1 _ fun c2 hc2 => ?_
  have T2 : ∀ (p : List UInt8), p.length ≤ 50 → ∀ σ : F, σ.keep (E.trim f_spec_l20Op 12) = J_spec_l20Op_12 (.ptr 72 [(0, 0)] 0) (.lit (.string (str (a ++ p)))) [(72, boxO b x)] → Mc.at ⟨E, callW E fs, f_spec_l20Op, Tryz.f39.results.toList, 0⟩ c2 [] σ = some (.lit (.string (str (a ++ p ++ tRun x))), []) := fun p hp σ hσ => l20_Run b x hx (a ++ p) (by simp; omega) c2 (by rw [hc2]; rfl) σ hσ
  clear hc2 hc
  rw [Mc.at_seq, Mc.at_seq]
  refine (at_region_of _ _ _ _ _ _ hσ).trans ?_
  clear hσ
  unfold tQuick
  have h1 : a.length + 6 ≤ 9223372036854775807 := by omega
  cases h : x.quick with
  | false =>
    rw [if_neg (by decide)]
    simp [h]
    refine Eq.trans (T2 [] (by simp) _ (by simp [h])) (by simp)
  | true =>
    rw [if_pos rfl]
    simp [h, h1]
    refine Eq.trans (T2 [32, 113, 117, 105, 99, 107] (by simp) _ (by simp [h])) (by simp)
theorem l20_Tag (b : Bool) (x : OpT) (hx : OkN x) (a : List UInt8) (ha : a.length ≤ 800) (c : Code) (hc : some c = Tryz.f39.body.map (Code.drop 5)) (σ : F)
    (hσ : σ.keep (E.trim f_spec_l20Op 8) = J_spec_l20Op_8 (.ptr 72 [(0, 0)] 0) (.lit (.string (str a))) [(72, boxO b x)]) : Mc.at ⟨E, callW E fs, f_spec_l20Op, Tryz.f39.results.toList, 0⟩ c [] σ = some (.lit (.string (str (a ++ tTag x))), []) := by
  obtain rfl : c = _ := Option.some.inj (hc.trans rfl)
  simp only [Code.drop]
  refine cut1 _ fun c2 hc2 => ?_
  have T2 : ∀ (p : List UInt8), p.length ≤ 50 → ∀ σ : F, σ.keep (E.trim f_spec_l20Op 10) = J_spec_l20Op_10 (.ptr 72 [(0, 0)] 0) (.lit (.string (str (a ++ p)))) [(72, boxO b x)] → Mc.at ⟨E, callW E fs, f_spec_l20Op, Tryz.f39.results.toList, 0⟩ c2 [] σ = some (.lit (.string (str (a ++ p ++ tQuick x))), []) := fun p hp σ hσ => l20_Quick b x hx (a ++ p) (by simp; omega) c2 (by rw [hc2]; rfl) σ hσ
  clear hc2 hc
  rw [Mc.at_seq, Mc.at_seq]
  refine (at_region_of _ _ _ _ _ _ hσ).trans ?_
  clear hσ
  unfold tTag
  have h1 : a.length + 4 ≤ 9223372036854775807 := by omega
  by_cases h : x.tag = []
  · have hz : (0 < x.tag.length) = False := by rw [h]; simp
    rw [if_neg (by simp [h])]
    simp [hz]
    refine Eq.trans (T2 [] (by simp) _ (by simp)) (by simp)
  · have hz : (0 < x.tag.length) = True := eq_true (List.length_pos_iff.mpr h)
    rw [if_pos h]
    simp [hz, h1]
    refine Eq.trans (T2 [32, 116, 97, 103] (by simp) _ (by simp)) (by simp)
theorem l20_Oneof (b : Bool) (x : OpT) (hx : OkN x) (a : List UInt8) (ha : a.length ≤ 750) (c : Code) (hc : some c = Tryz.f39.body.map (Code.drop 4)) (σ : F)
    (hσ : σ.keep (E.trim f_spec_l20Op 6) = J_spec_l20Op_6 (.ptr 72 [(0, 0)] 0) (.lit (.string (str a))) [(72, boxO b x)]) : Mc.at ⟨E, callW E fs, f_spec_l20Op, Tryz.f39.results.toList, 0⟩ c [] σ = some (.lit (.string (str (a ++ tOneof x))), []) := by
  obtain rfl : c = _ := Option.some.inj (hc.trans rfl)
  simp only [Code.drop]
  refine cut1 _ fun c2 hc2 => ?_
  have T2 : ∀ (p : List UInt8), p.length ≤ 50 → ∀ σ : F, σ.keep (E.trim f_spec_l20Op 8) = J_spec_l20Op_8 (.ptr 72 [(0, 0)] 0) (.lit (.string (str (a ++ p)))) [(72, boxO b x)] → Mc.at ⟨E, callW E fs, f_spec_l20Op, Tryz.f39.results.toList, 0⟩ c2 [] σ = some (.lit (.string (str (a ++ p ++ tTag x))), []) := fun p hp σ hσ => l20_Tag b x hx (a ++ p) (by simp; omega) c2 (by rw [hc2]; rfl) σ hσ
  clear hc2 hc
  rw [Mc.at_seq, Mc.at_seq]
  refine (at_region_of _ _ _ _ _ _ hσ).trans ?_
  clear hσ
  unfold tOneof
  have h1 : a.length + 6 ≤ 9223372036854775807 := by omega
  by_cases h : 0 < x.oneof
  rotate_left
  · rw [if_neg h]
    simp [h]
    refine Eq.trans (T2 [] (by simp) _ (by simp)) (by simp)
  · rw [if_pos h]
    have hc := c_spec_l4Decimal x.oneof (by have := hx.oneof; omega) (by have := hx.oneof; omega)
    have hl := itoa_len x.oneof (by have := hx.oneof; omega) (by have := hx.oneof; omega)
    have h2 : a.length + (6 + (Lib.itoa x.oneof).length) ≤ 9223372036854775807 := by omega
    have h3 : a.length + 6 + (Lib.itoa x.oneof).length ≤ 9223372036854775807 := by omega
    simp only [cw] at hc
    simp [h, h1, h2, h3, hc]
    refine Eq.trans (T2 ([32, 111, 110, 101, 111, 102] ++ Lib.itoa x.oneof) (by simp; omega) _ (by simp)) (by simp)
theorem l20_Rep (b : Bool) (x : OpT) (hx : OkN x) (a : List UInt8) (ha : a.length ≤ 700) (c : Code) (hc : some c = Tryz.f39.body.map (Code.drop 3)) (σ : F)
    (hσ : σ.keep (E.trim f_spec_l20Op 4) = J_spec_l20Op_4 (.ptr 72 [(0, 0)] 0) (.lit (.string (str a))) [(72, boxO b x)]) : Mc.at ⟨E, callW E fs, f_spec_l20Op, Tryz.f39.results.toList, 0⟩ c [] σ = some (.lit (.string (str (a ++ tRep x))), []) := by
  obtain rfl : c = _ := Option.some.inj (hc.trans rfl)
  simp only [Code.drop]
  refine cut1 _ fun c2 hc2 => ?_
  have T2 : ∀ (p : List UInt8), p.length ≤ 50 → ∀ σ : F, σ.keep (E.trim f_spec_l20Op 6) = J_spec_l20Op_6 (.ptr 72 [(0, 0)] 0) (.lit (.string (str (a ++ p)))) [(72, boxO b x)] → Mc.at ⟨E, callW E fs, f_spec_l20Op, Tryz.f39.results.toList, 0⟩ c2 [] σ = some (.lit (.string (str (a ++ p ++ tOneof x))), []) := fun p hp σ hσ => l20_Oneof b x hx (a ++ p) (by simp; omega) c2 (by rw [hc2]; rfl) σ hσ
  clear hc2 hc
  rw [Mc.at_seq, Mc.at_seq]
  refine (at_region_of _ _ _ _ _ _ hσ).trans ?_
  clear hσ
  unfold tRep
  have h1 : a.length + 9 ≤ 9223372036854775807 := by omega
  cases h : x.rep with
  | false =>
    rw [if_neg (by decide)]
    simp [h]
    refine Eq.trans (T2 [] (by simp) _ (by simp [h])) (by simp)
  | true =>
    rw [if_pos rfl]
    simp [h, h1]
    refine Eq.trans (T2 [32, 114, 101, 112, 101, 97, 116, 101, 100] (by simp) _ (by simp [h])) (by simp)
theorem l20_Ref (b : Bool) (x : OpT) (hx : OkN x) (a : List UInt8) (ha : a.length ≤ 650) (c : Code) (hc : some c = Tryz.f39.body.map (Code.drop 2)) (σ : F)
    (hσ : σ.keep (E.trim f_spec_l20Op 2) = J_spec_l20Op_2 (.ptr 72 [(0, 0)] 0) (.lit (.string (str a))) [(72, boxO b x)]) : Mc.at ⟨E, callW E fs, f_spec_l20Op, Tryz.f39.results.toList, 0⟩ c [] σ = some (.lit (.string (str (a ++ tRef x))), []) := by
  obtain rfl : c = _ := Option.some.inj (hc.trans rfl)
  simp only [Code.drop]
  refine cut1 _ fun c2 hc2 => ?_
  have T2 : ∀ (p : List UInt8), p.length ≤ 50 → ∀ σ : F, σ.keep (E.trim f_spec_l20Op 4) = J_spec_l20Op_4 (.ptr 72 [(0, 0)] 0) (.lit (.string (str (a ++ p)))) [(72, boxO b x)] → Mc.at ⟨E, callW E fs, f_spec_l20Op, Tryz.f39.results.toList, 0⟩ c2 [] σ = some (.lit (.string (str (a ++ p ++ tRep x))), []) := fun p hp σ hσ => l20_Rep b x hx (a ++ p) (by simp; omega) c2 (by rw [hc2]; rfl) σ hσ
  clear hc2 hc
  rw [Mc.at_seq, Mc.at_seq]
  refine (at_region_of _ _ _ _ _ _ hσ).trans ?_
  clear hσ
  unfold tRef
  have h1 : a.length + 2 ≤ 9223372036854775807 := by omega
  by_cases h : x.kind = 16
  rotate_left
  · rw [if_neg h]
    have h := eq_false h
    simp [h]
    refine Eq.trans (T2 [] (by simp) _ (by simp)) (by simp)
  · rw [if_pos h]
    have h := eq_true h
    have hc := c_spec_l4Decimal x.ref (by have := hx.ref; omega) (by have := hx.ref; omega)
    have hl := itoa_len x.ref (by have := hx.ref; omega) (by have := hx.ref; omega)
    have h2 : a.length + (2 + (Lib.itoa x.ref).length) ≤ 9223372036854775807 := by omega
    have h3 : a.length + 2 + (Lib.itoa x.ref).length ≤ 9223372036854775807 := by omega
    simp only [cw] at hc
    simp [h, h1, h2, h3, hc]
    refine Eq.trans (T2 ([32, 64] ++ Lib.itoa x.ref) (by simp; omega) _ (by simp)) (by simp)
theorem c_spec_l20Op (b : Bool) (x : OpT) (hx : OkN x) : cw f_spec_l20Op [.agg b x.enc] [] = some (.lit (.string (str (opT x))), []) := by
  refine callW_run (by simp) fs_spec_l20Op rfl rfl rfl ?_
  refine cut2x _ fun c hc => ?_
  have T := fun a ha => l20_Ref b x hx a ha c (by rw [hc]; rfl)
  clear hc
  have hc1 := c_spec_l4Decimal x.num (by have := hx.num; omega) (by have := hx.num; omega)
  have hl := itoa_len x.num (by have := hx.num; omega) (by have := hx.num; omega)
  have hc2 := c_spec_l20Word x.kind hx.kind
  have hw := wordT_len x.kind
  simp only [cw] at hc1 hc2
  unfold opT
  generalize Lib.itoa x.num = n at hc1 hl ⊢
  generalize wordT x.kind = wd at hc2 hw ⊢
  have h1 : 2 + n.length ≤ 9223372036854775807 := by omega
  have h2 : 2 + n.length + 1 ≤ 9223372036854775807 := by omega
  have h3 : 2 + n.length + 1 + wd.length ≤ 9223372036854775807 := by omega
  have h1' : n.length + 2 ≤ 9223372036854775807 := by omega
  have h2' : n.length + 2 + 1 ≤ 9223372036854775807 := by omega
  have h3' : n.length + 1 + 1 + 1 + wd.length ≤ 9223372036854775807 := by omega
  simp [OpT.enc_eq, hc1, hc2, h1, h2, h3, h1', h2', h3']
  exact ⟨.b (by kernel_rfl), Eq.trans (T (32 :: 32 :: (n ++ 32 :: wd)) (by simp; omega) _ (by simp)) (by simp)⟩
end Go.Proofs.YtckojpaklblnpaaGreatDoor.Th
set_option linter.unusedVariables false
set_option linter.unusedSimpArgs false
set_option maxRecDepth 10000
set_option maxHeartbeats 2000000
namespace Go.Proofs.YtckojpaklblnpaaGreatDoor.Th
open Go Go.RowKit Go.Proofs.YtckojpaklblnpaaGreatDoor.Ev
theorem cut3x (m : Mc) {a b d g : Code} {K : List Fr} {σ : F} {x} (h : ∀ c, c = g → m.at (.seq a (.seq b (.seq d c))) K σ = x) : m.at (.seq a (.seq b (.seq d g))) K σ = x := h _ rfl
abbrev boxW (ws : List (List UInt8)) : O := { cells := [.own 1 [[.ow (.sl 1 (ws.map encW))]]], box := true }
theorem c_impl_opWordsS1 (is : Bool) (w : List UInt8) (ws : List (List UInt8)) (h : ws.length ≤ 1000) : cw f_impl_opWordsS1 [.lit (.bool is), .lit (.string (str w)), .ptr 0 [(0, 0)] 0] [boxW ws] = some (.tup [], [some (boxW (if is then ws ++ [w] else ws))]) := by
  refine callW_run (by simp) fs_impl_opWordsS1 rfl rfl rfl ?_
  cases is with
  | false => simp
  | true =>
    have hb : (ws.length + 1) * 16 ≤ maxBytes := by unfold maxBytes; omega
    simp [hb, encW]
def addW (is : Bool) (w : List UInt8) (ws : List (List UInt8)) : List (List UInt8) := if is then ws ++ [w] else ws
theorem addW_len (is : Bool) (w : List UInt8) (ws : List (List UInt8)) : (addW is w ws).length ≤ ws.length + 1 := by unfold addW; split <;> simp
def restW (x : OpT) (ws : List (List UInt8)) : List (List UInt8) :=
  addW (decide (0 < x.inl.length)) [105, 110, 108, 105, 110, 101] (addW (!decide (x.run = 0)) ([114, 117, 110] ++ Lib.itoa x.run) (addW x.quick [113, 117, 105, 99, 107] (addW (decide (0 < x.tag.length)) [116, 97, 103] (addW (!decide (x.oneof = 0)) ([111, 110, 101, 111, 102] ++ Lib.itoa x.oneof) (addW x.rep [114, 101, 112, 101, 97, 116, 101, 100] ws)))))
theorem opWords_tail (b : Bool) (x : OpT) (hx : OkN x) (ws : List (List UInt8)) (hw : ws.length ≤ 100) (c : Code) (hc : some c = Tryz.f54.body.map (Code.drop 3)) (σ : F)
    (hσ : σ.keep (E.trim f_impl_opWords 8) = J_impl_opWords_8 (.ptr 72 [(0, 0)] 0) (.ptr 88 [(0, 0)] 0) [(72, boxO b x), (88, boxW ws)]) : Mc.at ⟨E, callW E fs, f_impl_opWords, Tryz.f54.results.toList, 0⟩ c [] σ = some (.ov [.ow (.sl 1 ((restW x ws).map encW))] false, []) := by
  obtain rfl : c = _ := Option.some.inj (hc.trans rfl)
  simp only [Code.drop]
  rw [Mc.at_seq]
  refine (at_region_of _ _ _ _ _ _ hσ).trans ?_
  clear hσ
  have i1 := c_strconv_Itoa x.oneof (by have := hx.oneof; omega) (by have := hx.oneof; omega)
  have i2 := c_strconv_Itoa x.run (by have := hx.run; omega) (by have := hx.run; omega)
  have n1 := itoa_len x.oneof (by have := hx.oneof; omega) (by have := hx.oneof; omega)
  have n2 := itoa_len x.run (by have := hx.run; omega) (by have := hx.run; omega)
  have m1 : 5 + (Lib.itoa x.oneof).length ≤ 9223372036854775807 := by omega
  have m2 : 3 + (Lib.itoa x.run).length ≤ 9223372036854775807 := by omega
  have m1' : (Lib.itoa x.oneof).length + 5 ≤ 9223372036854775807 := by omega
  have m2' : (Lib.itoa x.run).length + 3 ≤ 9223372036854775807 := by omega
  unfold restW
  have a1 := c_impl_opWordsS1 x.rep [114, 101, 112, 101, 97, 116, 101, 100] ws (by omega)
  have l1 := addW_len x.rep [114, 101, 112, 101, 97, 116, 101, 100] ws
  rw [show (if x.rep then ws ++ [[114, 101, 112, 101, 97, 116, 101, 100]] else ws) = addW x.rep [114, 101, 112, 101, 97, 116, 101, 100] ws from rfl] at a1
  generalize addW x.rep [114, 101, 112, 101, 97, 116, 101, 100] ws = ws1 at a1 l1 ⊢
  have a2 := c_impl_opWordsS1 (!decide (x.oneof = 0)) ([111, 110, 101, 111, 102] ++ Lib.itoa x.oneof) ws1 (by omega)
  have l2 := addW_len (!decide (x.oneof = 0)) ([111, 110, 101, 111, 102] ++ Lib.itoa x.oneof) ws1
  rw [show (if (!decide (x.oneof = 0)) = true then ws1 ++ [[111, 110, 101, 111, 102] ++ Lib.itoa x.oneof] else ws1) = addW (!decide (x.oneof = 0)) ([111, 110, 101, 111, 102] ++ Lib.itoa x.oneof) ws1 from rfl] at a2
  generalize addW (!decide (x.oneof = 0)) ([111, 110, 101, 111, 102] ++ Lib.itoa x.oneof) ws1 = ws2 at a2 l2 ⊢
  have a3 := c_impl_opWordsS1 (decide (0 < x.tag.length)) [116, 97, 103] ws2 (by omega)
  have l3 := addW_len (decide (0 < x.tag.length)) [116, 97, 103] ws2
  rw [show (if decide (0 < x.tag.length) = true then ws2 ++ [[116, 97, 103]] else ws2) = addW (decide (0 < x.tag.length)) [116, 97, 103] ws2 from rfl] at a3
  generalize addW (decide (0 < x.tag.length)) [116, 97, 103] ws2 = ws3 at a3 l3 ⊢
  have a4 := c_impl_opWordsS1 x.quick [113, 117, 105, 99, 107] ws3 (by omega)
  have l4 := addW_len x.quick [113, 117, 105, 99, 107] ws3
  rw [show (if x.quick = true then ws3 ++ [[113, 117, 105, 99, 107]] else ws3) = addW x.quick [113, 117, 105, 99, 107] ws3 from rfl] at a4
  generalize addW x.quick [113, 117, 105, 99, 107] ws3 = ws4 at a4 l4 ⊢
  have a5 := c_impl_opWordsS1 (!decide (x.run = 0)) ([114, 117, 110] ++ Lib.itoa x.run) ws4 (by omega)
  have l5 := addW_len (!decide (x.run = 0)) ([114, 117, 110] ++ Lib.itoa x.run) ws4
  rw [show (if (!decide (x.run = 0)) = true then ws4 ++ [[114, 117, 110] ++ Lib.itoa x.run] else ws4) = addW (!decide (x.run = 0)) ([114, 117, 110] ++ Lib.itoa x.run) ws4 from rfl] at a5
  generalize addW (!decide (x.run = 0)) ([114, 117, 110] ++ Lib.itoa x.run) ws4 = ws5 at a5 l5 ⊢
  have a6 := c_impl_opWordsS1 (decide (0 < x.inl.length)) [105, 110, 108, 105, 110, 101] ws5 (by omega)
  rw [show (if decide (0 < x.inl.length) = true then ws5 ++ [[105, 110, 108, 105, 110, 101]] else ws5) = addW (decide (0 < x.inl.length)) [105, 110, 108, 105, 110, 101] ws5 from rfl] at a6
  generalize addW (decide (0 < x.inl.length)) [105, 110, 108, 105, 110, 101] ws5 = ws6 at a6 ⊢
  simp only [cw, List.cons_append, List.nil_append] at i1 i2 a1 a2 a3 a4 a5 a6
  simp [i1, i2, m1, m2, m1', m2', a1, a2, a3, a4, a5, a6]
  exact ⟨.b (by kernel_rfl), .b (by kernel_rfl)⟩
def headW (x : OpT) : List (List UInt8) := [Lib.itoa x.num] ++ (if x.kind = 16 then [[109, 101, 115, 115, 97, 103, 101], [64] ++ Lib.itoa x.ref] else [wordT x.kind])
def wordsT (x : OpT) : List (List UInt8) := restW x (headW x)
theorem c_impl_opWords (b : Bool) (x : OpT) (hx : OkN x) : cw f_impl_opWords [.agg b x.enc] [] = some (.ov [.ow (.sl 1 ((wordsT x).map encW))] false, []) := by
  refine callW_run (by simp) fs_impl_opWords rfl rfl rfl ?_
  have hh : (headW x).length ≤ 100 := by unfold headW; split <;> simp
  refine cut3x _ fun c hc => ?_
  have T := fun σ => opWords_tail b x hx (headW x) hh c (by rw [hc]; rfl) σ
  clear hc
  unfold wordsT
  generalize restW x (headW x) = res at T ⊢
  unfold headW at T
  have i1 := c_strconv_Itoa x.num (by have := hx.num; omega) (by have := hx.num; omega)
  have i2 := c_strconv_Itoa x.ref (by have := hx.ref; omega) (by have := hx.ref; omega)
  have n2 := itoa_len x.ref (by have := hx.ref; omega) (by have := hx.ref; omega)
  have m2 : 1 + (Lib.itoa x.ref).length ≤ 9223372036854775807 := by omega
  have m2' : (Lib.itoa x.ref).length + 1 ≤ 9223372036854775807 := by omega
  simp only [cw] at i1 i2
  generalize Lib.itoa x.num = dn at i1 T ⊢
  generalize Lib.itoa x.ref = dr at i2 n2 m2 m2' T ⊢
  by_cases h16 : x.kind = 16
  · have h16' : (x.kind = 16) = True := eq_true h16
    rw [if_pos h16] at T
    simp [OpT.enc_eq, i1, i2, m2, m2', h16', maxBytes]
    exact ⟨.b (by kernel_rfl), T _ (by simp [encW, h16])⟩
  rw [if_neg h16] at T
  have h16' : (x.kind = 16) = False := eq_false h16
  by_cases h17 : x.kind = 17
  · have hw : wordT x.kind = [101, 110, 117, 109] := by rw [h17]; rfl
    have h17' : (x.kind = 17) = True := eq_true h17
    rw [hw] at T
    simp [OpT.enc_eq, i1, h16', h17', maxBytes]
    exact T _ (by simp [encW])
  have hk := hx.kind
  have h17' : (x.kind = 17) = False := eq_false h17
  have hc := c_impl_kindNames
  simp only [cw] at hc
  obtain ⟨j, hj⟩ : ∃ j : Nat, x.kind = (j : Int) + 1 := ⟨(x.kind - 1).toNat, by omega⟩
  have hj15 : j < 15 := by omega
  have hw : IntKind.wrap .i64 (x.kind - 1) = j := by rw [i64_wrap (by omega) (by omega)]; omega
  have hj2 : ¬ ((j : Int) < 0) := by omega
  have hlen : kindList.length = 15 := rfl
  have hget : kindList[j]? = some (kindList.getD j []) := by
    rw [List.getD_eq_getElem?_getD, List.getElem?_eq_getElem (by omega)]; rfl
  have hwt : wordT x.kind = kindList.getD j [] := by
    unfold wordT
    rw [if_neg h16, if_neg h17]
    congr 1
    omega
  rw [hwt] at T
  generalize kindList = kl at hc hlen hget T ⊢
  generalize kl.getD j [] = wd at hget T ⊢
  simp [OpT.enc_eq, i1, h16', h17', hc, hw, hj2, hget, encW, maxBytes]
  exact ⟨.b (by kernel_rfl), T _ (by simp [encW])⟩
end Go.Proofs.YtckojpaklblnpaaGreatDoor.Th
set_option linter.unusedVariables false
set_option linter.unusedSimpArgs false
set_option maxRecDepth 10000
set_option maxHeartbeats 2000000
namespace Go.Proofs.YtckojpaklblnpaaGreatDoor.Th
open Go Go.RowKit Go.Proofs.YtckojpaklblnpaaGreatDoor.Ev
theorem join_snoc (sep : List UInt8) : ∀ (ws : List (List UInt8)) (w : List UInt8), ws ≠ [] → Lib.join (ws ++ [w]) sep = Lib.join ws sep ++ (sep ++ w)
  | [], w, h => absurd rfl h
  | [a], w, _ => by simp [Lib.join, List.intercalate]
  | a :: c :: r, w, _ => by
    have ih := join_snoc sep (c :: r) w (by simp)
    simp only [Lib.join, List.intercalate, List.cons_append, List.intersperse_cons_cons, List.flatten_cons] at ih ⊢
    rw [ih]
    simp
theorem join_addW (is : Bool) (w : List UInt8) (ws : List (List UInt8)) (h : ws ≠ []) : addW is w ws ≠ [] ∧ Lib.join (addW is w ws) [32] = Lib.join ws [32] ++ (if is = true then 32 :: w else []) := by
  unfold addW
  cases is with
  | false => simp [h]
  | true => simp [join_snoc [32] ws w h]
theorem words_join (x : OpT) (hx : OkN x) : [32, 32] ++ Lib.join (wordsT x) [32] ++ [10] = opT x := by
  have h0 : headW x ≠ [] := by unfold headW; simp
  have j0 : Lib.join (headW x) [32] = Lib.itoa x.num ++ [32] ++ wordT x.kind ++ (if x.kind = 16 then [32, 64] ++ Lib.itoa x.ref else []) := by
    unfold headW
    by_cases h16 : x.kind = 16
    · simp [h16, wordT, Lib.join, List.intercalate]
    · simp [h16, Lib.join, List.intercalate]
  unfold wordsT restW opT tRef tRep tOneof tTag tQuick tRun tInl tEnd
  obtain ⟨g1, j1⟩ := join_addW x.rep [114, 101, 112, 101, 97, 116, 101, 100] (headW x) h0
  generalize addW x.rep [114, 101, 112, 101, 97, 116, 101, 100] (headW x) = ws1 at g1 j1 ⊢
  obtain ⟨g2, j2⟩ := join_addW (!decide (x.oneof = 0)) ([111, 110, 101, 111, 102] ++ Lib.itoa x.oneof) ws1 g1
  generalize addW (!decide (x.oneof = 0)) ([111, 110, 101, 111, 102] ++ Lib.itoa x.oneof) ws1 = ws2 at g2 j2 ⊢
  obtain ⟨g3, j3⟩ := join_addW (decide (0 < x.tag.length)) [116, 97, 103] ws2 g2
  generalize addW (decide (0 < x.tag.length)) [116, 97, 103] ws2 = ws3 at g3 j3 ⊢
  obtain ⟨g4, j4⟩ := join_addW x.quick [113, 117, 105, 99, 107] ws3 g3
  generalize addW x.quick [113, 117, 105, 99, 107] ws3 = ws4 at g4 j4 ⊢
  obtain ⟨g5, j5⟩ := join_addW (!decide (x.run = 0)) ([114, 117, 110] ++ Lib.itoa x.run) ws4 g4
  generalize addW (!decide (x.run = 0)) ([114, 117, 110] ++ Lib.itoa x.run) ws4 = ws5 at g5 j5 ⊢
  obtain ⟨g6, j6⟩ := join_addW (decide (0 < x.inl.length)) [105, 110, 108, 105, 110, 101] ws5 g5
  rw [j6, j5, j4, j3, j2, j1, j0]
  have e1 : ((!decide (x.oneof = 0)) = true) = (0 < x.oneof) := by have := hx.oneof; simp; omega
  have e2 : (decide (0 < x.tag.length) = true) = (x.tag ≠ []) := by simp [List.length_pos_iff]
  have e3 : ((!decide (x.run = 0)) = true) = (0 < x.run) := by have := hx.run; simp; omega
  have e4 : (decide (0 < x.inl.length) = true) = (x.inl ≠ []) := by simp [List.length_pos_iff]
  simp only [e1, e2, e3, e4, List.append_assoc, List.cons_append, List.nil_append]
theorem opT_len (x : OpT) (hx : OkN x) : (opT x).length ≤ 300 := by
  have h1 := itoa_len x.num (by have := hx.num; omega) (by have := hx.num; omega)
  have h2 := itoa_len x.ref (by have := hx.ref; omega) (by have := hx.ref; omega)
  have h3 := itoa_len x.oneof (by have := hx.oneof; omega) (by have := hx.oneof; omega)
  have h4 := itoa_len x.run (by have := hx.run; omega) (by have := hx.run; omega)
  have h5 := wordT_len x.kind
  have k1 : (if x.kind = 16 then [32, 64] ++ Lib.itoa x.ref else []).length ≤ 30 := by split <;> simp; omega
  have k2 : (if x.rep = true then [32, 114, 101, 112, 101, 97, 116, 101, 100] else ([] : List UInt8)).length ≤ 30 := by split <;> simp
  have k3 : (if 0 < x.oneof then [32, 111, 110, 101, 111, 102] ++ Lib.itoa x.oneof else []).length ≤ 30 := by split <;> simp; omega
  have k4 : (if x.tag ≠ [] then [32, 116, 97, 103] else ([] : List UInt8)).length ≤ 30 := by split <;> simp
  have k5 : (if x.quick = true then [32, 113, 117, 105, 99, 107] else ([] : List UInt8)).length ≤ 30 := by split <;> simp
  have k6 : (if 0 < x.run then [32, 114, 117, 110] ++ Lib.itoa x.run else []).length ≤ 30 := by split <;> simp; omega
  have k7 : (if x.inl ≠ [] then [32, 105, 110, 108, 105, 110, 101] else ([] : List UInt8)).length ≤ 30 := by split <;> simp
  unfold opT tRef tRep tOneof tTag tQuick tRun tInl tEnd
  simp only [List.length_append, List.length_cons, List.length_nil]
  omega
theorem strsOf_enc : ∀ (ws : List (List UInt8)), strsOf (ws.map encW) = some (ws.map str)
  | [] => rfl
  | w :: r => by
    simp only [List.map_cons, encW, strsOf]
    rw [strsOf_enc r]
    rfl
theorem c_strings_Join (b : Bool) (ws : List (List UInt8)) (sep : List UInt8) (h1 : ws.length ≤ 1000) (h2 : (Lib.join ws sep).length ≤ 1000) : cw f_strings_Join [.val b (.sl 1 (ws.map encW)), .lit (.string (str sep))] [] = some (.lit (.string (str (Lib.join ws sep))), []) := by
  refine callW_ext (g := extJoin) rfl ?_
  simp only [extJoin, strsOf_enc]
  have e : (ws.map str).map (fun x => x.data.toList) = ws := by
    have hf : (fun x : ByteArray => x.data.toList) ∘ str = id := by funext l; exact str_list l
    rw [List.map_map, hf, List.map_id]
  have e2 : joinB (ws.map str) (str sep) = str (Lib.join ws sep) := by unfold joinB; rw [e, str_list]; rfl
  rw [e, str_list, e2, List.length_map, if_pos ⟨by omega, by omega⟩]
end Go.Proofs.YtckojpaklblnpaaGreatDoor.Th
set_option linter.unusedVariables false
set_option linter.unusedSimpArgs false
set_option maxRecDepth 10000
set_option maxHeartbeats 2000000
namespace Go.Proofs.YtckojpaklblnpaaGreatDoor.Th
open Go Go.RowKit Go.Proofs.YtckojpaklblnpaaGreatDoor.Ev
/-! ### numbers -/
theorem dd_digit : ∀ (n u : Nat), u ≤ n → ∀ c ∈ Lib.decDigits u, 48 ≤ c.toNat ∧ c.toNat ≤ 57 := by
  intro n
  induction n with
  | zero =>
    intro u hu c hc
    rw [Lib.decDigits, dif_pos (by omega)] at hc
    simp only [List.mem_singleton] at hc
    have : u = 0 := by omega
    subst this
    subst hc
    decide
  | succ n ih =>
    intro u hu c hc
    by_cases h : u < 10
    · rw [Lib.decDigits, dif_pos h] at hc
      simp only [List.mem_singleton] at hc
      subst hc
      have : (UInt8.ofNat (48 + u)).toNat = 48 + u := by simp; omega
      omega
    · rw [Lib.decDigits, dif_neg h] at hc
      rcases List.mem_append.mp hc with hc | hc
      · exact ih (u / 10) (by omega) c hc
      · simp only [List.mem_singleton] at hc
        subst hc
        have : (UInt8.ofNat (48 + u % 10)).toNat = 48 + u % 10 := by simp; omega
        omega
theorem dd_ne (u : Nat) : Lib.decDigits u ≠ [] := by
  rw [Lib.decDigits]
  split <;> simp
theorem itoa_pos {n : Int} (h : 0 ≤ n) : Lib.itoa n = Lib.decDigits n.toNat := by
  unfold Lib.itoa
  rw [if_neg (by omega)]
theorem itoa_digit {n : Int} (h : 0 ≤ n) : ∀ c ∈ Lib.itoa n, 48 ≤ c.toNat ∧ c.toNat ≤ 57 := by
  rw [itoa_pos h]
  exact dd_digit n.toNat n.toNat (Nat.le_refl _)
theorem itoa_ne {n : Int} (h : 0 ≤ n) : Lib.itoa n ≠ [] := by
  rw [itoa_pos h]
  exact dd_ne _
theorem itoa_miss {n : Int} (h : 0 ≤ n) (c : UInt8) (hc : c.toNat < 48 ∨ 57 < c.toNat) : c ∉ Lib.itoa n := by
  intro hm
  have := itoa_digit h c hm
  omega
theorem decFrom_append : ∀ (a b : List UInt8) (k : Nat), Lib.decFrom k (a ++ b) = (Lib.decFrom k a).bind fun m => Lib.decFrom m b
  | [], b, k => rfl
  | x :: a, b, k => by
    simp only [List.cons_append, Lib.decFrom]
    cases Lib.digitVal x with
    | none => rfl
    | some d => exact decFrom_append a b _
theorem digitVal_of {u : Nat} (h : u < 10) : Lib.digitVal (UInt8.ofNat (48 + u)) = some u := by
  have : (UInt8.ofNat (48 + u)).toNat = 48 + u := by simp; omega
  unfold Lib.digitVal
  rw [this, if_pos ⟨by omega, by omega⟩]
  congr 1
  omega
theorem decFrom_dd : ∀ (n u : Nat), u ≤ n → Lib.decFrom 0 (Lib.decDigits u) = some u := by
  intro n
  induction n with
  | zero =>
    intro u hu
    have : u = 0 := by omega
    subst this
    rw [Lib.decDigits, dif_pos (by omega)]
    rfl
  | succ n ih =>
    intro u hu
    by_cases h : u < 10
    · rw [Lib.decDigits, dif_pos h]
      simp only [Lib.decFrom, digitVal_of h, Nat.zero_mul, Nat.zero_add]
    · rw [Lib.decDigits, dif_neg h, decFrom_append, ih (u / 10) (by omega)]
      simp only [Option.bind, Lib.decFrom, digitVal_of (show u % 10 < 10 by omega)]
      congr 1
      omega
theorem itoa_len10 {n : Int} (h : 0 ≤ n) (h2 : n ≤ 2147483647) : (Lib.itoa n).length ≤ 18 := by
  rw [itoa_pos h, Lib.decDigits_length]
  have key : ∀ (k u : Nat), u < 10 ^ (k + 1) → Lib.nDigits u ≤ k + 1 := by
    intro k
    induction k with
    | zero => intro u hu; rw [Lib.nDigits_small (by simpa using hu)]; omega
    | succ k ih =>
      intro u hu
      by_cases h : u < 10
      · rw [Lib.nDigits_small h]; omega
      · rw [Lib.nDigits_big h]
        have := ih (u / 10) (by rw [Nat.pow_succ] at hu; omega)
        omega
  have := key 9 n.toNat (by omega)
  omega
theorem head_ne {l : List UInt8} {c d : UInt8} {r : List UInt8} (h : ∀ c ∈ l, 48 ≤ c.toNat ∧ c.toNat ≤ 57) (e : l = c :: r) (hd : d.toNat < 48) : c ≠ d := by
  intro hc
  have := h c (by rw [e]; simp)
  rw [hc] at this
  omega
theorem atoi_itoa {n : Int} (h : 0 ≤ n) : Lib.atoi (Lib.itoa n) = some n := by
  have hd := itoa_digit h
  have hv : Lib.decFrom 0 (Lib.itoa n) = some n.toNat := by rw [itoa_pos h]; exact decFrom_dd _ _ (Nat.le_refl _)
  cases hc : Lib.itoa n with
  | nil => exact absurd hc (itoa_ne h)
  | cons c r =>
    have h1 := head_ne hd hc (d := 45) (by decide)
    have h2 := head_ne hd hc (d := 43) (by decide)
    rw [hc] at hv
    unfold Lib.atoi
    simp only [beq_iff_eq, h1, h2, if_false, Lib.decNat, List.isEmpty_cons, Bool.false_eq_true, hv, Option.map_some, Option.some.injEq]
    omega
theorem numB_itoa {n : Int} (h : 0 ≤ n) (h2 : n ≤ 2147483647) : numB (Lib.itoa n) = (n, true) := by
  have hl := itoa_len10 h h2
  unfold numB numIn
  rw [str_list, Lib.atoiAll_short _ hl, atoi_itoa h]
  simp only [Lib.NumEnd.ofOption]
  have e : (⟨(Lib.itoa n).toArray⟩ : ByteArray) = str (Lib.itoa n) := rfl
  simp [e, h, h2]
theorem digs_append : ∀ (a b : List UInt8) (k : Int), digs (a ++ b) k = (digs a k).bind fun m => digs b m
  | [], b, k => rfl
  | x :: a, b, k => by
    simp only [List.cons_append, digs]
    split
    · exact digs_append a b _
    · rfl
theorem dig_of {u : Nat} (h : u < 10) : dig (UInt8.ofNat (48 + u)) = true ∧ ((UInt8.ofNat (48 + u)).toNat : Int) = 48 + u := by
  have : (UInt8.ofNat (48 + u)).toNat = 48 + u := by simp; omega
  refine ⟨?_, by omega⟩
  unfold dig
  simp only [this, Bool.and_eq_true, decide_eq_true_eq]
  omega
theorem digs_dd : ∀ (n u : Nat), u ≤ n → u < 2 ^ 62 → digs (Lib.decDigits u) 0 = some (u : Int) := by
  intro n
  induction n with
  | zero =>
    intro u hu _
    have : u = 0 := by omega
    subst this
    rw [Lib.decDigits, dif_pos (by omega)]
    rfl
  | succ n ih =>
    intro u hu h62
    by_cases h : u < 10
    · rw [Lib.decDigits, dif_pos h]
      simp only [digs, (dig_of h).1, (dig_of h).2, if_true]
      congr 1
      omega
    · rw [Lib.decDigits, dif_neg h, digs_append, ih (u / 10) (by omega) (by omega)]
      have hd := dig_of (show u % 10 < 10 by omega)
      simp only [Option.bind, digs, hd.1, hd.2, if_true]
      congr 1
      omega
theorem l8n_itoa {n : Int} (h : 0 ≤ n) (h2 : n ≤ 2147483647) : l8n (Lib.itoa n) = (n, true) := by
  have hl := itoa_len10 h h2
  have hne := itoa_ne h
  have hd := itoa_digit h
  have hv : digs (Lib.itoa n) 0 = some n := by
    rw [itoa_pos h, digs_dd _ _ (Nat.le_refl _) (by omega)]
    congr 1
    omega
  have hf : from8 (Lib.itoa n) = 0 := by
    unfold from8
    cases hc : Lib.itoa n with
    | nil => rfl
    | cons c r =>
      have h1 := head_ne hd hc (d := 45) (by decide)
      simp [h1]
  have hl0 : (Lib.itoa n).length ≠ 0 := fun h => hne (List.length_eq_zero_iff.mp h)
  unfold l8n
  rw [hf, if_neg (by omega), List.drop_zero, hv]
  unfold fin8
  simp only
  rw [if_neg (by omega), i64_wrap (by omega) (by omega)]
theorem tailT_itoa {n : Int} (p : List UInt8) (h : 0 ≤ n) (h2 : n ≤ 1000) : tailT (p ++ Lib.itoa n) p = n := by
  have hl : (Lib.itoa n).length ≤ 9 := by
    rw [itoa_pos h, Lib.decDigits_length]
    by_cases h10 : n.toNat < 10
    · rw [Lib.nDigits_small h10]; omega
    rw [Lib.nDigits_big h10]
    by_cases h100 : n.toNat / 10 < 10
    · rw [Lib.nDigits_small h100]; omega
    rw [Lib.nDigits_big h100]
    by_cases h1000 : n.toNat / 10 / 10 < 10
    · rw [Lib.nDigits_small h1000]; omega
    rw [Lib.nDigits_big h1000, Lib.nDigits_small (by omega)]
    omega
  have hp : Lib.hasPrefix (p ++ Lib.itoa n) p = true := by
    unfold Lib.hasPrefix
    simp
  have hd : (p ++ Lib.itoa n).drop p.length = Lib.itoa n := by simp
  unfold tailT
  rw [hd, l8n_itoa h (by omega), if_neg (by simp [hp]; omega), if_neg (by simp; omega)]
end Go.Proofs.YtckojpaklblnpaaGreatDoor.Th
set_option linter.unusedVariables false
set_option linter.unusedSimpArgs false
set_option maxRecDepth 10000
set_option maxHeartbeats 2000000
namespace Go.Proofs.YtckojpaklblnpaaGreatDoor.Th
open Go Go.RowKit Go.Proofs.YtckojpaklblnpaaGreatDoor.Ev
def atT (l : List OpT) (k : Int) : Nat → Int
  | 0 => -1
  | i + 1 => if (l[i]?).map OpT.num = some k then i else atT l k i
def jlL (l : List OpT) (n : Nat) : List Int := (List.range n).map fun (k : Nat) => atT l (k : Int) l.length
theorem jlL_zero (l : List OpT) : jlL l 0 = [] := rfl
theorem jlL_succ (l : List OpT) (n : Nat) : jlL l (n + 1) = jlL l n ++ [atT l (n : Int) l.length] := by simp [jlL, List.range_succ]
theorem jlL_len (l : List OpT) (n : Nat) : (jlL l n).length = n := by simp [jlL]
def jumpsL (l : List OpT) : List Int :=
  match l.getLast? with
  | none => []
  | some x => if x.num ≥ 64 then [] else jlL l (x.num + 1).toNat
theorem atT_idx (l : List OpT) (k : Int) (hA : Asc l) : ∀ i, i ≤ l.length → atT l k i = idxOf (isNum k) (l.take i)
  | 0, _ => by simp [atT, idxOf]
  | i + 1, hi => by
    have ih := atT_idx l k hA i (by omega)
    have hl : i < l.length := by omega
    rw [atT, List.getElem?_eq_getElem hl]
    by_cases hq : l[i].num = k
    · rw [if_pos (by simp [hq])]
      rw [idxOf_take_hit (isNum k) l i hl (by simp [isNum, hq]) (fun j h1 h2 => by
        have := hA.2 j i h2 hl h1
        simp [isNum]
        omega)]
    · rw [if_neg (by simpa using hq), idxOf_take_miss (isNum k) l i hl (by simp [isNum, hq]), ih]
theorem jumpsL_eq (l : List OpT) (hA : Asc l) : jumpsL l = jumpsT l := by
  unfold jumpsL jumpsT
  have : ∀ n, jlL l n = jl l n := by
    intro n
    unfold jlL jl
    refine List.map_congr_left fun k _ => ?_
    rw [atT_idx l k hA l.length (Nat.le_refl _), List.take_length]
    rfl
  cases l.getLast? with
  | none => rfl
  | some x => dsimp only; rw [this]
theorem c_impl_jumpsOf0 (b : Bool) (m : ModT) (h : m.ops.length ≤ 2 ^ 40) (hA : ∀ x ∈ m.ops, 0 ≤ x.num) : cw f_impl_jumpsOf [.agg b m.enc] [] = some (if jumpsT m.ops = [] then .nils else .ov [.ow (.sl 1 ((jumpsT m.ops).map encI))] false, []) := by
  refine callW_run (by simp) fs_impl_jumpsOf rfl rfl rfl ?_
  by_cases h0 : m.ops = []
  · simp [ModT.enc, h0, jumpsT]
  have hpos : 0 < m.ops.length := by cases hh : m.ops with | nil => exact absurd hh h0 | cons _ _ => simp
  have hgl : m.ops.getLast? = some (m.ops[m.ops.length - 1]'(by omega)) := by rw [List.getLast?_eq_getElem?, List.getElem?_eq_getElem]
  have h1 := hA _ (List.getElem_mem (show m.ops.length - 1 < m.ops.length by omega))
  have hlt : m.ops.length - 1 < m.ops.length := by omega
  have hlen0 : ¬ m.ops.length = 0 := by omega
  have hw : IntKind.wrap .i64 ((m.ops.length : Int) - 1) = (m.ops.length : Int) - 1 := i64_wrap (by omega) (by omega)
  have hnn : ¬ ((m.ops.length : Int) - 1 < 0) := by omega
  have hto : ((m.ops.length : Int) - 1).toNat = m.ops.length - 1 := by omega
  have hjt : jumpsT m.ops = if (m.ops[m.ops.length - 1]'(by omega)).num ≥ 64 then [] else jl m.ops ((m.ops[m.ops.length - 1]'(by omega)).num + 1).toNat := by unfold jumpsT; rw [hgl]
  generalize hx : m.ops[m.ops.length - 1] = x at h1 hjt
  by_cases h64 : x.num ≥ 64
  · have h64' : 64 ≤ x.num := h64
    rw [if_pos h64] at hjt
    rw [hjt, if_pos rfl]
    simp [ModT.enc, hlen0, hw, hnn, hto, hlt, hx, OpT.enc_eq, h64']
  · have h64' : ¬ 64 ≤ x.num := h64
    rw [if_neg h64] at hjt
    obtain ⟨N, hN⟩ : ∃ N : Nat, x.num = (N : Int) := ⟨x.num.toNat, by omega⟩
    have hN1 : ((N : Int) + 1).toNat = N + 1 := by omega
    rw [hN, hN1] at hjt
    have hne : jumpsT m.ops ≠ [] := by rw [hjt]; intro e; have := congrArg List.length e; rw [jl_len] at this; simp at this
    rw [if_neg hne, hjt]
    rw [hN] at h1 h64 h64'
    have hwN : IntKind.wrap .i64 ((N : Int) + 1) = (N : Int) + 1 := i64_wrap (by omega) (by omega)
    have hNn : ¬ ((N : Int) + 1 < 0) := by omega
    have hNm : (N + 1) * 8 ≤ 140737488355328 := by omega
    have hNp : (0 : Int) ≤ (N : Int) + 1 := by omega
    simp [ModT.enc, hlen0, hw, hnn, hto, hlt, hx, OpT.enc_eq, hN, h64', hwN, hNn, hN1, maxBytes, hNm, hNp]
    refine Mc.loop_ind (α := Nat × List (List T)) _ _ _ _ (fun x => I_impl_jumpsOf_0 (.ptr 72 [(0, 0)] 0) (.vw 96 [] 0 1 false) (.lit (.int .i64 ((N : Int) + 1))) (.lit (.int .i64 x.1)) [(72, boxM b m), (96, { cells := [.ow (.sl 1 x.2)], var := true })]) (fun x => N + 1 - x.1) (fun x => x.1 ≤ N + 1 ∧ x.2.length = N + 1 ∧ (∀ r ∈ x.2, r.length = 1) ∧ x.2.take x.1 = (jl m.ops x.1).map encI) (0, List.replicate (N + 1) [.lit (.int .i64 0)]) _ (by simp) (by simp [jl_zero]) ?_
    intro ⟨i, rows⟩ ⟨hi, hn, h3, ha⟩ ih
    dsimp only at hi hn ha h3
    by_cases hl : i < N + 1
    · have hli : (i : Int) < (N : Int) + 1 := by omega
      have hl' : i < rows.length := by omega
      have hr : rows[i].length = 1 := h3 _ (List.getElem_mem hl')
      have hd : List.drop 1 (List.map C.ow rows[i]) = [] := List.drop_eq_nil_of_le (by simp [hr])
      have hd' : List.drop 1 rows[i] = [] := List.drop_eq_nil_of_le (by simp [hr])
      have hc := c_slices_IndexFunc_Limpl_Op_impl_Op b m.ops f_impl_jumpsOfS1 1 [.ow (.lit (.int .i64 i))] (isNum (i : Int)) (fun b x _ => c_impl_jumpsOfS1 b x i) (by omega)
      have hjs := jl_succ m.ops i
      have hjj : idxOf (isNum (i : Int)) m.ops = jmp m.ops i := rfl
      rw [hjj] at hc
      simp only [cw] at hc
      generalize jmp m.ops i = j at hc hjs
      simp [hli, hl', hr, hd, hd', hc, wrap_add i (by omega)]
      refine ⟨.h [(5, 104)] ⟨⟨by kernel_rfl, by rfl⟩, trivial⟩ (by kernel_rfl), ih (i + 1, rows.set i (encI j)) _ (by simp [encI]) ⟨by simp; omega, by simpa using hn, set_all h3 (by simp [encI]), ?_⟩ (by simp; omega)⟩
      simp only [take_set _ _ _ hl', hjs, ha, List.map_append, List.map_cons, List.map_nil]
    · have hli : ¬ (i : Int) < (N : Int) + 1 := by omega
      have : i = N + 1 := by omega
      subst this
      rw [List.take_of_length_le (by omega)] at ha
      have hli2 : ¬ ((N : Int) + 1 < (N : Int) + 1) := by omega
      simp [hli2, ha]
end Go.Proofs.YtckojpaklblnpaaGreatDoor.Th
