/- Texts: an Op. -/
import Derived.Test.YtckojpaklblnpaaDoorComm
import Derived.Test.YtckojpaklblnpaaDoorPr1
import Derived.Test.YtckojpaklblnpaaDoorIr9
set_option linter.unusedVariables false
set_option linter.unusedSimpArgs false
set_option maxRecDepth 10000
set_option maxHeartbeats 2000000
namespace Go.Proofs.YtckojpaklblnpaaDoor.Th
open Go Go.RowKit Go.Proofs.YtckojpaklblnpaaDoor.Ev

structure OkN (x : OpT) : Prop where
  num : 0 ≤ x.num ∧ x.num ≤ 2 ^ 40
  ref : 0 ≤ x.ref ∧ x.ref ≤ 2 ^ 40
  oneof : 0 ≤ x.oneof ∧ x.oneof ≤ 2 ^ 40
  run : 0 ≤ x.run ∧ x.run ≤ 2 ^ 40
  kind : 1 ≤ x.kind ∧ x.kind ≤ 17

theorem cut2x (m : Mc) {a b g : Code} {K : List Fr} {σ : F} {x} (h : ∀ c, c = g → m.at (.seq a (.seq b c)) K σ = x) : m.at (.seq a (.seq b g)) K σ = x := h _ rfl
theorem wordT_len (k : Int) : (wordT k).length ≤ 8 := by
  unfold wordT
  split
  · decide
  · split
    · decide
    · have key : ∀ (l : List (List UInt8)) (i : Nat), (∀ x ∈ l, x.length ≤ 8) → (l.getD i []).length ≤ 8 := by
        intro l
        induction l with
        | nil => intro i _; simp
        | cons a r ih =>
          intro i h
          cases i with
          | zero => exact h a (by simp)
          | succ i => simpa using ih i fun x hx => h x (by simp [hx])
      exact key _ _ (by decide)

def tEnd (x : OpT) : List UInt8 := [10]
def tInl (x : OpT) : List UInt8 := (if x.inl ≠ [] then [32, 105, 110, 108, 105, 110, 101] else []) ++ tEnd x
def tRun (x : OpT) : List UInt8 := (if 0 < x.run then [32, 114, 117, 110] ++ Lib.itoa x.run else []) ++ tInl x
def tQuick (x : OpT) : List UInt8 := (if x.quick = true then [32, 113, 117, 105, 99, 107] else []) ++ tRun x
def tTag (x : OpT) : List UInt8 := (if x.tag ≠ [] then [32, 116, 97, 103] else []) ++ tQuick x
def tOneof (x : OpT) : List UInt8 := (if 0 < x.oneof then [32, 111, 110, 101, 111, 102] ++ Lib.itoa x.oneof else []) ++ tTag x
def tRep (x : OpT) : List UInt8 := (if x.rep = true then [32, 114, 101, 112, 101, 97, 116, 101, 100] else []) ++ tOneof x
def tRef (x : OpT) : List UInt8 := (if x.kind = 16 then [32, 64] ++ Lib.itoa x.ref else []) ++ tRep x
def opT (x : OpT) : List UInt8 := [32, 32] ++ Lib.itoa x.num ++ [32] ++ wordT x.kind ++ tRef x

theorem l20_End (b : Bool) (x : OpT) (a : List UInt8) (ha : a.length ≤ 1000) (c : Code) (hc : some c = Tryd.f12.body.map (Code.drop 9)) (σ : F)
    (hσ : σ.keep (E.trim f_spec_l20Op 16) = J_spec_l20Op_16 (.lit (.string (str a))) []) : Mc.at ⟨E, callW E fs, f_spec_l20Op, Tryd.f12.results.toList, 0⟩ c [] σ = some (.lit (.string (str (a ++ tEnd x))), []) := by
  obtain rfl : c = _ := Option.some.inj (hc.trans rfl)
  simp only [Code.drop]
  rw [Mc.at_seq]
  refine (at_region_of _ _ _ _ _ _ hσ).trans ?_
  have h1 : a.length + 1 ≤ 9223372036854775807 := by omega
  simp [h1, tEnd]

theorem l20_Inl (b : Bool) (x : OpT) (hx : OkN x) (a : List UInt8) (ha : a.length ≤ 950) (c : Code) (hc : some c = Tryd.f12.body.map (Code.drop 8)) (σ : F)
    (hσ : σ.keep (E.trim f_spec_l20Op 14) = J_spec_l20Op_14 (.ptr 72 [(0, 0)] 0) (.lit (.string (str a))) [(72, boxO b x)]) : Mc.at ⟨E, callW E fs, f_spec_l20Op, Tryd.f12.results.toList, 0⟩ c [] σ = some (.lit (.string (str (a ++ tInl x))), []) := by
  obtain rfl : c = _ := Option.some.inj (hc.trans rfl)
  simp only [Code.drop]
  refine cut1 _ fun c2 hc2 => ?_
  have T2 : ∀ (p : List UInt8), p.length ≤ 50 → ∀ σ : F, σ.keep (E.trim f_spec_l20Op 16) = J_spec_l20Op_16 (.lit (.string (str (a ++ p)))) [] → Mc.at ⟨E, callW E fs, f_spec_l20Op, Tryd.f12.results.toList, 0⟩ c2 [] σ = some (.lit (.string (str (a ++ p ++ tEnd x))), []) := fun p hp σ hσ => l20_End b x (a ++ p) (by simp; omega) c2 (by rw [hc2]; rfl) σ hσ
  clear hc2 hc
  rw [Mc.at_seq, Mc.at_seq]
  refine (at_region_of _ _ _ _ _ _ hσ).trans ?_
  clear hσ
  unfold tInl
  have h1 : a.length + 7 ≤ 9223372036854775807 := by omega
  by_cases h : x.inl = []
  · have hz : (0 < x.inl.length) = False := by rw [h]; simp
    rw [if_neg (by simp [h])]
    simp [hz]
    refine Eq.trans (T2 [] (by simp) _ (by simp)) (by simp)
  · have hz : (0 < x.inl.length) = True := eq_true (List.length_pos_iff.mpr h)
    rw [if_pos h]
    simp [hz, h1]
    refine Eq.trans (T2 [32, 105, 110, 108, 105, 110, 101] (by simp) _ (by simp)) (by simp)

theorem l20_Run (b : Bool) (x : OpT) (hx : OkN x) (a : List UInt8) (ha : a.length ≤ 900) (c : Code) (hc : some c = Tryd.f12.body.map (Code.drop 7)) (σ : F)
    (hσ : σ.keep (E.trim f_spec_l20Op 12) = J_spec_l20Op_12 (.ptr 72 [(0, 0)] 0) (.lit (.string (str a))) [(72, boxO b x)]) : Mc.at ⟨E, callW E fs, f_spec_l20Op, Tryd.f12.results.toList, 0⟩ c [] σ = some (.lit (.string (str (a ++ tRun x))), []) := by
  obtain rfl : c = _ := Option.some.inj (hc.trans rfl)
  simp only [Code.drop]
  refine cut1 _ fun c2 hc2 => ?_
  have T2 : ∀ (p : List UInt8), p.length ≤ 50 → ∀ σ : F, σ.keep (E.trim f_spec_l20Op 14) = J_spec_l20Op_14 (.ptr 72 [(0, 0)] 0) (.lit (.string (str (a ++ p)))) [(72, boxO b x)] → Mc.at ⟨E, callW E fs, f_spec_l20Op, Tryd.f12.results.toList, 0⟩ c2 [] σ = some (.lit (.string (str (a ++ p ++ tInl x))), []) := fun p hp σ hσ => l20_Inl b x hx (a ++ p) (by simp; omega) c2 (by rw [hc2]; rfl) σ hσ
  clear hc2 hc
  rw [Mc.at_seq, Mc.at_seq]
  refine (at_region_of _ _ _ _ _ _ hσ).trans ?_
  clear hσ
  unfold tRun
  have h1 : a.length + 4 ≤ 9223372036854775807 := by omega
  by_cases h : 0 < x.run
  rotate_left
  · rw [if_neg h]
    simp [h]
    refine Eq.trans (T2 [] (by simp) _ (by simp)) (by simp)
  · rw [if_pos h]
    have hc := c_spec_l4Decimal x.run (by have := hx.run; omega) (by have := hx.run; omega)
    have hl := itoa_len x.run (by have := hx.run; omega) (by have := hx.run; omega)
    have h2 : a.length + (4 + (Lib.itoa x.run).length) ≤ 9223372036854775807 := by omega
    have h3 : a.length + 4 + (Lib.itoa x.run).length ≤ 9223372036854775807 := by omega
    simp only [cw] at hc
    simp [h, h1, h2, h3, hc]
    refine Eq.trans (T2 ([32, 114, 117, 110] ++ Lib.itoa x.run) (by simp; omega) _ (by simp)) (by simp)

theorem l20_Quick (b : Bool) (x : OpT) (hx : OkN x) (a : List UInt8) (ha : a.length ≤ 850) (c : Code) (hc : some c = Tryd.f12.body.map (Code.drop 6)) (σ : F)
    (hσ : σ.keep (E.trim f_spec_l20Op 10) = J_spec_l20Op_10 (.ptr 72 [(0, 0)] 0) (.lit (.string (str a))) [(72, boxO b x)]) : Mc.at ⟨E, callW E fs, f_spec_l20Op, Tryd.f12.results.toList, 0⟩ c [] σ = some (.lit (.string (str (a ++ tQuick x))), []) := by
  obtain rfl : c = _ := Option.some.inj (hc.trans rfl)
  simp only [Code.drop]
  refine cut1 _ fun c2 hc2 => ?_
  have T2 : ∀ (p : List UInt8), p.length ≤ 50 → ∀ σ : F, σ.keep (E.trim f_spec_l20Op 12) = J_spec_l20Op_12 (.ptr 72 [(0, 0)] 0) (.lit (.string (str (a ++ p)))) [(72, boxO b x)] → Mc.at ⟨E, callW E fs, f_spec_l20Op, Tryd.f12.results.toList, 0⟩ c2 [] σ = some (.lit (.string (str (a ++ p ++ tRun x))), []) := fun p hp σ hσ => l20_Run b x hx (a ++ p) (by simp; omega) c2 (by rw [hc2]; rfl) σ hσ
  clear hc2 hc
  rw [Mc.at_seq, Mc.at_seq]
  refine (at_region_of _ _ _ _ _ _ hσ).trans ?_
  clear hσ
  unfold tQuick
  have h1 : a.length + 6 ≤ 9223372036854775807 := by omega
  cases h : x.quick with
  | false =>
    rw [if_neg (by decide)]
    simp [h]
    refine Eq.trans (T2 [] (by simp) _ (by simp [h])) (by simp)
  | true =>
    rw [if_pos rfl]
    simp [h, h1]
    refine Eq.trans (T2 [32, 113, 117, 105, 99, 107] (by simp) _ (by simp [h])) (by simp)

theorem l20_Tag (b : Bool) (x : OpT) (hx : OkN x) (a : List UInt8) (ha : a.length ≤ 800) (c : Code) (hc : some c = Tryd.f12.body.map (Code.drop 5)) (σ : F)
    (hσ : σ.keep (E.trim f_spec_l20Op 8) = J_spec_l20Op_8 (.ptr 72 [(0, 0)] 0) (.lit (.string (str a))) [(72, boxO b x)]) : Mc.at ⟨E, callW E fs, f_spec_l20Op, Tryd.f12.results.toList, 0⟩ c [] σ = some (.lit (.string (str (a ++ tTag x))), []) := by
  obtain rfl : c = _ := Option.some.inj (hc.trans rfl)
  simp only [Code.drop]
  refine cut1 _ fun c2 hc2 => ?_
  have T2 : ∀ (p : List UInt8), p.length ≤ 50 → ∀ σ : F, σ.keep (E.trim f_spec_l20Op 10) = J_spec_l20Op_10 (.ptr 72 [(0, 0)] 0) (.lit (.string (str (a ++ p)))) [(72, boxO b x)] → Mc.at ⟨E, callW E fs, f_spec_l20Op, Tryd.f12.results.toList, 0⟩ c2 [] σ = some (.lit (.string (str (a ++ p ++ tQuick x))), []) := fun p hp σ hσ => l20_Quick b x hx (a ++ p) (by simp; omega) c2 (by rw [hc2]; rfl) σ hσ
  clear hc2 hc
  rw [Mc.at_seq, Mc.at_seq]
  refine (at_region_of _ _ _ _ _ _ hσ).trans ?_
  clear hσ
  unfold tTag
  have h1 : a.length + 4 ≤ 9223372036854775807 := by omega
  by_cases h : x.tag = []
  · have hz : (0 < x.tag.length) = False := by rw [h]; simp
    rw [if_neg (by simp [h])]
    simp [hz]
    refine Eq.trans (T2 [] (by simp) _ (by simp)) (by simp)
  · have hz : (0 < x.tag.length) = True := eq_true (List.length_pos_iff.mpr h)
    rw [if_pos h]
    simp [hz, h1]
    refine Eq.trans (T2 [32, 116, 97, 103] (by simp) _ (by simp)) (by simp)

theorem l20_Oneof (b : Bool) (x : OpT) (hx : OkN x) (a : List UInt8) (ha : a.length ≤ 750) (c : Code) (hc : some c = Tryd.f12.body.map (Code.drop 4)) (σ : F)
    (hσ : σ.keep (E.trim f_spec_l20Op 6) = J_spec_l20Op_6 (.ptr 72 [(0, 0)] 0) (.lit (.string (str a))) [(72, boxO b x)]) : Mc.at ⟨E, callW E fs, f_spec_l20Op, Tryd.f12.results.toList, 0⟩ c [] σ = some (.lit (.string (str (a ++ tOneof x))), []) := by
  obtain rfl : c = _ := Option.some.inj (hc.trans rfl)
  simp only [Code.drop]
  refine cut1 _ fun c2 hc2 => ?_
  have T2 : ∀ (p : List UInt8), p.length ≤ 50 → ∀ σ : F, σ.keep (E.trim f_spec_l20Op 8) = J_spec_l20Op_8 (.ptr 72 [(0, 0)] 0) (.lit (.string (str (a ++ p)))) [(72, boxO b x)] → Mc.at ⟨E, callW E fs, f_spec_l20Op, Tryd.f12.results.toList, 0⟩ c2 [] σ = some (.lit (.string (str (a ++ p ++ tTag x))), []) := fun p hp σ hσ => l20_Tag b x hx (a ++ p) (by simp; omega) c2 (by rw [hc2]; rfl) σ hσ
  clear hc2 hc
  rw [Mc.at_seq, Mc.at_seq]
  refine (at_region_of _ _ _ _ _ _ hσ).trans ?_
  clear hσ
  unfold tOneof
  have h1 : a.length + 6 ≤ 9223372036854775807 := by omega
  by_cases h : 0 < x.oneof
  rotate_left
  · rw [if_neg h]
    simp [h]
    refine Eq.trans (T2 [] (by simp) _ (by simp)) (by simp)
  · rw [if_pos h]
    have hc := c_spec_l4Decimal x.oneof (by have := hx.oneof; omega) (by have := hx.oneof; omega)
    have hl := itoa_len x.oneof (by have := hx.oneof; omega) (by have := hx.oneof; omega)
    have h2 : a.length + (6 + (Lib.itoa x.oneof).length) ≤ 9223372036854775807 := by omega
    have h3 : a.length + 6 + (Lib.itoa x.oneof).length ≤ 9223372036854775807 := by omega
    simp only [cw] at hc
    simp [h, h1, h2, h3, hc]
    refine Eq.trans (T2 ([32, 111, 110, 101, 111, 102] ++ Lib.itoa x.oneof) (by simp; omega) _ (by simp)) (by simp)

theorem l20_Rep (b : Bool) (x : OpT) (hx : OkN x) (a : List UInt8) (ha : a.length ≤ 700) (c : Code) (hc : some c = Tryd.f12.body.map (Code.drop 3)) (σ : F)
    (hσ : σ.keep (E.trim f_spec_l20Op 4) = J_spec_l20Op_4 (.ptr 72 [(0, 0)] 0) (.lit (.string (str a))) [(72, boxO b x)]) : Mc.at ⟨E, callW E fs, f_spec_l20Op, Tryd.f12.results.toList, 0⟩ c [] σ = some (.lit (.string (str (a ++ tRep x))), []) := by
  obtain rfl : c = _ := Option.some.inj (hc.trans rfl)
  simp only [Code.drop]
  refine cut1 _ fun c2 hc2 => ?_
  have T2 : ∀ (p : List UInt8), p.length ≤ 50 → ∀ σ : F, σ.keep (E.trim f_spec_l20Op 6) = J_spec_l20Op_6 (.ptr 72 [(0, 0)] 0) (.lit (.string (str (a ++ p)))) [(72, boxO b x)] → Mc.at ⟨E, callW E fs, f_spec_l20Op, Tryd.f12.results.toList, 0⟩ c2 [] σ = some (.lit (.string (str (a ++ p ++ tOneof x))), []) := fun p hp σ hσ => l20_Oneof b x hx (a ++ p) (by simp; omega) c2 (by rw [hc2]; rfl) σ hσ
  clear hc2 hc
  rw [Mc.at_seq, Mc.at_seq]
  refine (at_region_of _ _ _ _ _ _ hσ).trans ?_
  clear hσ
  unfold tRep
  have h1 : a.length + 9 ≤ 9223372036854775807 := by omega
  cases h : x.rep with
  | false =>
    rw [if_neg (by decide)]
    simp [h]
    refine Eq.trans (T2 [] (by simp) _ (by simp [h])) (by simp)
  | true =>
    rw [if_pos rfl]
    simp [h, h1]
    refine Eq.trans (T2 [32, 114, 101, 112, 101, 97, 116, 101, 100] (by simp) _ (by simp [h])) (by simp)

theorem l20_Ref (b : Bool) (x : OpT) (hx : OkN x) (a : List UInt8) (ha : a.length ≤ 650) (c : Code) (hc : some c = Tryd.f12.body.map (Code.drop 2)) (σ : F)
    (hσ : σ.keep (E.trim f_spec_l20Op 2) = J_spec_l20Op_2 (.ptr 72 [(0, 0)] 0) (.lit (.string (str a))) [(72, boxO b x)]) : Mc.at ⟨E, callW E fs, f_spec_l20Op, Tryd.f12.results.toList, 0⟩ c [] σ = some (.lit (.string (str (a ++ tRef x))), []) := by
  obtain rfl : c = _ := Option.some.inj (hc.trans rfl)
  simp only [Code.drop]
  refine cut1 _ fun c2 hc2 => ?_
  have T2 : ∀ (p : List UInt8), p.length ≤ 50 → ∀ σ : F, σ.keep (E.trim f_spec_l20Op 4) = J_spec_l20Op_4 (.ptr 72 [(0, 0)] 0) (.lit (.string (str (a ++ p)))) [(72, boxO b x)] → Mc.at ⟨E, callW E fs, f_spec_l20Op, Tryd.f12.results.toList, 0⟩ c2 [] σ = some (.lit (.string (str (a ++ p ++ tRep x))), []) := fun p hp σ hσ => l20_Rep b x hx (a ++ p) (by simp; omega) c2 (by rw [hc2]; rfl) σ hσ
  clear hc2 hc
  rw [Mc.at_seq, Mc.at_seq]
  refine (at_region_of _ _ _ _ _ _ hσ).trans ?_
  clear hσ
  unfold tRef
  have h1 : a.length + 2 ≤ 9223372036854775807 := by omega
  by_cases h : x.kind = 16
  rotate_left
  · rw [if_neg h]
    have h := eq_false h
    simp [h]
    refine Eq.trans (T2 [] (by simp) _ (by simp)) (by simp)
  · rw [if_pos h]
    have h := eq_true h
    have hc := c_spec_l4Decimal x.ref (by have := hx.ref; omega) (by have := hx.ref; omega)
    have hl := itoa_len x.ref (by have := hx.ref; omega) (by have := hx.ref; omega)
    have h2 : a.length + (2 + (Lib.itoa x.ref).length) ≤ 9223372036854775807 := by omega
    have h3 : a.length + 2 + (Lib.itoa x.ref).length ≤ 9223372036854775807 := by omega
    simp only [cw] at hc
    simp [h, h1, h2, h3, hc]
    refine Eq.trans (T2 ([32, 64] ++ Lib.itoa x.ref) (by simp; omega) _ (by simp)) (by simp)

theorem c_spec_l20Op (b : Bool) (x : OpT) (hx : OkN x) : cw f_spec_l20Op [.agg b x.enc] [] = some (.lit (.string (str (opT x))), []) := by
  refine callW_run (by simp) fs_spec_l20Op rfl rfl rfl ?_
  refine cut2x _ fun c hc => ?_
  have T := fun a ha => l20_Ref b x hx a ha c (by rw [hc]; rfl)
  clear hc
  have hc1 := c_spec_l4Decimal x.num (by have := hx.num; omega) (by have := hx.num; omega)
  have hl := itoa_len x.num (by have := hx.num; omega) (by have := hx.num; omega)
  have hc2 := c_spec_l20Word x.kind hx.kind
  have hw := wordT_len x.kind
  simp only [cw] at hc1 hc2
  unfold opT
  generalize Lib.itoa x.num = n at hc1 hl ⊢
  generalize wordT x.kind = wd at hc2 hw ⊢
  have h1 : 2 + n.length ≤ 9223372036854775807 := by omega
  have h2 : 2 + n.length + 1 ≤ 9223372036854775807 := by omega
  have h3 : 2 + n.length + 1 + wd.length ≤ 9223372036854775807 := by omega
  have h1' : n.length + 2 ≤ 9223372036854775807 := by omega
  have h2' : n.length + 2 + 1 ≤ 9223372036854775807 := by omega
  have h3' : n.length + 1 + 1 + 1 + wd.length ≤ 9223372036854775807 := by omega
  simp [OpT.enc_eq, hc1, hc2, h1, h2, h3, h1', h2', h3']
  exact ⟨.b (by kernel_rfl), Eq.trans (T (32 :: 32 :: (n ++ 32 :: wd)) (by simp; omega) _ (by simp)) (by simp)⟩

end Go.Proofs.YtckojpaklblnpaaDoor.Th
