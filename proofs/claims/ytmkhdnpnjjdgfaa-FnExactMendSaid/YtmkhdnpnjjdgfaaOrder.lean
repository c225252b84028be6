/- Regions that draw their order: whatever order is picked. -/
import Derived.Test.YtmkhdnpnjjdgfaaDraw
set_option linter.unusedVariables false
set_option linter.unusedSimpArgs false
namespace Go.Proofs.Ytmkhdnpnjjdgfaa.Ev
open Go Go.RowKit

/-- Whom each operation waits for. -/
structure Deps (ops : Array Oper) (dm : List (List Nat)) : Prop where
  lt : ∀ j oj, ops[j]? = some oj → ∀ e ∈ oj.after, Region.binds .any e = true → e.on < j
  dep : ∀ j oj, ops[j]? = some oj → ∀ a ∈ dm.getD j [], ∃ e ∈ oj.after, Region.binds .any e = true ∧ (e.on = a ∨ a ∈ dm.getD e.on [])

theorem deps_of {ops : Array Oper} {dm : List (List Nat)} (h : depB ops dm = true) : Deps ops dm := by
  have key : ∀ j oj, ops[j]? = some oj → (oj.after.toList.all (fun e => !Region.binds .any e || decide (e.on < j)) &&
      (dm.getD j []).all fun a => oj.after.toList.any fun e => Region.binds .any e && (e.on == a || (dm.getD e.on []).contains a)) = true := by
    intro j oj hj
    have hlt : j < ops.size := (Array.getElem?_eq_some_iff.mp hj).1
    have := List.all_eq_true.mp h j (List.mem_range.mpr hlt)
    simpa only [hj] using this
  refine ⟨fun j oj hj e he hb => ?_, fun j oj hj a ha => ?_⟩
  · have h1 := key j oj hj
    simp only [Bool.and_eq_true] at h1
    have h2 := List.all_eq_true.mp h1.1 e (by simpa using he)
    simpa [hb] using h2
  · have h1 := key j oj hj
    simp only [Bool.and_eq_true] at h1
    have h2 := List.all_eq_true.mp h1.2 a ha
    obtain ⟨e, he, h3⟩ := List.any_eq_true.mp h2
    simp only [Bool.and_eq_true, Bool.or_eq_true, beq_iff_eq] at h3
    exact ⟨e, by simpa using he, h3.1, h3.2.imp id (fun h => by simpa using h)⟩

/-- What has come up, and what has not. -/
structure Left (ops : Array Oper) (dm : List (List Nat)) (listed : Array Bool) (l : List (Nat × Res)) : Prop where
  size : listed.size = ops.size
  mem : ∀ i, i < ops.size → (listed.getD i true = false ↔ i ∈ l.map (·.1))
  lt : ∀ x ∈ l, x.1 < ops.size
  nd : (l.map (·.1)).Nodup
  closed : ∀ j oj, ops[j]? = some oj → listed.getD j false = true → ∀ e ∈ oj.after, Region.binds .any e = true → listed.getD e.on false = true
  pairs : l.Pairwise (fun a b => a.1 ∈ dm.getD b.1 [] ∨ Indep a.2 b.2)

theorem dep_listed {ops : Array Oper} {dm : List (List Nat)} (hd : Deps ops dm) {listed : Array Bool} (hc : ∀ j oj, ops[j]? = some oj → listed.getD j false = true → ∀ e ∈ oj.after, Region.binds .any e = true → listed.getD e.on false = true) :
    ∀ (m j : Nat), j < m → ∀ oj, ops[j]? = some oj → (∀ e ∈ oj.after, Region.binds .any e = true → listed.getD e.on false = true) → ∀ a ∈ dm.getD j [], listed.getD a false = true := by
  intro m
  induction m with
  | zero => intro j hj; exact absurd hj (Nat.not_lt_zero _)
  | succ m ih =>
    intro j hjm oj hj hall a ha
    obtain ⟨e, he, hb, h | h⟩ := hd.dep j oj hj a ha
    · rw [← h]; exact hall e he hb
    · have hlt := hd.lt j oj hj e he hb
      have hjs : j < ops.size := (Array.getElem?_eq_some_iff.mp hj).1
      obtain ⟨oe, hoe⟩ : ∃ oe, ops[e.on]? = some oe := ⟨ops[e.on]'(by omega), by simp [show e.on < ops.size by omega]⟩
      exact ih e.on (by omega) oe hoe (hc e.on oe hoe (hall e he hb)) a h

theorem getD_true_false {listed : Array Bool} {i : Nat} (hi : i < listed.size) : listed.getD i true = listed.getD i false := by simp [hi]

theorem ready_some {ops : Array Oper} {dm : List (List Nat)} (hd : Deps ops dm) {listed : Array Bool} {l : List (Nat × Res)} (hL : Left ops dm listed l) (hne : l ≠ []) : Region.ready .any ops listed ≠ [] := by
  -- the least one that has not come up
  have hex : ∃ i, i < ops.size ∧ listed.getD i true = false := by
    cases l with
    | nil => exact absurd rfl hne
    | cons x r => exact ⟨x.1, hL.lt x (by simp), (hL.mem x.1 (hL.lt x (by simp))).mpr (by simp)⟩
  obtain ⟨i, ⟨hi, hu⟩, hmin⟩ : ∃ i, (i < ops.size ∧ listed.getD i true = false) ∧ ∀ j, j < i → ¬(j < ops.size ∧ listed.getD j true = false) := by
    have key : ∀ n i, i ≤ n → i < ops.size ∧ listed.getD i true = false → ∃ i, (i < ops.size ∧ listed.getD i true = false) ∧ ∀ j, j < i → ¬(j < ops.size ∧ listed.getD j true = false) := by
      intro n
      induction n with
      | zero => intro i hi h; exact ⟨i, h, fun j hj => by omega⟩
      | succ n ih =>
        intro i hi h
        by_cases hh : ∃ j, j < i ∧ (j < ops.size ∧ listed.getD j true = false)
        · obtain ⟨j, hj, h2⟩ := hh
          exact ih j (by omega) h2
        · exact ⟨i, h, fun j hj h2 => hh ⟨j, hj, h2⟩⟩
    obtain ⟨i, h⟩ := hex
    exact key i i (Nat.le_refl _) h
  have hoi : ops[i]? = some (ops[i]'hi) := by simp [hi]
  have : i ∈ Region.ready .any ops listed := by
    rw [mem_ready]
    refine ⟨hu, _, hoi, fun e he hb => ?_⟩
    have hlt := hd.lt i _ hoi e he hb
    have h1 := hmin e.on hlt
    have h2 : e.on < ops.size := by omega
    rw [← getD_true_false (by rw [hL.size]; exact h2)]
    cases hh : listed.getD e.on true with
    | true => rfl
    | false => exact absurd ⟨h2, hh⟩ h1
  intro h
  rw [h] at this
  cases this

theorem Seq.run {P : Program} {ops : Array Oper} {dm : List (List Nat)} (hd : Deps ops dm) {n : Nat} {τ : F} {ds : List Deferred} {Q : Exit → Act → World → Prop} :
    ∀ (fuel : Nat) (l : List (Nat × Res)) (listed : Array Bool) (σ : F) (w : World) (Φ : Bool → Nat → Prop) (tm : List Value) (ρ : Nat → List Value) (B : List Nat), l.length = fuel → Left ops dm listed l → (∀ x ∈ l, Loc P ops n x.1 x.2) → σ.sl.length = n → Seq σ l τ → Rel w Φ σ tm ρ B →
      (∀ tm' w' Φ' ρ' B', Rel w' Φ' τ tm' ρ' B' → Next w Φ ρ B w' Φ' ρ' B' → Q .normal ⟨tm'.toArray, ds⟩ w') → wpAny P .any ops Q fuel listed ⟨tm.toArray, ds⟩ w := by
  have fin : ∀ (listed : Array Bool) (σ : F) (w : World) (Φ : Bool → Nat → Prop) (tm : List Value) (ρ : Nat → List Value) (B : List Nat), Seq σ [] τ → Rel w Φ σ tm ρ B →
      (∀ tm' w' Φ' ρ' B', Rel w' Φ' τ tm' ρ' B' → Next w Φ ρ B w' Φ' ρ' B' → Q .normal ⟨tm'.toArray, ds⟩ w') → Q .normal ⟨tm.toArray, ds⟩ w := by
    intro listed σ w Φ tm ρ B hS hR hQ
    have hE : Eqv σ τ := hS
    obtain ⟨B', hR', hs⟩ := hR.perm (ob := τ.ob) hE.nd' (fun k => (hE.ob k).symm)
    rw [hE.sl] at hR'
    exact hQ _ _ _ _ _ hR' ((Next.refl w Φ ρ B).to_sub hs)
  intro fuel
  induction fuel with
  | zero =>
    intro l listed σ w Φ tm ρ B hlen hL hloc hn hS hR hQ
    have hl : l = [] := List.length_eq_zero_iff.mp hlen
    subst hl
    refine ⟨?_, fin listed σ w Φ tm ρ B hS hR hQ⟩
    cases hr : Region.ready .any ops listed with
    | nil => rfl
    | cons i r =>
      have hm : i ∈ Region.ready .any ops listed := by rw [hr]; simp
      obtain ⟨hu, oi, hoi, _⟩ := mem_ready.1 hm
      have := (hL.mem i (Array.getElem?_eq_some_iff.mp hoi).1).mp hu
      simp at this
  | succ fuel ih =>
    intro l listed σ w Φ tm ρ B hlen hL hloc hn hS hR hQ
    have hne : l ≠ [] := by rintro rfl; simp at hlen
    refine ⟨fun h => absurd h (ready_some hd hL hne), fun j hj => ?_⟩
    obtain ⟨hu, oj, hoj, hall⟩ := mem_ready.1 hj
    have hjs : j < ops.size := (Array.getElem?_eq_some_iff.mp hoj).1
    obtain ⟨x, hx, hxj⟩ := List.mem_map.mp ((hL.mem j hjs).mp hu)
    obtain ⟨i, R⟩ := x
    simp only at hxj
    subst hxj
    obtain ⟨l1, l2, rfl⟩ := List.append_of_mem hx
    have hp := hL.pairs
    rw [List.pairwise_append] at hp
    have hnd := hL.nd
    simp only [List.map_append, List.map_cons] at hnd
    have hind : ∀ y ∈ l1, Indep y.2 R := by
      intro y hy
      rcases hp.2.2 y hy (i, R) (by simp) with h | h
      · exfalso
        have h1 := dep_listed hd hL.closed (i + 1) i (Nat.lt_succ_self i) oj hoj hall y.1 h
        have h2 := (hL.mem y.1 (hL.lt y (by simp [hy]))).mpr (List.mem_map_of_mem (by simp [hy]))
        rw [getD_true_false (by rw [hL.size]; exact hL.lt y (by simp [hy])), h1] at h2
        cases h2
      · exact h
    obtain ⟨s1, s2⟩ := Seq.front hR.keys hS hind
    refine hloc (i, R) (by simp) σ w Φ tm ρ B ds _ Q hn s1 hR fun tm' w' Φ' ρ' B' hR' hN => ?_
    have hnotin : i ∉ (l1 ++ l2).map (·.1) := by
      rw [List.nodup_append] at hnd
      simp only [List.nodup_cons] at hnd
      simp only [List.map_append, List.mem_append, not_or]
      exact ⟨fun h => hnd.2.2 i h i (by simp) rfl, hnd.2.1.1⟩
    have hL' : Left ops dm (listed.setIfInBounds i true) (l1 ++ l2) := by
      refine ⟨by simp [hL.size], fun k hk => ?_, fun y hy => hL.lt y (by simp at hy ⊢; rcases hy with h | h <;> simp [h]), ?_, fun k ok hok hl e he hb => ?_, ?_⟩
      · by_cases hki : i = k
        · subst hki
          constructor
          · intro h; simp [show i < listed.size by rw [hL.size]; exact hk] at h
          · intro h; exact absurd h hnotin
        · rw [getD_set_ne true hki, hL.mem k hk]
          simp only [List.map_append, List.map_cons, List.mem_append, List.mem_cons]
          constructor
          · rintro (h | h | h)
            · exact .inl h
            · exact absurd h.symm hki
            · exact .inr h
          · rintro (h | h)
            · exact .inl h
            · exact .inr (.inr h)
      · rw [List.map_append]
        exact hnd.sublist (List.Sublist.append (List.Sublist.refl _) (List.sublist_cons_self _ _))
      · by_cases hki : i = k
        · subst hki
          rw [hoj] at hok
          cases hok
          exact getD_set_true (hall e he hb)
        · rw [getD_set_ne false hki] at hl
          exact getD_set_true (hL.closed k ok hok hl e he hb)
      · rw [List.pairwise_append]
        exact ⟨hp.1, (List.pairwise_cons.mp hp.2.1).2, fun a ha b hb => hp.2.2 a ha b (by simp [hb])⟩
    exact ih (l1 ++ l2) _ (R.app σ) w' Φ' tm' ρ' B' (by simp at hlen ⊢; omega) hL' (fun y hy => hloc y (by simp at hy ⊢; rcases hy with h | h <;> simp [h])) (by rw [app_length]; exact hn) s2 hR' fun tm2 w2 Φ2 ρ2 B2 a b => hQ _ _ _ _ _ a (hN.trans b)

section
variable {P : Program} {e : Env} {run : FuncId → List S → List O → Option (V × List (Option O))}

theorem drawRun_is (he : EnvOk P e) (hrun : RunOk P e run) {ops : Array Oper} : ∀ (os : List Oper) (i : Nat) (σ τ : F) (l : List (Nat × Res)), (∀ j, os[j]? = ops[i + j]?) → drawRun e run ops i os σ = some (l, τ) → (σ.ob.map (·.1)).Nodup →
    Seq σ l τ ∧ (∀ x ∈ l, Loc P ops σ.sl.length x.1 x.2) ∧ l.map (·.1) = (List.range os.length).map (i + ·)
  | [], i, σ, τ, l, _, h, hn => by
    simp only [drawRun, Option.some.injEq, Prod.mk.injEq] at h
    obtain ⟨rfl, rfl⟩ := h
    exact ⟨Eqv.refl hn, by simp, by simp⟩
  | o :: os, i, σ, τ, l, hos, h, hn => by
    simp only [drawRun] at h
    split at h
    · rename_i R hR
      split at h
      · rename_i l' τ' hl
        simp only [Option.some.injEq, Prod.mk.injEq] at h
        obtain ⟨rfl, rfl⟩ := h
        have ho : ops[i]? = some o := by have := hos 0; simpa using this.symm
        obtain ⟨h1, h2⟩ := res_is he hrun ho hR
        obtain ⟨h3, h4, h5⟩ := drawRun_is he hrun os (i + 1) (R.app σ) τ' l' (fun j => by have := hos (j + 1); simpa [Nat.add_assoc, Nat.add_comm 1 j] using this) hl (app_nd hn h1)
        refine ⟨⟨h1, h3⟩, fun x hx => ?_, ?_⟩
        · rcases List.mem_cons.mp hx with rfl | hx
          · exact h2
          · have := h4 x hx
            rw [app_length] at this
            exact this
        · simp only [List.map_cons, h5, List.length_cons, List.range_succ_eq_map, List.map_map, Nat.add_zero, List.cons.injEq, true_and]
          exact List.map_congr_left fun k _ => by simp; omega
      · cases h
    · cases h

theorem pairs_of {dm : List (List Nat)} : ∀ {l : List (Nat × Res)}, pairsB dm l = true → l.Pairwise (fun a b => a.1 ∈ dm.getD b.1 [] ∨ Indep a.2 b.2)
  | [], _ => List.Pairwise.nil
  | (i, R) :: l, h => by
    simp only [pairsB, Bool.and_eq_true] at h
    refine List.Pairwise.cons (fun b hb => ?_) (pairs_of h.2)
    have := List.all_eq_true.mp h.1 b hb
    simp only [Bool.or_eq_true] at this
    exact this.imp (fun h => by simpa using h) indep_of

/-- A region that draws its order. -/
theorem ok_draw (he : EnvOk P e) (hrun : RunOk P e run) (hm : P.follows .mixedOrders = true) {id : Nat} {ops : Array Oper} {σ τ : F} {l : List (Nat × Res)} (h : drawRun e run ops 0 ops.toList σ = some (l, τ)) (hB : drawB ops l = true)
    (w : World) (Φ : Bool → Nat → Prop) (tm : List Value) (ρ : Nat → List Value) (B : List Nat) (ds : List Deferred) (Q : Exit → Act → World → Prop) (hR : Rel w Φ σ tm ρ B)
    (hQ : ∀ tm' w' Φ' ρ' B', Rel w' Φ' τ tm' ρ' B' → Next w Φ ρ B w' Φ' ρ' B' → Q .normal ⟨tm'.toArray, ds⟩ w') : (Code.region id ops true).wp P Q ⟨tm.toArray, ds⟩ w := by
  unfold drawB at hB
  simp only [Bool.and_eq_true] at hB
  obtain ⟨⟨_, hdb⟩, hpb⟩ := hB
  obtain ⟨h1, h2, h3⟩ := drawRun_is he hrun ops.toList 0 σ τ l (fun j => by simp) h hR.keys
  have hids : l.map (·.1) = List.range ops.size := by
    rw [h3]
    simp
  have hlen : l.length = ops.size := by
    have := congrArg List.length hids
    simpa using this
  refine wp_region_any hm ?_
  rw [← hlen]
  have hR' : Rel { w with drawn := w.drawn + 1 } Φ σ tm ρ B := hR.keep (w' := { w with drawn := w.drawn + 1 }) ⟨fun _ _ h => h, fun _ _ _ => rfl, fun _ _ => rfl⟩ (Nat.le_refl _)
  refine Seq.run (deps_of hdb) l.length l _ σ _ Φ tm ρ B rfl ?_ h2 rfl h1 hR' fun tm' w' Φ' ρ' B' a b => hQ tm' w' Φ' ρ' B' a ?_
  · refine ⟨by simp [hlen], fun i hi => ?_, fun x hx => ?_, by rw [hids]; exact List.nodup_range, fun j oj _ hl => ?_, pairs_of hpb⟩
    · rw [hids]
      simp only [List.mem_range, hi, iff_true]
      simp [hlen, hi]
    · have : x.1 ∈ l.map (·.1) := List.mem_map_of_mem hx
      rw [hids] at this
      simpa using this
    · simp only [Array.getD_eq_getD_getElem?] at hl
      by_cases hj : j < l.length
      · simp [hj] at hl
      · simp [hj] at hl
  · have n0 : Next w Φ ρ B { w with drawn := w.drawn + 1 } Φ ρ B := ⟨rfl, rfl, rfl, Nat.le_refl _, fun _ _ _ => rfl, fun _ h => .inl h, fun _ _ h => h, fun _ _ h => .inl h, fun _ h => .inl h, fun _ _ => rfl⟩
    exact n0.trans b

end

end Go.Proofs.Ytmkhdnpnjjdgfaa.Ev
