/- The evaluator and its soundness, part 4: Run Row. -/
import Derived.Test.YtckojpaklblnpaaDoorEc
import Derived.Conc.MuLone
import Derived.ChangeArms
import Derived.Below
/- Functions, run. -/
set_option linter.unusedVariables false
set_option linter.unusedSimpArgs false
namespace Go.Proofs.YtckojpaklblnpaaDoor.Ev
open Go Go.RowKit

/-- A result, but for what a pointer into an import's object stands for. -/
def VP (w : World) (Φ : Bool → Nat → Prop) (x : V) (v : Value) (B : List Nat) : Prop :=
  match x with
  | .ptr .. => B = []
  | x => VR w Φ [] (fun _ => []) x v B

def VPs (w : World) (Φ : Bool → Nat → Prop) : List V → List Value → List Nat → Prop
  | [], vs, B => vs = [] ∧ B = []
  | x :: r, vs, B => ∃ v vs' B1 B2, vs = v :: vs' ∧ B = B1 ++ B2 ∧ VP w Φ x v B1 ∧ VPs w Φ r vs' B2

theorem IsORows.cut {w : World} {sz : Nat} : ∀ (n : Nat) {rows : List (List T)} {vs : List Value} {B : List Nat}, IsORows w sz rows vs B → ∃ D, IsORows w sz (rows.take n) vs D ∧ D.Sublist B
  | 0, rows, vs, B, _ => ⟨[], by simp only [List.take_zero, IsORows], List.nil_sublist _⟩
  | n + 1, [], vs, B, h => ⟨B, by simpa using h, List.Sublist.refl _⟩
  | n + 1, r :: rs, vs, B, h => by
    simp only [IsORows] at h
    obtain ⟨B1, B2, rfl, h2, h3, h4⟩ := h
    obtain ⟨D, t1, t2⟩ := IsORows.cut n h4
    refine ⟨B1 ++ D, ?_, List.Sublist.append (List.Sublist.refl _) t2⟩
    simp only [List.take_succ_cons, IsORows]
    exact ⟨B1, D, rfl, h2, h3, t1⟩

theorem outOne_is {w : World} {Φ : Bool → Nat → Prop} {σ σ' : F} {tm : List Value} {ρ : Nat → List Value} {B : List Nat} {n : Nat} {s : S} {v : Value} {x : V} (h : Rel w Φ σ tm ρ B) (hs : SlotR w Φ σ.ob ρ s v) (ho : outOne σ n s = some (x, σ')) :
    ∃ B' L, Rel w Φ σ' tm ρ B' ∧ VP w Φ x v L ∧ Loose w Φ B' L ∧ (∀ b ∈ B', b ∈ B) ∧ (∀ b ∈ L, b ∈ B) := by
  unfold outOne at ho
  split at ho
  · simp only [Option.some.injEq, Prod.mk.injEq] at ho
    obtain ⟨rfl, rfl⟩ := ho
    simp only [SlotR] at hs
    exact ⟨B, [], h, ⟨hs.1, hs.2, rfl⟩, Loose.nil, fun _ h => h, by simp⟩
  · simp only [Option.some.injEq, Prod.mk.injEq] at ho
    obtain ⟨rfl, rfl⟩ := ho
    simp only [SlotR] at hs
    exact ⟨B, [], h, ⟨hs, rfl⟩, Loose.nil, fun _ h => h, by simp⟩
  · simp only [Option.some.injEq, Prod.mk.injEq] at ho
    obtain ⟨rfl, rfl⟩ := ho
    simp only [SlotR] at hs
    exact ⟨B, [], h, ⟨hs, rfl⟩, Loose.nil, fun _ h => h, by simp⟩
  · simp only [Option.some.injEq, Prod.mk.injEq] at ho
    obtain ⟨rfl, rfl⟩ := ho
    simp only [SlotR] at hs
    exact ⟨B, [], h, ⟨hs, rfl⟩, Loose.nil, fun _ h => h, by simp⟩
  · rename_i k p off n' ag
    split at ho
    · rename_i cs σ1 ht
      obtain ⟨B', L, r1, r2, r3, r4, r5⟩ := take_is h ht hs
      have hval : valOf ag v.cells.toList v := by
        simp only [SlotR] at hs
        obtain ⟨o, vs, q1, q2, q3, q4⟩ := hs
        cases ag with
        | true =>
          simp only [if_true] at q4
          subst q4
          simp [valOf, Value.cells]
        | false =>
          simp only [Bool.false_eq_true, if_false] at q4
          unfold F.take at ht
          simp only [q1] at ht
          split at ht
          · rename_i cs0 hc
            obtain ⟨o', vs', Bc, c1, c2, c3, c4, c5, c6, _⟩ := h.cells hc
            rw [q1] at c1; cases c1
            rw [q2] at c2; cases c2
            rw [vw_cells (ag := false) c5 (by simpa using q4), q4]
            simp [valOf]
          · cases ht
      split at ho
      · rename_i hf
        have hL0 := free_blocks r2 hf
        subst hL0
        split at ho
        · rename_i ts hts
          have hT := (free_is h.sub.1 (lentAll cs) hf hts (fun h => h) r2).2
          have hsl : SlotR w Φ [] (fun _ => []) (ofT (lentAll cs) ag ts) v := ofT_is hT hval
          split at ho
          · rename_i y hy
            simp only [Option.some.injEq, Prod.mk.injEq] at ho
            obtain ⟨rfl, rfl⟩ := ho
            rw [hy] at hsl
            simp only [SlotR] at hsl
            exact ⟨B', [], r1, ⟨hsl.1, hsl.2, rfl⟩, r3, r4, r5⟩
          · rename_i b t hy
            simp only [Option.some.injEq, Prod.mk.injEq] at ho
            obtain ⟨rfl, rfl⟩ := ho
            rw [hy] at hsl
            simp only [SlotR] at hsl
            exact ⟨B', [], r1, ⟨hsl, rfl⟩, r3, r4, r5⟩
          · rename_i b l hy
            simp only [Option.some.injEq, Prod.mk.injEq] at ho
            obtain ⟨rfl, rfl⟩ := ho
            rw [hy] at hsl
            simp only [SlotR] at hsl
            exact ⟨B', [], r1, ⟨hsl, rfl⟩, r3, r4, r5⟩
          · cases ho
        · cases ho
      · simp only [Option.some.injEq, Prod.mk.injEq] at ho
        obtain ⟨rfl, rfl⟩ := ho
        exact ⟨B', L, r1, ⟨v.cells.toList, r2, hval⟩, r3, r4, r5⟩
    · cases ho
  · rename_i k p off sz' lo hi
    split at ho
    · rename_i sz rows σ1 ht
      split at ho
      · rename_i hc
        obtain ⟨rfl, rfl, hhi, hpos⟩ := hc
        simp only [Option.some.injEq, Prod.mk.injEq] at ho
        obtain ⟨rfl, rfl⟩ := ho
        simp only [SlotR] at hs
        obtain ⟨o, vs, a, len, cap, q1, q2, q3, q4, _, q6, q7, a', ha', rfl⟩ := hs
        have hs0 : SlotR w Φ σ.ob ρ (.vw k p off 1 false) (.slice a len cap) := by
          simp only [SlotR, Bool.false_eq_true, if_false]
          exact ⟨o, vs, q1, q2, q3, q4⟩
        obtain ⟨B', L, r1, r2, r3, r4, r5⟩ := take_is h ht hs0
        rw [one_cells (one_slice _ _ _)] at r2
        simp only [IsCs, IsC, IsO] at r2
        obtain ⟨v, vs', L1, L2, e1, rfl, hsl, rfl, rfl⟩ := r2
        simp only [List.cons.injEq, and_true] at e1
        subst e1
        rcases hsl with ⟨_, h0, _⟩ | ⟨g, cap', cur, et, fz, C', e2, d2, d3, d4, d5, d6, rfl, d8⟩
        · omega
        · simp only [Value.slice.injEq] at e2
          obtain ⟨rfl, rfl, rfl⟩ := e2
          obtain ⟨D, t1, t2⟩ := IsORows.cut hi d8
          have ha2 : a' = some ⟨g, 0, none⟩ := by rw [ha' (by omega)]; simp [Addr.add]
          subst ha2
          have hsub : (g :: D).Sublist (g :: C' ++ []) := by simpa using List.Sublist.cons_cons g t2
          refine ⟨B', g :: D, r1, ⟨[.slice (some ⟨g, 0, none⟩) (hi - 0) (cap - 0)], ?_, by simp [valOf]⟩, ⟨r3.nd.sublist hsub, fun b hb => r3.apart b (hsub.subset hb), fun b hb => r3.lt b (hsub.subset hb), fun b hb => r3.disj b (hsub.subset hb)⟩, r4, fun b hb => r5 b (hsub.subset hb)⟩
          simp only [IsCs, IsC, IsO]
          refine ⟨_, [], g :: D, [], rfl, by simp, ?_, rfl, rfl⟩
          have hlt : (rows.take hi).length = hi := by rw [List.length_take]; omega
          rw [hlt]
          exact .inr ⟨g, cap, cur, et, fz, D, by simp, d2, d3, ⟨d4.1, by omega⟩, d5, d6, rfl, t1⟩
      · cases ho
    · cases ho
  · rename_i k p off
    split at ho
    · simp only [Option.some.injEq, Prod.mk.injEq] at ho
      obtain ⟨rfl, rfl⟩ := ho
      exact ⟨B, [], h, rfl, Loose.nil, fun _ h => h, by simp⟩
    · split at ho
      · rename_i o hl
        split at ho
        · rename_i hc
          simp only [Bool.and_eq_true, decide_eq_true_eq] at hc
          obtain ⟨⟨rfl, rfl⟩, _⟩ := hc
          simp only [Option.some.injEq, Prod.mk.injEq] at ho
          obtain ⟨rfl, rfl⟩ := ho
          simp only [SlotR] at hs
          obtain ⟨o', g, a, q1, q2, q3⟩ := hs
          rw [hl] at q1; cases q1
          obtain ⟨B', h1, h2, h3⟩ := h.del k
          obtain ⟨Bk, h4, h5, h6⟩ := h3 o hl
          exact ⟨B', Bk, h1, ⟨ρ k, g, a, h4, q2, by rw [q3]; simp⟩, h5, fun b hb => h2.subset hb, h6⟩
        · cases ho
      · cases ho
  · cases ho

theorem outMany_is {w : World} {Φ : Bool → Nat → Prop} {ρ : Nat → List Value} {tm : List Value} {n : Nat} : ∀ (m i : Nat) {σ σ' : F} {B : List Nat} {xs : List V}, Rel w Φ σ tm ρ B → outMany n m i σ = some (xs, σ') → i + m ≤ tm.length →
    ∃ B' L, Rel w Φ σ' tm ρ B' ∧ VPs w Φ xs ((tm.drop i).take m) L ∧ Loose w Φ B' L ∧ (∀ b ∈ B', b ∈ B) ∧ (∀ b ∈ L, b ∈ B) ∧ xs.length = m
  | 0, i, σ, σ', B, xs, h, ho, hm => by
    simp only [outMany, Option.some.injEq, Prod.mk.injEq] at ho
    obtain ⟨rfl, rfl⟩ := ho
    exact ⟨B, [], h, by simp [VPs], Loose.nil, fun _ h => h, by simp, rfl⟩
  | m + 1, i, σ, σ', B, xs, h, ho, hm => by
    simp only [outMany] at ho
    split at ho
    · rename_i x σ1 h1
      split at ho
      · rename_i xs' σ2 h2
        simp only [Option.some.injEq, Prod.mk.injEq] at ho
        obtain ⟨rfl, rfl⟩ := ho
        have hi : i < tm.length := by omega
        have hs := h.slots.get i
        rw [List.getD_eq_getElem?_getD (l := tm), List.getElem?_eq_getElem hi] at hs
        obtain ⟨B1, L1, r1, r2, r3, r4, r5⟩ := outOne_is h hs h1
        obtain ⟨B2, L2, s1, s2, s3, s4, s5, s6⟩ := outMany_is m (i + 1) r1 h2 (by omega)
        refine ⟨B2, L1 ++ L2, s1, ?_, (r3.sub s4).append s3 (fun b hb hb2 => r3.apart b hb (s5 b hb2)), fun b hb => r4 b (s4 b hb), fun b hb => ?_, by simp [s6]⟩
        · rw [List.drop_eq_getElem_cons hi, List.take_succ_cons]
          exact ⟨_, _, L1, L2, rfl, rfl, r2, s2⟩
        · rcases List.mem_append.mp hb with hb | hb
          · exact r5 b hb
          · exact r4 b (s5 b hb)
      · cases ho
    · cases ho

theorem leave_get : ∀ (n i j : Nat) (σ : F), j < n → (leaveObs σ i n)[j]? = some (look σ.ob (i + j))
  | 0, _, _, _, h => by omega
  | n + 1, i, 0, σ, _ => by simp [leaveObs]
  | n + 1, i, j + 1, σ, h => by
    simp only [leaveObs, List.getElem?_cons_succ]
    rw [leave_get n (i + 1) j σ (by omega)]
    congr 2
    omega

theorem leave_look {σ : F} {n k : Nat} (hk : k < n) : look (backs (List.range n) (leaveObs σ 0 n)) k = look σ.ob k := by
  have hkr : (List.range n)[k]? = some k := List.getElem?_range hk
  rw [backs_look List.nodup_range hkr, leave_get n 0 k σ hk, Nat.zero_add]
  rfl

theorem leave_sub {σ : F} {n k : Nat} {o : O} (h : look (backs (List.range n) (leaveObs σ 0 n)) k = some o) : look σ.ob k = some o := by
  have hk : k < n := by simpa using backs_mem k (look_mem h)
  rw [← leave_look hk]
  exact h

theorem ptrsOk_is {w : World} {Φ : Bool → Nat → Prop} {ρ : Nat → List Value} {tm : List Value} {n : Nat} {σ : F} {B : List Nat} (h : Rel w Φ σ tm ρ B) : ∀ {xs : List V} {vs : List Value} {L : List Nat} {i : Nat}, ptrsOk σ i xs = true → (∀ k p off, V.ptr k p off ∈ xs → k < n) → VPs w Φ xs vs L → (∀ j v, vs[j]? = some v → tm[i + j]? = some v) →
    VRs w Φ (backs (List.range n) (leaveObs σ 0 n)) ρ xs vs L
  | [], vs, L, i, _, _, hv, _ => hv
  | x :: r, vs, L, i, hp, hk, hv, ht => by
    obtain ⟨v, vs', B1, B2, rfl, rfl, h1, h2⟩ := hv
    have rest : ptrsOk σ (i + 1) r = true → VRs w Φ (backs (List.range n) (leaveObs σ 0 n)) ρ r vs' B2 := fun hp' =>
      ptrsOk_is h hp' (fun k p off hm => hk k p off (by simp [hm])) h2 (fun j v hj => by
        have := ht (j + 1) v (by simpa using hj)
        rw [show i + (j + 1) = i + 1 + j by omega] at this
        exact this)
    cases x with
    | ptr k p off =>
      simp only [ptrsOk, Bool.and_eq_true] at hp
      refine ⟨v, vs', B1, B2, rfl, rfl, ⟨?_, h1⟩, rest hp.2⟩
      have hp1 := hp.1
      split at hp1
      · rename_i k' p' off' hat
        simp only [Bool.and_eq_true, beq_iff_eq] at hp1
        obtain ⟨⟨rfl, rfl⟩, rfl⟩ := hp1
        obtain ⟨u, hu, _, hs⟩ := slot_at h hat (by simp)
        have h0 := ht 0 v rfl
        rw [Nat.add_zero, hu] at h0
        simp only [Option.some.injEq] at h0
        subst h0
        simp only [SlotR] at hs ⊢
        obtain ⟨o, g, a, q1, q2, q3⟩ := hs
        exact ⟨o, g, a, by rw [leave_look (hk k p off (by simp))]; exact q1, q2, q3⟩
      · cases hp1
    | lit y => exact ⟨v, vs', B1, B2, rfl, rfl, h1, rest hp⟩
    | val b t => exact ⟨v, vs', B1, B2, rfl, rfl, h1, rest hp⟩
    | agg b t => exact ⟨v, vs', B1, B2, rfl, rfl, h1, rest hp⟩
    | nils => exact ⟨v, vs', B1, B2, rfl, rfl, h1, rest hp⟩
    | ov c a => exact ⟨v, vs', B1, B2, rfl, rfl, h1, rest hp⟩
    | op c => exact ⟨v, vs', B1, B2, rfl, rfl, h1, rest hp⟩
    | tup l => exact (h1 : False).elim

theorem outMany_ptr {n : Nat} : ∀ (m i : Nat) {σ σ' : F} {xs : List V}, outMany n m i σ = some (xs, σ') → ∀ k p off, V.ptr k p off ∈ xs → k < n
  | 0, i, σ, σ', xs, ho, k, p, off, hm => by
    simp only [outMany, Option.some.injEq, Prod.mk.injEq] at ho
    obtain ⟨rfl, rfl⟩ := ho
    cases hm
  | m + 1, i, σ, σ', xs, ho, k, p, off, hm => by
    simp only [outMany] at ho
    split at ho
    · rename_i x σ1 h1
      split at ho
      · rename_i xs' σ2 h2
        simp only [Option.some.injEq, Prod.mk.injEq] at ho
        obtain ⟨rfl, rfl⟩ := ho
        rcases List.mem_cons.mp hm with rfl | hm
        · unfold outOne at h1
          split at h1 <;> try (simp at h1; done)
          · split at h1
            · split at h1
              · split at h1
                · split at h1 <;> simp at h1
                · cases h1
              · simp at h1
            · cases h1
          · split at h1
            · split at h1 <;> simp at h1
            · cases h1
          · split at h1
            · rename_i hk
              simp only [Option.some.injEq, Prod.mk.injEq, V.ptr.injEq] at h1
              obtain ⟨⟨rfl, _⟩, _⟩ := h1
              exact hk
            · split at h1
              · split at h1 <;> simp at h1
              · cases h1
        · exact outMany_ptr m (i + 1) h2 k p off hm
      · cases ho
    · cases ho

section
variable {P : Program} {e : Env}

/-- A result's value. -/
def resVal (tms : Array Value) : ResultVar → Sem Value
  | .tmp t => pure (tms.getD t undef)
  | .cell a t => do loadVar t (← asAddr (tms.getD a undef))

theorem results_eq (fn : Func) (tms : Array Value) : results fn tms = (do let vs ← fn.results.mapM (resVal tms); pure (if h : vs.size = 1 then vs[0] else .tuple vs)) := rfl

theorem resSlots_is (he : EnvOk P e) {w : World} {Φ : Bool → Nat → Prop} {σ : F} {tm : List Value} {ρ : Nat → List Value} {B : List Nat} (h : Rel w Φ σ tm ρ B) : ∀ {rs : List ResultVar} {ss : List S}, resSlots e σ rs = some ss →
    ∃ vals, (rs.mapM (m := Sem) (resVal tm.toArray)).run P w = .ok vals w ∧ SlotRs w Φ σ.ob ρ ss vals
  | [], ss, hr => by
    simp only [resSlots, Option.some.injEq] at hr
    subst hr
    exact ⟨[], by simp, by simp only [SlotRs]⟩
  | .tmp t :: r, ss, hr => by
    simp only [resSlots, Option.map_eq_some_iff] at hr
    obtain ⟨ss', h1, rfl⟩ := hr
    obtain ⟨vals, h2, h3⟩ := resSlots_is he h h1
    refine ⟨tm.getD t undef :: vals, ?_, ?_⟩
    · simp only [List.mapM_cons, resVal, Sem.run_bind, Sem.run_pure, Result.andThen_ok, h2]
      simp
    · simp only [SlotRs]
      exact ⟨_, _, rfl, h.slots.get t, h3⟩
  | .cell a t :: r, ss, hr => by
    simp only [resSlots] at hr
    split at hr
    · rename_i k p off v rs hat hty hrs
      split at hr
      · rename_i cs hc
        simp only [Option.some.injEq] at hr
        subst hr
        obtain ⟨vals, h2, h3⟩ := resSlots_is he h hrs
        have hs := h.slots.get a
        unfold F.at_ at hat
        rw [hat] at hs
        simp only [SlotR] at hs
        obtain ⟨o, g, ad, q1, q2, q3⟩ := hs
        obtain ⟨o', vs, Bc, c1, c2, c3, c4, c5, c6, c7⟩ := h.cells hc
        rw [q1] at c1
        cases c1
        have hp : p ≠ [] := by rintro rfl; simp [addrAt] at q2
        obtain ⟨g', a', cur, et, fz, d1, d2, d3, d4, d5⟩ := c7 hp
        rw [q2] at d1
        cases d1
        obtain ⟨x', r1, r2⟩ := run_loadVar he hty (a := ad + off) d2 (by omega)
        rw [← d5] at r2
        refine ⟨x' :: vals, ?_, ?_⟩
        · have e1 : tm.toArray.getD a undef = .pointer (some ⟨g, ad + off, none⟩) := by
            rw [← q3]
            simp
          simp only [List.mapM_cons, resVal, Sem.run_bind, e1, asAddr, Sem.run_pure, Result.andThen_ok, r1, h2]
        · simp only [SlotRs]
          exact ⟨_, _, rfl, view_is h q1 c2 c3 c5 r2, h3⟩
      · cases hr
    · cases hr

theorem results_is (he : EnvOk P e) {w : World} {Φ : Bool → Nat → Prop} {σ : F} {tm : List Value} {ρ : Nat → List Value} {B : List Nat} (h : Rel w Φ σ tm ρ B) {fn : Func} {ss : List S} (hr : resSlots e σ fn.results.toList = some ss) :
    ∃ vals, (results fn tm.toArray).run P w = .ok (match vals with | [v] => v | vs => .tuple vs.toArray) w ∧ SlotRs w Φ σ.ob ρ ss vals := by
  obtain ⟨vals, h1, h2⟩ := resSlots_is he h hr
  refine ⟨vals, ?_, h2⟩
  rw [results_eq, Array.mapM_eq_mapM_toList, ← bind_pure_comp, bind_assoc, Sem.run_bind, h1]
  simp only [Result.andThen_ok, pure_bind, Sem.run_pure]
  congr 1
  split
  · rename_i hsz
    match vals, hsz with
    | [v], _ => rfl
  · rename_i hsz
    match vals, hsz with
    | [], _ => rfl
    | [v], hsz => simp at hsz
    | _ :: _ :: _, _ => rfl

theorem runFn_is (he : EnvOk P e) (hm : P.follows .mixedOrders = true) {run : FuncId → List S → List O → Option (V × List (Option O))} (hs : RunSound P run) {f : FuncId} {n : Nat} {fn : Func} {args : List S} {obs : List O} {v : V} {os : List (Option O)} (hf : P.funcs[f]? = some fn) (hname : (fn.name == "runtime.NumGoroutine") = false) (h : runFn e run f n fn args obs = some (v, os)) : RunIs P f args obs v os := by
  intro w Φ vals ρ B hR
  unfold runFn at h
  split at h
  · rename_i c hb
    unfold Enters
    rw [Go.MuLone.run_callFunc_enter hf hname hb]
    simp only
    refine calls_of_wp hf hb ?_
    split at h
    · rename_i ex σ1 hcode
      split at h
      · rename_i hex
        split at h
        · rename_i ss hss
          split at h
          · rename_i xs σ2 hout
            split at h
            · rename_i hptrs
              simp only [Option.some.injEq, Prod.mk.injEq] at h
              obtain ⟨rfl, rfl⟩ := h
              have hlen := hR.slots.length
              simp only at hlen
              have hR0 : Rel w Φ { sl := args ++ List.replicate (fn.ntmps - args.length) .undef, ob := enterObs obs 0 } (vals ++ List.replicate (fn.ntmps - args.length) Go.undef) ρ B := by
                refine hR.more ?_
                generalize fn.ntmps - args.length = m
                induction m with
                | zero => simp only [List.replicate_zero, SlotRs]
                | succ m ih => simp only [List.replicate_succ, SlotRs]; exact ⟨_, _, rfl, by simp only [SlotR], ih⟩
              have e0 : vals.toArray ++ Array.replicate (fn.ntmps - vals.toArray.size) undef = (vals ++ List.replicate (fn.ntmps - args.length) Go.undef).toArray := by
                apply Array.ext'
                simp [hlen]
              rw [e0]
              refine ok_code he (runOk_of hs) hm f n c _ ex σ1 hcode w Φ _ ρ B [] _ hR0 fun tm' w' Φ' ρ' B' hR1 hN => ?_
              obtain ⟨rv, hrun, hsl⟩ := results_is he hR1 (fn := fn) hss
              have key : ([] : List Deferred) = [] ∧ ∃ u, (results fn tm'.toArray).run P w' = .ok u w' ∧ Came w Φ ρ B obs.length (packV xs) (leaveObs σ2 0 obs.length) (.returned u) w' := by
                refine ⟨rfl, _, hrun, ?_⟩
                have hl1 := hR1.slots.length
                have hl2 := hsl.length
                obtain ⟨B2, L, r1, r2, r3, r4, r5, r6⟩ := outMany_is ss.length σ1.sl.length (hR1.more hsl) hout (by simp; omega)
                have e1 : ((tm' ++ rv).drop σ1.sl.length).take ss.length = rv := by
                  rw [← hl1, List.drop_left, ← hl2, List.take_length]
                rw [e1] at r2
                have hv := ptrsOk_is (n := obs.length) r1 hptrs (outMany_ptr _ _ hout) r2 (fun j u hj => by
                  rw [← hl1, List.getElem?_append_right (by omega)]
                  simpa using hj)
                obtain ⟨B3, t1, t2, t3⟩ := r1.obs.submap (ob' := backs (List.range obs.length) (leaveObs σ2 0 obs.length)) r1.keys r1.nd (backs_nodup List.nodup_range) (fun k o hl => leave_sub hl)
                refine ⟨_, Φ', ρ', B3, L, rfl, ⟨t1, t2, backs_nodup List.nodup_range, fun b hb => r1.disj b (t3 b hb), fun b hb => r1.lt b (t3 b hb), r1.ltΦ, r1.sub, by simp only [SlotRs]⟩, r3.sub t3, ?_, ?_⟩
                · match xs, rv, hv with
                  | [], _, hv => obtain ⟨rfl, rfl⟩ := hv; exact ⟨[], rfl, rfl, rfl⟩
                  | [x], _, hv =>
                    obtain ⟨u, us, C1, C2, rfl, rfl, q1, rfl, rfl⟩ := hv
                    simp only [List.append_nil]
                    cases x with
                    | tup l => exact q1.elim
                    | _ => exact q1
                  | x :: y :: l, _, hv =>
                    have hv' := hv
                    obtain ⟨u, us, C1, C2, rfl, rfl, q1, u2, us2, C3, C4, rfl, rfl, q2, q3⟩ := hv
                    exact ⟨_, rfl, hv'⟩
                · refine hN.to_sub fun b hb => ?_
                  rcases List.mem_append.mp hb with hb | hb
                  · exact r4 b (t3 b hb)
                  · exact r5 b hb
              rcases hex with rfl | rfl
              · exact key
              · exact key
            · cases h
          · cases h
        · cases h
      · cases h
    · cases h
  · cases h

/-- The evaluator tells what the machine does. -/
theorem pcall_sound (he : EnvOk P e) (hm : P.follows .mixedOrders = true) {fs : FuncId → Option Func} (hfs : ∀ f fn, fs f = some fn → P.funcs[f]? = some fn ∧ (fn.name == "runtime.NumGoroutine") = false)
    (hext : ∀ f g, e.ext f = some g → ∀ args obs v os, g args obs = some (v, os) → RunIs P f args obs v os) : ∀ k, RunSound P (pcall e fs k)
  | 0 => fun f args obs v os _ h => by simp [pcall] at h
  | k + 1 => fun f args obs v os h64 h => by
    simp only [pcall] at h
    split at h
    · rename_i g hg
      exact hext f g hg args obs v os h
    · split at h
      · rename_i fn hfn
        obtain ⟨h1, h2⟩ := hfs f fn hfn
        exact runFn_is he hm (pcall_sound he hm hfs hext k) h1 h2 h
      · cases h

end

end Go.Proofs.YtckojpaklblnpaaDoor.Ev

/- From the evaluator's answer to a row: arguments opened into trees; a law that holds. -/
set_option linter.unusedVariables false
set_option linter.unusedSimpArgs false
namespace Go.Proofs.YtckojpaklblnpaaDoor.Ev
open Go Go.RowKit

/-- All that was there. -/
def All (w : World) : Bool → Nat → Prop := fun _ b => b < w.heap.size

/-- Whatever a claim reads as a value of a type is a tree of this kind. -/
def Opens (P : Program) (t : TypeId) {α : Type} (enc : α → List T) (good : α → Prop) : Prop :=
  ∀ (H : Type) (eH : TypeId × Value → H) (w : World) (fuel : Nat) (cs : List Value) (x : DataW H × List MemPlace), DataW.trod eH P w 0 (fun _ => true) true fuel t cs = some x → ∃ a, good a ∧ IsTs w (fun b => b < w.heap.size) (enc a) cs

/-- The same, for readings of a bounded depth. -/
def OpensB (P : Program) (N : Nat) (t : TypeId) {α : Type} (enc : α → List T) (good : α → Prop) : Prop :=
  ∀ (H : Type) (eH : TypeId × Value → H) (w : World) (fuel : Nat) (cs : List Value) (x : DataW H × List MemPlace), fuel < N → DataW.trod eH P w 0 (fun _ => true) true fuel t cs = some x → ∃ a, good a ∧ IsTs w (fun b => b < w.heap.size) (enc a) cs

section
variable {P : Program}

theorem Opens.at {t : TypeId} {α : Type} {enc : α → List T} {good : α → Prop} (h : Opens P t enc good) (N : Nat) : OpensB P N t enc good := fun H eH w fuel cs x _ hx => h H eH w fuel cs x hx
theorem Opens.of {t : TypeId} {α : Type} {enc : α → List T} {good : α → Prop} (h : ∀ N, OpensB P N t enc good) : Opens P t enc good := fun H eH w fuel cs x hx => h (fuel + 1) H eH w fuel cs x (by omega) hx
theorem OpensB.mono {N M : Nat} {t : TypeId} {α : Type} {enc : α → List T} {good : α → Prop} (h : OpensB P N t enc good) (hl : M ≤ N) : OpensB P M t enc good := fun H eH w fuel cs x hf hx => h H eH w fuel cs x (by omega) hx

theorem opens_int {t : TypeId} {k : IntKind} (h : P.underlying t = some (.int k)) : Opens P t (fun n : Int => [.lit (.int k n)]) (fun n => (Lit.int k n).wf = true) := by
  intro H eH w fuel cs x hx
  obtain ⟨n, rfl, _, hw⟩ := DataW.trod_int h hx
  exact ⟨n, hw, by simp only [IsTs, IsT]; exact ⟨_, [], rfl, ⟨rfl, rfl⟩, rfl⟩⟩

theorem opens_bool {t : TypeId} (h : P.underlying t = some .bool) : Opens P t (fun n : Bool => [.lit (.bool n)]) (fun _ => True) := by
  intro H eH w fuel cs x hx
  obtain ⟨n, rfl, _⟩ := DataW.trod_bool h hx
  exact ⟨n, trivial, by simp only [IsTs, IsT]; exact ⟨_, [], rfl, ⟨rfl, rfl⟩, rfl⟩⟩

theorem opens_string {t : TypeId} (h : P.underlying t = some .string) : Opens P t (fun s : ByteArray => [.lit (.string s)]) (fun s => s.size ≤ maxLen) := by
  intro H eH w fuel cs x hx
  obtain ⟨s, rfl, _, hs⟩ := DataW.trod_string h hx
  exact ⟨s, hs, by simp only [IsTs, IsT]; exact ⟨_, [], rfl, ⟨rfl, rfl⟩, rfl⟩⟩

theorem rows_open {w : World} {φ : Nat → Prop} {α : Type} {enc : α → List T} {good : α → Prop} {sz : Nat} (hsz : ∀ a, (enc a).length = sz) : ∀ (n : Nat) (vs : List Value), (∀ i, i < n → ∃ a, good a ∧ IsTs w φ (enc a) ((vs.drop (i * sz)).take sz)) → ∃ l : List α, l.length = n ∧ (∀ a ∈ l, good a) ∧ IsTRows w φ sz (l.map enc) vs
  | 0, vs, _ => ⟨[], rfl, by simp, by simp only [List.map_nil, IsTRows]⟩
  | n + 1, vs, h => by
    obtain ⟨a, h1, h2⟩ := h 0 (by omega)
    obtain ⟨l, l1, l2, l3⟩ := rows_open hsz n (vs.drop sz) (fun i hi => by
      obtain ⟨b, b1, b2⟩ := h (i + 1) (by omega)
      refine ⟨b, b1, ?_⟩
      rw [List.drop_drop, show sz + i * sz = (i + 1) * sz by rw [Nat.succ_mul]; omega]
      exact b2)
    refine ⟨a :: l, by simp [l1], ?_, ?_⟩
    · intro b hb
      rcases List.mem_cons.mp hb with rfl | hb
      · exact h1
      · exact l2 b hb
    · simp only [List.map_cons, IsTRows]
      refine ⟨hsz a, by simpa using h2, l3⟩

theorem opensB_slice {N : Nat} {t e : TypeId} {α : Type} {enc : α → List T} {good : α → Prop} {sz : Nat} (h : P.underlying t = some (.slice e)) (hc : P.cellsOf e = sz) (hpos : 0 < sz) (hsz : ∀ a, (enc a).length = sz) (he : OpensB P N e enc good) :
    OpensB P (N + 1) t (fun l : List α => [.sl sz (l.map enc)]) (fun l => l.length ≤ maxLen ∧ ∀ a ∈ l, good a) := by
  intro H eH w fuel cs x hfu hx
  rcases DataW.trod_slice h hx with ⟨rfl, _⟩ | ⟨a, len, cap, elems, rest, n, hfn, rfl, _, _, hl, hm, hlen, hel, _, _⟩
  · refine ⟨[], by simp, ?_⟩
    simp only [IsTs, IsT, List.map_nil, List.length_nil]
    exact ⟨_, [], rfl, ⟨none, 0, rfl, Nat.le_refl _, .inl trivial⟩, rfl⟩
  · rw [hc] at hel
    by_cases h0 : len = 0
    · subst h0
      refine ⟨[], by simp, ?_⟩
      simp only [IsTs, IsT, List.map_nil, List.length_nil]
      exact ⟨_, [], rfl, ⟨some a, cap, rfl, Nat.zero_le _, .inl trivial⟩, rfl⟩
    · have each : ∀ i, i < len → ∃ cs', w.cells? 0 (a.add (i * sz)) sz = some cs' ∧ ∃ b, good b ∧ IsTs w (fun b => b < w.heap.size) (enc b) cs' := by
        intro i hi
        have h1 := hel i hi
        rw [List.getElem?_eq_getElem (by omega), Option.bind_eq_some_iff] at h1
        obtain ⟨cs', c1, c2⟩ := h1
        exact ⟨cs', c1, he _ eH w n cs' _ (by omega) c2⟩
      -- the block
      obtain ⟨cs0, c1, _⟩ := each 0 (by omega)
      rw [Nat.zero_mul] at c1
      obtain ⟨_, k2, k3⟩ := World.cells?_some c1
      have h00 := k3 0 hpos
      rw [List.getElem?_eq_getElem (by omega)] at h00
      simp only [Addr.add, if_true] at h00
      unfold World.cell? at h00
      split at h00
      · rename_i cur et fz hheap
        split at h00
        · cases h00
        · rename_i hspot
          have hsp : a.spot = none := by cases hh : a.spot with
            | none => rfl
            | some s => rw [hh] at hspot; simp at hspot
          have ha : a = ⟨a.block, a.off, none⟩ := by cases a; simp only at hsp; subst hsp; rfl
          obtain ⟨l, l1, l2, l3⟩ := rows_open (w := w) (φ := fun b => b < w.heap.size) (good := good) hsz len (cur.toList.drop a.off) (fun i hi => by
            obtain ⟨cs', c1, b, b1, b2⟩ := each i hi
            refine ⟨b, b1, ?_⟩
            obtain ⟨_, k2, k3⟩ := World.cells?_some c1
            have e : ((cur.toList.drop a.off).drop (i * sz)).take sz = cs' := by
              apply List.ext_getElem?
              intro j
              rw [List.getElem?_take]
              split
              · rename_i hj
                rw [← k3 j hj, List.drop_drop, List.getElem?_drop, ha]
                unfold World.cell?
                have e1 : ((⟨a.block, a.off, none⟩ : Addr).add (i * sz)).add j = ⟨a.block, a.off + i * sz + j, none⟩ := by
                  unfold Addr.add
                  by_cases hz : i * sz = 0 <;> by_cases hj0 : j = 0 <;> simp [hz, hj0]
                rw [e1]
                simp only [hheap]
                simp
              · rename_i hj
                rw [List.getElem?_eq_none (by omega)]
            rw [e]
            exact b2)
          refine ⟨l, ⟨by rw [l1]; exact Nat.le_trans hl hm, l2⟩, ?_⟩
          simp only [IsTs, IsT, List.length_map]
          refine ⟨_, [], rfl, ⟨some a, cap, by rw [l1], by rw [l1]; exact hl, .inr ⟨a.block, a.off, cur, et, fz, by rw [← ha], (Array.getElem?_eq_some_iff.mp hheap).1, hheap, l3⟩⟩, rfl⟩
      · cases h00

theorem opens_slice {t e : TypeId} {α : Type} {enc : α → List T} {good : α → Prop} {sz : Nat} (h : P.underlying t = some (.slice e)) (hc : P.cellsOf e = sz) (hpos : 0 < sz) (hsz : ∀ a, (enc a).length = sz) (he : Opens P e enc good) :
    Opens P t (fun l : List α => [.sl sz (l.map enc)]) (fun l => l.length ≤ maxLen ∧ ∀ a ∈ l, good a) := Opens.of fun N => (opensB_slice h hc hpos hsz (he.at N)).mono (by omega)

/-- A struct's fields from a place on. -/
def OpensF (P : Program) (fs : List Go.Field) (off : Nat) {α : Type} (enc : α → List T) (good : α → Prop) : Prop :=
  ∀ (H : Type) (eH : TypeId × Value → H) (w : World) (fuel : Nat) (cs : List Value), (∀ f ∈ fs, ∃ x, DataW.trod eH P w 0 (fun _ => true) true fuel f.type ((cs.drop f.offset).take (P.cellsOf f.type)) = some x) →
    cs.length = off + (fs.map fun f => P.cellsOf f.type).sum → ∃ a, good a ∧ IsTs w (fun b => b < w.heap.size) (enc a) (cs.drop off)

theorem opensF_nil {off : Nat} : OpensF P [] off (fun _ : Unit => []) (fun _ => True) := by
  intro H eH w fuel cs _ hl
  refine ⟨(), trivial, ?_⟩
  simp only [IsTs]
  exact List.drop_eq_nil_of_le (by simpa using Nat.le_of_eq hl)

theorem opensF_cons {f : Go.Field} {fs : List Go.Field} {off sz : Nat} {α β : Type} {enc : α → List T} {good : α → Prop} {enc' : β → List T} {good' : β → Prop} (ho : f.offset = off) (hc : P.cellsOf f.type = sz) (h1 : Opens P f.type enc good) (h2 : OpensF P fs (off + sz) enc' good') :
    OpensF P (f :: fs) off (fun x : α × β => enc x.1 ++ enc' x.2) (fun x => good x.1 ∧ good' x.2) := by
  intro H eH w fuel cs hf hl
  obtain ⟨x, hx⟩ := hf f (by simp)
  obtain ⟨a, a1, a2⟩ := h1 _ eH w fuel _ x hx
  obtain ⟨b, b1, b2⟩ := h2 _ eH w fuel cs (fun g hg => hf g (by simp [hg])) (by rw [hl, List.map_cons, List.sum_cons, hc]; omega)
  refine ⟨(a, b), ⟨a1, b1⟩, ?_⟩
  rw [ho, hc] at a2
  have e : cs.drop off = (cs.drop off).take sz ++ cs.drop (off + sz) := by rw [← List.drop_drop, List.take_append_drop]
  rw [e]
  have app : ∀ {ts us : List T} {vs ws : List Value}, IsTs w (fun b => b < w.heap.size) ts vs → IsTs w (fun b => b < w.heap.size) us ws → IsTs w (fun b => b < w.heap.size) (ts ++ us) (vs ++ ws) := by
    intro ts
    induction ts with
    | nil => intro us vs ws h k; simp only [IsTs] at h; subst h; exact k
    | cons t ts ih =>
      intro us vs ws h k
      simp only [IsTs] at h
      obtain ⟨v, vs', rfl, h2, h3⟩ := h
      simp only [List.cons_append, IsTs]
      exact ⟨v, vs' ++ ws, rfl, h2, ih h3 k⟩
  exact app a2 b2

theorem opens_struct {t : TypeId} {fs : Array Go.Field} {α : Type} {enc : α → List T} {good : α → Prop} (h : P.underlying t = some (.struct fs)) (hl : P.cellsOf t = (fs.toList.map fun f => P.cellsOf f.type).sum) (hf : OpensF P fs.toList 0 enc good) : Opens P t enc good := by
  intro H eH w fuel cs x hx
  obtain ⟨xs, n, _, _, hlen, hsz, hget⟩ := DataW.trod_struct h hx
  have := hf _ eH w n cs (fun f hm => by
    obtain ⟨i, hi⟩ := List.getElem?_of_mem hm
    have hi' : fs[i]? = some f := by simpa using hi
    have hlt : i < fs.size := (Array.getElem?_eq_some_iff.mp hi').1
    exact ⟨xs[i]'(by omega), by rw [hget i f hi', List.getElem?_eq_getElem (by omega)]⟩) (by rw [hlen, hl]; omega)
  simpa using this

/-- A struct's fields from a place on, read to a bounded depth. -/
def OpensFB (P : Program) (N : Nat) (fs : List Go.Field) (off : Nat) {α : Type} (enc : α → List T) (good : α → Prop) : Prop :=
  ∀ (H : Type) (eH : TypeId × Value → H) (w : World) (fuel : Nat) (cs : List Value), fuel < N → (∀ f ∈ fs, ∃ x, DataW.trod eH P w 0 (fun _ => true) true fuel f.type ((cs.drop f.offset).take (P.cellsOf f.type)) = some x) →
    cs.length = off + (fs.map fun f => P.cellsOf f.type).sum → ∃ a, good a ∧ IsTs w (fun b => b < w.heap.size) (enc a) (cs.drop off)

theorem opensFB_nil {N off : Nat} : OpensFB P N [] off (fun _ : Unit => []) (fun _ => True) := by
  intro H eH w fuel cs _ _ hl
  refine ⟨(), trivial, ?_⟩
  simp only [IsTs]
  exact List.drop_eq_nil_of_le (by simpa using Nat.le_of_eq hl)

theorem opensFB_cons {N : Nat} {f : Go.Field} {fs : List Go.Field} {off sz : Nat} {α β : Type} {enc : α → List T} {good : α → Prop} {enc' : β → List T} {good' : β → Prop} (ho : f.offset = off) (hc : P.cellsOf f.type = sz) (h1 : OpensB P N f.type enc good) (h2 : OpensFB P N fs (off + sz) enc' good') :
    OpensFB P N (f :: fs) off (fun x : α × β => enc x.1 ++ enc' x.2) (fun x => good x.1 ∧ good' x.2) := by
  intro H eH w fuel cs hfu hf hl
  obtain ⟨x, hx⟩ := hf f (by simp)
  obtain ⟨a, a1, a2⟩ := h1 _ eH w fuel _ x hfu hx
  obtain ⟨b, b1, b2⟩ := h2 _ eH w fuel cs hfu (fun g hg => hf g (by simp [hg])) (by rw [hl, List.map_cons, List.sum_cons, hc]; omega)
  refine ⟨(a, b), ⟨a1, b1⟩, ?_⟩
  rw [ho, hc] at a2
  have e : cs.drop off = (cs.drop off).take sz ++ cs.drop (off + sz) := by rw [← List.drop_drop, List.take_append_drop]
  rw [e]
  have app : ∀ {ts us : List T} {vs ws : List Value}, IsTs w (fun b => b < w.heap.size) ts vs → IsTs w (fun b => b < w.heap.size) us ws → IsTs w (fun b => b < w.heap.size) (ts ++ us) (vs ++ ws) := by
    intro ts
    induction ts with
    | nil => intro us vs ws h k; simp only [IsTs] at h; subst h; exact k
    | cons t ts ih =>
      intro us vs ws h k
      simp only [IsTs] at h
      obtain ⟨v, vs', rfl, h2, h3⟩ := h
      simp only [List.cons_append, IsTs]
      exact ⟨v, vs' ++ ws, rfl, h2, ih h3 k⟩
  exact app a2 b2

theorem opensB_struct {N : Nat} {t : TypeId} {fs : Array Go.Field} {α : Type} {enc : α → List T} {good : α → Prop} (h : P.underlying t = some (.struct fs)) (hl : P.cellsOf t = (fs.toList.map fun f => P.cellsOf f.type).sum) (hf : OpensFB P N fs.toList 0 enc good) : OpensB P (N + 1) t enc good := by
  intro H eH w fuel cs x hfu hx
  obtain ⟨xs, n, hfn, _, hlen, hsz, hget⟩ := DataW.trod_struct h hx
  have := hf _ eH w n cs (by omega) (fun f hm => by
    obtain ⟨i, hi⟩ := List.getElem?_of_mem hm
    have hi' : fs[i]? = some f := by simpa using hi
    have hlt : i < fs.size := (Array.getElem?_eq_some_iff.mp hi').1
    exact ⟨xs[i]'(by omega), by rw [hget i f hi', List.getElem?_eq_getElem (by omega)]⟩) (by rw [hlen, hl]; omega)
  simpa using this

theorem Opens.map {t : TypeId} {α β : Type} {enc : α → List T} {good : α → Prop} (f : α → β) {enc' : β → List T} {good' : β → Prop} (h : Opens P t enc good) (he : ∀ a, good a → enc' (f a) = enc a) (hg : ∀ a, good a → good' (f a)) : Opens P t enc' good' := by
  intro H eH w fuel cs x hx
  obtain ⟨a, a1, a2⟩ := h _ eH w fuel cs x hx
  exact ⟨f a, hg a a1, by rw [he a a1]; exact a2⟩

theorem OpensB.map {N : Nat} {t : TypeId} {α β : Type} {enc : α → List T} {good : α → Prop} (f : α → β) {enc' : β → List T} {good' : β → Prop} (h : OpensB P N t enc good) (he : ∀ a, good a → enc' (f a) = enc a) (hg : ∀ a, good a → good' (f a)) : OpensB P N t enc' good' := by
  intro H eH w fuel cs x hfu hx
  obtain ⟨a, a1, a2⟩ := h _ eH w fuel cs x hfu hx
  exact ⟨f a, hg a a1, by rw [he a a1]; exact a2⟩

/-- A slot out of trees. -/
theorem slot_of {w : World} {ob : List (Nat × O)} {ρ : Nat → List Value} {ag : Bool} {ts : List T} {v : Value} (hv : valOf ag v.cells.toList v) (h : IsTs w (fun b => b < w.heap.size) ts v.cells.toList) : SlotR w (All w) ob ρ (ofT false ag ts) v :=
  ofT_is h hv

/-- A law that the evaluator finds true. -/
theorem law_holds {run : FuncId → List S → List O → Option (V × List (Option O))} (hs : RunSound P run) {f : FuncId} {fn : Func} (hf : P.funcs[f]? = some fn) (hb : fn.body.isSome = true) (hname : (fn.name == "runtime.NumGoroutine") = false)
    {args : List S} {vals : List Value} {w : World} {os : List (Option O)} (hpin : Pin w (All w)) (hargs : SlotRs w (All w) [] (fun _ => []) args vals) (h : run f args [] = some (.lit (.bool true), os)) :
    Calls P f vals.toArray w (fun e w' => e = .returned (.bool true) ∧ Below w.heap.size w w') := by
  have h1 := hs f args [] _ os (by simp) h w (All w) vals (fun _ => []) [] ⟨rfl, List.nodup_nil, by simp [enterObs], by simp, by simp, fun _ _ h => h, ⟨fun _ h => h, hpin⟩, hargs⟩
  obtain ⟨c, hc⟩ := Option.isSome_iff_exists.mp hb
  unfold Enters at h1
  rw [Go.MuLone.run_callFunc_enter hf hname hc] at h1
  refine Calls.mono h1 ?_
  rintro e w' ⟨val, Φ', ρ', B1, B2, rfl, _, _, hv, hN⟩
  have hv' : val = .bool true := hv.1
  subst hv'
  exact ⟨rfl, hN.os, hN.tape, hN.output, hN.size, fun k hk => hN.block k hk (by simp)⟩

end

end Go.Proofs.YtckojpaklblnpaaDoor.Ev
