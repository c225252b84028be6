/- The evaluator and its soundness, part 4: Tidy Code Args Back Recv Call Run Row. -/
import Derived.Test.YtckojpaklblnpaaGreatDoorKEc
import Derived.Deep.LoopGhost
import Derived.Scope
import Derived.BigCall
import Derived.Conc.MuLone
import Derived.ChangeArms
import Derived.Below
/- Strides of what is empty, told: the memory stays as it is. -/
set_option linter.unusedVariables false
set_option linter.unusedSimpArgs false
namespace Go.Proofs.YtckojpaklblnpaaGreatDoor.Ev
open Go Go.RowKit
theorem nrmTs_len : ∀ (sh : List Sh) (ts : List T), (nrmTs sh ts).length = ts.length
  | [], ts => by cases ts <;> rfl
  | s :: ss, [] => rfl
  | s :: ss, t :: ts => by simp only [nrmTs, List.length_cons, nrmTs_len ss ts]
theorem nrmRows_len (sh : List Sh) : ∀ (rs : List (List T)), (nrmRows sh rs).length = rs.length
  | [] => rfl
  | r :: rs => by simp only [nrmRows, List.length_cons, nrmRows_len sh rs]
theorem nrmCs_len : ∀ (sh : List Sh) (ts : List C), (nrmCs sh ts).length = ts.length
  | [], ts => by cases ts <;> rfl
  | s :: ss, [] => rfl
  | s :: ss, t :: ts => by simp only [nrmCs, List.length_cons, nrmCs_len ss ts]
theorem nrmCRows_len (sh : List Sh) : ∀ (rs : List (List C)), (nrmCRows sh rs).length = rs.length
  | [] => rfl
  | r :: rs => by simp only [nrmCRows, List.length_cons, nrmCRows_len sh rs]
mutual
theorem nrmT_is {w : World} {φ : Nat → Prop} : ∀ (s : Sh) (t : T) (v : Value), IsT w φ t v → IsT w φ (nrmT s t) v
  | .any, .lit _, v, h => by simpa only [nrmT] using h
  | .any, .sl .., v, h => by simpa only [nrmT] using h
  | .bx _, .lit _, v, h => by simpa only [nrmT] using h
  | .bx _, .sl .., v, h => by simpa only [nrmT] using h
  | .pk _, .lit _, v, h => by simpa only [nrmT] using h
  | .pk _, .sl .., v, h => by simpa only [nrmT] using h
  | .sl .., .lit _, v, h => by simpa only [nrmT] using h
  | .sl sz sh, .sl z rows, v, h => by
    simp only [nrmT]
    simp only [IsT] at h ⊢
    obtain ⟨a, cap, h1, h2, h3⟩ := h
    rw [nrmRows_len]
    refine ⟨a, cap, h1, h2, ?_⟩
    rcases h3 with h3 | ⟨b, o, cur, e, fz, h4, h5, h6, h7⟩
    · left; rw [h3]; rfl
    · by_cases hr : rows = []
      · left; rw [hr]; rfl
      · right
        refine ⟨b, o, cur, e, fz, h4, h5, h6, ?_⟩
        rw [if_neg (fun hh => hr hh.2)]
        exact nrmRows_is sh z rows _ h7
theorem nrmTs_is {w : World} {φ : Nat → Prop} : ∀ (sh : List Sh) (ts : List T) (vs : List Value), IsTs w φ ts vs → IsTs w φ (nrmTs sh ts) vs
  | [], [], vs, h => by simpa only [nrmTs] using h
  | [], _ :: _, vs, h => by simpa only [nrmTs] using h
  | _ :: _, [], vs, h => by simpa only [nrmTs] using h
  | s :: ss, t :: ts, vs, h => by
    simp only [nrmTs]
    simp only [IsTs] at h ⊢
    obtain ⟨v, vs', h1, h2, h3⟩ := h
    exact ⟨v, vs', h1, nrmT_is s t v h2, nrmTs_is ss ts vs' h3⟩
theorem nrmRows_is {w : World} {φ : Nat → Prop} (sh : List Sh) (sz : Nat) : ∀ (rs : List (List T)) (vs : List Value), IsTRows w φ sz rs vs → IsTRows w φ sz (nrmRows sh rs) vs
  | [], vs, h => by simpa only [nrmRows] using h
  | r :: rs, vs, h => by
    simp only [nrmRows]
    simp only [IsTRows] at h ⊢
    exact ⟨by rw [nrmTs_len]; exact h.1, nrmTs_is sh r _ h.2.1, nrmRows_is sh sz rs _ h.2.2⟩
end
mutual
theorem nrmT_own {w : World} : ∀ (s : Sh) (t : T) (v : Value) (B : List Nat), IsO w t v B → IsO w (nrmT s t) v B
  | .any, .lit _, v, B, h => by simpa only [nrmT] using h
  | .any, .sl .., v, B, h => by simpa only [nrmT] using h
  | .bx _, .lit _, v, B, h => by simpa only [nrmT] using h
  | .bx _, .sl .., v, B, h => by simpa only [nrmT] using h
  | .pk _, .lit _, v, B, h => by simpa only [nrmT] using h
  | .pk _, .sl .., v, B, h => by simpa only [nrmT] using h
  | .sl .., .lit _, v, B, h => by simpa only [nrmT] using h
  | .sl sz sh, .sl z rows, v, B, h => by
    simp only [nrmT]
    simp only [IsO] at h ⊢
    rw [nrmRows_len]
    rcases h with h | ⟨g, cap, cur, e, fz, B', h1, h2, h3, h4, h5, h6, rfl, h8⟩
    · exact .inl h
    · rw [if_neg (fun hh => by have := h4.1; omega)]
      exact .inr ⟨g, cap, cur, e, fz, B', h1, h2, h3, h4, h5, h6, rfl, nrmRows_own sh z rows _ _ h8⟩
theorem nrmTs_own {w : World} : ∀ (sh : List Sh) (ts : List T) (vs : List Value) (B : List Nat), IsOs w ts vs B → IsOs w (nrmTs sh ts) vs B
  | [], [], vs, B, h => by simpa only [nrmTs] using h
  | [], _ :: _, vs, B, h => by simpa only [nrmTs] using h
  | _ :: _, [], vs, B, h => by simpa only [nrmTs] using h
  | s :: ss, t :: ts, vs, B, h => by
    simp only [nrmTs]
    simp only [IsOs] at h ⊢
    obtain ⟨v, vs', B1, B2, h1, h2, h3, h4⟩ := h
    exact ⟨v, vs', B1, B2, h1, h2, nrmT_own s t v B1 h3, nrmTs_own ss ts vs' B2 h4⟩
theorem nrmRows_own {w : World} (sh : List Sh) (sz : Nat) : ∀ (rs : List (List T)) (vs : List Value) (B : List Nat), IsORows w sz rs vs B → IsORows w sz (nrmRows sh rs) vs B
  | [], vs, B, h => by simpa only [nrmRows] using h
  | r :: rs, vs, B, h => by
    simp only [nrmRows]
    simp only [IsORows] at h ⊢
    obtain ⟨B1, B2, h1, h2, h3, h4⟩ := h
    exact ⟨B1, B2, h1, by rw [nrmTs_len]; exact h2, nrmTs_own sh r _ B1 h3, nrmRows_own sh sz rs _ B2 h4⟩
end
mutual
theorem nrmC_is {w : World} {Φ : Bool → Nat → Prop} : ∀ (c : C) (s : Sh) (v : Value) (B : List Nat), IsC w Φ c v B → IsC w Φ (nrmC s c) v B
  | .im b t, s, v, B, h => by
    have e : nrmC s (.im b t) = .im b (nrmT s t) := by cases s <;> rfl
    rw [e]
    simp only [IsC] at h ⊢
    exact ⟨h.1, nrmT_is s t v h.2⟩
  | .ow t, s, v, B, h => by
    have e : nrmC s (.ow t) = .ow (nrmT s t) := by cases s <;> rfl
    rw [e]
    simp only [IsC] at h ⊢
    exact nrmT_own s t v B h
  | .own z rows, .any, v, B, h => by simpa only [nrmC] using h
  | .own z rows, .sl sz sh, v, B, h => by
    simp only [nrmC]
    apply packRows_is
    simp only [IsC] at h
    rw [nrmCRows_len]
    exact h.imp (fun _ _ => rfl) fun vs B' _ h' => nrmCRows_is rows sh z vs B' h'
  | .own z rows, .pk sh, v, B, h => by
    simp only [nrmC]
    apply packRows_is
    simp only [IsC] at h
    rw [nrmCRows_len]
    exact h.imp (fun _ _ => rfl) fun vs B' _ h' => nrmCRows_is rows sh z vs B' h'
  | .own z rows, .bx sh, v, B, h => by
    simp only [nrmC]
    simp only [IsC] at h ⊢
    rw [nrmCRows_len]
    exact h.imp (fun _ _ => rfl) fun vs B' _ h' => nrmCRows_is rows sh z vs B' h'
  | .hole, .any, v, B, h => by simpa only [nrmC] using h
  | .hole, .bx _, v, B, h => by simpa only [nrmC] using h
  | .hole, .pk _, v, B, h => by simpa only [nrmC] using h
  | .hole, .sl .., v, B, h => by simpa only [nrmC] using h
theorem nrmCs_is {w : World} {Φ : Bool → Nat → Prop} : ∀ (cs : List C) (sh : List Sh) (vs : List Value) (B : List Nat), IsCs w Φ cs vs B → IsCs w Φ (nrmCs sh cs) vs B
  | [], [], vs, B, h => by simpa only [nrmCs] using h
  | _ :: _, [], vs, B, h => by simpa only [nrmCs] using h
  | [], _ :: _, vs, B, h => by simpa only [nrmCs] using h
  | c :: cs, s :: ss, vs, B, h => by
    simp only [nrmCs]
    simp only [IsCs] at h ⊢
    obtain ⟨v, vs', B1, B2, h1, h2, h3, h4⟩ := h
    exact ⟨v, vs', B1, B2, h1, h2, nrmC_is c s v B1 h3, nrmCs_is cs ss vs' B2 h4⟩
theorem nrmCRows_is {w : World} {Φ : Bool → Nat → Prop} : ∀ (rs : List (List C)) (sh : List Sh) (sz : Nat) (vs : List Value) (B : List Nat), IsCRows w Φ sz rs vs B → IsCRows w Φ sz (nrmCRows sh rs) vs B
  | [], sh, sz, vs, B, h => by simpa only [nrmCRows] using h
  | r :: rs, sh, sz, vs, B, h => by
    simp only [nrmCRows]
    simp only [IsCRows] at h ⊢
    obtain ⟨B1, B2, h1, h2, h3, h4⟩ := h
    exact ⟨B1, B2, h1, by rw [nrmCs_len]; exact h2, nrmCs_is r sh _ B1 h3, nrmCRows_is rs sh sz _ B2 h4⟩
end
theorem nrmC_any (c : C) : nrmC .any c = c := by cases c <;> simp [nrmC, nrmT]
theorem nrmC_ow (s : Sh) (t : T) : nrmC s (.ow t) = .ow (nrmT s t) := by cases s <;> rfl
theorem nrmTs_map : ∀ (sh : List Sh) (ts : List T), (nrmTs sh ts).map C.ow = nrmCs sh (ts.map C.ow)
  | [], ts => by cases ts <;> simp [nrmTs, nrmCs]
  | _ :: _, [] => by simp [nrmTs, nrmCs]
  | s :: ss, t :: ts => by simp only [nrmTs, List.map_cons, nrmCs, nrmC_ow, nrmTs_map ss ts]
theorem nrmCs_get : ∀ (sh : List Sh) (cs : List C) (c : Nat), (nrmCs sh cs)[c]? = (cs[c]?).map (nrmC (sh.getD c .any))
  | [], cs, c => by
    have : nrmCs [] cs = cs := by cases cs <;> rfl
    rw [this]
    cases h : cs[c]? <;> simp [nrmC_any]
  | _ :: _, [], c => by simp [nrmCs]
  | s :: ss, x :: cs, 0 => by simp [nrmCs]
  | s :: ss, x :: cs, c + 1 => by simpa [nrmCs] using nrmCs_get ss cs c
theorem nrmRows_get (sh : List Sh) : ∀ (rs : List (List T)) (i : Nat), (nrmRows sh rs)[i]? = (rs[i]?).map (nrmTs sh)
  | [], i => by simp [nrmRows]
  | r :: rs, 0 => by simp [nrmRows]
  | r :: rs, i + 1 => by simpa [nrmRows] using nrmRows_get sh rs i
theorem nrmCRows_get (sh : List Sh) : ∀ (rs : List (List C)) (i : Nat), (nrmCRows sh rs)[i]? = (rs[i]?).map (nrmCs sh)
  | [], i => by simp [nrmCRows]
  | r :: rs, 0 => by simp [nrmCRows]
  | r :: rs, i + 1 => by simpa [nrmCRows] using nrmCRows_get sh rs i
theorem nrm_row {s : Sh} {x : C} {i : Nat} {r : List C} (h : x.row i = some r) : ∃ r', (nrmC s x).row i = some r' ∧ (nrmC s x).sz = x.sz ∧ ∃ sh, r' = nrmCs sh r ∨ ∃ ts, ownedAll (nrmCs sh r) = some ts ∧ r' = ts.map C.ow := by
  cases x with
  | im b t => simp [C.row] at h
  | hole => simp [C.row] at h
  | ow t =>
    cases t with
    | lit v => simp [C.row] at h
    | sl z rows =>
      simp only [C.row, Option.map_eq_some_iff] at h
      obtain ⟨r0, h1, rfl⟩ := h
      have hne : rows ≠ [] := by rintro rfl; simp at h1
      cases s with
      | any => exact ⟨r0.map C.ow, by simp [nrmC, nrmT, C.row, h1], by simp [nrmC, nrmT], [], .inl (by cases hh : r0.map C.ow <;> rfl)⟩
      | pk sh => exact ⟨r0.map C.ow, by simp [nrmC, nrmT, C.row, h1], by simp [nrmC, nrmT], [], .inl (by cases hh : r0.map C.ow <;> rfl)⟩
      | bx sh => exact ⟨r0.map C.ow, by simp [nrmC, nrmT, C.row, h1], by simp [nrmC, nrmT], [], .inl (by cases hh : r0.map C.ow <;> rfl)⟩
      | sl sz sh =>
        refine ⟨(nrmTs sh r0).map C.ow, ?_, ?_, sh, .inl (nrmTs_map sh r0)⟩
        · simp [nrmC, nrmT, C.row, nrmRows_get, h1]
        · simp [nrmC, nrmT, C.sz, hne]
  | own z rows =>
    simp only [C.row] at h
    have key : ∀ sh, (nrmCRows sh rows)[i]? = some (nrmCs sh r) := fun sh => by rw [nrmCRows_get, h]; rfl
    cases s with
    | any => exact ⟨r, by simp [nrmC, C.row, h], by simp [nrmC], [], .inl (by cases r <;> rfl)⟩
    | bx sh => exact ⟨nrmCs sh r, by simp only [nrmC, C.row]; exact key sh, by simp [nrmC, C.sz], sh, .inl rfl⟩
    | sl sz sh =>
      simp only [nrmC]
      unfold packRows
      cases ho : ownedRows (nrmCRows sh rows) with
      | none => exact ⟨nrmCs sh r, by simp only [C.row]; exact key sh, rfl, sh, .inl rfl⟩
      | some l =>
        rcases ownedRows_get ho i with ⟨_, h2⟩ | ⟨r1, ts, h1, h2, h3⟩
        · rw [key] at h2; cases h2
        · rw [key] at h1
          cases h1
          exact ⟨ts.map C.ow, by simp [C.row, h2], rfl, sh, .inr ⟨ts, h3, rfl⟩⟩
    | pk sh =>
      simp only [nrmC]
      unfold packRows
      cases ho : ownedRows (nrmCRows sh rows) with
      | none => exact ⟨nrmCs sh r, by simp only [C.row]; exact key sh, rfl, sh, .inl rfl⟩
      | some l =>
        rcases ownedRows_get ho i with ⟨_, h2⟩ | ⟨r1, ts, h1, h2, h3⟩
        · rw [key] at h2; cases h2
        · rw [key] at h1
          cases h1
          exact ⟨ts.map C.ow, by simp [C.row, h2], rfl, sh, .inr ⟨ts, h3, rfl⟩⟩
mutual
theorem S_ok_true : ∀ (s : S), S.ok (fun _ _ => true) (fun _ _ => true) s = true
  | .vw .. => rfl
  | .sub .. => rfl
  | .ptr .. => rfl
  | .fn _ caps => by simp only [S.ok]; exact S_oks_true caps
  | .tup xs => by simp only [S.ok]; exact S_oks_true xs
  | .dead => rfl
  | .undef => rfl
  | .yn => rfl
  | .nils => rfl
  | .lit _ => rfl
  | .val .. => rfl
  | .agg .. => rfl
  | .pt .. => rfl
theorem S_oks_true : ∀ (l : List S), S.oks (fun _ _ => true) (fun _ _ => true) l = true
  | [] => rfl
  | s :: r => by simp only [S.oks, S_ok_true s, S_oks_true r, Bool.and_self]
end
theorem nrm_path {w : World} : ∀ (p : List (Nat × Nat)) (sh : List Sh) (cs : List C) (vs : List Value), (∀ out, valsAt w cs vs p = some out → valsAt w (nrmCs sh cs) vs p = some out) ∧ (∀ out, addrAt w cs vs p = some out → addrAt w (nrmCs sh cs) vs p = some out)
  | [], sh, cs, vs => ⟨fun out h => h, fun out h => h⟩
  | (c, i) :: p, sh, cs, vs => by
    cases hx : cs[c]? with
    | none => exact ⟨fun out h => by simp [valsAt, hx] at h, fun out h => by simp [addrAt, hx] at h⟩
    | some x =>
      cases hv : vs[c]? with
      | none => exact ⟨fun out h => by simp [valsAt, hx, hv] at h, fun out h => by simp [addrAt, hx, hv] at h⟩
      | some v =>
        cases hst : stepAt w x v i with
        | none => exact ⟨fun out h => by simp [valsAt, hx, hv, hst] at h, fun out h => by simp [addrAt, hx, hv, hst] at h⟩
        | some q =>
          obtain ⟨g, o, r, rv⟩ := q
          have hr := stepAt_some hst
          obtain ⟨r', h1, h2, sh', h3⟩ := nrm_row (s := sh.getD c .any) hr
          have hst' : stepAt w (nrmC (sh.getD c .any) x) v i = some (g, o, r', rv) := by
            unfold stepAt at hst ⊢
            rw [h1, h2]
            rw [hr] at hst
            split at hst
            · rename_i r1 sz ad n cap e1 e2
              cases e1
              rw [e2]
              dsimp only
              split at hst
              · rename_i cur e fz hg
                simp only [Option.some.injEq, Prod.mk.injEq] at hst
                simp only [Option.some.injEq, Prod.mk.injEq]
                exact ⟨hst.1, hst.2.1, trivial, hst.2.2.2⟩
              · cases hst
            · cases hst
          have hx' : (nrmCs sh cs)[c]? = some (nrmC (sh.getD c .any) x) := by rw [nrmCs_get, hx]; rfl
          have ih := nrm_path (w := w) p sh' r rv
          have eq : valsAt w r' rv p = valsAt w (nrmCs sh' r) rv p ∧ addrAt w r' rv p = addrAt w (nrmCs sh' r) rv p := by
            rcases h3 with h3 | ⟨ts, h3, h4⟩
            · rw [h3]; exact ⟨rfl, rfl⟩
            · rw [h4]; exact path_owned p _ ts rv h3
          constructor
          · intro out h
            rw [valsAt] at h ⊢
            simp only [hx, hv, hst] at h
            simp only [hx', hv, hst']
            rw [eq.1]
            exact ih.1 out h
          · intro out h
            rw [addrAt] at h ⊢
            simp only [hx, hv, hst] at h
            simp only [hx', hv, hst']
            cases p with
            | nil => exact h
            | cons q p =>
              dsimp only at h ⊢
              rw [eq.2]
              exact ih.2 out h
theorem Rel.told {w : World} {Φ : Bool → Nat → Prop} {σ : F} {tm : List Value} {ρ : Nat → List Value} {B : List Nat} (h : Rel w Φ σ tm ρ B) (k : Nat) (sh : List Sh) : Rel w Φ (σ.told k sh) tm ρ B := by
  unfold F.told
  split
  rotate_left
  · exact h
  rename_i o ho
  obtain ⟨X, Bk, Y, e1, e2, e3, e4, e5⟩ := h.obs.focus h.keys ho
  have hc := nrmCs_is o.cells sh _ _ e2
  have hob := e5 w Φ { o with cells := nrmCs sh o.cells } Bk (Keeps.refl _ _ _) hc
  rw [← e1] at hob
  have hlk : ∀ j, Ev.look (put_ σ.ob k { o with cells := nrmCs sh o.cells }) j = if j = k then some { o with cells := nrmCs sh o.cells } else Ev.look σ.ob j := fun j => by
    rw [look_put, ho]; rfl
  have C : Over w w Φ Φ σ.ob (put_ σ.ob k { o with cells := nrmCs sh o.cells }) ρ ρ (fun _ _ => true) (fun _ _ => true) := by
    refine ⟨fun _ _ hb => hb, fun _ _ _ => rfl, ?_, ?_⟩
    · intro j p _ o1 vs hl hv
      by_cases hjk : j = k
      · subst hjk
        rw [ho] at hl
        cases hl
        exact ⟨_, by rw [hlk, if_pos rfl], (nrm_path p sh o.cells (ρ j)).1 _ hv⟩
      · exact ⟨o1, by rw [hlk, if_neg hjk]; exact hl, hv⟩
    · intro j p _ o1 g a hl hv
      by_cases hjk : j = k
      · subst hjk
        rw [ho] at hl
        cases hl
        exact ⟨_, by rw [hlk, if_pos rfl], (nrm_path p sh o.cells (ρ j)).2 _ hv⟩
      · exact ⟨o1, by rw [hlk, if_neg hjk]; exact hl, hv⟩
  have key : ∀ (l : List S), S.oks (fun _ _ => true) (fun _ _ => true) l = true := S_oks_true
  exact ⟨hob, h.nd, by rw [put_keys]; exact h.keys, h.disj, h.lt, h.ltΦ, h.sub, C.slots σ.sl tm (key _) h.slots⟩
theorem Rel.tidy {w : World} {Φ : Bool → Nat → Prop} {σ : F} {tm : List Value} {ρ : Nat → List Value} {B : List Nat} (h : Rel w Φ σ tm ρ B) (x : Nat × List Sh) : ∃ ρ' B', Rel w Φ (σ.tidy x) tm ρ' B' ∧ (∀ b ∈ B', b ∈ B) ∧ ∀ j, j < 64 → ρ' j = ρ j := by
  have same : ∃ ρ' B', Rel w Φ σ tm ρ' B' ∧ (∀ b ∈ B', b ∈ B) ∧ ∀ j, j < 64 → ρ' j = ρ j := ⟨ρ, B, h, fun _ hb => hb, fun _ _ => rfl⟩
  have hs := h.slots.get x.1
  have hat : σ.sl.getD x.1 .dead = σ.at_ x.1 := rfl
  rw [hat] at hs
  unfold F.tidy
  split
  · rename_i e
    rw [e] at hs
    simp only [SlotR] at hs
    split
    · rename_i sz r _
      have hc : IsCs w Φ [.ow (.sl sz [])] [.slice none 0 0] [] := by
        simp only [IsCs]
        refine ⟨_, _, [], [], rfl, rfl, ?_, rfl, rfl⟩
        simp only [IsC, IsO]
        exact .inl ⟨rfl, rfl, rfl⟩
      obtain ⟨B', hR, hB⟩ := h.new (keyOf x.1 0) { cells := [.ow (.sl sz [])], var := true } _ [] hc Loose.nil
      refine ⟨(fun j => if j = keyOf x.1 0 then [Value.slice none 0 0] else ρ j), [] ++ B', ?_, fun b hb => hB.subset (by simpa using hb), fun j hj => ?_⟩
      · have := hR.put (some x.1) (s := .vw (keyOf x.1 0) [] 0 1 false) (v := tm.getD x.1 Go.undef) (by
          simp only [SlotR]
          refine ⟨{ cells := [.ow (.sl sz [])], var := true }, [.slice none 0 0], by simp only [F.new, Ev.look, if_true], by simp only [valsAt, if_true], by simp, ?_⟩
          rw [hs]
          simp)
        rw [putL_same] at this
        exact this
      · have : j ≠ keyOf x.1 0 := by unfold keyOf; omega
        simp only [this, if_false]
    · exact same
  · rename_i b t e
    rw [e] at hs
    simp only [SlotR] at hs
    split
    · rename_i s _
      have := h.put (some x.1) (s := .val b (nrmT s t)) (v := tm.getD x.1 Go.undef) (by simp only [SlotR]; exact nrmT_is s t _ hs)
      rw [putL_same] at this
      exact ⟨ρ, B, this, fun _ hb => hb, fun _ _ => rfl⟩
    · exact same
  · rename_i b ts e
    rw [e] at hs
    simp only [SlotR] at hs
    obtain ⟨vs, h1, h2⟩ := hs
    have := h.put (some x.1) (s := .agg b (nrmTs x.2 ts)) (v := tm.getD x.1 Go.undef) (by simp only [SlotR]; exact ⟨vs, h1, nrmTs_is x.2 ts _ h2⟩)
    rw [putL_same] at this
    exact ⟨ρ, B, this, fun _ hb => hb, fun _ _ => rfl⟩
  · exact ⟨ρ, B, h.told _ _, fun _ hb => hb, fun _ _ => rfl⟩
  · exact ⟨ρ, B, h.told _ _, fun _ hb => hb, fun _ _ => rfl⟩
  · exact same
theorem Rel.tidys {w : World} {Φ : Bool → Nat → Prop} : ∀ (l : List (Nat × List Sh)) {σ : F} {tm : List Value} {ρ : Nat → List Value} {B : List Nat}, Rel w Φ σ tm ρ B → ∃ ρ' B', Rel w Φ (σ.tidys l) tm ρ' B' ∧ (∀ b ∈ B', b ∈ B) ∧ ∀ j, j < 64 → ρ' j = ρ j
  | [], σ, tm, ρ, B, h => ⟨ρ, B, h, fun _ hb => hb, fun _ _ => rfl⟩
  | x :: r, σ, tm, ρ, B, h => by
    obtain ⟨ρ1, B1, h1, h2, h3⟩ := h.tidy x
    obtain ⟨ρ2, B2, h4, h5, h6⟩ := Rel.tidys r h1
    exact ⟨ρ2, B2, h4, fun b hb => h2 b (h5 b hb), fun j hj => (h6 j hj).trans (h3 j hj)⟩
theorem Next.told {w w' : World} {Φ Φ' : Bool → Nat → Prop} {ρ ρ' ρ1 : Nat → List Value} {B B' B1 : List Nat} (h : Next w Φ ρ B w' Φ' ρ' B') (hs : ∀ b ∈ B1, b ∈ B') (hρ : ∀ j, j < 64 → ρ1 j = ρ' j) : Next w Φ ρ B w' Φ' ρ1 B1 where
  os := h.os
  tape := h.tape
  output := h.output
  size := h.size
  block := h.block
  own b hb := h.own b (hs b hb)
  mono := h.mono
  fresh := h.fresh
  lent := h.lent
  imp j hj := (hρ j hj).trans (h.imp j hj)
end Go.Proofs.YtckojpaklblnpaaGreatDoor.Ev
/- Regions in their lexical order, and code. -/
set_option linter.unusedVariables false
set_option linter.unusedSimpArgs false
namespace Go.Proofs.YtckojpaklblnpaaGreatDoor.Ev
open Go Go.RowKit
section
variable {P : Program} {e : Env} {run : FuncId → List S → List O → Option (V × List (Option O))}
theorem ok_ops (he : EnvOk P e) (hrun : RunOk P e run) (ops : Array Oper) : ∀ (l : List Oper) (σ σ' : F), opsOf e run ops σ l = some σ' →
    ∀ (w : World) (Φ : Bool → Nat → Prop) (tm : List Value) (ρ : Nat → List Value) (B : List Nat) (ds : List Deferred) (Q : Exit → Act → World → Prop), Rel w Φ σ tm ρ B →
      (∀ tm' w' Φ' ρ' B', Rel w' Φ' σ' tm' ρ' B' → Next w Φ ρ B w' Φ' ρ' B' → Kept (dstsO l) tm tm' → Q .normal ⟨tm'.toArray, ds⟩ w') → wpList P ops Q l ⟨tm.toArray, ds⟩ w
  | [], σ, σ', h, w, Φ, tm, ρ, B, ds, Q, hR, hQ => by
    simp only [opsOf, Option.some.injEq] at h
    subst h
    exact wpList_nil (hQ _ _ _ _ _ hR (Next.refl _ _ _ _) (Kept.refl _ _))
  | o :: r, σ, σ', h, w, Φ, tm, ρ, B, ds, Q, hR, hQ => by
    simp only [opsOf] at h
    refine wpList_step fun K hK => ?_
    split at h
    · rename_i b hgd
      have hw := guard_is hgd hR
      cases b with
      | true =>
        rw [if_pos hw]
        simp only [if_true] at h
        split at h
        · rename_i σ1 h1
          refine (done_of he hrun o h1).ok.kept w Φ tm ρ B ds K Q hR fun tm' w' Φ' ρ' B' hR' hn hkp => hK _ _ ?_
          exact ok_ops he hrun ops r σ1 σ' h w' Φ' tm' ρ' B' ds Q hR' fun tm2 w2 Φ2 ρ2 B2 hR2 hn2 hkp2 => hQ _ _ _ _ _ hR2 (hn.trans hn2) (hkp.trans hkp2 (dstsO_mem (by simp)) (fun i hi => by simp only [dstsO, List.flatMap_cons, List.mem_append]; exact .inr hi))
        · cases h
      | false =>
        simp only [Bool.false_eq_true, if_false] at h
        rw [hw]
        simp only [Bool.false_eq_true, if_false]
        rw [act_put]
        refine hK _ _ ?_
        exact ok_ops he hrun ops r _ σ' h w Φ _ ρ B ds Q (hR.put o.dst (by simp only [SlotR])) fun tm2 w2 Φ2 ρ2 B2 hR2 hn2 hkp2 => hQ _ _ _ _ _ hR2 hn2 ((kept_put (act_put tm ds o.dst undef).symm).trans hkp2 (dstsO_mem (by simp)) (fun i hi => by simp only [dstsO, List.flatMap_cons, List.mem_append]; exact .inr hi))
    · cases h
def exOf : Ex → Exit
  | .normal => .normal
  | .exit id => .exit id
  | .ret => .ret
theorem keepAt_is (f : FuncId) (c : Code) {w : World} {Φ : Bool → Nat → Prop} {σ : F} {tm : List Value} {ρ : Nat → List Value} {B : List Nat} (h : Rel w Φ σ tm ρ B) : ∃ ρ' B', Rel w Φ (keepAt e f c σ) tm ρ' B' ∧ (∀ b ∈ B', b ∈ B) ∧ ∀ j, j < 64 → ρ' j = ρ j := by
  unfold keepAt
  split
  · rename_i id _
    obtain ⟨ρ1, B1, h1, h2, h3⟩ := Rel.tidys (e.nrm f id) h
    obtain ⟨B2, h4, h5⟩ := h1.forget (e.keep f id)
    exact ⟨ρ1, B2, h4, fun b hb => h2 b (h5 b hb), h3⟩
  · exact ⟨ρ, B, h, fun _ hb => hb, fun _ _ => rfl⟩
theorem joinAt_is (f : FuncId) (c : Code) {w : World} {Φ : Bool → Nat → Prop} {σ : F} {tm : List Value} {ρ : Nat → List Value} {B : List Nat} (h : Rel w Φ σ tm ρ B) : ∃ ρ' B', Rel w Φ (joinAt e f c σ) tm ρ' B' ∧ (∀ b ∈ B', b ∈ B) ∧ ∀ j, j < 64 → ρ' j = ρ j := by
  unfold joinAt
  split
  · rename_i id _
    obtain ⟨ρ1, B1, h1, h2, h3⟩ := Rel.tidys (e.nrmJ f id) h
    obtain ⟨B2, h4, h5⟩ := h1.forget (e.join f id)
    exact ⟨ρ1, B2, h4, fun b hb => h2 b (h5 b hb), h3⟩
  · exact ⟨ρ, B, h, fun _ hb => hb, fun _ _ => rfl⟩
theorem choice_is {ops : Array Oper} {k r : Nat} (h : choiceOf e ops = some (k, r)) : ∃ a b c d t v x y, ops = #[a, b, c, d] ∧ a.op = .alloc t ∧ b.op = .store t (.tmp k) (.const (.bool x)) ∧ c.op = .store t (.tmp k) (.const (.bool y)) ∧ d.op = .load t (.tmp k) ∧
    a.dst = some k ∧ b.dst = none ∧ c.dst = none ∧ d.dst = some r ∧ a.guard = none ∧ b.guard = none ∧ c.guard = none ∧ d.guard = none ∧ e.ty t = some v ∧ v.cells = 1 ∧ v.agg = false ∧ k ≠ r := by
  unfold choiceOf at h
  split at h
  · split at h
    · rename_i a b c d hl
      split at h
      · rename_i t k' ha hk
        split at h
        · rename_i t1 k1 x hb
          split at h
          · rename_i t2 k2 y hc
            split at h
            · rename_i t3 k3 r' hd hr
              split at h
              · rename_i v1 v2 v3 v4 v5 hv
                split at h
                · rename_i hh
                  obtain ⟨rfl, rfl, rfl, rfl, rfl, rfl, g1, g2, g3, g4, d2, d3, hne⟩ := hh
                  simp only [Option.some.injEq, Prod.mk.injEq] at h
                  obtain ⟨rfl, rfl⟩ := h
                  exact ⟨a, b, c, d, _, _, x, y, Array.toList_inj.mp hl, ha, hb, hc, hd, hk, d2, d3, hr, g1, g2, g3, g4, hv, rfl, rfl, hne⟩
                · cases h
              · cases h
            · cases h
          · cases h
        · cases h
      · cases h
    · cases h
  · cases h
theorem wpOp_do {ops : Array Oper} {Q : Exit → Act → World → Prop} {i : Nat} {o : Oper} {K : Act → World → Prop} {a : Act} {w : World} (ho : ops[i]? = some o) (hg : o.guard = none) (h : o.wp P a w K Q) : wpOp P ops Q i K a w := by
  unfold wpOp
  rw [ho]
  dsimp only
  rw [if_pos (by simp [Region.wanted, hg])]
  exact .inl h
structure Mid (w : World) (Φ : Bool → Nat → Prop) (σ : F) (tm : List Value) (ρ : Nat → List Value) (B : List Nat) (k : Nat) (t : TypeId) (X : Array Value → Prop) (w' : World) (tm' : List Value) : Prop where
  rel : Rel w' Φ (σ.put (some k) .dead) tm' ρ B
  here : tm'[k]? = some (.pointer (some ⟨w.heap.size, 0, none⟩))
  cell : ∃ cur, w'.heap[w.heap.size]? = some (.cells cur t (0, 0)) ∧ cur.size = 1 ∧ X cur
  next : Next w Φ ρ B w' Φ ρ B
  kept : Kept [k] tm tm'
theorem mid_store (he : EnvOk P e) {w : World} {Φ : Bool → Nat → Prop} {σ : F} {tm : List Value} {ρ : Nat → List Value} {B : List Nat} {k : Nat} {t : TypeId} {v : TV} {X : Array Value → Prop} {w' : World} {tm' : List Value} {ds : List Deferred} {K : Act → World → Prop} {Q : Exit → Act → World → Prop} {o : Oper} {x : Bool}
    (hR : Rel w Φ σ tm ρ B) (hv : e.ty t = some v) (hc : v.cells = 1) (ho : o.op = .store t (.tmp k) (.const (.bool x))) (hd : o.dst = none) (h : Mid w Φ σ tm ρ B k t X w' tm') (hK : ∀ w'', Mid w Φ σ tm ρ B k t (fun cur => cur.toList = [.bool x]) w'' tm' → K ⟨tm'.toArray, ds⟩ w'') : o.wp P ⟨tm'.toArray, ds⟩ w' K Q := by
  obtain ⟨cur, h1, h2, _⟩ := h.cell
  have hone : ∀ y ∈ (Value.bool x).cells.toList, y.oneCell' = true := by
    intro y hy
    simp [Value.cells] at hy
    subst hy
    rfl
  have hrun := run_storeAt (P := P) he hv (w := w') (g := w.heap.size) (a := 0) (x := .bool x) (by rw [hc]; rfl) h1 (fun j _ => by simp) (by omega) hone
  obtain ⟨cur', k1, k2, k3, k4, k5, k6, k7, k8, k9⟩ := setCells_heap (Value.bool x).cells.toList 0 w' cur h1 (by simp [Value.cells, h2])
  have hp : (⟨tm'.toArray, ds⟩ : Act).eval (.tmp k) = .pointer (some ⟨w.heap.size, 0, none⟩) := by
    have := h.here
    simp only [Act.eval]
    simp [this]
  have hgB : w.heap.size ∉ B := fun hb => absurd (hR.lt _ hb) (Nat.lt_irrefl _)
  have hgΦ : ∀ y, ¬Φ y w.heap.size := fun y hy => absurd (hR.ltΦ y _ hy) (Nat.lt_irrefl _)
  unfold Oper.wp
  rw [show (execOp (⟨tm'.toArray, ds⟩ : Act).eval o).run P w' = .ok .skip (w'.setCells w.heap.size 0 (Value.bool x).cells.toList) by
    rw [execOp, ho]; simp only [hp, show (⟨tm'.toArray, ds⟩ : Act).eval (.const (.bool x)) = .bool x from rfl, Sem.run_bind, hrun, Result.andThen_ok, Sem.run_pure]]
  rw [Oper.upon_skip, hd]
  refine hK _ ⟨h.rel.keep ⟨fun _ _ hh => hh, fun y b hb => k5 b (by rintro rfl; exact hgΦ y hb), fun b hb => k5 b (by rintro rfl; exact hgB hb)⟩ (by omega), h.here, ⟨cur', k1, by omega, ?_⟩, ⟨k7.trans h.next.os, k8.trans h.next.tape, k9.trans h.next.output, by rw [k6]; exact h.next.size, fun b hb hn => (k5 b (by omega)).trans (h.next.block b hb hn), fun b hb => .inl hb, fun _ _ hh => hh, fun _ _ hh => .inl hh, fun _ hh => .inl hh, fun _ _ => rfl⟩, h.kept⟩
  have e1 : cur'.toList.length = 1 := by simp [k2, h2]
  simp only [List.drop_zero] at k4
  rw [List.take_of_length_le (by rw [e1]; simp [Value.cells])] at k4
  rw [k4]
  simp [Value.cells]
theorem ok_choice (he : EnvOk P e) (hm : P.follows .mixedOrders = true) {id : Nat} {ops : Array Oper} {σ : F} {k r : Nat} (hch : choiceOf e ops = some (k, r)) (hB : choiceB ops = true ∧ k < σ.sl.length ∧ r < σ.sl.length)
    (w : World) (Φ : Bool → Nat → Prop) (tm : List Value) (ρ : Nat → List Value) (B : List Nat) (ds : List Deferred) (Q : Exit → Act → World → Prop) (hR : Rel w Φ σ tm ρ B)
    (hQ : ∀ tm' w' Φ' ρ' B', Rel w' Φ' ((σ.put (some k) .dead).put (some r) .yn) tm' ρ' B' → Next w Φ ρ B w' Φ' ρ' B' → Kept (dstsO ops.toList) tm tm' → Q .normal ⟨tm'.toArray, ds⟩ w') : (Code.region id ops true).wp P Q ⟨tm.toArray, ds⟩ w := by
  obtain ⟨a, b, c, d, t, v, x, y, hops, ha, hb, hc, hd, da, db, dc, dd, ga, gb, gc, gd, hv, hv1, hv2, hne⟩ := choice_is hch
  obtain ⟨hB, hk, hr⟩ := hB
  have hlen : tm.length = σ.sl.length := hR.slots.length
  unfold choiceB at hB
  simp only [Bool.and_eq_true, beq_iff_eq] at hB
  obtain ⟨⟨⟨⟨⟨⟨r0, r1⟩, r1'⟩, r2⟩, r3⟩, r4⟩, r5⟩ := hB
  have hsz : ops.size = 4 := by rw [hops]; rfl
  have i0 : ops[0]? = some a := by rw [hops]; rfl
  have i1 : ops[1]? = some b := by rw [hops]; rfl
  have i2 : ops[2]? = some c := by rw [hops]; rfl
  have i3 : ops[3]? = some d := by rw [hops]; rfl
  have hdst : dstsO ops.toList = [k, r] := by
    rw [hops]
    simp [dstsO, da, db, dc, dd]
  refine wp_region_any hm ?_
  rw [hsz, show Array.replicate 4 false = #[false, false, false, false] from rfl]
  have hR1 : Rel { w with drawn := w.drawn + 1 } Φ σ tm ρ B := hR.keep (w' := { w with drawn := w.drawn + 1 }) ⟨fun _ _ h => h, fun _ _ _ => rfl, fun _ _ => rfl⟩ (Nat.le_refl _)
  have n0 : Next w Φ ρ B { w with drawn := w.drawn + 1 } Φ ρ B := ⟨rfl, rfl, rfl, Nat.le_refl _, fun _ _ _ => rfl, fun _ h => .inl h, fun _ _ h => h, fun _ _ h => .inl h, fun _ h => .inl h, fun _ _ => rfl⟩
  generalize { w with drawn := w.drawn + 1 } = w0 at hR1 n0 ⊢
  -- the last two steps
  have hload : ∀ (z : Bool) (w' : World) (tm' : List Value), Mid w0 Φ σ tm ρ B k t (fun cur => cur.toList = [.bool z]) w' tm' → wpAny P .any ops Q 1 #[true, true, true, false] ⟨tm'.toArray, ds⟩ w' := by
    intro z w' tm' h
    simp only [wpAny]
    refine ⟨fun hh => absurd hh (by rw [r4]; simp), fun i hi => ?_⟩
    rw [r4] at hi
    simp only [List.mem_singleton] at hi
    subst hi
    refine wpOp_do i3 gd ?_
    obtain ⟨cur, h1, h2, h3⟩ := h.cell
    obtain ⟨u, hu1, hu2⟩ := run_loadVar he hv (w := w') (g := w0.heap.size) (a := 0) h1 (by omega)
    rw [hv1, hv2, h3] at hu2
    have hu : u = .bool z := by
      simp only [valOf, Bool.false_eq_true, if_false, List.drop_zero, List.take_succ_cons, List.take_zero] at hu2
      simpa using hu2.symm
    have hp : (⟨tm'.toArray, ds⟩ : Act).eval (.tmp k) = .pointer (some ⟨w0.heap.size, 0, none⟩) := by
      have := h.here
      simp only [Act.eval]
      simp [this]
    unfold Oper.wp
    rw [show (execOp (⟨tm'.toArray, ds⟩ : Act).eval d).run P w' = .ok (.value u) w' by
      simp only [execOp, hd, hp, Instr.loadAt, Instr.sureAddr, Sem.run_bind, Sem.run_pure, Result.andThen_ok, hu1]]
    rw [Oper.upon_value, act_put, dd, hu]
    simp only [show (#[true, true, true, false] : Array Bool).setIfInBounds 3 true = #[true, true, true, true] from rfl]
    refine ⟨r5, hQ _ w' Φ ρ B (h.rel.put (some r) (by simp only [SlotR]; exact ⟨z, rfl⟩)) (n0.trans h.next) ?_⟩
    rw [hdst]
    exact h.kept.trans (kept_put (act_put tm' ds (some r) (.bool z)).symm) (by simp) (by simp)
  have hA : ∀ (z : Array Value → Prop) (w' : World) (tm' : List Value), Mid w0 Φ σ tm ρ B k t z w' tm' → wpAny P .any ops Q 2 #[true, true, false, false] ⟨tm'.toArray, ds⟩ w' := by
    intro z w' tm' h
    rw [wpAny]
    refine ⟨fun hh => absurd hh (by rw [r2]; simp), fun i hi => ?_⟩
    rw [r2] at hi
    simp only [List.mem_singleton] at hi
    subst hi
    exact wpOp_do i2 gc (mid_store he hR1 hv hv1 hc dc h fun w'' h' => hload _ _ _ h')
  have hA' : ∀ (z : Array Value → Prop) (w' : World) (tm' : List Value), Mid w0 Φ σ tm ρ B k t z w' tm' → wpAny P .any ops Q 2 #[true, false, true, false] ⟨tm'.toArray, ds⟩ w' := by
    intro z w' tm' h
    rw [wpAny]
    refine ⟨fun hh => absurd hh (by rw [r3]; simp), fun i hi => ?_⟩
    rw [r3] at hi
    simp only [List.mem_singleton] at hi
    subst hi
    exact wpOp_do i1 gb (mid_store he hR1 hv hv1 hb db h fun w'' h' => hload _ _ _ h')
  rw [wpAny]
  refine ⟨fun hh => absurd hh (by rw [r0]; simp), fun i hi => ?_⟩
  rw [r0] at hi
  simp only [List.mem_singleton] at hi
  subst hi
  refine wpOp_do i0 ga ?_
  obtain ⟨z, h1', h2, h3⟩ := he.run_zero hv
  have h1 := h1' w0
  have hg := grew_alloc w0 (.cells z.cells.toList.toArray t (0, 0))
  have hrun : (Instr.alloc t true (.tuple #[])).run P w0 = .ok (.pointer (some ⟨w0.heap.size, 0, none⟩)) (w0.alloc (.cells z.cells.toList.toArray t (0, 0))) := by
    simp only [Instr.alloc, Sem.run_bind, h1, Result.andThen_ok, newVar, newRow, run_newObj, Sem.run_pure, Array.toArray_toList]
    rfl
  unfold Oper.wp
  rw [show (execOp (⟨tm.toArray, ds⟩ : Act).eval a).run P w0 = .ok (.value (.pointer (some ⟨w0.heap.size, 0, none⟩))) (w0.alloc (.cells z.cells.toList.toArray t (0, 0))) by
    simp only [execOp, ha, Sem.run_bind, hrun, Result.andThen_ok, Sem.run_pure]]
  rw [Oper.upon_value, act_put, da]
  have hM : Mid w0 Φ σ tm ρ B k t (fun _ => True) (w0.alloc (.cells z.cells.toList.toArray t (0, 0))) (putL tm (some k) (.pointer (some ⟨w0.heap.size, 0, none⟩))) := by
    refine ⟨(hR1.grew hg).put (some k) (by simp only [SlotR]), ?_, ⟨_, hg.get, by simp [h3, hv1], trivial⟩, hg.next (fun b hb => .inl hb) (fun _ _ => rfl), kept_put (act_put tm ds (some k) _).symm⟩
    simp only [putL]
    rw [List.getElem?_set_self (by omega)]
  simp only [show (#[false, false, false, false] : Array Bool).setIfInBounds 0 true = #[true, false, false, false] from rfl]
  rw [wpAny]
  refine ⟨fun hh => absurd r1' (by rw [hh]; simp), fun i hi => ?_⟩
  have := List.all_eq_true.mp r1 i hi
  simp only [Bool.or_eq_true, beq_iff_eq] at this
  rcases this with rfl | rfl
  · exact wpOp_do i1 gb (mid_store he hR1 hv hv1 hb db hM fun w'' h' => hA _ _ _ h')
  · exact wpOp_do i2 gc (mid_store he hR1 hv hv1 hc dc hM fun w'' h' => hA' _ _ _ h')
theorem ok_code (he : EnvOk P e) (hrun : RunOk P e run) (hm : P.follows .mixedOrders = true) (f : FuncId) (n : Nat) : ∀ (c : Code) (σ : F) (ex : Ex) (σ' : F), codeOf e run f n c σ = some (ex, σ') →
    ∀ (w : World) (Φ : Bool → Nat → Prop) (tm : List Value) (ρ : Nat → List Value) (B : List Nat) (ds : List Deferred) (Q : Exit → Act → World → Prop), Rel w Φ σ tm ρ B →
      (∀ tm' w' Φ' ρ' B', Rel w' Φ' σ' tm' ρ' B' → Next w Φ ρ B w' Φ' ρ' B' → Kept (dstsC c) tm tm' → Q (exOf ex) ⟨tm'.toArray, ds⟩ w') → c.wp P Q ⟨tm.toArray, ds⟩ w := by
  intro c
  induction c with
  | skip =>
    intro σ ex σ' h w Φ tm ρ B ds Q hR hQ
    simp only [codeOf, Option.some.injEq, Prod.mk.injEq] at h
    obtain ⟨rfl, rfl⟩ := h
    exact wp_skip (hQ _ _ _ _ _ hR (Next.refl _ _ _ _) (Kept.refl _ _))
  | region id ops draw =>
    intro σ ex σ' h w Φ tm ρ B ds Q hR hQ
    cases draw with
    | false =>
      simp only [codeOf, Bool.false_eq_true, if_false, Option.map_eq_some_iff, Prod.mk.injEq] at h
      obtain ⟨σ1, h1, rfl, rfl⟩ := h
      obtain ⟨B0, hR0, hs⟩ := hR.forget (e.trim f id)
      exact wp_region_list (ok_ops he hrun ops ops.toList _ σ1 h1 w Φ tm ρ B0 ds Q hR0 fun tm' w' Φ' ρ' B' a b c => hQ tm' w' Φ' ρ' B' a (((Next.refl w Φ ρ B).to_sub hs).trans b) c)
    | true =>
      simp only [codeOf, if_true, drawnR] at h
      obtain ⟨B0, hR0, hs⟩ := hR.forget (e.trim f id)
      split at h
      · rename_i k t hch
        split at h
        · rename_i hB
          simp only [Option.some.injEq, Prod.mk.injEq] at h
          obtain ⟨rfl, rfl⟩ := h
          exact ok_choice he hm hch hB w Φ tm ρ B0 ds Q hR0 fun tm' w' Φ' ρ' B' a b c => hQ tm' w' Φ' ρ' B' a (((Next.refl w Φ ρ B).to_sub hs).trans b) c
        · cases h
      · split at h
        · rename_i l τ h1
          unfold drawnF at h
          split at h
          · rename_i hB
            simp only [Option.some.injEq, Prod.mk.injEq] at h
            obtain ⟨rfl, rfl⟩ := h
            exact ok_draw he hrun hm h1 hB w Φ tm ρ B0 ds Q hR0 fun tm' w' Φ' ρ' B' a b c => hQ tm' w' Φ' ρ' B' a (((Next.refl w Φ ρ B).to_sub hs).trans b) c
          · cases h
        · cases h
  | seq a b iha ihb =>
    intro σ ex σ' h w Φ tm ρ B ds Q hR hQ
    simp only [codeOf] at h
    refine wp_seq ?_
    split at h
    · rename_i σ1 h1
      refine iha σ .normal σ1 h1 w Φ tm ρ B ds _ hR fun tm1 w1 Φ1 ρ1 B1 hR1 hn1 hk1 => ?_
      exact ihb σ1 ex σ' h w1 Φ1 tm1 ρ1 B1 ds Q hR1 fun tm2 w2 Φ2 ρ2 B2 hR2 hn2 hk2 => hQ _ _ _ _ _ hR2 (hn1.trans hn2) (hk1.trans hk2 (fun i hi => List.mem_append.mpr (.inl hi)) (fun i hi => List.mem_append.mpr (.inr hi)))
    · rename_i hne
      refine iha σ ex σ' h w Φ tm ρ B ds _ hR fun tm1 w1 Φ1 ρ1 B1 hR1 hn1 hk1 => ?_
      have := hQ _ _ _ _ _ hR1 hn1 (hk1.mono fun i hi => List.mem_append.mpr (.inl hi))
      cases ex with
      | normal => exact absurd h (by intro h; exact hne _ h)
      | exit id => exact this
      | ret => exact this
  | cond c x y ihx ihy =>
    intro σ ex σ' h w Φ tm ρ B ds Q hR hQ
    simp only [codeOf] at h
    split at h
    · rename_i b hb
      have hc := boolOf_is hb (hR.rd (ds := ds) c)
      refine wp_cond hc ?_
      cases b with
      | true => exact ihx σ ex σ' h w Φ tm ρ B ds Q hR fun tm' w' Φ' ρ' B' a b c => hQ tm' w' Φ' ρ' B' a b (c.mono fun i hi => List.mem_append.mpr (.inl hi))
      | false => exact ihy σ ex σ' h w Φ tm ρ B ds Q hR fun tm' w' Φ' ρ' B' a b c => hQ tm' w' Φ' ρ' B' a b (c.mono fun i hi => List.mem_append.mpr (.inr hi))
    · split at h
      · rename_i hyn
        have hs := hR.rd (ds := ds) c
        have hcv : ∃ b, (⟨tm.toArray, ds⟩ : Act).eval c = .bool b := by
          cases hrd : σ.rd c with
          | yn => rw [hrd] at hs; simpa only [SlotR] using hs
          | _ => rw [hrd] at hyn; simp [S.isYn] at hyn
        obtain ⟨b, hb⟩ := hcv
        cases h1 : codeOf e run f n x σ with
        | none => rw [h1] at h; simp [bothF] at h
        | some y1 => cases h2 : codeOf e run f n y σ with
          | none => rw [h1, h2] at h; obtain ⟨e1, τ1⟩ := y1; cases e1 <;> simp [bothF] at h
          | some y2 =>
            rw [h1, h2] at h
            obtain ⟨e1, τ1⟩ := y1
            obtain ⟨e2, τ2⟩ := y2
            cases e1 with
            | normal =>
              cases e2 with
              | normal =>
                simp only [bothF] at h
                split at h
                · rename_i hj
                  simp only [Option.some.injEq, Prod.mk.injEq] at h
                  obtain ⟨rfl, rfl⟩ := h
                  refine wp_cond hb ?_
                  cases b with
                  | true =>
                    refine ihx σ .normal τ1 h1 w Φ tm ρ B ds Q hR fun tm' w' Φ' ρ' B' a b c => ?_
                    obtain ⟨ρ2, B2, hR2, hs2, hρ2⟩ := joinAt_is (e := e) f x a
                    exact hQ tm' w' Φ' ρ2 B2 hR2 (b.told hs2 hρ2) (c.mono fun i hi => List.mem_append.mpr (.inl hi))
                  | false =>
                    refine ihy σ .normal τ2 h2 w Φ tm ρ B ds Q hR fun tm' w' Φ' ρ' B' a b c => ?_
                    obtain ⟨ρ2, B2, hR2, hs2, hρ2⟩ := joinAt_is (e := e) f x a
                    rw [← hj] at hR2
                    exact hQ tm' w' Φ' ρ2 B2 hR2 (b.told hs2 hρ2) (c.mono fun i hi => List.mem_append.mpr (.inr hi))
                · cases h
              | _ => simp [bothF] at h
            | _ => simp [bothF] at h
      · cases h
  | block id c ih =>
    intro σ ex σ' h w Φ tm ρ B ds Q hR hQ
    simp only [codeOf] at h
    refine wp_block ?_
    split at h
    · rename_i j σ1 h1
      refine ih σ (.exit j) σ1 h1 w Φ tm ρ B ds _ hR fun tm1 w1 Φ1 ρ1 B1 hR1 hn1 hk1 => ?_
      simp only [exOf, Exit.inBlock]
      split at h
      · rename_i hj
        simp only [Option.some.injEq, Prod.mk.injEq] at h
        obtain ⟨rfl, rfl⟩ := h
        rw [if_pos hj]
        exact hQ _ _ _ _ _ hR1 hn1 hk1
      · rename_i hj
        simp only [Option.some.injEq, Prod.mk.injEq] at h
        obtain ⟨rfl, rfl⟩ := h
        rw [if_neg hj]
        exact hQ _ _ _ _ _ hR1 hn1 hk1
    · rename_i hne
      refine ih σ ex σ' h w Φ tm ρ B ds _ hR fun tm1 w1 Φ1 ρ1 B1 hR1 hn1 hk1 => ?_
      have := hQ _ _ _ _ _ hR1 hn1 hk1
      cases ex with
      | normal => exact this
      | exit id => exact absurd h (by intro h; exact hne _ _ h)
      | ret => exact this
  | loop c ih =>
    intro σ ex σ' h w Φ tm ρ B ds Q hR hQ
    simp only [codeOf] at h
    refine wp_loop_ghost (fun k a w1 => ∃ σ1 tm1 Φ1 ρ1 B1, a = ⟨tm1.toArray, ds⟩ ∧ Rel w1 Φ1 σ1 tm1 ρ1 B1 ∧ Next w Φ ρ B w1 Φ1 ρ1 B1 ∧ Kept (dstsC c) tm tm1 ∧ iter (round e f c (codeOf e run f n c)) k σ1 = some (ex, σ')) n ⟨σ, tm, Φ, ρ, B, rfl, hR, Next.refl _ _ _ _, Kept.refl _ _, h⟩ ?_
    rintro k a w1 ⟨σ1, tm1, Φ1, ρ1, B1, rfl, hR0, hn1, hk1, hi⟩
    obtain ⟨ρ0, B0, hR1, hs, hρ0⟩ := keepAt_is (e := e) f c hR0
    have hn1 := hn1.told hs hρ0
    cases k with
    | zero => simp [iter] at hi
    | succ k =>
      simp only [iter, round] at hi
      split at hi
      · rename_i σ2 h2
        refine ih _ .normal σ2 h2 w1 Φ1 tm1 ρ0 B0 ds _ hR1 fun tm2 w2 Φ2 ρ2 B2 hR2 hn2 hk2 => ?_
        exact ⟨k, Nat.lt_succ_self k, σ2, tm2, Φ2, ρ2, B2, rfl, hR2, hn1.trans hn2, hk1.trans hk2 (fun _ h => h) (fun _ h => h), hi⟩
      · rename_i hne
        refine ih _ ex σ' hi w1 Φ1 tm1 ρ0 B0 ds _ hR1 fun tm2 w2 Φ2 ρ2 B2 hR2 hn2 hk2 => ?_
        have := hQ _ _ _ _ _ hR2 (hn1.trans hn2) (hk1.trans hk2 (fun _ h => h) (fun _ h => h))
        cases ex with
        | normal => exact absurd hi (by intro h; exact hne _ h)
        | exit id => exact this
        | ret => exact this
  | exit id =>
    intro σ ex σ' h w Φ tm ρ B ds Q hR hQ
    simp only [codeOf, Option.some.injEq, Prod.mk.injEq] at h
    obtain ⟨rfl, rfl⟩ := h
    exact wp_exit (hQ _ _ _ _ _ hR (Next.refl _ _ _ _) (Kept.refl _ _))
  | ret =>
    intro σ ex σ' h w Φ tm ρ B ds Q hR hQ
    simp only [codeOf, Option.some.injEq, Prod.mk.injEq] at h
    obtain ⟨rfl, rfl⟩ := h
    exact wp_ret (hQ _ _ _ _ _ hR (Next.refl _ _ _ _) (Kept.refl _ _))
  | scope c ih =>
    intro σ ex σ' h w Φ tm ρ B ds Q hR hQ
    simp only [codeOf] at h
    refine wp_scope_straight ?_
    refine ih σ ex σ' h w Φ tm ρ B ds _ hR fun tm1 w1 Φ1 ρ1 B1 hR1 hn1 hk1 => ?_
    have := hQ _ _ _ _ _ hR1 hn1 hk1
    cases ex <;> exact this
  | _ => intro σ ex σ' h; simp [codeOf] at h
end
end Go.Proofs.YtckojpaklblnpaaGreatDoor.Ev
/- Arguments of a call: what is handed over, lent, read. -/
set_option linter.unusedVariables false
set_option linter.unusedSimpArgs false
namespace Go.Proofs.YtckojpaklblnpaaGreatDoor.Ev
open Go Go.RowKit
theorem SlotRs.take {w : World} {Φ : Bool → Nat → Prop} {ob : List (Nat × O)} {ρ : Nat → List Value} : ∀ {xs : List S} {us : List Value}, SlotRs w Φ ob ρ xs us → ∀ n, SlotRs w Φ ob ρ (xs.take n) (us.take n)
  | [], us, h, n => by simp only [SlotRs] at h; subst h; simp only [List.take_nil, SlotRs]
  | x :: xs, us, h, 0 => by simp only [List.take_zero, SlotRs]
  | x :: xs, us, h, n + 1 => by
    simp only [SlotRs] at h
    obtain ⟨v, us', rfl, h2, h3⟩ := h
    simp only [List.take_succ_cons, SlotRs]
    exact ⟨v, _, rfl, h2, h3.take n⟩
theorem SlotRs.drop {w : World} {Φ : Bool → Nat → Prop} {ob : List (Nat × O)} {ρ : Nat → List Value} : ∀ {xs : List S} {us : List Value}, SlotRs w Φ ob ρ xs us → ∀ n, SlotRs w Φ ob ρ (xs.drop n) (us.drop n)
  | [], us, h, n => by simp only [SlotRs] at h; subst h; simp only [List.drop_nil, SlotRs]
  | x :: xs, us, h, 0 => by simpa only [List.drop_zero] using h
  | x :: xs, us, h, n + 1 => by
    simp only [SlotRs] at h
    obtain ⟨v, us', rfl, h2, h3⟩ := h
    simp only [List.drop_succ_cons]
    exact h3.drop n
theorem Rel.more {w : World} {Φ : Bool → Nat → Prop} {σ : F} {tm : List Value} {ρ : Nat → List Value} {B : List Nat} (h : Rel w Φ σ tm ρ B) {xs : List S} {vs : List Value} (hx : SlotRs w Φ σ.ob ρ xs vs) : Rel w Φ { σ with sl := σ.sl ++ xs } (tm ++ vs) ρ B :=
  { h with slots := h.slots.append hx }
theorem Rel.push {w : World} {Φ : Bool → Nat → Prop} {σ : F} {tm : List Value} {ρ : Nat → List Value} {B : List Nat} (h : Rel w Φ σ tm ρ B) {s : S} {v : Value} (hs : SlotR w Φ σ.ob ρ s v) : Rel w Φ (σ.push s) (tm ++ [v]) ρ B :=
  h.more (by simp only [SlotRs]; exact ⟨v, [], rfl, hs, rfl⟩)
theorem Rel.short {w : World} {Φ : Bool → Nat → Prop} {σ : F} {tm : List Value} {ρ : Nat → List Value} {B : List Nat} (h : Rel w Φ σ tm ρ B) (n : Nat) : Rel w Φ { σ with sl := σ.sl.take n } (tm.take n) ρ B :=
  { h with slots := h.slots.take n }
theorem Rel.rho {w : World} {Φ : Bool → Nat → Prop} {σ : F} {tm : List Value} {ρ ρ' : Nat → List Value} {B : List Nat} (h : Rel w Φ σ tm ρ B) (hρ : ∀ k ∈ σ.ob.map (·.1), ρ' k = ρ k) : Rel w Φ σ tm ρ' B where
  obs := h.obs.keep (Keeps.refl _ _ _) hρ
  nd := h.nd
  keys := h.keys
  disj := h.disj
  lt := h.lt
  ltΦ := h.ltΦ
  sub := h.sub
  slots := by
    have C := carry_same (w' := w) (Φ' := Φ) (ρ' := ρ') (ob' := σ.ob) h.obs h.keys (Keeps.refl _ _ _) (fun k o hl => ⟨hl, hρ k (look_mem hl)⟩)
    exact C.slots σ.sl tm h.slots
theorem slot_at {w : World} {Φ : Bool → Nat → Prop} {σ : F} {tm : List Value} {ρ : Nat → List Value} {B : List Nat} (h : Rel w Φ σ tm ρ B) {t : Nat} {s : S} (hs : σ.at_ t = s) (hd : s ≠ .dead) : ∃ v, tm[t]? = some v ∧ t < σ.sl.length ∧ SlotR w Φ σ.ob ρ s v := by
  have h1 := h.slots.get t
  have hl := h.slots.length
  unfold F.at_ at hs
  rw [hs] at h1
  rcases Nat.lt_or_ge t σ.sl.length with hlt | hge
  · refine ⟨tm[t]'(by omega), by simp, hlt, ?_⟩
    rw [List.getD_eq_getElem?_getD, List.getElem?_eq_getElem (by omega)] at h1
    exact h1
  · rw [List.getD_eq_getElem?_getD, List.getElem?_eq_none hge] at hs
    exact absurd hs.symm hd
theorem Rel.put_at {w : World} {Φ : Bool → Nat → Prop} {σ : F} {tm : List Value} {ρ : Nat → List Value} {B : List Nat} (h : Rel w Φ σ tm ρ B) {t : Nat} {s : S} {v : Value} (hv : tm[t]? = some v) (hs : SlotR w Φ σ.ob ρ s v) : Rel w Φ (σ.put (some t) s) tm ρ B := by
  have := h.put (some t) hs
  have e : putL tm (some t) v = tm := by
    simp only [putL]
    obtain ⟨hlt, rfl⟩ := List.getElem?_eq_some_iff.mp hv
    exact List.set_getElem_self hlt
  rw [e] at this
  exact this
theorem killAlls_length (k : Nat) : ∀ l : List S, (killAlls k l).length = l.length
  | [] => rfl
  | s :: r => by simp [killAlls, killAlls_length k r]
theorem killThrus_length (k : Nat) (p : List (Nat × Nat)) (off n : Nat) : ∀ l : List S, (killThrus k p off n l).length = l.length
  | [] => rfl
  | s :: r => by simp [killThrus, killThrus_length k p off n r]
theorem lend_is {w : World} {Φ : Bool → Nat → Prop} {σ σ' : F} {tm : List Value} {ρ : Nat → List Value} {B : List Nat} {t tk : Nat} {pls : List (Nat × Nat)} (h : Rel w Φ σ tm ρ B) (hl : σ.lend t tk = some (σ', pls)) :
    ∃ gh ρ' B', Rel w Φ σ' (tm ++ gh) ρ' B' ∧ (∀ b ∈ B', b ∈ B) ∧ (∀ k, k ≠ tk → ρ' k = ρ k) ∧ (∀ pl ∈ pls, pl.2 = tk ∧ (tm ++ gh)[pl.1]? = some (.agg (ρ' tk).toArray)) ∧ σ'.sl.length = σ.sl.length + gh.length := by
  unfold F.lend at hl
  split at hl
  · rename_i k p off n ag hat
    split at hl
    · rename_i o hlo
      split at hl
      · simp only [Option.some.injEq, Prod.mk.injEq] at hl
        obtain ⟨rfl, rfl⟩ := hl
        exact ⟨[], ρ, B, by simpa using h, fun _ hb => hb, fun _ _ => rfl, by simp, by simp⟩
      · split at hl
        · rename_i cs hc
          split at hl
          · rename_i σ1 hw
            split at hl
            · rename_i hcond
              simp only [Bool.and_eq_true, Option.isNone_iff_eq_none, decide_eq_true_eq] at hcond
              simp only [Option.some.injEq, Prod.mk.injEq] at hl
              obtain ⟨rfl, rfl⟩ := hl
              obtain ⟨v, hv, hlt, hs⟩ := slot_at h hat (by simp)
              simp only [SlotR] at hs
              obtain ⟨o1, vs, q1, q2, q3, q4⟩ := hs
              obtain ⟨o2, vs2, Bc, c1, c2, c3, c4, c5, c6, c7⟩ := h.cells hc
              rw [hlo] at q1 c1; cases q1; cases c1
              rw [q2] at c2; cases c2
              obtain ⟨o3, r, cs', w1, w2, w3, w4, w5, rfl⟩ := swap_some hw
              rw [hlo] at w1; cases w1
              obtain ⟨g, a, cur, et, fz, a1, a2, a3, a4, a5⟩ := c7 w2
              have hlen : (cs.map fun c => if c.free then c else C.hole).length = n := by simp [c6]
              have hov := h.over0 (w' := w) (new := cs.map fun c => if c.free then c else C.hole) (nv := (vs.drop off).take n) (L := []) hlo w3 w2 w4 w5 a1 a2 a2 rfl rfl (fun _ _ => rfl) (by rw [hlen]; exact a5.symm) (fun _ _ => rfl) rfl (holes_is c5) Loose.nil
              obtain ⟨B1, Y, vs', r1, r2, r3, r4, r5, r6, _⟩ := hov
              rw [q2] at r2; cases r2
              obtain ⟨o4, r', d1, d2, d3, d4⟩ := cells_some hc
              rw [hlo] at d1; cases d1
              rw [w3] at d2; cases d2
              rw [hlen, ← d4] at r3
              -- the place in the state with holes
              obtain ⟨Bk, hBk, hndk, hck⟩ := h.look hlo
              have hpath := write_path (new := cs.map fun c => if c.free then c else C.hole) (w' := w) (off := off) a2 a2 rfl p o.cells (ρ k) Bk r a cs' hck hndk w3 w2 a1 (fun _ _ => rfl) (fun _ _ _ => rfl) w4 w5
              obtain ⟨X9, hvals⟩ := hpath
              clear X9
              have hpl := place p o.cells (ρ k) Bk r hck hndk w3 w2
              obtain ⟨g9, a9, cur9, e9, fz9, _, _, _, rv9, p1, p2, _, _, p5, _, p7, p8, _, _⟩ := hpl
              rw [a1] at p1; simp only [Option.some.injEq, Prod.mk.injEq] at p1; obtain ⟨rfl, rfl⟩ := p1
              rw [a2] at p5; simp only [Option.some.injEq, Obj.cells.injEq] at p5; obtain ⟨rfl, rfl, rfl⟩ := p5
              rw [q2] at p2; cases p2
              rw [← p8] at hvals
              have hlp : look (put_ σ.ob k { o with cells := cs' }) k = some { o with cells := cs' } := by rw [look_put, if_pos rfl, hlo]; rfl
              have hg1 : SlotR w Φ (put_ σ.ob k { o with cells := cs' }) ρ (.vw k p off n true) (.agg ((vs.drop off).take n).toArray) := by
                simp only [SlotR]
                exact ⟨_, vs, hlp, hvals, q3, rfl⟩
              have hR2 := r1.push hg1
              have hvl : ((vs.drop off).take n).length = n := c5.length.trans c6
              have hdt : (((vs.drop off).take n).drop 0).take n = (vs.drop off).take n := by rw [List.drop_zero]; exact List.take_of_length_le (by omega)
              obtain ⟨B', hR3, hs3⟩ := hR2.new tk { cells := cs } ((vs.drop off).take n) Y r3 r4
              refine ⟨[.agg ((vs.drop off).take n).toArray], _, _, hR3.put_at (t := t) (v := v) ?_ ?_, ?_, ?_, ?_, ?_⟩
              · rw [List.getElem?_append_left (by rw [h.slots.length]; exact hlt)]; exact hv
              · simp only [SlotR]
                refine ⟨{ cells := cs }, (vs.drop off).take n, by simp [F.new, Ev.look], by simp [valsAt], by omega, ?_⟩
                rw [hdt]
                exact q4
              · intro b hb
                rcases List.mem_append.mp hb with hb | hb
                · exact r6 b hb
                · exact (r5 b (hs3.subset hb)).elim id (by simp)
              · intro j hj
                simp [hj]
              · intro pl hpl
                simp only [List.mem_singleton] at hpl
                subst hpl
                refine ⟨rfl, ?_⟩
                rw [← h.slots.length]
                simp
              · simp [F.put, F.new, F.push, killAlls_length, killThrus_length]
            · cases hl
          · cases hl
        · cases hl
    · cases hl
  · simp only [Option.some.injEq, Prod.mk.injEq] at hl
    obtain ⟨rfl, rfl⟩ := hl
    exact ⟨[], ρ, B, by simpa using h, fun _ hb => hb, fun _ _ => rfl, by simp, by simp⟩
theorem lendArgs_is {w : World} {Φ : Bool → Nat → Prop} {how : Nat → Nat} {n0 : Nat} : ∀ (m i : Nat) {σ σ' : F} {tm : List Value} {ρ : Nat → List Value} {B : List Nat} {pls : List (Nat × Nat)}, Rel w Φ σ tm ρ B → lendArgs how n0 m i σ = some (σ', pls) →
    ∃ gh ρ' B', Rel w Φ σ' (tm ++ gh) ρ' B' ∧ (∀ b ∈ B', b ∈ B) ∧ (∀ k, k < keyOf (100000 + i) 0 → ρ' k = ρ k) ∧ (∀ pl ∈ pls, keyOf (100000 + i) 0 ≤ pl.2 ∧ (tm ++ gh)[pl.1]? = some (.agg (ρ' pl.2).toArray)) ∧ σ'.sl.length = σ.sl.length + gh.length
  | 0, i, σ, σ', tm, ρ, B, pls, h, hl => by
    simp only [lendArgs, Option.some.injEq, Prod.mk.injEq] at hl
    obtain ⟨rfl, rfl⟩ := hl
    exact ⟨[], ρ, B, by simpa using h, fun _ hb => hb, fun _ _ => rfl, by simp, by simp⟩
  | m + 1, i, σ, σ', tm, ρ, B, pls, h, hl => by
    simp only [lendArgs] at hl
    split at hl
    · split at hl
      · rename_i σ1 pl h1
        split at hl
        · rename_i σ2 pls2 h2
          simp only [Option.some.injEq, Prod.mk.injEq] at hl
          obtain ⟨rfl, rfl⟩ := hl
          obtain ⟨g1, ρ1, B1, r1, r2, r3, r4, r5⟩ := lend_is h h1
          obtain ⟨g2, ρ2, B2, s1, s2, s3, s4, s5⟩ := lendArgs_is m (i + 1) r1 h2
          have hlt : keyOf (100000 + i) 0 < keyOf (100000 + (i + 1)) 0 := by unfold keyOf; omega
          rw [List.append_assoc] at s1 s4
          refine ⟨g1 ++ g2, ρ2, B2, s1, fun b hb => r2 b (s2 b hb), fun k hk => ?_, fun q hq => ?_, by rw [s5, r5, List.length_append]; omega⟩
          · rw [s3 k (Nat.lt_trans hk hlt), r3 k (Nat.ne_of_lt hk)]
          · rcases List.mem_append.mp hq with hq | hq
            · obtain ⟨e1, e2⟩ := r4 q hq
              refine ⟨by rw [e1]; exact Nat.le_refl _, ?_⟩
              rw [e1, s3 _ hlt, ← List.append_assoc]
              have hlt2 := (List.getElem?_eq_some_iff.mp e2).1
              rw [List.getElem?_append_left hlt2]
              exact e2
            · obtain ⟨e1, e2⟩ := s4 q hq
              exact ⟨Nat.le_trans (Nat.le_of_lt hlt) e1, e2⟩
        · cases hl
      · cases hl
    · obtain ⟨g2, ρ2, B2, s1, s2, s3, s4, s5⟩ := lendArgs_is m (i + 1) h hl
      have hlt : keyOf (100000 + i) 0 < keyOf (100000 + (i + 1)) 0 := by unfold keyOf; omega
      exact ⟨g2, ρ2, B2, s1, s2, fun k hk => s3 k (Nat.lt_trans hk hlt), fun q hq => ⟨Nat.le_trans (Nat.le_of_lt hlt) (s4 q hq).1, (s4 q hq).2⟩, s5⟩
theorem unlend_is {w : World} {Φ : Bool → Nat → Prop} {σ σ' : F} {tm : List Value} {ρ : Nat → List Value} {B : List Nat} {pl : Nat × Nat} (h : Rel w Φ σ tm ρ B) (hg : tm[pl.1]? = some (.agg (ρ pl.2).toArray)) (hu : σ.unlend pl = some σ') :
    ∃ B', Rel w Φ σ' tm ρ B' ∧ ∀ b ∈ B', b ∈ B := by
  unfold F.unlend at hu
  split at hu
  · simp only [Option.some.injEq] at hu
    subst hu
    exact ⟨B, h, fun _ hb => hb⟩
  · rename_i o ho
    split at hu
    · rename_i k p off n hat
      split at hu
      · rename_i hc
        obtain ⟨hn, hkk⟩ := hc
        obtain ⟨v, hv, _, hs⟩ := slot_at h hat (by simp)
        rw [hg] at hv
        simp only [Option.some.injEq] at hv
        subst hv
        simp only [SlotR, if_true] at hs
        obtain ⟨o1, vs, q1, q2, q3, q4⟩ := hs
        simp only [Value.agg.injEq] at q4
        have q5 : ρ pl.2 = (vs.drop off).take n := by simpa using congrArg Array.toList q4
        obtain ⟨B1, r1, r2, r3⟩ := h.del pl.2
        obtain ⟨L, l1, l2, l3⟩ := r3 o ho
        obtain ⟨o2, r, cs', w1, w2, w3, w4, w5, rfl⟩ := swap_some hu
        have hl1 : look (σ.del pl.2).ob k = look σ.ob k := by
          simp only [F.del]
          rw [look_drop h.keys, if_neg hkk]
        have hlo1 := hl1.symm.trans w1
        rw [q1] at hlo1; cases hlo1
        have hcells : (σ.del pl.2).cells k p off o.cells.length = some ((r.drop off).take o.cells.length) := by
          unfold F.cells
          simp only [w1, w3, if_pos w4]
        obtain ⟨o3, vs3, Bc, c1, c2, c3, c4, c5, c6, c7⟩ := r1.cells hcells
        rw [w1] at c1; cases c1
        rw [q2] at c2; cases c2
        obtain ⟨g, a, cur, et, fz, a1, a2, a3, a4, a5⟩ := c7 w2
        rw [hn] at a5
        have hov := r1.over0 (w' := w) (new := o.cells) (nv := ρ pl.2) (L := L) w1 w3 w2 w4 w5 a1 a2 a2 rfl rfl (fun _ _ => rfl) (by rw [hn, ← a5, q5]) (fun _ _ => rfl) rfl l1 l2
        obtain ⟨B', Y, vs', t1, _, _, _, t5, _, _⟩ := hov
        exact ⟨B', t1, fun b hb => (t5 b hb).elim (fun hh => r2.subset hh) (l3 b)⟩
      · cases hu
    · cases hu
theorem unlendAll_is {w : World} {Φ : Bool → Nat → Prop} {tm : List Value} {ρ : Nat → List Value} : ∀ {pls : List (Nat × Nat)} {σ σ' : F} {B : List Nat}, Rel w Φ σ tm ρ B → (∀ pl ∈ pls, tm[pl.1]? = some (.agg (ρ pl.2).toArray)) → unlendAll σ pls = some σ' →
    ∃ B', Rel w Φ σ' tm ρ B' ∧ ∀ b ∈ B', b ∈ B
  | [], σ, σ', B, h, _, hu => by
    simp only [unlendAll, Option.some.injEq] at hu
    subst hu
    exact ⟨B, h, fun _ hb => hb⟩
  | pl :: r, σ, σ', B, h, hg, hu => by
    simp only [unlendAll] at hu
    split at hu
    · rename_i σ1 h1
      obtain ⟨B1, r1, r2⟩ := unlendAll_is h (fun q hq => hg q (by simp [hq])) h1
      obtain ⟨B2, s1, s2⟩ := unlend_is r1 (hg pl (by simp)) hu
      exact ⟨B2, s1, fun b hb => r2 b (s2 b hb)⟩
    · cases hu
/-! ### what is handed over to be read -/
mutual
theorem ok_keys {tv tp : Nat → List (Nat × Nat) → Bool} : ∀ (s : S), (∀ k ∈ s.keys, ∀ p, tv k p = true ∧ tp k p = true) → S.ok tv tp s = true
  | .vw k p _ _ _, h => by simp only [S.ok]; exact (h k (by simp [S.keys]) p).1
  | .sub k p _ _ _ _, h => by simp only [S.ok]; exact (h k (by simp [S.keys]) p).1
  | .ptr k p _, h => by simp only [S.ok]; exact (h k (by simp [S.keys]) p).2
  | .fn _ caps, h => by simp only [S.ok]; exact oks_keys caps (by simpa only [S.keys] using h)
  | .tup xs, h => by simp only [S.ok]; exact oks_keys xs (by simpa only [S.keys] using h)
  | .dead, _ | .undef, _ | .yn, _ | .nils, _ | .lit _, _ | .val _ _, _ | .agg _ _, _ | .pt _ _, _ => by simp only [S.ok]
theorem oks_keys {tv tp : Nat → List (Nat × Nat) → Bool} : ∀ (ss : List S), (∀ k ∈ S.keyss ss, ∀ p, tv k p = true ∧ tp k p = true) → S.oks tv tp ss = true
  | [], _ => rfl
  | s :: r, h => by
    simp only [S.keyss, List.mem_append] at h
    simp only [S.oks, ok_keys s (fun k hk => h k (.inl hk)), oks_keys r (fun k hk => h k (.inr hk)), Bool.and_self]
end
def zipO : List Nat → List O → List (Nat × O)
  | k :: ks, o :: os => (k, o) :: zipO ks os
  | _, _ => []
theorem looks_zip : ∀ {ks : List Nat} {ob : List (Nat × O)} {os : List O}, looks ob ks = some os → os.length = ks.length ∧ (zipO ks os).map (·.1) = ks ∧ ∀ k o, look (zipO ks os) k = some o → look ob k = some o
  | [], ob, os, h => by
    simp only [looks, Option.some.injEq] at h
    subst h
    exact ⟨rfl, rfl, fun k o h => by simp [zipO, look] at h⟩
  | k :: r, ob, os, h => by
    simp only [looks] at h
    split at h
    · rename_i o os' h1 h2
      simp only [Option.some.injEq] at h
      subst h
      obtain ⟨e1, e2, e3⟩ := looks_zip h2
      refine ⟨by simp [e1], by simp [zipO, e2], fun j oj hj => ?_⟩
      simp only [zipO, look] at hj
      split at hj
      · rename_i hkj
        simp only [Option.some.injEq] at hj
        subst hj hkj
        exact h1
      · exact e3 j oj hj
    · cases h
theorem dedup_mem {l : List Nat} {k : Nat} : k ∈ dedup l ↔ k ∈ l := by
  induction l with
  | nil => simp [dedup]
  | cons x r ih =>
    simp only [dedup]
    split
    · rename_i hc
      rw [ih]
      constructor
      · intro h; simp [h]
      · intro h
        rcases List.mem_cons.mp h with rfl | h
        · simpa using hc
        · exact h
    · simp [ih]
theorem dedup_nodup : ∀ (l : List Nat), (dedup l).Nodup
  | [] => by simp [dedup]
  | x :: r => by
    simp only [dedup]
    split
    · exact dedup_nodup r
    · rename_i hc
      exact List.nodup_cons.mpr ⟨fun h => hc (by simpa using dedup_mem.mp h), dedup_nodup r⟩
def lentΦ (Φ : Bool → Nat → Prop) (bs B2 : List Nat) : Bool → Nat → Prop := fun x b => Φ x b ∨ (bs ≠ [] ∧ x = true ∧ b ∈ B2)
theorem borrow_is {w : World} {Φ : Bool → Nat → Prop} {σ : F} {tm : List Value} {ρ : Nat → List Value} {B B2 : List Nat} {ks bs0 bs : List Nat} {ob : List (Nat × O)} (h : Rel w Φ σ tm ρ B) (h2 : Rel w Φ { sl := [], ob := dropAll ks σ.ob } [] ρ B2) (hap : ∀ k ∈ bs, k ∉ ks) (hbs : bs ≠ [] → bs0 ≠ [])
    (hob : ∀ k o, look σ.ob k = some o → k ∈ ks → look ob k = some o) {s x : S} {v : Value} (hx : σ.borrow s = some (x, bs)) (hk : ∀ k ∈ x.keys, k ∈ ks) (hs : SlotR w Φ σ.ob ρ s v) : SlotR w (lentΦ Φ bs0 B2) ob ρ x v := by
  have over : ∀ (y : S), (∀ k ∈ y.keys, k ∈ ks) → SlotR w Φ σ.ob ρ y v → SlotR w (lentΦ Φ bs0 B2) ob ρ y v := by
    intro y hy hs
    have C : Over w w Φ (lentΦ Φ bs0 B2) σ.ob ob ρ ρ (fun k _ => ks.contains k) (fun k _ => ks.contains k) := ⟨fun _ _ hb => .inl hb, fun _ _ _ => rfl,
      fun k p hk o vs hl hv => ⟨o, hob k o hl (by simpa using hk), hv⟩, fun k p hk o g a hl hv => ⟨o, hob k o hl (by simpa using hk), hv⟩⟩
    exact C.slot y v (ok_keys y fun k hk p => by simp [hy k hk]) hs
  have lower : ∀ (k : Nat), k ∉ ks → ∀ (y : S), (∀ j ∈ y.keys, j = k) → SlotR w Φ σ.ob ρ y v → SlotR w Φ (dropAll ks σ.ob) ρ y v := by
    intro k hk y hy hs
    have C : Over w w Φ Φ σ.ob (dropAll ks σ.ob) ρ ρ (fun j _ => !ks.contains j) (fun j _ => !ks.contains j) := ⟨fun _ _ hb => hb, fun _ _ _ => rfl,
      fun j p hj o vs hl hv => ⟨o, by rw [look_dropAll]; simp only [Bool.not_eq_true'] at hj; rw [hj]; exact hl, hv⟩, fun j p hj o g a hl hv => ⟨o, by rw [look_dropAll]; simp only [Bool.not_eq_true'] at hj; rw [hj]; exact hl, hv⟩⟩
    exact C.slot y v (ok_keys y fun j hj p => by rw [hy j hj]; simp [hk]) hs
  have read : ∀ (k : Nat), k ∉ ks → bs = [k] → ∀ (y : S) (ts : List T), (∀ j ∈ y.keys, j = k) → σ.freeOf y = some ts → SlotR w Φ σ.ob ρ y v → IsTs w (lentΦ Φ bs0 B2 true) ts v.cells.toList := by
    intro k hk hbk y ts hy hf hs
    have e : F.freeOf { sl := [], ob := dropAll ks σ.ob } y = some ts := by
      rw [freeOf_congr (σ := σ)]
      · exact hf
      · intro j hj
        rw [hy j hj]
        simp only
        rw [look_dropAll, if_neg (by simpa using hk)]
    have := freeOf_is h2 e (lower k hk y hy hs)
    refine IsTs.mono (fun b hb => ?_) (fun _ _ => rfl) _ _ this
    rcases hb with hb | hb
    · exact .inl hb
    · exact .inr ⟨hbs (by rw [hbk]; simp), rfl, hb⟩
  unfold F.borrow at hx
  split at hx
  · rename_i k p off n ag
    split at hx
    · rename_i ts hts
      simp only [Option.some.injEq, Prod.mk.injEq] at hx
      obtain ⟨rfl, rfl⟩ := hx
      have hr := read k (hap k (by simp)) rfl _ ts (by simp [S.keys]) hts hs
      simp only [SlotR] at hs
      obtain ⟨o, vs, q1, q2, q3, q4⟩ := hs
      cases ag with
      | true =>
        simp only [if_true] at q4
        subst q4
        exact ofT_is hr (by simp [valOf, Value.cells])
      | false =>
        simp only [Bool.false_eq_true, if_false] at q4
        simp only [F.freeOf] at hts
        split at hts
        · rename_i cs hc
          obtain ⟨o', vs', Bc, c1, c2, c3, c4, c5, c6, _⟩ := h.cells hc
          rw [q1] at c1; cases c1
          rw [q2] at c2; cases c2
          have e : v.cells.toList = [v] := by rw [vw_cells (ag := false) c5 (by simpa using q4), q4]
          rw [e] at hr
          exact ofT_is hr (by simp [valOf])
        · cases hts
    · cases hx
  · rename_i k p off sz lo hi
    split at hx
    · rename_i ts hts
      simp only [Option.some.injEq, Prod.mk.injEq] at hx
      obtain ⟨rfl, rfl⟩ := hx
      have hr := read k (hap k (by simp)) rfl _ ts (by simp [S.keys]) hts hs
      simp only [SlotR] at hs
      obtain ⟨o, vs, a, len, cap, _, _, _, _, _, _, _, a', _, rfl⟩ := hs
      rw [one_cells (one_slice _ _ _)] at hr
      exact ofT_is hr (by simp [valOf])
    · cases hx
  · simp only [Option.some.injEq, Prod.mk.injEq] at hx
    obtain ⟨rfl, rfl⟩ := hx
    exact over s hk hs
theorem borrowAll_is {w : World} {Φ : Bool → Nat → Prop} {σ : F} {tm : List Value} {ρ : Nat → List Value} {B B2 : List Nat} {ks bs0 : List Nat} {ob : List (Nat × O)} {how : Nat → Nat} (h : Rel w Φ σ tm ρ B) (h2 : Rel w Φ { sl := [], ob := dropAll ks σ.ob } [] ρ B2)
    (hob : ∀ k o, look σ.ob k = some o → k ∈ ks → look ob k = some o) : ∀ {ss xs : List S} {i : Nat} {bs : List Nat} {vs : List Value}, borrowAll how σ i ss = some (xs, bs) → (∀ k ∈ bs, k ∉ ks) → (bs ≠ [] → bs0 ≠ []) → (∀ k ∈ S.keyss xs, k ∈ ks) → SlotRs w Φ σ.ob ρ ss vs → SlotRs w (lentΦ Φ bs0 B2) ob ρ xs vs
  | [], xs, i, bs, vs, hx, _, _, _, hs => by
    simp only [borrowAll, Option.some.injEq, Prod.mk.injEq] at hx
    obtain ⟨rfl, rfl⟩ := hx
    simpa only [SlotRs] using hs
  | s :: r, xs, i, bs, vs, hx, hap, hbs, hk, hs => by
    simp only [borrowAll] at hx
    split at hx
    · rename_i x b xs' bs' h1 h3
      simp only [Option.some.injEq, Prod.mk.injEq] at hx
      obtain ⟨rfl, rfl⟩ := hx
      simp only [SlotRs] at hs
      obtain ⟨v, vs', rfl, s1, s2⟩ := hs
      simp only [S.keyss, List.mem_append] at hk
      simp only [SlotRs]
      refine ⟨v, vs', rfl, ?_, borrowAll_is h h2 hob h3 (fun k hkb => hap k (List.mem_append.mpr (.inr hkb))) (fun hne => hbs (by simp [hne])) (fun k hkx => hk k (.inr hkx)) s2⟩
      split at h1
      · simp only [Option.some.injEq, Prod.mk.injEq] at h1
        obtain ⟨rfl, rfl⟩ := h1
        have C : Over w w Φ (lentΦ Φ bs0 B2) σ.ob ob ρ ρ (fun k _ => ks.contains k) (fun k _ => ks.contains k) := ⟨fun _ _ hb => .inl hb, fun _ _ _ => rfl,
          fun k p hk o vs hl hv => ⟨o, hob k o hl (by simpa using hk), hv⟩, fun k p hk o g a hl hv => ⟨o, hob k o hl (by simpa using hk), hv⟩⟩
        exact C.slot s v (ok_keys s fun k hk' p => by simp [hk k (.inl hk')]) s1
      · exact borrow_is h h2 (fun k hkb => hap k (List.mem_append.mpr (.inl hkb))) (fun hne => hbs (by simp [hne])) hob h1 (fun k hkx => hk k (.inl hkx)) s1
    · cases hx
end Go.Proofs.YtckojpaklblnpaaGreatDoor.Ev
/- The caller's state behind a call. -/
set_option linter.unusedVariables false
set_option linter.unusedSimpArgs false
namespace Go.Proofs.YtckojpaklblnpaaGreatDoor.Ev
open Go Go.RowKit
theorem back_rel {w w' : World} {Φ Φ' : Bool → Nat → Prop} {σ : F} {tm : List Value} {ρ ρ' : Nat → List Value} {B B' B2 : List Nat} {ks : List Nat} {β : List (Nat × O)} {d : Option Nat} (h : Rel w Φ σ tm ρ B)
    (h2 : IsOb w Φ ρ (dropAll ks σ.ob) B2) (m2 : ∀ b ∈ B2, b ∈ B) (n2 : B2.Nodup)
    (hβ : IsOb w' Φ' ρ' β B') (hβk : (β.map (·.1)).Nodup) (hβn : B'.Nodup) (hβs : ∀ k ∈ β.map (·.1), k ∉ ks → look σ.ob k = none)
    (hd' : ∀ b ∈ B', ∀ x, ¬Φ' x b) (hlt' : ∀ b ∈ B', b < w'.heap.size) (hap : ∀ b ∈ B', b ∉ B2)
    (hsz : w.heap.size ≤ w'.heap.size) (mono : ∀ x b, Φ x b → Φ' x b) (ro : ∀ x b, Φ x b → w'.heap[b]? = w.heap[b]?) (blk : ∀ b ∈ B2, w'.heap[b]? = w.heap[b]?)
    (hd2 : ∀ b ∈ B2, ∀ x, ¬Φ' x b) (hltΦ : ∀ x b, Φ' x b → b < w'.heap.size) (hsub : ∀ b, Φ' false b → Φ' true b)
    (hS : ∀ k ∈ ks, newKey d k = false → ρ' k = ρ k) :
    Rel w' Φ' { sl := σ.sl.map (sift (stillV d ks β) (stillP d ks β)), ob := β ++ dropAll ks σ.ob } tm (fun k => if (β.map (·.1)).contains k then ρ' k else ρ k) (B' ++ B2) := by
  have hkβ : ∀ k ∈ β.map (·.1), look (dropAll ks σ.ob) k = none := by
    intro k hk
    rw [look_dropAll]
    split
    · rfl
    · rename_i hc; exact hβs k hk (by simpa using hc)
  let ρ'' : Nat → List Value := fun k => if (β.map (·.1)).contains k then ρ' k else ρ k
  have ρin : ∀ k ∈ β.map (·.1), ρ'' k = ρ' k := fun k hk => by simp only [ρ'']; rw [if_pos (by simpa using hk)]
  have ρout : ∀ k, k ∉ β.map (·.1) → ρ'' k = ρ k := fun k hk => by simp only [ρ'']; rw [if_neg (by simpa using hk)]
  have hdk : ∀ k ∈ (dropAll ks σ.ob).map (·.1), k ∉ β.map (·.1) := fun k hk hk' => by
    obtain ⟨o2, h2⟩ := look_of_mem hk
    rw [hkβ k hk'] at h2
    cases h2
  have hobs : IsOb w' Φ' ρ'' (β ++ dropAll ks σ.ob) (B' ++ B2) := by
    refine IsOb.append (hβ.keep (Keeps.refl _ _ _) ρin) (h2.keep ⟨mono, ro, blk⟩ fun k hk => ρout k (hdk k hk))
  have hnd' : (B' ++ B2).Nodup := by
    rw [List.nodup_append]
    exact ⟨hβn, n2, fun a ha b hb e => hap a ha (by rw [e]; exact hb)⟩
  have hkeys : ((β ++ dropAll ks σ.ob).map (·.1)).Nodup := by
    rw [List.map_append, List.nodup_append]
    refine ⟨hβk, dropAll_nodup h.keys, fun a ha b hb e => ?_⟩
    subst e
    exact hdk a hb ha
  have hlook : ∀ k, look (β ++ dropAll ks σ.ob) k = match look β k with | some o => some o | none => look (dropAll ks σ.ob) k := fun k => look_append
  have hover : Over w w' Φ Φ' σ.ob (β ++ dropAll ks σ.ob) ρ ρ'' (stillV d ks β) (stillP d ks β) := by
    have side : ∀ k ob1, ks.contains k = false → look σ.ob k = some ob1 → k ∉ β.map (·.1) ∧ look (β ++ dropAll ks σ.ob) k = some ob1 ∧ ∃ Bk, (∀ b ∈ Bk, w'.heap[b]? = w.heap[b]?) ∧ IsCs w Φ ob1.cells (ρ k) Bk := by
      intro k ob1 hc hl
      have hkb : k ∉ β.map (·.1) := fun hk => by
        rw [hβs k hk (by simpa using hc)] at hl
        cases hl
      have hl2 : look (dropAll ks σ.ob) k = some ob1 := by rw [look_dropAll, hc]; exact hl
      obtain ⟨Bk, q1, q2⟩ := look_is h2 (dropAll_nodup h.keys) hl2
      exact ⟨hkb, by rw [hlook, look_none_of hkb]; exact hl2, Bk, fun b hb => blk b (q1 b hb), q2⟩
    refine ⟨mono, ro, ?_, ?_⟩
    · intro k p hk o1 vs hl hv
      unfold stillV at hk
      cases hc : ks.contains k with
      | false =>
        obtain ⟨q1, q2, Bk, q3, q4⟩ := side k o1 hc hl
        exact ⟨o1, q2, by rw [ρout k q1, (keep_vals q4 q3 p).1]; exact hv⟩
      | true =>
        rw [hc] at hk
        simp only [Bool.not_true, Bool.false_or, Bool.and_eq_true, Bool.not_eq_true', List.isEmpty_iff] at hk
        obtain ⟨⟨rfl, hnk⟩, hsome⟩ := hk
        obtain ⟨o2, ho2⟩ := Option.isSome_iff_exists.mp hsome
        refine ⟨o2, by rw [hlook, ho2], ?_⟩
        simp only [valsAt] at hv ⊢
        rw [ρin k (look_mem ho2), hS k (by simpa using hc) hnk]
        exact hv
    · intro k p hk o1 g a hl hv
      unfold stillP at hk
      cases hc : ks.contains k with
      | false =>
        obtain ⟨q1, q2, Bk, q3, q4⟩ := side k o1 hc hl
        exact ⟨o1, q2, by rw [ρout k q1, (keep_vals q4 q3 p).2]; exact hv⟩
      | true =>
        rw [hc] at hk
        simp only [Bool.not_true, Bool.false_or, Bool.and_eq_true, Bool.not_eq_true', beq_iff_eq] at hk
        obtain ⟨⟨rfl, hnk⟩, hrow⟩ := hk
        unfold rowOk at hrow
        split at hrow
        · rename_i o2 ho2
          split at hrow
          · rename_i c' cr' hcells
            obtain ⟨r, hr⟩ := Option.isSome_iff_exists.mp hrow
            refine ⟨o2, by rw [hlook, ho2], ?_⟩
            rw [ρin k (look_mem ho2), hS k (by simpa using hc) hnk]
            simp only [addrAt] at hv
            cases hx : o1.cells[0]? with
            | none => simp [hx] at hv
            | some x =>
              cases hv0 : (ρ k)[0]? with
              | none => simp [hx, hv0] at hv
              | some v0 =>
                simp only [hx, hv0] at hv
                cases hst : stepAt w x v0 0 with
                | none => simp [hst] at hv
                | some q =>
                  obtain ⟨g0, a0, r0, rv0⟩ := q
                  simp only [hst, Option.some.injEq, Prod.mk.injEq] at hv
                  obtain ⟨rfl, rfl⟩ := hv
                  obtain ⟨Bk, q1, q2⟩ := look_is hβ hβk ho2
                  rw [hS k (by simpa using hc) hnk] at q2
                  have hx2 : o2.cells[0]? = some c' := by rw [hcells]; rfl
                  obtain ⟨Bx, q3, q4⟩ := q2.at_ hx2 hv0
                  obtain ⟨g1, a1, rv1, Br, s1, s2, _⟩ := stepAt_row q4 hr
                  simp only [addrAt, hx2, hv0, s1]
                  obtain ⟨z1, ad, n1, c1, z2, z3⟩ := stepAt_zero hst
                  obtain ⟨y1, ad', n2, c2, y2, y3⟩ := stepAt_zero s1
                  rw [z2] at y2
                  simp only [Value.slice.injEq, Option.some.injEq] at y2
                  rw [z1, y1, z3, y3, y2.1]
          · cases hrow
        · cases hrow
  refine ⟨hobs, hnd', hkeys, ?_, ?_, hltΦ, ⟨hsub, h.sub.2.next (fun b hb => mono false b hb) (fun b hb => ro false b hb)⟩, ?_⟩
  · intro b hb x hx
    rcases List.mem_append.mp hb with hb | hb
    · exact hd' b hb x hx
    · exact hd2 b hb x hx
  · intro b hb
    rcases List.mem_append.mp hb with hb | hb
    · exact hlt' b hb
    · exact Nat.lt_of_lt_of_le (h.lt b (m2 b hb)) hsz
  · exact slots_map (fun s v hs => hover.sift hs) h.slots
/-! ### the objects that are handed over, under numbers of their own -/
theorem numOf_get : ∀ {ks : List Nat} {k : Nat}, k ∈ ks → ks[numOf ks k]? = some k
  | [], k, h => by cases h
  | j :: r, k, h => by
    simp only [numOf]
    split
    · rename_i e; simp [e]
    · rename_i e
      rcases List.mem_cons.mp h with rfl | h
      · exact absurd rfl e
      · simp [numOf_get h]
theorem numOf_map : ∀ {ks : List Nat}, ks.Nodup → ks.map (numOf ks) = List.range ks.length
  | [], _ => rfl
  | j :: r, h => by
    simp only [List.nodup_cons] at h
    rw [List.map_cons, List.length_cons, List.range_succ_eq_map, ← numOf_map h.2, List.map_map]
    congr 1
    · simp [numOf]
    · apply List.map_congr_left
      intro k hk
      have : j ≠ k := by rintro rfl; exact h.1 hk
      simp [numOf, this]
theorem enter_look : ∀ {obs : List O} {i j : Nat}, look (enterObs obs i) (i + j) = obs[j]?
  | [], i, j => rfl
  | o :: r, i, 0 => by simp [enterObs, look]
  | o :: r, i, j + 1 => by
    simp only [enterObs, look]
    rw [if_neg (by omega)]
    have := enter_look (obs := r) (i := i + 1) (j := j)
    rw [show i + 1 + j = i + (j + 1) by omega] at this
    simpa using this
theorem zip_look : ∀ {ks : List Nat} {obs : List O} {j k : Nat}, ks.Nodup → ks[j]? = some k → look (zipO ks obs) k = obs[j]?
  | [], _, _, _, _, h => by simp at h
  | i :: r, [], j, k, _, _ => by simp [zipO, look]
  | i :: r, o :: os, 0, k, hn, h => by
    simp only [List.getElem?_cons_zero, Option.some.injEq] at h
    subst h
    simp [zipO, look]
  | i :: r, o :: os, j + 1, k, hn, h => by
    simp only [List.nodup_cons] at hn
    simp only [List.getElem?_cons_succ] at h ⊢
    have : i ≠ k := by
      rintro rfl
      exact hn.1 (List.mem_of_getElem? h)
    simp only [zipO, look]
    rw [if_neg this]
    exact zip_look hn.2 h
theorem enter_keys : ∀ (obs : List O) (i : Nat), (enterObs obs i).map (·.1) = (List.range obs.length).map (i + ·)
  | [], i => rfl
  | o :: r, i => by
    simp only [enterObs, List.map_cons, List.length_cons, List.range_succ_eq_map, enter_keys r (i + 1), List.map_map, Nat.add_zero]
    congr 1
    apply List.map_congr_left
    intro x _
    simp
    omega
theorem enter_is {w : World} {Φ : Bool → Nat → Prop} {ρ ρ' : Nat → List Value} : ∀ {ks : List Nat} {obs : List O} {i : Nat} {B : List Nat}, obs.length = ks.length → IsOb w Φ ρ (zipO ks obs) B → (∀ j k, ks[j]? = some k → ρ' (i + j) = ρ k) → IsOb w Φ ρ' (enterObs obs i) B
  | [], [], i, B, _, h, _ => h
  | [], _ :: _, _, _, hl, _, _ => by simp at hl
  | _ :: _, [], _, _, hl, _, _ => by simp at hl
  | k :: r, o :: os, i, B, hl, h, hρ => by
    obtain ⟨B1, B2, rfl, h2, h3⟩ := h
    refine ⟨B1, B2, rfl, ?_, enter_is (by simpa using hl) h3 fun j k' hj => ?_⟩
    · have := hρ 0 k rfl
      rw [Nat.add_zero] at this
      rw [this]
      exact h2
    · have := hρ (j + 1) k' (by simpa using hj)
      rw [show i + (j + 1) = i + 1 + j by omega] at this
      exact this
theorem enter_rel {w : World} {Φ : Bool → Nat → Prop} {ρ : Nat → List Value} {ks : List Nat} {obs : List O} {xs : List S} {vs : List Value} {B : List Nat} (hk : ks.Nodup) (hlen : obs.length = ks.length) (ho : IsOb w Φ ρ (zipO ks obs) B) (hs : SlotRs w Φ (zipO ks obs) ρ xs vs)
    (nd : B.Nodup) (disj : ∀ b ∈ B, ∀ x, ¬Φ x b) (lt : ∀ b ∈ B, b < w.heap.size) (ltΦ : ∀ x b, Φ x b → b < w.heap.size) (sub : Subs w Φ) :
    Rel w Φ { sl := S.renums (numOf ks) xs, ob := enterObs obs 0 } vs (fun j => ρ (ks.getD j 0)) B where
  obs := enter_is hlen ho fun j k hj => by simp [List.getD_eq_getElem?_getD, hj]
  nd := nd
  keys := by
    rw [enter_keys]
    simpa using List.nodup_range
  disj := disj
  lt := lt
  ltΦ := ltΦ
  sub := sub
  slots := by
    have key : ∀ k o, look (zipO ks obs) k = some o → look (enterObs obs 0) (numOf ks k) = some o ∧ ks.getD (numOf ks k) 0 = k := by
      intro k o hl
      have hm : k ∈ ks := by
        have := look_mem hl
        have e : ∀ {ks : List Nat} {obs : List O}, ∀ x ∈ (zipO ks obs).map (·.1), x ∈ ks := by
          intro ks
          induction ks with
          | nil => intro obs x hx; simp [zipO] at hx
          | cons i r ih =>
            intro obs x hx
            cases obs with
            | nil => simp [zipO] at hx
            | cons o os =>
              simp only [zipO, List.map_cons, List.mem_cons] at hx ⊢
              exact hx.imp id (ih x)
        exact e k this
      have hg := numOf_get hm
      refine ⟨?_, by simp [List.getD_eq_getElem?_getD, hg]⟩
      have := enter_look (obs := obs) (i := 0) (j := numOf ks k)
      rw [Nat.zero_add] at this
      rw [this, ← zip_look hk hg]
      exact hl
    have C : Carry w w Φ Φ (zipO ks obs) (enterObs obs 0) ρ (fun j => ρ (ks.getD j 0)) (S.renum (numOf ks)) (S.renums (numOf ks)) := by
      refine { mono := fun _ _ h => h, ro := fun _ _ _ => rfl, nil := rfl, cons := fun _ _ => rfl, fn := fun _ _ => rfl, tup := fun _ => rfl, rest := fun s hs => by cases s <;> first | rfl | exact hs.elim, vals := ?_, sub := ?_, ptr := ?_ }
      · intro k p off n
        refine .inr ⟨numOf ks k, fun ag => rfl, fun o vs h1 h2 h3 => ?_⟩
        obtain ⟨e1, e2⟩ := key k o h1
        exact ⟨o, vs, e1, by rw [e2]; exact h2, h3, rfl⟩
      · intro k p off sz lo hi
        refine .inr ⟨numOf ks k, rfl, fun o vs h1 h2 h3 => ?_⟩
        obtain ⟨e1, e2⟩ := key k o h1
        exact ⟨o, vs, e1, by rw [e2]; exact h2, h3, rfl⟩
      · intro k p off
        refine .inr ⟨numOf ks k, rfl, fun o g a h1 h2 => ?_⟩
        obtain ⟨e1, e2⟩ := key k o h1
        exact ⟨o, e1, by rw [e2]; exact h2⟩
    exact C.slots xs vs hs
theorem backs_look : ∀ {ks : List Nat} {os : List (Option O)} {j k : Nat}, ks.Nodup → ks[j]? = some k → look (backs ks os) k = (os[j]?).join
  | [], _, _, _, _, h => by simp at h
  | i :: r, [], j, k, _, _ => by simp [backs, look]
  | i :: r, o :: os, j, k, hn, h => by
    simp only [List.nodup_cons] at hn
    cases j with
    | zero =>
      simp only [List.getElem?_cons_zero, Option.some.injEq] at h
      subst h
      cases o with
      | some o => simp [backs, look]
      | none =>
        simp only [backs, List.getElem?_cons_zero, Option.join_some]
        cases hl : look (backs r os) i with
        | none => rfl
        | some o =>
          exfalso
          have e : ∀ {ks : List Nat} {os : List (Option O)}, ∀ x ∈ (backs ks os).map (·.1), x ∈ ks := by
            intro ks
            induction ks with
            | nil => intro obs x hx; simp [backs] at hx
            | cons i r ih =>
              intro obs x hx
              cases obs with
              | nil => simp [backs] at hx
              | cons o os =>
                cases o with
                | none => simp only [backs] at hx; exact List.mem_cons.mpr (.inr (ih x hx))
                | some o =>
                  simp only [backs, List.map_cons, List.mem_cons] at hx ⊢
                  exact hx.imp id (ih x)
          exact hn.1 (e i (look_mem hl))
    | succ j =>
      simp only [List.getElem?_cons_succ] at h ⊢
      have hik : i ≠ k := by
        rintro rfl
        exact hn.1 (List.mem_of_getElem? h)
      cases o with
      | some o =>
        simp only [backs, look]
        rw [if_neg hik]
        exact backs_look hn.2 h
      | none =>
        simp only [backs]
        exact backs_look hn.2 h
theorem backs_mem : ∀ {ks : List Nat} {os : List (Option O)}, ∀ x ∈ (backs ks os).map (·.1), x ∈ ks
  | [], _, x, hx => by simp [backs] at hx
  | i :: r, [], x, hx => by simp [backs] at hx
  | i :: r, none :: os, x, hx => by simp only [backs] at hx; exact List.mem_cons.mpr (.inr (backs_mem x hx))
  | i :: r, some o :: os, x, hx => by
    simp only [backs, List.map_cons, List.mem_cons] at hx ⊢
    exact hx.imp id (backs_mem x)
theorem backs_nodup : ∀ {ks : List Nat} {os : List (Option O)}, ks.Nodup → ((backs ks os).map (·.1)).Nodup
  | [], _, _ => by simp [backs]
  | i :: r, [], _ => by simp [backs]
  | i :: r, none :: os, h => by simp only [List.nodup_cons] at h; exact backs_nodup (ks := r) h.2
  | i :: r, some o :: os, h => by
    simp only [List.nodup_cons] at h
    simp only [backs, List.map_cons, List.nodup_cons]
    exact ⟨fun hm => h.1 (backs_mem i hm), backs_nodup h.2⟩
theorem backs_is {w : World} {Φ : Bool → Nat → Prop} {ρ : Nat → List Value} (g : Nat → Nat) : ∀ {ks : List Nat} {os : List (Option O)} {B : List Nat}, IsOb w Φ ρ (backs (ks.map g) os) B → IsOb w Φ (fun k => ρ (g k)) (backs ks os) B
  | [], _, _, h => h
  | i :: r, [], _, h => h
  | i :: r, none :: os, _, h => backs_is g (ks := r) h
  | i :: r, some o :: os, _, h => by
    obtain ⟨B1, B2, rfl, h2, h3⟩ := h
    exact ⟨B1, B2, rfl, h2, backs_is g (ks := r) h3⟩
/-! ### what holds nothing lent -/
section
variable {w : World} {Φ Φ' : Bool → Nat → Prop}
mutual
theorem IsC.plain (hf : ∀ b, Φ false b → Φ' false b) : ∀ (c : C) (v : Value) (B : List Nat), (C.lent c = true → ∀ b, Φ true b → Φ' true b) → IsC w Φ c v B → IsC w Φ' c v B
  | .im x t, v, B, ht, h => by
    simp only [IsC] at h ⊢
    refine ⟨h.1, ?_⟩
    cases t with
    | lit y => simpa only [IsT] using h.2
    | sl sz rows =>
      refine IsT.mono (fun b hb => ?_) (fun _ _ => rfl) _ _ h.2
      cases x with
      | false => exact hf b hb
      | true => exact ht (by simp [C.lent, T.isLit]) b hb
  | .ow t, v, B, ht, h => by simpa only [IsC] using h
  | .own sz rows, v, B, ht, h => by
    simp only [IsC] at h ⊢
    exact h.imp (fun _ _ => rfl) fun vs B' _ h' => IsCRows.plain hf sz rows vs B' (fun hl => ht (by simpa only [C.lent] using hl)) h'
  | .hole, v, B, ht, h => by simpa only [IsC] using h
theorem IsCs.plain (hf : ∀ b, Φ false b → Φ' false b) : ∀ (cs : List C) (vs : List Value) (B : List Nat), (lentAll cs = true → ∀ b, Φ true b → Φ' true b) → IsCs w Φ cs vs B → IsCs w Φ' cs vs B
  | [], _, _, _, h => by simpa only [IsCs] using h
  | c :: cs, vs, B, ht, h => by
    simp only [IsCs] at h ⊢
    obtain ⟨v, vs', B1, B2, h1, h2, h3, h4⟩ := h
    exact ⟨v, vs', B1, B2, h1, h2, IsC.plain hf c v B1 (fun hl => ht (by simp [lentAll, hl])) h3, IsCs.plain hf cs vs' B2 (fun hl => ht (by simp [lentAll, hl])) h4⟩
theorem IsCRows.plain (hf : ∀ b, Φ false b → Φ' false b) (sz : Nat) : ∀ (rs : List (List C)) (vs : List Value) (B : List Nat), (lentRows rs = true → ∀ b, Φ true b → Φ' true b) → IsCRows w Φ sz rs vs B → IsCRows w Φ' sz rs vs B
  | [], _, _, _, h => by simpa only [IsCRows] using h
  | r :: rs, vs, B, ht, h => by
    simp only [IsCRows] at h ⊢
    obtain ⟨B1, B2, h1, h2, h3, h4⟩ := h
    exact ⟨B1, B2, h1, h2, IsCs.plain hf r _ B1 (fun hl => ht (by simp [lentRows, hl])) h3, IsCRows.plain hf sz rs _ B2 (fun hl => ht (by simp [lentRows, hl])) h4⟩
end
theorem backs_plain {ρ : Nat → List Value} (hf : ∀ b, Φ false b → Φ' false b) : ∀ {ks : List Nat} {os : List (Option O)} {B : List Nat}, (lentO os = true → ∀ b, Φ true b → Φ' true b) → IsOb w Φ ρ (backs ks os) B → IsOb w Φ' ρ (backs ks os) B
  | [], _, _, _, h => h
  | i :: r, [], _, _, h => h
  | i :: r, none :: os, _, ht, h => backs_plain hf (ks := r) (fun hl => ht (by simpa only [lentO] using hl)) h
  | i :: r, some o :: os, _, ht, h => by
    obtain ⟨B1, B2, rfl, h2, h3⟩ := h
    exact ⟨B1, B2, rfl, IsCs.plain hf _ _ _ (fun hl => ht (by simp [lentO, hl])) h2, backs_plain hf (fun hl => ht (by simp [lentO, hl])) h3⟩
end
end Go.Proofs.YtckojpaklblnpaaGreatDoor.Ev
/- Results of a call, in the caller. -/
set_option linter.unusedVariables false
set_option linter.unusedSimpArgs false
namespace Go.Proofs.YtckojpaklblnpaaGreatDoor.Ev
open Go Go.RowKit
def VR (w : World) (Φ : Bool → Nat → Prop) (ob : List (Nat × O)) (ρ : Nat → List Value) : V → Value → List Nat → Prop
  | .lit x, v, B => v = x ∧ one x ∧ B = []
  | .val b t, v, B => IsT w (Φ b) t v ∧ B = []
  | .agg b ts, v, B => (∃ vs, v = .agg vs.toArray ∧ IsTs w (Φ b) ts vs) ∧ B = []
  | .nils, v, B => v = .slice none 0 0 ∧ B = []
  | .ov cells ag, v, B => ∃ vs, IsCs w Φ cells vs B ∧ valOf ag vs v
  | .op cells, v, B => ∃ vs g a, IsCs w Φ cells vs B ∧ addrAt w cells vs [(0, 0)] = some (g, a) ∧ v = .pointer (some ⟨g, a, none⟩)
  | .ptr k p off, v, B => SlotR w Φ ob ρ (.ptr k p off) v ∧ B = []
  | .tup _, _, _ => False
def VRs (w : World) (Φ : Bool → Nat → Prop) (ob : List (Nat × O)) (ρ : Nat → List Value) : List V → List Value → List Nat → Prop
  | [], vs, B => vs = [] ∧ B = []
  | x :: r, vs, B => ∃ v vs' B1 B2, vs = v :: vs' ∧ B = B1 ++ B2 ∧ VR w Φ ob ρ x v B1 ∧ VRs w Φ ob ρ r vs' B2
def VRt (w : World) (Φ : Bool → Nat → Prop) (ob : List (Nat × O)) (ρ : Nat → List Value) : V → Value → List Nat → Prop
  | .tup vs, v, B => ∃ l, v = .tuple l.toArray ∧ VRs w Φ ob ρ vs l B
  | x, v, B => VR w Φ ob ρ x v B
theorem vrt_one {w : World} {Φ : Bool → Nat → Prop} {ob : List (Nat × O)} {ρ : Nat → List Value} {x : V} {v : Value} {B : List Nat} (hx : ∀ vs, x ≠ .tup vs) (h : VRt w Φ ob ρ x v B) : VR w Φ ob ρ x v B := by
  cases x with
  | tup vs => exact absurd rfl (hx vs)
  | _ => exact h
theorem T.lit_of {t : T} (h : t.isLit = true) : ∃ x, t = .lit x := by
  cases t with
  | lit x => exact ⟨x, rfl⟩
  | sl _ _ => cases h
theorem lits_plain {w : World} {φ φ' : Nat → Prop} : ∀ {ts : List T} {vs : List Value}, ts.any (fun t => !t.isLit) = false → IsTs w φ ts vs → IsTs w φ' ts vs
  | [], vs, _, h => by simpa only [IsTs] using h
  | t :: ts, vs, hl, h => by
    simp only [List.any_cons, Bool.or_eq_false_iff, Bool.not_eq_false'] at hl
    obtain ⟨x, rfl⟩ := T.lit_of hl.1
    simp only [IsTs, IsT] at h ⊢
    obtain ⟨v, vs', h1, h2, h3⟩ := h
    exact ⟨v, vs', h1, h2, lits_plain hl.2 h3⟩
theorem VR.plain {w : World} {Φ Φ' : Bool → Nat → Prop} {ob : List (Nat × O)} {ρ : Nat → List Value} (hf : ∀ b, Φ false b → Φ' false b) {x : V} {v : Value} {B : List Nat} (ht : x.lent = true → ∀ b, Φ true b → Φ' true b) (h : VR w Φ ob ρ x v B) : VR w Φ' ob ρ x v B := by
  cases x with
  | lit y => exact h
  | val b t =>
    simp only [VR] at h ⊢
    refine ⟨?_, h.2⟩
    cases t with
    | lit y => simpa only [IsT] using h.1
    | sl sz rows =>
      refine IsT.mono (fun c hc => ?_) (fun _ _ => rfl) _ _ h.1
      cases b with
      | false => exact hf c hc
      | true => exact ht (by simp [V.lent, T.isLit]) c hc
  | agg b ts =>
    simp only [VR] at h ⊢
    obtain ⟨⟨vs, h1, h2⟩, h3⟩ := h
    refine ⟨⟨vs, h1, ?_⟩, h3⟩
    cases b with
    | false => exact IsTs.mono hf (fun _ _ => rfl) _ _ h2
    | true =>
      cases hl : ts.any (fun t => !t.isLit) with
      | false => exact lits_plain hl h2
      | true => exact IsTs.mono (ht (by simp [V.lent, hl])) (fun _ _ => rfl) _ _ h2
  | nils => exact h
  | ov cells ag =>
    simp only [VR] at h ⊢
    obtain ⟨vs, h1, h2⟩ := h
    exact ⟨vs, IsCs.plain hf _ _ _ (fun hl => ht (by simpa only [V.lent] using hl)) h1, h2⟩
  | op cells =>
    simp only [VR] at h ⊢
    obtain ⟨vs, g, a, h1, h2⟩ := h
    exact ⟨vs, g, a, IsCs.plain hf _ _ _ (fun hl => ht (by simpa only [V.lent] using hl)) h1, h2⟩
  | ptr k p off =>
    simp only [VR, SlotR] at h ⊢
    exact h
  | tup vs => exact h
theorem VRs.plain {w : World} {Φ Φ' : Bool → Nat → Prop} {ob : List (Nat × O)} {ρ : Nat → List Value} (hf : ∀ b, Φ false b → Φ' false b) : ∀ {xs : List V} {vs : List Value} {B : List Nat}, (lentVs xs = true → ∀ b, Φ true b → Φ' true b) → VRs w Φ ob ρ xs vs B → VRs w Φ' ob ρ xs vs B
  | [], _, _, _, h => h
  | x :: r, _, _, ht, h => by
    obtain ⟨v, vs', B1, B2, h1, h2, h3, h4⟩ := h
    exact ⟨v, vs', B1, B2, h1, h2, h3.plain hf (fun hl => ht (by simp [lentVs, hl])), h4.plain hf (fun hl => ht (by simp [lentVs, hl]))⟩
theorem VRt.plain {w : World} {Φ Φ' : Bool → Nat → Prop} {ob : List (Nat × O)} {ρ : Nat → List Value} (hf : ∀ b, Φ false b → Φ' false b) {x : V} {v : Value} {B : List Nat} (ht : x.lent = true → ∀ b, Φ true b → Φ' true b) (h : VRt w Φ ob ρ x v B) : VRt w Φ' ob ρ x v B := by
  cases x with
  | tup vs =>
    obtain ⟨l, h1, h2⟩ := h
    exact ⟨l, h1, h2.plain hf (fun hl => ht (by simpa only [V.lent] using hl))⟩
  | _ => exact VR.plain (w := w) (ob := ob) (ρ := ρ) hf ht h
def Trans (keys : List Nat) (d : Nat) (obC : List (Nat × O)) (ρC : Nat → List Value) (ob : List (Nat × O)) (ρ : Nat → List Value) : Prop :=
  ∀ k key o, keys[k]? = some key → newKey (some d) key = false → look obC k = some o → look ob key = some o ∧ ρ key = ρC k
theorem Trans.new {keys : List Nat} {d j : Nat} {obC : List (Nat × O)} {ρC ρ : Nat → List Value} {σ : F} (h : Trans keys d obC ρC σ.ob ρ) (hj : j < 8) (hk : (σ.ob.map (·.1)).Nodup) (o0 : O) (vs : List Value) : Trans keys d obC ρC (σ.new (keyOf d j) o0).ob (fun i => if i = keyOf d j then vs else ρ i) := by
  intro k key o h1 h2 h3
  have hne := newKey_keyOf hj h2
  obtain ⟨e1, e2⟩ := h k key o h1 h2 h3
  refine ⟨?_, by show (if key = keyOf d j then vs else ρ key) = ρC k; rw [if_neg hne]; exact e2⟩
  simp only [F.new, look]
  rw [if_neg (fun e => hne e.symm), look_drop hk, if_neg hne]
  exact e1
theorem recvOne_is {w : World} {Φ : Bool → Nat → Prop} {σ σ' : F} {tm : List Value} {ρ ρC : Nat → List Value} {B L : List Nat} {keys : List Nat} {d j : Nat} {obC : List (Nat × O)} {x : V} {v : Value} (hj : j < 8) (h : Rel w Φ σ tm ρ B) (hL : Loose w Φ B L) (hv : VR w Φ obC ρC x v L) (hT : Trans keys d obC ρC σ.ob ρ) (hr : recvOne σ keys d j x = some σ') :
    ∃ ρ' B', Rel w Φ σ' (tm ++ [v]) ρ' B' ∧ (∀ b ∈ B', b ∈ B ∨ b ∈ L) ∧ (∀ k, newKey (some d) k = false → ρ' k = ρ k) ∧ Trans keys d obC ρC σ'.ob ρ' ∧ σ'.sl.length = σ.sl.length + 1 := by
  have easy : ∀ s, SlotR w Φ σ.ob ρ s v → σ' = σ.push s → ∃ ρ' B', Rel w Φ σ' (tm ++ [v]) ρ' B' ∧ (∀ b ∈ B', b ∈ B ∨ b ∈ L) ∧ (∀ k, newKey (some d) k = false → ρ' k = ρ k) ∧ Trans keys d obC ρC σ'.ob ρ' ∧ σ'.sl.length = σ.sl.length + 1 := by
    rintro s hs rfl
    exact ⟨ρ, B, h.push hs, fun b hb => .inl hb, fun _ _ => rfl, hT, by simp [F.push]⟩
  have made : ∀ (o : O) (vs : List Value) (s : S), IsCs w Φ o.cells vs L → SlotR w Φ (σ.new (keyOf d j) o).ob (fun i => if i = keyOf d j then vs else ρ i) s v → σ' = (σ.new (keyOf d j) o).push s → ∃ ρ' B', Rel w Φ σ' (tm ++ [v]) ρ' B' ∧ (∀ b ∈ B', b ∈ B ∨ b ∈ L) ∧ (∀ k, newKey (some d) k = false → ρ' k = ρ k) ∧ Trans keys d obC ρC σ'.ob ρ' ∧ σ'.sl.length = σ.sl.length + 1 := by
    rintro o vs s hc hs rfl
    obtain ⟨B', h1, h2⟩ := h.new (keyOf d j) o vs L hc hL
    refine ⟨_, _, h1.push hs, fun b hb => ?_, fun k hk => ?_, hT.new hj h.keys o vs, by simp [F.push, F.new, killAlls_length]⟩
    · rcases List.mem_append.mp hb with hb | hb
      · exact .inr hb
      · exact .inl (h2.subset hb)
    · rw [if_neg (newKey_keyOf hj hk)]
  cases x with
  | lit y =>
    simp only [recvOne, Option.some.injEq] at hr
    simp only [VR] at hv
    exact easy (.lit y) (by simp only [SlotR]; exact ⟨hv.1, hv.2.1⟩) hr.symm
  | val b t =>
    simp only [recvOne, Option.some.injEq] at hr
    simp only [VR] at hv
    exact easy (.val b t) (by simp only [SlotR]; exact hv.1) hr.symm
  | agg b ts =>
    simp only [recvOne, Option.some.injEq] at hr
    simp only [VR] at hv
    exact easy (.agg b ts) (by simp only [SlotR]; exact hv.1) hr.symm
  | nils =>
    simp only [recvOne, Option.some.injEq] at hr
    simp only [VR] at hv
    exact easy .nils (by simp only [SlotR]; exact hv.1) hr.symm
  | ov cells ag =>
    simp only [recvOne, Option.some.injEq] at hr
    simp only [VR] at hv
    obtain ⟨vs, h1, h2⟩ := hv
    refine made { cells } vs _ h1 ?_ hr.symm
    have hl := h1.length
    simp only [SlotR]
    refine ⟨{ cells }, vs, by simp [F.new, look], by simp [valsAt], by omega, ?_⟩
    rw [List.drop_zero, ← hl, List.take_length]
    simpa only [valOf] using h2
  | op cells =>
    simp only [recvOne, Option.some.injEq] at hr
    simp only [VR] at hv
    obtain ⟨vs, g, a, h1, h2, h3⟩ := hv
    refine made { cells, box := true } vs _ h1 ?_ hr.symm
    simp only [SlotR]
    exact ⟨{ cells, box := true }, g, a, by simp [F.new, look], by simpa using h2, by rw [h3]; simp⟩
  | ptr k p off =>
    simp only [recvOne] at hr
    simp only [VR, SlotR] at hv
    obtain ⟨⟨o, g, a, h1, h2, h3⟩, _⟩ := hv
    split at hr
    · rename_i key hkey
      split at hr
      · cases hr
      · rename_i hnk
        simp only [Option.some.injEq] at hr
        obtain ⟨e1, e2⟩ := hT k key o hkey (by simpa using hnk) h1
        exact easy _ (by simp only [SlotR]; exact ⟨o, g, a, e1, by rw [e2]; exact h2, h3⟩) hr.symm
    · cases hr
  | tup vs => exact hv.elim
theorem recvMany_is {w : World} {Φ : Bool → Nat → Prop} {ρC : Nat → List Value} {keys : List Nat} {d : Nat} {obC : List (Nat × O)} : ∀ {xs : List V} {σ σ' : F} {tm vs : List Value} {ρ : Nat → List Value} {B L : List Nat} {j : Nat}, Rel w Φ σ tm ρ B → Loose w Φ B L → VRs w Φ obC ρC xs vs L → Trans keys d obC ρC σ.ob ρ → recvMany keys d σ j xs = some σ' →
    ∃ ρ' B', Rel w Φ σ' (tm ++ vs) ρ' B' ∧ (∀ b ∈ B', b ∈ B ∨ b ∈ L) ∧ (∀ k, newKey (some d) k = false → ρ' k = ρ k)
  | [], σ, σ', tm, vs, ρ, B, L, j, h, hL, hv, hT, hr => by
    simp only [recvMany, Option.some.injEq] at hr
    subst hr
    obtain ⟨rfl, rfl⟩ := hv
    exact ⟨ρ, B, by simpa using h, fun b hb => .inl hb, fun _ _ => rfl⟩
  | x :: r, σ, σ', tm, vs, ρ, B, L, j, h, hL, hv, hT, hr => by
    obtain ⟨v, vs', B1, B2, rfl, rfl, h3, h4⟩ := hv
    simp only [recvMany] at hr
    split at hr
    · rename_i hj
      split at hr
      · rename_i σ1 h1
        have hnd := hL.nd
        rw [List.nodup_append] at hnd
        have hL1 : Loose w Φ B B1 := ⟨hnd.1, fun b hb => hL.apart b (by simp [hb]), fun b hb => hL.lt b (by simp [hb]), fun b hb => hL.disj b (by simp [hb])⟩
        obtain ⟨ρ1, C1, r1, r2, r3, r4, _⟩ := recvOne_is hj h hL1 h3 hT h1
        have hL2 : Loose w Φ C1 B2 := ⟨hnd.2.1, fun b hb hb' => by
          rcases r2 b hb' with hh | hh
          · exact hL.apart b (by simp [hb]) hh
          · exact hnd.2.2 b hh b hb rfl, fun b hb => hL.lt b (by simp [hb]), fun b hb => hL.disj b (by simp [hb])⟩
        obtain ⟨ρ2, C2, s1, s2, s3⟩ := recvMany_is r1 hL2 h4 r4 hr
        rw [List.append_assoc] at s1
        refine ⟨ρ2, C2, s1, fun b hb => ?_, fun k hk => (s3 k hk).trans (r3 k hk)⟩
        rcases s2 b hb with hh | hh
        · exact (r2 b hh).imp id (fun hh => by simp [hh])
        · exact .inr (by simp [hh])
      · cases hr
    · cases hr
def Outs (d : Option Nat) (v : V) (val : Value) (outs : List Value) : Prop :=
  match d with
  | none => outs = []
  | some _ => match v with
    | .tup _ => val = .tuple outs.toArray
    | _ => outs = [val]
theorem recvAll_is {w : World} {Φ : Bool → Nat → Prop} {ρ ρC : Nat → List Value} {keys : List Nat} {d : Option Nat} {obC : List (Nat × O)} {x : V} {val : Value} {σ σ' : F} {tm : List Value} {B L : List Nat} (h : Rel w Φ σ tm ρ B) (hL : Loose w Φ B L) (hv : VRt w Φ obC ρC x val L) (hT : ∀ k key o, keys[k]? = some key → look obC k = some o → look σ.ob key = some o ∧ ρ key = ρC k) (hr : recvAll σ keys d x = some σ') :
    ∃ outs ρ' B', Rel w Φ σ' (tm ++ outs) ρ' B' ∧ Outs d x val outs ∧ (∀ b ∈ B', b ∈ B ∨ b ∈ L) ∧ (∀ k, newKey d k = false → ρ' k = ρ k) ∧ (∀ j, d = some j → j < 100000) := by
  unfold recvAll at hr
  split at hr
  · simp only [Option.some.injEq] at hr
    subst hr
    exact ⟨[], ρ, B, by simpa using h, rfl, fun b hb => .inl hb, fun _ _ => rfl, fun j hj => by cases hj⟩
  · rename_i d'
    split at hr
    · rename_i hd
      have hT' : Trans keys d' obC ρC σ.ob ρ := fun k key o h1 _ h3 => hT k key o h1 h3
      have one : (∀ vs, x ≠ .tup vs) → Outs (some d') x val [val] → recvOne σ keys d' 0 x = some σ' → ∃ outs ρ' B', Rel w Φ σ' (tm ++ outs) ρ' B' ∧ Outs (some d') x val outs ∧ (∀ b ∈ B', b ∈ B ∨ b ∈ L) ∧ (∀ k, newKey (some d') k = false → ρ' k = ρ k) ∧ (∀ j, some d' = some j → j < 100000) := by
        intro hx hO hr
        obtain ⟨ρ', B', r1, r2, r3, _⟩ := recvOne_is (by decide) h hL (vrt_one hx hv) hT' hr
        exact ⟨[val], ρ', B', r1, hO, r2, r3, fun j hj => by simp only [Option.some.injEq] at hj; omega⟩
      cases x with
      | tup vs =>
        simp only at hr
        obtain ⟨l, rfl, h2⟩ := hv
        obtain ⟨ρ', B', r1, r2, r3⟩ := recvMany_is h hL h2 hT' hr
        exact ⟨l, ρ', B', r1, rfl, r2, r3, fun j hj => by simp only [Option.some.injEq] at hj; omega⟩
      | _ =>
        exact one (fun vs h => by cases h) rfl hr
    · cases hr
theorem done_is {w : World} {Φ : Bool → Nat → Prop} {ρ : Nat → List Value} {d : Option Nat} {x : V} {val : Value} {σ σ' : F} {tm mid outs : List Value} {B : List Nat} (h : Rel w Φ σ (tm ++ mid ++ outs) ρ B) (ho : Outs d x val outs) (hd : σ.done tm.length (tm ++ mid).length d x = some σ') :
    Rel w Φ σ' (putL tm d val) ρ B ∧ ∀ k ∈ σ.ob.map (·.1), k < keyOf 100000 0 := by
  unfold F.done at hd
  split at hd
  · rename_i hall
    have hkeys : ∀ k ∈ σ.ob.map (·.1), k < keyOf 100000 0 := by
      intro k hk
      obtain ⟨y, hy, rfl⟩ := List.mem_map.mp hk
      simpa using List.all_eq_true.mp hall y hy
    refine ⟨?_, hkeys⟩
    have h0 := h.short tm.length
    rw [List.append_assoc, List.take_left] at h0
    have h1 := h.slots.drop (tm ++ mid).length
    rw [List.drop_left] at h1
    cases d with
    | none =>
      simp only [Option.some.injEq] at hd
      subst hd
      exact h0
    | some d =>
      simp only at hd
      have last : ∀ s, σ.sl.drop (tm ++ mid).length = [s] → outs = [val] → Rel w Φ (F.put { σ with sl := σ.sl.take tm.length } (some d) s) (putL tm (some d) val) ρ B := by
        intro s hs he
        rw [hs, he] at h1
        simp only [SlotRs] at h1
        obtain ⟨v, vs', e, h2, _⟩ := h1
        simp only [List.cons.injEq] at e
        rw [← e.1] at h2
        exact h0.put (some d) h2
      cases x with
      | tup vs =>
        simp only [Option.some.injEq] at hd
        subst hd
        simp only [Outs] at ho
        subst ho
        refine h0.put (some d) ?_
        simp only [SlotR]
        exact ⟨outs, rfl, h1⟩
      | _ =>
        simp only at hd
        simp only [Outs] at ho
        split at hd
        · rename_i s hs
          simp only [Option.some.injEq] at hd
          subst hd
          exact last s hs ho
        · cases hd
  · cases hd
end Go.Proofs.YtckojpaklblnpaaGreatDoor.Ev
/- Calls. -/
set_option linter.unusedVariables false
set_option linter.unusedSimpArgs false
namespace Go.Proofs.YtckojpaklblnpaaGreatDoor.Ev
open Go Go.RowKit
def Enters (P : Program) (f : FuncId) (args : Array Value) (w : World) (R : Ending → World → Prop) : Prop :=
  match (callFunc f args).run P w with
  | .ok (.enter g as) w' => Calls P g as w' R
  | .ok (.value u) w' => R (.returned u) w'
  | _ => False
def Came (w : World) (Φ : Bool → Nat → Prop) (ρ : Nat → List Value) (B : List Nat) (n : Nat) (v : V) (os : List (Option O)) : Ending → World → Prop := fun e w' =>
  ∃ val Φ' ρ' B1 B2, e = .returned val ∧ Rel w' Φ' { sl := [], ob := backs (List.range n) os } [] ρ' B1 ∧ Loose w' Φ' B1 B2 ∧ VRt w' Φ' (backs (List.range n) os) ρ' v val B2 ∧ Next w Φ ρ B w' Φ' ρ' (B1 ++ B2)
def RunIs (P : Program) (f : FuncId) (args : List S) (obs : List O) (v : V) (os : List (Option O)) : Prop :=
  ∀ (w : World) (Φ : Bool → Nat → Prop) (vals : List Value) (ρ : Nat → List Value) (B : List Nat), Rel w Φ { sl := args, ob := enterObs obs 0 } vals ρ B →
    Enters P f vals.toArray w (Came w Φ ρ B obs.length v os)
def RunSound (P : Program) (run : FuncId → List S → List O → Option (V × List (Option O))) : Prop :=
  ∀ f args obs v os, obs.length < 64 → run f args obs = some (v, os) → RunIs P f args obs v os
theorem looks_get : ∀ {ks : List Nat} {ob : List (Nat × O)} {os : List O}, looks ob ks = some os → ∀ k ∈ ks, look (zipO ks os) k = look ob k
  | [], _, _, _, k, hk => by cases hk
  | i :: r, ob, os, h, k, hk => by
    simp only [looks] at h
    split at h
    · rename_i o os' h1 h2
      simp only [Option.some.injEq] at h
      subst h
      simp only [zipO, look]
      split
      · rename_i e; subst e; exact h1.symm
      · rename_i e
        rcases List.mem_cons.mp hk with rfl | hk
        · exact absurd rfl e
        · exact looks_get h2 k hk
    · cases h
theorem run_callee {P : Program} {o : Oper} {c : Call} {f : Operand} {a : Act} {g : FuncId} {vs : Array Value} (ho : o.op = .call c) (hc : c.callee = .value f) (hf : a.eval f = .func (.func g) #[] vs) (w : World) :
    (execOp a.eval o).run P w = (callFunc g (c.args.map a.eval ++ vs)).run P w := by
  simp only [execOp, ho, resolve, hc, hf, Deferred.ofValue]
  simp [invoke]
theorem upon_enters {P : Program} {o : Oper} {a : Act} {w : World} {f : FuncId} {args : Array Value} {R : Ending → World → Prop} {K : Act → World → Prop} {Q : Exit → Act → World → Prop} (h : Enters P f args w R) (hR : ∀ e w', R e w' → ∃ v, e = .returned v ∧ K (a.put o.dst v) w') : o.upon P a K Q ((callFunc f args).run P w) := by
  unfold Enters at h
  generalize (callFunc f args).run P w = r at h
  cases r with
  | ok n w' =>
    cases n <;> simp only at h
    case value u =>
      obtain ⟨v, e, hk⟩ := hR _ _ h
      cases e
      exact hk
    case enter g as =>
      rw [Oper.upon_enter]
      refine Calls.mono h fun e w'' he => ?_
      obtain ⟨v, rfl, hk⟩ := hR _ _ he
      exact hk
  | halt x w' => exact h.elim
theorem done_keys {σ σ' : F} {n0 n1 : Nat} {d : Option Nat} {v : V} (h : σ.done n0 n1 d v = some σ') : ∀ k ∈ σ'.ob.map (·.1), k ∈ σ.ob.map (·.1) := by
  unfold F.done at h
  split at h
  · split at h
    · simp only [Option.some.injEq] at h
      subst h
      exact fun _ hk => hk
    · split at h
      · simp only [Option.some.injEq] at h
        subst h
        exact fun _ hk => hk
      · split at h
        · simp only [Option.some.injEq] at h
          subst h
          exact fun _ hk => hk
        · cases h
  · cases h
theorem runOk_of {P : Program} {e : Env} {run : FuncId → List S → List O → Option (V × List (Option O))} (hs : RunSound P run) : RunOk P e run := by
  intro σ σ' o c f g caps hop hcal hrd hcall w Φ tm ρ B ds K Q hR hK
  have hfv := hR.rd (ds := ds) f
  rw [hrd] at hfv
  simp only [SlotR] at hfv
  obtain ⟨cv, hfe, hcv⟩ := hfv
  have hargs : SlotRs w Φ σ.ob ρ (c.args.toList.map σ.rd) (c.args.toList.map (⟨tm.toArray, ds⟩ : Act).eval) := by
    generalize c.args.toList = l
    induction l with
    | nil => simp only [List.map_nil, SlotRs]
    | cons x l ih => simp only [List.map_cons, SlotRs]; exact ⟨_, _, rfl, hR.rd x, ih⟩
  have hall := hargs.append hcv
  generalize hav : c.args.toList.map (⟨tm.toArray, ds⟩ : Act).eval ++ cv = av at hall
  have hvals : c.args.map (⟨tm.toArray, ds⟩ : Act).eval ++ cv.toArray = av.toArray := by
    rw [← hav]
    apply Array.ext'
    simp
  generalize hxs : c.args.toList.map σ.rd ++ caps = as at hall hcall
  unfold F.call at hcall
  simp only at hcall
  split at hcall
  · rename_i σ1 pls hlend
    split at hcall
    · rename_i xs bs hbor
      split at hcall
      · rename_i obs hlooks
        split at hcall
        · rename_i hchk
          obtain ⟨hap, h64⟩ := hchk
          split at hcall
          · rename_i v os hrunv
            split at hcall
            · rename_i hlent
              obtain ⟨hlent, hoslen⟩ := hlent
              split at hcall
              · rename_i σ2 hrecv
                split at hcall
                · rename_i σ3 hunl
                  -- the frame with its arguments
                  have hlenT := hR.slots.length
                  have hlenA := hall.length
                  obtain ⟨gh, ρ1, B1, hR1, hB1, hρ1, hgh, hlen1⟩ := lendArgs_is as.length 0 (hR.more hall) hlend
                  generalize hks : dedup (S.keyss xs) = ks at *
                  have hksn : ks.Nodup := by rw [← hks]; exact dedup_nodup _
                  have hksm : ∀ k ∈ S.keyss xs, k ∈ ks := fun k hk => by rw [← hks]; exact dedup_mem.mpr hk
                  obtain ⟨z1, z2, z3⟩ := looks_zip hlooks
                  have hapart : ∀ k ∈ bs, k ∉ ks := fun k hkb hkk => apartL_is hap k hkk hkb
                  obtain ⟨A1, A2, s1, s2, s3, s4⟩ := hR1.obs.split (ob1 := zipO ks obs) (ob2 := dropAll ks σ1.ob) hR1.keys hR1.nd (by rw [z2]; exact hksn) (dropAll_nodup hR1.keys) z3 (fun k o hl => by
                    rw [look_dropAll] at hl
                    split at hl
                    · cases hl
                    · exact hl) (fun k hk hk' => by
                    rw [z2] at hk
                    obtain ⟨o2, h2⟩ := look_of_mem hk'
                    rw [look_dropAll, if_pos (by simpa using hk)] at h2
                    cases h2)
                  rw [List.nodup_append] at s3
                  obtain ⟨t1, t2, t3⟩ := s3
                  have m1 : ∀ b ∈ A1, b ∈ B1 := fun b hb => s4 b (List.mem_append.mpr (.inl hb))
                  have m2 : ∀ b ∈ A2, b ∈ B1 := fun b hb => s4 b (List.mem_append.mpr (.inr hb))
                  have hlow : Rel w Φ { sl := [], ob := dropAll ks σ1.ob } [] ρ1 A2 := ⟨s2, t2, dropAll_nodup hR1.keys, fun b hb => hR1.disj b (m2 b hb), fun b hb => hR1.lt b (m2 b hb), hR1.ltΦ, hR1.sub, by simp only [SlotRs]⟩
                  have hsl : SlotRs w Φ σ1.ob ρ1 ((σ1.sl.drop σ.sl.length).take as.length) av := by
                    have := (hR1.slots.drop σ.sl.length).take as.length
                    rw [List.append_assoc, ← hlenT, List.drop_left, ← hlenA, List.take_left] at this
                    rw [← hlenT, ← hlenA]
                    exact this
                  have hxslots := borrowAll_is (bs0 := bs) (ob := zipO ks obs) hR1 hlow (fun k o hl hk => by rw [looks_get hlooks k hk]; exact hl) hbor hapart id hksm hsl
                  have hentry := enter_rel hksn z1 (s1.keep ⟨fun x b hb => .inl hb, fun _ _ _ => rfl, fun _ _ => rfl⟩ (fun _ _ => rfl)) hxslots t1 (fun b hb x hx => by
                    rcases hx with hx | ⟨_, _, hx⟩
                    · exact hR1.disj b (m1 b hb) x hx
                    · exact t3 b hb b hx rfl) (fun b hb => hR1.lt b (m1 b hb)) (fun x b hb => by
                    rcases hb with hb | ⟨_, _, hb⟩
                    · exact hR1.ltΦ x b hb
                    · exact hR1.lt b (m2 b hb)) ⟨fun b hb => (by
                    rcases hb with hb | ⟨_, hh, _⟩
                    · exact .inl (hR1.sub.1 b hb)
                    · cases hh), hR1.sub.2.next (fun b hb => .inl hb) (fun _ _ => rfl)⟩
                  have hent := hs g _ obs v os h64 hrunv w _ av _ A1 hentry
                  unfold Oper.wp
                  rw [run_callee hop hcal hfe, hvals]
                  refine upon_enters hent ?_
                  rintro en w' ⟨val, Φ', ρ', C1, C2, rfl, hRr, hL, hv, hN⟩
                  refine ⟨val, rfl, ?_⟩
                  rw [act_put]
                  -- what the caller reads from now on
                  let Φn : Bool → Nat → Prop := fun x b => Φ' x b ∧ b ∉ A2
                  have hdA : ∀ x b, Φ x b → b ∉ A2 := fun x b hb hb2 => hR1.disj b (m2 b hb2) x hb
                  have hnew : ∀ b, w.heap.size ≤ b → b ∉ A2 := fun b hb hb2 => absurd (hR1.lt b (m2 b hb2)) (Nat.not_lt.mpr hb)
                  have h12 : ∀ b ∈ A1, b ∉ A2 := fun b hb hb2 => t3 b hb b hb2 rfl
                  have hf : ∀ b, Φ' false b → Φn false b := fun b hb => ⟨hb, by
                    rcases hN.fresh false b hb with (hh | ⟨_, hh, _⟩) | hh | hh
                    · exact hdA _ b hh
                    · cases hh
                    · exact h12 b hh
                    · exact hnew b hh⟩
                  have ht : bs = [] → ∀ b, Φ' true b → Φn true b := fun hbs b hb => ⟨hb, by
                    rcases hN.fresh true b hb with (hh | ⟨hh, _⟩) | hh | hh
                    · exact hdA _ b hh
                    · exact absurd hbs hh
                    · exact h12 b hh
                    · exact hnew b hh⟩
                  have hlt : (v.lent = true ∨ lentO os = true) → bs = [] := by
                    intro hh
                    simp only [Bool.or_eq_true, List.isEmpty_iff, Bool.and_eq_true, Bool.not_eq_true'] at hlent
                    rcases hlent with h0 | ⟨h1, h2⟩
                    · exact h0
                    · rcases hh with hh | hh
                      · rw [h1] at hh; cases hh
                      · rw [h2] at hh; cases hh
                  have hmono : ∀ x b, Φ x b → Φn x b := fun x b hb => ⟨hN.mono x b (.inl hb), hdA x b hb⟩
                  have hblk : ∀ b ∈ A2, w'.heap[b]? = w.heap[b]? := fun b hb => hN.block b (hR1.lt b (m2 b hb)) (fun hb1 => h12 b hb1 hb)
                  have hro : ∀ x b, Φ x b → w'.heap[b]? = w.heap[b]? := fun x b hb => hN.block b (hR1.ltΦ x b hb) (fun hb1 => hR1.disj b (m1 b hb1) x hb)
                  have hown : ∀ b ∈ C1 ++ C2, b ∉ A2 := fun b hb => (hN.own b hb).elim (h12 b) (hnew b)
                  have hrange : List.range obs.length = ks.map (numOf ks) := by rw [numOf_map hksn, z1]
                  have hβ : IsOb w' Φn (fun k => ρ' (numOf ks k)) (backs ks os) C1 := by
                    have h0 := hRr.obs
                    simp only at h0
                    rw [hrange] at h0
                    exact backs_plain hf (fun hl => ht (hlt (.inr hl))) (backs_is (numOf ks) h0)
                  have hρk : ∀ k ∈ ks, ρ' (numOf ks k) = ρ1 k := by
                    intro k hk
                    have hgk := numOf_get hk
                    have hl64 : numOf ks k < 64 := by
                      have := (List.getElem?_eq_some_iff.mp hgk).1
                      omega
                    rw [hN.imp _ hl64]
                    simp [List.getD_eq_getElem?_getD, hgk]
                  have hback := back_rel (d := none) (ρ' := fun k => ρ' (numOf ks k)) (Φ' := Φn) (β := backs ks os) (ks := ks) hR1 s2 m2 t2 hβ (backs_nodup hksn) hRr.nd (fun k hk hn => absurd (backs_mem k hk) hn)
                    (fun b hb x hx => hRr.disj b hb x hx.1) hRr.lt (fun b hb => hown b (List.mem_append.mpr (.inl hb))) hN.size hmono hro hblk (fun b hb x hx => hx.2 hb) (fun x b hx => hRr.ltΦ x b hx.1) (fun b hb => ⟨hRr.sub.1 b hb.1, hb.2⟩) (fun k hk _ => hρk k hk)
                  have hρe : (fun k => if ((backs ks os).map (·.1)).contains k then ρ' (numOf ks k) else ρ1 k) = ρ1 := by
                    funext k
                    split
                    · rename_i hc
                      exact hρk k (backs_mem k (by simpa using hc))
                    · rfl
                  rw [hρe] at hback
                  have hLn : Loose w' Φn (C1 ++ A2) C2 := ⟨hL.nd, fun b hb hb' => by
                    rcases List.mem_append.mp hb' with hh | hh
                    · exact hL.apart b hb hh
                    · exact hown b (List.mem_append.mpr (.inr hb)) hh, hL.lt, fun b hb x hx => hL.disj b hb x hx.1⟩
                  have hvn := VRt.plain (Φ' := Φn) hf (fun hl => ht (hlt (.inl hl))) hv
                  obtain ⟨outs, ρ2, B2, hR2, hO, hB2, hρ2, hd⟩ := recvAll_is (d := o.dst) hback hLn hvn (fun k key ob hk hl => by
                    have hkr : (List.range obs.length)[k]? = some k := by
                      have := (List.getElem?_eq_some_iff.mp hk).1
                      rw [List.getElem?_range (by omega)]
                    rw [backs_look List.nodup_range hkr] at hl
                    have e1 := backs_look (os := os) hksn hk
                    refine ⟨?_, ?_⟩
                    · simp only [F.back]
                      rw [look_append, e1, hl]
                    · have e2 : numOf ks key = k := by
                        have h9 := congrArg (fun l => l[k]?) hrange
                        simp only [hkr, List.getElem?_map, hk, Option.map_some, Option.some.injEq] at h9
                        exact h9.symm
                      rw [← hρk key (List.mem_of_getElem? hk), e2]) hrecv
                  have hghost : ∀ pl ∈ pls, (tm ++ av ++ gh ++ outs)[pl.1]? = some (.agg (ρ2 pl.2).toArray) := by
                    intro pl hpl
                    obtain ⟨g1, g2⟩ := hgh pl hpl
                    rw [List.getElem?_append_left (List.getElem?_eq_some_iff.mp g2).1, g2, hρ2 pl.2]
                    cases hdd : o.dst with
                    | none => rfl
                    | some j =>
                      have := hd j hdd
                      simp only [newKey, beq_eq_false_iff_ne, ne_eq]
                      simp only [keyOf] at g1
                      omega
                  obtain ⟨B3, hR3, hB3⟩ := unlendAll_is hR2 hghost hunl
                  have hlenn : σ1.sl.length = (tm ++ (av ++ gh)).length := by rw [hlen1]; simp [hlenT, hlenA]; omega
                  rw [← hlenT, hlenn] at hcall
                  have hR3' : Rel w' Φn σ3 (tm ++ (av ++ gh) ++ outs) ρ2 B3 := by rw [← List.append_assoc tm]; exact hR3
                  obtain ⟨hfin, hkeys⟩ := done_is hR3' hO hcall
                  have hB3s : ∀ b ∈ B3, b ∈ B ∨ w.heap.size ≤ b := by
                    intro b hb
                    have : b ∈ C1 ++ C2 ∨ b ∈ A2 := by
                      rcases hB2 b (hB3 b hb) with hh | hh
                      · rcases List.mem_append.mp hh with hh | hh
                        · exact .inl (List.mem_append.mpr (.inl hh))
                        · exact .inr hh
                      · exact .inl (List.mem_append.mpr (.inr hh))
                    rcases this with hh | hh
                    · exact (hN.own b hh).imp (fun h1 => hB1 b (m1 b h1)) id
                    · exact .inl (hB1 b (m2 b hh))
                  have hlast := hfin.rho (ρ' := fun k => if k < keyOf 100000 0 then ρ2 k else ρ k) (fun k hk => by
                    have hkk : k < keyOf 100000 0 := hkeys k (done_keys hcall k hk)
                    show (if k < keyOf 100000 0 then ρ2 k else ρ k) = ρ2 k
                    rw [if_pos hkk])
                  have hsame : Same o.dst ρ (fun k => if k < keyOf 100000 0 then ρ2 k else ρ k) := by
                    intro k hk
                    show (if k < keyOf 100000 0 then ρ2 k else ρ k) = ρ k
                    split
                    · rename_i hkk
                      rw [hρ2 k hk, hρ1 k (by simpa using hkk)]
                    · rfl
                  refine hK _ _ _ _ _ hlast ⟨hN.os, hN.tape, hN.output, hN.size, fun b hb hn => hN.block b hb (fun hb1 => hn (hB1 b (m1 b hb1))), hB3s, hmono, ?_, ?_, hsame.imp⟩ hsame
                  · intro x b hb
                    rcases hN.fresh x b hb.1 with (hh | ⟨_, _, hh⟩) | hh | hh
                    · exact .inl hh
                    · exact absurd hh hb.2
                    · exact .inr (.inl (hB1 b (m1 b hh)))
                    · exact .inr (.inr hh)
                  · intro b hb
                    rcases hN.lent b hb.1 with (hh | ⟨_, _, hh⟩) | hh
                    · exact .inl hh
                    · exact absurd hh hb.2
                    · exact .inr (hf b hh)
                · cases hcall
              · cases hcall
            · cases hcall
          · cases hcall
        · cases hcall
      · cases hcall
    · cases hcall
  · cases hcall
end Go.Proofs.YtckojpaklblnpaaGreatDoor.Ev
/- Functions, run. -/
set_option linter.unusedVariables false
set_option linter.unusedSimpArgs false
namespace Go.Proofs.YtckojpaklblnpaaGreatDoor.Ev
open Go Go.RowKit
def VP (w : World) (Φ : Bool → Nat → Prop) (x : V) (v : Value) (B : List Nat) : Prop :=
  match x with
  | .ptr .. => B = []
  | x => VR w Φ [] (fun _ => []) x v B
def VPs (w : World) (Φ : Bool → Nat → Prop) : List V → List Value → List Nat → Prop
  | [], vs, B => vs = [] ∧ B = []
  | x :: r, vs, B => ∃ v vs' B1 B2, vs = v :: vs' ∧ B = B1 ++ B2 ∧ VP w Φ x v B1 ∧ VPs w Φ r vs' B2
theorem IsORows.cut {w : World} {sz : Nat} : ∀ (n : Nat) {rows : List (List T)} {vs : List Value} {B : List Nat}, IsORows w sz rows vs B → ∃ D, IsORows w sz (rows.take n) vs D ∧ D.Sublist B
  | 0, rows, vs, B, _ => ⟨[], by simp only [List.take_zero, IsORows], List.nil_sublist _⟩
  | n + 1, [], vs, B, h => ⟨B, by simpa using h, List.Sublist.refl _⟩
  | n + 1, r :: rs, vs, B, h => by
    simp only [IsORows] at h
    obtain ⟨B1, B2, rfl, h2, h3, h4⟩ := h
    obtain ⟨D, t1, t2⟩ := IsORows.cut n h4
    refine ⟨B1 ++ D, ?_, List.Sublist.append (List.Sublist.refl _) t2⟩
    simp only [List.take_succ_cons, IsORows]
    exact ⟨B1, D, rfl, h2, h3, t1⟩
theorem outOne_is {w : World} {Φ : Bool → Nat → Prop} {σ σ' : F} {tm : List Value} {ρ : Nat → List Value} {B : List Nat} {n : Nat} {s : S} {v : Value} {x : V} (h : Rel w Φ σ tm ρ B) (hs : SlotR w Φ σ.ob ρ s v) (ho : outOne σ n s = some (x, σ')) :
    ∃ B' L, Rel w Φ σ' tm ρ B' ∧ VP w Φ x v L ∧ Loose w Φ B' L ∧ (∀ b ∈ B', b ∈ B) ∧ (∀ b ∈ L, b ∈ B) := by
  unfold outOne at ho
  split at ho
  · simp only [Option.some.injEq, Prod.mk.injEq] at ho
    obtain ⟨rfl, rfl⟩ := ho
    simp only [SlotR] at hs
    exact ⟨B, [], h, ⟨hs.1, hs.2, rfl⟩, Loose.nil, fun _ h => h, by simp⟩
  · simp only [Option.some.injEq, Prod.mk.injEq] at ho
    obtain ⟨rfl, rfl⟩ := ho
    simp only [SlotR] at hs
    exact ⟨B, [], h, ⟨hs, rfl⟩, Loose.nil, fun _ h => h, by simp⟩
  · simp only [Option.some.injEq, Prod.mk.injEq] at ho
    obtain ⟨rfl, rfl⟩ := ho
    simp only [SlotR] at hs
    exact ⟨B, [], h, ⟨hs, rfl⟩, Loose.nil, fun _ h => h, by simp⟩
  · simp only [Option.some.injEq, Prod.mk.injEq] at ho
    obtain ⟨rfl, rfl⟩ := ho
    simp only [SlotR] at hs
    exact ⟨B, [], h, ⟨hs, rfl⟩, Loose.nil, fun _ h => h, by simp⟩
  · rename_i k p off n' ag
    split at ho
    · rename_i cs σ1 ht
      obtain ⟨B', L, r1, r2, r3, r4, r5⟩ := take_is h ht hs
      have hval : valOf ag v.cells.toList v := by
        simp only [SlotR] at hs
        obtain ⟨o, vs, q1, q2, q3, q4⟩ := hs
        cases ag with
        | true =>
          simp only [if_true] at q4
          subst q4
          simp [valOf, Value.cells]
        | false =>
          simp only [Bool.false_eq_true, if_false] at q4
          unfold F.take at ht
          simp only [q1] at ht
          split at ht
          · rename_i cs0 hc
            obtain ⟨o', vs', Bc, c1, c2, c3, c4, c5, c6, _⟩ := h.cells hc
            rw [q1] at c1; cases c1
            rw [q2] at c2; cases c2
            rw [vw_cells (ag := false) c5 (by simpa using q4), q4]
            simp [valOf]
          · cases ht
      split at ho
      · rename_i hf
        have hL0 := free_blocks r2 hf
        subst hL0
        split at ho
        · rename_i ts hts
          have hT := (free_is h.sub.1 (lentAll cs) hf hts (fun h => h) r2).2
          have hsl : SlotR w Φ [] (fun _ => []) (ofT (lentAll cs) ag ts) v := ofT_is hT hval
          split at ho
          · rename_i y hy
            simp only [Option.some.injEq, Prod.mk.injEq] at ho
            obtain ⟨rfl, rfl⟩ := ho
            rw [hy] at hsl
            simp only [SlotR] at hsl
            exact ⟨B', [], r1, ⟨hsl.1, hsl.2, rfl⟩, r3, r4, r5⟩
          · rename_i b t hy
            simp only [Option.some.injEq, Prod.mk.injEq] at ho
            obtain ⟨rfl, rfl⟩ := ho
            rw [hy] at hsl
            simp only [SlotR] at hsl
            exact ⟨B', [], r1, ⟨hsl, rfl⟩, r3, r4, r5⟩
          · rename_i b l hy
            simp only [Option.some.injEq, Prod.mk.injEq] at ho
            obtain ⟨rfl, rfl⟩ := ho
            rw [hy] at hsl
            simp only [SlotR] at hsl
            exact ⟨B', [], r1, ⟨hsl, rfl⟩, r3, r4, r5⟩
          · cases ho
        · cases ho
      · simp only [Option.some.injEq, Prod.mk.injEq] at ho
        obtain ⟨rfl, rfl⟩ := ho
        exact ⟨B', L, r1, ⟨v.cells.toList, r2, hval⟩, r3, r4, r5⟩
    · cases ho
  · rename_i k p off sz' lo hi
    split at ho
    · rename_i sz rows σ1 ht
      split at ho
      · rename_i hc
        obtain ⟨rfl, rfl, hhi, hpos⟩ := hc
        simp only [Option.some.injEq, Prod.mk.injEq] at ho
        obtain ⟨rfl, rfl⟩ := ho
        simp only [SlotR] at hs
        obtain ⟨o, vs, a, len, cap, q1, q2, q3, q4, _, q6, q7, a', ha', rfl⟩ := hs
        have hs0 : SlotR w Φ σ.ob ρ (.vw k p off 1 false) (.slice a len cap) := by
          simp only [SlotR, Bool.false_eq_true, if_false]
          exact ⟨o, vs, q1, q2, q3, q4⟩
        obtain ⟨B', L, r1, r2, r3, r4, r5⟩ := take_is h ht hs0
        rw [one_cells (one_slice _ _ _)] at r2
        simp only [IsCs, IsC, IsO] at r2
        obtain ⟨v, vs', L1, L2, e1, rfl, hsl, rfl, rfl⟩ := r2
        simp only [List.cons.injEq, and_true] at e1
        subst e1
        rcases hsl with ⟨_, h0, _⟩ | ⟨g, cap', cur, et, fz, C', e2, d2, d3, d4, d5, d6, rfl, d8⟩
        · omega
        · simp only [Value.slice.injEq] at e2
          obtain ⟨rfl, rfl, rfl⟩ := e2
          obtain ⟨D, t1, t2⟩ := IsORows.cut hi d8
          have ha2 : a' = some ⟨g, 0, none⟩ := by rw [ha' (by omega)]; simp [Addr.add]
          subst ha2
          have hsub : (g :: D).Sublist (g :: C' ++ []) := by simpa using List.Sublist.cons_cons g t2
          refine ⟨B', g :: D, r1, ⟨[.slice (some ⟨g, 0, none⟩) (hi - 0) (cap - 0)], ?_, by simp [valOf]⟩, ⟨r3.nd.sublist hsub, fun b hb => r3.apart b (hsub.subset hb), fun b hb => r3.lt b (hsub.subset hb), fun b hb => r3.disj b (hsub.subset hb)⟩, r4, fun b hb => r5 b (hsub.subset hb)⟩
          simp only [IsCs, IsC, IsO]
          refine ⟨_, [], g :: D, [], rfl, by simp, ?_, rfl, rfl⟩
          have hlt : (rows.take hi).length = hi := by rw [List.length_take]; omega
          rw [hlt]
          exact .inr ⟨g, cap, cur, et, fz, D, by simp, d2, d3, ⟨d4.1, by omega⟩, d5, d6, rfl, t1⟩
      · cases ho
    · cases ho
  · rename_i k p off
    split at ho
    · simp only [Option.some.injEq, Prod.mk.injEq] at ho
      obtain ⟨rfl, rfl⟩ := ho
      exact ⟨B, [], h, rfl, Loose.nil, fun _ h => h, by simp⟩
    · split at ho
      · rename_i o hl
        split at ho
        · rename_i hc
          simp only [Bool.and_eq_true, decide_eq_true_eq] at hc
          obtain ⟨⟨rfl, rfl⟩, _⟩ := hc
          simp only [Option.some.injEq, Prod.mk.injEq] at ho
          obtain ⟨rfl, rfl⟩ := ho
          simp only [SlotR] at hs
          obtain ⟨o', g, a, q1, q2, q3⟩ := hs
          rw [hl] at q1; cases q1
          obtain ⟨B', h1, h2, h3⟩ := h.del k
          obtain ⟨Bk, h4, h5, h6⟩ := h3 o hl
          exact ⟨B', Bk, h1, ⟨ρ k, g, a, h4, q2, by rw [q3]; simp⟩, h5, fun b hb => h2.subset hb, h6⟩
        · cases ho
      · cases ho
  · cases ho
theorem outMany_is {w : World} {Φ : Bool → Nat → Prop} {ρ : Nat → List Value} {tm : List Value} {n : Nat} : ∀ (m i : Nat) {σ σ' : F} {B : List Nat} {xs : List V}, Rel w Φ σ tm ρ B → outMany n m i σ = some (xs, σ') → i + m ≤ tm.length →
    ∃ B' L, Rel w Φ σ' tm ρ B' ∧ VPs w Φ xs ((tm.drop i).take m) L ∧ Loose w Φ B' L ∧ (∀ b ∈ B', b ∈ B) ∧ (∀ b ∈ L, b ∈ B) ∧ xs.length = m
  | 0, i, σ, σ', B, xs, h, ho, hm => by
    simp only [outMany, Option.some.injEq, Prod.mk.injEq] at ho
    obtain ⟨rfl, rfl⟩ := ho
    exact ⟨B, [], h, by simp [VPs], Loose.nil, fun _ h => h, by simp, rfl⟩
  | m + 1, i, σ, σ', B, xs, h, ho, hm => by
    simp only [outMany] at ho
    split at ho
    · rename_i x σ1 h1
      split at ho
      · rename_i xs' σ2 h2
        simp only [Option.some.injEq, Prod.mk.injEq] at ho
        obtain ⟨rfl, rfl⟩ := ho
        have hi : i < tm.length := by omega
        have hs := h.slots.get i
        rw [List.getD_eq_getElem?_getD (l := tm), List.getElem?_eq_getElem hi] at hs
        obtain ⟨B1, L1, r1, r2, r3, r4, r5⟩ := outOne_is h hs h1
        obtain ⟨B2, L2, s1, s2, s3, s4, s5, s6⟩ := outMany_is m (i + 1) r1 h2 (by omega)
        refine ⟨B2, L1 ++ L2, s1, ?_, (r3.sub s4).append s3 (fun b hb hb2 => r3.apart b hb (s5 b hb2)), fun b hb => r4 b (s4 b hb), fun b hb => ?_, by simp [s6]⟩
        · rw [List.drop_eq_getElem_cons hi, List.take_succ_cons]
          exact ⟨_, _, L1, L2, rfl, rfl, r2, s2⟩
        · rcases List.mem_append.mp hb with hb | hb
          · exact r5 b hb
          · exact r4 b (s5 b hb)
      · cases ho
    · cases ho
theorem leave_get : ∀ (n i j : Nat) (σ : F), j < n → (leaveObs σ i n)[j]? = some (look σ.ob (i + j))
  | 0, _, _, _, h => by omega
  | n + 1, i, 0, σ, _ => by simp [leaveObs]
  | n + 1, i, j + 1, σ, h => by
    simp only [leaveObs, List.getElem?_cons_succ]
    rw [leave_get n (i + 1) j σ (by omega)]
    congr 2
    omega
theorem leave_look {σ : F} {n k : Nat} (hk : k < n) : look (backs (List.range n) (leaveObs σ 0 n)) k = look σ.ob k := by
  have hkr : (List.range n)[k]? = some k := List.getElem?_range hk
  rw [backs_look List.nodup_range hkr, leave_get n 0 k σ hk, Nat.zero_add]
  rfl
theorem leave_sub {σ : F} {n k : Nat} {o : O} (h : look (backs (List.range n) (leaveObs σ 0 n)) k = some o) : look σ.ob k = some o := by
  have hk : k < n := by simpa using backs_mem k (look_mem h)
  rw [← leave_look hk]
  exact h
theorem ptrsOk_is {w : World} {Φ : Bool → Nat → Prop} {ρ : Nat → List Value} {tm : List Value} {n : Nat} {σ : F} {B : List Nat} (h : Rel w Φ σ tm ρ B) : ∀ {xs : List V} {vs : List Value} {L : List Nat} {i : Nat}, ptrsOk σ i xs = true → (∀ k p off, V.ptr k p off ∈ xs → k < n) → VPs w Φ xs vs L → (∀ j v, vs[j]? = some v → tm[i + j]? = some v) →
    VRs w Φ (backs (List.range n) (leaveObs σ 0 n)) ρ xs vs L
  | [], vs, L, i, _, _, hv, _ => hv
  | x :: r, vs, L, i, hp, hk, hv, ht => by
    obtain ⟨v, vs', B1, B2, rfl, rfl, h1, h2⟩ := hv
    have rest : ptrsOk σ (i + 1) r = true → VRs w Φ (backs (List.range n) (leaveObs σ 0 n)) ρ r vs' B2 := fun hp' =>
      ptrsOk_is h hp' (fun k p off hm => hk k p off (by simp [hm])) h2 (fun j v hj => by
        have := ht (j + 1) v (by simpa using hj)
        rw [show i + (j + 1) = i + 1 + j by omega] at this
        exact this)
    cases x with
    | ptr k p off =>
      simp only [ptrsOk, Bool.and_eq_true] at hp
      refine ⟨v, vs', B1, B2, rfl, rfl, ⟨?_, h1⟩, rest hp.2⟩
      have hp1 := hp.1
      split at hp1
      · rename_i k' p' off' hat
        simp only [Bool.and_eq_true, beq_iff_eq] at hp1
        obtain ⟨⟨rfl, rfl⟩, rfl⟩ := hp1
        obtain ⟨u, hu, _, hs⟩ := slot_at h hat (by simp)
        have h0 := ht 0 v rfl
        rw [Nat.add_zero, hu] at h0
        simp only [Option.some.injEq] at h0
        subst h0
        simp only [SlotR] at hs ⊢
        obtain ⟨o, g, a, q1, q2, q3⟩ := hs
        exact ⟨o, g, a, by rw [leave_look (hk k p off (by simp))]; exact q1, q2, q3⟩
      · cases hp1
    | lit y => exact ⟨v, vs', B1, B2, rfl, rfl, h1, rest hp⟩
    | val b t => exact ⟨v, vs', B1, B2, rfl, rfl, h1, rest hp⟩
    | agg b t => exact ⟨v, vs', B1, B2, rfl, rfl, h1, rest hp⟩
    | nils => exact ⟨v, vs', B1, B2, rfl, rfl, h1, rest hp⟩
    | ov c a => exact ⟨v, vs', B1, B2, rfl, rfl, h1, rest hp⟩
    | op c => exact ⟨v, vs', B1, B2, rfl, rfl, h1, rest hp⟩
    | tup l => exact (h1 : False).elim
theorem outMany_ptr {n : Nat} : ∀ (m i : Nat) {σ σ' : F} {xs : List V}, outMany n m i σ = some (xs, σ') → ∀ k p off, V.ptr k p off ∈ xs → k < n
  | 0, i, σ, σ', xs, ho, k, p, off, hm => by
    simp only [outMany, Option.some.injEq, Prod.mk.injEq] at ho
    obtain ⟨rfl, rfl⟩ := ho
    cases hm
  | m + 1, i, σ, σ', xs, ho, k, p, off, hm => by
    simp only [outMany] at ho
    split at ho
    · rename_i x σ1 h1
      split at ho
      · rename_i xs' σ2 h2
        simp only [Option.some.injEq, Prod.mk.injEq] at ho
        obtain ⟨rfl, rfl⟩ := ho
        rcases List.mem_cons.mp hm with rfl | hm
        · unfold outOne at h1
          split at h1 <;> try (simp at h1; done)
          · split at h1
            · split at h1
              · split at h1
                · split at h1 <;> simp at h1
                · cases h1
              · simp at h1
            · cases h1
          · split at h1
            · split at h1 <;> simp at h1
            · cases h1
          · split at h1
            · rename_i hk
              simp only [Option.some.injEq, Prod.mk.injEq, V.ptr.injEq] at h1
              obtain ⟨⟨rfl, _⟩, _⟩ := h1
              exact hk
            · split at h1
              · split at h1 <;> simp at h1
              · cases h1
        · exact outMany_ptr m (i + 1) h2 k p off hm
      · cases ho
    · cases ho
section
variable {P : Program} {e : Env}
def resVal (tms : Array Value) : ResultVar → Sem Value
  | .tmp t => pure (tms.getD t undef)
  | .cell a t => do loadVar t (← asAddr (tms.getD a undef))
theorem results_eq (fn : Func) (tms : Array Value) : results fn tms = (do let vs ← fn.results.mapM (resVal tms); pure (if h : vs.size = 1 then vs[0] else .tuple vs)) := rfl
theorem resSlots_is (he : EnvOk P e) {w : World} {Φ : Bool → Nat → Prop} {σ : F} {tm : List Value} {ρ : Nat → List Value} {B : List Nat} (h : Rel w Φ σ tm ρ B) : ∀ {rs : List ResultVar} {ss : List S}, resSlots e σ rs = some ss →
    ∃ vals, (rs.mapM (m := Sem) (resVal tm.toArray)).run P w = .ok vals w ∧ SlotRs w Φ σ.ob ρ ss vals
  | [], ss, hr => by
    simp only [resSlots, Option.some.injEq] at hr
    subst hr
    exact ⟨[], by simp, by simp only [SlotRs]⟩
  | .tmp t :: r, ss, hr => by
    simp only [resSlots, Option.map_eq_some_iff] at hr
    obtain ⟨ss', h1, rfl⟩ := hr
    obtain ⟨vals, h2, h3⟩ := resSlots_is he h h1
    refine ⟨tm.getD t undef :: vals, ?_, ?_⟩
    · simp only [List.mapM_cons, resVal, Sem.run_bind, Sem.run_pure, Result.andThen_ok, h2]
      simp
    · simp only [SlotRs]
      exact ⟨_, _, rfl, h.slots.get t, h3⟩
  | .cell a t :: r, ss, hr => by
    simp only [resSlots] at hr
    split at hr
    · rename_i k p off v rs hat hty hrs
      split at hr
      · rename_i cs hc
        simp only [Option.some.injEq] at hr
        subst hr
        obtain ⟨vals, h2, h3⟩ := resSlots_is he h hrs
        have hs := h.slots.get a
        unfold F.at_ at hat
        rw [hat] at hs
        simp only [SlotR] at hs
        obtain ⟨o, g, ad, q1, q2, q3⟩ := hs
        obtain ⟨o', vs, Bc, c1, c2, c3, c4, c5, c6, c7⟩ := h.cells hc
        rw [q1] at c1
        cases c1
        have hp : p ≠ [] := by rintro rfl; simp [addrAt] at q2
        obtain ⟨g', a', cur, et, fz, d1, d2, d3, d4, d5⟩ := c7 hp
        rw [q2] at d1
        cases d1
        obtain ⟨x', r1, r2⟩ := run_loadVar he hty (a := ad + off) d2 (by omega)
        rw [← d5] at r2
        refine ⟨x' :: vals, ?_, ?_⟩
        · have e1 : tm.toArray.getD a undef = .pointer (some ⟨g, ad + off, none⟩) := by
            rw [← q3]
            simp
          simp only [List.mapM_cons, resVal, Sem.run_bind, e1, asAddr, Sem.run_pure, Result.andThen_ok, r1, h2]
        · simp only [SlotRs]
          exact ⟨_, _, rfl, view_is h q1 c2 c3 c5 r2, h3⟩
      · cases hr
    · cases hr
theorem results_is (he : EnvOk P e) {w : World} {Φ : Bool → Nat → Prop} {σ : F} {tm : List Value} {ρ : Nat → List Value} {B : List Nat} (h : Rel w Φ σ tm ρ B) {fn : Func} {ss : List S} (hr : resSlots e σ fn.results.toList = some ss) :
    ∃ vals, (results fn tm.toArray).run P w = .ok (match vals with | [v] => v | vs => .tuple vs.toArray) w ∧ SlotRs w Φ σ.ob ρ ss vals := by
  obtain ⟨vals, h1, h2⟩ := resSlots_is he h hr
  refine ⟨vals, ?_, h2⟩
  rw [results_eq, Array.mapM_eq_mapM_toList, ← bind_pure_comp, bind_assoc, Sem.run_bind, h1]
  simp only [Result.andThen_ok, pure_bind, Sem.run_pure]
  congr 1
  split
  · rename_i hsz
    match vals, hsz with
    | [v], _ => rfl
  · rename_i hsz
    match vals, hsz with
    | [], _ => rfl
    | [v], hsz => simp at hsz
    | _ :: _ :: _, _ => rfl
theorem unboxes_is {c : Code} {args : List S} {obs : List O} {vals : List Value} {w : World} {Φ : Bool → Nat → Prop} {ρ : Nat → List Value} {B : List Nat} (hR : Rel w Φ { sl := args, ob := enterObs obs 0 } vals ρ B) {w' : World} {Φ' : Bool → Nat → Prop} {tm' : List Value} (hk : ∀ i, i ∉ dstsC c → i < args.length → tm'[i]? = vals[i]?) :
    ∀ (l : List (Nat × Nat × Nat)), unOk c args obs l = true → ∀ (σ : F) (ρ' : Nat → List Value) (B' : List Nat), Rel w' Φ' σ tm' ρ' B' → Next w Φ ρ B w' Φ' ρ' B' → ∃ ρ2 B2, Rel w' Φ' (unboxes l σ) tm' ρ2 B2 ∧ Next w Φ ρ B w' Φ' ρ2 B2
  | [], _, σ, ρ', B', h, hN => ⟨ρ', B', h, hN⟩
  | (i, j, n) :: r, hu, σ, ρ', B', h, hN => by
    simp only [unOk, Bool.and_eq_true] at hu
    obtain ⟨hu1, hu2⟩ := hu
    split at hu1
    · rename_i j' n' o harg hlook
      simp only [Bool.and_eq_true, decide_eq_true_eq, Bool.not_eq_true'] at hu1
      obtain ⟨⟨⟨⟨rfl, rfl⟩, hon⟩, hj64⟩, hdst⟩ := hu1
      have hi : i < args.length := (List.getElem?_eq_some_iff.mp harg).1
      have hkeep := hk i (by simpa using hdst) hi
      -- what came in
      have h0 := hR.slots.get i
      have e0 : ({ sl := args, ob := enterObs obs 0 } : F).at_ i = .vw j' [] 0 n' true := by
        unfold F.at_
        rw [List.getD_eq_getElem?_getD, harg]
        rfl
      rw [show ({ sl := args, ob := enterObs obs 0 } : F).sl.getD i .dead = ({ sl := args, ob := enterObs obs 0 } : F).at_ i from rfl] at h0
      rw [e0] at h0
      simp only [SlotR] at h0
      obtain ⟨o1, vs, ho1, hvs, hlen, hv⟩ := h0
      rw [hlook] at ho1
      cases ho1
      simp only [valsAt, Option.some.injEq] at hvs
      subst hvs
      obtain ⟨Bk, _, hBk⟩ := look_is hR.obs hR.keys hlook
      have hcl := hBk.length
      rw [if_pos trivial, List.drop_zero, List.take_of_length_le (by omega)] at hv
      have hv' : tm'.getD i Go.undef = .agg (ρ j').toArray := by
        rw [← hv, List.getD_eq_getElem?_getD, hkeep, ← List.getD_eq_getElem?_getD]
      unfold unboxes
      have step : ∃ ρ2 B2, Rel w' Φ' (unbox1 σ i j' n') tm' ρ2 B2 ∧ Next w Φ ρ B w' Φ' ρ2 B2 := by
        unfold unbox1
        split
        · rename_i k p off m hat
          split
          · rename_i hm
            split
            · rename_i cs σ1 ht
              split
              · rename_i hnone
                have hs := h.slots.get i
                rw [show σ.sl.getD i .dead = σ.at_ i from rfl, hat, hv'] at hs
                obtain ⟨B1, L, hR1, hc, hL, hB1, hLB⟩ := take_is h ht hs
                obtain ⟨B2, hR2, hB2⟩ := hR1.new j' { cells := cs } _ L hc hL
                refine ⟨_, _, hR2, ⟨hN.os, hN.tape, hN.output, hN.size, hN.block, fun b hb => ?_, hN.mono, hN.fresh, hN.lent, fun q hq => ?_⟩⟩
                · rcases List.mem_append.mp hb with hb | hb
                  · exact hN.own b (hLB b hb)
                  · exact hN.own b (hB1 b (hB2.subset hb))
                · by_cases hqj : q = j'
                  · subst hqj; simp [Value.cells]
                  · simp only [hqj, if_false]; exact hN.imp q hq
              · exact ⟨_, _, h, hN⟩
            · exact ⟨_, _, h, hN⟩
          · exact ⟨_, _, h, hN⟩
        · exact ⟨_, _, h, hN⟩
      obtain ⟨ρ2, B2, h2, hN2⟩ := step
      exact unboxes_is hR hk r hu2 _ ρ2 B2 h2 hN2
    · cases hu1
theorem runFn_is (he : EnvOk P e) (hm : P.follows .mixedOrders = true) {run : FuncId → List S → List O → Option (V × List (Option O))} (hs : RunSound P run) {f : FuncId} {n : Nat} {fn : Func} {args : List S} {obs : List O} {v : V} {os : List (Option O)} (hf : P.funcs[f]? = some fn) (hname : (fn.name == "runtime.NumGoroutine") = false) (h : runFn e run f n fn args obs = some (v, os)) : RunIs P f args obs v os := by
  intro w Φ vals ρ B hR
  unfold runFn at h
  split at h
  · rename_i c hb
    unfold Enters
    rw [Go.MuLone.run_callFunc_enter hf hname hb]
    simp only
    refine calls_of_wp hf hb ?_
    split at h
    rotate_left
    · cases h
    rename_i hun
    split at h
    · rename_i ex σ0 hcode
      simp only at h
      split at h
      · rename_i hex
        split at h
        · rename_i ss hss
          split at h
          · rename_i xs σ2 hout
            split at h
            · rename_i hptrs
              simp only [Option.some.injEq, Prod.mk.injEq] at h
              obtain ⟨rfl, rfl⟩ := h
              have hlen := hR.slots.length
              simp only at hlen
              have hR0 : Rel w Φ { sl := args ++ List.replicate (fn.ntmps - args.length) .undef, ob := enterObs obs 0 } (vals ++ List.replicate (fn.ntmps - args.length) Go.undef) ρ B := by
                refine hR.more ?_
                generalize fn.ntmps - args.length = m
                induction m with
                | zero => simp only [List.replicate_zero, SlotRs]
                | succ m ih => simp only [List.replicate_succ, SlotRs]; exact ⟨_, _, rfl, by simp only [SlotR], ih⟩
              have e0 : vals.toArray ++ Array.replicate (fn.ntmps - vals.toArray.size) undef = (vals ++ List.replicate (fn.ntmps - args.length) Go.undef).toArray := by
                apply Array.ext'
                simp [hlen]
              rw [e0]
              refine ok_code he (runOk_of hs) hm f n c _ ex σ0 hcode w Φ _ ρ B [] _ hR0 fun tm' w' Φ' ρ' B' hR1 hN hkept => ?_
              obtain ⟨ρ1, B1, hR2, hs1, hρ1⟩ := Rel.tidys (e.nrmX f) hR1
              have hN := hN.told hs1 hρ1
              clear hR1
              obtain ⟨ρ1, B1, hR1, hN⟩ := unboxes_is (c := c) hR (w' := w') (Φ' := Φ') (tm' := tm') (fun i hi hlt => by
                rw [hkept i hi, List.getElem?_append_left (by omega)]) (e.un f) hun _ ρ1 B1 hR2 hN
              clear hR2
              generalize unboxes (e.un f) (σ0.tidys (e.nrmX f)) = σ1 at *
              obtain ⟨rv, hrun, hsl⟩ := results_is he hR1 (fn := fn) hss
              have key : ([] : List Deferred) = [] ∧ ∃ u, (results fn tm'.toArray).run P w' = .ok u w' ∧ Came w Φ ρ B obs.length (packV xs) (leaveObs σ2 0 obs.length) (.returned u) w' := by
                refine ⟨rfl, _, hrun, ?_⟩
                have hl1 := hR1.slots.length
                have hl2 := hsl.length
                obtain ⟨B2, L, r1, r2, r3, r4, r5, r6⟩ := outMany_is ss.length σ1.sl.length (hR1.more hsl) hout (by simp; omega)
                have e1 : ((tm' ++ rv).drop σ1.sl.length).take ss.length = rv := by
                  rw [← hl1, List.drop_left, ← hl2, List.take_length]
                rw [e1] at r2
                have hv := ptrsOk_is (n := obs.length) r1 hptrs (outMany_ptr _ _ hout) r2 (fun j u hj => by
                  rw [← hl1, List.getElem?_append_right (by omega)]
                  simpa using hj)
                obtain ⟨B3, t1, t2, t3⟩ := r1.obs.submap (ob' := backs (List.range obs.length) (leaveObs σ2 0 obs.length)) r1.keys r1.nd (backs_nodup List.nodup_range) (fun k o hl => leave_sub hl)
                refine ⟨_, Φ', ρ1, B3, L, rfl, ⟨t1, t2, backs_nodup List.nodup_range, fun b hb => r1.disj b (t3 b hb), fun b hb => r1.lt b (t3 b hb), r1.ltΦ, r1.sub, by simp only [SlotRs]⟩, r3.sub t3, ?_, ?_⟩
                · match xs, rv, hv with
                  | [], _, hv => obtain ⟨rfl, rfl⟩ := hv; exact ⟨[], rfl, rfl, rfl⟩
                  | [x], _, hv =>
                    obtain ⟨u, us, C1, C2, rfl, rfl, q1, rfl, rfl⟩ := hv
                    simp only [List.append_nil]
                    cases x with
                    | tup l => exact q1.elim
                    | _ => exact q1
                  | x :: y :: l, _, hv =>
                    have hv' := hv
                    obtain ⟨u, us, C1, C2, rfl, rfl, q1, u2, us2, C3, C4, rfl, rfl, q2, q3⟩ := hv
                    exact ⟨_, rfl, hv'⟩
                · refine hN.to_sub fun b hb => ?_
                  rcases List.mem_append.mp hb with hb | hb
                  · exact r4 b (t3 b hb)
                  · exact r5 b hb
              rcases hex with rfl | rfl
              · exact key
              · exact key
            · cases h
          · cases h
        · cases h
      · cases h
    · cases h
  · cases h
theorem pcall_sound (he : EnvOk P e) (hm : P.follows .mixedOrders = true) {fs : FuncId → Option Func} (hfs : ∀ f fn, fs f = some fn → P.funcs[f]? = some fn ∧ (fn.name == "runtime.NumGoroutine") = false)
    (hext : ∀ f g, e.ext f = some g → ∀ args obs v os, g args obs = some (v, os) → RunIs P f args obs v os) : ∀ k, RunSound P (pcall e fs k)
  | 0 => fun f args obs v os _ h => by simp [pcall] at h
  | k + 1 => fun f args obs v os h64 h => by
    simp only [pcall] at h
    split at h
    · rename_i g hg
      exact hext f g hg args obs v os h
    · split at h
      · rename_i fn hfn
        obtain ⟨h1, h2⟩ := hfs f fn hfn
        exact runFn_is he hm (pcall_sound he hm hfs hext k) h1 h2 h
      · cases h
end
end Go.Proofs.YtckojpaklblnpaaGreatDoor.Ev
/- From the evaluator's answer to a row: arguments opened into trees; a law that holds. -/
set_option linter.unusedVariables false
set_option linter.unusedSimpArgs false
namespace Go.Proofs.YtckojpaklblnpaaGreatDoor.Ev
open Go Go.RowKit
def All (w : World) : Bool → Nat → Prop := fun _ b => b < w.heap.size
def Opens (P : Program) (t : TypeId) {α : Type} (enc : α → List T) (good : α → Prop) : Prop :=
  ∀ (H : Type) (eH : TypeId × Value → H) (w : World) (fuel : Nat) (cs : List Value) (x : DataW H × List MemPlace), DataW.trod eH P w 0 (fun _ => true) true fuel t cs = some x → ∃ a, good a ∧ IsTs w (fun b => b < w.heap.size) (enc a) cs
def OpensB (P : Program) (N : Nat) (t : TypeId) {α : Type} (enc : α → List T) (good : α → Prop) : Prop :=
  ∀ (H : Type) (eH : TypeId × Value → H) (w : World) (fuel : Nat) (cs : List Value) (x : DataW H × List MemPlace), fuel < N → DataW.trod eH P w 0 (fun _ => true) true fuel t cs = some x → ∃ a, good a ∧ IsTs w (fun b => b < w.heap.size) (enc a) cs
section
variable {P : Program}
theorem Opens.at {t : TypeId} {α : Type} {enc : α → List T} {good : α → Prop} (h : Opens P t enc good) (N : Nat) : OpensB P N t enc good := fun H eH w fuel cs x _ hx => h H eH w fuel cs x hx
theorem Opens.of {t : TypeId} {α : Type} {enc : α → List T} {good : α → Prop} (h : ∀ N, OpensB P N t enc good) : Opens P t enc good := fun H eH w fuel cs x hx => h (fuel + 1) H eH w fuel cs x (by omega) hx
theorem OpensB.mono {N M : Nat} {t : TypeId} {α : Type} {enc : α → List T} {good : α → Prop} (h : OpensB P N t enc good) (hl : M ≤ N) : OpensB P M t enc good := fun H eH w fuel cs x hf hx => h H eH w fuel cs x (by omega) hx
theorem opens_string {t : TypeId} (h : P.underlying t = some .string) : Opens P t (fun s : ByteArray => [.lit (.string s)]) (fun s => s.size ≤ maxLen) := by
  intro H eH w fuel cs x hx
  obtain ⟨s, rfl, _, hs⟩ := DataW.trod_string h hx
  exact ⟨s, hs, by simp only [IsTs, IsT]; exact ⟨_, [], rfl, ⟨rfl, rfl⟩, rfl⟩⟩
theorem Opens.map {t : TypeId} {α β : Type} {enc : α → List T} {good : α → Prop} (f : α → β) {enc' : β → List T} {good' : β → Prop} (h : Opens P t enc good) (he : ∀ a, good a → enc' (f a) = enc a) (hg : ∀ a, good a → good' (f a)) : Opens P t enc' good' := by
  intro H eH w fuel cs x hx
  obtain ⟨a, a1, a2⟩ := h _ eH w fuel cs x hx
  exact ⟨f a, hg a a1, by rw [he a a1]; exact a2⟩
theorem OpensB.map {N : Nat} {t : TypeId} {α β : Type} {enc : α → List T} {good : α → Prop} (f : α → β) {enc' : β → List T} {good' : β → Prop} (h : OpensB P N t enc good) (he : ∀ a, good a → enc' (f a) = enc a) (hg : ∀ a, good a → good' (f a)) : OpensB P N t enc' good' := by
  intro H eH w fuel cs x hfu hx
  obtain ⟨a, a1, a2⟩ := h _ eH w fuel cs x hfu hx
  exact ⟨f a, hg a a1, by rw [he a a1]; exact a2⟩
theorem slot_of {w : World} {ob : List (Nat × O)} {ρ : Nat → List Value} {ag : Bool} {ts : List T} {v : Value} (hv : valOf ag v.cells.toList v) (h : IsTs w (fun b => b < w.heap.size) ts v.cells.toList) : SlotR w (All w) ob ρ (ofT false ag ts) v :=
  ofT_is h hv
theorem law_holds {run : FuncId → List S → List O → Option (V × List (Option O))} (hs : RunSound P run) {f : FuncId} {fn : Func} (hf : P.funcs[f]? = some fn) (hb : fn.body.isSome = true) (hname : (fn.name == "runtime.NumGoroutine") = false)
    {args : List S} {vals : List Value} {w : World} {os : List (Option O)} (hpin : Pin w (All w)) (hargs : SlotRs w (All w) [] (fun _ => []) args vals) (h : run f args [] = some (.lit (.bool true), os)) :
    Calls P f vals.toArray w (fun e w' => e = .returned (.bool true) ∧ Below w.heap.size w w') := by
  have h1 := hs f args [] _ os (by simp) h w (All w) vals (fun _ => []) [] ⟨rfl, List.nodup_nil, by simp [enterObs], by simp, by simp, fun _ _ h => h, ⟨fun _ h => h, hpin⟩, hargs⟩
  obtain ⟨c, hc⟩ := Option.isSome_iff_exists.mp hb
  unfold Enters at h1
  rw [Go.MuLone.run_callFunc_enter hf hname hc] at h1
  refine Calls.mono h1 ?_
  rintro e w' ⟨val, Φ', ρ', B1, B2, rfl, _, _, hv, hN⟩
  have hv' : val = .bool true := hv.1
  subst hv'
  exact ⟨rfl, hN.os, hN.tape, hN.output, hN.size, fun k hk => hN.block k hk (by simp)⟩
end
end Go.Proofs.YtckojpaklblnpaaGreatDoor.Ev
