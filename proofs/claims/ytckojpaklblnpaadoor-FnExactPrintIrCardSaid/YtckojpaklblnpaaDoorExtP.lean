/- The library's functions: what the evaluator takes them for is what they do. -/
import Derived.Test.YtckojpaklblnpaaDoorTbl
import Derived.Test.YtckojpaklblnpaaDoorShelf
import Derived.Lib.AppendIntMem
set_option linter.unusedVariables false
set_option maxRecDepth 100000
namespace Go.Proofs.YtckojpaklblnpaaDoor.Th
open Go Go.RowKit Go.Sort Go.Proofs.YtckojpaklblnpaaDoor.Ev

/-- A call that hands out a number or a text, and leaves what was there. -/
theorem came_lit {w w' : World} {Φ : Bool → Nat → Prop} {args : List S} {vals : List Value} {ρ : Nat → List Value} {B : List Nat} {v : Value} (hR : Rel w Φ { sl := args, ob := enterObs [] 0 } vals ρ B) (hv : one v) (hb : Below w.heap.size w w') : Came w Φ ρ B 0 (.lit v) [] (.returned v) w' := by
  have hB : B = [] := by have := hR.obs; simp only [enterObs] at this; simpa [IsOb] using this
  subst hB
  refine ⟨v, Φ, ρ, [], [], rfl, ⟨by simp [backs, IsOb], List.nodup_nil, by simp [backs], by simp, by simp, fun x b h => Nat.lt_of_lt_of_le (hR.ltΦ x b h) hb.size, ⟨hR.sub.1, hR.sub.2.next (fun _ h => h) fun b h => hb.block b (hR.ltΦ _ b h)⟩, by simp only [SlotRs]⟩, Loose.nil, ⟨rfl, hv, rfl⟩, ⟨hb.os, hb.tape, hb.output, hb.size, fun b h _ => hb.block b h, by simp, fun _ _ h => h, fun _ _ h => .inl h, fun _ h => .inl h, fun _ _ => rfl⟩⟩

theorem below_grow_drew (w : World) (k : Nat) (os : Array Obj) : Below w.heap.size w (grow (w.drewN k) os) := Go.Lib.below_grow _ w (Nat.le_refl _) k os

theorem itoa_is (args : List S) (obs : List O) (v : V) (os : List (Option O)) (h : extItoa args obs = some (v, os)) : RunIs Tryd.prog f_strconv_Itoa args obs v os := by
  unfold extItoa at h
  split at h
  · rename_i n
    split at h
    · rename_i hn
      simp only [Option.some.injEq, Prod.mk.injEq] at h
      obtain ⟨rfl, rfl⟩ := h
      intro w Φ vals ρ B hR
      have hs := hR.slots
      simp only [SlotRs, SlotR] at hs
      obtain ⟨_, _, rfl, ⟨rfl, _⟩, rfl⟩ := hs
      have htab : Lib.TabIs Tryd.prog w "internal/strconv.uint64pow10" .u64 Lib.pow10Tab := by
        obtain ⟨_, ty, fz, hh⟩ := hR.sub.2 0 (Lib.pow10Tab.map fun z => Value.int .u64 z) (by unfold pinAt; rw [if_pos rfl])
        unfold Lib.TabIs World.var?
        rw [show Tryd.prog.globalNamed "internal/strconv.uint64pow10" = some 0 by kernel_rfl]
        simp [hh]
      unfold Ev.Enters
      rw [Go.MuLone.run_callFunc_enter (fs_strconv_Itoa) (by kernel_rfl) (c := bodyOf Tryd.f15) rfl]
      refine (Tryd.strconv_Itoa n hn.1 hn.2 w htab).mono ?_
      rintro e w' ⟨rfl, k, os, rfl⟩
      exact came_lit hR rfl (below_grow_drew w k os)
    · cases h
  · cases h

theorem strs_at {w : World} {φ : Nat → Prop} : ∀ {rows : List (List T)} {xs : List ByteArray} {vs : List Value}, strsOf rows = some xs → IsTRows w φ 1 rows vs → xs.length = rows.length ∧ ∀ (j : Nat) x, xs[j]? = some x → vs[j]? = some (.string x)
  | [], xs, vs, h, _ => by
    simp only [strsOf, Option.some.injEq] at h
    subst h
    simp
  | r :: rest, xs, vs, h, hr => by
    simp only [IsTRows] at hr
    obtain ⟨h1, h2, h3⟩ := hr
    unfold strsOf at h
    split at h
    · rename_i heq; cases heq
    · rename_i s r' heq
      simp only [List.cons.injEq] at heq
      obtain ⟨rfl, rfl⟩ := heq
      cases hq : strsOf rest with
      | none => rw [hq] at h; cases h
      | some ys =>
        rw [hq] at h
        simp only [Option.map_some, Option.some.injEq] at h
        subst h
        obtain ⟨k1, k2⟩ := strs_at hq h3
        simp only [IsTs, IsT] at h2
        obtain ⟨v, _, e, ⟨rfl, _⟩, rfl⟩ := h2
        refine ⟨by simp [k1], fun j x hj => ?_⟩
        cases j with
        | zero =>
          simp only [List.getElem?_cons_zero, Option.some.injEq] at hj
          subst hj
          cases vs with
          | nil => simp at e
          | cons a b => simpa using e
        | succ j =>
          simp only [List.getElem?_cons_succ] at hj
          have := k2 j x hj
          rw [List.getElem?_drop] at this
          rw [← this]
          congr 1
          omega
    · cases h

theorem join_is (args : List S) (obs : List O) (v : V) (os : List (Option O)) (h : extJoin args obs = some (v, os)) : RunIs Tryd.prog f_strings_Join args obs v os := by
  unfold extJoin at h
  split at h
  · rename_i b rows sep
    split at h
    · rename_i xs hxs
      split at h
      · rename_i hn
        simp only [Option.some.injEq, Prod.mk.injEq] at h
        obtain ⟨rfl, rfl⟩ := h
        intro w Φ vals ρ B hR
        have hs := hR.slots
        simp only [SlotRs, SlotR, IsT] at hs
        obtain ⟨_, _, rfl, ⟨a, cap, rfl, hcap, hrows⟩, _, _, rfl, ⟨rfl, _⟩, rfl⟩ := hs
        unfold Ev.Enters
        rw [Go.MuLone.run_callFunc_enter (fs_strings_Join) (by kernel_rfl) (c := bodyOf Tryd.f16) rfl]
        rcases hrows with rfl | ⟨g, o, cur, e, fz, rfl, hg, hh, hr⟩
        · simp only [strsOf, Option.some.injEq] at hxs
          subst hxs
          refine (Tryd.strings_Join_none a cap sep w).mono ?_
          rintro e w' ⟨rfl, rfl⟩
          exact came_lit hR rfl (Below.refl _ _)
        · obtain ⟨k1, k2⟩ := strs_at hxs hr
          rw [← k1]
          refine (Tryd.strings_Join g o cap xs sep w (fun j x hj => ?_) (hR.ltΦ _ g hg) hn.1 (by omega) hn.2).mono ?_
          · have := k2 j x hj
            rw [List.getElem?_drop] at this
            unfold World.cell?
            simp only [hh]
            simpa using this
          · rintro e w' ⟨rfl, hb⟩
            exact came_lit hR rfl hb
      · cases h
    · cases h
  · cases h

theorem exts_are : ∀ f g, E.ext f = some g → ∀ args obs v os, g args obs = some (v, os) → RunIs Tryd.prog f args obs v os := by
  intro f g hf args obs v os hg
  change extTab f = some g at hf
  unfold extTab at hf
  split at hf
  · simp only [Option.some.injEq] at hf; subst hf; first | exact itoa_is args obs v os hg | exact join_is args obs v os hg
  · simp only [Option.some.injEq] at hf; subst hf; first | exact itoa_is args obs v os hg | exact join_is args obs v os hg
  · cases hf
end Go.Proofs.YtckojpaklblnpaaDoor.Th
