/- The library's functions: what the evaluator takes them for is what they do. -/
import Derived.Test.YtckojpaklblnpaaGreatDoorKTbl
import Derived.Test.YtckojpaklblnpaaGreatDoorKShelf
import Derived.Lib.AppendIntMem
import Derived.Lib.SplitLaws
import Derived.Lib.AtoiAllCases
import Derived.Lib.AtoiErrMem
import Derived.WalkKit
import Derived.BigCall
set_option linter.unusedVariables false
set_option maxRecDepth 100000
namespace Go.Proofs.YtckojpaklblnpaaGreatDoor.Th
open Go Go.RowKit Go.Sort Go.Proofs.YtckojpaklblnpaaGreatDoor.Ev
theorem came_lit {w w' : World} {Φ : Bool → Nat → Prop} {args : List S} {vals : List Value} {ρ : Nat → List Value} {B : List Nat} {v : Value} (hR : Rel w Φ { sl := args, ob := enterObs [] 0 } vals ρ B) (hv : one v) (hb : Below w.heap.size w w') : Came w Φ ρ B 0 (.lit v) [] (.returned v) w' := by
  have hB : B = [] := by have := hR.obs; simp only [enterObs] at this; simpa [IsOb] using this
  subst hB
  refine ⟨v, Φ, ρ, [], [], rfl, ⟨by simp [backs, IsOb], List.nodup_nil, by simp [backs], by simp, by simp, fun x b h => Nat.lt_of_lt_of_le (hR.ltΦ x b h) hb.size, ⟨hR.sub.1, hR.sub.2.next (fun _ h => h) fun b h => hb.block b (hR.ltΦ _ b h)⟩, by simp only [SlotRs]⟩, Loose.nil, ⟨rfl, hv, rfl⟩, ⟨hb.os, hb.tape, hb.output, hb.size, fun b h _ => hb.block b h, by simp, fun _ _ h => h, fun _ _ h => .inl h, fun _ h => .inl h, fun _ _ => rfl⟩⟩
theorem vrs_lits {w : World} {Φ : Bool → Nat → Prop} {ob : List (Nat × O)} {ρ : Nat → List Value} : ∀ (l : List Value), (∀ v ∈ l, one v) → VRs w Φ ob ρ (l.map V.lit) l []
  | [], _ => ⟨rfl, rfl⟩
  | v :: r, h => ⟨v, r, [], [], rfl, rfl, ⟨rfl, h v (by simp), rfl⟩, vrs_lits r fun x hx => h x (by simp [hx])⟩
theorem came_tup {w w' : World} {Φ : Bool → Nat → Prop} {args : List S} {vals : List Value} {ρ : Nat → List Value} {B : List Nat} (l : List Value) (hR : Rel w Φ { sl := args, ob := enterObs [] 0 } vals ρ B) (hv : ∀ v ∈ l, one v) (hb : Below w.heap.size w w') : Came w Φ ρ B 0 (.tup (l.map V.lit)) [] (.returned (.tuple l.toArray)) w' := by
  have hB : B = [] := by have := hR.obs; simp only [enterObs] at this; simpa [IsOb] using this
  subst hB
  refine ⟨_, Φ, ρ, [], [], rfl, ⟨by simp [backs, IsOb], List.nodup_nil, by simp [backs], by simp, by simp, fun x b h => Nat.lt_of_lt_of_le (hR.ltΦ x b h) hb.size, ⟨hR.sub.1, hR.sub.2.next (fun _ h => h) fun b h => hb.block b (hR.ltΦ _ b h)⟩, by simp only [SlotRs]⟩, Loose.nil, ⟨l, rfl, vrs_lits l hv⟩, ⟨hb.os, hb.tape, hb.output, hb.size, fun b h _ => hb.block b h, by simp, fun _ _ h => h, fun _ _ h => .inl h, fun _ h => .inl h, fun _ _ => rfl⟩⟩
theorem strRows_own {w : World} : ∀ (xs : List ByteArray), IsORows w 1 (xs.map fun x => [.lit (.string x)]) (xs.map Value.string) []
  | [] => by simp only [List.map_nil, IsORows]
  | x :: r => by
    simp only [List.map_cons, IsORows]
    refine ⟨[], [], rfl, rfl, ?_, by simpa using strRows_own r⟩
    simp only [List.take_succ_cons, List.take_zero, IsOs, IsO]
    exact ⟨_, [], [], [], rfl, rfl, ⟨rfl, rfl, rfl⟩, rfl, rfl⟩
theorem came_strs {w : World} {Φ : Bool → Nat → Prop} {args : List S} {vals : List Value} {ρ : Nat → List Value} {B : List Nat} (xs : List ByteArray) (t : TypeId) (hR : Rel w Φ { sl := args, ob := enterObs [] 0 } vals ρ B) (hl : xs.length ≤ maxLen) :
    Came w Φ ρ B 0 (.ov [.ow (.sl 1 (xs.map fun x => [.lit (.string x)]))] false) [] (.returned (.slice (some ⟨w.heap.size, 0, none⟩) xs.length xs.length)) (w.alloc (.cells (xs.map Value.string).toArray t (0, 0))) := by
  have hB : B = [] := by have := hR.obs; simp only [enterObs] at this; simpa [IsOb] using this
  subst hB
  have hg := grew_alloc w (.cells (xs.map Value.string).toArray t (0, 0))
  refine ⟨_, Φ, ρ, [], [w.heap.size], rfl, ⟨by simp [backs, IsOb], List.nodup_nil, by simp [backs], by simp, by simp, fun x b h => by rw [hg.size]; exact Nat.lt_succ_of_lt (hR.ltΦ x b h), ⟨hR.sub.1, hR.sub.2.next (fun _ h => h) fun b h => hg.old b (hR.ltΦ _ b h)⟩, by simp only [SlotRs]⟩,
    ⟨by simp, by simp, by simp [hg.size], fun b hb x hx => by simp only [List.mem_singleton] at hb; subst hb; exact absurd (hR.ltΦ x _ hx) (Nat.lt_irrefl _)⟩, ?_, ⟨hg.os, hg.tape, hg.output, by rw [hg.size]; omega, fun b h _ => hg.old b h, fun b hb => .inr (by simp at hb; omega), fun _ _ h => h, fun _ _ h => .inl h, fun _ h => .inl h, fun _ _ => rfl⟩⟩
  refine ⟨[.slice (some ⟨w.heap.size, 0, none⟩) xs.length xs.length], ?_, rfl⟩
  simp only [IsCs, IsC, IsO]
  refine ⟨_, [], [w.heap.size], [], rfl, rfl, ?_, rfl, rfl⟩
  refine .inr ⟨w.heap.size, xs.length, _, t, (0, 0), [], by simp, hg.get, fun i _ h => by simp at h, ⟨by omega, by simp⟩, hl, by simp, rfl, ?_⟩
  simpa using strRows_own xs
theorem below_grow_drew (w : World) (k : Nat) (os : Array Obj) : Below w.heap.size w (grow (w.drewN k) os) := Go.Lib.below_grow _ w (Nat.le_refl _) k os
theorem itoa_is (args : List S) (obs : List O) (v : V) (os : List (Option O)) (h : extItoa args obs = some (v, os)) : RunIs Tryz.prog f_strconv_Itoa args obs v os := by
  unfold extItoa at h
  split at h
  · rename_i n
    split at h
    · rename_i hn
      simp only [Option.some.injEq, Prod.mk.injEq] at h
      obtain ⟨rfl, rfl⟩ := h
      intro w Φ vals ρ B hR
      have hs := hR.slots
      simp only [SlotRs, SlotR] at hs
      obtain ⟨_, _, rfl, ⟨rfl, _⟩, rfl⟩ := hs
      have htab : Lib.TabIs Tryz.prog w "internal/strconv.uint64pow10" .u64 Lib.pow10Tab := by
        obtain ⟨_, cs, ty, fz, hh, hcs⟩ := hR.sub.2 5 _ (by unfold pinAt; rw [if_pos rfl])
        have hcs' : cs = (Lib.pow10Tab.map fun z => Value.int .u64 z).toArray := by rw [← hcs]
        subst hcs'
        unfold Lib.TabIs World.var?
        rw [show Tryz.prog.globalNamed "internal/strconv.uint64pow10" = some 5 by kernel_rfl]
        simp [hh]
      unfold Ev.Enters
      rw [Go.MuLone.run_callFunc_enter (fs_strconv_Itoa) (by kernel_rfl) (c := bodyOf Tryz.f52) rfl]
      refine (Tryz.strconv_Itoa n hn.1 hn.2 w htab).mono ?_
      rintro e w' ⟨rfl, k, os, rfl⟩
      exact came_lit hR rfl (below_grow_drew w k os)
    · cases h
  · cases h
theorem strs_at {w : World} {φ : Nat → Prop} : ∀ {rows : List (List T)} {xs : List ByteArray} {vs : List Value}, strsOf rows = some xs → IsTRows w φ 1 rows vs → xs.length = rows.length ∧ ∀ (j : Nat) x, xs[j]? = some x → vs[j]? = some (.string x)
  | [], xs, vs, h, _ => by
    simp only [strsOf, Option.some.injEq] at h
    subst h
    simp
  | r :: rest, xs, vs, h, hr => by
    simp only [IsTRows] at hr
    obtain ⟨h1, h2, h3⟩ := hr
    unfold strsOf at h
    split at h
    · rename_i heq; cases heq
    · rename_i s r' heq
      simp only [List.cons.injEq] at heq
      obtain ⟨rfl, rfl⟩ := heq
      cases hq : strsOf rest with
      | none => rw [hq] at h; cases h
      | some ys =>
        rw [hq] at h
        simp only [Option.map_some, Option.some.injEq] at h
        subst h
        obtain ⟨k1, k2⟩ := strs_at hq h3
        simp only [IsTs, IsT] at h2
        obtain ⟨v, _, e, ⟨rfl, _⟩, rfl⟩ := h2
        refine ⟨by simp [k1], fun j x hj => ?_⟩
        cases j with
        | zero =>
          simp only [List.getElem?_cons_zero, Option.some.injEq] at hj
          subst hj
          cases vs with
          | nil => simp at e
          | cons a b => simpa using e
        | succ j =>
          simp only [List.getElem?_cons_succ] at hj
          have := k2 j x hj
          rw [List.getElem?_drop] at this
          rw [← this]
          congr 1
          omega
    · cases h
theorem join_is (args : List S) (obs : List O) (v : V) (os : List (Option O)) (h : extJoin args obs = some (v, os)) : RunIs Tryz.prog f_strings_Join args obs v os := by
  unfold extJoin at h
  split at h
  · rename_i b rows sep
    split at h
    · rename_i xs hxs
      split at h
      · rename_i hn
        simp only [Option.some.injEq, Prod.mk.injEq] at h
        obtain ⟨rfl, rfl⟩ := h
        intro w Φ vals ρ B hR
        have hs := hR.slots
        simp only [SlotRs, SlotR, IsT] at hs
        obtain ⟨_, _, rfl, ⟨a, cap, rfl, hcap, hrows⟩, _, _, rfl, ⟨rfl, _⟩, rfl⟩ := hs
        unfold Ev.Enters
        rw [Go.MuLone.run_callFunc_enter (fs_strings_Join) (by kernel_rfl) (c := bodyOf Tryz.f53) rfl]
        rcases hrows with rfl | ⟨g, o, cur, e, fz, rfl, hg, hh, hr⟩
        · simp only [strsOf, Option.some.injEq] at hxs
          subst hxs
          refine (Tryz.strings_Join_none a cap sep w).mono ?_
          rintro e w' ⟨rfl, rfl⟩
          exact came_lit hR rfl (Below.refl _ _)
        · obtain ⟨k1, k2⟩ := strs_at hxs hr
          rw [← k1]
          refine (Tryz.strings_Join g o cap xs sep w (fun j x hj => ?_) (hR.ltΦ _ g hg) hn.1 (by omega) hn.2).mono ?_
          · have := k2 j x hj
            rw [List.getElem?_drop] at this
            unfold World.cell?
            simp only [hh]
            simpa using this
          · rintro e w' ⟨rfl, hb⟩
            exact came_lit hR rfl hb
      · cases h
    · cases h
  · cases h
theorem cutPrefix_is (args : List S) (obs : List O) (v : V) (os : List (Option O)) (h : extCutPrefix args obs = some (v, os)) : RunIs Tryz.prog f_strings_CutPrefix args obs v os := by
  unfold extCutPrefix at h
  split at h
  · rename_i s p
    simp only [Option.some.injEq, Prod.mk.injEq] at h
    obtain ⟨rfl, rfl⟩ := h
    intro w Φ vals ρ B hR
    have hs := hR.slots
    simp only [SlotRs, SlotR] at hs
    obtain ⟨_, _, rfl, ⟨rfl, _⟩, _, _, rfl, ⟨rfl, _⟩, rfl⟩ := hs
    unfold Ev.Enters
    rw [Go.MuLone.run_callFunc_enter (fs_strings_CutPrefix) (by kernel_rfl) (c := bodyOf Tryz.f16) rfl]
    refine (Tryz.strings_CutPrefix s p w).mono ?_
    rintro e w' ⟨rfl, rfl⟩
    exact came_tup [_, _] hR (by intro v hv; simp only [List.mem_cons, List.not_mem_nil, or_false] at hv; rcases hv with rfl | rfl <;> rfl) (Below.refl _ _)
  · cases h
theorem hasPrefix_is (args : List S) (obs : List O) (v : V) (os : List (Option O)) (h : extHasPrefix args obs = some (v, os)) : RunIs Tryz.prog f_strings_HasPrefix args obs v os := by
  unfold extHasPrefix at h
  split at h
  · rename_i s p
    simp only [Option.some.injEq, Prod.mk.injEq] at h
    obtain ⟨rfl, rfl⟩ := h
    intro w Φ vals ρ B hR
    have hs := hR.slots
    simp only [SlotRs, SlotR] at hs
    obtain ⟨_, _, rfl, ⟨rfl, _⟩, _, _, rfl, ⟨rfl, _⟩, rfl⟩ := hs
    unfold Ev.Enters
    rw [Go.MuLone.run_callFunc_enter (fs_strings_HasPrefix) (by kernel_rfl) (c := bodyOf Tryz.f46) rfl]
    refine (Tryz.strings_HasPrefix s p w).mono ?_
    rintro e w' ⟨rfl, rfl⟩
    exact came_lit hR rfl (Below.refl _ _)
  · cases h
theorem hasSuffix_is (args : List S) (obs : List O) (v : V) (os : List (Option O)) (h : extHasSuffix args obs = some (v, os)) : RunIs Tryz.prog f_strings_HasSuffix args obs v os := by
  unfold extHasSuffix at h
  split at h
  · rename_i s p
    split at h
    rotate_left
    · cases h
    rename_i hn
    simp only [Option.some.injEq, Prod.mk.injEq] at h
    obtain ⟨rfl, rfl⟩ := h
    intro w Φ vals ρ B hR
    have hs := hR.slots
    simp only [SlotRs, SlotR] at hs
    obtain ⟨_, _, rfl, ⟨rfl, _⟩, _, _, rfl, ⟨rfl, _⟩, rfl⟩ := hs
    unfold Ev.Enters
    rw [Go.MuLone.run_callFunc_enter (fs_strings_HasSuffix) (by kernel_rfl) (c := bodyOf Tryz.f19) rfl]
    refine (Tryz.strings_HasSuffix s p w hn).mono ?_
    rintro e w' ⟨rfl, rfl⟩
    exact came_lit hR rfl (Below.refl _ _)
  · cases h
theorem contains_is (args : List S) (obs : List O) (v : V) (os : List (Option O)) (h : extContains args obs = some (v, os)) : RunIs Tryz.prog f_strings_Contains args obs v os := by
  unfold extContains at h
  split at h
  · rename_i s p
    split at h
    rotate_left
    · cases h
    rename_i hn
    simp only [Option.some.injEq, Prod.mk.injEq] at h
    obtain ⟨rfl, rfl⟩ := h
    intro w Φ vals ρ B hR
    have hs := hR.slots
    simp only [SlotRs, SlotR] at hs
    obtain ⟨_, _, rfl, ⟨rfl, _⟩, _, _, rfl, ⟨rfl, _⟩, rfl⟩ := hs
    obtain ⟨m, hm⟩ : ∃ m, w.cell? ⟨0, 0, none⟩ = some (.int .i64 m) := by
      obtain ⟨_, cs, ty, fz, hh, m, hcs⟩ := hR.sub.2 0 _ (by unfold pinAt; rw [if_neg (by decide), if_pos rfl])
      refine ⟨m, ?_⟩
      have : cs = #[.int .i64 m] := by apply Array.ext'; simpa using hcs
      subst this
      unfold World.cell?
      simp [hh]
    unfold Ev.Enters
    rw [Go.MuLone.run_callFunc_enter (fs_strings_Contains) (by kernel_rfl) (c := bodyOf Tryz.f18) rfl]
    refine (Tryz.strings_Contains s p m w hn hm).mono ?_
    rintro e w' ⟨rfl, rfl⟩
    exact came_lit hR rfl (Below.refl _ _)
  · cases h
theorem countB_le (s sep : ByteArray) (h1 : 1 ≤ sep.size) : Lib.countB s sep ≤ s.size := Lib.countB_le sep h1 s.size s (Nat.le_refl _)
theorem split_is (args : List S) (obs : List O) (v : V) (os : List (Option O)) (h : extSplit args obs = some (v, os)) : RunIs Tryz.prog f_strings_Split args obs v os := by
  unfold extSplit at h
  split at h
  · rename_i s p
    split at h
    rotate_left
    · cases h
    rename_i hn
    simp only [Option.some.injEq, Prod.mk.injEq] at h
    obtain ⟨rfl, rfl⟩ := h
    intro w Φ vals ρ B hR
    have hs := hR.slots
    simp only [SlotRs, SlotR] at hs
    obtain ⟨_, _, rfl, ⟨rfl, _⟩, _, _, rfl, ⟨rfl, _⟩, rfl⟩ := hs
    obtain ⟨m, hm⟩ : ∃ m, w.cell? ⟨0, 0, none⟩ = some (.int .i64 m) := by
      obtain ⟨_, cs, ty, fz, hh, m, hcs⟩ := hR.sub.2 0 _ (by unfold pinAt; rw [if_neg (by decide), if_pos rfl])
      refine ⟨m, ?_⟩
      have : cs = #[.int .i64 m] := by apply Array.ext'; simpa using hcs
      subst this
      unfold World.cell?
      simp [hh]
    unfold Ev.Enters
    rw [Go.MuLone.run_callFunc_enter (fs_strings_Split) (by kernel_rfl) (c := bodyOf Tryz.f15) rfl]
    refine (Tryz.strings_Split s p m w hn.1 hm hn.2).mono ?_
    rintro e w' ⟨rfl, rfl⟩
    have hl := Lib.splitB_all p hn.2 0 _ s rfl
    rw [← hl]
    exact came_strs _ _ hR (by have h1 := Lib.splitB_length_le p 0 (Lib.countB s p) s; have h2 := countB_le s p hn.2; unfold maxLen; omega)
  · cases h
theorem atoi_ok (s : ByteArray) (v : Int) (w : World) (hs : s.size ≤ 281474976710656) (h : Lib.atoiAll s.data.toList = .ok v) (htab : Lib.TabIs Tryz.prog w "internal/strconv.uint64pow10" .u64 Lib.pow10Tab) :
    Calls Tryz.prog 76 #[.string s] w fun e w' => e = .returned (.tuple #[.int .i64 v, .nilIface]) ∧ Below w.heap.size w w' ∧ Lib.TabIs Tryz.prog w' "internal/strconv.uint64pow10" .u64 Lib.pow10Tab := by
  refine (Tryz.strconv_Atoi_ok s (by omega) v h _).mono ?_
  rintro e w' ⟨rfl, hw⟩
  have hb : Below w.heap.size w w' := by
    rcases hw with rfl | ⟨t, rfl⟩
    · exact Below.refl _ _
    · exact Lib.bytesWorld_below _ _ _
  exact ⟨rfl, hb, Lib.tabBelow_of_tabIs htab w' hb⟩
theorem within_is (a b c : Int) (w : World) : Calls Tryz.prog 49 #[.int .i64 a, .int .i64 b, .int .i64 c] w fun e w' => e = .returned (.bool (decide (b ≤ a) && decide (a ≤ c))) ∧ w' = w := by
  by_cases h1 : b ≤ a
  · by_cases h2 : a ≤ c
    · go_enter Tryz.func49, Tryz.ntmps49
      go_wp2
      go_ret
      exact ⟨by simp; omega, rfl⟩
    · go_enter Tryz.func49, Tryz.ntmps49
      go_wp2
      go_ret
      exact ⟨by simp; omega, rfl⟩
  · go_enter Tryz.func49, Tryz.ntmps49
    go_wp2
    go_ret
    exact ⟨by simp; omega, rfl⟩
theorem numberIn_ok (s : ByteArray) (most v : Int) (w : World) (hs : s.size ≤ 281474976710656) (h : Lib.atoiAll s.data.toList = .ok v) (htab : Lib.TabIs Tryz.prog w "internal/strconv.uint64pow10" .u64 Lib.pow10Tab) :
    Calls Tryz.prog 44 #[.string s, .int .i64 most] w fun e w' => e = .returned (.tuple #[.int .i64 v, .bool (decide (0 ≤ v) && decide (v ≤ most) && decide ((⟨(Lib.itoa v).toArray⟩ : ByteArray) = s))]) ∧ Below w.heap.size w w' := by
  have hb := Lib.atoiAll_bounds h
  by_cases hw : (decide (0 ≤ v) && decide (v ≤ most)) = true
  · go_enter Tryz.func44, Tryz.ntmps44
    go_wp2_with (first
      | (go_at_call 76; refine (atoi_ok s v _ hs h htab).mono ?_; rintro e w1 ⟨rfl, hb1, ht1⟩)
      | (go_at_call 49; refine (within_is v 0 most _).mono ?_; rintro e w1' ⟨rfl, rfl⟩; rw [hw])
      | (go_at_call 52; refine (Tryz.strconv_Itoa v hb.1 hb.2 _ ht1).mono ?_; rintro e w2 ⟨rfl, k, os, rfl⟩))
    go_ret2
    rw [hw]
    refine ⟨?_, hb1.trans ((below_grow_drew w1' k os).mono hb1.size)⟩
    simp [← eq_str]
  · go_enter Tryz.func44, Tryz.ntmps44
    have hw' : (decide (0 ≤ v) && decide (v ≤ most)) = false := by simpa using hw
    go_wp2_with (first
      | (go_at_call 76; refine (atoi_ok s v _ hs h htab).mono ?_; rintro e w1 ⟨rfl, hb1, ht1⟩)
      | (go_at_call 49; refine (within_is v 0 most _).mono ?_; rintro e w1' ⟨rfl, rfl⟩; rw [hw']))
    go_ret2
    rw [hw']
    exact ⟨by simp, hb1⟩
theorem numberIn_bad (s : ByteArray) (most : Int) (w : World) (g : Nat) (n : Int) (hs : s.size ≤ 281474976710656) (ev : Value) (hev : ev = .nilIface ∨ ∃ te pe, ev = .iface te pe)
    (h : (Lib.atoiAll s.data.toList = Lib.NumEnd.syntax ∧ n = 0 ∧ w.cell? ⟨3, 0, none⟩ = some ev) ∨ (Lib.atoiAll s.data.toList = .range ∧ n = Lib.atoiSat s.data.toList ∧ w.cell? ⟨4, 0, none⟩ = some ev)) :
    Calls Tryz.prog 44 #[.string s, .int .i64 most] w fun e w' => e = .returned (.tuple #[.int .i64 n, .bool false]) ∧ Below w.heap.size w w' := by
  rcases h with ⟨h, rfl, hv⟩ | ⟨h, rfl, hv⟩
  · go_enter Tryz.func44, Tryz.ntmps44
    go_wp2_with (go_at_call 76; refine (Tryz.strconv_Atoi_syntax s hs h ev _ ?_ hev).mono ?_)
    · exact hv
    rintro e W1 ⟨N, rfl, -, -, hb⟩
    go_wp2
    go_ret2
    exact ⟨rfl, hb⟩
  · go_enter Tryz.func44, Tryz.ntmps44
    go_wp2_with (go_at_call 76; refine (Tryz.strconv_Atoi_range s hs h ev _ ?_ hev).mono ?_)
    · exact hv
    rintro e W1 ⟨N, rfl, -, -, hb⟩
    go_wp2
    go_ret2
    exact ⟨rfl, hb⟩
theorem err_at {w : World} {Φ : Bool → Nat → Prop} {σ : F} {vals : List Value} {ρ : Nat → List Value} {B : List Nat} (hR : Rel w Φ σ vals ρ B) (g : Nat) (hg : pinAt g = some (fun l => ∃ ev, l = [ev] ∧ (ev = .nilIface ∨ ∃ te pe, ev = .iface te pe))) :
    ∃ ev, w.cell? ⟨g, 0, none⟩ = some ev ∧ (ev = .nilIface ∨ ∃ te pe, ev = .iface te pe) := by
  obtain ⟨_, cs, ty, fz, hh, ev, hcs, hev⟩ := hR.sub.2 g _ hg
  refine ⟨ev, ?_, hev⟩
  have : cs = #[ev] := by apply Array.ext'; simpa using hcs
  subst this
  unfold World.cell?
  simp [hh]
theorem numIn_is (args : List S) (obs : List O) (v : V) (os : List (Option O)) (h : extNumIn args obs = some (v, os)) : RunIs Tryz.prog f_impl_numberIn args obs v os := by
  unfold extNumIn at h
  split at h
  · rename_i s most
    split at h
    rotate_left
    · cases h
    rename_i hn
    simp only [Option.some.injEq, Prod.mk.injEq] at h
    obtain ⟨rfl, rfl⟩ := h
    intro w Φ vals ρ B hR
    have hs := hR.slots
    simp only [SlotRs, SlotR] at hs
    obtain ⟨_, _, rfl, ⟨rfl, _⟩, _, _, rfl, ⟨rfl, _⟩, rfl⟩ := hs
    unfold Ev.Enters
    rw [Go.MuLone.run_callFunc_enter (fs_impl_numberIn) (by kernel_rfl) (c := bodyOf Tryz.f44) rfl]
    have fin : ∀ (a : Int) (b : Bool), Calls Tryz.prog 44 #[.string s, .int .i64 most] w (fun e w' => e = .returned (.tuple #[.int .i64 a, .bool b]) ∧ Below w.heap.size w w') → numIn s most = (a, b) →
        Calls Tryz.prog 44 #[.string s, .int .i64 most] w (fun e w' => Came w Φ ρ B 0 (.tup [.lit (.int .i64 (numIn s most).1), .lit (.bool (numIn s most).2)]) [] e w') := by
      intro a b hc he
      rw [he]
      refine hc.mono ?_
      rintro e w' ⟨rfl, hb⟩
      exact came_tup [.int .i64 a, .bool b] hR (by intro v hv; simp at hv; rcases hv with rfl | rfl <;> rfl) hb
    match ha : Lib.atoiAll s.data.toList with
    | .ok v =>
      have htab : Lib.TabIs Tryz.prog w "internal/strconv.uint64pow10" .u64 Lib.pow10Tab := by
        obtain ⟨_, cs, ty, fz, hh, hcs⟩ := hR.sub.2 5 _ (by unfold pinAt; rw [if_pos rfl])
        have hcs' : cs = (Lib.pow10Tab.map fun z => Value.int .u64 z).toArray := by rw [← hcs]
        subst hcs'
        unfold Lib.TabIs World.var?
        rw [show Tryz.prog.globalNamed "internal/strconv.uint64pow10" = some 5 by kernel_rfl]
        simp [hh]
      exact fin _ _ (numberIn_ok s most v w hn ha htab) (by simp only [numIn, ha])
    | Lib.NumEnd.syntax =>
      obtain ⟨ev, h1, h2⟩ := err_at hR 3 (by unfold pinAt; rw [if_neg (by decide), if_neg (by decide), if_pos (by decide)])
      exact fin _ _ (numberIn_bad s most w 0 0 hn ev h2 (.inl ⟨ha, rfl, h1⟩)) (by simp only [numIn, ha])
    | .range =>
      obtain ⟨ev, h1, h2⟩ := err_at hR 4 (by unfold pinAt; rw [if_neg (by decide), if_neg (by decide), if_pos (by decide)])
      exact fin _ _ (numberIn_bad s most w 0 _ hn ev h2 (.inr ⟨ha, rfl, h1⟩)) (by simp only [numIn, ha])
  · cases h
theorem exts_are : ∀ f g, E.ext f = some g → ∀ args obs v os, g args obs = some (v, os) → RunIs Tryz.prog f args obs v os := by
  intro f g hf args obs v os hg
  change extTab f = some g at hf
  unfold extTab at hf
  split at hf <;> first | (cases hf; done) | (simp only [Option.some.injEq] at hf; subst hf; first | exact itoa_is args obs v os hg | exact join_is args obs v os hg | exact split_is args obs v os hg | exact cutPrefix_is args obs v os hg | exact hasPrefix_is args obs v os hg | exact hasSuffix_is args obs v os hg | exact contains_is args obs v os hg | exact numIn_is args obs v os hg)
end Go.Proofs.YtckojpaklblnpaaGreatDoor.Th
