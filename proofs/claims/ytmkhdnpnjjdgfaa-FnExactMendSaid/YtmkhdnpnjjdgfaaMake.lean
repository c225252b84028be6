/- New blocks: variables, boxes, values built of parts. -/
import Derived.Test.YtmkhdnpnjjdgfaaStore
set_option linter.unusedVariables false
set_option linter.unusedSimpArgs false
namespace Go.Proofs.Ytmkhdnpnjjdgfaa.Ev
open Go Go.RowKit

theorem alloc_get (w : World) (o : Obj) : (w.alloc o).heap[w.heap.size]? = some o := by
  show (w.heap.push o)[w.heap.size]? = some o
  simp
theorem alloc_old (w : World) (o : Obj) {b : Nat} (h : b < w.heap.size) : (w.alloc o).heap[b]? = w.heap[b]? := by
  show (w.heap.push o)[b]? = w.heap[b]?
  simp [Array.getElem?_push, Nat.ne_of_lt h]
theorem alloc_size (w : World) (o : Obj) : (w.alloc o).heap.size = w.heap.size + 1 := by
  show (w.heap.push o).size = _
  simp

/-- The world has one block more. -/
structure Grew (w w' : World) (g : Nat) (o : Obj) : Prop where
  here : g = w.heap.size
  get : w'.heap[g]? = some o
  old : ∀ b, b < w.heap.size → w'.heap[b]? = w.heap[b]?
  size : w'.heap.size = w.heap.size + 1
  os : w'.os = w.os
  tape : w'.tape = w.tape
  output : w'.output = w.output

theorem grew_alloc (w : World) (o : Obj) : Grew w (w.alloc o) w.heap.size o := ⟨rfl, alloc_get w o, fun b h => alloc_old w o h, alloc_size w o, rfl, rfl, rfl⟩

theorem Rel.grew {w w' : World} {Φ : Bool → Nat → Prop} {σ : F} {tm : List Value} {ρ : Nat → List Value} {B : List Nat} {g : Nat} {o : Obj} (h : Rel w Φ σ tm ρ B) (hg : Grew w w' g o) : Rel w' Φ σ tm ρ B :=
  h.keep ⟨fun _ _ h => h, fun x b hb => hg.old b (h.ltΦ x b hb), fun b hb => hg.old b (h.lt b hb)⟩ (by rw [hg.size]; omega)

theorem cells_grew {w w' : World} {Φ : Bool → Nat → Prop} {cs : List C} {vs : List Value} {σ : F} {tm : List Value} {ρ : Nat → List Value} {B L : List Nat} {g : Nat} {o : Obj} (h : Rel w Φ σ tm ρ B) (hL : Loose w Φ B L) (hc : IsCs w Φ cs vs L) (hg : Grew w w' g o) : IsCs w' Φ cs vs L :=
  hc.keep ⟨fun _ _ h => h, fun x b hb => hg.old b (h.ltΦ x b hb), fun b hb => hg.old b (hL.lt b hb)⟩

theorem Loose.grew {w w' : World} {Φ : Bool → Nat → Prop} {σ : F} {tm : List Value} {ρ : Nat → List Value} {B L : List Nat} {g : Nat} {o : Obj} (h : Rel w Φ σ tm ρ B) (hL : Loose w Φ B L) (hg : Grew w w' g o) : Loose w' Φ B (g :: L) where
  nd := by
    rw [List.nodup_cons]
    refine ⟨fun hc => ?_, hL.nd⟩
    have := hL.lt g hc
    rw [hg.here] at this
    omega
  apart b hb hB := by
    rcases List.mem_cons.mp hb with rfl | hb
    · have := h.lt b hB
      rw [hg.here] at this
      omega
    · exact hL.apart b hb hB
  lt b hb := by
    rw [hg.size]
    rcases List.mem_cons.mp hb with rfl | hb
    · rw [hg.here]; omega
    · have := hL.lt b hb; omega
  disj b hb x hx := by
    rcases List.mem_cons.mp hb with rfl | hb
    · have := h.ltΦ x b hx
      rw [hg.here] at this
      omega
    · exact hL.disj b hb x hx

theorem boxed_is {w : World} {Φ : Bool → Nat → Prop} {cs : List C} {xs : List Value} {L : List Nat} {g : Nat} {t : TypeId} (hg : w.heap[g]? = some (.cells xs.toArray t (0, 0))) (hc : IsCs w Φ cs xs L) (hpos : 0 < cs.length) :
    IsCs w Φ [.own cs.length [cs]] [.slice (some ⟨g, 0, none⟩) 1 1] (g :: L) ∧ addrAt w [.own cs.length [cs]] [.slice (some ⟨g, 0, none⟩) 1 1] [(0, 0)] = some (g, 0) := by
  constructor
  · simp only [IsCs, IsC]
    refine ⟨_, [], g :: L, [], rfl, by simp, ?_, rfl, rfl⟩
    refine .inr ⟨g, 1, xs.toArray, t, (0, 0), L, rfl, hg, fun i _ hh => by simp at hh, ⟨hpos, Nat.le_refl _⟩, by decide, by simp [hc.length], rfl, ?_⟩
    simp only [IsCRows]
    refine ⟨L, [], by simp, trivial, ?_, rfl⟩
    have : xs.toArray.toList.take cs.length = xs := by simp [← hc.length]
    rw [this]
    exact hc
  · simp [addrAt, stepAt, C.row, C.sz, hg]

theorem zero_own {w : World} {v : Value} {t : T} (h : cellT v = some t) : IsO w t v [] := by
  have h1 := cellT_one h
  unfold cellT at h
  split at h <;> simp at h
  · subst h
    simp only [IsO]
    exact .inl ⟨rfl, rfl, rfl⟩
  all_goals
    subst h
    simp only [IsO]
    exact ⟨trivial, h1, trivial⟩

theorem zeros_own {w : World} {Φ : Bool → Nat → Prop} : ∀ {vs : List Value} {ts : List T}, cellsT vs = some ts → IsCs w Φ (ts.map C.ow) vs []
  | [], ts, h => by simp only [cellsT, Option.some.injEq] at h; subst h; simp only [List.map_nil, IsCs]; exact ⟨trivial, trivial⟩
  | v :: vs, ts, h => by
    simp only [cellsT] at h
    cases h1 : cellT v with
    | none => simp [h1] at h
    | some t =>
      cases h2 : cellsT vs with
      | none => simp [h1, h2] at h
      | some ts' =>
        simp only [h1, h2, Option.some.injEq] at h
        subst h
        simp only [List.map_cons, IsCs, IsC]
        exact ⟨v, vs, [], [], rfl, rfl, zero_own h1, zeros_own h2⟩

/-- A box made of cells that are in nobody's hands. -/
theorem Rel.boxed {w w' : World} {Φ : Bool → Nat → Prop} {σ : F} {tm : List Value} {ρ : Nat → List Value} {B L : List Nat} {g : Nat} {t : TypeId} {cs : List C} {xs : List Value} (h : Rel w Φ σ tm ρ B) (hL : Loose w Φ B L) (hc : IsCs w Φ cs xs L) (hg : Grew w w' g (.cells xs.toArray t (0, 0))) (hpos : 0 < cs.length) (d : Nat) (bx : Bool) (vr : Bool) :
    ∃ ρ' B', Rel w' Φ ((σ.new (keyOf d 0) { cells := [.own cs.length [cs]], box := bx, var := vr }).put (some d) (.ptr (keyOf d 0) [(0, 0)] 0)) (putL tm (some d) (.pointer (some ⟨g, 0, none⟩))) ρ' B' ∧ (∀ b ∈ B', b ∈ B ∨ b ∈ L ∨ b = g) ∧ Same (some d) ρ ρ' := by
  have hR' := h.grew hg
  have hL' := hL.grew h hg
  obtain ⟨b1, b2⟩ := boxed_is hg.get (cells_grew h hL hc hg) hpos
  obtain ⟨B', hR, hs⟩ := hR'.new (keyOf d 0) { cells := [.own cs.length [cs]], box := bx, var := vr } _ _ b1 hL'
  refine ⟨_, _, hR.put (some d) ?_, ?_, ?_⟩
  · simp only [SlotR]
    refine ⟨{ cells := [.own cs.length [cs]], box := bx, var := vr }, g, 0, by simp [F.new, Ev.look], ?_, rfl⟩
    simpa using b2
  · intro b hb
    rcases List.mem_append.mp hb with hb | hb
    · rcases List.mem_cons.mp hb with rfl | hb
      · exact .inr (.inr rfl)
      · exact .inr (.inl hb)
    · exact .inl (hs.subset hb)
  · intro j hj
    have : j ≠ keyOf d 0 := newKey_keyOf (by decide) hj
    simp [this]

section
variable {P : Program} {e : Env} {σ : F} {ty : TypeId} {pos : String} {after : Array Edge} {gd : Option (Nat × Bool)}

theorem Grew.next {w w' : World} {Φ : Bool → Nat → Prop} {ρ ρ' : Nat → List Value} {B B' : List Nat} {g : Nat} {o : Obj} (hg : Grew w w' g o) (hB : ∀ b ∈ B', b ∈ B ∨ b = g) (hρ : ∀ j, j < 64 → ρ' j = ρ j) : Next w Φ ρ B w' Φ ρ' B' where
  os := hg.os
  tape := hg.tape
  output := hg.output
  size := by rw [hg.size]; omega
  block b hb _ := hg.old b hb
  own b hb := (hB b hb).elim .inl (fun h => .inr (by rw [h, hg.here]; exact Nat.le_refl _))
  mono _ _ h := h
  fresh _ _ h := .inl h
  lent _ h := .inl h
  imp := hρ

theorem ok_alloc (he : EnvOk P e) (t : TypeId) (v : TV) (d : Nat) (h : e.ty t = some v) :
    OpNew P ⟨some d, .alloc t, ty, pos, after, gd⟩ σ ((σ.new (keyOf d 0) { cells := [.own v.cells [v.zero.map .ow]], box := true }).put (some d) (.ptr (keyOf d 0) [(0, 0)] 0)) := by
  intro w Φ tm ρ B ds K Q hR hK
  obtain ⟨z, h1', h2, h3⟩ := he.run_zero h
  have h1 := h1' w
  have hz := zeros_own (w := w) (Φ := Φ) h2
  have hlen : (v.zero.map C.ow).length = v.cells := by rw [← hz.length]; simpa using h3
  have hg := grew_alloc w (.cells z.cells.toList.toArray t (0, 0))
  obtain ⟨ρ', B', hR', hB', hρ'⟩ := hR.boxed Loose.nil hz hg (by rw [hlen]; exact he.pos h) d true false
  rw [hlen] at hR'
  have hrun : (Instr.alloc t true (.tuple #[])).run P w = .ok (.pointer (some ⟨w.heap.size, 0, none⟩)) (w.alloc (.cells z.cells.toList.toArray t (0, 0))) := by
    simp only [Instr.alloc, Sem.run_bind, h1, Result.andThen_ok, newVar, newRow, run_newObj, Sem.run_pure, Array.toArray_toList]
    rfl
  unfold Oper.wp
  simp only [execOp, Sem.run_bind, hrun, Result.andThen_ok, Sem.run_pure]
  rw [Oper.upon_value, act_put]
  exact hK _ _ _ _ _ hR' (hg.next (fun b hb => (hB' b hb).elim .inl (fun h => h.elim (by simp) .inr)) hρ'.imp) hρ' hg.old

theorem ok_box (t : TypeId) (x : Operand) (d : Nat) (cs : List C) (σ' : F) (ht : σ.take (σ.rd x) = some (cs, σ')) (hpos : 0 < cs.length) :
    OpNew P ⟨some d, .box t x, ty, pos, after, gd⟩ σ ((σ'.new (keyOf d 0) { cells := [.own cs.length [cs]], box := true }).put (some d) (.ptr (keyOf d 0) [(0, 0)] 0)) := by
  intro w Φ tm ρ B ds K Q hR hK
  obtain ⟨B1, L, hR1, hc, hL, hB1, hLB⟩ := take_is hR ht (hR.rd (ds := ds) x)
  have hg := grew_alloc w (.cells ((⟨tm.toArray, ds⟩ : Act).eval x).cells.toList.toArray t (0, 0))
  obtain ⟨ρ', B', hR', hB', hρ'⟩ := hR1.boxed hL hc hg hpos d true false
  have hrun : (Instr.box t ((⟨tm.toArray, ds⟩ : Act).eval x)).run P w = .ok (.pointer (some ⟨w.heap.size, 0, none⟩)) (w.alloc (.cells ((⟨tm.toArray, ds⟩ : Act).eval x).cells.toList.toArray t (0, 0))) := by
    simp only [Instr.box, Sem.run_bind, Result.andThen_ok, newVar, newRow, run_newObj, Sem.run_pure, Array.toArray_toList]
    rfl
  unfold Oper.wp
  simp only [execOp, Sem.run_bind, hrun, Result.andThen_ok, Sem.run_pure]
  rw [Oper.upon_value, act_put]
  exact hK _ _ _ _ _ hR' (hg.next (fun b hb => (hB' b hb).elim (fun h => .inl (hB1 b h)) (fun h => h.elim (fun h => .inl (hLB b h)) .inr)) hρ'.imp) hρ' hg.old

/-! ### values built of parts -/

def PartsR (w : World) (Φ : Bool → Nat → Prop) : List (Nat × List C) → List (Nat × Value) → List Nat → Prop
  | [], [], L => L = []
  | (i, cs) :: r, (j, v) :: r', L => i = j ∧ ∃ L1 L2, L = L1 ++ L2 ∧ IsCs w Φ cs v.cells.toList L1 ∧ PartsR w Φ r r' L2
  | _, _, _ => False

theorem Loose.append {w : World} {Φ : Bool → Nat → Prop} {B L L' : List Nat} (h : Loose w Φ B L) (k : Loose w Φ B L') (hd : ∀ b ∈ L, b ∉ L') : Loose w Φ B (L ++ L') where
  nd := by rw [List.nodup_append]; exact ⟨h.nd, k.nd, fun a ha b hb e => hd a ha (e ▸ hb)⟩
  apart b hb := by rcases List.mem_append.mp hb with hb | hb; exact h.apart b hb; exact k.apart b hb
  lt b hb := by rcases List.mem_append.mp hb with hb | hb; exact h.lt b hb; exact k.lt b hb
  disj b hb := by rcases List.mem_append.mp hb with hb | hb; exact h.disj b hb; exact k.disj b hb

theorem parts_is {w : World} {Φ : Bool → Nat → Prop} {tm : List Value} {ρ : Nat → List Value} {ds : List Deferred} : ∀ {xs : List (Nat × Operand)} {σ σ' : F} {B : List Nat} {l : List (Nat × List C)}, Rel w Φ σ tm ρ B → partCells σ xs = some (l, σ') →
    ∃ B' L, Rel w Φ σ' tm ρ B' ∧ PartsR w Φ l (xs.map fun (i, x) => (i, (⟨tm.toArray, ds⟩ : Act).eval x)) L ∧ Loose w Φ B' L ∧ (∀ b ∈ B', b ∈ B) ∧ (∀ b ∈ L, b ∈ B)
  | [], σ, σ', B, l, h, hp => by
    simp only [partCells, Option.some.injEq, Prod.mk.injEq] at hp
    obtain ⟨rfl, rfl⟩ := hp
    exact ⟨B, [], h, by simp [PartsR], Loose.nil, fun _ h => h, by simp⟩
  | (i, x) :: r, σ, σ', B, l, h, hp => by
    simp only [partCells] at hp
    cases h1 : σ.take (σ.rd x) with
    | none => simp [h1] at hp
    | some q =>
      obtain ⟨cs, σ1⟩ := q
      simp only [h1] at hp
      cases h2 : partCells σ1 r with
      | none => simp [h2] at hp
      | some q =>
        obtain ⟨l', σ2⟩ := q
        simp only [h2, Option.some.injEq, Prod.mk.injEq] at hp
        obtain ⟨rfl, rfl⟩ := hp
        obtain ⟨B1, L1, hR1, hc, hL, hB1, hLB⟩ := take_is h h1 (h.rd (ds := ds) x)
        obtain ⟨B2, L2, hR2, hp2, hL2, hB2, hLB2⟩ := parts_is (ds := ds) hR1 h2
        refine ⟨B2, L1 ++ L2, hR2, ⟨rfl, L1, L2, rfl, hc, hp2⟩, (hL.sub hB2).append hL2 (fun b hb hb2 => hL.apart b hb (hLB2 b hb2)), fun b hb => hB1 b (hB2 b hb), fun b hb => ?_⟩
        rcases List.mem_append.mp hb with hb | hb
        · exact hLB b hb
        · exact hB1 b (hLB2 b hb)

theorem fold_set (off : Nat) : ∀ (l : List Value) (j : Nat) (cs : Array Value), off + j + l.length ≤ cs.size → ((l.zipIdx j).foldl (fun cs (q : Value × Nat) => cs.setIfInBounds (off + q.2) q.1) cs).toList = cs.toList.take (off + j) ++ l ++ cs.toList.drop (off + j + l.length)
  | [], j, cs, h => by simp
  | v :: l, j, cs, h => by
    simp only [List.zipIdx_cons, List.foldl_cons, List.length_cons] at h ⊢
    rw [fold_set off l (j + 1) _ (by simp; omega)]
    simp only [Array.toList_setIfInBounds]
    have hlt : off + j < cs.toList.length := by rw [Array.length_toList]; omega
    rw [show off + (j + 1) = off + j + 1 by omega, List.take_succ_eq_append_getElem (by simpa using hlt), List.take_set_of_le (Nat.le_refl _), List.drop_set_of_lt (by omega)]
    have e9 : off + j + 1 + l.length = off + j + (l.length + 1) := by omega
    simp [e9]

theorem fill_is {w : World} {Φ : Bool → Nat → Prop} {place : Nat → Option (Nat × Nat)} : ∀ {l : List (Nat × List C)} {vs : List (Nat × Value)} {cells cs : List C} {arr : Array Value} {L L0 : List Nat}, PartsR w Φ l vs L → IsCs w Φ cells arr.toList L0 → L0.Nodup → L.Nodup → (∀ b ∈ L0, b ∉ L) → fillAt place cells l = some cs →
    ∃ arr' L', Instr.fill place arr vs = some arr' ∧ IsCs w Φ cs arr'.toList L' ∧ L'.Nodup ∧ (∀ b ∈ L', b ∈ L0 ∨ b ∈ L) ∧ arr'.size = arr.size
  | [], [], cells, cs, arr, L, L0, hp, hc, hn0, hn, hd, hf => by
    simp only [fillAt, Option.some.injEq] at hf
    subst hf
    exact ⟨arr, L0, rfl, hc, hn0, fun b hb => .inl hb, rfl⟩
  | [], _ :: _, _, _, _, _, _, hp, _, _, _, _, _ => hp.elim
  | _ :: _, [], _, _, _, _, _, hp, _, _, _, _, _ => by simp [PartsR] at hp
  | (i, c) :: r, (j, v) :: r', cells, cs, arr, L, L0, hp, hc, hn0, hn, hd, hf => by
    obtain ⟨rfl, L1, L2, rfl, h1, h2⟩ := hp
    simp only [fillAt] at hf
    cases hpl : place i with
    | none => simp [hpl] at hf
    | some q =>
      obtain ⟨off, sz⟩ := q
      simp only [hpl] at hf
      split at hf
      · rename_i hcond
        obtain ⟨hsz, hfit⟩ := hcond
        have hvl : v.cells.size = sz := by rw [← hsz, ← h1.length]; simp
        have hcl : cells.length = arr.size := by rw [← hc.length]; simp
        obtain ⟨X, Y, Z, rfl, _, q2⟩ := hc.setRange h1 (by rw [hsz]; exact hfit)
        simp only [List.nodup_append, List.mem_append, ne_eq] at hn hn0 hd
        have hstep : (v.cells.zipIdx.foldl (fun cs (q : Value × Nat) => cs.setIfInBounds (off + q.2) q.1) arr).toList = arr.toList.take off ++ v.cells.toList ++ arr.toList.drop (off + v.cells.toList.length) := by
          rw [← Array.foldl_toList, Array.toList_zipIdx, fold_set off v.cells.toList 0 arr (by simp; omega)]
          simp
        have harr : (v.cells.zipIdx.foldl (fun cs (q : Value × Nat) => cs.setIfInBounds (off + q.2) q.1) arr).size = arr.size := by
          rw [← Array.length_toList, hstep]
          simp
          omega
        obtain ⟨arr', L', f1, f2, f3, f4, f5⟩ := fill_is (arr := v.cells.zipIdx.foldl (fun cs (q : Value × Nat) => cs.setIfInBounds (off + q.2) q.1) arr) (L0 := X ++ (L1 ++ Z)) h2 (by rw [hstep]; exact q2) (by
            simp only [List.nodup_append, List.mem_append, ne_eq]
            refine ⟨hn0.1, ⟨hn.1, hn0.2.1.2.1, fun a ha b hb e => hd b (.inr (.inr hb)) (.inl (e ▸ ha))⟩, ?_⟩
            rintro a ha b (hb | hb) e
            · exact hd a (.inl ha) (.inl (e ▸ hb))
            · exact hn0.2.2 a ha b (.inr hb) e) hn.2.1 (by
            intro b hb hb2
            simp only [List.mem_append] at hb
            rcases hb with hb | hb | hb
            · exact hd b (.inl hb) (.inr hb2)
            · exact hn.2.2 b hb b hb2 rfl
            · exact hd b (.inr (.inr hb)) (.inr hb2)) hf
        refine ⟨arr', L', ?_, f2, f3, ?_, f5.trans harr⟩
        · simp only [Instr.fill, hpl]
          rw [if_neg (by simp [hvl]; omega)]
          exact f1
        · intro b hb
          have := f4 b hb
          simp only [List.mem_append] at this ⊢
          rcases this with (h | h | h) | h <;> simp [h]
      · cases hf

end

end Go.Proofs.Ytmkhdnpnjjdgfaa.Ev
