/- From the evaluator's answer to a row: arguments opened into trees; a law that holds. -/
import Derived.Test.YtmkhdnpnjjdgfaaRun
import Derived.ChangeArms
import Derived.Below
set_option linter.unusedVariables false
set_option linter.unusedSimpArgs false
namespace Go.Proofs.Ytmkhdnpnjjdgfaa.Ev
open Go Go.RowKit

/-- All that was there. -/
def All (w : World) : Bool → Nat → Prop := fun _ b => b < w.heap.size

/-- Whatever a claim reads as a value of a type is a tree of this kind. -/
def Opens (P : Program) (t : TypeId) {α : Type} (enc : α → List T) (good : α → Prop) : Prop :=
  ∀ (H : Type) (eH : TypeId × Value → H) (w : World) (fuel : Nat) (cs : List Value) (x : DataW H × List MemPlace), DataW.trod eH P w 0 (fun _ => true) true fuel t cs = some x → ∃ a, good a ∧ IsTs w (fun b => b < w.heap.size) (enc a) cs

section
variable {P : Program}

theorem opens_int {t : TypeId} {k : IntKind} (h : P.underlying t = some (.int k)) : Opens P t (fun n : Int => [.lit (.int k n)]) (fun n => (Lit.int k n).wf = true) := by
  intro H eH w fuel cs x hx
  obtain ⟨n, rfl, _, hw⟩ := DataW.trod_int h hx
  exact ⟨n, hw, by simp only [IsTs, IsT]; exact ⟨_, [], rfl, ⟨rfl, rfl⟩, rfl⟩⟩

theorem opens_bool {t : TypeId} (h : P.underlying t = some .bool) : Opens P t (fun n : Bool => [.lit (.bool n)]) (fun _ => True) := by
  intro H eH w fuel cs x hx
  obtain ⟨n, rfl, _⟩ := DataW.trod_bool h hx
  exact ⟨n, trivial, by simp only [IsTs, IsT]; exact ⟨_, [], rfl, ⟨rfl, rfl⟩, rfl⟩⟩

theorem opens_string {t : TypeId} (h : P.underlying t = some .string) : Opens P t (fun s : ByteArray => [.lit (.string s)]) (fun s => s.size ≤ maxLen) := by
  intro H eH w fuel cs x hx
  obtain ⟨s, rfl, _, hs⟩ := DataW.trod_string h hx
  exact ⟨s, hs, by simp only [IsTs, IsT]; exact ⟨_, [], rfl, ⟨rfl, rfl⟩, rfl⟩⟩

theorem rows_open {w : World} {φ : Nat → Prop} {α : Type} {enc : α → List T} {good : α → Prop} {sz : Nat} (hsz : ∀ a, (enc a).length = sz) : ∀ (n : Nat) (vs : List Value), (∀ i, i < n → ∃ a, good a ∧ IsTs w φ (enc a) ((vs.drop (i * sz)).take sz)) → ∃ l : List α, l.length = n ∧ (∀ a ∈ l, good a) ∧ IsTRows w φ sz (l.map enc) vs
  | 0, vs, _ => ⟨[], rfl, by simp, by simp only [List.map_nil, IsTRows]⟩
  | n + 1, vs, h => by
    obtain ⟨a, h1, h2⟩ := h 0 (by omega)
    obtain ⟨l, l1, l2, l3⟩ := rows_open hsz n (vs.drop sz) (fun i hi => by
      obtain ⟨b, b1, b2⟩ := h (i + 1) (by omega)
      refine ⟨b, b1, ?_⟩
      rw [List.drop_drop, show sz + i * sz = (i + 1) * sz by rw [Nat.succ_mul]; omega]
      exact b2)
    refine ⟨a :: l, by simp [l1], ?_, ?_⟩
    · intro b hb
      rcases List.mem_cons.mp hb with rfl | hb
      · exact h1
      · exact l2 b hb
    · simp only [List.map_cons, IsTRows]
      refine ⟨hsz a, by simpa using h2, l3⟩

theorem opens_slice {t e : TypeId} {α : Type} {enc : α → List T} {good : α → Prop} {sz : Nat} (h : P.underlying t = some (.slice e)) (hc : P.cellsOf e = sz) (hpos : 0 < sz) (hsz : ∀ a, (enc a).length = sz) (he : Opens P e enc good) :
    Opens P t (fun l : List α => [.sl sz (l.map enc)]) (fun l => l.length ≤ maxLen ∧ ∀ a ∈ l, good a) := by
  intro H eH w fuel cs x hx
  rcases DataW.trod_slice h hx with ⟨rfl, _⟩ | ⟨a, len, cap, elems, rest, n, _, rfl, _, _, hl, hm, hlen, hel, _, _⟩
  · refine ⟨[], by simp, ?_⟩
    simp only [IsTs, IsT, List.map_nil, List.length_nil]
    exact ⟨_, [], rfl, ⟨none, 0, rfl, Nat.le_refl _, .inl trivial⟩, rfl⟩
  · rw [hc] at hel
    by_cases h0 : len = 0
    · subst h0
      refine ⟨[], by simp, ?_⟩
      simp only [IsTs, IsT, List.map_nil, List.length_nil]
      exact ⟨_, [], rfl, ⟨some a, cap, rfl, Nat.zero_le _, .inl trivial⟩, rfl⟩
    · have each : ∀ i, i < len → ∃ cs', w.cells? 0 (a.add (i * sz)) sz = some cs' ∧ ∃ b, good b ∧ IsTs w (fun b => b < w.heap.size) (enc b) cs' := by
        intro i hi
        have h1 := hel i hi
        rw [List.getElem?_eq_getElem (by omega), Option.bind_eq_some_iff] at h1
        obtain ⟨cs', c1, c2⟩ := h1
        exact ⟨cs', c1, he _ eH w n cs' _ c2⟩
      -- the block
      obtain ⟨cs0, c1, _⟩ := each 0 (by omega)
      rw [Nat.zero_mul] at c1
      obtain ⟨_, k2, k3⟩ := World.cells?_some c1
      have h00 := k3 0 hpos
      rw [List.getElem?_eq_getElem (by omega)] at h00
      simp only [Addr.add, if_true] at h00
      unfold World.cell? at h00
      split at h00
      · rename_i cur et fz hheap
        split at h00
        · cases h00
        · rename_i hspot
          have hsp : a.spot = none := by cases hh : a.spot with
            | none => rfl
            | some s => rw [hh] at hspot; simp at hspot
          have ha : a = ⟨a.block, a.off, none⟩ := by cases a; simp only at hsp; subst hsp; rfl
          obtain ⟨l, l1, l2, l3⟩ := rows_open (w := w) (φ := fun b => b < w.heap.size) (good := good) hsz len (cur.toList.drop a.off) (fun i hi => by
            obtain ⟨cs', c1, b, b1, b2⟩ := each i hi
            refine ⟨b, b1, ?_⟩
            obtain ⟨_, k2, k3⟩ := World.cells?_some c1
            have e : ((cur.toList.drop a.off).drop (i * sz)).take sz = cs' := by
              apply List.ext_getElem?
              intro j
              rw [List.getElem?_take]
              split
              · rename_i hj
                rw [← k3 j hj, List.drop_drop, List.getElem?_drop, ha]
                unfold World.cell?
                have e1 : ((⟨a.block, a.off, none⟩ : Addr).add (i * sz)).add j = ⟨a.block, a.off + i * sz + j, none⟩ := by
                  unfold Addr.add
                  by_cases hz : i * sz = 0 <;> by_cases hj0 : j = 0 <;> simp [hz, hj0]
                rw [e1]
                simp only [hheap]
                simp
              · rename_i hj
                rw [List.getElem?_eq_none (by omega)]
            rw [e]
            exact b2)
          refine ⟨l, ⟨by rw [l1]; exact Nat.le_trans hl hm, l2⟩, ?_⟩
          simp only [IsTs, IsT, List.length_map]
          refine ⟨_, [], rfl, ⟨some a, cap, by rw [l1], by rw [l1]; exact hl, .inr ⟨a.block, a.off, cur, et, fz, by rw [← ha], (Array.getElem?_eq_some_iff.mp hheap).1, hheap, l3⟩⟩, rfl⟩
      · cases h00

/-- A struct's fields from a place on. -/
def OpensF (P : Program) (fs : List Go.Field) (off : Nat) {α : Type} (enc : α → List T) (good : α → Prop) : Prop :=
  ∀ (H : Type) (eH : TypeId × Value → H) (w : World) (fuel : Nat) (cs : List Value), (∀ f ∈ fs, ∃ x, DataW.trod eH P w 0 (fun _ => true) true fuel f.type ((cs.drop f.offset).take (P.cellsOf f.type)) = some x) →
    cs.length = off + (fs.map fun f => P.cellsOf f.type).sum → ∃ a, good a ∧ IsTs w (fun b => b < w.heap.size) (enc a) (cs.drop off)

theorem opensF_nil {off : Nat} : OpensF P [] off (fun _ : Unit => []) (fun _ => True) := by
  intro H eH w fuel cs _ hl
  refine ⟨(), trivial, ?_⟩
  simp only [IsTs]
  exact List.drop_eq_nil_of_le (by simpa using Nat.le_of_eq hl)

theorem opensF_cons {f : Go.Field} {fs : List Go.Field} {off sz : Nat} {α β : Type} {enc : α → List T} {good : α → Prop} {enc' : β → List T} {good' : β → Prop} (ho : f.offset = off) (hc : P.cellsOf f.type = sz) (h1 : Opens P f.type enc good) (h2 : OpensF P fs (off + sz) enc' good') :
    OpensF P (f :: fs) off (fun x : α × β => enc x.1 ++ enc' x.2) (fun x => good x.1 ∧ good' x.2) := by
  intro H eH w fuel cs hf hl
  obtain ⟨x, hx⟩ := hf f (by simp)
  obtain ⟨a, a1, a2⟩ := h1 _ eH w fuel _ x hx
  obtain ⟨b, b1, b2⟩ := h2 _ eH w fuel cs (fun g hg => hf g (by simp [hg])) (by rw [hl, List.map_cons, List.sum_cons, hc]; omega)
  refine ⟨(a, b), ⟨a1, b1⟩, ?_⟩
  rw [ho, hc] at a2
  have e : cs.drop off = (cs.drop off).take sz ++ cs.drop (off + sz) := by rw [← List.drop_drop, List.take_append_drop]
  rw [e]
  have app : ∀ {ts us : List T} {vs ws : List Value}, IsTs w (fun b => b < w.heap.size) ts vs → IsTs w (fun b => b < w.heap.size) us ws → IsTs w (fun b => b < w.heap.size) (ts ++ us) (vs ++ ws) := by
    intro ts
    induction ts with
    | nil => intro us vs ws h k; simp only [IsTs] at h; subst h; exact k
    | cons t ts ih =>
      intro us vs ws h k
      simp only [IsTs] at h
      obtain ⟨v, vs', rfl, h2, h3⟩ := h
      simp only [List.cons_append, IsTs]
      exact ⟨v, vs' ++ ws, rfl, h2, ih h3 k⟩
  exact app a2 b2

theorem opens_struct {t : TypeId} {fs : Array Go.Field} {α : Type} {enc : α → List T} {good : α → Prop} (h : P.underlying t = some (.struct fs)) (hl : P.cellsOf t = (fs.toList.map fun f => P.cellsOf f.type).sum) (hf : OpensF P fs.toList 0 enc good) : Opens P t enc good := by
  intro H eH w fuel cs x hx
  obtain ⟨xs, n, _, _, hlen, hsz, hget⟩ := DataW.trod_struct h hx
  have := hf _ eH w n cs (fun f hm => by
    obtain ⟨i, hi⟩ := List.getElem?_of_mem hm
    have hi' : fs[i]? = some f := by simpa using hi
    have hlt : i < fs.size := (Array.getElem?_eq_some_iff.mp hi').1
    exact ⟨xs[i]'(by omega), by rw [hget i f hi', List.getElem?_eq_getElem (by omega)]⟩) (by rw [hlen, hl]; omega)
  simpa using this

theorem Opens.map {t : TypeId} {α β : Type} {enc : α → List T} {good : α → Prop} (f : α → β) {enc' : β → List T} {good' : β → Prop} (h : Opens P t enc good) (he : ∀ a, good a → enc' (f a) = enc a) (hg : ∀ a, good a → good' (f a)) : Opens P t enc' good' := by
  intro H eH w fuel cs x hx
  obtain ⟨a, a1, a2⟩ := h _ eH w fuel cs x hx
  exact ⟨f a, hg a a1, by rw [he a a1]; exact a2⟩

/-- A slot out of trees. -/
theorem slot_of {w : World} {ob : List (Nat × O)} {ρ : Nat → List Value} {ag : Bool} {ts : List T} {v : Value} (hv : valOf ag v.cells.toList v) (h : IsTs w (fun b => b < w.heap.size) ts v.cells.toList) : SlotR w (All w) ob ρ (ofT false ag ts) v :=
  ofT_is h hv

/-- A law that the evaluator finds true. -/
theorem law_holds {run : FuncId → List S → List O → Option (V × List (Option O))} (hs : RunSound P run) {f : FuncId} {fn : Func} (hf : P.funcs[f]? = some fn) (hb : fn.body.isSome = true) (hname : (fn.name == "runtime.NumGoroutine") = false)
    {args : List S} {vals : List Value} {w : World} {os : List (Option O)} (hargs : SlotRs w (All w) [] (fun _ => []) args vals) (h : run f args [] = some (.lit (.bool true), os)) :
    Calls P f vals.toArray w (fun e w' => e = .returned (.bool true) ∧ Below w.heap.size w w') := by
  have h1 := hs f args [] _ os (by simp) h w (All w) vals (fun _ => []) [] ⟨rfl, List.nodup_nil, by simp [enterObs], by simp, by simp, fun _ _ h => h, fun _ h => h, hargs⟩
  obtain ⟨c, hc⟩ := Option.isSome_iff_exists.mp hb
  unfold Enters at h1
  rw [Go.MuLone.run_callFunc_enter hf hname hc] at h1
  refine Calls.mono h1 ?_
  rintro e w' ⟨val, Φ', ρ', B1, B2, rfl, _, _, hv, hN⟩
  have hv' : val = .bool true := hv.1
  subst hv'
  exact ⟨rfl, hN.os, hN.tape, hN.output, hN.size, fun k hk => hN.block k hk (by simp)⟩

end

end Go.Proofs.Ytmkhdnpnjjdgfaa.Ev
