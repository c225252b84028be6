/- A store. -/
import Derived.Test.YtmkhdnpnjjdgfaaTaken
import Derived.Laws.IdiomCopy
set_option linter.unusedVariables false
set_option linter.unusedSimpArgs false
namespace Go.Proofs.Ytmkhdnpnjjdgfaa.Ev
open Go Go.RowKit

theorem setCell_heap {w : World} {g o : Nat} {v : Value} {cur : Array Value} {e : TypeId} {fz : Nat × Nat} (hg : w.heap[g]? = some (.cells cur e fz)) :
    (w.setCell ⟨g, o, none⟩ v).heap[g]? = some (.cells (cur.setIfInBounds o v) e fz) ∧ (∀ b, b ≠ g → (w.setCell ⟨g, o, none⟩ v).heap[b]? = w.heap[b]?) ∧ (w.setCell ⟨g, o, none⟩ v).heap.size = w.heap.size := by
  refine ⟨?_, ?_, ?_⟩
  · simp [World.setCell, Array.getElem?_modify, hg]
  · intro b hb
    simp [World.setCell, Array.getElem?_modify, Ne.symm hb]
  · simp [World.setCell]

theorem setCells_heap {g : Nat} {e : TypeId} {fz : Nat × Nat} : ∀ (vs : List Value) (o : Nat) (w : World) (cur : Array Value), w.heap[g]? = some (.cells cur e fz) → o + vs.length ≤ cur.size →
    ∃ cur', (w.setCells g o vs).heap[g]? = some (.cells cur' e fz) ∧ cur'.size = cur.size ∧ (∀ j, j < o ∨ o + vs.length ≤ j → cur'[j]? = cur[j]?) ∧ (cur'.toList.drop o).take vs.length = vs ∧
      (∀ b, b ≠ g → (w.setCells g o vs).heap[b]? = w.heap[b]?) ∧ (w.setCells g o vs).heap.size = w.heap.size ∧ (w.setCells g o vs).os = w.os ∧ (w.setCells g o vs).tape = w.tape ∧ (w.setCells g o vs).output = w.output
  | [], o, w, cur, hg, hl => ⟨cur, hg, rfl, fun _ _ => rfl, by simp, fun _ _ => rfl, rfl, rfl, rfl, rfl⟩
  | v :: vs, o, w, cur, hg, hl => by
    obtain ⟨h1, h2, h3⟩ := setCell_heap (o := o) (v := v) hg
    simp only [List.length_cons] at hl
    obtain ⟨cur', k1, k2, k3, k4, k5, k6, k7, k8, k9⟩ := setCells_heap vs (o + 1) (w.setCell ⟨g, o, none⟩ v) (cur.setIfInBounds o v) h1 (by simp; omega)
    refine ⟨cur', k1, by simpa using k2, ?_, ?_, fun b hb => (k5 b hb).trans (h2 b hb), k6.trans h3, k7, k8, k9⟩
    · intro j hj
      simp only [List.length_cons] at hj
      rw [k3 j (by omega), Array.getElem?_setIfInBounds, if_neg (by omega)]
    · have e1 : cur'[o]? = some v := by
        rw [k3 o (.inl (Nat.lt_succ_self _)), Array.getElem?_setIfInBounds]
        simp
        omega
      have e2 : cur'.toList[o]? = some v := by simpa using e1
      obtain ⟨hlt, e3⟩ := List.getElem?_eq_some_iff.mp e2
      rw [List.drop_eq_getElem_cons hlt, List.length_cons, List.take_succ_cons, k4, e3]

theorem IsCs.ones {w : World} {Φ : Bool → Nat → Prop} : ∀ {cs : List C} {vs : List Value} {B : List Nat}, IsCs w Φ cs vs B → ∀ v ∈ vs, v.oneCell' = true
  | [], vs, B, h => by simp only [IsCs] at h; rw [h.1]; simp
  | c :: cs, vs, B, h => by
    simp only [IsCs] at h
    obtain ⟨v, vs', B1, B2, rfl, rfl, h3, h4⟩ := h
    intro x hx
    rcases List.mem_cons.mp hx with rfl | hx
    · exact h3.one
    · exact h4.ones x hx

section
variable {P : Program} {e : Env} {σ : F} {d : Option Tmp} {ty : TypeId} {pos : String} {after : Array Edge} {gd : Option (Nat × Bool)}

theorem run_storeAt (he : EnvOk P e) {t : TypeId} {v : TV} (h : e.ty t = some v) {w : World} {g a : Nat} {cur : Array Value} {et : TypeId} {fz : Nat × Nat} {x : Value} (hx : x.cells.size = v.cells) (hg : w.heap[g]? = some (.cells cur et fz)) (hfz : ∀ j, j < cur.size → ¬(fz.1 ≤ j ∧ j < fz.2)) (hs : a + v.cells ≤ cur.size) (h1 : ∀ y ∈ x.cells.toList, y.oneCell' = true) :
    (Instr.storeAt t (.pointer (some ⟨g, a, none⟩)) x).run P w = .ok () (w.setCells g a x.cells.toList) := by
  have hlen : x.cells.toList.length = v.cells := by simpa using hx
  have := run_storeCells_cells (P := P) g a x.cells.toList 0 w (fun j hj => by simp only [World.cell?, hg]; simp; omega) (fun j hj => by
    have := hfz (a + 0 + j) (by omega)
    simp only [World.frozen?, hg]
    obtain ⟨lo, hi⟩ := fz
    simp only at this ⊢
    simp
    omega) h1
  simp only [Nat.add_zero] at this
  simp only [Instr.storeAt, Instr.sureAddr, storeVar, Sem.run_bind, Sem.run_pure, Result.andThen_ok, he.run_sizeOf h, hx, ne_eq, not_true_eq_false, if_false, this]

theorem write_some {σ σ' : F} {k : Nat} {p : List (Nat × Nat)} {off : Nat} {new : List C} (h : σ.write k p off new = some σ') :
    ∃ o r cs, look σ.ob k = some o ∧ p ≠ [] ∧ getRow o.cells p = some r ∧ off + new.length ≤ r.length ∧ setRow o.cells p (setRange r off new) = some cs ∧ σ' = { sl := killAts k p off new.length σ.sl, ob := put_ σ.ob k { o with cells := cs } } := by
  unfold F.write at h
  cases h1 : look σ.ob k with
  | none => simp [h1] at h
  | some o =>
    simp only [h1] at h
    split at h
    · cases h
    · rename_i hp
      simp only [List.isEmpty_iff] at hp
      cases h2 : getRow o.cells p with
      | none => simp [h2] at h
      | some r =>
        simp only [h2] at h
        split at h
        · rename_i hl
          cases h3 : setRow o.cells p (setRange r off new) with
          | none => simp [h3] at h
          | some cs =>
            simp only [h3, Option.some.injEq] at h
            exact ⟨o, r, cs, rfl, hp, h2, hl, h3, h.symm⟩
        · cases h

/-- A store at an address, of cells that are in nobody's hands. -/
theorem store_is (he : EnvOk P e) {w : World} {Φ : Bool → Nat → Prop} {tm : List Value} {ρ : Nat → List Value} {B L : List Nat} (hR : Rel w Φ σ tm ρ B) {t : TypeId} {v : TV} (h : e.ty t = some v) {k : Nat} {p : List (Nat × Nat)} {off : Nat} {cs : List C} {σ' : F} {a x : Value}
    (ha : SlotR w Φ σ.ob ρ (.ptr k p off) a) (hc : IsCs w Φ cs x.cells.toList L) (hL : Loose w Φ B L) (hcs : cs.length = v.cells) (hw : σ.write k p off cs = some σ') :
    ∃ w' B', (Instr.storeAt t a x).run P w = .ok () w' ∧ Rel w' Φ σ' tm ρ B' ∧ w'.os = w.os ∧ w'.tape = w.tape ∧ w'.output = w.output ∧ w'.heap.size = w.heap.size ∧ (∀ b, b ∉ B → w'.heap[b]? = w.heap[b]?) ∧ (∀ b ∈ B', b ∈ B ∨ b ∈ L) := by
  obtain ⟨o, r, cs', h1, h2, h3, h4, h5, rfl⟩ := write_some hw
  simp only [SlotR] at ha
  obtain ⟨o', g, ad, q1, q2, rfl⟩ := ha
  rw [h1] at q1; cases q1
  obtain ⟨Bk, hB, hnd, hk⟩ := hR.look h1
  obtain ⟨g9, a9, cur, et, fz, X, Br, Y, rv, f1, f2, f3, f4, f5, f6, f7, f8, f9, _⟩ := place p o.cells (ρ k) Bk r hk hnd h3 h2
  rw [q2] at f1
  simp only [Option.some.injEq, Prod.mk.injEq] at f1
  obtain ⟨rfl, rfl⟩ := f1
  have hgB : g ∈ B := hB g (by rw [f3]; simp [f4])
  have hlen : x.cells.toList.length = cs.length := hc.length
  obtain ⟨cur', s1, s2, s3, s4, s5, s6, s7, s8, s9⟩ := setCells_heap (g := g) x.cells.toList (ad + off) w cur f5 (by omega)
  have hnew : IsCs (w.setCells g (ad + off) x.cells.toList) Φ cs x.cells.toList L := hc.keep ⟨fun _ _ h => h, fun y b hb => s5 b (by rintro rfl; exact hR.disj b hgB y hb), fun b hb => s5 b (by rintro rfl; exact hL.apart b hb hgB)⟩
  obtain ⟨B', Y', vs, r1, _, _, _, r5, _⟩ := hR.over (nv := x.cells.toList) h1 h3 h2 h4 h5 q2 f5 s1 s2 (by intro j hj; exact s3 j (by omega)) (by rw [← hlen]; exact s4) s5 s6 hnew hL
  refine ⟨_, B', run_storeAt he h (by simpa [hcs] using hlen) f5 f6 (by omega) hc.ones, r1, s7, s8, s9, s6, fun b hb => s5 b (by rintro rfl; exact hb hgB), r5⟩

theorem ok_store (he : EnvOk P e) (t : TypeId) (v : TV) (a x : Operand) (cs : List C) (σ' σ'' : F) (k : Nat) (p : List (Nat × Nat)) (off : Nat) (h : e.ty t = some v) (ht : σ.take (σ.rd x) = some (cs, σ')) (hcs : cs.length = v.cells) (ha : σ'.rd a = .ptr k p off) (hw : σ'.write k p off cs = some σ'') :
    OpOk P ⟨d, .store t a x, ty, pos, after, gd⟩ σ (σ''.put d .undef) := by
  intro w Φ tm ρ B ds K Q hR hK
  obtain ⟨B1, L, hR1, hc, hL, hB1, hLB⟩ := take_is hR ht (hR.rd (ds := ds) x)
  have har := hR1.rd (ds := ds) a
  rw [ha] at har
  obtain ⟨w', B', s1, s2, s3, s4, s5, s6, s7, s8⟩ := store_is he hR1 h har hc hL hcs hw
  unfold Oper.wp
  simp only [execOp, Sem.run_bind, s1, Result.andThen_ok, Sem.run_pure]
  rw [Oper.upon_skip, act_put]
  refine hK _ _ Φ ρ B' (s2.put d (by simp only [SlotR])) ⟨s3, s4, s5, by omega, fun b hb hn => s7 b (fun hb1 => hn (hB1 b hb1)), fun b hb => ?_, fun _ _ h => h, fun _ _ h => .inl h, fun _ h => .inl h, fun _ _ => rfl⟩ (Same.refl _ _)
  exact (s8 b hb).elim (fun h => .inl (hB1 b h)) (fun h => .inl (hLB b h))

end

end Go.Proofs.Ytmkhdnpnjjdgfaa.Ev
