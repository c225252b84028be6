/- Addresses, fields, elements, slices of slices. -/
import Derived.Test.YtmkhdnpnjjdgfaaLoad
set_option linter.unusedVariables false
set_option linter.unusedSimpArgs false
namespace Go.Proofs.Ytmkhdnpnjjdgfaa.Ev
open Go Go.RowKit

theorem addrAt_snoc {w : World} : ∀ (p : List (Nat × Nat)) (cs : List C) (vs : List Value) (r : List C) (rv : List Value) (c i : Nat) (x : C) (v : Value) (g o : Nat) (r2 : List C) (rv2 : List Value), getRow cs p = some r → valsAt w cs vs p = some rv → r[c]? = some x → rv[c]? = some v → stepAt w x v i = some (g, o, r2, rv2) →
    addrAt w cs vs (p ++ [(c, i)]) = some (g, o)
  | [], cs, vs, r, rv, c, i, x, v, g, o, r2, rv2, h1, h2, h3, h4, h5 => by
    simp only [getRow, Option.some.injEq] at h1
    simp only [valsAt, Option.some.injEq] at h2
    subst h1 h2
    simp [addrAt, h3, h4, h5]
  | (c0, i0) :: p, cs, vs, r, rv, c, i, x, v, g, o, r2, rv2, h1, h2, h3, h4, h5 => by
    obtain ⟨x0, r0, e1, e2, e3⟩ := getRow_cons h1
    simp only [valsAt, e1] at h2
    cases hv : vs[c0]? with
    | none => simp [hv] at h2
    | some v0 =>
      simp only [hv] at h2
      cases hs : stepAt w x0 v0 i0 with
      | none => simp [hs] at h2
      | some q =>
        obtain ⟨g0, o0, r1, rv1⟩ := q
        simp only [hs] at h2
        have := stepAt_some hs
        rw [e2] at this
        cases this
        have ih := addrAt_snoc p r0 rv1 r rv c i x v g o r2 rv2 e3 h2 h3 h4 h5
        cases p with
        | nil => simpa [addrAt, e1, hv, hs] using ih
        | cons q p => simpa [addrAt, e1, hv, hs] using ih

theorem IsTRows.at_ {w : World} {φ : Nat → Prop} {sz : Nat} : ∀ {rows : List (List T)} {vs : List Value} {i : Nat} {r : List T}, IsTRows w φ sz rows vs → rows[i]? = some r → r.length = sz ∧ IsTs w φ r ((vs.drop (i * sz)).take sz)
  | [], _, _, _, _, h => by simp at h
  | r0 :: rs, vs, 0, r, hh, h => by
    simp only [List.getElem?_cons_zero, Option.some.injEq] at h
    subst h
    simp only [IsTRows] at hh
    simpa using ⟨hh.1, hh.2.1⟩
  | r0 :: rs, vs, i + 1, r, hh, h => by
    simp only [List.getElem?_cons_succ] at h
    simp only [IsTRows] at hh
    have := IsTRows.at_ hh.2.2 h
    rw [List.drop_drop] at this
    rwa [Nat.succ_mul, Nat.add_comm]

theorem IsTRows.drop {w : World} {φ : Nat → Prop} {sz : Nat} : ∀ (n : Nat) {rows : List (List T)} {vs : List Value}, IsTRows w φ sz rows vs → IsTRows w φ sz (rows.drop n) (vs.drop (n * sz))
  | 0, _, _, h => by simpa using h
  | n + 1, [], _, h => by simp only [List.drop_nil, IsTRows]
  | n + 1, r :: rs, vs, h => by
    simp only [IsTRows] at h
    have := h.2.2.drop n
    rw [List.drop_drop] at this
    simpa [Nat.succ_mul, Nat.add_comm] using this

theorem IsTRows.take {w : World} {φ : Nat → Prop} {sz : Nat} : ∀ (n : Nat) {rows : List (List T)} {vs : List Value}, IsTRows w φ sz rows vs → IsTRows w φ sz (rows.take n) vs
  | 0, _, _, h => by simp only [List.take_zero, IsTRows]
  | n + 1, [], _, h => by simp only [List.take_nil, IsTRows]
  | n + 1, r :: rs, vs, h => by
    simp only [IsTRows] at h
    simp only [List.take_succ_cons, IsTRows]
    exact ⟨h.1, h.2.1, h.2.2.take n⟩

/-- An element of a read-only slice. -/
theorem IsT.elem {w : World} {Φ : Bool → Nat → Prop} {ob : List (Nat × O)} {ρ : Nat → List Value} {b : Bool} {sz : Nat} {rows : List (List T)} {v : Value} {i : Nat} {r : List T} (h : IsT w (Φ b) (.sl sz rows) v) (hr : rows[i]? = some r) :
    ∃ g o cap, v = .slice (some ⟨g, o, none⟩) rows.length cap ∧ i < rows.length ∧ SlotR w Φ ob ρ (.pt b r) (.pointer (some ⟨g, o + i * sz, none⟩)) := by
  simp only [IsT] at h
  obtain ⟨a, cap, rfl, h2, h3⟩ := h
  have hlt : i < rows.length := by
    rcases Nat.lt_or_ge i rows.length with h | h
    · exact h
    · simp [List.getElem?_eq_none h] at hr
  rcases h3 with rfl | ⟨g, o, cur, e, fz, rfl, h4, h5, h6⟩
  · simp at hr
  · obtain ⟨h7, h8⟩ := h6.at_ hr
    refine ⟨g, o, cap, rfl, hlt, ?_⟩
    simp only [SlotR]
    rw [List.drop_drop] at h8
    exact ⟨g, o + i * sz, cur, e, fz, rfl, h4, h5, by rw [h7]; exact h8⟩

theorem elem_is {w : World} {Φ : Bool → Nat → Prop} {σ : F} {tm : List Value} {ρ : Nat → List Value} {B : List Nat} (hR : Rel w Φ σ tm ρ B) {m k : Nat} {p : List (Nat × Nat)} {off : Nat} {c : C} {i : Nat} {s : S} {o : O} {vs : List Value} {v : Value}
    (hc : σ.cells k p off 1 = some [c]) (hl : Ev.look σ.ob k = some o) (hv : valsAt w o.cells (ρ k) p = some vs) (hx : (vs.drop off).take 1 = [v]) (h : elemAt m k p off c i = some s) :
    ∃ g o len cap, v = .slice (some ⟨g, o, none⟩) len cap ∧ i < len ∧ SlotR w Φ σ.ob ρ s (.pointer (some ⟨g, o + i * m, none⟩)) := by
  obtain ⟨o', vs', Bc, c1, c2, c3, c4, c5, c6, _⟩ := hR.cells hc
  rw [hl] at c1; cases c1
  rw [hv] at c2; cases c2
  rw [hx] at c5
  simp only [IsCs] at c5
  obtain ⟨v', vs'', B1, B2, e1, _, hC, _⟩ := c5
  simp only [List.cons.injEq] at e1
  obtain ⟨rfl, rfl⟩ := e1
  obtain ⟨o2, r, d1, d2, d3, d4⟩ := cells_some hc
  rw [hl] at d1; cases d1
  have hrc : r[off]? = some c := by
    have : ((r.drop off).take 1)[0]? = some c := by rw [← d4]; rfl
    rw [List.getElem?_take] at this
    simpa using this
  have hvc : vs[off]? = some v := by
    have : ((vs.drop off).take 1)[0]? = some v := by rw [hx]; rfl
    rw [List.getElem?_take] at this
    simpa using this
  have main : (c.sz = some m ∧ ∃ r2, c.row i = some r2) → s = .ptr k (p ++ [(off, i)]) 0 → ∃ g o len cap, v = .slice (some ⟨g, o, none⟩) len cap ∧ i < len ∧ SlotR w Φ σ.ob ρ s (.pointer (some ⟨g, o + i * m, none⟩)) := by
    rintro ⟨h1, r2, h2⟩ rfl
    obtain ⟨g, n, cap, cur, e, fz, X, Br, Y, sz, rfl, hsz, hn, hin, hnc, hcap, hheap, hfz, hcur, rfl, hrl, hrc', _, _⟩ := hC.row h2
    rw [h1] at hsz
    cases hsz
    refine ⟨g, 0, n, cap, rfl, hin, ?_⟩
    simp only [SlotR]
    refine ⟨o, g, i * m, hl, ?_, by simp⟩
    exact addrAt_snoc p o.cells (ρ k) r vs off i c _ g (i * m) r2 ((cur.toList.drop (i * m)).take m) d2 hv hrc hvc (by simp [stepAt, h2, h1, hheap])
  unfold elemAt at h
  split at h
  · rename_i b sz rows
    split at h
    · rename_i hsz
      subst hsz
      simp only [Option.map_eq_some_iff] at h
      obtain ⟨r', hr', rfl⟩ := h
      simp only [IsC] at hC
      obtain ⟨g, o, cap, rfl, hlt, hs⟩ := hC.2.elem (ob := σ.ob) (ρ := ρ) hr'
      exact ⟨g, o, _, cap, rfl, hlt, hs⟩
    · cases h
  · split at h
    · rename_i hsz
      simp only [Option.map_eq_some_iff] at h
      obtain ⟨r', hr', rfl⟩ := h
      exact main ⟨hsz, r', hr'⟩ rfl
    · cases h

section
variable {P : Program} {e : Env}

theorem run_indexAt_sl {t el : TypeId} {m : Nat} {g o len cap i : Nat} {k : IntKind} {w : World} (ht : P.underlying t = some (.slice el)) (hm : (sizeOf el).run P w = .ok m w) (hi : i < len) :
    (Instr.indexAt t (.slice (some ⟨g, o, none⟩) len cap) (.int k (i : Int))).run P w = .ok (.pointer (some ⟨g, o + i * m, none⟩)) w := by
  have h1 : (0 : Int) ≤ i ∧ (i : Int) < len := by omega
  simp [Instr.indexAt, asIntOf, run_underlying ht, h1, hm, Addr.add_lit]
  intro h2; omega

theorem run_indexAt_arr {t el : TypeId} {m n : Nat} {g o i : Nat} {k : IntKind} {w : World} (ht : P.underlying t = some (.array n el)) (hm : (sizeOf el).run P w = .ok m w) (hi : i < n) :
    (Instr.indexAt t (.pointer (some ⟨g, o, none⟩)) (.int k (i : Int))).run P w = .ok (.pointer (some ⟨g, o + i * m, none⟩)) w := by
  have h1 : (0 : Int) ≤ i ∧ (i : Int) < n := by omega
  simp [Instr.indexAt, asIntOf, run_underlying ht, h1, hm, Addr.add_lit, Instr.sureAddr]
  intro h2; omega

theorem run_fieldAt {t : TypeId} {fs : Array Field} {f : Nat} {fd : Field} {m g o : Nat} {w : World} (ht : P.underlying t = some (.struct fs)) (hf : fs[f]? = some fd) (hm : (sizeOf fd.type).run P w = .ok m w) (hpos : m ≠ 0) :
    (Instr.fieldAt t (.pointer (some ⟨g, o, none⟩)) f).run P w = .ok (.pointer (some ⟨g, o + fd.offset, none⟩)) w := by
  simp [Instr.fieldAt, run_underlying ht, hf, Instr.sureAddr, fieldPlace, hm, hpos, Addr.add_lit]

theorem EnvOk.pos (he : EnvOk P e) {t : TypeId} {v : TV} (h : e.ty t = some v) : 0 < v.cells := (he.ty t v h).choose_spec.choose_spec.2.2.2.2.2.2.2.2.2

variable {σ : F} {d : Option Tmp} {ty : TypeId} {pos : String} {after : Array Edge} {gd : Option (Nat × Bool)}

theorem addr_is (he : EnvOk P e) {w : World} {Φ : Bool → Nat → Prop} {tm : List Value} {ρ : Nat → List Value} {B : List Nat} (hR : Rel w Φ σ tm ρ B) {t : TypeId} {x i s : S} {xv iv : Value} (hx : SlotR w Φ σ.ob ρ x xv) (hi : SlotR w Φ σ.ob ρ i iv) (h : addrOf e σ t x i = some s) :
    ∃ v, (∀ w2, (Instr.indexAt t xv iv).run P w2 = .ok v w2) ∧ SlotR w Φ σ.ob ρ s v := by
  unfold addrOf at h
  split at h
  · rename_i n v hn hv
    obtain ⟨k, rfl⟩ := intOf_is hn hi
    split at h
    · cases h
    · rename_i hneg
      obtain ⟨j, rfl⟩ := Int.eq_ofNat_of_zero_le (Int.not_lt.mp hneg)
      simp only [Int.toNat_natCast] at h
      split at h
      · rename_i el hd
        have hu := he.und hv
        rw [hd] at hu
        split at h
        · rename_i m hm
          have hsz := fun w2 => he.run_sizeOf hm w2
          split at h
          · rename_i b sz rows
            split at h
            · rename_i hs
              subst hs
              simp only [Option.map_eq_some_iff] at h
              obtain ⟨r, hr, rfl⟩ := h
              simp only [SlotR] at hx
              obtain ⟨g, o, cap, rfl, hlt, hS⟩ := hx.elem (ob := σ.ob) (ρ := ρ) hr
              exact ⟨_, fun w2 => run_indexAt_sl hu (hsz w2) hlt, hS⟩
            · cases h
          · rename_i kk p off
            split at h
            · rename_i c hc
              simp only [SlotR] at hx
              obtain ⟨o, vs, h1, h2, h3, h4⟩ := hx
              simp only [Bool.false_eq_true, if_false] at h4
              obtain ⟨g, o, len, cap, rfl, hlt, hS⟩ := elem_is hR hc h1 h2 h4 h
              exact ⟨_, fun w2 => run_indexAt_sl hu (hsz w2) hlt, hS⟩
            · cases h
          · rename_i kk p off sz lo hi'
            split at h
            · rename_i hcond
              obtain ⟨hlo, rfl⟩ := hcond
              split at h
              · rename_i c hc
                simp only [SlotR] at hx
                obtain ⟨o, vs, a, len, cap, h1, h2, h3, h4, h5, h6, hcap, a', ha', rfl⟩ := hx
                obtain ⟨g, o, len', cap', e1, hlt, hS⟩ := elem_is hR hc h1 h2 h4 h
                simp only [Value.slice.injEq] at e1
                obtain ⟨rfl, rfl, rfl⟩ := e1
                rw [ha' (by omega)]
                simp only [Option.map_some, Addr.add_lit]
                have := fun w2 => run_indexAt_sl (P := P) (g := g) (o := o + lo * m.cells) (cap := cap - lo) (k := k) hu (hsz w2) (show j < hi' - lo by omega)
                refine ⟨_, this, ?_⟩
                have e3 : o + lo * m.cells + j * m.cells = o + (lo + j) * m.cells := by rw [Nat.add_mul]; omega
                rw [e3]
                exact hS
              · cases h
            · cases h
          · cases h
        · cases h
      · rename_i len el hd
        have hu := he.und hv
        rw [hd] at hu
        split at h
        · rename_i m hm
          have hsz := fun w2 => he.run_sizeOf hm w2
          split at h
          · rename_i hlt
            split at h
            · rename_i kk p off
              simp only [Option.some.injEq] at h
              subst h
              simp only [SlotR] at hx
              obtain ⟨o, g, a, h1, h2, rfl⟩ := hx
              refine ⟨_, fun w2 => run_indexAt_arr hu (hsz w2) hlt, ?_⟩
              simp only [SlotR]
              exact ⟨o, g, a, h1, h2, by rw [Nat.add_assoc]⟩
            · rename_i b ts
              simp only [Option.some.injEq] at h
              subst h
              simp only [SlotR] at hx
              obtain ⟨g, o, cur, et, fz, rfl, h2, h3, h4⟩ := hx
              refine ⟨_, fun w2 => run_indexAt_arr hu (hsz w2) hlt, ?_⟩
              simp only [SlotR]
              refine ⟨g, _, cur, et, fz, rfl, h2, h3, ?_⟩
              have := h4.drop (j * m.cells)
              rw [List.drop_take, List.drop_drop] at this
              rw [List.length_drop]
              exact this
            · cases h
          · cases h
        · cases h
      · cases h
  · cases h

theorem ok_indexAddr (he : EnvOk P e) (t : TypeId) (x i : Operand) (s : S) (h : addrOf e σ t (σ.rd x) (σ.rd i) = some s) : OpStill P ⟨d, .indexAddr t x i, ty, pos, after, gd⟩ σ (σ.put d s) :=
  opVal (o := ⟨d, .indexAddr t x i, ty, pos, after, gd⟩) fun w Φ tm ρ B ds hR => by
    obtain ⟨v, h1, h2⟩ := addr_is he hR (hR.rd (ds := ds) x) (hR.rd (ds := ds) i) h
    exact ⟨v, fun w2 _ => by simp only [execOp, Sem.run_bind, h1, Result.andThen_ok, Sem.run_pure], h2⟩

theorem ok_fieldAddr (he : EnvOk P e) (t : TypeId) (tv w0 : TV) (x : Operand) (f : Nat) (fs : Array Field) (fd : Field) (s : S) (ht : e.ty t = some tv) (hd : tv.desc = .struct fs) (hf : fs[f]? = some fd) (hw : e.ty fd.type = some w0)
    (h : (∃ k p o, σ.rd x = .ptr k p o ∧ s = .ptr k p (o + fd.offset)) ∨ (∃ b ts, σ.rd x = .pt b ts ∧ s = .pt b (ts.drop fd.offset))) : OpStill P ⟨d, .fieldAddr t x f, ty, pos, after, gd⟩ σ (σ.put d s) :=
  opVal (o := ⟨d, .fieldAddr t x f, ty, pos, after, gd⟩) fun w Φ tm ρ B ds hR => by
    have hu := he.und ht
    rw [hd] at hu
    have hr := hR.rd (ds := ds) x
    have hsz := fun w2 => he.run_sizeOf hw w2
    have hpos : w0.cells ≠ 0 := Nat.ne_of_gt (he.pos hw)
    rcases h with ⟨k, p, o', hx, rfl⟩ | ⟨b, ts, hx, rfl⟩
    · rw [hx] at hr
      simp only [SlotR] at hr
      obtain ⟨o, g, a, h1, h2, h3⟩ := hr
      refine ⟨.pointer (some ⟨g, a + o' + fd.offset, none⟩), fun w2 _ => ?_, ?_⟩
      · simp only [execOp, h3, Sem.run_bind, run_fieldAt hu hf (hsz w2) hpos, Result.andThen_ok, Sem.run_pure]
      · simp only [SlotR]
        exact ⟨o, g, a, h1, h2, by rw [Nat.add_assoc]⟩
    · rw [hx] at hr
      simp only [SlotR] at hr
      obtain ⟨g, o, cur, et, fz, h1, h2, h3, h4⟩ := hr
      refine ⟨.pointer (some ⟨g, o + fd.offset, none⟩), fun w2 _ => ?_, ?_⟩
      · simp only [execOp, h1, Sem.run_bind, run_fieldAt hu hf (hsz w2) hpos, Result.andThen_ok, Sem.run_pure]
      · simp only [SlotR]
        refine ⟨g, _, cur, et, fz, rfl, h2, h3, ?_⟩
        have := h4.drop fd.offset
        rw [List.drop_take, List.drop_drop] at this
        rw [List.length_drop]
        exact this

end

end Go.Proofs.Ytmkhdnpnjjdgfaa.Ev
