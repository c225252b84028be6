/- Arguments of a call: what is handed over, lent, read. -/
import Derived.Test.YtmkhdnpnjjdgfaaCode
set_option linter.unusedVariables false
set_option linter.unusedSimpArgs false
namespace Go.Proofs.Ytmkhdnpnjjdgfaa.Ev
open Go Go.RowKit

theorem SlotRs.append {w : World} {Φ : Bool → Nat → Prop} {ob : List (Nat × O)} {ρ : Nat → List Value} : ∀ {xs ys : List S} {us vs : List Value}, SlotRs w Φ ob ρ xs us → SlotRs w Φ ob ρ ys vs → SlotRs w Φ ob ρ (xs ++ ys) (us ++ vs)
  | [], ys, us, vs, h, k => by simp only [SlotRs] at h; subst h; exact k
  | x :: xs, ys, us, vs, h, k => by
    simp only [SlotRs] at h
    obtain ⟨v, us', rfl, h2, h3⟩ := h
    simp only [List.cons_append, SlotRs]
    exact ⟨v, us' ++ vs, rfl, h2, h3.append k⟩

theorem SlotRs.take {w : World} {Φ : Bool → Nat → Prop} {ob : List (Nat × O)} {ρ : Nat → List Value} : ∀ {xs : List S} {us : List Value}, SlotRs w Φ ob ρ xs us → ∀ n, SlotRs w Φ ob ρ (xs.take n) (us.take n)
  | [], us, h, n => by simp only [SlotRs] at h; subst h; simp only [List.take_nil, SlotRs]
  | x :: xs, us, h, 0 => by simp only [List.take_zero, SlotRs]
  | x :: xs, us, h, n + 1 => by
    simp only [SlotRs] at h
    obtain ⟨v, us', rfl, h2, h3⟩ := h
    simp only [List.take_succ_cons, SlotRs]
    exact ⟨v, _, rfl, h2, h3.take n⟩

theorem SlotRs.drop {w : World} {Φ : Bool → Nat → Prop} {ob : List (Nat × O)} {ρ : Nat → List Value} : ∀ {xs : List S} {us : List Value}, SlotRs w Φ ob ρ xs us → ∀ n, SlotRs w Φ ob ρ (xs.drop n) (us.drop n)
  | [], us, h, n => by simp only [SlotRs] at h; subst h; simp only [List.drop_nil, SlotRs]
  | x :: xs, us, h, 0 => by simpa only [List.drop_zero] using h
  | x :: xs, us, h, n + 1 => by
    simp only [SlotRs] at h
    obtain ⟨v, us', rfl, h2, h3⟩ := h
    simp only [List.drop_succ_cons]
    exact h3.drop n

theorem Rel.more {w : World} {Φ : Bool → Nat → Prop} {σ : F} {tm : List Value} {ρ : Nat → List Value} {B : List Nat} (h : Rel w Φ σ tm ρ B) {xs : List S} {vs : List Value} (hx : SlotRs w Φ σ.ob ρ xs vs) : Rel w Φ { σ with sl := σ.sl ++ xs } (tm ++ vs) ρ B :=
  { h with slots := h.slots.append hx }

theorem Rel.push {w : World} {Φ : Bool → Nat → Prop} {σ : F} {tm : List Value} {ρ : Nat → List Value} {B : List Nat} (h : Rel w Φ σ tm ρ B) {s : S} {v : Value} (hs : SlotR w Φ σ.ob ρ s v) : Rel w Φ (σ.push s) (tm ++ [v]) ρ B :=
  h.more (by simp only [SlotRs]; exact ⟨v, [], rfl, hs, rfl⟩)

theorem Rel.short {w : World} {Φ : Bool → Nat → Prop} {σ : F} {tm : List Value} {ρ : Nat → List Value} {B : List Nat} (h : Rel w Φ σ tm ρ B) (n : Nat) : Rel w Φ { σ with sl := σ.sl.take n } (tm.take n) ρ B :=
  { h with slots := h.slots.take n }

/-- What is not in the objects may be told as one likes. -/
theorem Rel.rho {w : World} {Φ : Bool → Nat → Prop} {σ : F} {tm : List Value} {ρ ρ' : Nat → List Value} {B : List Nat} (h : Rel w Φ σ tm ρ B) (hρ : ∀ k ∈ σ.ob.map (·.1), ρ' k = ρ k) : Rel w Φ σ tm ρ' B where
  obs := h.obs.keep (Keeps.refl _ _ _) hρ
  nd := h.nd
  keys := h.keys
  disj := h.disj
  lt := h.lt
  ltΦ := h.ltΦ
  sub := h.sub
  slots := by
    have C := carry_same (w' := w) (Φ' := Φ) (ρ' := ρ') (ob' := σ.ob) h.obs h.keys (Keeps.refl _ _ _) (fun k o hl => ⟨hl, hρ k (look_mem hl)⟩)
    exact C.slots σ.sl tm h.slots

theorem slot_at {w : World} {Φ : Bool → Nat → Prop} {σ : F} {tm : List Value} {ρ : Nat → List Value} {B : List Nat} (h : Rel w Φ σ tm ρ B) {t : Nat} {s : S} (hs : σ.at_ t = s) (hd : s ≠ .dead) : ∃ v, tm[t]? = some v ∧ t < σ.sl.length ∧ SlotR w Φ σ.ob ρ s v := by
  have h1 := h.slots.get t
  have hl := h.slots.length
  unfold F.at_ at hs
  rw [hs] at h1
  rcases Nat.lt_or_ge t σ.sl.length with hlt | hge
  · refine ⟨tm[t]'(by omega), by simp, hlt, ?_⟩
    rw [List.getD_eq_getElem?_getD, List.getElem?_eq_getElem (by omega)] at h1
    exact h1
  · rw [List.getD_eq_getElem?_getD, List.getElem?_eq_none hge] at hs
    exact absurd hs.symm hd

theorem Rel.put_at {w : World} {Φ : Bool → Nat → Prop} {σ : F} {tm : List Value} {ρ : Nat → List Value} {B : List Nat} (h : Rel w Φ σ tm ρ B) {t : Nat} {s : S} {v : Value} (hv : tm[t]? = some v) (hs : SlotR w Φ σ.ob ρ s v) : Rel w Φ (σ.put (some t) s) tm ρ B := by
  have := h.put (some t) hs
  have e : putL tm (some t) v = tm := by
    simp only [putL]
    obtain ⟨hlt, rfl⟩ := List.getElem?_eq_some_iff.mp hv
    exact List.set_getElem_self hlt
  rw [e] at this
  exact this

theorem killAlls_length (k : Nat) : ∀ l : List S, (killAlls k l).length = l.length
  | [] => rfl
  | s :: r => by simp [killAlls, killAlls_length k r]

theorem killAts_length (k : Nat) (p : List (Nat × Nat)) (off n : Nat) : ∀ l : List S, (killAts k p off n l).length = l.length
  | [] => rfl
  | s :: r => by simp [killAts, killAts_length k p off n r]

/-- A place becomes an object of its own. -/
theorem lend_is {w : World} {Φ : Bool → Nat → Prop} {σ σ' : F} {tm : List Value} {ρ : Nat → List Value} {B : List Nat} {t tk : Nat} {pls : List (Nat × Nat)} (h : Rel w Φ σ tm ρ B) (hl : σ.lend t tk = some (σ', pls)) :
    ∃ gh ρ' B', Rel w Φ σ' (tm ++ gh) ρ' B' ∧ (∀ b ∈ B', b ∈ B) ∧ (∀ k, k ≠ tk → ρ' k = ρ k) ∧ (∀ pl ∈ pls, pl.2 = tk ∧ (tm ++ gh)[pl.1]? = some (.agg (ρ' tk).toArray)) ∧ σ'.sl.length = σ.sl.length + gh.length := by
  unfold F.lend at hl
  split at hl
  · rename_i k p off n ag hat
    split at hl
    · rename_i o hlo
      split at hl
      · simp only [Option.some.injEq, Prod.mk.injEq] at hl
        obtain ⟨rfl, rfl⟩ := hl
        exact ⟨[], ρ, B, by simpa using h, fun _ hb => hb, fun _ _ => rfl, by simp, by simp⟩
      · split at hl
        · rename_i cs hc
          split at hl
          · rename_i σ1 hw
            split at hl
            · rename_i hcond
              simp only [Bool.and_eq_true, Option.isNone_iff_eq_none, decide_eq_true_eq] at hcond
              simp only [Option.some.injEq, Prod.mk.injEq] at hl
              obtain ⟨rfl, rfl⟩ := hl
              obtain ⟨v, hv, hlt, hs⟩ := slot_at h hat (by simp)
              simp only [SlotR] at hs
              obtain ⟨o1, vs, q1, q2, q3, q4⟩ := hs
              obtain ⟨o2, vs2, Bc, c1, c2, c3, c4, c5, c6, c7⟩ := h.cells hc
              rw [hlo] at q1 c1; cases q1; cases c1
              rw [q2] at c2; cases c2
              obtain ⟨o3, r, cs', w1, w2, w3, w4, w5, rfl⟩ := write_some hw
              rw [hlo] at w1; cases w1
              obtain ⟨g, a, cur, et, fz, a1, a2, a3, a4, a5⟩ := c7 w2
              have hlen : (cs.map fun c => if c.free then c else C.hole).length = n := by simp [c6]
              have hov := h.over (w' := w) (new := cs.map fun c => if c.free then c else C.hole) (nv := (vs.drop off).take n) (L := []) hlo w3 w2 w4 w5 a1 a2 a2 rfl (fun _ _ => rfl) (by rw [hlen]; exact a5.symm) (fun _ _ => rfl) rfl (holes_is c5) Loose.nil
              obtain ⟨B1, Y, vs', r1, r2, r3, r4, r5, r6, _⟩ := hov
              rw [q2] at r2; cases r2
              obtain ⟨o4, r', d1, d2, d3, d4⟩ := cells_some hc
              rw [hlo] at d1; cases d1
              rw [w3] at d2; cases d2
              rw [hlen, ← d4] at r3
              -- the place in the state with holes
              obtain ⟨Bk, hBk, hndk, hck⟩ := h.look hlo
              have hpath := write_path (new := cs.map fun c => if c.free then c else C.hole) (w' := w) (off := off) a2 a2 rfl p o.cells (ρ k) Bk r a cs' hck hndk w3 w2 a1 (fun _ _ => rfl) (fun _ _ _ => rfl) w4 w5
              obtain ⟨X9, hvals⟩ := hpath
              clear X9
              have hpl := place p o.cells (ρ k) Bk r hck hndk w3 w2
              obtain ⟨g9, a9, cur9, e9, fz9, _, _, _, rv9, p1, p2, _, _, p5, _, p7, p8, _, _⟩ := hpl
              rw [a1] at p1; simp only [Option.some.injEq, Prod.mk.injEq] at p1; obtain ⟨rfl, rfl⟩ := p1
              rw [a2] at p5; simp only [Option.some.injEq, Obj.cells.injEq] at p5; obtain ⟨rfl, rfl, rfl⟩ := p5
              rw [q2] at p2; cases p2
              rw [← p8] at hvals
              have hlp : look (put_ σ.ob k { o with cells := cs' }) k = some { o with cells := cs' } := by rw [look_put, if_pos rfl, hlo]; rfl
              have hg1 : SlotR w Φ (put_ σ.ob k { o with cells := cs' }) ρ (.vw k p off n true) (.agg ((vs.drop off).take n).toArray) := by
                simp only [SlotR]
                exact ⟨_, vs, hlp, hvals, q3, rfl⟩
              have hR2 := r1.push hg1
              have hvl : ((vs.drop off).take n).length = n := c5.length.trans c6
              have hdt : (((vs.drop off).take n).drop 0).take n = (vs.drop off).take n := by rw [List.drop_zero]; exact List.take_of_length_le (by omega)
              obtain ⟨B', hR3, hs3⟩ := hR2.new tk { cells := cs } ((vs.drop off).take n) Y r3 r4
              refine ⟨[.agg ((vs.drop off).take n).toArray], _, _, hR3.put_at (t := t) (v := v) ?_ ?_, ?_, ?_, ?_, ?_⟩
              · rw [List.getElem?_append_left (by rw [h.slots.length]; exact hlt)]; exact hv
              · simp only [SlotR]
                refine ⟨{ cells := cs }, (vs.drop off).take n, by simp [F.new, Ev.look], by simp [valsAt], by omega, ?_⟩
                rw [hdt]
                exact q4
              · intro b hb
                rcases List.mem_append.mp hb with hb | hb
                · exact r6 b hb
                · exact (r5 b (hs3.subset hb)).elim id (by simp)
              · intro j hj
                simp [hj]
              · intro pl hpl
                simp only [List.mem_singleton] at hpl
                subst hpl
                refine ⟨rfl, ?_⟩
                rw [← h.slots.length]
                simp
              · simp [F.put, F.new, F.push, killAlls_length, killAts_length]
            · cases hl
          · cases hl
        · cases hl
    · cases hl
  · simp only [Option.some.injEq, Prod.mk.injEq] at hl
    obtain ⟨rfl, rfl⟩ := hl
    exact ⟨[], ρ, B, by simpa using h, fun _ hb => hb, fun _ _ => rfl, by simp, by simp⟩

theorem lendArgs_is {w : World} {Φ : Bool → Nat → Prop} {how : Nat → Nat} {n0 : Nat} : ∀ (m i : Nat) {σ σ' : F} {tm : List Value} {ρ : Nat → List Value} {B : List Nat} {pls : List (Nat × Nat)}, Rel w Φ σ tm ρ B → lendArgs how n0 m i σ = some (σ', pls) →
    ∃ gh ρ' B', Rel w Φ σ' (tm ++ gh) ρ' B' ∧ (∀ b ∈ B', b ∈ B) ∧ (∀ k, k < keyOf (100000 + i) 0 → ρ' k = ρ k) ∧ (∀ pl ∈ pls, keyOf (100000 + i) 0 ≤ pl.2 ∧ (tm ++ gh)[pl.1]? = some (.agg (ρ' pl.2).toArray)) ∧ σ'.sl.length = σ.sl.length + gh.length
  | 0, i, σ, σ', tm, ρ, B, pls, h, hl => by
    simp only [lendArgs, Option.some.injEq, Prod.mk.injEq] at hl
    obtain ⟨rfl, rfl⟩ := hl
    exact ⟨[], ρ, B, by simpa using h, fun _ hb => hb, fun _ _ => rfl, by simp, by simp⟩
  | m + 1, i, σ, σ', tm, ρ, B, pls, h, hl => by
    simp only [lendArgs] at hl
    split at hl
    · split at hl
      · rename_i σ1 pl h1
        split at hl
        · rename_i σ2 pls2 h2
          simp only [Option.some.injEq, Prod.mk.injEq] at hl
          obtain ⟨rfl, rfl⟩ := hl
          obtain ⟨g1, ρ1, B1, r1, r2, r3, r4, r5⟩ := lend_is h h1
          obtain ⟨g2, ρ2, B2, s1, s2, s3, s4, s5⟩ := lendArgs_is m (i + 1) r1 h2
          have hlt : keyOf (100000 + i) 0 < keyOf (100000 + (i + 1)) 0 := by unfold keyOf; omega
          rw [List.append_assoc] at s1 s4
          refine ⟨g1 ++ g2, ρ2, B2, s1, fun b hb => r2 b (s2 b hb), fun k hk => ?_, fun q hq => ?_, by rw [s5, r5, List.length_append]; omega⟩
          · rw [s3 k (Nat.lt_trans hk hlt), r3 k (Nat.ne_of_lt hk)]
          · rcases List.mem_append.mp hq with hq | hq
            · obtain ⟨e1, e2⟩ := r4 q hq
              refine ⟨by rw [e1]; exact Nat.le_refl _, ?_⟩
              rw [e1, s3 _ hlt, ← List.append_assoc]
              have hlt2 := (List.getElem?_eq_some_iff.mp e2).1
              rw [List.getElem?_append_left hlt2]
              exact e2
            · obtain ⟨e1, e2⟩ := s4 q hq
              exact ⟨Nat.le_trans (Nat.le_of_lt hlt) e1, e2⟩
        · cases hl
      · cases hl
    · obtain ⟨g2, ρ2, B2, s1, s2, s3, s4, s5⟩ := lendArgs_is m (i + 1) h hl
      have hlt : keyOf (100000 + i) 0 < keyOf (100000 + (i + 1)) 0 := by unfold keyOf; omega
      exact ⟨g2, ρ2, B2, s1, s2, fun k hk => s3 k (Nat.lt_trans hk hlt), fun q hq => ⟨Nat.le_trans (Nat.le_of_lt hlt) (s4 q hq).1, (s4 q hq).2⟩, s5⟩

/-- What was lent comes back. -/
theorem unlend_is {w : World} {Φ : Bool → Nat → Prop} {σ σ' : F} {tm : List Value} {ρ : Nat → List Value} {B : List Nat} {pl : Nat × Nat} (h : Rel w Φ σ tm ρ B) (hg : tm[pl.1]? = some (.agg (ρ pl.2).toArray)) (hu : σ.unlend pl = some σ') :
    ∃ B', Rel w Φ σ' tm ρ B' ∧ ∀ b ∈ B', b ∈ B := by
  unfold F.unlend at hu
  split at hu
  · simp only [Option.some.injEq] at hu
    subst hu
    exact ⟨B, h, fun _ hb => hb⟩
  · rename_i o ho
    split at hu
    · rename_i k p off n hat
      split at hu
      · rename_i hc
        obtain ⟨hn, hkk⟩ := hc
        obtain ⟨v, hv, _, hs⟩ := slot_at h hat (by simp)
        rw [hg] at hv
        simp only [Option.some.injEq] at hv
        subst hv
        simp only [SlotR, if_true] at hs
        obtain ⟨o1, vs, q1, q2, q3, q4⟩ := hs
        simp only [Value.agg.injEq] at q4
        have q5 : ρ pl.2 = (vs.drop off).take n := by simpa using congrArg Array.toList q4
        obtain ⟨B1, r1, r2, r3⟩ := h.del pl.2
        obtain ⟨L, l1, l2, l3⟩ := r3 o ho
        obtain ⟨o2, r, cs', w1, w2, w3, w4, w5, rfl⟩ := write_some hu
        have hl1 : look (σ.del pl.2).ob k = look σ.ob k := by
          simp only [F.del]
          rw [look_drop h.keys, if_neg hkk]
        have hlo1 := hl1.symm.trans w1
        rw [q1] at hlo1; cases hlo1
        have hcells : (σ.del pl.2).cells k p off o.cells.length = some ((r.drop off).take o.cells.length) := by
          unfold F.cells
          simp only [w1, w3, if_pos w4]
        obtain ⟨o3, vs3, Bc, c1, c2, c3, c4, c5, c6, c7⟩ := r1.cells hcells
        rw [w1] at c1; cases c1
        rw [q2] at c2; cases c2
        obtain ⟨g, a, cur, et, fz, a1, a2, a3, a4, a5⟩ := c7 w2
        rw [hn] at a5
        have hov := r1.over (w' := w) (new := o.cells) (nv := ρ pl.2) (L := L) w1 w3 w2 w4 w5 a1 a2 a2 rfl (fun _ _ => rfl) (by rw [hn, ← a5, q5]) (fun _ _ => rfl) rfl l1 l2
        obtain ⟨B', Y, vs', t1, _, _, _, t5, _, _⟩ := hov
        exact ⟨B', t1, fun b hb => (t5 b hb).elim (fun hh => r2.subset hh) (l3 b)⟩
      · cases hu
    · cases hu

theorem unlendAll_is {w : World} {Φ : Bool → Nat → Prop} {tm : List Value} {ρ : Nat → List Value} : ∀ {pls : List (Nat × Nat)} {σ σ' : F} {B : List Nat}, Rel w Φ σ tm ρ B → (∀ pl ∈ pls, tm[pl.1]? = some (.agg (ρ pl.2).toArray)) → unlendAll σ pls = some σ' →
    ∃ B', Rel w Φ σ' tm ρ B' ∧ ∀ b ∈ B', b ∈ B
  | [], σ, σ', B, h, _, hu => by
    simp only [unlendAll, Option.some.injEq] at hu
    subst hu
    exact ⟨B, h, fun _ hb => hb⟩
  | pl :: r, σ, σ', B, h, hg, hu => by
    simp only [unlendAll] at hu
    split at hu
    · rename_i σ1 h1
      obtain ⟨B1, r1, r2⟩ := unlendAll_is h (fun q hq => hg q (by simp [hq])) h1
      obtain ⟨B2, s1, s2⟩ := unlend_is r1 (hg pl (by simp)) hu
      exact ⟨B2, s1, fun b hb => r2 b (s2 b hb)⟩
    · cases hu

/-! ### what is handed over to be read -/

mutual
theorem ok_keys {tv tp : Nat → List (Nat × Nat) → Bool} : ∀ (s : S), (∀ k ∈ s.keys, ∀ p, tv k p = true ∧ tp k p = true) → S.ok tv tp s = true
  | .vw k p _ _ _, h => by simp only [S.ok]; exact (h k (by simp [S.keys]) p).1
  | .sub k p _ _ _ _, h => by simp only [S.ok]; exact (h k (by simp [S.keys]) p).1
  | .ptr k p _, h => by simp only [S.ok]; exact (h k (by simp [S.keys]) p).2
  | .fn _ caps, h => by simp only [S.ok]; exact oks_keys caps (by simpa only [S.keys] using h)
  | .tup xs, h => by simp only [S.ok]; exact oks_keys xs (by simpa only [S.keys] using h)
  | .dead, _ | .undef, _ | .nils, _ | .lit _, _ | .val _ _, _ | .agg _ _, _ | .pt _ _, _ => by simp only [S.ok]
theorem oks_keys {tv tp : Nat → List (Nat × Nat) → Bool} : ∀ (ss : List S), (∀ k ∈ S.keyss ss, ∀ p, tv k p = true ∧ tp k p = true) → S.oks tv tp ss = true
  | [], _ => rfl
  | s :: r, h => by
    simp only [S.keyss, List.mem_append] at h
    simp only [S.oks, ok_keys s (fun k hk => h k (.inl hk)), oks_keys r (fun k hk => h k (.inr hk)), Bool.and_self]
end

/-- The objects of a list of keys. -/
def zipO : List Nat → List O → List (Nat × O)
  | k :: ks, o :: os => (k, o) :: zipO ks os
  | _, _ => []

theorem looks_zip : ∀ {ks : List Nat} {ob : List (Nat × O)} {os : List O}, looks ob ks = some os → os.length = ks.length ∧ (zipO ks os).map (·.1) = ks ∧ ∀ k o, look (zipO ks os) k = some o → look ob k = some o
  | [], ob, os, h => by
    simp only [looks, Option.some.injEq] at h
    subst h
    exact ⟨rfl, rfl, fun k o h => by simp [zipO, look] at h⟩
  | k :: r, ob, os, h => by
    simp only [looks] at h
    split at h
    · rename_i o os' h1 h2
      simp only [Option.some.injEq] at h
      subst h
      obtain ⟨e1, e2, e3⟩ := looks_zip h2
      refine ⟨by simp [e1], by simp [zipO, e2], fun j oj hj => ?_⟩
      simp only [zipO, look] at hj
      split at hj
      · rename_i hkj
        simp only [Option.some.injEq] at hj
        subst hj hkj
        exact h1
      · exact e3 j oj hj
    · cases h

theorem dedup_mem {l : List Nat} {k : Nat} : k ∈ dedup l ↔ k ∈ l := by
  induction l with
  | nil => simp [dedup]
  | cons x r ih =>
    simp only [dedup]
    split
    · rename_i hc
      rw [ih]
      constructor
      · intro h; simp [h]
      · intro h
        rcases List.mem_cons.mp h with rfl | h
        · simpa using hc
        · exact h
    · simp [ih]

theorem dedup_nodup : ∀ (l : List Nat), (dedup l).Nodup
  | [] => by simp [dedup]
  | x :: r => by
    simp only [dedup]
    split
    · exact dedup_nodup r
    · rename_i hc
      exact List.nodup_cons.mpr ⟨fun h => hc (by simpa using dedup_mem.mp h), dedup_nodup r⟩

/-- The callee's read-only memory: what is so anyway; while something is lent, whatever the caller keeps. -/
def lentΦ (Φ : Bool → Nat → Prop) (bs B2 : List Nat) : Bool → Nat → Prop := fun x b => Φ x b ∨ (bs ≠ [] ∧ x = true ∧ b ∈ B2)

theorem borrow_is {w : World} {Φ : Bool → Nat → Prop} {σ : F} {tm : List Value} {ρ : Nat → List Value} {B B2 : List Nat} {ks bs0 bs : List Nat} {ob : List (Nat × O)} (h : Rel w Φ σ tm ρ B) (h2 : Rel w Φ { sl := [], ob := dropAll ks σ.ob } [] ρ B2) (hap : ∀ k ∈ bs, k ∉ ks) (hbs : bs ≠ [] → bs0 ≠ [])
    (hob : ∀ k o, look σ.ob k = some o → k ∈ ks → look ob k = some o) {s x : S} {v : Value} (hx : σ.borrow s = some (x, bs)) (hk : ∀ k ∈ x.keys, k ∈ ks) (hs : SlotR w Φ σ.ob ρ s v) : SlotR w (lentΦ Φ bs0 B2) ob ρ x v := by
  have over : ∀ (y : S), (∀ k ∈ y.keys, k ∈ ks) → SlotR w Φ σ.ob ρ y v → SlotR w (lentΦ Φ bs0 B2) ob ρ y v := by
    intro y hy hs
    have C : Over w w Φ (lentΦ Φ bs0 B2) σ.ob ob ρ ρ (fun k _ => ks.contains k) (fun k _ => ks.contains k) := ⟨fun _ _ hb => .inl hb, fun _ _ _ => rfl,
      fun k p hk o vs hl hv => ⟨o, hob k o hl (by simpa using hk), hv⟩, fun k p hk o g a hl hv => ⟨o, hob k o hl (by simpa using hk), hv⟩⟩
    exact C.slot y v (ok_keys y fun k hk p => by simp [hy k hk]) hs
  have lower : ∀ (k : Nat), k ∉ ks → ∀ (y : S), (∀ j ∈ y.keys, j = k) → SlotR w Φ σ.ob ρ y v → SlotR w Φ (dropAll ks σ.ob) ρ y v := by
    intro k hk y hy hs
    have C : Over w w Φ Φ σ.ob (dropAll ks σ.ob) ρ ρ (fun j _ => !ks.contains j) (fun j _ => !ks.contains j) := ⟨fun _ _ hb => hb, fun _ _ _ => rfl,
      fun j p hj o vs hl hv => ⟨o, by rw [look_dropAll]; simp only [Bool.not_eq_true'] at hj; rw [hj]; exact hl, hv⟩, fun j p hj o g a hl hv => ⟨o, by rw [look_dropAll]; simp only [Bool.not_eq_true'] at hj; rw [hj]; exact hl, hv⟩⟩
    exact C.slot y v (ok_keys y fun j hj p => by rw [hy j hj]; simp [hk]) hs
  have read : ∀ (k : Nat), k ∉ ks → bs = [k] → ∀ (y : S) (ts : List T), (∀ j ∈ y.keys, j = k) → σ.freeOf y = some ts → SlotR w Φ σ.ob ρ y v → IsTs w (lentΦ Φ bs0 B2 true) ts v.cells.toList := by
    intro k hk hbk y ts hy hf hs
    have e : F.freeOf { sl := [], ob := dropAll ks σ.ob } y = some ts := by
      rw [freeOf_congr (σ := σ)]
      · exact hf
      · intro j hj
        rw [hy j hj]
        simp only
        rw [look_dropAll, if_neg (by simpa using hk)]
    have := freeOf_is h2 e (lower k hk y hy hs)
    refine IsTs.mono (fun b hb => ?_) (fun _ _ => rfl) _ _ this
    rcases hb with hb | hb
    · exact .inl hb
    · exact .inr ⟨hbs (by rw [hbk]; simp), rfl, hb⟩
  unfold F.borrow at hx
  split at hx
  · rename_i k p off n ag
    split at hx
    · rename_i ts hts
      simp only [Option.some.injEq, Prod.mk.injEq] at hx
      obtain ⟨rfl, rfl⟩ := hx
      have hr := read k (hap k (by simp)) rfl _ ts (by simp [S.keys]) hts hs
      simp only [SlotR] at hs
      obtain ⟨o, vs, q1, q2, q3, q4⟩ := hs
      cases ag with
      | true =>
        simp only [if_true] at q4
        subst q4
        exact ofT_is hr (by simp [valOf, Value.cells])
      | false =>
        simp only [Bool.false_eq_true, if_false] at q4
        simp only [F.freeOf] at hts
        split at hts
        · rename_i cs hc
          obtain ⟨o', vs', Bc, c1, c2, c3, c4, c5, c6, _⟩ := h.cells hc
          rw [q1] at c1; cases c1
          rw [q2] at c2; cases c2
          have e : v.cells.toList = [v] := by rw [vw_cells (ag := false) c5 (by simpa using q4), q4]
          rw [e] at hr
          exact ofT_is hr (by simp [valOf])
        · cases hts
    · cases hx
  · rename_i k p off sz lo hi
    split at hx
    · rename_i ts hts
      simp only [Option.some.injEq, Prod.mk.injEq] at hx
      obtain ⟨rfl, rfl⟩ := hx
      have hr := read k (hap k (by simp)) rfl _ ts (by simp [S.keys]) hts hs
      simp only [SlotR] at hs
      obtain ⟨o, vs, a, len, cap, _, _, _, _, _, _, _, a', _, rfl⟩ := hs
      rw [one_cells (one_slice _ _ _)] at hr
      exact ofT_is hr (by simp [valOf])
    · cases hx
  · simp only [Option.some.injEq, Prod.mk.injEq] at hx
    obtain ⟨rfl, rfl⟩ := hx
    exact over s hk hs

theorem borrowAll_is {w : World} {Φ : Bool → Nat → Prop} {σ : F} {tm : List Value} {ρ : Nat → List Value} {B B2 : List Nat} {ks bs0 : List Nat} {ob : List (Nat × O)} {how : Nat → Nat} (h : Rel w Φ σ tm ρ B) (h2 : Rel w Φ { sl := [], ob := dropAll ks σ.ob } [] ρ B2)
    (hob : ∀ k o, look σ.ob k = some o → k ∈ ks → look ob k = some o) : ∀ {ss xs : List S} {i : Nat} {bs : List Nat} {vs : List Value}, borrowAll how σ i ss = some (xs, bs) → (∀ k ∈ bs, k ∉ ks) → (bs ≠ [] → bs0 ≠ []) → (∀ k ∈ S.keyss xs, k ∈ ks) → SlotRs w Φ σ.ob ρ ss vs → SlotRs w (lentΦ Φ bs0 B2) ob ρ xs vs
  | [], xs, i, bs, vs, hx, _, _, _, hs => by
    simp only [borrowAll, Option.some.injEq, Prod.mk.injEq] at hx
    obtain ⟨rfl, rfl⟩ := hx
    simpa only [SlotRs] using hs
  | s :: r, xs, i, bs, vs, hx, hap, hbs, hk, hs => by
    simp only [borrowAll] at hx
    split at hx
    · rename_i x b xs' bs' h1 h3
      simp only [Option.some.injEq, Prod.mk.injEq] at hx
      obtain ⟨rfl, rfl⟩ := hx
      simp only [SlotRs] at hs
      obtain ⟨v, vs', rfl, s1, s2⟩ := hs
      simp only [S.keyss, List.mem_append] at hk
      simp only [SlotRs]
      refine ⟨v, vs', rfl, ?_, borrowAll_is h h2 hob h3 (fun k hkb => hap k (List.mem_append.mpr (.inr hkb))) (fun hne => hbs (by simp [hne])) (fun k hkx => hk k (.inr hkx)) s2⟩
      split at h1
      · simp only [Option.some.injEq, Prod.mk.injEq] at h1
        obtain ⟨rfl, rfl⟩ := h1
        have C : Over w w Φ (lentΦ Φ bs0 B2) σ.ob ob ρ ρ (fun k _ => ks.contains k) (fun k _ => ks.contains k) := ⟨fun _ _ hb => .inl hb, fun _ _ _ => rfl,
          fun k p hk o vs hl hv => ⟨o, hob k o hl (by simpa using hk), hv⟩, fun k p hk o g a hl hv => ⟨o, hob k o hl (by simpa using hk), hv⟩⟩
        exact C.slot s v (ok_keys s fun k hk' p => by simp [hk k (.inl hk')]) s1
      · exact borrow_is h h2 (fun k hkb => hap k (List.mem_append.mpr (.inl hkb))) (fun hne => hbs (by simp [hne])) hob h1 (fun k hkx => hk k (.inl hkx)) s1
    · cases hx

end Go.Proofs.Ytmkhdnpnjjdgfaa.Ev
