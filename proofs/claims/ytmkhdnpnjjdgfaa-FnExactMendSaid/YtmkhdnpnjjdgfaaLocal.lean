/- Operations that put a slot hang on what they look at alone. -/
import Derived.Test.YtmkhdnpnjjdgfaaKeep
set_option linter.unusedVariables false
set_option linter.unusedSimpArgs false
namespace Go.Proofs.Ytmkhdnpnjjdgfaa.Ev
open Go Go.RowKit

section
variable {e : Env} {run : FuncId → List S → List O → Option (V × List (Option O))} {σ τ : F}

theorem cells_congr {k : Nat} (h : look τ.ob k = look σ.ob k) (p : List (Nat × Nat)) (off n : Nat) : τ.cells k p off n = σ.cells k p off n := by
  unfold F.cells
  rw [h]

theorem freeOf_congr {s : S} (h : ∀ k ∈ s.keys, look τ.ob k = look σ.ob k) : τ.freeOf s = σ.freeOf s := by
  cases s with
  | vw k p off n ag => simp only [F.freeOf, cells_congr (h k (by simp [S.keys]))]
  | sub k p off sz lo hi => simp only [F.freeOf, cells_congr (h k (by simp [S.keys]))]
  | _ => rfl

theorem free1_congr {s : S} (h : ∀ k ∈ s.keys, look τ.ob k = look σ.ob k) : τ.free1 s = σ.free1 s := by
  have hf := freeOf_congr h
  cases s with
  | vw k p off n ag => cases ag <;> simp only [F.free1, hf]
  | _ => simp only [F.free1, hf]

theorem lenS_congr {s : S} (h : ∀ k ∈ s.keys, look τ.ob k = look σ.ob k) : lenS τ s = lenS σ s := by
  cases s with
  | vw k p off n ag =>
    have hc := cells_congr (h k (by simp [S.keys])) p off 1
    rcases n with _ | _ | n <;> cases ag <;> first | rfl | simp only [lenS, hc]
  | lit v => cases v <;> rfl
  | val b t => cases t <;> rfl
  | _ => rfl

theorem sliceIt_congr {t : TypeId} {s : S} {l h' : Option Int} (h : ∀ k ∈ s.keys, look τ.ob k = look σ.ob k) : sliceIt e τ t s l h' = sliceIt e σ t s l h' := by
  have hl := lenS_congr h
  unfold sliceIt
  rw [hl]
  split
  · rename_i v n hv hn
    simp only
    split
    · obtain ⟨desc, a1, a2, a3, a4⟩ := v
      cases s with
      | vw k p off n ag =>
        have hc := cells_congr (h k (by simp [S.keys])) p off 1
        cases desc <;> first
          | rfl
          | (rcases n with _ | _ | n <;> cases ag <;> first | rfl | simp only [hc])
      | lit v => cases desc <;> cases v <;> rfl
      | val b t => cases desc <;> cases t <;> rfl
      | _ => cases desc <;> rfl
    · rfl
  · rfl

theorem addrOf_congr {t : TypeId} {s i : S} (h : ∀ k ∈ s.keys, look τ.ob k = look σ.ob k) : addrOf e τ t s i = addrOf e σ t s i := by
  unfold addrOf
  split
  · rename_i m v hm hv
    split
    · rfl
    · obtain ⟨desc, a1, a2, a3, a4⟩ := v
      cases s with
      | vw k p off n ag =>
        have hc := cells_congr (h k (by simp [S.keys])) p off 1
        cases desc <;> first
          | rfl
          | (rcases n with _ | _ | n <;> cases ag <;> first | rfl | simp only [hc])
      | sub k p off sz lo hi =>
        have hc := cells_congr (h k (by simp [S.keys])) p off 1
        cases desc <;> first
          | rfl
          | simp only [hc]
      | val b t => cases desc <;> cases t <;> rfl
      | _ => cases desc <;> rfl
  · rfl

theorem still_local (o : Oper) {σ' : F} (hs : slotOp e o.op = true) (hrd : ∀ x ∈ o.op.operands, τ.rd x = σ.rd x) (hob : ∀ k ∈ rkOf σ o.op, look τ.ob k = look σ.ob k) (h : opOf e run σ o = some σ') :
    ∃ s, σ' = σ.put o.dst s ∧ opOf e run τ o = some (τ.put o.dst s) := by
  obtain ⟨d, op, ty, pos, after, gd⟩ := o
  simp only at hs hrd hob ⊢
  cases op with
  | move x =>
    have e1 := hrd x (by simp [Op.operands])
    simp only [opOf] at h ⊢
    rw [e1]
    split at h <;> (simp only [Option.some.injEq] at h; exact ⟨_, h.symm, rfl⟩)
  | pick c a b =>
    have e1 := hrd c (by simp [Op.operands])
    have e2 := hrd a (by simp [Op.operands])
    have e3 := hrd b (by simp [Op.operands])
    simp only [opOf] at h ⊢
    rw [e1, e2, e3]
    split at h
    · simp only [Option.some.injEq] at h
      exact ⟨_, h.symm, rfl⟩
    · cases h
  | load t a =>
    have e1 := hrd a (by simp [Op.operands])
    simp only [rkOf] at hob
    simp only [opOf] at h ⊢
    rw [e1]
    split at h
    · split at h
      · rename_i k p off ha
        rw [ha] at hob
        rw [cells_congr (hob k (by simp [S.keys]))]
        split at h
        · split at h
          · rename_i hh
            rw [if_pos hh]
            simp only [Option.some.injEq] at h
            exact ⟨_, h.symm, rfl⟩
          · rename_i hh
            rw [if_neg hh]
            simp only [Option.some.injEq] at h
            exact ⟨_, h.symm, rfl⟩
        · cases h
      · split at h
        · rename_i hh
          rw [if_pos hh]
          simp only [Option.some.injEq] at h
          exact ⟨_, h.symm, rfl⟩
        · cases h
      · cases h
    · cases h
  | nilCheck x =>
    have e1 := hrd x (by simp [Op.operands])
    simp only [opOf] at h ⊢
    rw [e1]
    split at h
    all_goals first
      | (simp only [Option.some.injEq] at h; exact ⟨_, h.symm, rfl⟩)
      | cases h
  | binOp op t x y t2 =>
    have e1 := hrd x (by simp [Op.operands])
    have e2 := hrd y (by simp [Op.operands])
    simp only [opOf] at h ⊢
    rw [e1, e2]
    split at h
    · simp only [Option.some.injEq] at h
      exact ⟨_, h.symm, rfl⟩
    · cases h
  | unOp op t x =>
    have e1 := hrd x (by simp [Op.operands])
    simp only [opOf] at h ⊢
    rw [e1]
    split at h
    · simp only [Option.some.injEq] at h
      exact ⟨_, h.symm, rfl⟩
    · cases h
  | convert src dst x =>
    have e1 := hrd x (by simp [Op.operands])
    simp only [rkOf] at hob
    simp only [opOf] at h ⊢
    rw [e1]
    split at h
    · rename_i a b ha hb
      obtain ⟨ad, a1, a2, a3, a4⟩ := a
      obtain ⟨bd, b1, b2, b3, b4⟩ := b
      simp only [ha, hb] at h ⊢
      have hf := free1_congr hob
      generalize σ.rd x = s at h hf ⊢
      split at h
      · simp only [Option.some.injEq] at h
        exact ⟨_, h.symm, rfl⟩
      · simp only [Option.some.injEq] at h
        exact ⟨_, h.symm, by cases ad <;> rfl⟩
      · simp [slotOp, hb] at hs
      · split at h
        · rename_i hfr hel
          split at h
          · rename_i hbs
            simp only [Option.some.injEq] at h
            refine ⟨_, h.symm, ?_⟩
            have : ∀ v, s ≠ .lit v := by
              rintro v rfl
              simp [F.free1, F.freeOf] at hfr
            cases s <;> first | exact absurd rfl (this _) | simp only [hf, hfr, hel, hbs]
          · cases h
        · cases h
      · cases h
    · cases h
  | makeFunc f first captured =>
    cases f with
    | func g =>
      simp only [opOf] at h ⊢
      have e1 : captured.toList.map τ.rd = captured.toList.map σ.rd := List.map_congr_left fun x hx => hrd x (by
        simp only [Op.operands, Array.mem_append]
        exact .inr (by simpa using hx))
      rw [e1]
      split at h
      · rename_i hh
        rw [if_pos hh]
        simp only [Option.some.injEq] at h
        exact ⟨_, h.symm, rfl⟩
      · cases h
    | _ => simp [opOf] at h
  | slice t x lo hi mx =>
    cases mx with
    | some m => simp [opOf] at h
    | none =>
      have e1 := hrd x (by simp [Op.operands])
      have e2 : optInt τ lo = optInt σ lo := by
        cases lo with
        | none => rfl
        | some y => simp only [optInt]; rw [hrd y (by simp [Op.operands])]
      have e3 : optInt τ hi = optInt σ hi := by
        cases hi with
        | none => rfl
        | some y => simp only [optInt]; rw [hrd y (by simp [Op.operands])]
      simp only [rkOf] at hob
      simp only [opOf] at h ⊢
      rw [e1, e2, e3]
      split at h
      · rw [sliceIt_congr hob]
        split at h
        · simp only [Option.some.injEq] at h
          exact ⟨_, h.symm, rfl⟩
        · cases h
      · cases h
  | fieldAddr t x f =>
    have e1 := hrd x (by simp [Op.operands])
    simp only [opOf] at h ⊢
    rw [e1]
    split at h
    · split at h
      · split at h
        · rename_i hh
          rw [if_pos hh]
          split at h
          · simp only [Option.some.injEq] at h
            exact ⟨_, h.symm, rfl⟩
          · simp only [Option.some.injEq] at h
            exact ⟨_, h.symm, rfl⟩
          · cases h
        · cases h
      · cases h
    · cases h
  | field t x f =>
    have e1 := hrd x (by simp [Op.operands])
    simp only [rkOf] at hob
    simp only [opOf] at h ⊢
    rw [e1]
    split at h
    · split at h
      · split at h
        · split at h
          · split at h
            · rename_i hh
              rw [if_pos hh]
              simp only [Option.some.injEq] at h
              exact ⟨_, h.symm, rfl⟩
            · cases h
          · rename_i k p off n hx
            rw [hx] at hob
            rw [cells_congr (hob k (by simp [S.keys]))]
            split at h
            · rename_i hh
              rw [if_pos hh]
              split at h
              · simp only [Option.some.injEq] at h
                exact ⟨_, h.symm, rfl⟩
              · cases h
            · cases h
          · cases h
        · cases h
      · cases h
    · cases h
  | indexAddr t x i =>
    have e1 := hrd x (by simp [Op.operands])
    have e2 := hrd i (by simp [Op.operands])
    simp only [rkOf] at hob
    simp only [opOf] at h ⊢
    rw [e1, e2, addrOf_congr hob]
    split at h
    · simp only [Option.some.injEq] at h
      exact ⟨_, h.symm, rfl⟩
    · cases h
  | index t x i =>
    have e1 := hrd x (by simp [Op.operands])
    have e2 := hrd i (by simp [Op.operands])
    simp only [opOf] at h ⊢
    rw [e1, e2]
    split at h
    · split at h
      · rename_i hh
        rw [if_pos hh]
        split at h
        · simp only [Option.some.injEq] at h
          exact ⟨_, h.symm, rfl⟩
        · cases h
      · cases h
    · split at h
      · split at h
        · rename_i hh
          rw [if_pos hh]
          simp only [Option.some.injEq] at h
          exact ⟨_, h.symm, rfl⟩
        · cases h
      · cases h
    · cases h
  | extract x i =>
    have e1 := hrd x (by simp [Op.operands])
    simp only [opOf] at h ⊢
    rw [e1]
    split at h
    · split at h
      · simp only [Option.some.injEq] at h
        exact ⟨_, h.symm, rfl⟩
      · cases h
    · cases h
  | call c =>
    have key : ∀ x ∈ c.args, τ.rd x = σ.rd x := fun x hx => hrd x (by
      simp only [Op.operands, Call.operands]
      split <;> simp [hx])
    simp only [rkOf] at hob
    simp only [opOf] at h ⊢
    split at h
    · rename_i hb
      split at h
      · rename_i x t ha hat
        have ex := key x (by have : x ∈ c.args.toList := by rw [ha]; simp
                             simpa using this)
        have hk : ∀ k ∈ (σ.rd x).keys, look τ.ob k = look σ.ob k := fun k hk => hob k (by rw [ha]; simp [S.keyss, hk])
        simp only [ex, lenS_congr hk]
        split at h
        · split at h
          · cases h
          · simp only [Option.some.injEq] at h
            exact ⟨_, h.symm, rfl⟩
        · split at h
          · simp only [Option.some.injEq] at h
            exact ⟨_, h.symm, rfl⟩
          · cases h
        · cases h
      · cases h
    · rename_i hb
      simp [slotOp, hb] at hs
    · rename_i hb
      split at h
      · rename_i x t ha hat
        have ex := key x (by have : x ∈ c.args.toList := by rw [ha]; simp
                             simpa using this)
        simp only [ex]
        split at h
        · simp only [Option.some.injEq] at h
          exact ⟨_, h.symm, rfl⟩
        · cases h
      · cases h
    · rename_i hb
      split at h
      · rename_i x y ha
        have ex := key x (by have : x ∈ c.args.toList := by rw [ha]; simp
                             simpa using this)
        have ey := key y (by have : y ∈ c.args.toList := by rw [ha]; simp
                             simpa using this)
        simp only [ex, ey]
        split at h
        · simp only [Option.some.injEq] at h
          exact ⟨_, h.symm, rfl⟩
        · cases h
      · cases h
    · rename_i hb
      split at h
      · rename_i x y ha
        have ex := key x (by have : x ∈ c.args.toList := by rw [ha]; simp
                             simpa using this)
        have ey := key y (by have : y ∈ c.args.toList := by rw [ha]; simp
                             simpa using this)
        simp only [ex, ey]
        split at h
        · simp only [Option.some.injEq] at h
          exact ⟨_, h.symm, rfl⟩
        · cases h
      · cases h
    · cases h
    · rename_i f hb
      simp [slotOp, hb] at hs
    · cases h
  | _ => simp [slotOp] at hs

end

end Go.Proofs.Ytmkhdnpnjjdgfaa.Ev
