/- What is appended. -/
import Derived.Test.YtmkhdnpnjjdgfaaAppend
set_option linter.unusedVariables false
set_option linter.unusedSimpArgs false
namespace Go.Proofs.Ytmkhdnpnjjdgfaa.Ev
open Go Go.RowKit

theorem IsTRows.length_le {w : World} {φ : Nat → Prop} {sz : Nat} : ∀ {rows : List (List T)} {vs : List Value}, IsTRows w φ sz rows vs → rows.length * sz ≤ vs.length
  | [], vs, h => by simp
  | r :: rs, vs, h => by
    simp only [IsTRows] at h
    obtain ⟨h1, h2, h3⟩ := h
    have h4 := h2.length
    have h5 := h3.length_le
    simp only [List.length_take, List.length_drop] at h4 h5
    rw [List.length_cons, Nat.succ_mul]
    omega

theorem IsCRows.length_le {w : World} {Φ : Bool → Nat → Prop} {sz : Nat} : ∀ {rows : List (List C)} {vs : List Value} {B : List Nat}, IsCRows w Φ sz rows vs B → rows.length * sz ≤ vs.length
  | [], vs, B, h => by simp
  | r :: rs, vs, B, h => by
    simp only [IsCRows] at h
    obtain ⟨B1, B2, rfl, h1, h2, h3⟩ := h
    have h4 := h2.length
    have h5 := h3.length_le
    simp only [List.length_take, List.length_drop] at h4 h5
    rw [List.length_cons, Nat.succ_mul]
    omega

theorem IsCRows.ones {w : World} {Φ : Bool → Nat → Prop} {sz : Nat} : ∀ {rows : List (List C)} {vs : List Value} {B : List Nat}, IsCRows w Φ sz rows vs B → ∀ v ∈ vs.take (rows.length * sz), v.oneCell' = true
  | [], vs, B, h => by simp
  | r :: rs, vs, B, h => by
    simp only [IsCRows] at h
    obtain ⟨B1, B2, rfl, h1, h2, h3⟩ := h
    intro v hv
    rw [List.length_cons, Nat.succ_mul, Nat.add_comm, List.take_add] at hv
    rcases List.mem_append.mp hv with hv | hv
    · exact h2.ones v hv
    · exact h3.ones v hv

theorem litRows_is {w : World} {Φ : Bool → Nat → Prop} {b : Bool} {sz : Nat} : ∀ {rows : List (List T)} {vs : List Value}, IsTRows w (Φ b) sz rows vs → IsCRows w Φ sz (rows.map (·.map (litC b))) vs []
  | [], vs, h => by simp only [List.map_nil, IsCRows]
  | r :: rs, vs, h => by
    simp only [IsTRows] at h
    obtain ⟨h1, h2, h3⟩ := h
    simp only [List.map_cons, IsCRows]
    exact ⟨[], [], rfl, by simpa using h1, litCs_is h2, litRows_is h3⟩

theorem isLits_any {w : World} {φ φ' : Nat → Prop} : ∀ {ts : List T} {vs : List Value}, ts.all T.isLit = true → IsTs w φ ts vs → IsTs w φ' ts vs
  | [], vs, _, h => by simp only [IsTs] at h ⊢; exact h
  | t :: ts, vs, ha, h => by
    simp only [List.all_cons, Bool.and_eq_true] at ha
    simp only [IsTs] at h ⊢
    obtain ⟨v, vs', rfl, h2, h3⟩ := h
    exact ⟨v, vs', rfl, isLit_any ha.1 h2, isLits_any ha.2 h3⟩

theorem isLitRows_any {w : World} {φ φ' : Nat → Prop} {sz : Nat} : ∀ {rows : List (List T)} {vs : List Value}, rows.all (·.all T.isLit) = true → IsTRows w φ sz rows vs → IsTRows w φ' sz rows vs
  | [], vs, _, h => by simp only [IsTRows]
  | r :: rs, vs, ha, h => by
    simp only [List.all_cons, Bool.and_eq_true] at ha
    simp only [IsTRows] at h ⊢
    exact ⟨h.1, isLits_any ha.1 h.2.1, isLitRows_any ha.2 h.2.2⟩

section
variable {P : Program} {e : Env}

/-- A slice of so many elements whose cells are read at its address. -/
theorem src_of {w : World} {xt el : TypeId} {m n cap : Nat} {a : Option Addr} {d : TypeDesc} {news : List Value} (hd : P.underlying xt = some d) (hn : ∀ k, d ≠ .int k) (hl : news.length = n * m) (h1 : ∀ v ∈ news, v.oneCell' = true)
    (hr : n = 0 ∨ ∃ g o cur et fz, a = some ⟨g, o, none⟩ ∧ w.heap[g]? = some (.cells cur et fz) ∧ news = (cur.toList.drop o).take (n * m)) : Src P w xt el m (.slice a n cap) n news := by
  refine ⟨⟨d, hd, .inl ⟨hn, fun w' hw => ⟨rfl, ?_⟩⟩⟩, hl, h1⟩
  rcases hr with rfl | ⟨g, o, cur, et, fz, rfl, hg, rfl⟩
  · have : news = [] := List.length_eq_zero_iff.mp (by simpa using hl)
    subst this
    cases a with
    | none => exact run_firstCells_none w' m 0 0 cap
    | some a => exact run_firstCells_some w' m 0 a 0 cap [] (by simp) (by simp)
  · refine run_firstCells_some w' m n ⟨g, o, none⟩ n cap _ hl ?_
    intro j y hj
    rw [List.getElem?_take] at hj
    split at hj
    · rw [List.getElem?_drop] at hj
      rw [Addr.add_lit]
      simp only [World.cell?, hw, hg]
      simpa using hj
    · cases hj

/-- A read-only slice, appended. -/
theorem src_T {w : World} {Φ : Bool → Nat → Prop} {φ : Nat → Prop} {xt el : TypeId} {m sz : Nat} {d : TypeDesc} {rows : List (List T)} {crows : List (List C)} {xv : Value} (hd : P.underlying xt = some d) (hn : ∀ k, d ≠ .int k) (h : IsT w φ (.sl sz rows) xv) (hsz : sz = m ∨ rows = []) (hlen : crows.length = rows.length)
    (hconv : ∀ vs, IsTRows w φ sz rows vs → IsCRows w Φ sz crows vs []) : ∃ news, IsCRows w Φ m crows news [] ∧ Src P w xt el m xv crows.length news := by
  simp only [IsT] at h
  obtain ⟨a, cap, rfl, h2, h3⟩ := h
  by_cases hr : rows = []
  · subst hr
    have : crows = [] := List.length_eq_zero_iff.mp hlen
    subst this
    exact ⟨[], by simp only [IsCRows], src_of hd hn (by simp) (by simp) (.inl rfl)⟩
  · have hszm : sz = m := by rcases hsz with h | h; exact h; exact absurd h hr
    subst hszm
    rcases h3 with h3 | ⟨g, o, cur, et, fz, rfl, _, hg, h3⟩
    · exact absurd h3 hr
    · have hc := hconv _ h3
      have hle := hc.length_le
      refine ⟨(cur.toList.drop o).take (crows.length * sz), hc.ext (by rw [List.take_take, Nat.min_self]), ?_⟩
      rw [← hlen]
      exact src_of hd hn (by rw [List.length_take]; omega) hc.ones (.inr ⟨g, o, cur, et, fz, rfl, hg, rfl⟩)

theorem rows_is {c : C} {sz : Nat} {rows : List (List C)} (h : c.rows = some (sz, rows)) {w : World} {Φ : Bool → Nat → Prop} {v : Value} {B : List Nat} (hc : IsC w Φ c v B) : OwnSl w sz rows.length v B (fun vs B' => IsCRows w Φ sz rows vs B') := by
  cases c with
  | im b t => simp [C.rows] at h
  | hole => simp [C.rows] at h
  | own z rs =>
    simp only [C.rows, Option.some.injEq, Prod.mk.injEq] at h
    obtain ⟨rfl, rfl⟩ := h
    simp only [IsC] at hc
    exact hc
  | ow t =>
    cases t with
    | lit x => simp [C.rows] at h
    | sl z rs =>
      simp only [C.rows, Option.some.injEq, Prod.mk.injEq] at h
      obtain ⟨rfl, rfl⟩ := h
      simp only [IsC, IsO] at hc
      rw [List.length_map]
      exact hc.imp (fun _ _ => rfl) fun vs B' _ k => k.cells

theorem free_rows {w : World} {Φ : Bool → Nat → Prop} {sz : Nat} : ∀ {rows : List (List C)} {vs : List Value} {B : List Nat}, IsCRows w Φ sz rows vs B → rows.all (·.all C.free) = true → B = []
  | [], vs, B, h, _ => by simp only [IsCRows] at h; exact h
  | r :: rs, vs, B, h, hf => by
    simp only [List.all_cons, Bool.and_eq_true] at hf
    simp only [IsCRows] at h
    obtain ⟨B1, B2, rfl, _, h3, h4⟩ := h
    rw [free_blocks h3 hf.1, free_rows h4 hf.2]
    rfl

/-- An owned slice, appended. -/
theorem src_C {w : World} {Φ : Bool → Nat → Prop} {xt el : TypeId} {m sz : Nat} {d : TypeDesc} {rows : List (List C)} {xv : Value} {B : List Nat} (hd : P.underlying xt = some d) (hn : ∀ k, d ≠ .int k) (h : OwnSl w sz rows.length xv B (fun vs B' => IsCRows w Φ sz rows vs B')) (hsz : sz = m ∨ rows = []) :
    ∃ news L, IsCRows w Φ m rows news L ∧ Src P w xt el m xv rows.length news ∧ L.Sublist B := by
  rcases h with ⟨rfl, h0, rfl⟩ | ⟨g, cap, cur, et, fz, B', rfl, hg, _, ⟨hpz, hnc⟩, _, hcs, rfl, hr⟩
  · have : rows = [] := List.length_eq_zero_iff.mp h0
    subst this
    exact ⟨[], [], by simp only [IsCRows], src_of hd hn (by simp) (by simp) (.inl rfl), List.Sublist.refl _⟩
  · by_cases hre : rows = []
    · subst hre
      exact ⟨[], [], by simp only [IsCRows], src_of hd hn (by simp) (by simp) (.inl rfl), List.nil_sublist _⟩
    · have hszm : sz = m := by rcases hsz with h | h; exact h; exact absurd h hre
      subst hszm
      have hle := hr.length_le
      refine ⟨cur.toList.take (rows.length * sz), B', hr.ext (by rw [List.take_take, Nat.min_self]), ?_, List.sublist_cons_self _ _⟩
      exact src_of hd hn (by rw [List.length_take]; omega) hr.ones (.inr ⟨g, 0, cur, et, fz, rfl, hg, by rw [List.drop_zero]⟩)

theorem source_is {σ σ' : F} {w : World} {Φ : Bool → Nat → Prop} {tm : List Value} {ρ : Nat → List Value} {B : List Nat} (hR : Rel w Φ σ tm ρ B) {xt el : TypeId} {m : Nat} {d : TypeDesc} {x : S} {xv : Value} {rows : List (List C)} (hd : P.underlying xt = some d) (hn : ∀ k, d ≠ .int k) (h : σ.source m x = some (rows, σ')) (hx : SlotR w Φ σ.ob ρ x xv) :
    ∃ B' L news, Rel w Φ σ' tm ρ B' ∧ IsCRows w Φ m rows news L ∧ Loose w Φ B' L ∧ (∀ b ∈ B', b ∈ B) ∧ (∀ b ∈ L, b ∈ B) ∧ Src P w xt el m xv rows.length news := by
  unfold F.source at h
  split at h
  · simp only [Option.some.injEq, Prod.mk.injEq] at h
    obtain ⟨rfl, rfl⟩ := h
    simp only [SlotR] at hx
    subst hx
    exact ⟨B, [], [], hR, by simp only [IsCRows], Loose.nil, fun _ h => h, by simp, src_of hd hn (by simp) (by simp) (.inl rfl)⟩
  · rename_i s
    split at h
    · rename_i hm
      subst hm
      simp only [Option.some.injEq, Prod.mk.injEq] at h
      obtain ⟨rfl, rfl⟩ := h
      rw [slot_lit hx]
      have hl : (s.data.toList.map fun b => [C.ow (.lit (.int .u8 b.toNat))]).length = s.size := by rw [List.length_map, Array.length_toList]; rfl
      refine ⟨B, [], s.data.toList.map (fun b => Value.int .u8 b.toNat), hR, ?_, Loose.nil, fun _ h => h, by simp, ?_⟩
      · have := (bytes_own (w := w) s.data.toList []).cells (Φ := Φ)
        simpa [List.map_map, Function.comp_def] using this
      · rw [hl]
        refine ⟨⟨d, hd, .inl ⟨hn, fun w' hw => ⟨rfl, ?_⟩⟩⟩, ?_, ?_⟩
        · have he : s.extract 0 s.size = s := by
            apply ByteArray.ext
            simp [ByteArray.data_extract]
          simp only [Builtin.firstCells, he, Sem.run_pure]
          congr 1
          apply Array.ext'
          simp
        · rw [List.length_map, Array.length_toList, Nat.mul_one]; rfl
        · intro v hv
          obtain ⟨b, _, rfl⟩ := List.mem_map.mp hv
          rfl
    · cases h
  · rename_i b sz rows0
    split at h
    · rename_i hsz
      simp only [Option.some.injEq, Prod.mk.injEq] at h
      obtain ⟨rfl, rfl⟩ := h
      simp only [SlotR] at hx
      obtain ⟨news, h1, h2⟩ := src_T (P := P) (el := el) (Φ := Φ) (crows := rows0.map (·.map (litC b))) hd hn hx hsz (by simp) (fun vs => litRows_is)
      exact ⟨B, [], news, hR, h1, Loose.nil, fun _ h => h, by simp, h2⟩
    · cases h
  · rename_i k p off
    split at h
    · rename_i c hc
      obtain ⟨o, vs, Bc, c1, c2, c3, c4, c5, c6, _⟩ := hR.cells hc
      have hx' := hx
      simp only [SlotR, Bool.false_eq_true, if_false] at hx
      obtain ⟨o', vs', q1, q2, q3, q4⟩ := hx
      rw [q1] at c1; cases c1
      rw [q2] at c2; cases c2
      obtain ⟨v', e1, hC⟩ := take_one c5
      rw [q4] at e1
      simp only [List.cons.injEq, and_true] at e1
      subst e1
      split at h
      · rename_i b sz rows0
        split at h
        · rename_i hsz
          simp only [Option.some.injEq, Prod.mk.injEq] at h
          obtain ⟨rfl, rfl⟩ := h
          simp only [IsC] at hC
          obtain ⟨news, h1, h2⟩ := src_T (P := P) (el := el) (Φ := Φ) (crows := rows0.map (·.map (litC b))) hd hn hC.2 hsz (by simp) (fun vs => litRows_is)
          exact ⟨B, [], news, hR, h1, Loose.nil, fun _ h => h, by simp, h2⟩
        · cases h
      · split at h
        · rename_i sz rows0 hrows
          split at h
          · rename_i hsz
            split at h
            · rename_i hf
              simp only [Option.some.injEq, Prod.mk.injEq] at h
              obtain ⟨rfl, rfl⟩ := h
              obtain ⟨news, L, h1, h2, h3⟩ := src_C (P := P) (el := el) (m := m) hd hn (rows_is hrows hC) hsz
              have := free_rows h1 hf
              subst this
              exact ⟨B, [], news, hR, h1, Loose.nil, fun _ h => h, by simp, h2⟩
            · split at h
              · rename_i cs σ1 ht
                simp only [Option.some.injEq, Prod.mk.injEq] at h
                obtain ⟨rfl, rfl⟩ := h
                obtain ⟨B', L, t1, t2, t3, t4, t5⟩ := take_is hR ht hx'
                have hcs : cs = [c] := by
                  simp only [F.take, q1, hc] at ht
                  split at ht
                  · simp only [Option.some.injEq, Prod.mk.injEq] at ht; exact ht.1.symm
                  · split at ht
                    · simp only [Option.some.injEq, Prod.mk.injEq] at ht; exact ht.1.symm
                    · split at ht
                      · cases ht
                      · split at ht
                        · split at ht
                          · simp only [Option.some.injEq, Prod.mk.injEq] at ht; exact ht.1.symm
                          · cases ht
                        · cases ht
                subst hcs
                rw [one_cells hC.one] at t2
                simp only [IsCs] at t2
                obtain ⟨v2, vs2, B1, B2, e2, rfl, hC2, rfl, rfl⟩ := t2
                simp only [List.cons.injEq, and_true] at e2
                subst e2
                obtain ⟨news, L', h1, h2, h3⟩ := src_C (P := P) (el := el) (m := m) hd hn (rows_is hrows hC2) hsz
                have hsub : ∀ b ∈ L', b ∈ B1 ++ [] := fun b hb => by simpa using h3.subset hb
                refine ⟨B', L', news, t1, h1, ⟨?_, fun b hb => t3.apart b (hsub b hb), fun b hb => t3.lt b (hsub b hb), fun b hb => t3.disj b (hsub b hb)⟩, t4, fun b hb => t5 b (hsub b hb), h2⟩
                have := t3.nd
                rw [List.append_nil] at this
                exact this.sublist h3
              · cases h
          · cases h
        · cases h
    · cases h
  · rename_i k p off z lo hi
    split at h
    · rename_i sz rows0 hf
      split at h
      · rename_i hcond
        simp only [Option.some.injEq, Prod.mk.injEq] at h
        obtain ⟨rfl, rfl⟩ := h
        have hT := free1_is hR hf hx
        obtain ⟨news, h1, h2⟩ := src_T (P := P) (el := el) (Φ := Φ) (crows := rows0.map (·.map (litC false))) hd hn hT hcond.1 (by simp) (fun vs hv => litRows_is (isLitRows_any hcond.2 hv))
        exact ⟨B, [], news, hR, h1, Loose.nil, fun _ h => h, by simp, h2⟩
      · cases h
    · cases h
  · cases h

end

end Go.Proofs.Ytmkhdnpnjjdgfaa.Ev
