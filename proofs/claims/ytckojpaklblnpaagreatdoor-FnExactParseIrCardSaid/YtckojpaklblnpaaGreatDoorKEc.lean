/- The evaluator and its soundness, part 3: Append Source AppOp Rename Op Keep Local Swap Draw Order. -/
import Derived.Test.YtckojpaklblnpaaGreatDoorKEb
import Derived.StillTail
/- append: the evaluator's side. -/
set_option linter.unusedVariables false
set_option linter.unusedSimpArgs false
namespace Go.Proofs.YtckojpaklblnpaaGreatDoor.Ev
open Go Go.RowKit
theorem appendTo_is {c c' : C} {m : Nat} {rows : List (List C)} (h : appendTo c m rows = some c') :
    ∃ (sz : Nat) (old : List (List C)), (sz = m ∨ sz = 0) ∧ (∀ (w : World) (Φ : Bool → Nat → Prop) (v : Value) (B : List Nat), IsC w Φ c v B → OwnSl w sz old.length v B (fun vs B' => IsCRows w Φ sz old vs B')) ∧ c'.len = some (old.length + rows.length) ∧
      ∀ (w : World) (Φ : Bool → Nat → Prop) (v : Value) (B : List Nat), OwnSl w m (old.length + rows.length) v B (fun vs B' => IsCRows w Φ m (old ++ rows) vs B') → IsC w Φ c' v B := by
  unfold appendTo at h
  split at h
  · rename_i sz old
    split at h
    · rename_i hsz
      refine ⟨sz, old.map (·.map C.ow), hsz, ?_, ?_, ?_⟩
      · intro w Φ v B hc
        simp only [IsC, IsO] at hc
        rw [List.length_map]
        exact hc.imp (fun _ _ => rfl) fun vs B' _ k => k.cells
      · split at h
        · rename_i l hl
          simp only [Option.some.injEq] at h
          subst h
          simp [C.len, ownedRows_length hl]
        · simp only [Option.some.injEq] at h
          subst h
          simp [C.len]
      · intro w Φ v B hc
        split at h
        · rename_i l hl
          simp only [Option.some.injEq] at h
          subst h
          simp only [IsC, IsO]
          rw [List.length_append, ownedRows_length hl]
          rw [List.length_map] at hc
          refine hc.imp (fun _ _ => rfl) fun vs B' _ k => ?_
          have hall : ownedRows (old.map (·.map C.ow) ++ rows) = some (old ++ l) := by
            have h1 : ∀ r : List T, ownedAll (r.map C.ow) = some r := by
              intro r
              induction r with
              | nil => simp [ownedAll]
              | cons t r ih => simp [ownedAll, C.owned, ih]
            clear hc k
            induction old with
            | nil => simpa using hl
            | cons r old ih => simp only [List.map_cons, List.cons_append, ownedRows, h1, ih]
          exact IsCRows.ofOwned m _ _ vs B' hall k
        · simp only [Option.some.injEq] at h
          subst h
          simp only [IsC]
          rw [List.length_append]
          exact hc
    · cases h
  · rename_i sz old
    split at h
    · rename_i hsz
      simp only [Option.some.injEq] at h
      subst h
      refine ⟨sz, old, hsz, ?_, by simp [C.len], ?_⟩
      · intro w Φ v B hc
        simp only [IsC] at hc
        exact hc
      · intro w Φ v B hc
        simp only [IsC]
        rw [List.length_append]
        exact hc
    · cases h
  · cases h
section
variable {P : Program} {e : Env}
theorem append_core (he : EnvOk P e) {σ : F} {w : World} {Φ : Bool → Nat → Prop} {tm : List Value} {ρ : Nat → List Value} {B Bc L : List Nat} (hR : Rel w Φ σ tm ρ B) {st xt el ty : TypeId} {tv v : TV} {x s : Value} {rows old : List (List C)} {news : List Value} {sz : Nat}
    (ht : e.ty st = some tv) (htd : tv.desc = .slice el) (hv : e.ty el = some v) (hb : 0 < v.bytes) (hs : Src P w xt el v.cells x rows.length news) (hsz : sz = v.cells ∨ sz = 0) (hown : OwnSl w sz old.length s Bc (fun vs B' => IsCRows w Φ sz old vs B')) (hrows : IsCRows w Φ v.cells rows news L)
    (hBc : Loose w Φ B Bc) (hL : Loose w Φ B L) (hd : ∀ b ∈ Bc, b ∉ L) (hbytes : (old.length + rows.length) * v.bytes ≤ maxBytes) :
    ∃ v' w' L', (Builtin.append_ #[st, xt] ty #[s, x]).run P w = .ok v' w' ∧ OwnSl w' v.cells (old.length + rows.length) v' L' (fun vs B' => IsCRows w' Φ v.cells (old ++ rows) vs B') ∧ Rel w' Φ σ tm ρ B ∧ Loose w' Φ B L' ∧ w'.os = w.os ∧ w'.tape = w.tape ∧ w'.output = w.output ∧ w.heap.size ≤ w'.heap.size ∧
      (∀ b, b < w.heap.size → b ∉ Bc → w'.heap[b]? = w.heap[b]?) ∧ (∀ b ∈ L', b ∈ Bc ∨ b ∈ L ∨ w.heap.size ≤ b) := by
  have hpos := he.pos hv
  have hlen := hs.len
  have hneed : old.length + rows.length ≤ 140737488355328 := by
    have : (old.length + rows.length) * 1 ≤ (old.length + rows.length) * v.bytes := Nat.mul_le_mul_left _ hb
    simp only [maxBytes] at hbytes
    omega
  -- growing
  have grow : ∀ (base : Option Addr) (cap : Nat) (olds cur : List Value) (B' : List Nat), ¬ old.length + rows.length ≤ cap → s = .slice base old.length cap → IsCRows w Φ v.cells old cur B' → olds = cur.take (old.length * v.cells) → olds.length = old.length * v.cells → (∀ b ∈ B', b ∈ Bc) → B'.Nodup →
      (Builtin.firstCells v.cells old.length (.slice base old.length cap)).run P w.drew = .ok olds.toArray w.drew →
      ∃ v' w' L', (Builtin.append_ #[st, xt] ty #[s, x]).run P w = .ok v' w' ∧ OwnSl w' v.cells (old.length + rows.length) v' L' (fun vs B' => IsCRows w' Φ v.cells (old ++ rows) vs B') ∧ Rel w' Φ σ tm ρ B ∧ Loose w' Φ B L' ∧ w'.os = w.os ∧ w'.tape = w.tape ∧ w'.output = w.output ∧ w.heap.size ≤ w'.heap.size ∧
      (∀ b, b < w.heap.size → b ∉ Bc → w'.heap[b]? = w.heap[b]?) ∧ (∀ b ∈ L', b ∈ Bc ∨ b ∈ L ∨ w.heap.size ≤ b) := by
    intro base cap olds cur B' hn hsv hold e1 e2 hB' hnd hf
    obtain ⟨z, hz, hrun⟩ := run_append_grow' he (ty := ty) ht htd hv hb hs base old.length cap hn hbytes hf
    rw [← hsv] at hrun
    generalize hgc : grownCap w (old.length + rows.length) cap el = gc at hrun
    have hge : old.length + rows.length ≤ gc := by rw [← hgc]; exact grownCap_ge w _ _ _
    have hle : gc ≤ maxLen := by rw [← hgc]; exact grownCap_le_maxLen w _ _ _ (by simp only [maxLen]; omega)
    generalize harr : olds.toArray ++ news.toArray ++ Builtin.zeroCells z.cells (gc - (old.length + rows.length)) = arr at hrun
    have hg : Grew w (w.drew.alloc (.cells arr el)) w.heap.size (.cells arr el) := ⟨rfl, alloc_get w.drew _, fun b h => alloc_old w.drew _ h, alloc_size w.drew _, rfl, rfl, rfl⟩
    have hl1 : arr.toList = olds ++ (news ++ (Builtin.zeroCells z.cells (gc - (old.length + rows.length))).toList) := by rw [← harr]; simp
    have hLL : Loose w Φ B (B' ++ L) := Loose.append ⟨hnd, fun b hb => hBc.apart b (hB' b hb), fun b hb => hBc.lt b (hB' b hb), fun b hb => hBc.disj b (hB' b hb)⟩ hL (fun b hb => hd b (hB' b hb))
    have hk : Keeps w (w.drew.alloc (.cells arr el)) Φ Φ (B' ++ L) := ⟨fun _ _ h => h, fun x b hb => hg.old b (hR.ltΦ x b hb), fun b hb => hg.old b (hLL.lt b hb)⟩
    refine ⟨_, _, w.heap.size :: (B' ++ L), hrun, ?_, hR.grew hg, hLL.grew hR hg, rfl, rfl, rfl, by rw [hg.size]; omega, fun b hb _ => hg.old b hb, ?_⟩
    · refine .inr ⟨w.heap.size, gc, arr, el, (0, 0), B' ++ L, rfl, hg.get, fun i _ hh => by simp at hh, ⟨hpos, hge⟩, hle, ?_, rfl, ?_⟩
      · rw [← Array.length_toList, hl1]
        simp only [List.length_append, e2, hlen, Array.length_toList, size_zeroCells, hz]
        rw [← Nat.add_assoc, ← Nat.add_mul, ← Nat.add_mul]
        congr 1
        omega
      · refine rows_join (cur := cur) (news := news) (hold.keep (hk.sub (by intro b hb; simp [hb]))) (hrows.keep (hk.sub (by intro b hb; simp [hb]))) hlen ?_ ?_
        · rw [hl1, ← e1, ← e2, List.take_left]
        · rw [hl1, ← e2, List.drop_left, List.take_left]
    · intro b hb
      rcases List.mem_cons.mp hb with rfl | hb
      · exact .inr (.inr (Nat.le_refl _))
      · rcases List.mem_append.mp hb with hb | hb
        · exact .inl (hB' b hb)
        · exact .inr (.inl hb)
  rcases hown with ⟨rfl, h0, rfl⟩ | ⟨g, cap, cur, et, fz, B', rfl, hg, hfz, ⟨hpz, hnc⟩, hcm, hcs, rfl, hold⟩
  · have hold0 : old = [] := List.length_eq_zero_iff.mp h0
    subst hold0
    by_cases hr : rows = []
    · subst hr
      have hnews : news = [] := List.length_eq_zero_iff.mp (by simpa using hlen)
      subst hnews
      have hrun := run_append_room' he (ty := ty) ht htd hv hb hs none 0 0 (by simp) (by simp) w rfl
      exact ⟨_, w, [], hrun, .inl ⟨rfl, rfl, rfl⟩, hR, Loose.nil, rfl, rfl, rfl, Nat.le_refl _, fun _ _ _ => rfl, by simp⟩
    · refine grow none 0 [] [] [] (by simp; exact hr) rfl (by simp only [IsCRows]) (by simp) (by simp) (by simp) List.nodup_nil ?_
      exact run_firstCells_none (P := P) w.drew v.cells 0 0 0
  · have hszv : sz = v.cells := by rcases hsz with h | h; exact h; omega
    subst hszv
    have hgL : g ∉ L := hd g (by simp)
    by_cases hroom : old.length + rows.length ≤ cap
    · have hfit : old.length * v.cells + news.length ≤ cur.size := by rw [hlen, hcs, ← Nat.add_mul]; exact Nat.mul_le_mul_right _ hroom
      obtain ⟨cur', s1, s2, s3, s4, s5, s6, s7, s8, s9⟩ := setCells_heap (g := g) news (old.length * v.cells) w cur hg hfit
      have hst : (storeCells ((⟨g, 0, none⟩ : Addr).add (old.length * v.cells)) news).run P w = .ok () (w.setCells g (old.length * v.cells) news) := by
        rw [Addr.add_lit]
        have := run_storeCells_cells (P := P) g (old.length * v.cells) news 0 w (fun j hj => by simp only [World.cell?, hg]; simp; omega) (fun j hj => by
          have := hfz (old.length * v.cells + 0 + j) (by omega)
          simp only [World.frozen?, hg]
          obtain ⟨lo, hi⟩ := fz
          simp only at this ⊢
          simp
          omega) hs.ones
        simpa using this
      have hrun := run_append_room' he (ty := ty) ht htd hv hb hs (some ⟨g, 0, none⟩) old.length cap hroom hbytes _ hst
      have hk : Keeps w (w.setCells g (old.length * v.cells) news) Φ Φ (B ++ (B' ++ L)) := by
        refine ⟨fun _ _ h => h, fun y b hb => s5 b (by rintro rfl; exact hBc.disj b (by simp) y hb), fun b hb => s5 b ?_⟩
        rintro rfl
        have := hBc.nd
        simp only [List.nodup_cons] at this
        simp only [List.mem_append] at hb
        rcases hb with hb | hb | hb
        · exact hBc.apart b (by simp) hb
        · exact this.1 hb
        · exact hgL hb
      refine ⟨_, _, g :: (B' ++ L), hrun, ?_, hR.keep (hk.sub (by intro b hb; simp [hb])) (by rw [s6]; exact Nat.le_refl _), ?_, s7, s8, s9, by rw [s6]; exact Nat.le_refl _, fun b hb hn => s5 b (by rintro rfl; exact hn (by simp)), ?_⟩
      · refine .inr ⟨g, cap, cur', et, fz, B' ++ L, rfl, s1, fun i hi => hfz i (by omega), ⟨hpos, hroom⟩, hcm, by omega, rfl, ?_⟩
        refine rows_join (cur := cur.toList) (news := news) (hold.keep (hk.sub (by intro b hb; simp [hb]))) (hrows.keep (hk.sub (by intro b hb; simp [hb]))) hlen ?_ s4
        exact take_ext (fun j hj => by simpa using s3 j (.inl hj))
      · have h1 := hBc.append hL hd
        refine ⟨by simpa using h1.nd, fun b hb => h1.apart b (by simpa using hb), fun b hb => by rw [s6]; exact h1.lt b (by simpa using hb), fun b hb => h1.disj b (by simpa using hb)⟩
      · intro b hb
        rcases List.mem_cons.mp hb with rfl | hb
        · exact .inl (by simp)
        · rcases List.mem_append.mp hb with hb | hb
          · exact .inl (by simp [hb])
          · exact .inr (.inl hb)
    · have hnd := hBc.nd
      simp only [List.nodup_cons] at hnd
      have hcl : (cur.toList.take (old.length * v.cells)).length = old.length * v.cells := by
        rw [List.length_take]
        apply Nat.min_eq_left
        have := Nat.mul_le_mul_right v.cells hnc
        have h2 : cur.toList.length = cur.size := Array.length_toList
        omega
      refine grow (some ⟨g, 0, none⟩) cap (cur.toList.take (old.length * v.cells)) cur.toList B' hroom rfl hold rfl hcl (fun b hb => by simp [hb]) hnd.2 ?_
      refine run_firstCells_some (P := P) w.drew v.cells old.length ⟨g, 0, none⟩ old.length cap _ hcl ?_
      intro j y hj
      rw [List.getElem?_take] at hj
      split at hj
      · rw [Addr.add_lit]
        have hg' : w.drew.heap[g]? = some (.cells cur et fz) := hg
        simp only [World.cell?, hg']
        simpa using hj
      · cases hj
end
end Go.Proofs.YtckojpaklblnpaaGreatDoor.Ev
/- What is appended. -/
set_option linter.unusedVariables false
set_option linter.unusedSimpArgs false
namespace Go.Proofs.YtckojpaklblnpaaGreatDoor.Ev
open Go Go.RowKit
theorem IsTRows.length_le {w : World} {φ : Nat → Prop} {sz : Nat} : ∀ {rows : List (List T)} {vs : List Value}, IsTRows w φ sz rows vs → rows.length * sz ≤ vs.length
  | [], vs, h => by simp
  | r :: rs, vs, h => by
    simp only [IsTRows] at h
    obtain ⟨h1, h2, h3⟩ := h
    have h4 := h2.length
    have h5 := h3.length_le
    simp only [List.length_take, List.length_drop] at h4 h5
    rw [List.length_cons, Nat.succ_mul]
    omega
theorem IsCRows.length_le {w : World} {Φ : Bool → Nat → Prop} {sz : Nat} : ∀ {rows : List (List C)} {vs : List Value} {B : List Nat}, IsCRows w Φ sz rows vs B → rows.length * sz ≤ vs.length
  | [], vs, B, h => by simp
  | r :: rs, vs, B, h => by
    simp only [IsCRows] at h
    obtain ⟨B1, B2, rfl, h1, h2, h3⟩ := h
    have h4 := h2.length
    have h5 := h3.length_le
    simp only [List.length_take, List.length_drop] at h4 h5
    rw [List.length_cons, Nat.succ_mul]
    omega
theorem IsCRows.ones {w : World} {Φ : Bool → Nat → Prop} {sz : Nat} : ∀ {rows : List (List C)} {vs : List Value} {B : List Nat}, IsCRows w Φ sz rows vs B → ∀ v ∈ vs.take (rows.length * sz), v.oneCell' = true
  | [], vs, B, h => by simp
  | r :: rs, vs, B, h => by
    simp only [IsCRows] at h
    obtain ⟨B1, B2, rfl, h1, h2, h3⟩ := h
    intro v hv
    rw [List.length_cons, Nat.succ_mul, Nat.add_comm, List.take_add] at hv
    rcases List.mem_append.mp hv with hv | hv
    · exact h2.ones v hv
    · exact h3.ones v hv
theorem litRows_is {w : World} {Φ : Bool → Nat → Prop} {b : Bool} {sz : Nat} : ∀ {rows : List (List T)} {vs : List Value}, IsTRows w (Φ b) sz rows vs → IsCRows w Φ sz (rows.map (·.map (litC b))) vs []
  | [], vs, h => by simp only [List.map_nil, IsCRows]
  | r :: rs, vs, h => by
    simp only [IsTRows] at h
    obtain ⟨h1, h2, h3⟩ := h
    simp only [List.map_cons, IsCRows]
    exact ⟨[], [], rfl, by simpa using h1, litCs_is h2, litRows_is h3⟩
theorem isLits_any {w : World} {φ φ' : Nat → Prop} : ∀ {ts : List T} {vs : List Value}, ts.all T.isLit = true → IsTs w φ ts vs → IsTs w φ' ts vs
  | [], vs, _, h => by simp only [IsTs] at h ⊢; exact h
  | t :: ts, vs, ha, h => by
    simp only [List.all_cons, Bool.and_eq_true] at ha
    simp only [IsTs] at h ⊢
    obtain ⟨v, vs', rfl, h2, h3⟩ := h
    exact ⟨v, vs', rfl, isLit_any ha.1 h2, isLits_any ha.2 h3⟩
theorem isLitRows_any {w : World} {φ φ' : Nat → Prop} {sz : Nat} : ∀ {rows : List (List T)} {vs : List Value}, rows.all (·.all T.isLit) = true → IsTRows w φ sz rows vs → IsTRows w φ' sz rows vs
  | [], vs, _, h => by simp only [IsTRows]
  | r :: rs, vs, ha, h => by
    simp only [List.all_cons, Bool.and_eq_true] at ha
    simp only [IsTRows] at h ⊢
    exact ⟨h.1, isLits_any ha.1 h.2.1, isLitRows_any ha.2 h.2.2⟩
section
variable {P : Program} {e : Env}
theorem src_of {w : World} {xt el : TypeId} {m n cap : Nat} {a : Option Addr} {d : TypeDesc} {news : List Value} (hd : P.underlying xt = some d) (hn : ∀ k, d ≠ .int k) (hl : news.length = n * m) (h1 : ∀ v ∈ news, v.oneCell' = true)
    (hr : n = 0 ∨ ∃ g o cur et fz, a = some ⟨g, o, none⟩ ∧ w.heap[g]? = some (.cells cur et fz) ∧ news = (cur.toList.drop o).take (n * m)) : Src P w xt el m (.slice a n cap) n news := by
  refine ⟨⟨d, hd, .inl ⟨hn, fun w' hw => ⟨rfl, ?_⟩⟩⟩, hl, h1⟩
  rcases hr with rfl | ⟨g, o, cur, et, fz, rfl, hg, rfl⟩
  · have : news = [] := List.length_eq_zero_iff.mp (by simpa using hl)
    subst this
    cases a with
    | none => exact run_firstCells_none w' m 0 0 cap
    | some a => exact run_firstCells_some w' m 0 a 0 cap [] (by simp) (by simp)
  · refine run_firstCells_some w' m n ⟨g, o, none⟩ n cap _ hl ?_
    intro j y hj
    rw [List.getElem?_take] at hj
    split at hj
    · rw [List.getElem?_drop] at hj
      rw [Addr.add_lit]
      simp only [World.cell?, hw, hg]
      simpa using hj
    · cases hj
theorem src_T {w : World} {Φ : Bool → Nat → Prop} {φ : Nat → Prop} {xt el : TypeId} {m sz : Nat} {d : TypeDesc} {rows : List (List T)} {crows : List (List C)} {xv : Value} (hd : P.underlying xt = some d) (hn : ∀ k, d ≠ .int k) (h : IsT w φ (.sl sz rows) xv) (hsz : sz = m ∨ rows = []) (hlen : crows.length = rows.length)
    (hconv : ∀ vs, IsTRows w φ sz rows vs → IsCRows w Φ sz crows vs []) : ∃ news, IsCRows w Φ m crows news [] ∧ Src P w xt el m xv crows.length news := by
  simp only [IsT] at h
  obtain ⟨a, cap, rfl, h2, h3⟩ := h
  by_cases hr : rows = []
  · subst hr
    have : crows = [] := List.length_eq_zero_iff.mp hlen
    subst this
    exact ⟨[], by simp only [IsCRows], src_of hd hn (by simp) (by simp) (.inl rfl)⟩
  · have hszm : sz = m := by rcases hsz with h | h; exact h; exact absurd h hr
    subst hszm
    rcases h3 with h3 | ⟨g, o, cur, et, fz, rfl, _, hg, h3⟩
    · exact absurd h3 hr
    · have hc := hconv _ h3
      have hle := hc.length_le
      refine ⟨(cur.toList.drop o).take (crows.length * sz), hc.ext (by rw [List.take_take, Nat.min_self]), ?_⟩
      rw [← hlen]
      exact src_of hd hn (by rw [List.length_take]; omega) hc.ones (.inr ⟨g, o, cur, et, fz, rfl, hg, rfl⟩)
theorem rows_is {c : C} {sz : Nat} {rows : List (List C)} (h : c.rows = some (sz, rows)) {w : World} {Φ : Bool → Nat → Prop} {v : Value} {B : List Nat} (hc : IsC w Φ c v B) : OwnSl w sz rows.length v B (fun vs B' => IsCRows w Φ sz rows vs B') := by
  cases c with
  | im b t => simp [C.rows] at h
  | hole => simp [C.rows] at h
  | own z rs =>
    simp only [C.rows, Option.some.injEq, Prod.mk.injEq] at h
    obtain ⟨rfl, rfl⟩ := h
    simp only [IsC] at hc
    exact hc
  | ow t =>
    cases t with
    | lit x => simp [C.rows] at h
    | sl z rs =>
      simp only [C.rows, Option.some.injEq, Prod.mk.injEq] at h
      obtain ⟨rfl, rfl⟩ := h
      simp only [IsC, IsO] at hc
      rw [List.length_map]
      exact hc.imp (fun _ _ => rfl) fun vs B' _ k => k.cells
theorem free_rows {w : World} {Φ : Bool → Nat → Prop} {sz : Nat} : ∀ {rows : List (List C)} {vs : List Value} {B : List Nat}, IsCRows w Φ sz rows vs B → rows.all (·.all C.free) = true → B = []
  | [], vs, B, h, _ => by simp only [IsCRows] at h; exact h
  | r :: rs, vs, B, h, hf => by
    simp only [List.all_cons, Bool.and_eq_true] at hf
    simp only [IsCRows] at h
    obtain ⟨B1, B2, rfl, _, h3, h4⟩ := h
    rw [free_blocks h3 hf.1, free_rows h4 hf.2]
    rfl
theorem src_C {w : World} {Φ : Bool → Nat → Prop} {xt el : TypeId} {m sz : Nat} {d : TypeDesc} {rows : List (List C)} {xv : Value} {B : List Nat} (hd : P.underlying xt = some d) (hn : ∀ k, d ≠ .int k) (h : OwnSl w sz rows.length xv B (fun vs B' => IsCRows w Φ sz rows vs B')) (hsz : sz = m ∨ rows = []) :
    ∃ news L, IsCRows w Φ m rows news L ∧ Src P w xt el m xv rows.length news ∧ L.Sublist B := by
  rcases h with ⟨rfl, h0, rfl⟩ | ⟨g, cap, cur, et, fz, B', rfl, hg, _, ⟨hpz, hnc⟩, _, hcs, rfl, hr⟩
  · have : rows = [] := List.length_eq_zero_iff.mp h0
    subst this
    exact ⟨[], [], by simp only [IsCRows], src_of hd hn (by simp) (by simp) (.inl rfl), List.Sublist.refl _⟩
  · by_cases hre : rows = []
    · subst hre
      exact ⟨[], [], by simp only [IsCRows], src_of hd hn (by simp) (by simp) (.inl rfl), List.nil_sublist _⟩
    · have hszm : sz = m := by rcases hsz with h | h; exact h; exact absurd h hre
      subst hszm
      have hle := hr.length_le
      refine ⟨cur.toList.take (rows.length * sz), B', hr.ext (by rw [List.take_take, Nat.min_self]), ?_, List.sublist_cons_self _ _⟩
      exact src_of hd hn (by rw [List.length_take]; omega) hr.ones (.inr ⟨g, 0, cur, et, fz, rfl, hg, by rw [List.drop_zero]⟩)
theorem source_is {σ σ' : F} {w : World} {Φ : Bool → Nat → Prop} {tm : List Value} {ρ : Nat → List Value} {B : List Nat} (hR : Rel w Φ σ tm ρ B) {xt el : TypeId} {m : Nat} {d : TypeDesc} {x : S} {xv : Value} {rows : List (List C)} (hd : P.underlying xt = some d) (hn : ∀ k, d ≠ .int k) (h : σ.source m x = some (rows, σ')) (hx : SlotR w Φ σ.ob ρ x xv) :
    ∃ B' L news, Rel w Φ σ' tm ρ B' ∧ IsCRows w Φ m rows news L ∧ Loose w Φ B' L ∧ (∀ b ∈ B', b ∈ B) ∧ (∀ b ∈ L, b ∈ B) ∧ Src P w xt el m xv rows.length news := by
  unfold F.source at h
  split at h
  · simp only [Option.some.injEq, Prod.mk.injEq] at h
    obtain ⟨rfl, rfl⟩ := h
    simp only [SlotR] at hx
    subst hx
    exact ⟨B, [], [], hR, by simp only [IsCRows], Loose.nil, fun _ h => h, by simp, src_of hd hn (by simp) (by simp) (.inl rfl)⟩
  · rename_i s
    split at h
    · rename_i hm
      subst hm
      simp only [Option.some.injEq, Prod.mk.injEq] at h
      obtain ⟨rfl, rfl⟩ := h
      rw [slot_lit hx]
      have hl : (s.data.toList.map fun b => [C.ow (.lit (.int .u8 b.toNat))]).length = s.size := by rw [List.length_map, Array.length_toList]; rfl
      refine ⟨B, [], s.data.toList.map (fun b => Value.int .u8 b.toNat), hR, ?_, Loose.nil, fun _ h => h, by simp, ?_⟩
      · have := (bytes_own (w := w) s.data.toList []).cells (Φ := Φ)
        simpa [List.map_map, Function.comp_def] using this
      · rw [hl]
        refine ⟨⟨d, hd, .inl ⟨hn, fun w' hw => ⟨rfl, ?_⟩⟩⟩, ?_, ?_⟩
        · have he : s.extract 0 s.size = s := by
            apply ByteArray.ext
            simp [ByteArray.data_extract]
          simp only [Builtin.firstCells, he, Sem.run_pure]
          congr 1
          apply Array.ext'
          simp
        · rw [List.length_map, Array.length_toList, Nat.mul_one]; rfl
        · intro v hv
          obtain ⟨b, _, rfl⟩ := List.mem_map.mp hv
          rfl
    · cases h
  · rename_i b sz rows0
    split at h
    · rename_i hsz
      simp only [Option.some.injEq, Prod.mk.injEq] at h
      obtain ⟨rfl, rfl⟩ := h
      simp only [SlotR] at hx
      obtain ⟨news, h1, h2⟩ := src_T (P := P) (el := el) (Φ := Φ) (crows := rows0.map (·.map (litC b))) hd hn hx hsz (by simp) (fun vs => litRows_is)
      exact ⟨B, [], news, hR, h1, Loose.nil, fun _ h => h, by simp, h2⟩
    · cases h
  · rename_i k p off
    split at h
    · rename_i c hc
      obtain ⟨o, vs, Bc, c1, c2, c3, c4, c5, c6, _⟩ := hR.cells hc
      have hx' := hx
      simp only [SlotR, Bool.false_eq_true, if_false] at hx
      obtain ⟨o', vs', q1, q2, q3, q4⟩ := hx
      rw [q1] at c1; cases c1
      rw [q2] at c2; cases c2
      obtain ⟨v', e1, hC⟩ := take_one c5
      rw [q4] at e1
      simp only [List.cons.injEq, and_true] at e1
      subst e1
      split at h
      · rename_i b sz rows0
        split at h
        · rename_i hsz
          simp only [Option.some.injEq, Prod.mk.injEq] at h
          obtain ⟨rfl, rfl⟩ := h
          simp only [IsC] at hC
          obtain ⟨news, h1, h2⟩ := src_T (P := P) (el := el) (Φ := Φ) (crows := rows0.map (·.map (litC b))) hd hn hC.2 hsz (by simp) (fun vs => litRows_is)
          exact ⟨B, [], news, hR, h1, Loose.nil, fun _ h => h, by simp, h2⟩
        · cases h
      · split at h
        · rename_i sz rows0 hrows
          split at h
          · rename_i hsz
            split at h
            · rename_i hf
              simp only [Option.some.injEq, Prod.mk.injEq] at h
              obtain ⟨rfl, rfl⟩ := h
              obtain ⟨news, L, h1, h2, h3⟩ := src_C (P := P) (el := el) (m := m) hd hn (rows_is hrows hC) hsz
              have := free_rows h1 hf
              subst this
              exact ⟨B, [], news, hR, h1, Loose.nil, fun _ h => h, by simp, h2⟩
            · split at h
              · rename_i cs σ1 ht
                simp only [Option.some.injEq, Prod.mk.injEq] at h
                obtain ⟨rfl, rfl⟩ := h
                obtain ⟨B', L, t1, t2, t3, t4, t5⟩ := take_is hR ht hx'
                have hcs : cs = [c] := by
                  simp only [F.take, q1, hc] at ht
                  split at ht
                  · simp only [Option.some.injEq, Prod.mk.injEq] at ht; exact ht.1.symm
                  · split at ht
                    · simp only [Option.some.injEq, Prod.mk.injEq] at ht; exact ht.1.symm
                    · split at ht
                      · cases ht
                      · split at ht
                        · split at ht
                          · simp only [Option.some.injEq, Prod.mk.injEq] at ht; exact ht.1.symm
                          · cases ht
                        · cases ht
                subst hcs
                rw [one_cells hC.one] at t2
                simp only [IsCs] at t2
                obtain ⟨v2, vs2, B1, B2, e2, rfl, hC2, rfl, rfl⟩ := t2
                simp only [List.cons.injEq, and_true] at e2
                subst e2
                obtain ⟨news, L', h1, h2, h3⟩ := src_C (P := P) (el := el) (m := m) hd hn (rows_is hrows hC2) hsz
                have hsub : ∀ b ∈ L', b ∈ B1 ++ [] := fun b hb => by simpa using h3.subset hb
                refine ⟨B', L', news, t1, h1, ⟨?_, fun b hb => t3.apart b (hsub b hb), fun b hb => t3.lt b (hsub b hb), fun b hb => t3.disj b (hsub b hb)⟩, t4, fun b hb => t5 b (hsub b hb), h2⟩
                have := t3.nd
                rw [List.append_nil] at this
                exact this.sublist h3
              · cases h
          · cases h
        · cases h
    · cases h
  · rename_i k p off z lo hi
    split at h
    · rename_i sz rows0 hf
      split at h
      · rename_i hcond
        simp only [Option.some.injEq, Prod.mk.injEq] at h
        obtain ⟨rfl, rfl⟩ := h
        have hT := free1_is hR hf hx
        obtain ⟨news, h1, h2⟩ := src_T (P := P) (el := el) (Φ := Φ) (crows := rows0.map (·.map (litC false))) hd hn hT hcond.1 (by simp) (fun vs hv => litRows_is (isLitRows_any hcond.2 hv))
        exact ⟨B, [], news, hR, h1, Loose.nil, fun _ h => h, by simp, h2⟩
      · cases h
    · cases h
  · cases h
end
end Go.Proofs.YtckojpaklblnpaaGreatDoor.Ev
/- append, the operation. -/
set_option linter.unusedVariables false
set_option linter.unusedSimpArgs false
namespace Go.Proofs.YtckojpaklblnpaaGreatDoor.Ev
open Go Go.RowKit
theorem slot_one {σ σ' : F} {w : World} {Φ : Bool → Nat → Prop} {tm : List Value} {ρ : Nat → List Value} {B : List Nat} (hR : Rel w Φ σ tm ρ B) {s : S} {v : Value} {cs : List C} (ht : σ.take s = some (cs, σ')) (hs : SlotR w Φ σ.ob ρ s v) (ha : s.ag = false) : one v := by
  cases s with
  | lit x => simp only [SlotR] at hs; rw [hs.1]; exact hs.2
  | val b t => simp only [SlotR] at hs; exact hs.one
  | nils => simp only [SlotR] at hs; subst hs; exact one_slice _ _ _
  | agg b ts => simp [S.ag] at ha
  | vw k p off n ag =>
    simp only [S.ag] at ha
    subst ha
    simp only [SlotR, Bool.false_eq_true, if_false] at hs
    obtain ⟨o, vs, q1, q2, q3, q4⟩ := hs
    cases hc : σ.cells k p off n with
    | none => simp [F.take, q1, hc] at ht
    | some cs0 =>
      obtain ⟨o', vs', Bc, c1, c2, c3, c4, c5, c6, _⟩ := hR.cells hc
      rw [q1] at c1; cases c1
      rw [q2] at c2; cases c2
      rw [q4] at c5
      cases cs0 with
      | nil => simp [IsCs] at c5
      | cons c cs0 =>
        simp only [IsCs] at c5
        obtain ⟨v', vs', B1, B2, e, _, hC, _⟩ := c5
        simp only [List.cons.injEq] at e
        rw [e.1]
        exact hC.one
  | _ => simp [F.take] at ht
section
variable {P : Program} {e : Env} {σ : F} {ty : TypeId} {pos : String} {after : Array Edge} {gd : Option (Nat × Bool)}
theorem append_some {σ' : F} {d : Option Nat} {st : TypeId} {a : Operand} {src : Nat → F → Option (List (List C) × F)} (h : σ.append e d st a src = some σ') :
    ∃ dd tv el v rows σ1 c σ2 c' n, d = some dd ∧ e.ty st = some tv ∧ tv.desc = .slice el ∧ e.ty el = some v ∧ 0 < v.bytes ∧ src v.cells σ = some (rows, σ1) ∧ (σ1.rd a).ag = false ∧ σ1.take (σ1.rd a) = some ([c], σ2) ∧ appendTo c v.cells rows = some c' ∧ c'.len = some n ∧ n * v.bytes ≤ maxBytes ∧
      σ' = (σ2.new (keyOf dd 0) { cells := [c'] }).put (some dd) (.vw (keyOf dd 0) [] 0 1 false) := by
  unfold F.append at h
  split at h
  · rename_i dd el cells bytes zero agg hst
    split at h
    · rename_i v hv
      split at h
      · rename_i hb
        split at h
        · rename_i rows σ1 hsrc
          split at h
          · rename_i c σ2 htk
            split at htk
            · cases htk
            · rename_i hag
              split at h
              · rename_i c' happ
                split at h
                · rename_i n hlen
                  split at h
                  · rename_i hmax
                    simp only [Option.some.injEq] at h
                    exact ⟨dd, _, el, v, rows, σ1, c, σ2, c', n, rfl, hst, rfl, hv, hb, hsrc, by simpa using hag, htk, happ, hlen, hmax, h.symm⟩
                  · cases h
                · cases h
              · cases h
          · cases h
        · cases h
      · cases h
    · cases h
  · cases h
theorem ok_append_of (he : EnvOk P e) (c : Call) (st xt : TypeId) (a x : Operand) (σ' : F) (d : Option Nat) (src : Nat → F → Option (List (List C) × F)) (hb : c.callee = .builtin .append) (ha : c.args.toList = [a, x]) (hat : c.argTypes.toList = [st, xt]) (h : σ.append e d st a src = some σ')
    (hsrc : ∀ (tv : TV) (el : TypeId) (v : TV) (rows : List (List C)) (σ1 : F), e.ty st = some tv → tv.desc = .slice el → e.ty el = some v → src v.cells σ = some (rows, σ1) → ∀ (w : World) (Φ : Bool → Nat → Prop) (tm : List Value) (ρ : Nat → List Value) (B : List Nat) (ds : List Deferred), Rel w Φ σ tm ρ B →
      ∃ B' L news, Rel w Φ σ1 tm ρ B' ∧ IsCRows w Φ v.cells rows news L ∧ Loose w Φ B' L ∧ (∀ b ∈ B', b ∈ B) ∧ (∀ b ∈ L, b ∈ B) ∧ Src P w xt el v.cells ((⟨tm.toArray, ds⟩ : Act).eval x) rows.length news) :
    OpOk P ⟨d, .call c, ty, pos, after, gd⟩ σ σ' := by
  obtain ⟨dd, tv, el, v, rows, σ1, c0, σ2, c', n, rfl, hst, htd, hv, hbt, hs, hag, htk, happ, hlen, hmax, rfl⟩ := append_some h
  intro w Φ tm ρ B ds K Q hR hK
  obtain ⟨B1, L, news, hR1, hrows, hL, hB1, hLB, hSrc⟩ := hsrc tv el v rows σ1 hst htd hv hs w Φ tm ρ B ds hR
  have har := hR1.rd (ds := ds) a
  have h1a := slot_one hR1 htk har hag
  obtain ⟨B2, Lc, hR2, hc, hLc, hB2, hLcB⟩ := take_is hR1 htk har
  rw [one_cells h1a] at hc
  simp only [IsCs] at hc
  obtain ⟨v0, vs0, D1, D2, e0, rfl, hC, rfl, rfl⟩ := hc
  simp only [List.cons.injEq, and_true] at e0
  obtain ⟨sz, old, hsz, how, hcl, hc'⟩ := appendTo_is happ
  rw [hlen] at hcl
  simp only [Option.some.injEq] at hcl
  subst hcl
  have hown := how w Φ _ _ hC
  rw [List.append_nil] at hLc hLcB
  obtain ⟨v', w', L', hrun, hown', hR', hL', os, tape, output, size, block, own⟩ := append_core he (ty := ty) hR2 hst htd hv hbt hSrc hsz hown hrows hLc (hL.sub hB2) (fun b hb hb2 => hL.apart b hb2 (hLcB b hb)) hmax
  obtain ⟨ρ', B', hR3, hB3, hρ'⟩ := hR'.newSlice hL' (hc' w' Φ v' L' hown') dd
  have e1 : c.args = #[a, x] := Array.ext' (by simpa using ha)
  have e2 : c.argTypes = #[st, xt] := Array.ext' (by simpa using hat)
  obtain ⟨consts, hbi⟩ := run_builtin (P := P) (⟨tm.toArray, ds⟩ : Act).eval (o := ⟨some dd, .call c, ty, pos, after, gd⟩) w rfl hb
  have hrun' : (builtin .append c.argTypes ty consts (c.args.map (⟨tm.toArray, ds⟩ : Act).eval)).run P w = .ok (.value v') w' := by
    simp only [builtin, e1, e2, List.map_toArray, List.map_cons, List.map_nil, e0, Sem.run_bind, hrun, Result.andThen_ok, Sem.run_pure]
  unfold Oper.wp
  rw [hbi]
  simp only at hrun' ⊢
  rw [hrun', Oper.upon_value, act_put]
  refine hK _ _ _ _ _ hR3 ⟨os, tape, output, size, fun b hb hn => block b hb (fun hbc => hn (hB1 b (hLcB b hbc))), fun b hb => ?_, fun _ _ h => h, fun _ _ h => .inl h, fun _ h => .inl h, hρ'.imp⟩ hρ'
  rcases hB3 b hb with hb | hb
  · exact .inl (hB1 b (hB2 b hb))
  · rcases own b hb with hb | hb | hb
    · exact .inl (hB1 b (hLcB b hb))
    · exact .inl (hLB b hb)
    · exact .inr hb
theorem ok_append (he : EnvOk P e) (c : Call) (st xt : TypeId) (xv : TV) (a x : Operand) (σ' : F) (d : Option Nat) (hb : c.callee = .builtin .append) (ha : c.args.toList = [a, x]) (hat : c.argTypes.toList = [st, xt]) (hx : e.ty xt = some xv) (hn : ∀ k, xv.desc ≠ .int k)
    (h : σ.append e d st a (fun m σ => σ.source m (σ.rd x)) = some σ') : OpOk P ⟨d, .call c, ty, pos, after, gd⟩ σ σ' :=
  ok_append_of he c st xt a x σ' d _ hb ha hat h fun tv el v rows σ1 _ _ hv hs w Φ tm ρ B ds hR =>
    source_is (P := P) (el := el) hR (he.und hx) hn hs (hR.rd (ds := ds) x)
theorem ok_appendMake (he : EnvOk P e) (c : Call) (st xt el : TypeId) (tv xv v : TV) (k : IntKind) (n : Int) (a x : Operand) (σ' : F) (d : Option Nat) (hb : c.callee = .builtin .append) (ha : c.args.toList = [a, x]) (hat : c.argTypes.toList = [st, xt]) (hx : e.ty xt = some xv) (hxd : xv.desc = .int k) (hst : e.ty st = some tv) (htd : tv.desc = .slice el) (hv : e.ty el = some v)
    (hi : intOf? (σ.rd x) = some n) (hn : 0 ≤ n) (h : σ.append e d st a (fun _ σ => some (List.replicate n.toNat (v.zero.map .ow), σ)) = some σ') : OpOk P ⟨d, .call c, ty, pos, after, gd⟩ σ σ' :=
  ok_append_of he c st xt a x σ' d _ hb ha hat h fun tv' el' v' rows σ1 hst' htd' hv' hs w Φ tm ρ B ds hR => by
    rw [hst] at hst'
    cases hst'
    rw [htd] at htd'
    cases htd'
    rw [hv] at hv'
    cases hv'
    simp only [Option.some.injEq, Prod.mk.injEq] at hs
    obtain ⟨rfl, rfl⟩ := hs
    obtain ⟨i, z, i1, i2, i3, i4, i5, i6, i7, _⟩ := he.ty el v hv
    obtain ⟨kx, hxv⟩ := intOf_is hi (hR.rd (ds := ds) x)
    obtain ⟨nn, rfl⟩ := Int.eq_ofNat_of_zero_le hn
    simp only [Int.toNat_natCast, List.length_replicate]
    have hz := zeros_rows (w := w) (Φ := Φ) i6 (sz := v.cells) (by simpa using i7) nn nn (Nat.le_refl _)
    have hu := he.und hx
    rw [hxd] at hu
    have hlen : ((List.replicate nn z.cells.toList).flatten).length = nn * v.cells := by simp [i7]
    refine ⟨B, [], (List.replicate nn z.cells.toList).flatten, hR, hz, Loose.nil, fun _ h => h, by simp, ⟨_, hu, .inr ⟨k, kx, rfl, hxv, z, fun w' => by simp [zeroValue, typeInfo, i1, i5], i7, rfl⟩⟩, hlen, ?_⟩
    have := hz.ones
    rw [List.length_replicate, ← hlen, List.take_length] at this
    exact this
end
end Go.Proofs.YtckojpaklblnpaaGreatDoor.Ev
/- An object under a new name: what is assigned to a variable. -/
set_option linter.unusedVariables false
set_option linter.unusedSimpArgs false
namespace Go.Proofs.YtckojpaklblnpaaGreatDoor.Ev
open Go Go.RowKit
theorem look_none {ob : List (Nat × O)} {k : Nat} (h : look ob k = none) : k ∉ ob.map (·.1) := by
  induction ob with
  | nil => simp
  | cons x r ih =>
    obtain ⟨j, y⟩ := x
    simp only [look] at h
    split at h
    · cases h
    · rename_i hjk
      simp only [List.map_cons, List.mem_cons, not_or]
      exact ⟨fun e => hjk e.symm, ih h⟩
theorem Rel.rename {w : World} {Φ : Bool → Nat → Prop} {σ : F} {tm : List Value} {ρ : Nat → List Value} {B : List Nat} (h : Rel w Φ σ tm ρ B) {k k' : Nat} {o o' : O} (hl : Ev.look σ.ob k = some o) (hk' : Ev.look σ.ob k' = none) (hc : o'.cells = o.cells) :
    ∃ B', Rel w Φ { sl := rekeys k k' σ.sl, ob := (k', o') :: drop_ σ.ob k } tm (fun j => if j = k' then ρ k else ρ j) B' ∧ (∀ b ∈ B', b ∈ B) ∧
      ∀ s v, SlotR w Φ σ.ob ρ s v → SlotR w Φ ((k', o') :: drop_ σ.ob k) (fun j => if j = k' then ρ k else ρ j) (rekey k k' s) v := by
  obtain ⟨X, Bk, Y, rfl, e2, _, e4, _⟩ := IsOb.focus h.obs h.keys hl
  have hkk : k ≠ k' := by rintro rfl; rw [hl] at hk'; cases hk'
  have hnk := look_none hk'
  have hnk' : k' ∉ (drop_ σ.ob k).map (·.1) := fun hm => hnk ((drop_sub _ _).subset hm)
  have hnd := h.nd
  have hmem : ∀ b ∈ Bk ++ (X ++ Y), b ∈ X ++ (Bk ++ Y) := by
    intro b hb
    simp only [List.mem_append] at hb ⊢
    rcases hb with hb | hb | hb <;> simp [hb]
  have C : Carry w w Φ Φ σ.ob ((k', o') :: drop_ σ.ob k) ρ (fun j => if j = k' then ρ k else ρ j) (rekey k k') (rekeys k k') := by
    have key : ∀ j oj, Ev.look σ.ob j = some oj → ∃ o2, Ev.look ((k', o') :: drop_ σ.ob k) (if j = k then k' else j) = some o2 ∧ o2.cells = oj.cells ∧ (if (if j = k then k' else j) = k' then ρ k else ρ (if j = k then k' else j)) = ρ j := by
      intro j oj hj
      by_cases hjk : j = k
      · subst hjk
        rw [hl] at hj
        cases hj
        exact ⟨o', by simp [Ev.look], hc, by simp⟩
      · have hjk' : j ≠ k' := by rintro rfl; rw [hj] at hk'; cases hk'
        refine ⟨oj, ?_, rfl, by simp [hjk, hjk']⟩
        rw [if_neg hjk, Ev.look, if_neg (fun e => hjk' e.symm), look_drop h.keys, if_neg hjk]
        exact hj
    refine { mono := fun _ _ h => h, ro := fun _ _ _ => rfl, nil := rfl, cons := fun _ _ => rfl, fn := fun _ _ => rfl, tup := fun _ => rfl, rest := fun s hs => by cases s <;> first | rfl | exact hs.elim, vals := ?_, sub := ?_, ptr := ?_ }
    · intro j p off n
      refine .inr ⟨if j = k then k' else j, fun ag => rfl, fun oj vs h1 h2 h3 => ?_⟩
      obtain ⟨o2, f1, f2, f3⟩ := key j oj h1
      exact ⟨o2, vs, f1, by rw [f2, f3]; exact h2, h3, rfl⟩
    · intro j p off sz lo hi
      refine .inr ⟨if j = k then k' else j, rfl, fun oj vs h1 h2 h3 => ?_⟩
      obtain ⟨o2, f1, f2, f3⟩ := key j oj h1
      exact ⟨o2, vs, f1, by rw [f2, f3]; exact h2, h3, rfl⟩
    · intro j p off
      refine .inr ⟨if j = k then k' else j, rfl, fun oj g a h1 h2 => ?_⟩
      obtain ⟨o2, f1, f2, f3⟩ := key j oj h1
      exact ⟨o2, f1, by rw [f2, f3]; exact h2⟩
  refine ⟨Bk ++ (X ++ Y), ⟨⟨Bk, X ++ Y, rfl, by rw [hc]; simpa using e2, e4.keep (Keeps.refl _ _ _) (fun j hj => ?_)⟩, ?_, ?_, fun b hb => h.disj b (hmem b hb), fun b hb => h.lt b (hmem b hb), h.ltΦ, h.sub, C.slots _ _ h.slots⟩, hmem, fun s v hs => C.slot s v hs⟩
  · have : j ≠ k' := by rintro rfl; exact hnk' hj
    simp [this]
  · simp only [List.nodup_append, List.mem_append, ne_eq] at hnd ⊢
    obtain ⟨n1, ⟨n2, n3, n4⟩, n5⟩ := hnd
    refine ⟨n2, ⟨n1, n3, fun a ha b hb => n5 a ha b (.inr hb)⟩, ?_⟩
    rintro a ha b (hb | hb) e
    · exact n5 b hb a (.inl ha) e.symm
    · exact n4 a ha b hb e
  · simp only [List.map_cons, List.nodup_cons]
    exact ⟨hnk', h.keys.sublist (drop_sub _ _)⟩
section
variable {P : Program} {σ : F} {ty : TypeId} {pos : String} {after : Array Edge} {gd : Option (Nat × Bool)}
theorem ok_rename (x : Operand) (d k n : Nat) (ag : Bool) (ob : O) (hx : σ.rd x = .vw k [] 0 n ag) (hl : look σ.ob k = some ob) (hk : k ≠ keyOf d 0) :
    OpStill P ⟨some d, .assign x, ty, pos, after, gd⟩ σ (F.put { sl := rekeys k (keyOf d 0) (σ.del (keyOf d 0)).sl, ob := (keyOf d 0, { ob with var := true }) :: drop_ (σ.del (keyOf d 0)).ob k } (some d) (.vw (keyOf d 0) [] 0 n ag)) := by
  intro w Φ tm ρ B ds hR
  have hxr := hR.rd (ds := ds) x
  rw [hx] at hxr
  obtain ⟨B1, hR1, hs1, _⟩ := hR.del (keyOf d 0)
  have hl1 : look (σ.del (keyOf d 0)).ob k = some ob := by
    simp only [F.del]
    rw [look_drop hR.keys, if_neg hk]
    exact hl
  have hl2 : look (σ.del (keyOf d 0)).ob (keyOf d 0) = none := by
    simp only [F.del]
    rw [look_drop hR.keys, if_pos rfl]
  obtain ⟨B2, hR2, hB2, hS⟩ := hR1.rename (o' := { ob with var := true }) hl1 hl2 rfl
  have hx1 : SlotR w Φ (σ.del (keyOf d 0)).ob ρ (.vw k [] 0 n ag) ((⟨tm.toArray, ds⟩ : Act).eval x) := by
    simp only [SlotR] at hxr ⊢
    obtain ⟨o, vs, h1, h2, h3, h4⟩ := hxr
    rw [hl] at h1
    cases h1
    exact ⟨ob, vs, hl1, h2, h3, h4⟩
  have hx2 := hS _ _ hx1
  have e1 : rekey k (keyOf d 0) (.vw k [] 0 n ag) = .vw (keyOf d 0) [] 0 n ag := by simp [rekey]
  rw [e1] at hx2
  refine ⟨_, _, _, fun w2 _ => by simp only [execOp, Sem.run_pure], hR2.put (some d) hx2, fun b hb => hs1.subset (hB2 b hb), fun j hj => ?_⟩
  have : j ≠ keyOf d 0 := newKey_keyOf (by decide) hj
  simp [this]
end
end Go.Proofs.YtckojpaklblnpaaGreatDoor.Ev
/- One operation, whichever: what the evaluator told, the machine does. -/
set_option linter.unusedVariables false
set_option linter.unusedSimpArgs false
namespace Go.Proofs.YtckojpaklblnpaaGreatDoor.Ev
open Go Go.RowKit
def OpDone (P : Program) (e : Env) (o : Oper) (σ σ' : F) : Prop :=
  OpStill P o σ σ' ∨ (stillOp e o.op = false ∧ OpNew P o σ σ') ∨ (stillOp e o.op = false ∧ newOp o.op = false ∧ OpOk P o σ σ')
theorem OpDone.ok {P : Program} {e : Env} {o : Oper} {σ σ' : F} (h : OpDone P e o σ σ') : OpOk P o σ σ' :=
  h.elim OpStill.ok (·.elim (·.2.ok) (·.2.2))
theorem OpDone.new {P : Program} {e : Env} {o : Oper} {σ σ' : F} (h : OpDone P e o σ σ') (hn : newOp o.op = true) : OpNew P o σ σ' := by
  rcases h with h | ⟨_, h⟩ | ⟨_, h, _⟩
  · exact h.new
  · exact h
  · rw [hn] at h; cases h
theorem op_done {P : Program} {e : Env} (he : EnvOk P e) {run : FuncId → List S → List O → Option (V × List (Option O))} {σ σ' : F} (o : Oper) (h : opOf e run σ o = some σ')
    (hcall : ∀ c f g caps, o.op = .call c → c.callee = .value f → σ.rd f = .fn g caps → σ.call e run o.dst g (c.args.toList.map σ.rd ++ caps) = some σ' → OpOk P o σ σ') : OpDone P e o σ σ' := by
  obtain ⟨d, op, ty, pos, after, gd⟩ := o
  cases op with
  | move x =>
    simp only [opOf] at h
    split at h
    · rename_i hx
      simp only [Option.some.injEq] at h
      subst h
      rw [← hx]
      exact .inl (ok_move x)
    · simp only [Option.some.injEq] at h
      subst h
      exact .inl (ok_move x)
  | assign x =>
    simp only [opOf] at h
    split at h
    · rename_i k n ag dd hx
      split at h
      · rename_i ob hl
        split at h
        · rename_i hc
          simp only [Bool.and_eq_true, decide_eq_true_eq, Bool.not_eq_true'] at hc
          simp only [Option.some.injEq] at h
          subst h
          exact .inl (ok_rename x dd k n ag ob hx hl (by simpa using hc.2))
        · simp only [Option.some.injEq] at h
          subst h
          rw [← hx]
          exact .inl (ok_assign x)
      · cases h
    · simp only [Option.some.injEq] at h
      subst h
      exact .inl (ok_assign x)
  | pick c a b =>
    simp only [opOf] at h
    split at h
    · rename_i x hx
      simp only [Option.some.injEq] at h
      subst h
      exact .inl (ok_pick c a b x hx)
    · cases h
  | alloc t =>
    simp only [opOf] at h
    split at h
    · rename_i dd v hv
      simp only [Option.some.injEq] at h
      subst h
      exact .inr (.inl ⟨rfl, ok_alloc he t v dd hv⟩)
    · cases h
  | box t x =>
    simp only [opOf] at h
    split at h
    · rename_i dd
      split at h
      · rename_i cs σ1 ht
        split at h
        · rename_i hpos
          simp only [Option.some.injEq] at h
          subst h
          exact .inr (.inl ⟨rfl, ok_box t x dd cs σ1 ht hpos⟩)
        · cases h
      · cases h
    · cases h
  | build t parts =>
    simp only [opOf] at h
    split at h
    · rename_i v hv
      split at h
      · rename_i place l σ1 hpl hp
        split at h
        · rename_i cs hf
          simp only [Option.some.injEq] at h
          subst h
          exact .inl (ok_build he t v parts place l cs σ1 d hv hpl hp hf)
        · cases h
      · cases h
    · cases h
  | buildSlice t len parts =>
    simp only [opOf] at h
    split at h
    · rename_i el _ _ _ _ dd ht
      split at h
      · rename_i v hv
        split at h
        · rename_i l σ1 hp
          split at h
          · rename_i hlen
            split at h
            · rename_i cs hf
              simp only [Option.some.injEq] at h
              subst h
              exact .inr (.inl ⟨rfl, ok_buildSlice he t el _ v len parts l cs σ1 dd ht rfl hv hp hlen hf⟩)
            · cases h
          · cases h
        · cases h
      · cases h
    · cases h
  | load t a =>
    simp only [opOf] at h
    split at h
    · rename_i v hv
      split at h
      · rename_i k p off ha
        split at h
        · rename_i cs hc
          split at h
          · simp only [Option.some.injEq] at h
            subst h
            exact .inl (ok_load_ptr he t v a k p off cs hv ha hc _ (.inl rfl))
          · simp only [Option.some.injEq] at h
            subst h
            exact .inl (ok_load_ptr he t v a k p off cs hv ha hc _ (.inr rfl))
        · cases h
      · rename_i b ts ha
        split at h
        · rename_i hl
          simp only [Option.some.injEq] at h
          subst h
          exact .inl (ok_load_pt he t v a b ts hv ha hl)
        · cases h
      · cases h
    · cases h
  | store t a x =>
    simp only [opOf] at h
    split at h
    · rename_i v hv
      split at h
      · rename_i cs σ1 ht
        split at h
        · rename_i hcs
          split at h
          · rename_i k p off ha
            simp only [Option.map_eq_some_iff] at h
            obtain ⟨σ2, hw, rfl⟩ := h
            exact .inr (.inr ⟨rfl, rfl, ok_store he t v a x cs σ1 σ2 k p off hv ht hcs ha hw⟩)
          · cases h
        · cases h
      · cases h
    · cases h
  | nilCheck x =>
    simp only [opOf] at h
    split at h
    all_goals first
      | (rename_i hx
         simp only [Option.some.injEq] at h
         subst h
         rw [← hx]
         exact .inl (ok_nilCheck x (by rw [hx]; trivial)))
      | cases h
  | binOp op t x y t2 =>
    simp only [opOf] at h
    split at h
    · rename_i s hs
      simp only [Option.some.injEq] at h
      subst h
      refine .inl (ok_bin op t x y t2 _ s ?_ hs)
      intro hb
      split at hb
      · rename_i ht
        exact he.und ht
      · cases hb
    · cases h
  | unOp op t x =>
    simp only [opOf] at h
    split at h
    · rename_i s hs
      simp only [Option.some.injEq] at h
      subst h
      exact .inl (ok_un op t x s hs)
    · cases h
  | convert src dst x =>
    simp only [opOf] at h
    split at h
    · rename_i a b ha hb
      split at h
      · rename_i k k0 n hk hx
        simp only [Option.some.injEq] at h
        subst h
        exact .inl (ok_convert_int src dst x k k0 n (by rw [he.und ha]; rfl) (by rw [he.und hb, hk]) hx)
      · rename_i s hk hx
        simp only [Option.some.injEq] at h
        subst h
        exact .inl (ok_convert_string src dst x s (by rw [he.und ha]; rfl) (by rw [he.und hb, hk]) hx)
      · rename_i el s hk1 hk2 hx
        split at h
        · rename_i dd _ _ _ hv
          split at h
          · rename_i hsz
            simp only [Option.some.injEq] at h
            subst h
            exact .inr (.inl ⟨by obtain ⟨bd, _, _, _, _⟩ := b; simp only at hk2; subst hk2; simp [stillOp, hb], ok_strBytes he src dst el a b _ x s dd ha hk1 hb hk2 hv rfl rfl hx hsz⟩)
          · cases h
        · cases h
      · rename_i el hk1 hk2 _
        split at h
        · rename_i sz rows _ _ _ _ hf hv
          split at h
          · rename_i bs hbs
            simp only [Option.some.injEq] at h
            subst h
            exact .inl (ok_bytesString he src dst el a b _ x sz rows bs ha hk1 hb hk2 hv rfl hf hbs)
          · cases h
        · cases h
      · cases h
    · cases h
  | makeFunc f first captured =>
    cases f with
    | func g =>
      simp only [opOf] at h
      split at h
      · rename_i hf
        simp only [Option.some.injEq] at h
        subst h
        exact .inl (ok_makeFunc g first captured hf)
      · cases h
    | _ => simp [opOf] at h
  | makeSlice t l c =>
    simp only [opOf] at h
    split at h
    · rename_i el _ _ _ _ dd ht
      split at h
      · rename_i v n m hv hn hm
        split at h
        · rename_i hc
          simp only [Option.some.injEq] at h
          subst h
          exact .inr (.inl ⟨rfl, ok_makeSlice he t el _ v l c n m dd ht rfl hv hn hm hc⟩)
        · cases h
      · cases h
    · cases h
  | slice t x lo hi mx =>
    cases mx with
    | some m => simp [opOf] at h
    | none =>
      simp only [opOf] at h
      split at h
      · rename_i l hh hl hhh
        split at h
        · rename_i s hs
          simp only [Option.some.injEq] at h
          subst h
          exact .inl (ok_slice he t x lo hi l hh s hl hhh hs)
        · cases h
      · cases h
  | fieldAddr t x f =>
    simp only [opOf] at h
    split at h
    · rename_i fs _ _ _ _ ht
      split at h
      · rename_i fd hfd
        split at h
        · rename_i hw
          obtain ⟨w0, hw0⟩ := Option.isSome_iff_exists.mp hw
          split at h
          · rename_i k p o' hx
            simp only [Option.some.injEq] at h
            subst h
            exact .inl (ok_fieldAddr he t _ w0 x f fs fd _ ht rfl hfd hw0 (.inl ⟨k, p, o', hx, rfl⟩))
          · rename_i b ts hx
            simp only [Option.some.injEq] at h
            subst h
            exact .inl (ok_fieldAddr he t _ w0 x f fs fd _ ht rfl hfd hw0 (.inr ⟨b, ts, hx, rfl⟩))
          · cases h
        · cases h
      · cases h
    · cases h
  | field t x f =>
    simp only [opOf] at h
    split at h
    · rename_i fs _ _ _ _ ht
      split at h
      · rename_i fd hfd
        split at h
        · rename_i w0 hw0
          split at h
          · rename_i b ts hx
            split at h
            · rename_i hl
              simp only [Option.some.injEq] at h
              subst h
              exact .inl (ok_field_agg he t _ w0 x f fs fd b ts ht rfl hfd hw0 hx hl)
            · cases h
          · rename_i k p off n hx
            split at h
            · rename_i hl
              split at h
              · rename_i cs hc
                simp only [Option.some.injEq] at h
                subst h
                exact .inl (ok_field_vw he t _ w0 x f fs fd k p off n cs ht rfl hfd hw0 hx hl hc)
              · cases h
            · cases h
          · cases h
        · cases h
      · cases h
    · cases h
  | indexAddr t x i =>
    simp only [opOf] at h
    split at h
    · rename_i s hs
      simp only [Option.some.injEq] at h
      subst h
      exact .inl (ok_indexAddr he t x i s hs)
    · cases h
  | index t x i =>
    simp only [opOf] at h
    split at h
    · rename_i s n ht hx hn
      split at h
      · rename_i h0
        split at h
        · rename_i b hb
          simp only [Option.some.injEq] at h
          subst h
          exact .inl (ok_index_str he t _ x i s n b ht rfl hx hn h0 hb)
        · cases h
      · cases h
    · rename_i len el _ _ _ _ b ts n ht hx hn
      split at h
      · rename_i w0 hw0
        split at h
        · rename_i h0
          simp only [Option.some.injEq] at h
          subst h
          exact .inl (ok_index_arr he t el _ w0 x i len n b ts ht rfl hw0 hx hn h0)
        · cases h
      · cases h
    · cases h
  | extract x i =>
    simp only [opOf] at h
    split at h
    · rename_i xs hx
      split at h
      · rename_i s hs
        simp only [Option.some.injEq] at h
        subst h
        exact .inl (ok_extract x i xs s hx hs)
      · cases h
    · cases h
  | call c =>
    simp only [opOf] at h
    split at h
    · rename_i hb
      split at h
      · rename_i x t ha hat
        split at h
        · rename_i n el _ _ _ _ hn ht
          split at h
          · cases h
          · rename_i hx
            simp only [Option.some.injEq] at h
            subst h
            exact .inl (ok_len he c t _ x n hb ha hat ht hn (.inl ⟨el, rfl, fun v hv => hx v hv⟩))
        · rename_i n _ _ _ _ hn ht
          split at h
          · rename_i v hx
            simp only [Option.some.injEq] at h
            subst h
            exact .inl (ok_len he c t _ x n hb ha hat ht hn (.inr ⟨rfl, v, hx⟩))
          · cases h
        · cases h
      · cases h
    · rename_i hb
      split at h
      · rename_i a x st xt ha hat
        split at h
        · rename_i k _ _ _ _ hx
          split at h
          · rename_i el _ _ _ _ n ht hn
            split at h
            · rename_i v hv
              split at h
              · rename_i hc
                exact .inr (.inr ⟨by simp [stillOp, hb], rfl, ok_appendMake he c st xt el _ _ v k n a x σ' d hb ha hat hx rfl ht rfl hv hn hc.2.1 h⟩)
              · cases h
            · cases h
          · cases h
        · rename_i xv hx0 hx
          refine .inr (.inr ⟨by simp [stillOp, hb], rfl, ok_append he c st xt xv a x σ' d hb ha hat hx (fun k hk => by
            obtain ⟨desc, cells, bytes, zero, agg⟩ := xv
            simp only at hk
            subst hk
            exact hx0 _ _ _ _ _ rfl) h⟩)
        · cases h
      · cases h
    · rename_i hb
      split at h
      · rename_i x t ha hat
        split at h
        · rename_i el _ _ _ _ hx ht
          simp only [Option.some.injEq] at h
          subst h
          exact .inl (ok_cap he c t el _ x hb ha hat ht rfl hx)
        · cases h
      · cases h
    · rename_i hb
      split at h
      · rename_i x y ha
        split at h
        · rename_i a b k a' hxi hyi hx
          simp only [Option.some.injEq] at h
          subst h
          have : a = a' := by rw [hx] at hxi; simpa [intOf?] using hxi.symm
          subst this
          exact .inl (ok_minmax c x y k k a b false (by simpa using hb) ha hx hyi)
        · cases h
      · cases h
    · rename_i hb
      split at h
      · rename_i x y ha
        split at h
        · rename_i a b k a' hxi hyi hx
          simp only [Option.some.injEq] at h
          subst h
          have : a = a' := by rw [hx] at hxi; simpa [intOf?] using hxi.symm
          subst this
          exact .inl (ok_minmax c x y k k a b true (by simpa using hb) ha hx hyi)
        · cases h
      · cases h
    · cases h
    · rename_i f hb
      split at h
      · rename_i g caps hf
        exact .inr (.inr ⟨by simp [stillOp, hb], rfl, hcall c f g caps rfl hb hf h⟩)
      · cases h
    · cases h
  | _ => simp [opOf] at h
end Go.Proofs.YtckojpaklblnpaaGreatDoor.Ev
/- What may be forgotten: slots, objects; and what stands beside an operation. -/
set_option linter.unusedVariables false
set_option linter.unusedSimpArgs false
namespace Go.Proofs.YtckojpaklblnpaaGreatDoor.Ev
open Go Go.RowKit
structure Over (w w' : World) (Φ Φ' : Bool → Nat → Prop) (ob ob' : List (Nat × O)) (ρ ρ' : Nat → List Value) (tv tp : Nat → List (Nat × Nat) → Bool) : Prop where
  mono : ∀ x b, Φ x b → Φ' x b
  ro : ∀ x b, Φ x b → w'.heap[b]? = w.heap[b]?
  vals : ∀ k p, tv k p = true → ∀ o vs, look ob k = some o → valsAt w o.cells (ρ k) p = some vs → ∃ o', look ob' k = some o' ∧ valsAt w' o'.cells (ρ' k) p = some vs
  addr : ∀ k p, tp k p = true → ∀ o g a, look ob k = some o → addrAt w o.cells (ρ k) p = some (g, a) → ∃ o', look ob' k = some o' ∧ addrAt w' o'.cells (ρ' k) p = some (g, a)
section
variable {w w' : World} {Φ Φ' : Bool → Nat → Prop} {ob ob' : List (Nat × O)} {ρ ρ' : Nat → List Value} {tv tp : Nat → List (Nat × Nat) → Bool}
mutual
theorem Over.slot (C : Over w w' Φ Φ' ob ob' ρ ρ' tv tp) : ∀ (s : S) (v : Value), S.ok tv tp s = true → SlotR w Φ ob ρ s v → SlotR w' Φ' ob' ρ' s v
  | .dead, v, _, h => by simp only [SlotR]
  | .undef, v, _, h => by simpa only [SlotR] using h
  | .yn, v, _, h => by simpa only [SlotR] using h
  | .nils, v, _, h => by simpa only [SlotR] using h
  | .lit x, v, _, h => by simpa only [SlotR] using h
  | .val b t, v, _, h => by
    simp only [SlotR] at h ⊢
    exact IsT.mono (C.mono b) (C.ro b) t v h
  | .agg b ts, v, _, h => by
    simp only [SlotR] at h ⊢
    obtain ⟨vs, h1, h2⟩ := h
    exact ⟨vs, h1, IsTs.mono (C.mono b) (C.ro b) ts vs h2⟩
  | .pt b ts, v, _, h => by
    simp only [SlotR] at h ⊢
    obtain ⟨g, o, cur, e, fz, h1, h2, h3, h4⟩ := h
    exact ⟨g, o, cur, e, fz, h1, C.mono b g h2, (C.ro b g h2).trans h3, IsTs.mono (C.mono b) (C.ro b) ts _ h4⟩
  | .vw k p off n ag, v, hk, h => by
    simp only [S.ok] at hk
    simp only [SlotR] at h ⊢
    obtain ⟨o, vs, h1, h2, h3, h4⟩ := h
    obtain ⟨o', e1, e2⟩ := C.vals k p hk o vs h1 h2
    exact ⟨o', vs, e1, e2, h3, h4⟩
  | .sub k p off sz lo hi, v, hk, h => by
    simp only [S.ok] at hk
    simp only [SlotR] at h ⊢
    obtain ⟨o, vs, a, len, cap, h1, h2, h3⟩ := h
    obtain ⟨o', e1, e2⟩ := C.vals k p hk o vs h1 h2
    exact ⟨o', vs, a, len, cap, e1, e2, h3⟩
  | .ptr k p off, v, hk, h => by
    simp only [S.ok] at hk
    simp only [SlotR] at h ⊢
    obtain ⟨o, g, a, h1, h2, h3⟩ := h
    obtain ⟨o', e1, e2⟩ := C.addr k p hk o g a h1 h2
    exact ⟨o', g, a, e1, e2, h3⟩
  | .fn g caps, v, hk, h => by
    simp only [S.ok] at hk
    simp only [SlotR] at h ⊢
    obtain ⟨vs, h1, h2⟩ := h
    exact ⟨vs, h1, C.slots caps vs hk h2⟩
  | .tup xs, v, hk, h => by
    simp only [S.ok] at hk
    simp only [SlotR] at h ⊢
    obtain ⟨vs, h1, h2⟩ := h
    exact ⟨vs, h1, C.slots xs vs hk h2⟩
theorem Over.slots (C : Over w w' Φ Φ' ob ob' ρ ρ' tv tp) : ∀ (ss : List S) (vs : List Value), S.oks tv tp ss = true → SlotRs w Φ ob ρ ss vs → SlotRs w' Φ' ob' ρ' ss vs
  | [], vs, _, h => by simpa only [SlotRs] using h
  | s :: ss, vs, hk, h => by
    simp only [S.oks, Bool.and_eq_true] at hk
    simp only [SlotRs] at h ⊢
    obtain ⟨v, vs', h1, h2, h3⟩ := h
    exact ⟨v, vs', h1, C.slot s v hk.1 h2, C.slots ss vs' hk.2 h3⟩
end
theorem Over.sift (C : Over w w' Φ Φ' ob ob' ρ ρ' tv tp) {s : S} {v : Value} (h : SlotR w Φ ob ρ s v) : SlotR w' Φ' ob' ρ' (Ev.sift tv tp s) v := by
  unfold Ev.sift
  split
  · rename_i hk
    exact C.slot s v hk h
  · simp only [SlotR]
end
/-! ### the objects of some keys -/
theorem look_of_mem {ob : List (Nat × O)} {k : Nat} (h : k ∈ ob.map (·.1)) : ∃ o, look ob k = some o := by
  induction ob with
  | nil => simp at h
  | cons x r ih =>
    obtain ⟨i, y⟩ := x
    simp only [look]
    by_cases hik : i = k
    · exact ⟨y, by rw [if_pos hik]⟩
    · simp only [List.map_cons, List.mem_cons] at h
      rw [if_neg hik]
      exact ih (h.resolve_left (fun e => hik e.symm))
theorem look_cons {ob : List (Nat × O)} {i k : Nat} {o : O} : look ((i, o) :: ob) k = if i = k then some o else look ob k := rfl
theorem IsOb.submap {w : World} {Φ : Bool → Nat → Prop} {ρ : Nat → List Value} : ∀ {ob' ob : List (Nat × O)} {B : List Nat}, IsOb w Φ ρ ob B → (ob.map (·.1)).Nodup → B.Nodup → (ob'.map (·.1)).Nodup → (∀ k o, look ob' k = some o → look ob k = some o) →
    ∃ B', IsOb w Φ ρ ob' B' ∧ B'.Nodup ∧ ∀ b ∈ B', b ∈ B
  | [], ob, B, _, _, _, _, _ => ⟨[], rfl, List.nodup_nil, by simp⟩
  | (k, o) :: r, ob, B, h, hk, hB, hk', hl => by
    simp only [List.map_cons, List.nodup_cons] at hk'
    have h1 := hl k o (by simp [look])
    obtain ⟨X, Bk, Y, rfl, e2, _, e4, _⟩ := IsOb.focus h hk h1
    have hnd := hB
    simp only [List.nodup_append, List.mem_append, ne_eq] at hnd
    obtain ⟨n1, ⟨n2, n3, n4⟩, n5⟩ := hnd
    have hXY : (X ++ Y).Nodup := by
      simp only [List.nodup_append, ne_eq]
      exact ⟨n1, n3, fun a ha b hb => n5 a ha b (.inr hb)⟩
    obtain ⟨B', r1, r2, r3⟩ := IsOb.submap (ob' := r) e4 (hk.sublist (drop_sub _ _)) hXY hk'.2 (fun j oj hj => by
      have hjk : j ≠ k := by rintro rfl; exact hk'.1 (look_mem hj)
      rw [look_drop hk, if_neg hjk]
      refine hl j oj ?_
      rw [look_cons, if_neg (fun e => hjk e.symm)]
      exact hj)
    refine ⟨Bk ++ B', ⟨Bk, B', rfl, e2, r1⟩, ?_, fun b hb => ?_⟩
    · simp only [List.nodup_append, ne_eq]
      refine ⟨n2, r2, fun a ha b hb e => ?_⟩
      subst e
      rcases List.mem_append.mp (r3 a hb) with hx | hy
      · exact n5 a hx a (.inl ha) rfl
      · exact n4 a ha a hy rfl
    · rcases List.mem_append.mp hb with hb | hb
      · simp [hb]
      · rcases List.mem_append.mp (r3 b hb) with hx | hx <;> simp [hx]
theorem IsOb.split {w : World} {Φ : Bool → Nat → Prop} {ρ : Nat → List Value} : ∀ {ob1 ob2 ob : List (Nat × O)} {B : List Nat}, IsOb w Φ ρ ob B → (ob.map (·.1)).Nodup → B.Nodup → (ob1.map (·.1)).Nodup → (ob2.map (·.1)).Nodup →
    (∀ k o, look ob1 k = some o → look ob k = some o) → (∀ k o, look ob2 k = some o → look ob k = some o) → (∀ k ∈ ob1.map (·.1), k ∉ ob2.map (·.1)) →
    ∃ B1 B2, IsOb w Φ ρ ob1 B1 ∧ IsOb w Φ ρ ob2 B2 ∧ (B1 ++ B2).Nodup ∧ ∀ b ∈ B1 ++ B2, b ∈ B
  | [], ob2, ob, B, h, hk, hB, _, hk2, _, hl2, _ => by
    obtain ⟨B', r1, r2, r3⟩ := h.submap hk hB hk2 hl2
    exact ⟨[], B', rfl, r1, by simpa using r2, by simpa using r3⟩
  | (k, o) :: r, ob2, ob, B, h, hk, hB, hk1, hk2, hl1, hl2, hd => by
    simp only [List.map_cons, List.nodup_cons] at hk1
    have h1 := hl1 k o (by simp [look])
    obtain ⟨X, Bk, Y, rfl, e2, _, e4, _⟩ := IsOb.focus h hk h1
    have hnd := hB
    simp only [List.nodup_append, List.mem_append, ne_eq] at hnd
    obtain ⟨n1, ⟨n2, n3, n4⟩, n5⟩ := hnd
    have hXY : (X ++ Y).Nodup := by
      simp only [List.nodup_append, ne_eq]
      exact ⟨n1, n3, fun a ha b hb => n5 a ha b (.inr hb)⟩
    have hk2k : k ∉ ob2.map (·.1) := hd k (by simp)
    obtain ⟨B1, B2, r1, r2, r3, r4⟩ := IsOb.split (ob1 := r) (ob2 := ob2) e4 (hk.sublist (drop_sub _ _)) hXY hk1.2 hk2 (fun j oj hj => by
      have hjk : j ≠ k := by rintro rfl; exact hk1.1 (look_mem hj)
      rw [look_drop hk, if_neg hjk]
      refine hl1 j oj ?_
      rw [look_cons, if_neg (fun e => hjk e.symm)]
      exact hj) (fun j oj hj => by
      have hjk : j ≠ k := by rintro rfl; exact hk2k (look_mem hj)
      rw [look_drop hk, if_neg hjk]
      exact hl2 j oj hj) (fun j hj => hd j (by simp at hj ⊢; exact .inr hj))
    have hap : ∀ a ∈ Bk, a ∉ B1 ++ B2 := fun a ha hb => by
      rcases List.mem_append.mp (r4 a hb) with hx | hy
      · exact n5 a hx a (.inl ha) rfl
      · exact n4 a ha a hy rfl
    refine ⟨Bk ++ B1, B2, ⟨Bk, B1, rfl, e2, r1⟩, r2, ?_, fun b hb => ?_⟩
    · rw [List.append_assoc, List.nodup_append]
      exact ⟨n2, r3, fun a ha b hb e => hap a ha (by rw [e]; exact hb)⟩
    · rw [List.append_assoc] at hb
      rcases List.mem_append.mp hb with hb | hb
      · simp [hb]
      · rcases List.mem_append.mp (r4 b hb) with hx | hx <;> simp [hx]
theorem IsOb.append {w : World} {Φ : Bool → Nat → Prop} {ρ : Nat → List Value} : ∀ {ob1 ob2 : List (Nat × O)} {B1 B2 : List Nat}, IsOb w Φ ρ ob1 B1 → IsOb w Φ ρ ob2 B2 → IsOb w Φ ρ (ob1 ++ ob2) (B1 ++ B2)
  | [], _, _, _, h, k => by rw [show _ = [] from h]; exact k
  | (i, o) :: r, _, _, _, h, k => by
    obtain ⟨C1, C2, rfl, h2, h3⟩ := h
    exact ⟨C1, C2 ++ _, by rw [List.append_assoc], h2, h3.append k⟩
theorem look_append {ob1 ob2 : List (Nat × O)} {k : Nat} : look (ob1 ++ ob2) k = match look ob1 k with | some o => some o | none => look ob2 k := by
  induction ob1 with
  | nil => rfl
  | cons x r ih =>
    obtain ⟨i, y⟩ := x
    simp only [List.cons_append, look]
    split
    · rfl
    · exact ih
theorem look_filter {ob : List (Nat × O)} {q : Nat → Bool} {k : Nat} : look (ob.filter fun x => q x.1) k = if q k then look ob k else none := by
  induction ob with
  | nil => simp [look]
  | cons x r ih =>
    obtain ⟨i, y⟩ := x
    simp only [List.filter_cons]
    by_cases hik : i = k
    · subst hik
      by_cases hq : q i = true
      · simp [hq, look]
      · simp [hq, ih]
    · by_cases hq : q i = true
      · simp only [hq, if_true, look]
        rw [if_neg hik, if_neg hik, ih]
      · simp only [hq, Bool.false_eq_true, if_false, look]
        rw [if_neg hik, ih]
theorem look_dropAll {ob : List (Nat × O)} {ks : List Nat} {k : Nat} : look (dropAll ks ob) k = if ks.contains k then none else look ob k := by
  unfold dropAll
  rw [look_filter (q := fun k => !ks.contains k)]
  cases ks.contains k <;> rfl
theorem dropAll_nodup {ob : List (Nat × O)} {ks : List Nat} (h : (ob.map (·.1)).Nodup) : ((dropAll ks ob).map (·.1)).Nodup :=
  h.sublist (List.Sublist.map _ List.filter_sublist)
theorem pick_look : ∀ {ks : List Nat} {ob : List (Nat × O)} {k : Nat}, (ob.map (·.1)).Nodup → look (pick ob ks) k = if ks.contains k then look ob k else none
  | [], ob, k, _ => by simp [pick, look]
  | i :: r, ob, k, h => by
    simp only [pick]
    cases hl : look ob i with
    | none =>
      simp only
      rw [pick_look h]
      by_cases hki : k = i
      · subst hki; simp [hl]
      · simp [hki]
    | some o =>
      simp only [look_cons]
      by_cases hki : i = k
      · subst hki; simp [hl]
      · have hki' : ¬k = i := fun e => hki e.symm
        rw [if_neg hki, pick_look (h.sublist (drop_sub _ _)), look_drop h, if_neg hki']
        simp only [List.contains_cons, beq_iff_eq, hki', Bool.or_eq_true, false_or]
theorem pick_nodup : ∀ {ks : List Nat} {ob : List (Nat × O)}, (ob.map (·.1)).Nodup → ((pick ob ks).map (·.1)).Nodup
  | [], ob, _ => by simp [pick]
  | i :: r, ob, h => by
    simp only [pick]
    cases hl : look ob i with
    | none => exact pick_nodup h
    | some o =>
      simp only [List.map_cons, List.nodup_cons]
      refine ⟨fun hm => ?_, pick_nodup (h.sublist (drop_sub _ _))⟩
      obtain ⟨o', ho'⟩ := look_of_mem hm
      rw [pick_look (h.sublist (drop_sub _ _)), look_drop h] at ho'
      simp at ho'
theorem pick_sub {ks : List Nat} {ob : List (Nat × O)} (h : (ob.map (·.1)).Nodup) {k : Nat} {o : O} (hl : look (pick ob ks) k = some o) : look ob k = some o := by
  rw [pick_look h] at hl
  split at hl
  · exact hl
  · cases hl
/-! ### forgetting -/
theorem maskSl_slots {w w' : World} {Φ Φ' : Bool → Nat → Prop} {ob ob' : List (Nat × O)} {ρ ρ' : Nat → List Value} (C : Over w w' Φ Φ' ob ob' ρ ρ' (fun k _ => (look ob' k).isSome) (fun k _ => (look ob' k).isSome)) (ss : List Nat) :
    ∀ (l : List S) (vs : List Value) (i : Nat), SlotRs w Φ ob ρ l vs → SlotRs w' Φ' ob' ρ' (maskSl ob' ss i l) vs
  | [], vs, i, h => by simpa only [maskSl, SlotRs] using h
  | s :: r, vs, i, h => by
    simp only [SlotRs] at h
    obtain ⟨v, vs', rfl, h2, h3⟩ := h
    simp only [maskSl, SlotRs]
    refine ⟨v, vs', rfl, ?_, maskSl_slots C ss r vs' (i + 1) h3⟩
    split
    · exact C.sift h2
    · simp only [SlotR]
theorem over_sub {w : World} {Φ : Bool → Nat → Prop} {ob ob' : List (Nat × O)} {ρ : Nat → List Value} (hl : ∀ k o, look ob' k = some o → look ob k = some o) :
    Over w w Φ Φ ob ob' ρ ρ (fun k _ => (look ob' k).isSome) (fun k _ => (look ob' k).isSome) where
  mono _ _ h := h
  ro _ _ _ := rfl
  vals k p hk o vs h1 h2 := by
    obtain ⟨o', ho'⟩ := Option.isSome_iff_exists.mp hk
    have := hl k o' ho'
    rw [h1] at this
    cases this
    exact ⟨o, ho', h2⟩
  addr k p hk o g a h1 h2 := by
    obtain ⟨o', ho'⟩ := Option.isSome_iff_exists.mp hk
    have := hl k o' ho'
    rw [h1] at this
    cases this
    exact ⟨o, ho', h2⟩
theorem Rel.only {w : World} {Φ : Bool → Nat → Prop} {σ : F} {tm : List Value} {ρ : Nat → List Value} {B : List Nat} (h : Rel w Φ σ tm ρ B) (ss ks : List Nat) : ∃ B', Rel w Φ (σ.only ss ks) tm ρ B' ∧ ∀ b ∈ B', b ∈ B := by
  obtain ⟨B', r1, r2, r3⟩ := h.obs.submap h.keys h.nd (pick_nodup (ks := ks) h.keys) (fun k o hl => pick_sub h.keys hl)
  exact ⟨B', ⟨r1, r2, pick_nodup h.keys, fun b hb => h.disj b (r3 b hb), fun b hb => h.lt b (r3 b hb), h.ltΦ, h.sub, maskSl_slots (over_sub fun k o hl => pick_sub h.keys hl) ss _ _ 0 h.slots⟩, r3⟩
theorem Rel.forget {w : World} {Φ : Bool → Nat → Prop} {σ : F} {tm : List Value} {ρ : Nat → List Value} {B : List Nat} (h : Rel w Φ σ tm ρ B) (m : Option (List Nat)) : ∃ B', Rel w Φ (σ.keep m) tm ρ B' ∧ ∀ b ∈ B', b ∈ B := by
  unfold F.keep
  split
  · exact ⟨B, h, fun _ hb => hb⟩
  · exact h.only _ _
theorem Rel.perm {w : World} {Φ : Bool → Nat → Prop} {σ : F} {tm : List Value} {ρ : Nat → List Value} {B : List Nat} (h : Rel w Φ σ tm ρ B) {ob : List (Nat × O)} (hk : (ob.map (·.1)).Nodup) (hl : ∀ k, Ev.look ob k = Ev.look σ.ob k) : ∃ B', Rel w Φ { sl := σ.sl, ob } tm ρ B' ∧ ∀ b ∈ B', b ∈ B := by
  obtain ⟨B', r1, r2, r3⟩ := h.obs.submap h.keys h.nd hk (fun k o hh => by rw [← hl]; exact hh)
  refine ⟨B', ⟨r1, r2, hk, fun b hb => h.disj b (r3 b hb), fun b hb => h.lt b (r3 b hb), h.ltΦ, h.sub, ?_⟩, r3⟩
  have C := carry_same (w' := w) (Φ' := Φ) (ρ' := ρ) (ob' := ob) h.obs h.keys (Keeps.refl _ _ _) (fun k o hh => ⟨by rw [hl]; exact hh, rfl⟩)
  exact C.slots σ.sl tm h.slots
theorem Next.to_sub {w w' : World} {Φ Φ' : Bool → Nat → Prop} {ρ ρ' : Nat → List Value} {B B' B1 : List Nat} (h : Next w Φ ρ B w' Φ' ρ' B') (hs : ∀ b ∈ B1, b ∈ B') : Next w Φ ρ B w' Φ' ρ' B1 where
  os := h.os
  tape := h.tape
  output := h.output
  size := h.size
  block := h.block
  own b hb := h.own b (hs b hb)
  mono := h.mono
  fresh := h.fresh
  lent := h.lent
  imp := h.imp
end Go.Proofs.YtckojpaklblnpaaGreatDoor.Ev
/- Operations that put a slot hang on what they look at alone. -/
set_option linter.unusedVariables false
set_option linter.unusedSimpArgs false
namespace Go.Proofs.YtckojpaklblnpaaGreatDoor.Ev
open Go Go.RowKit
theorem cells_look {sl sl' : List S} {ob ob' : List (Nat × O)} {k : Nat} (h : look ob k = look ob' k) (p : List (Nat × Nat)) (off n : Nat) : F.cells ⟨sl, ob⟩ k p off n = F.cells ⟨sl', ob'⟩ k p off n := by
  unfold F.cells
  simp only [h]
theorem ask_congr {ob ob' : List (Nat × O)} {q : Qry} (h : look ob q.key = look ob' q.key) : q.ask ob = q.ask ob' := by
  cases q with
  | whole k => simp only [Qry.ask]; rw [show look ob k = look ob' k from h]
  | view k p off n ag => simp only [Qry.ask]; rw [cells_look (sl := []) (sl' := []) (show look ob k = look ob' k from h)]
  | elem w k p off i => simp only [Qry.ask]; rw [cells_look (sl := []) (sl' := []) (show look ob k = look ob' k from h)]
theorem mem_wholes {ks : List Nat} {k : Nat} (h : k ∈ ks) : Qry.whole k ∈ wholes ks := by
  induction ks with
  | nil => cases h
  | cons a r ih =>
    rcases List.mem_cons.mp h with rfl | h
    · exact List.mem_cons_self
    · exact List.mem_cons_of_mem _ (ih h)
theorem of_wholes {ob ob' : List (Nat × O)} {ks : List Nat} (h : ∀ q ∈ wholes ks, q.ask ob = q.ask ob') : ∀ k ∈ ks, look ob k = look ob' k := by
  intro k hk
  have := h _ (mem_wholes hk)
  simpa only [Qry.ask, Seen.ob.injEq] using this
theorem wholes_mem {ks : List Nat} {q : Qry} (h : q ∈ wholes ks) : ∃ k ∈ ks, q = .whole k := by
  induction ks with
  | nil => cases h
  | cons a r ih =>
    rcases List.mem_cons.mp h with rfl | h
    · exact ⟨a, List.mem_cons_self, rfl⟩
    · obtain ⟨k, hk, e⟩ := ih h
      exact ⟨k, List.mem_cons_of_mem _ hk, e⟩
section
variable {e : Env} {run : FuncId → List S → List O → Option (V × List (Option O))} {σ τ : F}
theorem cells_congr {k : Nat} (h : look τ.ob k = look σ.ob k) (p : List (Nat × Nat)) (off n : Nat) : τ.cells k p off n = σ.cells k p off n := by
  unfold F.cells
  rw [h]
theorem freeOf_congr {s : S} (h : ∀ k ∈ s.keys, look τ.ob k = look σ.ob k) : τ.freeOf s = σ.freeOf s := by
  cases s with
  | vw k p off n ag => simp only [F.freeOf, cells_congr (h k (by simp [S.keys]))]
  | sub k p off sz lo hi => simp only [F.freeOf, cells_congr (h k (by simp [S.keys]))]
  | _ => rfl
theorem free1_congr {s : S} (h : ∀ k ∈ s.keys, look τ.ob k = look σ.ob k) : τ.free1 s = σ.free1 s := by
  have hf := freeOf_congr h
  cases s with
  | vw k p off n ag => cases ag <;> simp only [F.free1, hf]
  | _ => simp only [F.free1, hf]
theorem lenS_congr {s : S} (h : ∀ k ∈ s.keys, look τ.ob k = look σ.ob k) : lenS τ s = lenS σ s := by
  cases s with
  | vw k p off n ag =>
    have hc := cells_congr (h k (by simp [S.keys])) p off 1
    rcases n with _ | _ | n <;> cases ag <;> first | rfl | simp only [lenS, hc]
  | lit v => cases v <;> rfl
  | val b t => cases t <;> rfl
  | _ => rfl
theorem sliceIt_congr {t : TypeId} {s : S} {l h' : Option Int} (h : ∀ k ∈ s.keys, look τ.ob k = look σ.ob k) : sliceIt e τ t s l h' = sliceIt e σ t s l h' := by
  have hl := lenS_congr h
  unfold sliceIt
  rw [hl]
  split
  · rename_i v n hv hn
    simp only
    split
    · obtain ⟨desc, a1, a2, a3, a4⟩ := v
      cases s with
      | vw k p off n ag =>
        have hc := cells_congr (h k (by simp [S.keys])) p off 1
        cases desc <;> first
          | rfl
          | (rcases n with _ | _ | n <;> cases ag <;> first | rfl | simp only [hc])
      | lit v => cases desc <;> cases v <;> rfl
      | val b t => cases desc <;> cases t <;> rfl
      | _ => cases desc <;> rfl
    · rfl
  · rfl
theorem addrOf_congr {t : TypeId} {s i : S} (h : ∀ k ∈ s.keys, look τ.ob k = look σ.ob k) : addrOf e τ t s i = addrOf e σ t s i := by
  unfold addrOf
  split
  · rename_i m v hm hv
    split
    · rfl
    · obtain ⟨desc, a1, a2, a3, a4⟩ := v
      cases s with
      | vw k p off n ag =>
        have hc := cells_congr (h k (by simp [S.keys])) p off 1
        cases desc <;> first
          | rfl
          | (rcases n with _ | _ | n <;> cases ag <;> first | rfl | simp only [hc])
      | sub k p off sz lo hi =>
        have hc := cells_congr (h k (by simp [S.keys])) p off 1
        cases desc <;> first
          | rfl
          | simp only [hc]
      | val b t => cases desc <;> cases t <;> rfl
      | _ => cases desc <;> rfl
  · rfl
theorem still_local (o : Oper) {σ' : F} (hs : slotOp e o.op = true) (hrd : ∀ x ∈ o.op.operands, τ.rd x = σ.rd x) (hob : ∀ q ∈ rkOf e σ o.op, q.ask τ.ob = q.ask σ.ob) (h : opOf e run σ o = some σ') :
    ∃ s, σ' = σ.put o.dst s ∧ opOf e run τ o = some (τ.put o.dst s) := by
  obtain ⟨d, op, ty, pos, after, gd⟩ := o
  simp only at hs hrd hob ⊢
  cases op with
  | move x =>
    have e1 := hrd x (by simp [Op.operands])
    simp only [opOf] at h ⊢
    rw [e1]
    split at h <;> (simp only [Option.some.injEq] at h; exact ⟨_, h.symm, rfl⟩)
  | pick c a b =>
    have e1 := hrd c (by simp [Op.operands])
    have e2 := hrd a (by simp [Op.operands])
    have e3 := hrd b (by simp [Op.operands])
    simp only [opOf] at h ⊢
    rw [e1, e2, e3]
    split at h
    · simp only [Option.some.injEq] at h
      exact ⟨_, h.symm, rfl⟩
    · cases h
  | load t a =>
    have e1 := hrd a (by simp [Op.operands])
    simp only [rkOf] at hob
    simp only [opOf] at h ⊢
    rw [e1]
    split at h
    · rename_i v hv
      split at h
      · rename_i k p off ha
        rw [ha, hv] at hob
        have hq := hob _ (List.mem_singleton.mpr rfl)
        simp only [Qry.ask, Seen.sl.injEq] at hq
        have e2 : F.cells ⟨[], σ.ob⟩ k p off v.cells = σ.cells k p off v.cells := rfl
        have e3 : F.cells ⟨[], τ.ob⟩ k p off v.cells = τ.cells k p off v.cells := rfl
        rw [e2, e3] at hq
        split at h
        · rename_i cs hcs
          rw [hcs] at hq
          cases hct : τ.cells k p off v.cells with
          | none =>
            rw [hct] at hq
            simp only [viewO] at hq
            split at hq <;> cases hq
          | some ct =>
            rw [hct] at hq
            simp only [viewO] at hq
            simp only
            split at h
            · rename_i hh
              rw [if_pos hh] at hq
              simp only [Option.some.injEq] at h
              split at hq
              · rename_i hh2
                rw [if_pos hh2]
                exact ⟨_, h.symm, rfl⟩
              · rename_i hh2
                rw [if_neg hh2]
                refine ⟨_, h.symm, ?_⟩
                simp only [Option.some.injEq] at hq
                rw [hq]
            · rename_i hh
              rw [if_neg hh] at hq
              simp only [Option.some.injEq] at h
              split at hq
              · rename_i hh2
                rw [if_pos hh2]
                refine ⟨_, h.symm, ?_⟩
                simp only [Option.some.injEq] at hq
                rw [hq]
              · rename_i hh2
                rw [if_neg hh2]
                refine ⟨_, h.symm, ?_⟩
                simp only [Option.some.injEq] at hq
                rw [hq]
        · cases h
      · split at h
        · rename_i hh
          rw [if_pos hh]
          simp only [Option.some.injEq] at h
          exact ⟨_, h.symm, rfl⟩
        · cases h
      · cases h
    · cases h
  | nilCheck x =>
    have e1 := hrd x (by simp [Op.operands])
    simp only [opOf] at h ⊢
    rw [e1]
    split at h
    all_goals first
      | (simp only [Option.some.injEq] at h; exact ⟨_, h.symm, rfl⟩)
      | cases h
  | binOp op t x y t2 =>
    have e1 := hrd x (by simp [Op.operands])
    have e2 := hrd y (by simp [Op.operands])
    simp only [opOf] at h ⊢
    rw [e1, e2]
    split at h
    · simp only [Option.some.injEq] at h
      exact ⟨_, h.symm, rfl⟩
    · cases h
  | unOp op t x =>
    have e1 := hrd x (by simp [Op.operands])
    simp only [opOf] at h ⊢
    rw [e1]
    split at h
    · simp only [Option.some.injEq] at h
      exact ⟨_, h.symm, rfl⟩
    · cases h
  | convert src dst x =>
    have e1 := hrd x (by simp [Op.operands])
    simp only [rkOf] at hob
    have hob := of_wholes hob
    simp only [opOf] at h ⊢
    rw [e1]
    split at h
    · rename_i a b ha hb
      obtain ⟨ad, a1, a2, a3, a4⟩ := a
      obtain ⟨bd, b1, b2, b3, b4⟩ := b
      simp only [ha, hb] at h ⊢
      have hf := free1_congr hob
      generalize σ.rd x = s at h hf ⊢
      split at h
      · simp only [Option.some.injEq] at h
        exact ⟨_, h.symm, rfl⟩
      · simp only [Option.some.injEq] at h
        exact ⟨_, h.symm, by cases ad <;> rfl⟩
      · simp [slotOp, hb] at hs
      · split at h
        · rename_i hfr hel
          split at h
          · rename_i hbs
            simp only [Option.some.injEq] at h
            refine ⟨_, h.symm, ?_⟩
            have : ∀ v, s ≠ .lit v := by
              rintro v rfl
              simp [F.free1, F.freeOf] at hfr
            cases s <;> first | exact absurd rfl (this _) | simp only [hf, hfr, hel, hbs]
          · cases h
        · cases h
      · cases h
    · cases h
  | makeFunc f first captured =>
    cases f with
    | func g =>
      simp only [opOf] at h ⊢
      have e1 : captured.toList.map τ.rd = captured.toList.map σ.rd := List.map_congr_left fun x hx => hrd x (by
        simp only [Op.operands, Array.mem_append]
        exact .inr (by simpa using hx))
      rw [e1]
      split at h
      · rename_i hh
        rw [if_pos hh]
        simp only [Option.some.injEq] at h
        exact ⟨_, h.symm, rfl⟩
      · cases h
    | _ => simp [opOf] at h
  | slice t x lo hi mx =>
    cases mx with
    | some m => simp [opOf] at h
    | none =>
      have e1 := hrd x (by simp [Op.operands])
      have e2 : optInt τ lo = optInt σ lo := by
        cases lo with
        | none => rfl
        | some y => simp only [optInt]; rw [hrd y (by simp [Op.operands])]
      have e3 : optInt τ hi = optInt σ hi := by
        cases hi with
        | none => rfl
        | some y => simp only [optInt]; rw [hrd y (by simp [Op.operands])]
      simp only [rkOf] at hob
      have hob := of_wholes hob
      simp only [opOf] at h ⊢
      rw [e1, e2, e3]
      split at h
      · rw [sliceIt_congr hob]
        split at h
        · simp only [Option.some.injEq] at h
          exact ⟨_, h.symm, rfl⟩
        · cases h
      · cases h
  | fieldAddr t x f =>
    have e1 := hrd x (by simp [Op.operands])
    simp only [opOf] at h ⊢
    rw [e1]
    split at h
    · split at h
      · split at h
        · rename_i hh
          rw [if_pos hh]
          split at h
          · simp only [Option.some.injEq] at h
            exact ⟨_, h.symm, rfl⟩
          · simp only [Option.some.injEq] at h
            exact ⟨_, h.symm, rfl⟩
          · cases h
        · cases h
      · cases h
    · cases h
  | field t x f =>
    have e1 := hrd x (by simp [Op.operands])
    simp only [rkOf] at hob
    have hob := of_wholes hob
    simp only [opOf] at h ⊢
    rw [e1]
    split at h
    · split at h
      · split at h
        · split at h
          · split at h
            · rename_i hh
              rw [if_pos hh]
              simp only [Option.some.injEq] at h
              exact ⟨_, h.symm, rfl⟩
            · cases h
          · rename_i k p off n hx
            rw [hx] at hob
            rw [cells_congr (hob k (by simp [S.keys]))]
            split at h
            · rename_i hh
              rw [if_pos hh]
              split at h
              · simp only [Option.some.injEq] at h
                exact ⟨_, h.symm, rfl⟩
              · cases h
            · cases h
          · cases h
        · cases h
      · cases h
    · cases h
  | indexAddr t x i =>
    have e1 := hrd x (by simp [Op.operands])
    have e2 := hrd i (by simp [Op.operands])
    simp only [rkOf] at hob
    simp only [opOf] at h ⊢
    rw [e1, e2]
    have key : addrOf e τ t (σ.rd x) (σ.rd i) = addrOf e σ t (σ.rd x) (σ.rd i) := by
      split at hob
      · rename_i k p off n el a1 a2 a3 a4 hx hi ht
        rw [hx]
        unfold addrOf
        rw [hi, ht]
        cases hw : e.ty el with
        | none => simp only [hw]
        | some w =>
          simp only [hw] at hob
          have hq := hob _ (List.mem_singleton.mpr rfl)
          simp only [Qry.ask, Seen.sl.injEq] at hq
          simp only [hw]
          split
          · rfl
          · exact hq
      · exact addrOf_congr (of_wholes hob)
    rw [key]
    split at h
    · simp only [Option.some.injEq] at h
      exact ⟨_, h.symm, rfl⟩
    · cases h
  | index t x i =>
    have e1 := hrd x (by simp [Op.operands])
    have e2 := hrd i (by simp [Op.operands])
    simp only [opOf] at h ⊢
    rw [e1, e2]
    split at h
    · split at h
      · rename_i hh
        rw [if_pos hh]
        split at h
        · simp only [Option.some.injEq] at h
          exact ⟨_, h.symm, rfl⟩
        · cases h
      · cases h
    · split at h
      · split at h
        · rename_i hh
          rw [if_pos hh]
          simp only [Option.some.injEq] at h
          exact ⟨_, h.symm, rfl⟩
        · cases h
      · cases h
    · cases h
  | extract x i =>
    have e1 := hrd x (by simp [Op.operands])
    simp only [opOf] at h ⊢
    rw [e1]
    split at h
    · split at h
      · simp only [Option.some.injEq] at h
        exact ⟨_, h.symm, rfl⟩
      · cases h
    · cases h
  | call c =>
    have key : ∀ x ∈ c.args, τ.rd x = σ.rd x := fun x hx => hrd x (by
      simp only [Op.operands, Call.operands]
      split <;> simp [hx])
    simp only [rkOf] at hob
    have hob := of_wholes hob
    simp only [opOf] at h ⊢
    split at h
    · rename_i hb
      split at h
      · rename_i x t ha hat
        have ex := key x (by have : x ∈ c.args.toList := by rw [ha]; simp
                             simpa using this)
        have hk : ∀ k ∈ (σ.rd x).keys, look τ.ob k = look σ.ob k := fun k hk => hob k (by rw [ha]; simp [S.keyss, hk])
        simp only [ex, lenS_congr hk]
        split at h
        · split at h
          · cases h
          · simp only [Option.some.injEq] at h
            exact ⟨_, h.symm, rfl⟩
        · split at h
          · simp only [Option.some.injEq] at h
            exact ⟨_, h.symm, rfl⟩
          · cases h
        · cases h
      · cases h
    · rename_i hb
      simp [slotOp, hb] at hs
    · rename_i hb
      split at h
      · rename_i x t ha hat
        have ex := key x (by have : x ∈ c.args.toList := by rw [ha]; simp
                             simpa using this)
        simp only [ex]
        split at h
        · simp only [Option.some.injEq] at h
          exact ⟨_, h.symm, rfl⟩
        · cases h
      · cases h
    · rename_i hb
      split at h
      · rename_i x y ha
        have ex := key x (by have : x ∈ c.args.toList := by rw [ha]; simp
                             simpa using this)
        have ey := key y (by have : y ∈ c.args.toList := by rw [ha]; simp
                             simpa using this)
        simp only [ex, ey]
        split at h
        · simp only [Option.some.injEq] at h
          exact ⟨_, h.symm, rfl⟩
        · cases h
      · cases h
    · rename_i hb
      split at h
      · rename_i x y ha
        have ex := key x (by have : x ∈ c.args.toList := by rw [ha]; simp
                             simpa using this)
        have ey := key y (by have : y ∈ c.args.toList := by rw [ha]; simp
                             simpa using this)
        simp only [ex, ey]
        split at h
        · simp only [Option.some.injEq] at h
          exact ⟨_, h.symm, rfl⟩
        · cases h
      · cases h
    · cases h
    · rename_i f hb
      simp [slotOp, hb] at hs
    · cases h
  | _ => simp [slotOp] at hs
end
end Go.Proofs.YtckojpaklblnpaaGreatDoor.Ev
/- Operations of a region that may come up in either order: the states that they lead to. -/
set_option linter.unusedVariables false
set_option linter.unusedSimpArgs false
namespace Go.Proofs.YtckojpaklblnpaaGreatDoor.Ev
open Go Go.RowKit
structure Eqv (σ τ : F) : Prop where
  sl : σ.sl = τ.sl
  ob : ∀ k, look σ.ob k = look τ.ob k
  nd : (σ.ob.map (·.1)).Nodup
  nd' : (τ.ob.map (·.1)).Nodup
theorem Eqv.refl {σ : F} (h : (σ.ob.map (·.1)).Nodup) : Eqv σ σ := ⟨rfl, fun _ => rfl, h, h⟩
theorem Eqv.symm {σ τ : F} (h : Eqv σ τ) : Eqv τ σ := ⟨h.sl.symm, fun k => (h.ob k).symm, h.nd', h.nd⟩
theorem Eqv.trans {σ τ υ : F} (h : Eqv σ τ) (k : Eqv τ υ) : Eqv σ υ := ⟨h.sl.trans k.sl, fun j => (h.ob j).trans (k.ob j), h.nd, k.nd'⟩
theorem pick_congr : ∀ {ks : List Nat} {ob ob' : List (Nat × O)}, (ob.map (·.1)).Nodup → (ob'.map (·.1)).Nodup → (∀ k ∈ ks, look ob k = look ob' k) → pick ob ks = pick ob' ks
  | [], _, _, _, _, _ => rfl
  | k :: r, ob, ob', h, h', hl => by
    have e := hl k (by simp)
    simp only [pick, e]
    cases hk : look ob' k with
    | none => exact pick_congr h h' fun j hj => hl j (by simp [hj])
    | some o =>
      simp only
      rw [pick_congr (ob := drop_ ob k) (ob' := drop_ ob' k) (h.sublist (drop_sub _ _)) (h'.sublist (drop_sub _ _)) (fun j hj => by
        rw [look_drop h, look_drop h', hl j (by simp [hj])])]
theorem maskSl_congr {ob : List (Nat × O)} {ss : List Nat} : ∀ {l l' : List S} {i : Nat}, l.length = l'.length → (∀ t ∈ ss, i ≤ t → l.getD (t - i) .dead = l'.getD (t - i) .dead) → maskSl ob ss i l = maskSl ob ss i l'
  | [], [], _, _, _ => rfl
  | s :: r, s' :: r', i, hlen, h => by
    simp only [maskSl]
    rw [maskSl_congr (l := r) (l' := r') (i := i + 1) (by simpa using hlen) (fun t ht hi => by
      have := h t ht (by omega)
      have e : t - i = (t - (i + 1)) + 1 := by omega
      rw [e] at this
      simpa using this)]
    by_cases hc : ss.contains i = true
    · have := h i (by simpa using hc) (Nat.le_refl _)
      simp only [Nat.sub_self, List.getD_cons_zero] at this
      rw [this]
    · rw [if_neg hc, if_neg hc]
theorem only_congr {σ τ : F} {ss ks : List Nat} (h : (σ.ob.map (·.1)).Nodup) (h' : (τ.ob.map (·.1)).Nodup) (hlen : σ.sl.length = τ.sl.length) (hs : ∀ t ∈ ss, σ.at_ t = τ.at_ t) (hk : ∀ k ∈ ks, look σ.ob k = look τ.ob k) : σ.only ss ks = τ.only ss ks := by
  unfold F.only
  rw [pick_congr h h' hk, maskSl_congr (i := 0) hlen (fun t ht _ => by simpa [F.at_] using hs t ht)]
theorem Eqv.only {σ τ : F} (h : Eqv σ τ) (ss ks : List Nat) : σ.only ss ks = τ.only ss ks :=
  only_congr h.nd h.nd' (by rw [h.sl]) (fun t _ => by unfold F.at_; rw [h.sl]) (fun k _ => h.ob k)
theorem qs_key {R : Res} {q : Qry} (h : q ∈ R.qs) : q.key ∈ R.rks := by
  cases R with
  | slot rs cs rk os d s => exact List.mem_map_of_mem h
  | eff rs ks α d β gv gp =>
    obtain ⟨k, hk, rfl⟩ := wholes_mem h
    exact hk
def Res.pre (R : Res) (σ : F) : Prop :=
  match R with
  | .slot rs cs rk os _ _ => rs.map σ.at_ = cs ∧ rk.map (Qry.ask σ.ob) = os
  | .eff rs ks α _ β _ _ => σ.only rs ks = α ∧ (∀ k ∈ β.ob.map (·.1), k ∉ ks → look σ.ob k = none) ∧ (β.ob.map (·.1)).Nodup
theorem Eqv.pre {σ τ : F} (h : Eqv σ τ) {R : Res} (hp : R.pre σ) : R.pre τ := by
  have hat : σ.at_ = τ.at_ := by funext t; unfold F.at_; rw [h.sl]
  cases R with
  | slot rs cs rk os d s =>
    simp only [Res.pre] at hp ⊢
    rw [← hat]
    refine ⟨hp.1, ?_⟩
    rw [← hp.2]
    exact List.map_congr_left fun q _ => (ask_congr (h.ob q.key)).symm
  | eff rs ks α d β gv gp =>
    simp only [Res.pre] at hp ⊢
    refine ⟨by rw [← h.only]; exact hp.1, fun k hk hn => by rw [← h.ob]; exact hp.2.1 k hk hn, hp.2.2⟩
theorem app_nd {R : Res} {σ : F} (h : (σ.ob.map (·.1)).Nodup) (hp : R.pre σ) : ((R.app σ).ob.map (·.1)).Nodup := by
  cases R with
  | slot rs cs rk os d s => cases d <;> exact h
  | eff rs ks α d β gv gp =>
    simp only [Res.pre] at hp
    simp only [Res.app, List.map_append]
    rw [List.nodup_append]
    refine ⟨hp.2.2, dropAll_nodup h, fun a ha b hb e => ?_⟩
    subst e
    obtain ⟨o, ho⟩ := look_of_mem hb
    rw [look_dropAll] at ho
    by_cases hk : ks.contains a = true
    · rw [if_pos hk] at ho; cases ho
    · rw [if_neg hk, hp.2.1 a ha (by simpa using hk)] at ho
      cases ho
theorem app_look_slot {rs : List Nat} {cs : List S} {rk : List Qry} {os : List Seen} {d : Option Nat} {s : S} {σ : F} (k : Nat) : look ((Res.slot rs cs rk os d s).app σ).ob k = look σ.ob k := by
  cases d <;> rfl
theorem app_look_eff {rs ks : List Nat} {α : F} {d : Option Nat} {β σ : F} {gv gp : List (Nat × List (Nat × Nat))} (k : Nat) : look ((Res.eff rs ks α d β gv gp).app σ).ob k = match look β.ob k with | some o => some o | none => if ks.contains k then none else look σ.ob k := by
  simp only [Res.app]
  rw [look_append, look_dropAll]
  all_goals (cases look β.ob k <;> rfl)
theorem look_none_of {ob : List (Nat × O)} {k : Nat} (h : k ∉ ob.map (·.1)) : look ob k = none := by
  cases hl : look ob k with
  | none => rfl
  | some o => exact absurd (look_mem hl) h
theorem app_look {R : Res} {σ : F} {k : Nat} (h : k ∉ R.tk) : look (R.app σ).ob k = look σ.ob k := by
  cases R with
  | slot rs cs rk os d s => exact app_look_slot k
  | eff rs ks α d β gv gp =>
    simp only [Res.tk, List.mem_append, not_or] at h
    rw [app_look_eff, look_none_of h.2]
    simp [h.1]
theorem Eqv.app {σ τ : F} (h : Eqv σ τ) {R : Res} (hp : R.pre σ) : Eqv (R.app σ) (R.app τ) := by
  refine ⟨?_, ?_, app_nd h.nd hp, app_nd h.nd' (h.pre hp)⟩
  · cases R with
    | slot rs cs rk os d s => cases d <;> simp [Res.app, F.put, h.sl]
    | eff rs ks α d β gv gp => simp [Res.app, h.sl]
  · intro k
    cases R with
    | slot rs cs rk os d s => rw [app_look_slot, app_look_slot]; exact h.ob k
    | eff rs ks α d β gv gp => rw [app_look_eff, app_look_eff, h.ob]
theorem setO_length (l : List S) (d : Option Nat) (s : S) : (setO l d s).length = l.length := by cases d <;> simp [setO]
theorem app_length {R : Res} {σ : F} : (R.app σ).sl.length = σ.sl.length := by
  cases R with
  | slot rs cs rk os d s => cases d <;> simp [Res.app, F.put]
  | eff rs ks α d β gv gp => simp [Res.app, setO_length]
theorem sf_slot {rs : List Nat} {cs : List S} {rk : List Qry} {os : List Seen} {d : Option Nat} {s x : S} : (Res.slot rs cs rk os d s).sf x = x := by simp [Res.sf, Res.okS]
theorem app_sl (R : Res) (σ : F) : (R.app σ).sl = setO (σ.sl.map R.sf) R.dst R.out := by
  cases R with
  | slot rs cs rk os d s =>
    have : σ.sl.map (Res.slot rs cs rk os d s).sf = σ.sl := by
      rw [show (Res.slot rs cs rk os d s).sf = id from funext fun x => sf_slot]
      simp
    rw [this]
    cases d <;> rfl
  | eff rs ks α d β gv gp => rfl
theorem sf_dead (R : Res) : R.sf .dead = .dead := by unfold Res.sf; split <;> rfl
theorem sf_ok {R : Res} {s : S} (h : R.okS s = true) : R.sf s = s := by unfold Res.sf; rw [if_pos h]
theorem getD_setO {l : List S} {d : Option Nat} {s x : S} {t : Nat} (h : ∀ j, d = some j → j ≠ t) : (setO l d s).getD t x = l.getD t x := by
  cases d with
  | none => rfl
  | some j =>
    have := h j rfl
    simp only [setO, List.getD_eq_getElem?_getD]
    rw [List.getElem?_set_ne this]
theorem getD_map_sf (R : Res) (l : List S) (t : Nat) : (l.map R.sf).getD t .dead = R.sf (l.getD t .dead) := by
  rw [List.getD_eq_getElem?_getD, List.getD_eq_getElem?_getD, List.getElem?_map]
  cases l[t]? with
  | none => exact (sf_dead R).symm
  | some x => rfl
theorem app_at {R : Res} {σ : F} {t : Nat} (h : ∀ j, R.dst = some j → j ≠ t) : (R.app σ).at_ t = R.sf (σ.at_ t) := by
  unfold F.at_
  rw [app_sl, getD_setO h, getD_map_sf]
theorem app_at_alive {R : Res} {σ : F} {t : Nat} (h : ∀ j, R.dst = some j → j ≠ t) (hd : (R.app σ).at_ t ≠ .dead) : σ.at_ t = (R.app σ).at_ t := by
  rw [app_at h] at hd ⊢
  unfold Res.sf at hd ⊢
  split
  · rfl
  · rename_i hh; rw [if_neg hh] at hd; exact absurd rfl hd
def Still (R : Res) (k : Nat) : Prop := ∀ σ : F, (σ.ob.map (·.1)).Nodup → R.pre σ → look (R.app σ).ob k = look σ.ob k
theorem still_of {R : Res} {k : Nat} (h : stillE R k) : Still R k := by
  intro σ hn hp
  cases R with
  | slot rs cs rk os d s => exact app_look_slot k
  | eff rs ks α d β gv gp =>
    simp only [stillE] at h
    simp only [Res.pre] at hp
    obtain ⟨h1, h2⟩ := h
    have e : look α.ob k = look σ.ob k := by
      rw [← hp.1]
      show look (pick σ.ob ks) k = _
      rw [pick_look hn, if_pos h1]
    rw [app_look_eff, h1, ← e, ← h2]
    cases look β.ob k <;> rfl
def Sees (a b : Res) : Prop := ∀ σ : F, (σ.ob.map (·.1)).Nodup → a.pre σ → ∀ q ∈ b.qs, q.ask (a.app σ).ob = q.ask σ.ob
theorem sees_of {a b : Res} (h : seesE a b) : Sees a b := by
  intro σ hn hp q hq
  cases a with
  | slot rs cs rk os d s => exact h.elim
  | eff rs ks α d β gv gp =>
    cases b with
    | eff rs ks α d β gv gp => exact h.elim
    | slot rs' cs' rk' os' d' s' =>
      simp only [seesE] at h
      obtain ⟨h1, h2⟩ := h q hq
      simp only [Res.pre] at hp
      have e : look α.ob q.key = look σ.ob q.key := by
        rw [← hp.1]
        show look (pick σ.ob ks) q.key = _
        rw [pick_look hn, if_pos h1]
      have e2 : look ((Res.eff rs ks α d β gv gp).app σ).ob q.key = look β.ob q.key := by
        rw [app_look_eff, h1]
        cases look β.ob q.key <;> rfl
      rw [ask_congr e2, h2, ask_congr e]
structure Indep (a b : Res) : Prop where
  d1 : ∀ d, a.dst = some d → d ∉ b.rs
  d2 : ∀ d, a.dst = some d → b.dst ≠ some d
  d3 : ∀ d, b.dst = some d → d ∉ a.rs
  k1 : Sees a b
  k2 : Sees b a
  k3 : ∀ k ∈ a.tk, k ∈ b.tk → Still a k ∧ Still b k
  c1 : ∀ c ∈ b.cont, c ≠ .dead
  c2 : ∀ c ∈ a.cont, c ≠ .dead ∧ b.okS c = true
  o1 : b.okS a.out = true
  o2 : a.okS b.out = true
theorem apartL_is {a b : List Nat} (h : apartL a b = true) : ∀ k ∈ a, k ∉ b := by
  intro k hk hb
  have := List.all_eq_true.mp h k hk
  simp [hb] at this
theorem isDead_is {s : S} (h : s.isDead = false) : s ≠ .dead := by rintro rfl; cases h
theorem indepH_of {hs hq : List (Nat × Nat)} {i j : Nat} {a b : Res} (sa : ∀ k, hs.contains (i, k) = true → Still a k) (sb : ∀ k, hs.contains (j, k) = true → Still b k) (qa : hq.contains (i, j) = true → Sees a b) (qb : hq.contains (j, i) = true → Sees b a) (h : indepH hs hq i j a b = true) : Indep a b := by
  unfold indepH at h
  simp only [Bool.and_eq_true] at h
  obtain ⟨⟨⟨⟨⟨⟨⟨⟨h1, h2⟩, h3⟩, h4⟩, h5⟩, h6⟩, h7⟩, h8⟩, h9⟩ := h
  refine ⟨?_, ?_, ?_, fun σ hn hp q hq => ?_, fun σ hn hp q hq => ?_, fun k hk hb => ?_, ?_, ?_, h8, h9⟩
  · intro d hd
    rw [hd] at h1
    simp only [Bool.and_eq_true, Bool.not_eq_true', List.contains_eq_mem, decide_eq_false_iff_not] at h1
    exact h1.1
  · intro d hd
    rw [hd] at h1
    simp only [Bool.and_eq_true, bne_iff_ne, ne_eq] at h1
    exact h1.2
  · intro d hd
    rw [hd] at h2
    simpa using h2
  · by_cases hk : q.key ∈ a.tk
    · have := List.all_eq_true.mp h3 q.key hk
      rw [List.contains_iff_mem.mpr (qs_key hq)] at this
      simp only [Bool.not_true, Bool.false_or, Bool.or_eq_true] at this
      rcases this with this | this
      · exact ask_congr (sa q.key this σ hn hp)
      · exact qa this σ hn hp q hq
    · exact ask_congr (app_look hk)
  · by_cases hk : q.key ∈ b.tk
    · have := List.all_eq_true.mp h4 q.key hk
      rw [List.contains_iff_mem.mpr (qs_key hq)] at this
      simp only [Bool.not_true, Bool.false_or, Bool.or_eq_true] at this
      rcases this with this | this
      · exact ask_congr (sb q.key this σ hn hp)
      · exact qb this σ hn hp q hq
    · exact ask_congr (app_look hk)
  · have := List.all_eq_true.mp h5 k hk
    rw [List.contains_iff_mem.mpr hb] at this
    simp only [Bool.not_true, Bool.false_or, Bool.and_eq_true] at this
    exact ⟨sa k this.1, sb k this.2⟩
  · intro c hc
    have := List.all_eq_true.mp h6 c hc
    exact isDead_is (by simpa using this)
  · intro c hc
    have := List.all_eq_true.mp h7 c hc
    simp only [Bool.and_eq_true, Bool.not_eq_true'] at this
    exact ⟨isDead_is this.1, this.2⟩
theorem apart_all {a b : List Nat} {f : Nat → Bool} (h : apartL a b = true) : a.all (fun k => !b.contains k || f k) = true := by
  rw [List.all_eq_true]
  intro k hk
  have := apartL_is h k hk
  simp [this]
theorem indep_of {a b : Res} (h : indepB a b = true) : Indep a b := by
  refine indepH_of (hs := []) (hq := []) (i := 0) (j := 0) (fun k h => by simp at h) (fun k h => by simp at h) (fun h => by simp at h) (fun h => by simp at h) ?_
  unfold indepB at h
  unfold indepH
  simp only [Bool.and_eq_true] at h ⊢
  obtain ⟨⟨⟨⟨⟨⟨⟨⟨h1, h2⟩, h3⟩, h4⟩, h5⟩, h6⟩, h7⟩, h8⟩, h9⟩ := h
  exact ⟨⟨⟨⟨⟨⟨⟨⟨h1, h2⟩, apart_all h3⟩, apart_all h4⟩, apart_all h5⟩, h6⟩, h7⟩, h8⟩, h9⟩
theorem pre_congr {R : Res} {σ τ : F} (hn : (σ.ob.map (·.1)).Nodup) (hn' : (τ.ob.map (·.1)).Nodup) (hlen : σ.sl.length = τ.sl.length) (hp : R.pre σ) (hs : ∀ t ∈ R.rs, σ.at_ t = τ.at_ t) (hk : ∀ q ∈ R.qs, q.ask σ.ob = q.ask τ.ob)
    (hnew : ∀ k ∈ R.tk, look σ.ob k = look τ.ob k) : R.pre τ := by
  cases R with
  | slot rs cs rk os d s =>
    simp only [Res.pre, Res.rs, Res.qs] at hp hs hk ⊢
    refine ⟨?_, ?_⟩
    · rw [← hp.1]; exact List.map_congr_left fun t ht => (hs t ht).symm
    · rw [← hp.2]; exact List.map_congr_left fun k hk' => (hk k hk').symm
  | eff rs ks α d β gv gp =>
    simp only [Res.pre, Res.rs, Res.qs, Res.tk] at hp hs hk hnew ⊢
    refine ⟨?_, fun k hk' hn => ?_, hp.2.2⟩
    · rw [← hp.1]; exact (only_congr hn hn' hlen hs (of_wholes hk)).symm
    · rw [← hnew k (List.mem_append.mpr (.inr hk'))]; exact hp.2.1 k hk' hn
theorem mem_cont_slot {R : Res} {σ : F} (hp : R.pre σ) {t : Nat} (ht : t ∈ R.rs) : (∃ c ∈ R.cont, σ.at_ t = c) ∨ ∃ c ∈ R.cont, (c = σ.at_ t ∨ c = .dead) := by
  cases R with
  | slot rs cs rk os d s =>
    simp only [Res.pre, Res.rs] at hp ht
    left
    refine ⟨σ.at_ t, ?_, rfl⟩
    simp only [Res.cont]
    rw [← hp.1]
    exact List.mem_map_of_mem ht
  | eff rs ks α d β gv gp =>
    simp only [Res.pre, Res.rs] at hp ht
    right
    refine ⟨α.at_ t, ?_, ?_⟩
    · simp only [Res.cont]; exact List.mem_map_of_mem ht
    · rw [← hp.1]
      have key : ∀ (l : List S) (i j : Nat), (maskSl (pick σ.ob ks) rs i l).getD j .dead = l.getD j .dead ∨ (maskSl (pick σ.ob ks) rs i l).getD j .dead = .dead := by
        intro l
        induction l with
        | nil => intro i j; left; simp [maskSl]
        | cons s r ih =>
          intro i j
          cases j with
          | zero =>
            simp only [maskSl, List.getD_cons_zero]
            split
            · unfold sift; split <;> simp
            · simp
          | succ j => simpa [maskSl] using ih (i + 1) j
      exact key σ.sl 0 t
theorem cont_alive {R : Res} {σ : F} (hp : R.pre σ) (h : ∀ c ∈ R.cont, c ≠ .dead) {t : Nat} (ht : t ∈ R.rs) : σ.at_ t ∈ R.cont := by
  rcases mem_cont_slot hp ht with ⟨c, hc, e⟩ | ⟨c, hc, e | e⟩
  · rw [e]; exact hc
  · rw [← e]; exact hc
  · exact absurd e (h c hc)
theorem setO_map {l : List S} {d : Option Nat} {s : S} (f : S → S) : (setO l d s).map f = setO (l.map f) d (f s) := by
  cases d with
  | none => rfl
  | some d => simp only [setO, List.map_set]
theorem setO_comm {l : List S} {d d' : Option Nat} {s s' : S} (h : ∀ j, d = some j → d' ≠ some j) : setO (setO l d s) d' s' = setO (setO l d' s') d s := by
  cases d with
  | none => cases d' <;> rfl
  | some j =>
    cases d' with
    | none => rfl
    | some j' =>
      have : j ≠ j' := by rintro rfl; exact h j rfl rfl
      simp only [setO]
      exact List.set_comm _ _ this
theorem sf_comm (a b : Res) (s : S) : a.sf (b.sf s) = b.sf (a.sf s) := by
  unfold Res.sf
  by_cases ha : a.okS s = true <;> by_cases hb : b.okS s = true <;> simp [ha, hb]
theorem swap {a b : Res} {σ : F} (hn : (σ.ob.map (·.1)).Nodup) (hi : Indep a b) (ha : a.pre σ) (hb : b.pre (a.app σ)) : b.pre σ ∧ a.pre (b.app σ) ∧ Eqv (a.app (b.app σ)) (b.app (a.app σ)) := by
  have la : ∀ k, (k ∈ a.tk → Still a k) → look (a.app σ).ob k = look σ.ob k := fun k h => by
    by_cases hk : k ∈ a.tk
    · exact h hk σ hn ha
    · exact app_look hk
  have hb' : b.pre σ := by
    refine pre_congr (app_nd hn ha) hn app_length hb (fun t ht => ?_) (fun q hq => hi.k1 σ hn ha q hq) (fun k hk => la k fun h => (hi.k3 k h hk).1)
    have hd : ∀ j, a.dst = some j → j ≠ t := by rintro j hj rfl; exact hi.d1 j hj ht
    exact (app_at_alive hd (hi.c1 _ (cont_alive hb hi.c1 ht))).symm
  have lb : ∀ k, (k ∈ b.tk → Still b k) → look (b.app σ).ob k = look σ.ob k := fun k h => by
    by_cases hk : k ∈ b.tk
    · exact h hk σ hn hb'
    · exact app_look hk
  have ha' : a.pre (b.app σ) := by
    refine pre_congr hn (app_nd hn hb') app_length.symm ha (fun t ht => ?_) (fun q hq => (hi.k2 σ hn hb' q hq).symm) (fun k hk => (lb k fun h => (hi.k3 k hk h).2).symm)
    have hd : ∀ j, b.dst = some j → j ≠ t := by rintro j hj rfl; exact hi.d3 j hj ht
    rw [app_at hd, sf_ok]
    exact (hi.c2 _ (cont_alive ha (fun c hc => (hi.c2 c hc).1) ht)).2
  refine ⟨hb', ha', ?_, ?_, app_nd (app_nd hn hb') ha', app_nd (app_nd hn ha) hb⟩
  · rw [app_sl, app_sl, app_sl, app_sl, setO_map, setO_map, sf_ok hi.o1, sf_ok hi.o2, setO_comm hi.d2, List.map_map, List.map_map]
    congr 2
    apply List.map_congr_left
    intro s _
    exact sf_comm a b s
  · intro k
    by_cases hka : k ∈ a.tk
    · by_cases hkb : k ∈ b.tk
      · obtain ⟨s1, s2⟩ := hi.k3 k hka hkb
        rw [s1 _ (app_nd hn hb') ha', s2 _ (app_nd hn ha) hb, s1 σ hn ha, s2 σ hn hb']
      · rw [app_look (R := b) hkb]
        cases a with
        | slot rs cs rk os d s => simp [Res.tk] at hka
        | eff rs ks α d β gv gp => rw [app_look_eff, app_look_eff, app_look hkb]
    · rw [app_look hka]
      by_cases hkb : k ∈ b.tk
      · cases b with
        | slot rs cs rk os d s => simp [Res.tk] at hkb
        | eff rs ks α d β gv gp => rw [app_look_eff, app_look_eff, app_look hka]
      · rw [app_look hkb, app_look hkb, app_look hka]
def Seq : F → List (Nat × Res) → F → Prop
  | σ, [], τ => Eqv σ τ
  | σ, (_, R) :: l, τ => R.pre σ ∧ Seq (R.app σ) l τ
theorem Seq.congr : ∀ {l : List (Nat × Res)} {σ σ' τ : F}, Eqv σ σ' → Seq σ l τ → Seq σ' l τ
  | [], _, _, _, h, k => h.symm.trans k
  | (_, R) :: l, _, _, _, h, k => ⟨h.pre k.1, Seq.congr (h.app k.1) k.2⟩
theorem Seq.front : ∀ {l1 l2 : List (Nat × Res)} {j : Nat} {R : Res} {σ τ : F}, (σ.ob.map (·.1)).Nodup → Seq σ (l1 ++ (j, R) :: l2) τ → (∀ x ∈ l1, Indep x.2 R) → R.pre σ ∧ Seq (R.app σ) (l1 ++ l2) τ
  | [], l2, j, R, σ, τ, hn, h, _ => h
  | (i, A) :: l1, l2, j, R, σ, τ, hn, h, hi => by
    obtain ⟨h1, h2⟩ := h
    obtain ⟨h3, h4⟩ := Seq.front (app_nd hn h1) h2 (fun x hx => hi x (by simp [hx]))
    obtain ⟨s1, s2, s3⟩ := swap hn (hi (i, A) (by simp)) h1 h3
    exact ⟨s1, s2, h4.congr s3.symm⟩
end Go.Proofs.YtckojpaklblnpaaGreatDoor.Ev
/- Regions that draw their order: every order comes to what the evaluator told. -/
set_option linter.unusedVariables false
set_option linter.unnecessarySimpa false
set_option linter.unusedSimpArgs false
namespace Go.Proofs.YtckojpaklblnpaaGreatDoor.Ev
open Go Go.RowKit
def RunOk (P : Program) (e : Env) (run : FuncId → List S → List O → Option (V × List (Option O))) : Prop :=
  ∀ (σ σ' : F) (o : Oper) (c : Call) (f : Operand) (g : FuncId) (caps : List S), o.op = .call c → c.callee = .value f → σ.rd f = .fn g caps → σ.call e run o.dst g (c.args.toList.map σ.rd ++ caps) = some σ' → OpOk P o σ σ'
section
variable {P : Program} {e : Env} {run : FuncId → List S → List O → Option (V × List (Option O))}
theorem done_of (he : EnvOk P e) (hrun : RunOk P e run) {σ σ' : F} (o : Oper) (h : opOf e run σ o = some σ') : OpDone P e o σ σ' :=
  op_done he o h (fun c f g caps a b c' d => hrun σ σ' o c f g caps a b c' d)
theorem yielded_is {w : World} {Φ : Bool → Nat → Prop} {σ : F} {tm : List Value} {ρ : Nat → List Value} {B : List Nat} (hR : Rel w Φ σ tm ρ B) {ops : Array Oper} {g d : Nat} {og : Oper} (hg : ops[g]? = some og) (hd : og.dst = some d) :
    (∀ x, σ.at_ d = .lit (.bool x) → yielded ops tm.toArray g = some x) ∧ (σ.at_ d = .undef → yielded ops tm.toArray g = none) := by
  have hs := hR.slots.get d
  have hlt : ∀ s, σ.at_ d = s → s ≠ .dead → d < tm.length := by
    intro s h hne
    rcases Nat.lt_or_ge d tm.length with h1 | h1
    · exact h1
    · have : σ.sl.length ≤ d := by rw [← hR.slots.length]; exact h1
      unfold F.at_ at h
      rw [List.getD_eq_getElem?_getD, List.getElem?_eq_none this] at h
      exact absurd h.symm hne
  constructor
  · intro x hx
    have h1 := hlt _ hx (by simp)
    unfold F.at_ at hx
    rw [hx] at hs
    have hv := slot_lit hs
    rw [List.getD_eq_getElem?_getD, List.getElem?_eq_getElem h1] at hv
    simp only [Option.getD_some] at hv
    simp [yielded, hg, hd, h1, hv]
  · intro hx
    have h1 := hlt _ hx (by simp)
    unfold F.at_ at hx
    rw [hx] at hs
    simp only [SlotR] at hs
    rw [List.getD_eq_getElem?_getD, List.getElem?_eq_getElem h1] at hs
    simp only [Option.getD_some] at hs
    simp [yielded, hg, hd, h1, hs, undef]
theorem guard_is {ops : Array Oper} {σ : F} {o : Oper} {b : Bool} (h : guardOf ops σ o = some b) {w : World} {Φ : Bool → Nat → Prop} {tm : List Value} {ρ : Nat → List Value} {B : List Nat} (hR : Rel w Φ σ tm ρ B) : Region.wanted o (yielded ops tm.toArray) = b := by
  unfold guardOf at h
  split at h
  · rename_i hg
    simp only [Option.some.injEq] at h
    subst h
    simp [Region.wanted, hg]
  · rename_i g b' hg
    split at h
    · rename_i og hog
      split at h
      · rename_i d hod
        obtain ⟨y1, y2⟩ := yielded_is hR hog hod
        split at h
        · rename_i x hx
          simp only [Option.some.injEq] at h
          subst h
          simp [Region.wanted, hg, y1 x hx]
        · rename_i hx
          simp only [Option.some.injEq] at h
          subst h
          simp [Region.wanted, hg, y2 hx]
        · cases h
      · cases h
    · cases h
theorem guard_congr {ops : Array Oper} {σ τ : F} {o : Oper} (h : ∀ t ∈ o.looksAt ops, τ.at_ t = σ.at_ t) : guardOf ops τ o = guardOf ops σ o := by
  unfold guardOf
  cases hg : o.guard with
  | none => rfl
  | some gb =>
    obtain ⟨g, b⟩ := gb
    simp only
    cases hog : ops[g]? with
    | none => rfl
    | some og =>
      simp only
      cases hod : og.dst with
      | none => rfl
      | some d =>
        simp only
        rw [h d (by simp [Oper.looksAt, hg, hog, hod])]
theorem rd_congr {ops : Array Oper} {σ τ : F} {o : Oper} (h : ∀ t ∈ o.looksAt ops, τ.at_ t = σ.at_ t) : ∀ x ∈ o.op.operands, τ.rd x = σ.rd x := by
  intro x hx
  cases x with
  | tmp t =>
    simp only [F.rd]
    apply h t
    unfold Oper.looksAt
    refine List.mem_append.mpr (.inl (List.mem_filterMap.mpr ⟨.tmp t, by simpa using hx, rfl⟩))
  | _ => rfl
def Kept (D : List Nat) (tm tm' : List Value) : Prop := ∀ i, i ∉ D → tm'[i]? = tm[i]?
theorem Kept.refl (D : List Nat) (tm : List Value) : Kept D tm tm := fun _ _ => rfl
theorem Kept.trans {D D1 D2 : List Nat} {a b c : List Value} (h1 : Kept D1 a b) (h2 : Kept D2 b c) (s1 : ∀ i ∈ D1, i ∈ D) (s2 : ∀ i ∈ D2, i ∈ D) : Kept D a c :=
  fun i hi => (h2 i fun h => hi (s2 i h)).trans (h1 i fun h => hi (s1 i h))
theorem Kept.mono {D D' : List Nat} {a b : List Value} (h : Kept D a b) (s : ∀ i ∈ D, i ∈ D') : Kept D' a b := fun i hi => h i fun h => hi (s i h)
theorem kept_put {tm tm' : List Value} {ds : List Deferred} {d : Option Nat} {v : Value} (h : (⟨tm'.toArray, ds⟩ : Act) = Act.put ⟨tm.toArray, ds⟩ d v) : Kept d.toList tm tm' := by
  rw [act_put] at h
  have e : tm' = putL tm d v := by
    have := congrArg (fun a : Act => a.tmps.toList) h
    simpa using this
  subst e
  intro i hi
  cases d with
  | none => rfl
  | some j =>
    have hj : j ≠ i := fun e => hi (by simp [e])
    simp only [putL]
    rw [List.getElem?_set_ne hj]
def Loc (P : Program) (ops : Array Oper) (n i : Nat) (R : Res) : Prop :=
  ∀ (τ : F) (w : World) (Φ : Bool → Nat → Prop) (tm : List Value) (ρ : Nat → List Value) (B : List Nat) (ds : List Deferred) (K : Act → World → Prop) (Q : Exit → Act → World → Prop), τ.sl.length = n → R.pre τ → Rel w Φ τ tm ρ B →
    (∀ tm' w' Φ' ρ' B', Rel w' Φ' (R.app τ) tm' ρ' B' → Next w Φ ρ B w' Φ' ρ' B' → K ⟨tm'.toArray, ds⟩ w') → wpOp P ops Q i K ⟨tm.toArray, ds⟩ w
theorem wpOp_wanted {ops : Array Oper} {i : Nat} {o : Oper} (ho : ops[i]? = some o) {a : Act} (hw : Region.wanted o (yielded ops a.tmps) = true) {w : World} {K : Act → World → Prop} {Q : Exit → Act → World → Prop} (h : o.wp P a w K Q) : wpOp P ops Q i K a w := by
  unfold wpOp
  simp only [ho, hw, if_true]
  exact .inl h
theorem wpOp_not {ops : Array Oper} {i : Nat} {o : Oper} (ho : ops[i]? = some o) {a : Act} (hw : Region.wanted o (yielded ops a.tmps) = false) {w : World} {K : Act → World → Prop} {Q : Exit → Act → World → Prop} (h : K (a.put o.dst undef) w) : wpOp P ops Q i K a w := by
  unfold wpOp
  simp only [ho, hw, Bool.false_eq_true, if_false]
  exact h
theorem map_eq_at {rs : List Nat} {σ τ : F} (h : rs.map τ.at_ = rs.map σ.at_) : ∀ t ∈ rs, τ.at_ t = σ.at_ t := by
  induction rs with
  | nil => intro t ht; cases ht
  | cons r rs ih =>
    simp only [List.map_cons, List.cons.injEq] at h
    intro t ht
    rcases List.mem_cons.mp ht with rfl | ht
    · exact h.1
    · exact ih h.2 t ht
theorem map_eq_look {rk : List Qry} {σ τ : F} (h : rk.map (Qry.ask τ.ob) = rk.map (Qry.ask σ.ob)) : ∀ q ∈ rk, q.ask τ.ob = q.ask σ.ob := by
  induction rk with
  | nil => intro t ht; cases ht
  | cons r rs ih =>
    simp only [List.map_cons, List.cons.injEq] at h
    intro t ht
    rcases List.mem_cons.mp ht with rfl | ht
    · exact h.1
    · exact ih h.2 t ht
theorem put_same {σ : F} {d : Option Nat} {s s' : S} (h : ∀ j, d = some j → j < σ.sl.length → s = s') : σ.put d s = σ.put d s' := by
  cases d with
  | none => rfl
  | some j =>
    simp only [F.put]
    by_cases hj : j < σ.sl.length
    · rw [h j rfl hj]
    · rw [List.set_eq_of_length_le (by omega), List.set_eq_of_length_le (by omega)]
theorem wp_put {o : Oper} {a : Act} {w : World} {K : Act → World → Prop} {Q : Exit → Act → World → Prop} (hK : ∀ a' w', K a' w' → a'.defers = a.defers) (h : o.wp P a w K Q) : o.wp P a w (fun a' w' => (∃ v, a' = a.put o.dst v) ∧ K a' w') Q := by
  unfold Oper.wp at *
  generalize (execOp a.eval o).run P w = r at *
  cases r with
  | ok n w' =>
    cases n <;> simp only [Oper.upon] at h ⊢
    case value u => exact ⟨⟨u, rfl⟩, h⟩
    case skip => exact ⟨⟨undef, rfl⟩, h⟩
    case defer d =>
      have := hK _ _ h
      have e : (({ a with defers := d :: a.defers } : Act).put o.dst undef).defers = d :: a.defers := by cases o.dst <;> rfl
      rw [e] at this
      exact absurd this (by simp)
    case enter f args =>
      refine Calls.mono h fun e w'' he => ?_
      cases e with
      | returned u => exact ⟨⟨u, rfl⟩, he⟩
      | panicked c => exact he
      | outgrown => exact he
    case row row args => exact Rows.mono h fun u w'' he => ⟨⟨u, rfl⟩, he⟩
  | halt x w' => cases x <;> simp only [Oper.upon] at h ⊢ <;> exact h
theorem OpOk.kept {P : Program} {o : Oper} {σ σ' : F} (h : OpOk P o σ σ') (w : World) (Φ : Bool → Nat → Prop) (tm : List Value) (ρ : Nat → List Value) (B : List Nat) (ds : List Deferred) (K : Act → World → Prop) (Q : Exit → Act → World → Prop) (hR : Rel w Φ σ tm ρ B)
    (hK : ∀ tm' w' Φ' ρ' B', Rel w' Φ' σ' tm' ρ' B' → Next w Φ ρ B w' Φ' ρ' B' → Kept o.dst.toList tm tm' → K ⟨tm'.toArray, ds⟩ w') : o.wp P ⟨tm.toArray, ds⟩ w K Q := by
  refine Oper.wp_mono ?_ (wp_put (K := fun a' w' => ∃ tm' Φ' ρ' B', a' = ⟨tm'.toArray, ds⟩ ∧ Rel w' Φ' σ' tm' ρ' B' ∧ Next w Φ ρ B w' Φ' ρ' B') ?_ (h w Φ tm ρ B ds _ Q hR fun tm' w' Φ' ρ' B' hR' hn _ => ⟨tm', Φ', ρ', B', rfl, hR', hn⟩))
  · rintro a' w' ⟨⟨v, hv⟩, tm', Φ', ρ', B', rfl, hR', hn⟩
    exact hK tm' w' Φ' ρ' B' hR' hn (kept_put hv)
  · rintro a' w' ⟨tm', Φ', ρ', B', rfl, _, _⟩
    rfl
theorem wpOp_put {P : Program} {ops : Array Oper} {i : Nat} {a : Act} {w : World} {K : Act → World → Prop} {Q : Exit → Act → World → Prop} (hK : ∀ a' w', K a' w' → a'.defers = a.defers) (h : wpOp P ops Q i K a w) :
    wpOp P ops Q i (fun a' w' => (∀ o, ops[i]? = some o → ∃ v, a' = a.put o.dst v) ∧ K a' w') a w := by
  unfold wpOp at *
  cases ho : ops[i]? with
  | none =>
    rw [ho] at h
    simp only at h ⊢
    exact ⟨(by intro o h; cases h), h⟩
  | some o =>
    rw [ho] at h
    simp only at h ⊢
    split
    · rename_i hw
      rw [if_pos hw] at h
      rcases h with h | h
      · refine .inl (Oper.wp_mono ?_ (wp_put hK h))
        rintro a' w' ⟨hv, hk⟩
        exact ⟨fun o' e => (by cases e; exact hv), hk⟩
      · exact .inr h
    · rename_i hw
      rw [if_neg hw] at h
      exact ⟨fun o' e => (by cases e; exact ⟨_, rfl⟩), h⟩
theorem wpOp_mono {P : Program} {ops : Array Oper} {i : Nat} {a : Act} {w : World} {K K' : Act → World → Prop} {Q : Exit → Act → World → Prop} (hk : ∀ a w, K a w → K' a w) (h : wpOp P ops Q i K a w) : wpOp P ops Q i K' a w := by
  unfold wpOp at *
  cases ho : ops[i]? with
  | none => rw [ho] at h; exact hk _ _ h
  | some o =>
    rw [ho] at h
    simp only at h ⊢
    split
    · rename_i hw
      rw [if_pos hw] at h
      rcases h with h | h
      · exact .inl (Oper.wp_mono hk h)
      · exact .inr h
    · rename_i hw
      rw [if_neg hw] at h
      exact hk _ _ h
theorem dstsO_mem {l : List Oper} {o : Oper} (h : o ∈ l) : ∀ i ∈ o.dst.toList, i ∈ dstsO l := fun i hi => List.mem_flatMap.mpr ⟨o, h, hi⟩
theorem Loc.kept {P : Program} {ops : Array Oper} {n i : Nat} {R : Res} (h : Loc P ops n i R) (τ : F) (w : World) (Φ : Bool → Nat → Prop) (tm : List Value) (ρ : Nat → List Value) (B : List Nat) (ds : List Deferred) (K : Act → World → Prop) (Q : Exit → Act → World → Prop) (hn : τ.sl.length = n) (hp : R.pre τ) (hR : Rel w Φ τ tm ρ B)
    (hK : ∀ tm' w' Φ' ρ' B', Rel w' Φ' (R.app τ) tm' ρ' B' → Next w Φ ρ B w' Φ' ρ' B' → Kept (dstsO ops.toList) tm tm' → K ⟨tm'.toArray, ds⟩ w') : wpOp P ops Q i K ⟨tm.toArray, ds⟩ w := by
  have h0 := h τ w Φ tm ρ B ds (fun a' w' => ∃ tm' Φ' ρ' B', a' = ⟨tm'.toArray, ds⟩ ∧ Rel w' Φ' (R.app τ) tm' ρ' B' ∧ Next w Φ ρ B w' Φ' ρ' B') Q hn hp hR fun tm' w' Φ' ρ' B' hR' hN => ⟨tm', Φ', ρ', B', rfl, hR', hN⟩
  cases ho : ops[i]? with
  | none =>
    unfold wpOp at h0 ⊢
    rw [ho] at h0 ⊢
    obtain ⟨tm', Φ', ρ', B', he, hR', hN⟩ := h0
    have e : tm = tm' := by
      have := congrArg (fun a : Act => a.tmps.toList) he
      simpa using this
    subst e
    exact hK _ _ _ _ _ hR' hN (Kept.refl _ _)
  | some o =>
    refine wpOp_mono ?_ (wpOp_put ?_ h0)
    · rintro a' w' ⟨hv, tm', Φ', ρ', B', rfl, hR', hN⟩
      obtain ⟨v, hv⟩ := hv o ho
      exact hK _ _ _ _ _ hR' hN ((kept_put hv).mono (dstsO_mem (by obtain ⟨h1, h2⟩ := Array.getElem?_eq_some_iff.mp ho; rw [← h2]; simp)))
    · rintro a' w' ⟨tm', Φ', ρ', B', rfl, _, _⟩
      rfl
theorem slots_map {w w' : World} {Φ Φ' : Bool → Nat → Prop} {ob ob' : List (Nat × O)} {ρ ρ' : Nat → List Value} {f : S → S} (hf : ∀ s v, SlotR w Φ ob ρ s v → SlotR w' Φ' ob' ρ' (f s) v) : ∀ {l : List S} {vs : List Value}, SlotRs w Φ ob ρ l vs → SlotRs w' Φ' ob' ρ' (l.map f) vs
  | [], vs, h => by simpa only [List.map_nil, SlotRs] using h
  | s :: r, vs, h => by
    simp only [SlotRs] at h
    obtain ⟨v, vs', rfl, h2, h3⟩ := h
    simp only [List.map_cons, SlotRs]
    exact ⟨v, vs', rfl, hf s v h2, slots_map hf h3⟩
theorem setO_slots {w : World} {Φ : Bool → Nat → Prop} {ob : List (Nat × O)} {ρ : Nat → List Value} {l : List S} {tm : List Value} (h : SlotRs w Φ ob ρ l tm) {d : Option Nat} {s : S} {v : Value} (hs : ∀ j, d = some j → j < tm.length → SlotR w Φ ob ρ s v) : SlotRs w Φ ob ρ (setO l d s) (putL tm d v) := by
  cases d with
  | none => exact h
  | some j =>
    by_cases hj : j < tm.length
    · exact h.set j s v (hs j rfl hj)
    · simp only [setO, putL]
      have hl := h.length
      rw [List.set_eq_of_length_le (by omega), List.set_eq_of_length_le (by omega)]
      exact h
theorem stepAt_zero {w : World} {x : C} {v : Value} {g o : Nat} {r : List C} {rv : List Value} (h : stepAt w x v 0 = some (g, o, r, rv)) : o = 0 ∧ ∃ ad n cap, v = .slice (some ad) n cap ∧ g = ad.block := by
  unfold stepAt at h
  split at h
  · rename_i r1 sz ad n cap h1 h2
    split at h
    · simp only [Option.some.injEq, Prod.mk.injEq, Nat.zero_mul] at h
      exact ⟨h.2.1.symm, ad, n, cap, rfl, h.1.symm⟩
    · cases h
  · cases h
def StayV (w w' : World) (ρ ρ' : Nat → List Value) (ob ob' : List (Nat × O)) (gv : List (Nat × List (Nat × Nat))) : Prop := ∀ x ∈ gv, ∀ o1 vs, look ob x.1 = some o1 → valsAt w o1.cells (ρ x.1) x.2 = some vs → ∃ o2, look ob' x.1 = some o2 ∧ valsAt w' o2.cells (ρ' x.1) x.2 = some vs
def StayP (w w' : World) (ρ ρ' : Nat → List Value) (ob ob' : List (Nat × O)) (gp : List (Nat × List (Nat × Nat))) : Prop := ∀ x ∈ gp, ∀ o1 g a, look ob x.1 = some o1 → addrAt w o1.cells (ρ x.1) x.2 = some (g, a) → ∃ o2, look ob' x.1 = some o2 ∧ addrAt w' o2.cells (ρ' x.1) x.2 = some (g, a)
def OpOkG (P : Program) (o : Oper) (α β : F) (gv gp : List (Nat × List (Nat × Nat))) : Prop :=
  ∀ (w : World) (Φ : Bool → Nat → Prop) (tm : List Value) (ρ : Nat → List Value) (B : List Nat) (ds : List Deferred) (K : Act → World → Prop) (Q : Exit → Act → World → Prop), Rel w Φ α tm ρ B →
    (∀ tm' w' Φ' ρ' B', Rel w' Φ' β tm' ρ' B' → Next w Φ ρ B w' Φ' ρ' B' → Same o.dst ρ ρ' → StayV w w' ρ ρ' α.ob β.ob gv → StayP w w' ρ ρ' α.ob β.ob gp → K ⟨tm'.toArray, ds⟩ w') → o.wp P ⟨tm.toArray, ds⟩ w K Q
theorem OpOk.g {o : Oper} {α β : F} (h : OpOk P o α β) : OpOkG P o α β [] [] :=
  fun w Φ tm ρ B ds K Q hR hK => h w Φ tm ρ B ds K Q hR fun tm' w' Φ' ρ' B' a b c => hK tm' w' Φ' ρ' B' a b c (fun _ hx => by cases hx) (fun _ hx => by cases hx)
theorem row_is {w : World} {Φ : Bool → Nat → Prop} {σ : F} {tm : List Value} {ρ : Nat → List Value} {B : List Nat} (h : Rel w Φ σ tm ρ B) {k : Nat} {p : List (Nat × Nat)} {n : Nat} (hr : rowLen σ.ob k p = some n) :
    ∃ o vs, look σ.ob k = some o ∧ valsAt w o.cells (ρ k) p = some vs ∧ vs.length = n ∧ (p ≠ [] → ∃ g a, addrAt w o.cells (ρ k) p = some (g, a)) := by
  obtain ⟨o, r, h1, h2, h3⟩ := rowLen_some hr
  obtain ⟨Bk, hB, hnd, hk⟩ := h.look h1
  obtain ⟨rv, Br, p1, p2, p3, p4⟩ := hk.path hnd h2
  exact ⟨o, rv, h1, p1, by rw [p3.length, h3], fun hp => by obtain ⟨g, a, _, _, _, e, _⟩ := p4 hp; exact ⟨g, a, e⟩⟩
theorem ghost_vals {w : World} {Φ : Bool → Nat → Prop} {σ : F} {tm : List Value} {ρ : Nat → List Value} {B : List Nat} (h : Rel w Φ σ tm ρ B) (ks : List Nat) : ∀ l : List S, ∃ gv, SlotRs w Φ σ.ob ρ (ghostsOf σ.ob ks l) gv
  | [] => ⟨[], by simp only [ghostsOf, SlotRs]⟩
  | s :: r => by
    obtain ⟨gv, ih⟩ := ghost_vals h ks r
    unfold ghostsOf
    split
    · rename_i hh; cases hh
    · rename_i k p _ _ _ r' hh
      cases hh
      split
      · rename_i hc
        split
        · rename_i n hn
          obtain ⟨o, vs, h1, h2, h3, _⟩ := row_is h hn
          exact ⟨_ :: gv, by simp only [SlotRs]; exact ⟨_, _, rfl, by simp only [SlotR]; exact ⟨o, vs, h1, h2, by omega, by rw [if_pos trivial]⟩, ih⟩⟩
        · exact ⟨gv, ih⟩
      · exact ⟨gv, ih⟩
    · rename_i k p _ r' hh
      cases hh
      split
      · rename_i hc
        simp only [Bool.and_eq_true, Bool.not_eq_true', List.isEmpty_eq_false_iff] at hc
        split
        · rename_i n hn
          obtain ⟨o, vs, h1, h2, h3, h4⟩ := row_is h hn
          obtain ⟨g, a, h5⟩ := h4 hc.2
          exact ⟨_ :: gv, by simp only [SlotRs]; exact ⟨_, _, rfl, by simp only [SlotR]; exact ⟨o, g, a, h1, h5, rfl⟩, ih⟩⟩
        · exact ⟨gv, ih⟩
      · exact ⟨gv, ih⟩
    · rename_i hh
      cases hh
      exact ⟨gv, ih⟩
theorem aliveV_is {w w' : World} {Φ Φ' : Bool → Nat → Prop} {α β : F} {tm' : List Value} {ρ ρ' : Nat → List Value} {B' : List Nat} (hR' : Rel w' Φ' β tm' ρ' B') (hα : ∀ k p n, rowLen α.ob k p = some n → ∃ o vs, look α.ob k = some o ∧ valsAt w o.cells (ρ k) p = some vs ∧ vs.length = n) :
    ∀ (gs as : List S) (vs : List Value), (∀ s ∈ gs, ∀ k p off n ag, s = .vw k p off n ag → off = 0 ∧ ag = true ∧ rowLen α.ob k p = some n) → SlotRs w Φ α.ob ρ gs vs → SlotRs w' Φ' β.ob ρ' as vs → StayV w w' ρ ρ' α.ob β.ob (aliveV β.ob gs as)
  | [], as, vs, _, _, _ => by cases as <;> (simp only [aliveV]; intro x hx; cases hx)
  | g :: gs, [], vs, _, _, _ => by
    have : aliveV β.ob (g :: gs) [] = [] := by cases g <;> rfl
    rw [this]
    intro x hx; cases hx
  | g :: gs, a :: as, vs, hg, h1, h2 => by
    simp only [SlotRs] at h1 h2
    obtain ⟨v, vs', rfl, h3, h4⟩ := h1
    obtain ⟨v2, vs2, he, h5, h6⟩ := h2
    simp only [List.cons.injEq] at he
    obtain ⟨rfl, rfl⟩ := he
    have ih := aliveV_is hR' hα gs as vs' (fun s hs => hg s (by simp [hs])) h4 h6
    unfold aliveV
    split
    · rename_i k p off n ag gs0 k' p' off' n' ag' as0 e1 e2
      have e1' := e1
      simp only [List.cons.injEq] at e1' e2
      obtain ⟨rfl, rfl⟩ := e1'
      obtain ⟨rfl, rfl⟩ := e2
      split
      · rename_i hc
        obtain ⟨rfl, rfl, rfl, rfl, rfl, hrow⟩ := hc
        obtain ⟨rfl, rfl, hlen⟩ := hg (.vw _ _ _ _ _) (List.mem_cons_self ..) _ _ _ _ _ rfl
        intro x hx
        rcases List.mem_cons.mp hx with rfl | hx
        · intro o1 vs1 hl hv
          obtain ⟨o2, vs2, q1, q2, q3⟩ := hα _ _ _ hlen
          rw [hl] at q1; cases q1
          rw [hv] at q2; cases q2
          obtain ⟨o3, vs3, r1, r2, r3, _⟩ := row_is hR' hrow
          simp only [SlotR, if_true, List.drop_zero] at h3 h5
          obtain ⟨oA, vA, a1, a2, a3, a4⟩ := h3
          obtain ⟨oB, vB, b1, b2, b3, b4⟩ := h5
          rw [hl] at a1; cases a1
          rw [hv] at a2; cases a2
          rw [r1] at b1; cases b1
          rw [r2] at b2; cases b2
          refine ⟨o3, r1, ?_⟩
          rw [r2]
          rw [List.take_of_length_le (by omega)] at a4 b4
          rw [a4] at b4
          simp only [Value.agg.injEq] at b4
          have := congrArg Array.toList b4
          simp only [] at this
          simpa using this.symm
        · exact ih x hx
      · exact ih
    · rename_i e1 e2
      simp only [List.cons.injEq] at e1 e2
      obtain ⟨rfl, rfl⟩ := e1
      obtain ⟨rfl, rfl⟩ := e2
      exact ih
    · rename_i hh
      exact absurd rfl (hh _ _ _ _ rfl)
theorem aliveP_is {w w' : World} {Φ Φ' : Bool → Nat → Prop} {α β : F} {ρ ρ' : Nat → List Value} :
    ∀ (gs as : List S) (vs : List Value), (∀ s ∈ gs, ∀ k p off, s = .ptr k p off → off = 0) → SlotRs w Φ α.ob ρ gs vs → SlotRs w' Φ' β.ob ρ' as vs → StayP w w' ρ ρ' α.ob β.ob (aliveP gs as)
  | [], as, vs, _, _, _ => by cases as <;> (simp only [aliveP]; intro x hx; cases hx)
  | g :: gs, [], vs, _, _, _ => by
    have : aliveP (g :: gs) [] = [] := by cases g <;> rfl
    rw [this]
    intro x hx; cases hx
  | g :: gs, a :: as, vs, hg, h1, h2 => by
    simp only [SlotRs] at h1 h2
    obtain ⟨v, vs', rfl, h3, h4⟩ := h1
    obtain ⟨v2, vs2, he, h5, h6⟩ := h2
    simp only [List.cons.injEq] at he
    obtain ⟨rfl, rfl⟩ := he
    have ih := aliveP_is (α := α) (β := β) gs as vs' (fun s hs => hg s (by simp [hs])) h4 h6
    unfold aliveP
    split
    · rename_i k p off gs0 k' p' off' as0 e1 e2
      have e1' := e1
      simp only [List.cons.injEq] at e1' e2
      obtain ⟨rfl, rfl⟩ := e1'
      obtain ⟨rfl, rfl⟩ := e2
      split
      · rename_i hc
        obtain ⟨rfl, rfl, rfl⟩ := hc
        obtain rfl := hg (.ptr _ _ _) (List.mem_cons_self ..) _ _ _ rfl
        intro x hx
        rcases List.mem_cons.mp hx with rfl | hx
        · intro o1 g1 a1 hl hv
          simp only [SlotR] at h3 h5
          obtain ⟨oA, gA, aA, q1, q2, q3⟩ := h3
          obtain ⟨oB, gB, aB, r1, r2, r3⟩ := h5
          rw [hl] at q1; cases q1
          rw [hv] at q2; cases q2
          rw [q3] at r3
          simp only [Nat.add_zero, Value.pointer.injEq, Option.some.injEq, Addr.mk.injEq, and_true] at r3
          obtain ⟨rfl, rfl⟩ := r3
          exact ⟨oB, r1, r2⟩
        · exact ih x hx
      · exact ih
    · rename_i e1 e2
      simp only [List.cons.injEq] at e1 e2
      obtain ⟨rfl, rfl⟩ := e1
      obtain ⟨rfl, rfl⟩ := e2
      exact ih
    · rename_i hh
      exact absurd rfl (hh _ _ _ _ rfl)
theorem ghosts_are (ob : List (Nat × O)) (ks : List Nat) : ∀ l : List S, ∀ s ∈ ghostsOf ob ks l, (∀ k p off n ag, s = .vw k p off n ag → ks.contains k = true ∧ off = 0 ∧ ag = true ∧ rowLen ob k p = some n) ∧ (∀ k p off, s = .ptr k p off → ks.contains k = true ∧ off = 0)
  | [], s, hs => by simp [ghostsOf] at hs
  | x :: r, s, hs => by
    have ih := ghosts_are ob ks r
    unfold ghostsOf at hs
    split at hs
    · rename_i hh; cases hh
    · rename_i k p _ _ _ r' hh
      cases hh
      split at hs
      · rename_i hc
        simp only [Bool.and_eq_true] at hc
        split at hs
        · rename_i n hn
          rcases List.mem_cons.mp hs with rfl | hs
          · refine ⟨?_, ?_⟩
            · intro k' p' off' n' ag' e
              simp only [S.vw.injEq] at e
              obtain ⟨rfl, rfl, rfl, rfl, rfl⟩ := e
              exact ⟨hc.1, rfl, rfl, hn⟩
            · intro k' p' off' e; cases e
          · exact ih s hs
        · exact ih s hs
      · exact ih s hs
    · rename_i k p _ r' hh
      cases hh
      split at hs
      · rename_i hc
        simp only [Bool.and_eq_true] at hc
        split at hs
        · rename_i n hn
          rcases List.mem_cons.mp hs with rfl | hs
          · refine ⟨?_, ?_⟩
            · intro k' p' off' n' ag' e; cases e
            · intro k' p' off' e
              simp only [S.ptr.injEq] at e
              obtain ⟨rfl, rfl, rfl⟩ := e
              exact ⟨hc.1, rfl⟩
          · exact ih s hs
        · exact ih s hs
      · exact ih s hs
    · rename_i hh
      cases hh
      exact ih s hs
theorem aliveV_sub {ob : List (Nat × O)} : ∀ (gs as : List S), ∀ x ∈ aliveV ob gs as, ∃ off n ag, S.vw x.1 x.2 off n ag ∈ gs
  | [], as, x, hx => by cases as <;> simp [aliveV] at hx
  | g :: gs, [], x, hx => by
    have : aliveV ob (g :: gs) [] = [] := by cases g <;> rfl
    rw [this] at hx; cases hx
  | g :: gs, a :: as, x, hx => by
    have ih := aliveV_sub (ob := ob) gs as x
    unfold aliveV at hx
    split at hx
    · rename_i k p off n ag gs0 k' p' off' n' ag' as0 e1 e2
      simp only [List.cons.injEq] at e1 e2
      obtain ⟨rfl, rfl⟩ := e1
      obtain ⟨rfl, rfl⟩ := e2
      split at hx
      · rcases List.mem_cons.mp hx with rfl | hx
        · exact ⟨off, n, ag, by simp⟩
        · obtain ⟨a1, a2, a3, a4⟩ := ih hx
          exact ⟨a1, a2, a3, by simp [a4]⟩
      · obtain ⟨a1, a2, a3, a4⟩ := ih hx
        exact ⟨a1, a2, a3, by simp [a4]⟩
    · rename_i e1 e2
      simp only [List.cons.injEq] at e1 e2
      obtain ⟨rfl, rfl⟩ := e1
      obtain ⟨rfl, rfl⟩ := e2
      obtain ⟨a1, a2, a3, a4⟩ := ih hx
      exact ⟨a1, a2, a3, by simp [a4]⟩
    · cases hx
theorem aliveP_sub : ∀ (gs as : List S), ∀ x ∈ aliveP gs as, ∃ off, S.ptr x.1 x.2 off ∈ gs
  | [], as, x, hx => by cases as <;> simp [aliveP] at hx
  | g :: gs, [], x, hx => by
    have : aliveP (g :: gs) [] = [] := by cases g <;> rfl
    rw [this] at hx; cases hx
  | g :: gs, a :: as, x, hx => by
    have ih := aliveP_sub gs as x
    unfold aliveP at hx
    split at hx
    · rename_i k p off gs0 k' p' off' as0 e1 e2
      simp only [List.cons.injEq] at e1 e2
      obtain ⟨rfl, rfl⟩ := e1
      obtain ⟨rfl, rfl⟩ := e2
      split at hx
      · rcases List.mem_cons.mp hx with rfl | hx
        · exact ⟨off, by simp⟩
        · obtain ⟨a1, a2⟩ := ih hx
          exact ⟨a1, by simp [a2]⟩
      · obtain ⟨a1, a2⟩ := ih hx
        exact ⟨a1, by simp [a2]⟩
    · rename_i e1 e2
      simp only [List.cons.injEq] at e1 e2
      obtain ⟨rfl, rfl⟩ := e1
      obtain ⟨rfl, rfl⟩ := e2
      obtain ⟨a1, a2⟩ := ih hx
      exact ⟨a1, by simp [a2]⟩
    · cases hx
theorem SlotRs.append {w : World} {Φ : Bool → Nat → Prop} {ob : List (Nat × O)} {ρ : Nat → List Value} : ∀ {l k : List S} {vs us : List Value}, SlotRs w Φ ob ρ l vs → SlotRs w Φ ob ρ k us → SlotRs w Φ ob ρ (l ++ k) (vs ++ us)
  | [], k, vs, us, h, h2 => by simp only [SlotRs] at h; subst h; exact h2
  | s :: r, k, vs, us, h, h2 => by
    simp only [SlotRs] at h
    obtain ⟨v, vs', rfl, h3, h4⟩ := h
    simp only [List.cons_append, SlotRs]
    exact ⟨v, vs' ++ us, rfl, h3, h4.append h2⟩
theorem SlotRs.cut {w : World} {Φ : Bool → Nat → Prop} {ob : List (Nat × O)} {ρ : Nat → List Value} : ∀ {n : Nat} {l : List S} {vs : List Value}, SlotRs w Φ ob ρ l vs → SlotRs w Φ ob ρ (l.take n) (vs.take n) ∧ SlotRs w Φ ob ρ (l.drop n) (vs.drop n)
  | 0, l, vs, h => by simp only [List.take_zero, List.drop_zero]; exact ⟨by simp only [SlotRs], h⟩
  | n + 1, [], vs, h => by simp only [SlotRs] at h; subst h; simp [SlotRs]
  | n + 1, s :: r, vs, h => by
    simp only [SlotRs] at h
    obtain ⟨v, vs', rfl, h3, h4⟩ := h
    obtain ⟨h5, h6⟩ := h4.cut (n := n)
    simp only [List.take_succ_cons, List.drop_succ_cons]
    exact ⟨by simp only [SlotRs]; exact ⟨v, _, rfl, h3, h5⟩, h6⟩
theorem wp_short {o : Oper} {tm gs : List Value} {ds : List Deferred} {w : World} {K K' : Act → World → Prop} {Q : Exit → Act → World → Prop} (hs : ∀ cs b, o.op ≠ .select cs b) (hx : ∀ t, .tmp t ∈ o.op.operands → t < tm.length) (hdf : ∀ a' w', K' a' w' → a'.defers = ds)
    (h : o.wp P ⟨(tm ++ gs).toArray, ds⟩ w K' (fun _ _ _ => False)) (hK : ∀ v w', K' (Act.put ⟨(tm ++ gs).toArray, ds⟩ o.dst v) w' → K (Act.put ⟨tm.toArray, ds⟩ o.dst v) w') : o.wp P ⟨tm.toArray, ds⟩ w K Q := by
  have he : execOp (⟨tm.toArray, ds⟩ : Act).eval o = execOp (⟨(tm ++ gs).toArray, ds⟩ : Act).eval o := by
    refine execOp_congr o hs fun x hxm => ?_
    cases x with
    | tmp t =>
      have := hx t hxm
      simp only [Act.eval]
      simp [List.getElem?_append_left this]
    | const v => rfl
    | func f => rfl
    | global g => rfl
  unfold Oper.wp at h ⊢
  rw [he]
  generalize (execOp (⟨(tm ++ gs).toArray, ds⟩ : Act).eval o).run P w = r at *
  cases r with
  | ok n w' =>
    cases n <;> simp only [Oper.upon] at h ⊢
    case value u => exact hK _ _ h
    case skip => exact hK _ _ h
    case defer d =>
      have := hdf _ _ h
      have e : (({ (⟨(tm ++ gs).toArray, ds⟩ : Act) with defers := d :: ds } : Act).put o.dst undef).defers = d :: ds := by cases o.dst <;> rfl
      rw [e] at this
      exact absurd this (by simp)
    case enter f args =>
      refine Calls.mono h fun e w'' he => ?_
      cases e with
      | returned u => exact hK _ _ he
      | panicked c => exact he.elim
      | outgrown => exact (by simpa [LetsOut] using he)
    case row row args => exact Rows.mono h fun u w'' he => hK _ _ he
  | halt x w' => cases x <;> simp only [Oper.upon] at h ⊢ <;> first | exact h.elim | exact (by simpa [LetsOut] using h)
theorem op_noSelect {e : Env} {run : FuncId → List S → List O → Option (V × List (Option O))} {σ σ' : F} {o : Oper} (h : opOf e run σ o = some σ') : ∀ cs b, o.op ≠ .select cs b := by
  intro cs b he
  unfold opOf at h
  rw [he] at h
  cases h
theorem effG_is (he : EnvOk P e) (hrun : RunOk P e run) {o : Oper} {rs ks : List Nat} {α β : F} {l : List S} (h : opOf e run { sl := α.sl ++ ghostsOf α.ob ks l, ob := α.ob } o = some β) (hr : inRange α.sl.length rs o.dst = true) (hrs : ∀ t, .tmp t ∈ o.op.operands → t ∈ rs) :
    OpOkG P o α { sl := β.sl.take α.sl.length, ob := β.ob } (aliveV β.ob (ghostsOf α.ob ks l) (β.sl.drop α.sl.length)) (aliveP (ghostsOf α.ob ks l) (β.sl.drop α.sl.length)) := by
  intro w Φ tm ρ B ds K Q hR hK
  obtain ⟨gv, hgv⟩ := ghost_vals hR ks l
  have hRg : Rel w Φ { sl := α.sl ++ ghostsOf α.ob ks l, ob := α.ob } (tm ++ gv) ρ B := ⟨hR.obs, hR.nd, hR.keys, hR.disj, hR.lt, hR.ltΦ, hR.sub, hR.slots.append hgv⟩
  have htl : tm.length = α.sl.length := hR.slots.length
  unfold inRange at hr
  simp only [Bool.and_eq_true] at hr
  have hop := (done_of he hrun o h).ok
  have hghost := ghosts_are α.ob ks l
  refine wp_short (gs := gv) (K' := fun a' w' => (∃ v, a' = Act.put ⟨(tm ++ gv).toArray, ds⟩ o.dst v) ∧ ∃ tm' Φ' ρ' B', a' = ⟨tm'.toArray, ds⟩ ∧ Rel w' Φ' β tm' ρ' B' ∧ Next w Φ ρ B w' Φ' ρ' B' ∧ Same o.dst ρ ρ') (op_noSelect h) (fun t ht => ?_) ?_ ?_ ?_
  · have := List.all_eq_true.mp hr.1 t (hrs t ht)
    simp only [decide_eq_true_eq] at this
    omega
  · rintro a' w' ⟨_, tm', Φ', ρ', B', rfl, _⟩; rfl
  · refine wp_put ?_ (hop w Φ (tm ++ gv) ρ B ds _ _ hRg fun tm' w' Φ' ρ' B' a b c => ⟨tm', Φ', ρ', B', rfl, a, b, c⟩)
    rintro a' w' ⟨tm', Φ', ρ', B', rfl, _⟩; rfl
  · rintro v w' ⟨_, tm', Φ', ρ', B', e1, hR', hN, hS⟩
    have etm : tm' = putL tm o.dst v ++ gv := by
      rw [act_put] at e1
      have := congrArg (fun a : Act => a.tmps.toList) e1
      simp only [] at this
      rw [← this]
      cases hd : o.dst with
      | none => rfl
      | some d =>
        rw [hd] at hr
        have hlt : d < tm.length := by have := hr.2; simp only [decide_eq_true_eq] at this; rw [htl]; exact this
        simp only [putL]
        rw [List.set_append_left _ _ hlt]
    have hcut := hR'.slots.cut (n := α.sl.length)
    have hpl : (putL tm o.dst v).length = α.sl.length := by cases o.dst <;> simp [putL, htl]
    rw [etm, List.take_left' hpl, List.drop_left' hpl] at hcut
    rw [act_put]
    refine hK _ w' Φ' ρ' B' ⟨hR'.obs, hR'.nd, hR'.keys, hR'.disj, hR'.lt, hR'.ltΦ, hR'.sub, hcut.1⟩ hN hS ?_ ?_
    · exact aliveV_is (Φ := Φ) (Φ' := Φ') (β := { sl := β.sl.take α.sl.length, ob := β.ob }) (tm' := putL tm o.dst v) (B' := B') ⟨hR'.obs, hR'.nd, hR'.keys, hR'.disj, hR'.lt, hR'.ltΦ, hR'.sub, hcut.1⟩ (fun k p n hn => by obtain ⟨o, vs, q1, q2, q3, _⟩ := row_is hR hn; exact ⟨o, vs, q1, q2, q3⟩) _ _ gv
        (fun s hs k p off n ag e => ((hghost s hs).1 k p off n ag e).2) hgv hcut.2
    · exact aliveP_is (Φ := Φ) (Φ' := Φ') (β := { sl := β.sl.take α.sl.length, ob := β.ob }) _ _ gv (fun s hs k p off e => ((hghost s hs).2 k p off e).2) hgv hcut.2
theorem toldBy_is (σ : F) (o : Oper) : o.dst = toldBy σ o ∨ o.dst = none := by
  unfold toldBy
  split
  · rename_i h _; exact .inr h
  · exact .inl rfl
theorem frame_eff {o : Oper} {d : Option Nat} (hd : o.dst = d ∨ o.dst = none) {rs ks : List Nat} {α β σ : F} {gv gp : List (Nat × List (Nat × Nat))} (hop : OpOkG P o α β gv gp) (hgv : ∀ x ∈ gv, ks.contains x.1 = true) (hgp : ∀ x ∈ gp, ks.contains x.1 = true) (hp : (Res.eff rs ks α d β gv gp).pre σ) {w : World} {Φ : Bool → Nat → Prop} {tm : List Value} {ρ : Nat → List Value} {B : List Nat} {ds : List Deferred} {K : Act → World → Prop} {Q : Exit → Act → World → Prop} (hR : Rel w Φ σ tm ρ B)
    (hK : ∀ tm' w' Φ' ρ' B', Rel w' Φ' ((Res.eff rs ks α d β gv gp).app σ) tm' ρ' B' → Next w Φ ρ B w' Φ' ρ' B' → K ⟨tm'.toArray, ds⟩ w') : o.wp P ⟨tm.toArray, ds⟩ w K Q := by
  simp only [Res.pre] at hp
  obtain ⟨hα, hclash, hnd⟩ := hp
  have hpk := pick_nodup (ks := ks) hR.keys
  obtain ⟨B1, B2, r1, r2, r3, r4⟩ := hR.obs.split (ob1 := pick σ.ob ks) (ob2 := dropAll ks σ.ob) hR.keys hR.nd hpk (dropAll_nodup hR.keys) (fun k o hl => pick_sub hR.keys hl) (fun k o hl => by
    rw [look_dropAll] at hl
    split at hl
    · cases hl
    · exact hl) (fun k hk hk' => by
    obtain ⟨o1, h1⟩ := look_of_mem hk
    obtain ⟨o2, h2⟩ := look_of_mem hk'
    rw [pick_look hR.keys] at h1
    rw [look_dropAll] at h2
    split at h1
    · rename_i hc; rw [if_pos hc] at h2; cases h2
    · cases h1)
  have m1 : ∀ b ∈ B1, b ∈ B := fun b hb => r4 b (List.mem_append.mpr (.inl hb))
  have m2 : ∀ b ∈ B2, b ∈ B := fun b hb => r4 b (List.mem_append.mpr (.inr hb))
  have hnd12 := r3
  rw [List.nodup_append] at hnd12
  obtain ⟨n1, n2, n3⟩ := hnd12
  have hRα : Rel w Φ α tm ρ B1 := by
    rw [← hα]
    exact ⟨r1, n1, hpk, fun b hb => hR.disj b (m1 b hb), fun b hb => hR.lt b (m1 b hb), hR.ltΦ, hR.sub, maskSl_slots (over_sub fun k o hl => pick_sub hR.keys hl) rs _ _ 0 hR.slots⟩
  have h1 := hop w Φ tm ρ B1 ds (fun a' w' => ∃ tm' Φ' ρ' B', a' = ⟨tm'.toArray, ds⟩ ∧ Rel w' Φ' β tm' ρ' B' ∧ Next w Φ ρ B1 w' Φ' ρ' B' ∧ Same o.dst ρ ρ' ∧ StayV w w' ρ ρ' α.ob β.ob gv ∧ StayP w w' ρ ρ' α.ob β.ob gp) Q hRα (fun tm' w' Φ' ρ' B' a b c d f => ⟨tm', Φ', ρ', B', rfl, a, b, c, d, f⟩)
  refine Oper.wp_mono ?_ (wp_put (by rintro a' w' ⟨tm', Φ', ρ', B', rfl, _⟩; rfl) h1)
  rintro a' w' ⟨⟨v, e1⟩, tm', Φ', ρ', B', rfl, hRβ, hN, hS, hSV, hSP⟩
  have etm0 : tm' = putL tm o.dst v := by
    rw [act_put] at e1
    have := congrArg Act.tmps e1
    simpa using this
  have hS : Same d ρ ρ' := by
    rcases hd with hd | hd
    · rw [← hd]; exact hS
    · rw [hd] at hS; exact fun k hk => hS k rfl
  obtain ⟨v, etm⟩ : ∃ v, tm' = putL tm d v := by
    rcases hd with hd | hd
    · exact ⟨v, by rw [← hd]; exact etm0⟩
    · rw [hd] at etm0
      cases d with
      | none => exact ⟨v, etm0⟩
      | some x => exact ⟨tm.getD x Go.undef, by rw [putL_same]; exact etm0⟩
  have hkβ : ∀ k ∈ β.ob.map (·.1), look (dropAll ks σ.ob) k = none := by
    intro k hk
    rw [look_dropAll]
    split
    · rfl
    · rename_i hc; exact hclash k hk (by simpa using hc)
  have hblk : ∀ b ∈ B2, w'.heap[b]? = w.heap[b]? := fun b hb => hN.block b (hR.lt b (m2 b hb)) (fun hb1 => n3 b hb1 b hb rfl)
  have hro : ∀ x b, Φ x b → w'.heap[b]? = w.heap[b]? := fun x b hb => hN.block b (hR.ltΦ x b hb) (fun hb1 => hR.disj b (m1 b hb1) x hb)
  -- ρ of the whole
  let ρ'' : Nat → List Value := fun k => if (β.ob.map (·.1)).contains k then ρ' k else ρ k
  have ρin : ∀ k ∈ β.ob.map (·.1), ρ'' k = ρ' k := fun k hk => by simp only [ρ'']; rw [if_pos (by simpa using hk)]
  have ρout : ∀ k, k ∉ β.ob.map (·.1) → ρ'' k = ρ k := fun k hk => by simp only [ρ'']; rw [if_neg (by simpa using hk)]
  have hdk : ∀ k ∈ (dropAll ks σ.ob).map (·.1), k ∉ β.ob.map (·.1) := fun k hk hk' => by
    obtain ⟨o2, h2⟩ := look_of_mem hk
    rw [hkβ k hk'] at h2
    cases h2
  have hobs : IsOb w' Φ' ρ'' (β.ob ++ dropAll ks σ.ob) (B' ++ B2) := by
    refine IsOb.append (hRβ.obs.keep (Keeps.refl _ _ _) ρin) (r2.keep ⟨hN.mono, hro, hblk⟩ fun k hk => ρout k (hdk k hk))
  have hapart : ∀ b ∈ B', b ∉ B2 := fun b hb hb2 => by
    rcases hN.own b hb with h | h
    · exact n3 b h b hb2 rfl
    · exact absurd (hR.lt b (m2 b hb2)) (Nat.not_lt.mpr h)
  have hnd' : (B' ++ B2).Nodup := by
    rw [List.nodup_append]
    exact ⟨hRβ.nd, n2, fun a ha b hb e => hapart a ha (by rw [e]; exact hb)⟩
  have hkeys : ((β.ob ++ dropAll ks σ.ob).map (·.1)).Nodup := by
    rw [List.map_append, List.nodup_append]
    refine ⟨hnd, dropAll_nodup hR.keys, fun a ha b hb e => ?_⟩
    subst e
    exact hdk a hb ha
  have hlook : ∀ k, look (β.ob ++ dropAll ks σ.ob) k = match look β.ob k with | some o => some o | none => look (dropAll ks σ.ob) k := fun k => look_append
  have hover : Over w w' Φ Φ' σ.ob (β.ob ++ dropAll ks σ.ob) ρ ρ'' (fun k p => stillV d ks β.ob k p || gv.contains (k, p)) (fun k p => stillP d ks β.ob k p || gp.contains (k, p)) := by
    have side : ∀ k ob1, ks.contains k = false → look σ.ob k = some ob1 → k ∉ β.ob.map (·.1) ∧ look (β.ob ++ dropAll ks σ.ob) k = some ob1 ∧ ∃ Bk, (∀ b ∈ Bk, w'.heap[b]? = w.heap[b]?) ∧ IsCs w Φ ob1.cells (ρ k) Bk := by
      intro k ob1 hc hl
      have hkb : k ∉ β.ob.map (·.1) := fun hk => by
        rw [hclash k hk (by simpa using hc)] at hl
        cases hl
      have hl2 : look (dropAll ks σ.ob) k = some ob1 := by rw [look_dropAll, hc]; exact hl
      obtain ⟨Bk, q1, q2⟩ := look_is r2 (dropAll_nodup hR.keys) hl2
      exact ⟨hkb, by rw [hlook, look_none_of hkb]; exact hl2, Bk, fun b hb => hblk b (q1 b hb), q2⟩
    have hαl : ∀ k, ks.contains k = true → look α.ob k = look σ.ob k := fun k hk => by
      rw [← hα]
      show look (pick σ.ob ks) k = _
      rw [pick_look hR.keys, if_pos hk]
    refine ⟨hN.mono, hro, ?_, ?_⟩
    · intro k p hk o1 vs hl hv
      rcases Bool.or_eq_true _ _ ▸ hk with hk | hk
      rotate_left
      · have hm : (k, p) ∈ gv := by simpa using hk
        obtain ⟨o2, h2, h3⟩ := hSV _ hm o1 vs (by rw [hαl k (hgv _ hm)]; exact hl) hv
        exact ⟨o2, by rw [hlook, h2], by rw [ρin k (look_mem h2)]; exact h3⟩
      unfold stillV at hk
      cases hc : ks.contains k with
      | false =>
        obtain ⟨q1, q2, Bk, q3, q4⟩ := side k o1 hc hl
        exact ⟨o1, q2, by rw [ρout k q1, (keep_vals q4 q3 p).1]; exact hv⟩
      | true =>
        rw [hc] at hk
        simp only [Bool.not_true, Bool.false_or, Bool.and_eq_true, Bool.not_eq_true', List.isEmpty_iff] at hk
        obtain ⟨⟨rfl, hnk⟩, hsome⟩ := hk
        obtain ⟨o2, ho2⟩ := Option.isSome_iff_exists.mp hsome
        refine ⟨o2, by rw [hlook, ho2], ?_⟩
        simp only [valsAt] at hv ⊢
        rw [ρin k (look_mem ho2), hS k hnk]
        exact hv
    · intro k p hk o1 g a hl hv
      rcases Bool.or_eq_true _ _ ▸ hk with hk | hk
      rotate_left
      · have hm : (k, p) ∈ gp := by simpa using hk
        obtain ⟨o2, h2, h3⟩ := hSP _ hm o1 g a (by rw [hαl k (hgp _ hm)]; exact hl) hv
        exact ⟨o2, by rw [hlook, h2], by rw [ρin k (look_mem h2)]; exact h3⟩
      unfold stillP at hk
      cases hc : ks.contains k with
      | false =>
        obtain ⟨q1, q2, Bk, q3, q4⟩ := side k o1 hc hl
        exact ⟨o1, q2, by rw [ρout k q1, (keep_vals q4 q3 p).2]; exact hv⟩
      | true =>
        rw [hc] at hk
        simp only [Bool.not_true, Bool.false_or, Bool.and_eq_true, Bool.not_eq_true', beq_iff_eq] at hk
        obtain ⟨⟨rfl, hnk⟩, hrow⟩ := hk
        unfold rowOk at hrow
        split at hrow
        · rename_i o2 ho2
          split at hrow
          · rename_i c' cr' hcells
            obtain ⟨r, hr⟩ := Option.isSome_iff_exists.mp hrow
            refine ⟨o2, by rw [hlook, ho2], ?_⟩
            rw [ρin k (look_mem ho2), hS k hnk]
            simp only [addrAt] at hv
            cases hx : o1.cells[0]? with
            | none => simp [hx] at hv
            | some x =>
              cases hv0 : (ρ k)[0]? with
              | none => simp [hx, hv0] at hv
              | some v0 =>
                simp only [hx, hv0] at hv
                cases hst : stepAt w x v0 0 with
                | none => simp [hst] at hv
                | some q =>
                  obtain ⟨g0, a0, r0, rv0⟩ := q
                  simp only [hst, Option.some.injEq, Prod.mk.injEq] at hv
                  obtain ⟨rfl, rfl⟩ := hv
                  obtain ⟨Bk, q1, q2⟩ := look_is hRβ.obs hRβ.keys ho2
                  rw [hS k hnk] at q2
                  have hx2 : o2.cells[0]? = some c' := by rw [hcells]; rfl
                  obtain ⟨Bx, q3, q4⟩ := q2.at_ hx2 hv0
                  obtain ⟨g1, a1, rv1, Br, s1, s2, _⟩ := stepAt_row q4 hr
                  simp only [addrAt, hx2, hv0, s1]
                  obtain ⟨z1, ad, n1, c1, z2, z3⟩ := stepAt_zero hst
                  obtain ⟨y1, ad', n2, c2, y2, y3⟩ := stepAt_zero s1
                  rw [z2] at y2
                  simp only [Value.slice.injEq, Option.some.injEq] at y2
                  rw [z1, y1, z3, y3, y2.1]
          · cases hrow
        · cases hrow
  refine hK tm' w' Φ' ρ'' (B' ++ B2) ⟨hobs, hnd', hkeys, ?_, ?_, hRβ.ltΦ, hRβ.sub, ?_⟩ ⟨hN.os, hN.tape, hN.output, hN.size, fun b hb hn => hN.block b hb (fun hb1 => hn (m1 b hb1)), ?_, hN.mono, fun x b hb => (hN.fresh x b hb).imp id (Or.imp (m1 b) id), hN.lent, ?_⟩
  · intro b hb x hx
    rcases List.mem_append.mp hb with hb | hb
    · exact hRβ.disj b hb x hx
    · rcases hN.fresh x b hx with h | h | h
      · exact hR.disj b (m2 b hb) x h
      · exact n3 b h b hb rfl
      · exact absurd (hR.lt b (m2 b hb)) (Nat.not_lt.mpr h)
  · intro b hb
    rcases List.mem_append.mp hb with hb | hb
    · exact hRβ.lt b hb
    · exact Nat.lt_of_lt_of_le (hR.lt b (m2 b hb)) hN.size
  · rw [etm]
    simp only [Res.app]
    refine setO_slots (slots_map (fun s v hs => ?_) hR.slots) fun j hj hlt => ?_
    · exact hover.sift hs
    · have hs := hRβ.slots.get j
      have C := carry_same (w' := w') (Φ' := Φ') (ρ' := ρ'') (ob' := β.ob ++ dropAll ks σ.ob) hRβ.obs hRβ.keys (Keeps.refl _ _ _) (fun k o1 hl => ⟨by rw [hlook, hl], ρin k (look_mem hl)⟩)
      have h2 := C.slot _ _ hs
      rw [etm, hj] at h2
      have e2 : (putL tm (some j) v).getD j undef = v := by
        simp only [putL, List.getD_eq_getElem?_getD, List.getElem?_set_self hlt, Option.getD_some]
      rw [e2] at h2
      simp only [Res.out, hj]
      exact h2
  · intro b hb
    rcases List.mem_append.mp hb with hb | hb
    · exact (hN.own b hb).imp (m1 b) id
    · exact .inl (m2 b hb)
  · intro j hj
    by_cases hk : j ∈ β.ob.map (·.1)
    · rw [ρin j hk]; exact hN.imp j hj
    · exact ρout j hk
theorem nodupB_is : ∀ {l : List Nat}, nodupB l = true → l.Nodup
  | [], _ => List.nodup_nil
  | x :: r, h => by
    simp only [nodupB, Bool.and_eq_true, Bool.not_eq_true', List.contains_eq_mem, decide_eq_false_iff_not] at h
    exact List.nodup_cons.mpr ⟨h.1, nodupB_is h.2⟩
theorem res_is (he : EnvOk P e) (hrun : RunOk P e run) {gh : Bool} {ops : Array Oper} {σ : F} {i : Nat} {o : Oper} {R : Res} (ho : ops[i]? = some o) (h : resOf e run gh ops σ o = some R) : R.pre σ ∧ Loc P ops σ.sl.length i R := by
  unfold resOf at h
  split at h
  · rename_i hg
    split at h
    · rename_i hs
      split at h
      · rename_i σ' hop
        simp only [Option.some.injEq] at h
        subst h
        refine ⟨⟨rfl, rfl⟩, ?_⟩
        intro τ w Φ tm ρ B ds K Q hlen hp hR hK
        simp only [Res.pre] at hp
        have hat := map_eq_at hp.1
        have hlk := map_eq_look hp.2
        obtain ⟨s, e1, e2⟩ := still_local (run := run) (τ := τ) o hs (rd_congr hat) hlk hop
        refine wpOp_wanted ho ?_ ((done_of he hrun o e2).ok w Φ tm ρ B ds K Q hR fun tm' w' Φ' ρ' B' a b _ => hK tm' w' Φ' ρ' B' ?_ b)
        · exact guard_is (b := true) (by rw [guard_congr hat]; exact hg) hR
        · simp only [Res.app]
          rw [put_same (s' := s)]
          · exact a
          · intro j hj hlt
            simp only [hj]
            rw [e1, hj]
            simp only [F.at_, F.put]
            rw [List.getD_eq_getElem?_getD, List.getElem?_set_self (by omega)]
            rfl
      · cases h
    · rename_i hs
      simp only at h
      have hguard : ∀ τ : F, τ.only (o.looksAt ops) (S.keyss ((o.looksAt ops).map σ.at_) ++ (σ.ob.map (·.1)).filter (newKey o.dst)) = σ.only (o.looksAt ops) (S.keyss ((o.looksAt ops).map σ.at_) ++ (σ.ob.map (·.1)).filter (newKey o.dst)) →
          ∀ {w : World} {Φ : Bool → Nat → Prop} {tm : List Value} {ρ : Nat → List Value} {B : List Nat}, Rel w Φ τ tm ρ B → Region.wanted o (yielded ops tm.toArray) = true := by
        intro τ hp1 w Φ tm ρ B hR
        -- the guard
        have hgα : guardOf ops (σ.only (o.looksAt ops) (S.keyss ((o.looksAt ops).map σ.at_) ++ (σ.ob.map (·.1)).filter (newKey o.dst))) o = some true := by
          unfold guardOf at hg ⊢
          cases hgd : o.guard with
          | none => rfl
          | some gb =>
            obtain ⟨g, b⟩ := gb
            rw [hgd] at hg
            simp only at hg ⊢
            cases hog : ops[g]? with
            | none => simp [hog] at hg
            | some og =>
              simp only [hog] at hg ⊢
              cases hod : og.dst with
              | none => simp [hod] at hg
              | some d =>
                simp only [hod] at hg ⊢
                have hmem : d ∈ o.looksAt ops := by simp [Oper.looksAt, hgd, hog, hod]
                have hmask : ∀ (ob : List (Nat × O)) (x : S), σ.at_ d = x → (∀ tv tp, S.ok tv tp x = true) → (maskSl ob (o.looksAt ops) 0 σ.sl).getD d .dead = x := by
                  intro ob x hx hok
                  have key : ∀ (l : List S) (i j : Nat), i + j = d → l.getD j .dead = x → (maskSl ob (o.looksAt ops) i l).getD j .dead = x := by
                    intro l
                    induction l with
                    | nil => intro i j _ h; simpa [maskSl] using h
                    | cons s r ih =>
                      intro i j hij h
                      cases j with
                      | zero =>
                        simp only [List.getD_cons_zero] at h
                        simp only [maskSl, List.getD_cons_zero]
                        rw [if_pos (by rw [show i = d by omega]; simpa using hmem), h]
                        unfold sift
                        rw [if_pos (hok _ _)]
                      | succ j =>
                        simp only [List.getD_cons_succ] at h
                        simp only [maskSl, List.getD_cons_succ]
                        exact ih (i + 1) j (by omega) h
                  exact key σ.sl 0 d (by omega) hx
                split at hg
                · rename_i x hx
                  have := hmask (pick σ.ob (S.keyss ((o.looksAt ops).map σ.at_) ++ (σ.ob.map (·.1)).filter (newKey o.dst))) _ hx (fun _ _ => rfl)
                  simp only [F.only, F.at_]
                  rw [this]
                  simpa using hg
                · rename_i hx
                  have := hmask (pick σ.ob (S.keyss ((o.looksAt ops).map σ.at_) ++ (σ.ob.map (·.1)).filter (newKey o.dst))) _ hx (fun _ _ => rfl)
                  simp only [F.only, F.at_]
                  rw [this]
                  simpa using hg
                · cases hg
        obtain ⟨B', hRo, _⟩ := hR.only (o.looksAt ops) (S.keyss ((o.looksAt ops).map σ.at_) ++ (σ.ob.map (·.1)).filter (newKey o.dst))
        rw [hp1] at hRo
        exact guard_is hgα hRo
      split at h
      · unfold effG at h
        split at h
        · rename_i β hop
          split at h
          · rename_i hc
            simp only [Option.some.injEq] at h
            subst h
            simp only [Bool.and_eq_true] at hc
            refine ⟨⟨rfl, fun k hk hn => ?_, nodupB_is hc.1.1.2⟩, ?_⟩
            · obtain ⟨x, hx, rfl⟩ := List.mem_map.mp hk
              have := List.all_eq_true.mp hc.1.1.1 x hx
              simp only [Bool.or_eq_true, Option.isNone_iff_eq_none] at this
              exact this.resolve_left (by simpa using hn)
            · intro τ w Φ tm ρ B ds K Q hlen hp hR hK
              have hghost := ghosts_are (σ.only (o.looksAt ops) (S.keyss ((o.looksAt ops).map σ.at_) ++ (σ.ob.map (·.1)).filter (newKey o.dst))).ob (S.keyss ((o.looksAt ops).map σ.at_) ++ (σ.ob.map (·.1)).filter (newKey o.dst)) σ.sl
              refine wpOp_wanted ho (hguard τ hp.1 hR) (frame_eff (toldBy_is σ o) (effG_is he hrun hop hc.1.2 fun t ht => by
                unfold Oper.looksAt
                exact List.mem_append_left _ (List.mem_filterMap.mpr ⟨_, by simpa using ht, rfl⟩)) (fun x hx => ?_) (fun x hx => ?_) hp hR hK)
              · obtain ⟨off, n, ag, hm⟩ := aliveV_sub _ _ x hx
                exact ((hghost _ hm).1 _ _ _ _ _ rfl).1
              · obtain ⟨off, hm⟩ := aliveP_sub _ _ x hx
                exact ((hghost _ hm).2 _ _ _ rfl).1
          · cases h
        · cases h
      split at h
      · rename_i β hop
        split at h
        · rename_i hc
          simp only [Option.some.injEq] at h
          subst h
          simp only [Bool.and_eq_true] at hc
          refine ⟨⟨rfl, fun k hk hn => ?_, nodupB_is hc.2⟩, ?_⟩
          · obtain ⟨x, hx, rfl⟩ := List.mem_map.mp hk
            have := List.all_eq_true.mp hc.1 x hx
            simp only [Bool.or_eq_true, Option.isNone_iff_eq_none] at this
            exact this.resolve_left (by simpa using hn)
          · intro τ w Φ tm ρ B ds K Q hlen hp hR hK
            exact wpOp_wanted ho (hguard τ hp.1 hR) (frame_eff (.inl rfl) (done_of he hrun o hop).ok.g (fun _ hx => by cases hx) (fun _ hx => by cases hx) hp hR hK)
        · cases h
      · cases h
  · rename_i hg
    simp only [Option.some.injEq] at h
    subst h
    refine ⟨⟨rfl, rfl⟩, ?_⟩
    intro τ w Φ tm ρ B ds K Q hlen hp hR hK
    simp only [Res.pre] at hp
    have hat := map_eq_at hp.1
    refine wpOp_not ho ?_ ?_
    · exact guard_is (b := false) (by rw [guard_congr hat]; exact hg) hR
    · rw [act_put]
      exact hK _ _ _ _ _ (hR.put o.dst (by simp only [SlotR])) (Next.refl _ _ _ _)
  · cases h
end
end Go.Proofs.YtckojpaklblnpaaGreatDoor.Ev
/- Regions that draw their order: whatever order is picked. -/
set_option linter.unusedVariables false
set_option linter.unusedSimpArgs false
namespace Go.Proofs.YtckojpaklblnpaaGreatDoor.Ev
open Go Go.RowKit
structure Deps (ops : Array Oper) (dm : List (List Nat)) : Prop where
  lt : ∀ j oj, ops[j]? = some oj → ∀ e ∈ oj.after, Region.binds .any e = true → e.on < j
  dep : ∀ j oj, ops[j]? = some oj → ∀ a ∈ dm.getD j [], ∃ e ∈ oj.after, Region.binds .any e = true ∧ (e.on = a ∨ a ∈ dm.getD e.on [])
theorem deps_of {ops : Array Oper} {dm : List (List Nat)} (h : depB ops dm = true) : Deps ops dm := by
  have key : ∀ j oj, ops[j]? = some oj → (oj.after.toList.all (fun e => !Region.binds .any e || decide (e.on < j)) &&
      (dm.getD j []).all fun a => oj.after.toList.any fun e => Region.binds .any e && (e.on == a || (dm.getD e.on []).contains a)) = true := by
    intro j oj hj
    have hlt : j < ops.size := (Array.getElem?_eq_some_iff.mp hj).1
    have := List.all_eq_true.mp h j (List.mem_range.mpr hlt)
    simpa only [hj] using this
  refine ⟨fun j oj hj e he hb => ?_, fun j oj hj a ha => ?_⟩
  · have h1 := key j oj hj
    simp only [Bool.and_eq_true] at h1
    have h2 := List.all_eq_true.mp h1.1 e (by simpa using he)
    simpa [hb] using h2
  · have h1 := key j oj hj
    simp only [Bool.and_eq_true] at h1
    have h2 := List.all_eq_true.mp h1.2 a ha
    obtain ⟨e, he, h3⟩ := List.any_eq_true.mp h2
    simp only [Bool.and_eq_true, Bool.or_eq_true, beq_iff_eq] at h3
    exact ⟨e, by simpa using he, h3.1, h3.2.imp id (fun h => by simpa using h)⟩
structure Left (ops : Array Oper) (dm : List (List Nat)) (listed : Array Bool) (l : List (Nat × Res)) : Prop where
  size : listed.size = ops.size
  mem : ∀ i, i < ops.size → (listed.getD i true = false ↔ i ∈ l.map (·.1))
  lt : ∀ x ∈ l, x.1 < ops.size
  nd : (l.map (·.1)).Nodup
  closed : ∀ j oj, ops[j]? = some oj → listed.getD j false = true → ∀ e ∈ oj.after, Region.binds .any e = true → listed.getD e.on false = true
  pairs : l.Pairwise (fun a b => a.1 ∈ dm.getD b.1 [] ∨ Indep a.2 b.2)
theorem dep_listed {ops : Array Oper} {dm : List (List Nat)} (hd : Deps ops dm) {listed : Array Bool} (hc : ∀ j oj, ops[j]? = some oj → listed.getD j false = true → ∀ e ∈ oj.after, Region.binds .any e = true → listed.getD e.on false = true) :
    ∀ (m j : Nat), j < m → ∀ oj, ops[j]? = some oj → (∀ e ∈ oj.after, Region.binds .any e = true → listed.getD e.on false = true) → ∀ a ∈ dm.getD j [], listed.getD a false = true := by
  intro m
  induction m with
  | zero => intro j hj; exact absurd hj (Nat.not_lt_zero _)
  | succ m ih =>
    intro j hjm oj hj hall a ha
    obtain ⟨e, he, hb, h | h⟩ := hd.dep j oj hj a ha
    · rw [← h]; exact hall e he hb
    · have hlt := hd.lt j oj hj e he hb
      have hjs : j < ops.size := (Array.getElem?_eq_some_iff.mp hj).1
      obtain ⟨oe, hoe⟩ : ∃ oe, ops[e.on]? = some oe := ⟨ops[e.on]'(by omega), by simp [show e.on < ops.size by omega]⟩
      exact ih e.on (by omega) oe hoe (hc e.on oe hoe (hall e he hb)) a h
theorem getD_true_false {listed : Array Bool} {i : Nat} (hi : i < listed.size) : listed.getD i true = listed.getD i false := by simp [hi]
theorem ready_some {ops : Array Oper} {dm : List (List Nat)} (hd : Deps ops dm) {listed : Array Bool} {l : List (Nat × Res)} (hL : Left ops dm listed l) (hne : l ≠ []) : Region.ready .any ops listed ≠ [] := by
  -- the least one that has not come up
  have hex : ∃ i, i < ops.size ∧ listed.getD i true = false := by
    cases l with
    | nil => exact absurd rfl hne
    | cons x r => exact ⟨x.1, hL.lt x (by simp), (hL.mem x.1 (hL.lt x (by simp))).mpr (by simp)⟩
  obtain ⟨i, ⟨hi, hu⟩, hmin⟩ : ∃ i, (i < ops.size ∧ listed.getD i true = false) ∧ ∀ j, j < i → ¬(j < ops.size ∧ listed.getD j true = false) := by
    have key : ∀ n i, i ≤ n → i < ops.size ∧ listed.getD i true = false → ∃ i, (i < ops.size ∧ listed.getD i true = false) ∧ ∀ j, j < i → ¬(j < ops.size ∧ listed.getD j true = false) := by
      intro n
      induction n with
      | zero => intro i hi h; exact ⟨i, h, fun j hj => by omega⟩
      | succ n ih =>
        intro i hi h
        by_cases hh : ∃ j, j < i ∧ (j < ops.size ∧ listed.getD j true = false)
        · obtain ⟨j, hj, h2⟩ := hh
          exact ih j (by omega) h2
        · exact ⟨i, h, fun j hj h2 => hh ⟨j, hj, h2⟩⟩
    obtain ⟨i, h⟩ := hex
    exact key i i (Nat.le_refl _) h
  have hoi : ops[i]? = some (ops[i]'hi) := by simp [hi]
  have : i ∈ Region.ready .any ops listed := by
    rw [mem_ready]
    refine ⟨hu, _, hoi, fun e he hb => ?_⟩
    have hlt := hd.lt i _ hoi e he hb
    have h1 := hmin e.on hlt
    have h2 : e.on < ops.size := by omega
    rw [← getD_true_false (by rw [hL.size]; exact h2)]
    cases hh : listed.getD e.on true with
    | true => rfl
    | false => exact absurd ⟨h2, hh⟩ h1
  intro h
  rw [h] at this
  cases this
theorem Seq.run {P : Program} {ops : Array Oper} {dm : List (List Nat)} (hd : Deps ops dm) {n : Nat} {τ : F} {ds : List Deferred} {Q : Exit → Act → World → Prop} :
    ∀ (fuel : Nat) (l : List (Nat × Res)) (listed : Array Bool) (σ : F) (w : World) (Φ : Bool → Nat → Prop) (tm : List Value) (ρ : Nat → List Value) (B : List Nat), l.length = fuel → Left ops dm listed l → (∀ x ∈ l, Loc P ops n x.1 x.2) → σ.sl.length = n → Seq σ l τ → Rel w Φ σ tm ρ B →
      (∀ tm' w' Φ' ρ' B', Rel w' Φ' τ tm' ρ' B' → Next w Φ ρ B w' Φ' ρ' B' → Kept (dstsO ops.toList) tm tm' → Q .normal ⟨tm'.toArray, ds⟩ w') → wpAny P .any ops Q fuel listed ⟨tm.toArray, ds⟩ w := by
  have fin : ∀ (listed : Array Bool) (σ : F) (w : World) (Φ : Bool → Nat → Prop) (tm : List Value) (ρ : Nat → List Value) (B : List Nat), Seq σ [] τ → Rel w Φ σ tm ρ B →
      (∀ tm' w' Φ' ρ' B', Rel w' Φ' τ tm' ρ' B' → Next w Φ ρ B w' Φ' ρ' B' → Kept (dstsO ops.toList) tm tm' → Q .normal ⟨tm'.toArray, ds⟩ w') → Q .normal ⟨tm.toArray, ds⟩ w := by
    intro listed σ w Φ tm ρ B hS hR hQ
    have hE : Eqv σ τ := hS
    obtain ⟨B', hR', hs⟩ := hR.perm (ob := τ.ob) hE.nd' (fun k => (hE.ob k).symm)
    rw [hE.sl] at hR'
    exact hQ _ _ _ _ _ hR' ((Next.refl w Φ ρ B).to_sub hs) (Kept.refl _ _)
  intro fuel
  induction fuel with
  | zero =>
    intro l listed σ w Φ tm ρ B hlen hL hloc hn hS hR hQ
    have hl : l = [] := List.length_eq_zero_iff.mp hlen
    subst hl
    refine ⟨?_, fin listed σ w Φ tm ρ B hS hR hQ⟩
    cases hr : Region.ready .any ops listed with
    | nil => rfl
    | cons i r =>
      have hm : i ∈ Region.ready .any ops listed := by rw [hr]; simp
      obtain ⟨hu, oi, hoi, _⟩ := mem_ready.1 hm
      have := (hL.mem i (Array.getElem?_eq_some_iff.mp hoi).1).mp hu
      simp at this
  | succ fuel ih =>
    intro l listed σ w Φ tm ρ B hlen hL hloc hn hS hR hQ
    have hne : l ≠ [] := by rintro rfl; simp at hlen
    refine ⟨fun h => absurd h (ready_some hd hL hne), fun j hj => ?_⟩
    obtain ⟨hu, oj, hoj, hall⟩ := mem_ready.1 hj
    have hjs : j < ops.size := (Array.getElem?_eq_some_iff.mp hoj).1
    obtain ⟨x, hx, hxj⟩ := List.mem_map.mp ((hL.mem j hjs).mp hu)
    obtain ⟨i, R⟩ := x
    simp only at hxj
    subst hxj
    obtain ⟨l1, l2, rfl⟩ := List.append_of_mem hx
    have hp := hL.pairs
    rw [List.pairwise_append] at hp
    have hnd := hL.nd
    simp only [List.map_append, List.map_cons] at hnd
    have hind : ∀ y ∈ l1, Indep y.2 R := by
      intro y hy
      rcases hp.2.2 y hy (i, R) (by simp) with h | h
      · exfalso
        have h1 := dep_listed hd hL.closed (i + 1) i (Nat.lt_succ_self i) oj hoj hall y.1 h
        have h2 := (hL.mem y.1 (hL.lt y (by simp [hy]))).mpr (List.mem_map_of_mem (by simp [hy]))
        rw [getD_true_false (by rw [hL.size]; exact hL.lt y (by simp [hy])), h1] at h2
        cases h2
      · exact h
    obtain ⟨s1, s2⟩ := Seq.front hR.keys hS hind
    refine (hloc (i, R) (by simp)).kept σ w Φ tm ρ B ds _ Q hn s1 hR fun tm' w' Φ' ρ' B' hR' hN hkp => ?_
    have hnotin : i ∉ (l1 ++ l2).map (·.1) := by
      rw [List.nodup_append] at hnd
      simp only [List.nodup_cons] at hnd
      simp only [List.map_append, List.mem_append, not_or]
      exact ⟨fun h => hnd.2.2 i h i (by simp) rfl, hnd.2.1.1⟩
    have hL' : Left ops dm (listed.setIfInBounds i true) (l1 ++ l2) := by
      refine ⟨by simp [hL.size], fun k hk => ?_, fun y hy => hL.lt y (by simp at hy ⊢; rcases hy with h | h <;> simp [h]), ?_, fun k ok hok hl e he hb => ?_, ?_⟩
      · by_cases hki : i = k
        · subst hki
          constructor
          · intro h; simp [show i < listed.size by rw [hL.size]; exact hk] at h
          · intro h; exact absurd h hnotin
        · rw [getD_set_ne true hki, hL.mem k hk]
          simp only [List.map_append, List.map_cons, List.mem_append, List.mem_cons]
          constructor
          · rintro (h | h | h)
            · exact .inl h
            · exact absurd h.symm hki
            · exact .inr h
          · rintro (h | h)
            · exact .inl h
            · exact .inr (.inr h)
      · rw [List.map_append]
        exact hnd.sublist (List.Sublist.append (List.Sublist.refl _) (List.sublist_cons_self _ _))
      · by_cases hki : i = k
        · subst hki
          rw [hoj] at hok
          cases hok
          exact getD_set_true (hall e he hb)
        · rw [getD_set_ne false hki] at hl
          exact getD_set_true (hL.closed k ok hok hl e he hb)
      · rw [List.pairwise_append]
        exact ⟨hp.1, (List.pairwise_cons.mp hp.2.1).2, fun a ha b hb => hp.2.2 a ha b (by simp [hb])⟩
    exact ih (l1 ++ l2) _ (R.app σ) w' Φ' tm' ρ' B' (by simp at hlen ⊢; omega) hL' (fun y hy => hloc y (by simp at hy ⊢; rcases hy with h | h <;> simp [h])) (by rw [app_length]; exact hn) s2 hR' fun tm2 w2 Φ2 ρ2 B2 a b c => hQ _ _ _ _ _ a (hN.trans b) (hkp.trans c (fun _ h => h) (fun _ h => h))
section
variable {P : Program} {e : Env} {run : FuncId → List S → List O → Option (V × List (Option O))}
theorem drawRun_is (he : EnvOk P e) (hrun : RunOk P e run) {gh : Bool} {ops : Array Oper} : ∀ (os : List Oper) (i : Nat) (σ τ : F) (l : List (Nat × Res)), (∀ j, os[j]? = ops[i + j]?) → drawRun e run gh ops i os σ = some (l, τ) → (σ.ob.map (·.1)).Nodup →
    Seq σ l τ ∧ (∀ x ∈ l, Loc P ops σ.sl.length x.1 x.2) ∧ l.map (·.1) = (List.range os.length).map (i + ·)
  | [], i, σ, τ, l, _, h, hn => by
    simp only [drawRun, Option.some.injEq, Prod.mk.injEq] at h
    obtain ⟨rfl, rfl⟩ := h
    exact ⟨Eqv.refl hn, by simp, by simp⟩
  | o :: os, i, σ, τ, l, hos, h, hn => by
    simp only [drawRun] at h
    split at h
    · rename_i R hR
      split at h
      · rename_i l' τ' hl
        simp only [Option.some.injEq, Prod.mk.injEq] at h
        obtain ⟨rfl, rfl⟩ := h
        have ho : ops[i]? = some o := by have := hos 0; simpa using this.symm
        obtain ⟨h1, h2⟩ := res_is he hrun ho hR
        obtain ⟨h3, h4, h5⟩ := drawRun_is he hrun os (i + 1) (R.app σ) τ' l' (fun j => by have := hos (j + 1); simpa [Nat.add_assoc, Nat.add_comm 1 j] using this) hl (app_nd hn h1)
        refine ⟨⟨h1, h3⟩, fun x hx => ?_, ?_⟩
        · rcases List.mem_cons.mp hx with rfl | hx
          · exact h2
          · have := h4 x hx
            rw [app_length] at this
            exact this
        · simp only [List.map_cons, h5, List.length_cons, List.range_succ_eq_map, List.map_map, Nat.add_zero, List.cons.injEq, true_and]
          exact List.map_congr_left fun k _ => by simp; omega
      · cases h
    · cases h
theorem pairs_of {dm : List (List Nat)} : ∀ {l : List (Nat × Res)}, pairsB dm l = true → l.Pairwise (fun a b => a.1 ∈ dm.getD b.1 [] ∨ Indep a.2 b.2)
  | [], _ => List.Pairwise.nil
  | (i, R) :: l, h => by
    simp only [pairsB, Bool.and_eq_true] at h
    refine List.Pairwise.cons (fun b hb => ?_) (pairs_of h.2)
    have := List.all_eq_true.mp h.1 b hb
    simp only [Bool.or_eq_true] at this
    exact this.imp (fun h => by simpa using h) indep_of
theorem stillH_get : ∀ {hs : List (Nat × Nat)} {l : List (Nat × Res)}, stillH hs l → ∀ i k, hs.contains (i, k) = true → ∃ x, l[i]? = some x ∧ stillE x.2 k
  | [], l, _, i, k, h => by simp at h
  | (i', k') :: hs, l, hh, i, k, h => by
    simp only [stillH] at hh
    simp only [List.contains_cons, Bool.or_eq_true, beq_iff_eq, Prod.mk.injEq] at h
    rcases h with ⟨rfl, rfl⟩ | h
    · cases hx : l[i]? with
      | none => rw [hx] at hh; exact hh.1.elim
      | some x => rw [hx] at hh; exact ⟨x, rfl, hh.1⟩
    · exact stillH_get hh.2 i k h
theorem stillQ_get : ∀ {hs : List (Nat × Nat)} {l : List (Nat × Res)}, stillQ hs l → ∀ i j, hs.contains (i, j) = true → ∃ x y, l[i]? = some x ∧ l[j]? = some y ∧ seesE x.2 y.2
  | [], l, _, i, j, h => by simp at h
  | (i', j') :: hs, l, hh, i, j, h => by
    simp only [stillQ] at hh
    simp only [List.contains_cons, Bool.or_eq_true, beq_iff_eq, Prod.mk.injEq] at h
    rcases h with ⟨rfl, rfl⟩ | h
    · cases hx : l[i]? with
      | none => rw [hx] at hh; exact hh.1.elim
      | some x =>
        cases hy : l[j]? with
        | none => rw [hx, hy] at hh; exact hh.1.elim
        | some y => rw [hx, hy] at hh; exact ⟨x, y, rfl, rfl, hh.1⟩
    · exact stillQ_get hh.2 i j h
theorem pairsH_of {hs hq : List (Nat × Nat)} {dm : List (List Nat)} : ∀ {l : List (Nat × Res)}, (∀ x ∈ l, ∀ k, hs.contains (x.1, k) = true → Still x.2 k) → (∀ x ∈ l, ∀ y ∈ l, hq.contains (x.1, y.1) = true → Sees x.2 y.2) → pairsH hs hq dm l = true → l.Pairwise (fun a b => a.1 ∈ dm.getD b.1 [] ∨ Indep a.2 b.2)
  | [], _, _, _ => List.Pairwise.nil
  | (i, R) :: l, hs', hq', h => by
    simp only [pairsH, Bool.and_eq_true] at h
    refine List.Pairwise.cons (fun b hb => ?_) (pairsH_of (fun x hx => hs' x (by simp [hx])) (fun x hx y hy => hq' x (by simp [hx]) y (by simp [hy])) h.2)
    have := List.all_eq_true.mp h.1 b hb
    simp only [Bool.or_eq_true] at this
    exact this.imp (fun h => by simpa using h) (indepH_of (hs' (i, R) (by simp)) (hs' b (by simp [hb])) (hq' (i, R) (by simp) b (by simp [hb])) (hq' b (by simp [hb]) (i, R) (by simp)))
theorem drawOk_of {ops : Array Oper} {l : List (Nat × Res)} (hids : l.map (·.1) = List.range ops.size) (h : DrawOk ops l) : depB ops (depMat ops.toList) = true ∧ l.Pairwise (fun a b => a.1 ∈ (depMat ops.toList).getD b.1 [] ∨ Indep a.2 b.2) := by
  have at_ : ∀ x ∈ l, l[x.1]? = some x := by
    intro x hx
    obtain ⟨j, hj⟩ := List.mem_iff_getElem?.mp hx
    have e : x.1 = j := by
      have h3 : (l.map (·.1))[j]? = some x.1 := by rw [List.getElem?_map, hj]; rfl
      rw [hids] at h3
      rw [List.getElem?_range (by
        have := (List.getElem?_eq_some_iff.mp h3).1
        simpa using this)] at h3
      exact (Option.some.inj h3).symm
    rw [e]
    exact hj
  have key : ∀ hs hq : List (Nat × Nat), stillH hs l → stillQ hq l → drawH hs hq ops l = true → depB ops (depMat ops.toList) = true ∧ l.Pairwise (fun a b => a.1 ∈ (depMat ops.toList).getD b.1 [] ∨ Indep a.2 b.2) := by
    intro hs hq h1 h3 h2
    unfold drawH at h2
    simp only [Bool.and_eq_true] at h2
    refine ⟨h2.1.2, pairsH_of (fun x hx k hk => ?_) (fun x hx y hy hk => ?_) h2.2⟩
    · obtain ⟨y, hy, hs⟩ := stillH_get h1 _ k hk
      rw [at_ x hx] at hy
      cases hy
      exact still_of hs
    · obtain ⟨x', y', hx', hy', hs⟩ := stillQ_get h3 _ _ hk
      rw [at_ x hx] at hx'
      rw [at_ y hy] at hy'
      cases hx'
      cases hy'
      exact sees_of hs
  cases h with
  | b h =>
    unfold drawB at h
    simp only [Bool.and_eq_true] at h
    exact ⟨h.1.2, pairs_of h.2⟩
  | h hs h1 h2 => exact key hs [] h1 trivial h2
  | q hs hq h1 h3 h2 => exact key hs hq h1 h3 h2
theorem ok_draw (he : EnvOk P e) (hrun : RunOk P e run) (hm : P.follows .mixedOrders = true) {id : Nat} {gh : Bool} {ops : Array Oper} {σ τ : F} {l : List (Nat × Res)} (h : drawRun e run gh ops 0 ops.toList σ = some (l, τ)) (hB : DrawOk ops l)
    (w : World) (Φ : Bool → Nat → Prop) (tm : List Value) (ρ : Nat → List Value) (B : List Nat) (ds : List Deferred) (Q : Exit → Act → World → Prop) (hR : Rel w Φ σ tm ρ B)
    (hQ : ∀ tm' w' Φ' ρ' B', Rel w' Φ' τ tm' ρ' B' → Next w Φ ρ B w' Φ' ρ' B' → Kept (dstsO ops.toList) tm tm' → Q .normal ⟨tm'.toArray, ds⟩ w') : (Code.region id ops true).wp P Q ⟨tm.toArray, ds⟩ w := by
  obtain ⟨h1, h2, h3⟩ := drawRun_is he hrun ops.toList 0 σ τ l (fun j => by simp) h hR.keys
  have hids : l.map (·.1) = List.range ops.size := by
    rw [h3]
    simp
  obtain ⟨hdb, hpb⟩ := drawOk_of hids hB
  have hlen : l.length = ops.size := by
    have := congrArg List.length hids
    simpa using this
  refine wp_region_any hm ?_
  rw [← hlen]
  have hR' : Rel { w with drawn := w.drawn + 1 } Φ σ tm ρ B := hR.keep (w' := { w with drawn := w.drawn + 1 }) ⟨fun _ _ h => h, fun _ _ _ => rfl, fun _ _ => rfl⟩ (Nat.le_refl _)
  refine Seq.run (deps_of hdb) l.length l _ σ _ Φ tm ρ B rfl ?_ h2 rfl h1 hR' fun tm' w' Φ' ρ' B' a b c => hQ tm' w' Φ' ρ' B' a ?_ c
  · refine ⟨by simp [hlen], fun i hi => ?_, fun x hx => ?_, by rw [hids]; exact List.nodup_range, fun j oj _ hl => ?_, hpb⟩
    · rw [hids]
      simp only [List.mem_range, hi, iff_true]
      simp [hlen, hi]
    · have : x.1 ∈ l.map (·.1) := List.mem_map_of_mem hx
      rw [hids] at this
      simpa using this
    · simp only [Array.getD_eq_getD_getElem?] at hl
      by_cases hj : j < l.length
      · simp [hj] at hl
      · simp [hj] at hl
  · have n0 : Next w Φ ρ B { w with drawn := w.drawn + 1 } Φ ρ B := ⟨rfl, rfl, rfl, Nat.le_refl _, fun _ _ _ => rfl, fun _ h => .inl h, fun _ _ h => h, fun _ _ h => .inl h, fun _ h => .inl h, fun _ _ => rfl⟩
    exact n0.trans b
end
end Go.Proofs.YtckojpaklblnpaaGreatDoor.Ev
