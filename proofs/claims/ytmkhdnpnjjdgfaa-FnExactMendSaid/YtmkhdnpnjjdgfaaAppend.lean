/- append: the evaluator's side. -/
import Derived.Test.YtmkhdnpnjjdgfaaGrow
set_option linter.unusedVariables false
set_option linter.unusedSimpArgs false
namespace Go.Proofs.Ytmkhdnpnjjdgfaa.Ev
open Go Go.RowKit

/-- The slice that is grown, as rows of cells; and what comes of it. -/
theorem appendTo_is {c c' : C} {m : Nat} {rows : List (List C)} (h : appendTo c m rows = some c') :
    ∃ (sz : Nat) (old : List (List C)), (sz = m ∨ sz = 0) ∧ (∀ (w : World) (Φ : Bool → Nat → Prop) (v : Value) (B : List Nat), IsC w Φ c v B → OwnSl w sz old.length v B (fun vs B' => IsCRows w Φ sz old vs B')) ∧ c'.len = some (old.length + rows.length) ∧
      ∀ (w : World) (Φ : Bool → Nat → Prop) (v : Value) (B : List Nat), OwnSl w m (old.length + rows.length) v B (fun vs B' => IsCRows w Φ m (old ++ rows) vs B') → IsC w Φ c' v B := by
  unfold appendTo at h
  split at h
  · rename_i sz old
    split at h
    · rename_i hsz
      refine ⟨sz, old.map (·.map C.ow), hsz, ?_, ?_, ?_⟩
      · intro w Φ v B hc
        simp only [IsC, IsO] at hc
        rw [List.length_map]
        exact hc.imp (fun _ _ => rfl) fun vs B' _ k => k.cells
      · split at h
        · rename_i l hl
          simp only [Option.some.injEq] at h
          subst h
          simp [C.len, ownedRows_length hl]
        · simp only [Option.some.injEq] at h
          subst h
          simp [C.len]
      · intro w Φ v B hc
        split at h
        · rename_i l hl
          simp only [Option.some.injEq] at h
          subst h
          simp only [IsC, IsO]
          rw [List.length_append, ownedRows_length hl]
          rw [List.length_map] at hc
          refine hc.imp (fun _ _ => rfl) fun vs B' _ k => ?_
          have hall : ownedRows (old.map (·.map C.ow) ++ rows) = some (old ++ l) := by
            have h1 : ∀ r : List T, ownedAll (r.map C.ow) = some r := by
              intro r
              induction r with
              | nil => simp [ownedAll]
              | cons t r ih => simp [ownedAll, C.owned, ih]
            clear hc k
            induction old with
            | nil => simpa using hl
            | cons r old ih => simp only [List.map_cons, List.cons_append, ownedRows, h1, ih]
          exact IsCRows.ofOwned m _ _ vs B' hall k
        · simp only [Option.some.injEq] at h
          subst h
          simp only [IsC]
          rw [List.length_append]
          exact hc
    · cases h
  · rename_i sz old
    split at h
    · rename_i hsz
      simp only [Option.some.injEq] at h
      subst h
      refine ⟨sz, old, hsz, ?_, by simp [C.len], ?_⟩
      · intro w Φ v B hc
        simp only [IsC] at hc
        exact hc
      · intro w Φ v B hc
        simp only [IsC]
        rw [List.length_append]
        exact hc
    · cases h
  · cases h

section
variable {P : Program} {e : Env}

theorem append_core (he : EnvOk P e) {σ : F} {w : World} {Φ : Bool → Nat → Prop} {tm : List Value} {ρ : Nat → List Value} {B Bc L : List Nat} (hR : Rel w Φ σ tm ρ B) {st xt el ty : TypeId} {tv v : TV} {x s : Value} {rows old : List (List C)} {news : List Value} {sz : Nat}
    (ht : e.ty st = some tv) (htd : tv.desc = .slice el) (hv : e.ty el = some v) (hb : 0 < v.bytes) (hs : Src P w xt el v.cells x rows.length news) (hsz : sz = v.cells ∨ sz = 0) (hown : OwnSl w sz old.length s Bc (fun vs B' => IsCRows w Φ sz old vs B')) (hrows : IsCRows w Φ v.cells rows news L)
    (hBc : Loose w Φ B Bc) (hL : Loose w Φ B L) (hd : ∀ b ∈ Bc, b ∉ L) (hbytes : (old.length + rows.length) * v.bytes ≤ maxBytes) :
    ∃ v' w' L', (Builtin.append_ #[st, xt] ty #[s, x]).run P w = .ok v' w' ∧ OwnSl w' v.cells (old.length + rows.length) v' L' (fun vs B' => IsCRows w' Φ v.cells (old ++ rows) vs B') ∧ Rel w' Φ σ tm ρ B ∧ Loose w' Φ B L' ∧ w'.os = w.os ∧ w'.tape = w.tape ∧ w'.output = w.output ∧ w.heap.size ≤ w'.heap.size ∧
      (∀ b, b < w.heap.size → b ∉ Bc → w'.heap[b]? = w.heap[b]?) ∧ (∀ b ∈ L', b ∈ Bc ∨ b ∈ L ∨ w.heap.size ≤ b) := by
  have hpos := he.pos hv
  have hlen := hs.len
  have hneed : old.length + rows.length ≤ 140737488355328 := by
    have : (old.length + rows.length) * 1 ≤ (old.length + rows.length) * v.bytes := Nat.mul_le_mul_left _ hb
    simp only [maxBytes] at hbytes
    omega
  -- growing
  have grow : ∀ (base : Option Addr) (cap : Nat) (olds cur : List Value) (B' : List Nat), ¬ old.length + rows.length ≤ cap → s = .slice base old.length cap → IsCRows w Φ v.cells old cur B' → olds = cur.take (old.length * v.cells) → olds.length = old.length * v.cells → (∀ b ∈ B', b ∈ Bc) → B'.Nodup →
      (Builtin.firstCells v.cells old.length (.slice base old.length cap)).run P w.drew = .ok olds.toArray w.drew →
      ∃ v' w' L', (Builtin.append_ #[st, xt] ty #[s, x]).run P w = .ok v' w' ∧ OwnSl w' v.cells (old.length + rows.length) v' L' (fun vs B' => IsCRows w' Φ v.cells (old ++ rows) vs B') ∧ Rel w' Φ σ tm ρ B ∧ Loose w' Φ B L' ∧ w'.os = w.os ∧ w'.tape = w.tape ∧ w'.output = w.output ∧ w.heap.size ≤ w'.heap.size ∧
      (∀ b, b < w.heap.size → b ∉ Bc → w'.heap[b]? = w.heap[b]?) ∧ (∀ b ∈ L', b ∈ Bc ∨ b ∈ L ∨ w.heap.size ≤ b) := by
    intro base cap olds cur B' hn hsv hold e1 e2 hB' hnd hf
    obtain ⟨z, hz, hrun⟩ := run_append_grow' he (ty := ty) ht htd hv hb hs base old.length cap hn hbytes hf
    rw [← hsv] at hrun
    generalize hgc : grownCap w (old.length + rows.length) cap el = gc at hrun
    have hge : old.length + rows.length ≤ gc := by rw [← hgc]; exact grownCap_ge w _ _ _
    have hle : gc ≤ maxLen := by rw [← hgc]; exact grownCap_le_maxLen w _ _ _ (by simp only [maxLen]; omega)
    generalize harr : olds.toArray ++ news.toArray ++ Builtin.zeroCells z.cells (gc - (old.length + rows.length)) = arr at hrun
    have hg : Grew w (w.drew.alloc (.cells arr el)) w.heap.size (.cells arr el) := ⟨rfl, alloc_get w.drew _, fun b h => alloc_old w.drew _ h, alloc_size w.drew _, rfl, rfl, rfl⟩
    have hl1 : arr.toList = olds ++ (news ++ (Builtin.zeroCells z.cells (gc - (old.length + rows.length))).toList) := by rw [← harr]; simp
    have hLL : Loose w Φ B (B' ++ L) := Loose.append ⟨hnd, fun b hb => hBc.apart b (hB' b hb), fun b hb => hBc.lt b (hB' b hb), fun b hb => hBc.disj b (hB' b hb)⟩ hL (fun b hb => hd b (hB' b hb))
    have hk : Keeps w (w.drew.alloc (.cells arr el)) Φ Φ (B' ++ L) := ⟨fun _ _ h => h, fun x b hb => hg.old b (hR.ltΦ x b hb), fun b hb => hg.old b (hLL.lt b hb)⟩
    refine ⟨_, _, w.heap.size :: (B' ++ L), hrun, ?_, hR.grew hg, hLL.grew hR hg, rfl, rfl, rfl, by rw [hg.size]; omega, fun b hb _ => hg.old b hb, ?_⟩
    · refine .inr ⟨w.heap.size, gc, arr, el, (0, 0), B' ++ L, rfl, hg.get, fun i _ hh => by simp at hh, ⟨hpos, hge⟩, hle, ?_, rfl, ?_⟩
      · rw [← Array.length_toList, hl1]
        simp only [List.length_append, e2, hlen, Array.length_toList, size_zeroCells, hz]
        rw [← Nat.add_assoc, ← Nat.add_mul, ← Nat.add_mul]
        congr 1
        omega
      · refine rows_join (cur := cur) (news := news) (hold.keep (hk.sub (by intro b hb; simp [hb]))) (hrows.keep (hk.sub (by intro b hb; simp [hb]))) hlen ?_ ?_
        · rw [hl1, ← e1, ← e2, List.take_left]
        · rw [hl1, ← e2, List.drop_left, List.take_left]
    · intro b hb
      rcases List.mem_cons.mp hb with rfl | hb
      · exact .inr (.inr (Nat.le_refl _))
      · rcases List.mem_append.mp hb with hb | hb
        · exact .inl (hB' b hb)
        · exact .inr (.inl hb)
  rcases hown with ⟨rfl, h0, rfl⟩ | ⟨g, cap, cur, et, fz, B', rfl, hg, hfz, ⟨hpz, hnc⟩, hcm, hcs, rfl, hold⟩
  · have hold0 : old = [] := List.length_eq_zero_iff.mp h0
    subst hold0
    by_cases hr : rows = []
    · subst hr
      have hnews : news = [] := List.length_eq_zero_iff.mp (by simpa using hlen)
      subst hnews
      have hrun := run_append_room' he (ty := ty) ht htd hv hb hs none 0 0 (by simp) (by simp) w rfl
      exact ⟨_, w, [], hrun, .inl ⟨rfl, rfl, rfl⟩, hR, Loose.nil, rfl, rfl, rfl, Nat.le_refl _, fun _ _ _ => rfl, by simp⟩
    · refine grow none 0 [] [] [] (by simp; exact hr) rfl (by simp only [IsCRows]) (by simp) (by simp) (by simp) List.nodup_nil ?_
      exact run_firstCells_none (P := P) w.drew v.cells 0 0 0
  · have hszv : sz = v.cells := by rcases hsz with h | h; exact h; omega
    subst hszv
    have hgL : g ∉ L := hd g (by simp)
    by_cases hroom : old.length + rows.length ≤ cap
    · have hfit : old.length * v.cells + news.length ≤ cur.size := by rw [hlen, hcs, ← Nat.add_mul]; exact Nat.mul_le_mul_right _ hroom
      obtain ⟨cur', s1, s2, s3, s4, s5, s6, s7, s8, s9⟩ := setCells_heap (g := g) news (old.length * v.cells) w cur hg hfit
      have hst : (storeCells ((⟨g, 0, none⟩ : Addr).add (old.length * v.cells)) news).run P w = .ok () (w.setCells g (old.length * v.cells) news) := by
        rw [Addr.add_lit]
        have := run_storeCells_cells (P := P) g (old.length * v.cells) news 0 w (fun j hj => by simp only [World.cell?, hg]; simp; omega) (fun j hj => by
          have := hfz (old.length * v.cells + 0 + j) (by omega)
          simp only [World.frozen?, hg]
          obtain ⟨lo, hi⟩ := fz
          simp only at this ⊢
          simp
          omega) hs.ones
        simpa using this
      have hrun := run_append_room' he (ty := ty) ht htd hv hb hs (some ⟨g, 0, none⟩) old.length cap hroom hbytes _ hst
      have hk : Keeps w (w.setCells g (old.length * v.cells) news) Φ Φ (B ++ (B' ++ L)) := by
        refine ⟨fun _ _ h => h, fun y b hb => s5 b (by rintro rfl; exact hBc.disj b (by simp) y hb), fun b hb => s5 b ?_⟩
        rintro rfl
        have := hBc.nd
        simp only [List.nodup_cons] at this
        simp only [List.mem_append] at hb
        rcases hb with hb | hb | hb
        · exact hBc.apart b (by simp) hb
        · exact this.1 hb
        · exact hgL hb
      refine ⟨_, _, g :: (B' ++ L), hrun, ?_, hR.keep (hk.sub (by intro b hb; simp [hb])) (by rw [s6]; exact Nat.le_refl _), ?_, s7, s8, s9, by rw [s6]; exact Nat.le_refl _, fun b hb hn => s5 b (by rintro rfl; exact hn (by simp)), ?_⟩
      · refine .inr ⟨g, cap, cur', et, fz, B' ++ L, rfl, s1, fun i hi => hfz i (by omega), ⟨hpos, hroom⟩, hcm, by omega, rfl, ?_⟩
        refine rows_join (cur := cur.toList) (news := news) (hold.keep (hk.sub (by intro b hb; simp [hb]))) (hrows.keep (hk.sub (by intro b hb; simp [hb]))) hlen ?_ s4
        exact take_ext (fun j hj => by simpa using s3 j (.inl hj))
      · have h1 := hBc.append hL hd
        refine ⟨by simpa using h1.nd, fun b hb => h1.apart b (by simpa using hb), fun b hb => by rw [s6]; exact h1.lt b (by simpa using hb), fun b hb => h1.disj b (by simpa using hb)⟩
      · intro b hb
        rcases List.mem_cons.mp hb with rfl | hb
        · exact .inl (by simp)
        · rcases List.mem_append.mp hb with hb | hb
          · exact .inl (by simp [hb])
          · exact .inr (.inl hb)
    · have hnd := hBc.nd
      simp only [List.nodup_cons] at hnd
      have hcl : (cur.toList.take (old.length * v.cells)).length = old.length * v.cells := by
        rw [List.length_take]
        apply Nat.min_eq_left
        have := Nat.mul_le_mul_right v.cells hnc
        have h2 : cur.toList.length = cur.size := Array.length_toList
        omega
      refine grow (some ⟨g, 0, none⟩) cap (cur.toList.take (old.length * v.cells)) cur.toList B' hroom rfl hold rfl hcl (fun b hb => by simp [hb]) hnd.2 ?_
      refine run_firstCells_some (P := P) w.drew v.cells old.length ⟨g, 0, none⟩ old.length cap _ hcl ?_
      intro j y hj
      rw [List.getElem?_take] at hj
      split at hj
      · rw [Addr.add_lit]
        have hg' : w.drew.heap[g]? = some (.cells cur et fz) := hg
        simp only [World.cell?, hg']
        simpa using hj
      · cases hj

end

end Go.Proofs.Ytmkhdnpnjjdgfaa.Ev
