/- New slices. -/
import Derived.Test.YtmkhdnpnjjdgfaaPack
import Derived.Laws.IdiomStrings
import Derived.Laws.OwnMore
set_option linter.unusedVariables false
set_option linter.unusedSimpArgs false
namespace Go.Proofs.Ytmkhdnpnjjdgfaa.Ev
open Go Go.RowKit

theorem made_rows {z : Array Value} {sz : Nat} (hz : z.size = sz) (hpos : 0 < sz) (n : Nat) : (madeCells z (n * sz)).toList = (List.replicate n z.toList).flatten := by
  subst hz
  have key : ∀ n, (List.range (n * z.size)).map (fun i => z[i % z.size]!) = (List.replicate n z.toList).flatten := by
    intro n
    induction n with
    | zero => simp
    | succ n ih =>
      rw [Nat.succ_mul, Nat.add_comm, List.range_add, List.map_append, List.map_map, List.replicate_succ, List.flatten_cons, ← ih]
      congr 1
      · apply List.ext_getElem
        · simp
        · intro i h1 h2
          simp at h1
          simp [Nat.mod_eq_of_lt h1, h1]
      · apply List.map_congr_left
        intro i _
        simp
  rw [madeCells, Array.toList_map, Array.toList_range]
  exact key n

theorem zeros_flat {w : World} {Φ : Bool → Nat → Prop} {zs : List Value} {ts : List T} (h : cellsT zs = some ts) : ∀ n, IsCs w Φ (List.replicate n (ts.map C.ow)).flatten (List.replicate n zs).flatten []
  | 0 => by simp [IsCs]
  | n + 1 => by
    simp only [List.replicate_succ, List.flatten_cons]
    exact (zeros_own h).append (zeros_flat h n)

theorem zeros_rows {w : World} {Φ : Bool → Nat → Prop} {zs : List Value} {ts : List T} (h : cellsT zs = some ts) {sz : Nat} (hl : zs.length = sz) : ∀ n m, n ≤ m → IsCRows w Φ sz (List.replicate n (ts.map C.ow)) (List.replicate m zs).flatten []
  | 0, m, _ => by simp only [List.replicate_zero, IsCRows]
  | n + 1, 0, hm => by omega
  | n + 1, m + 1, hm => by
    have h0 := zeros_own (w := w) (Φ := Φ) h
    simp only [List.replicate_succ, List.flatten_cons, IsCRows]
    refine ⟨[], [], rfl, by rw [← h0.length, hl], ?_, ?_⟩
    · rw [← hl, List.take_left]; exact h0
    · rw [← hl, List.drop_left, hl]; exact zeros_rows h hl n m (by omega)

section
variable {P : Program} {e : Env} {σ : F} {ty : TypeId} {pos : String} {after : Array Edge} {gd : Option (Nat × Bool)}

theorem ok_buildSlice (he : EnvOk P e) (t el : TypeId) (tv v : TV) (len : Nat) (parts : Array (Nat × Operand)) (l : List (Nat × List C)) (cs : List C) (σ' : F) (d : Nat) (h : e.ty t = some tv) (htd : tv.desc = .slice el) (hv : e.ty el = some v) (hp : partCells σ parts.toList = some (l, σ')) (hlen : len * v.cells ≤ 16777216)
    (hf : fillAt (fun i => some (i * v.cells, v.cells)) (List.replicate len (v.zero.map C.ow)).flatten l = some cs) :
    OpNew P ⟨some d, .buildSlice t len parts, ty, pos, after, gd⟩ σ ((σ'.new (keyOf d 0) { cells := [packRows v.cells (chunk v.cells len cs)] }).put (some d) (.vw (keyOf d 0) [] 0 1 false)) := by
  intro w Φ tm ρ B ds K Q hR hK
  have hu := he.und h
  rw [htd] at hu
  have hpos := he.pos hv
  obtain ⟨B1, L, hR1, hparts, hL, hB1, hLB⟩ := parts_is (ds := ds) hR hp
  obtain ⟨z, h1', h2, h3⟩ := he.run_zero hv
  have h1 := h1' w
  have hz := zeros_flat (w := w) (Φ := Φ) h2 len
  rw [← made_rows h3 hpos len] at hz
  obtain ⟨arr, L', f1, f2, f3, f4, f5⟩ := fill_is hparts hz List.nodup_nil hL.nd (by simp) hf
  rw [size_madeCells] at f5
  have hL' : Loose w Φ B1 L' := ⟨f3, fun b hb => (f4 b hb).elim (by simp) (hL.apart b), fun b hb => (f4 b hb).elim (by simp) (hL.lt b), fun b hb => (f4 b hb).elim (by simp) (hL.disj b)⟩
  have hcl : cs.length = len * v.cells := by rw [← f2.length]; simpa using f5
  obtain ⟨B2, r1, r2, r3⟩ := chunk_is len f2 hcl
  have hL2 : Loose w Φ B1 B2 := ⟨f3.sublist r3, fun b hb => hL'.apart b (r3.subset hb), fun b hb => hL'.lt b (r3.subset hb), fun b hb => hL'.disj b (r3.subset hb)⟩
  have hg := grew_alloc w (.cells arr el (0, 0))
  have hR2 := hR1.grew hg
  have hL3 := hL2.grew hR1 hg
  have hrows := r1.keep (w' := w.alloc (.cells arr el (0, 0))) ⟨fun _ _ h => h, fun x b hb => hg.old b (hR1.ltΦ x b hb), fun b hb => hg.old b (hL2.lt b hb)⟩
  have hlm : len ≤ maxLen := by
    have : len * 1 ≤ len * v.cells := Nat.mul_le_mul_left _ hpos
    simp only [maxLen]; omega
  have hC : IsC (w.alloc (.cells arr el (0, 0))) Φ (packRows v.cells (chunk v.cells len cs)) (.slice (some ⟨w.heap.size, 0, none⟩) len len) (w.heap.size :: B2) := by
    apply packRows_is
    rw [r2]
    exact .inr ⟨w.heap.size, len, arr, el, (0, 0), B2, rfl, hg.get, fun i _ hh => by simp at hh, ⟨hpos, Nat.le_refl _⟩, hlm, f5, rfl, hrows⟩
  obtain ⟨ρ', B', hR', hB', hρ'⟩ := hR2.newSlice hL3 hC d
  have hrun : (Instr.buildSlice t len (parts.map fun (i, x) => (i, (⟨tm.toArray, ds⟩ : Act).eval x))).run P w = .ok (.slice (some ⟨w.heap.size, 0, none⟩) len len) (w.alloc (.cells arr el (0, 0))) := by
    simp only [Instr.buildSlice, Sem.run_bind, run_underlying hu, Result.andThen_ok, he.run_sizeOf hv]
    rw [if_neg (by omega)]
    by_cases hn : len * v.cells = 0
    · have hl0 : len = 0 := by
        rcases Nat.mul_eq_zero.mp hn with h | h
        · exact h
        · omega
      subst hl0
      have e1 : ((Array.range (0 * v.cells)).map fun x => (#[] : Array Value)[x % (#[] : Array Value).size]!) = madeCells z.cells (0 * v.cells) := by
        apply Array.ext'
        rw [made_rows h3 hpos 0]
        simp
      simp only [hn, if_true, Sem.run_pure, Sem.run_bind, Result.andThen_ok]
      rw [hn] at e1
      rw [e1]
      rw [hn] at f1
      simp only [Array.toList_map, f1]
      rfl
    · simp only [if_neg hn, Sem.run_pure, Sem.run_bind, Result.andThen_ok, h1]
      have e1 : ((Array.range (len * v.cells)).map fun x => z.cells[x % z.cells.size]!) = madeCells z.cells (len * v.cells) := rfl
      rw [e1]
      simp only [Array.toList_map, f1]
      rfl
  unfold Oper.wp
  simp only [execOp, Sem.run_bind, hrun, Result.andThen_ok, Sem.run_pure]
  rw [Oper.upon_value, act_put]
  refine hK _ _ _ _ _ hR' (hg.next (fun b hb => ?_) hρ'.imp) hρ' hg.old
  rcases hB' b hb with hb | hb
  · exact .inl (hB1 b hb)
  · rcases List.mem_cons.mp hb with rfl | hb
    · exact .inr rfl
    · rcases f4 b (r3.subset hb) with hb | hb
      · cases hb
      · exact .inl (hLB b hb)

theorem ok_makeSlice (he : EnvOk P e) (t el : TypeId) (tv v : TV) (x y : Operand) (n m : Int) (d : Nat) (h : e.ty t = some tv) (htd : tv.desc = .slice el) (hv : e.ty el = some v) (hx : intOf? (σ.rd x) = some n) (hy : intOf? (σ.rd y) = some m) (hc : 0 < v.bytes ∧ 0 ≤ n ∧ n ≤ m ∧ m.toNat * v.bytes ≤ maxBytes) :
    OpNew P ⟨some d, .makeSlice t x y, ty, pos, after, gd⟩ σ ((σ.new (keyOf d 0) { cells := [.ow (.sl v.cells (List.replicate n.toNat v.zero))] }).put (some d) (.vw (keyOf d 0) [] 0 1 false)) := by
  intro w Φ tm ρ B ds K Q hR hK
  have hu := he.und h
  rw [htd] at hu
  have hpos := he.pos hv
  obtain ⟨i, z, i1, i2, i3, i4, i5, i6, i7, _⟩ := he.ty el v hv
  obtain ⟨kx, hxv⟩ := intOf_is hx (hR.rd (ds := ds) x)
  obtain ⟨ky, hyv⟩ := intOf_is hy (hR.rd (ds := ds) y)
  obtain ⟨c1, c2, c3, c4⟩ := hc
  obtain ⟨mm, rfl⟩ := Int.eq_ofNat_of_zero_le (Int.le_trans c2 c3)
  obtain ⟨nn, rfl⟩ := Int.eq_ofNat_of_zero_le c2
  simp only [Int.toNat_natCast, maxBytes] at c4 ⊢
  have hmm : mm ≤ 140737488355328 := by
    have : mm * 1 ≤ mm * v.bytes := Nat.mul_le_mul_left _ c1
    omega
  have hrun := run_make (P := P) w t el i z hu i1 i5 kx ky nn mm c2 c3 (by rw [i4, Int.mul_comm]; have : ((mm * v.bytes : Nat) : Int) ≤ 281474976710656 := by omega
                                                                           rwa [Int.natCast_mul] at this) (by omega)
  simp only [Int.toNat_natCast] at hrun
  rw [i3] at hrun
  have hg := grew_alloc w (.cells (madeCells z.cells (mm * v.cells)) el (0, 0))
  have hR2 := hR.grew hg
  have hL3 := (Loose.nil (w := w) (Φ := Φ) (B := B)).grew hR hg
  have hC : IsC (w.alloc (.cells (madeCells z.cells (mm * v.cells)) el (0, 0))) Φ (.ow (.sl v.cells (List.replicate nn v.zero))) (.slice (some ⟨w.heap.size, 0, none⟩) nn mm) [w.heap.size] := by
    simp only [IsC, IsO]
    rw [List.length_replicate]
    refine .inr ⟨w.heap.size, mm, _, el, (0, 0), [], rfl, hg.get, fun i _ hh => by simp at hh, ⟨hpos, by omega⟩, by simp only [maxLen]; omega, size_madeCells _ _, rfl, ?_⟩
    rw [made_rows i7 hpos mm]
    have := zeros_rows (w := w.alloc (.cells (madeCells z.cells (mm * v.cells)) el (0, 0))) (Φ := Φ) i6 (sz := v.cells) (by simpa using i7) nn mm (by omega)
    rw [← List.map_replicate] at this
    exact IsORows.ofCells this
  obtain ⟨ρ', B', hR', hB', hρ'⟩ := hR2.newSlice hL3 hC d
  unfold Oper.wp
  simp only [execOp, hxv, hyv, Sem.run_bind, hrun, Result.andThen_ok, Sem.run_pure]
  rw [Oper.upon_value, act_put]
  exact hK _ _ _ _ _ hR' (hg.next (fun b hb => (hB' b hb).elim .inl (fun hb => by simp at hb; exact .inr hb)) hρ'.imp) hρ' hg.old

theorem bytes_own {w : World} : ∀ (bs : List UInt8) (rest : List Value), IsORows w 1 (bs.map fun b => [.lit (.int .u8 b.toNat)]) (bs.map (fun b => Value.int .u8 b.toNat) ++ rest) []
  | [], rest => by simp only [List.map_nil, IsORows]
  | b :: bs, rest => by
    simp only [List.map_cons, List.cons_append, IsORows]
    refine ⟨[], [], rfl, rfl, ?_, ?_⟩
    · simp only [List.take_succ_cons, List.take_zero, IsOs, IsO]
      exact ⟨_, [], [], [], rfl, rfl, ⟨rfl, rfl, rfl⟩, rfl, rfl⟩
    · simpa using bytes_own bs rest

theorem ok_strBytes (he : EnvOk P e) (src dst el : TypeId) (a b v : TV) (x : Operand) (s : ByteArray) (d : Nat) (hs : e.ty src = some a) (hsd : a.desc = .string) (hd : e.ty dst = some b) (hdd : b.desc = .slice el) (hv : e.ty el = some v) (hvd : v.desc = .int .u8) (hvc : v.cells = 1) (hx : σ.rd x = .lit (.string s)) (hsz : s.size ≤ 9223372036854775807) :
    OpNew P ⟨some d, .convert src dst x, ty, pos, after, gd⟩ σ ((σ.new (keyOf d 0) { cells := [.ow (bytesT s)] }).put (some d) (.vw (keyOf d 0) [] 0 1 false)) := by
  intro w Φ tm ρ B ds K Q hR hK
  have h1 := he.und hs; rw [hsd] at h1
  have h2 := he.und hd; rw [hdd] at h2
  have h3 := he.und hv; rw [hvd] at h3
  have hr := hR.rd (ds := ds) x
  rw [hx] at hr
  have hrun := run_bytes_of_string (P := P) w src dst el s h1 h2 h3
  generalize hcap : grownCap w s.size 0 el = cap at hrun
  have hge : s.size ≤ cap := by rw [← hcap]; exact grownCap_ge w s.size 0 el
  have hle : cap ≤ maxLen := by rw [← hcap]; exact grownCap_le_maxLen w s.size 0 el (by simp only [maxLen]; omega)
  have hg : Grew w (w.drew.alloc (.cells (bytesRow s cap) el ((bytesRow s cap).size, (bytesRow s cap).size + 1))) w.heap.size (.cells (bytesRow s cap) el ((bytesRow s cap).size, (bytesRow s cap).size + 1)) :=
    ⟨rfl, alloc_get w.drew _, fun b h => alloc_old w.drew _ h, alloc_size w.drew _, rfl, rfl, rfl⟩
  have hR2 := hR.grew hg
  have hL3 := (Loose.nil (w := w) (Φ := Φ) (B := B)).grew hR hg
  have hrow : (bytesRow s cap).toList = s.data.toList.map (fun b => Value.int .u8 b.toNat) ++ List.replicate (cap - s.size) (.int .u8 0) := by
    simp [bytesRow]
  have hrs : (bytesRow s cap).size = cap := by
    rw [← Array.length_toList, hrow]
    have : s.data.size = s.size := rfl
    simp [this]
    omega
  have hC : IsC (w.drew.alloc (.cells (bytesRow s cap) el ((bytesRow s cap).size, (bytesRow s cap).size + 1))) Φ (.ow (bytesT s)) (.slice (some ⟨w.heap.size, 0, none⟩) s.size cap) [w.heap.size] := by
    simp only [IsC, bytesT, IsO]
    have hl : (s.data.toList.map fun b => [T.lit (.int .u8 b.toNat)]).length = s.size := by
      rw [List.length_map, Array.length_toList]; rfl
    rw [hl]
    refine .inr ⟨w.heap.size, cap, _, el, _, [], rfl, hg.get, fun i hi hh => ?_, ⟨Nat.one_pos, hge⟩, hle, by rw [hrs, Nat.mul_one], rfl, ?_⟩
    · simp only at hh; omega
    · rw [hrow]; exact bytes_own _ _
  obtain ⟨ρ', B', hR', hB', hρ'⟩ := hR2.newSlice hL3 hC d
  unfold Oper.wp
  simp only [execOp, slot_lit hr, Sem.run_bind, hrun, Result.andThen_ok, Sem.run_pure]
  rw [Oper.upon_value, act_put]
  exact hK _ _ _ _ _ hR' (hg.next (fun b hb => (hB' b hb).elim .inl (fun hb => by simp at hb; exact .inr hb)) hρ'.imp) hρ' hg.old

end

end Go.Proofs.Ytmkhdnpnjjdgfaa.Ev
