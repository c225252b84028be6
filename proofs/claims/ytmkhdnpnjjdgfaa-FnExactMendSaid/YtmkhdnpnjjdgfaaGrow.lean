/- append: an owned slice grows. -/
import Derived.Test.YtmkhdnpnjjdgfaaNew
import Derived.Laws.Append
set_option linter.unusedVariables false
set_option linter.unusedSimpArgs false
namespace Go.Proofs.Ytmkhdnpnjjdgfaa.Ev
open Go Go.RowKit

theorem rows_join {w : World} {Φ : Bool → Nat → Prop} {m : Nat} {old rows : List (List C)} {cur arr news : List Value} {B L : List Nat} (h : IsCRows w Φ m old cur B) (k : IsCRows w Φ m rows news L) (hl : news.length = rows.length * m)
    (e1 : arr.take (old.length * m) = cur.take (old.length * m)) (e2 : (arr.drop (old.length * m)).take news.length = news) : IsCRows w Φ m (old ++ rows) arr (B ++ L) := by
  refine (h.ext e1).append (k.ext ?_)
  rw [← hl, e2, List.take_length]

/-- What is appended: so many elements; their cells are read so in every world of this heap. -/
structure Src (P : Program) (w : World) (xt el : TypeId) (m : Nat) (x : Value) (n : Nat) (news : List Value) : Prop where
  dx : ∃ d, P.underlying xt = some d ∧
    (((∀ k, d ≠ .int k) ∧ (∀ w' : World, w'.heap = w.heap → (Builtin.lenOf x).run P w' = .ok n w' ∧ (Builtin.firstCells m n x).run P w' = .ok news.toArray w')) ∨
     (∃ k k', d = .int k ∧ x = .int k' n ∧ ∃ z : Value, (∀ w' : World, (zeroValue el).run P w' = .ok z w') ∧ z.cells.size = m ∧ news = (List.replicate n z.cells.toList).flatten))
  len : news.length = n * m
  ones : ∀ v ∈ news, v.oneCell' = true

section
variable {P : Program} {e : Env}

theorem zeroCells_flat {z : Array Value} {m : Nat} (hz : z.size = m) (hpos : 0 < m) (n : Nat) : Builtin.zeroCells z n = (List.replicate n z.toList).flatten.toArray := by
  apply Array.ext'
  have := made_rows hz hpos n
  subst hz
  rw [← this]
  simp [Builtin.zeroCells, madeCells]

theorem run_append_room' (he : EnvOk P e) {st xt el ty : TypeId} {tv v : TV} {w : World} {x : Value} {n : Nat} {news : List Value} (ht : e.ty st = some tv) (htd : tv.desc = .slice el) (hv : e.ty el = some v) (hb : 0 < v.bytes) (hs : Src P w xt el v.cells x n news) (base : Option Addr) (sLen sCap : Nat) (hroom : sLen + n ≤ sCap) (hbytes : (sLen + n) * v.bytes ≤ maxBytes) (w' : World)
    (hst : (match base with | some a => storeCells (a.add (sLen * v.cells)) news | none => pure ()).run P w = .ok () w') :
    (Builtin.append_ #[st, xt] ty #[.slice base sLen sCap, x]).run P w = .ok (.slice base (sLen + n) sCap) w' := by
  have hu := he.und ht
  rw [htd] at hu
  have hpos := he.pos hv
  obtain ⟨i, hi, ib, is⟩ := he.run_bytes hv w
  obtain ⟨d, hd, hx⟩ := hs.dx
  rcases hx with ⟨hd1, hx⟩ | ⟨k, k', rfl, rfl, z, hz, hzs, rfl⟩
  · obtain ⟨l1, l2⟩ := hx w rfl
    cases d with
    | int k => exact absurd rfl (hd1 k)
    | _ =>
      simp only [Builtin.append_, List.getElem?_toArray, List.getElem?_cons_zero, List.getElem?_cons_succ, Sem.run_bind, run_underlying hu, Result.andThen_ok, he.run_sizeOf hv, run_underlying hd, Sem.run_pure, Bool.false_eq_true, if_false, l1, if_pos hroom, Bool.not_false, if_true, l2]
      cases base with
      | none => simp only [Sem.run_pure, Result.ok.injEq, true_and] at hst; subst hst; rfl
      | some a => simp only [Sem.run_bind, hst, Result.andThen_ok, Sem.run_pure]
  · have hn : n ≤ 140737488355328 := by
      have : (sLen + n) * 1 ≤ (sLen + n) * v.bytes := Nat.mul_le_mul_left _ hb
      simp only [maxBytes] at hbytes
      omega
    have wl : IntKind.i64.wrap (n : Int) = n := by rw [IntKind.wrap_i64]; omega
    have hnb : ¬ (281474976710656 < (n : Int) * v.bytes) := by
      have : n * v.bytes ≤ (sLen + n) * v.bytes := Nat.mul_le_mul_right _ (by omega)
      simp only [maxBytes] at hbytes
      have h2 : ((n * v.bytes : Nat) : Int) ≤ 281474976710656 := by omega
      rw [Int.natCast_mul] at h2
      omega
    have hap : ∀ w' : World, (if n * v.cells = 0 then (pure #[] : Sem (Array Value)) else do pure (Builtin.zeroCells (← zeroValue el).cells n)).run P w' = .ok ((List.replicate n z.cells.toList).flatten.toArray) w' := by
      intro w'
      by_cases h0 : n * v.cells = 0
      · have : n = 0 := by
          rcases Nat.mul_eq_zero.mp h0 with h | h
          · exact h
          · omega
        subst this
        simp
      · simp only [if_neg h0, Sem.run_bind, hz, Result.andThen_ok, Sem.run_pure, zeroCells_flat hzs hpos]
    have hl0 : ¬ ((n : Int) < 0) := by omega
    have hnb' : ¬ ((n : Int) * (i.bytes : Int) > 2 ^ 48) := by rw [ib]; simpa using hnb
    simp only [Builtin.append_, List.getElem?_toArray, List.getElem?_cons_zero, List.getElem?_cons_succ, Sem.run_bind, run_underlying hu, Result.andThen_ok, he.run_sizeOf hv, run_underlying hd, Sem.run_pure, if_true, asInt, asIntOf, wl, if_neg hl0, hi, if_neg hnb', Int.toNat_natCast, if_pos hroom, Bool.not_true, Bool.false_eq_true, if_false]
    rw [hap]
    simp only [Result.andThen_ok]
    cases base with
    | none => simp only [Sem.run_pure, Result.ok.injEq, true_and] at hst; subst hst; rfl
    | some a => simp only [Sem.run_bind, hst, Result.andThen_ok, Sem.run_pure]

theorem run_append_grow' (he : EnvOk P e) {st xt el ty : TypeId} {tv v : TV} {w : World} {x : Value} {n : Nat} {news old : List Value} (ht : e.ty st = some tv) (htd : tv.desc = .slice el) (hv : e.ty el = some v) (hb : 0 < v.bytes) (hs : Src P w xt el v.cells x n news) (base : Option Addr) (sLen sCap : Nat) (hroom : ¬ sLen + n ≤ sCap) (hbytes : (sLen + n) * v.bytes ≤ maxBytes)
    (hold : (Builtin.firstCells v.cells sLen (.slice base sLen sCap)).run P w.drew = .ok old.toArray w.drew) :
    ∃ z : Value, z.cells.size = v.cells ∧ (Builtin.append_ #[st, xt] ty #[.slice base sLen sCap, x]).run P w =
      .ok (.slice (some ⟨w.heap.size, 0, none⟩) (sLen + n) (grownCap w (sLen + n) sCap el)) (w.drew.alloc (.cells (old.toArray ++ news.toArray ++ Builtin.zeroCells z.cells (grownCap w (sLen + n) sCap el - (sLen + n))) el)) := by
  have hu := he.und ht
  rw [htd] at hu
  have hpos := he.pos hv
  obtain ⟨i, z0, hP, _, is, ib, i5, _, i7, _⟩ := he.ty el v hv
  have hi : ∀ w, (typeInfo el).run P w = .ok i w := fun w => by simp [typeInfo, hP]
  have hzv : ∀ w, (zeroValue el).run P w = .ok z0 w := fun w => by simp [zeroValue, typeInfo, hP, i5]
  refine ⟨z0, i7, ?_⟩
  obtain ⟨d, hd, hx⟩ := hs.dx
  have hneed : sLen + n ≤ 140737488355328 := by
    have : (sLen + n) * 1 ≤ (sLen + n) * v.bytes := Nat.mul_le_mul_left _ hb
    simp only [maxBytes] at hbytes
    omega
  have hmax : ∀ p : Prop, ¬ (((sLen + n : Nat) : Int) > IntKind.i64.max ∧ p) := by
    rintro p ⟨h, _⟩
    rw [IntKind.max_i64] at h
    omega
  have hfit : ¬ (Builtin.nextslicecap (sLen + n) sCap * i.bytes > 2 ^ 48) := by
    rw [ib]
    have := growslice_fits (need := sLen + n) (old := sCap) (bytes := v.bytes) (by omega) hbytes
    omega
  have hch : (choose (.appendCap (sLen + n) sCap el)).run P w = .ok (grownCap w (sLen + n) sCap el) w.drew := by
    rw [run_choose]
    rfl
  rcases hx with ⟨hd1, hx⟩ | ⟨k, k', rfl, rfl, z, hz, hzs, rfl⟩
  · obtain ⟨l1, _⟩ := hx w rfl
    obtain ⟨_, l2⟩ := hx w.drew rfl
    cases d with
    | int k => exact absurd rfl (hd1 k)
    | _ =>
      simp only [Builtin.append_, List.getElem?_toArray, List.getElem?_cons_zero, List.getElem?_cons_succ, Sem.run_bind, run_underlying hu, Result.andThen_ok, he.run_sizeOf hv, run_underlying hd, Sem.run_pure, Bool.false_eq_true, if_false, l1, if_neg hroom, Bool.not_false, if_true, hi, if_neg (hmax _), if_neg hfit, hch, run_askRoom, hold, l2, hzv, newRow, run_newObj]
      rfl
  · have wl : IntKind.i64.wrap (n : Int) = n := by rw [IntKind.wrap_i64]; omega
    have hnb : ¬ (281474976710656 < (n : Int) * v.bytes) := by
      have : n * v.bytes ≤ (sLen + n) * v.bytes := Nat.mul_le_mul_right _ (by omega)
      simp only [maxBytes] at hbytes
      have h2 : ((n * v.bytes : Nat) : Int) ≤ 281474976710656 := by omega
      rw [Int.natCast_mul] at h2
      omega
    have hap : ∀ w' : World, (if n * v.cells = 0 then (pure #[] : Sem (Array Value)) else do pure (Builtin.zeroCells (← zeroValue el).cells n)).run P w' = .ok ((List.replicate n z.cells.toList).flatten.toArray) w' := by
      intro w'
      by_cases h0 : n * v.cells = 0
      · have : n = 0 := by
          rcases Nat.mul_eq_zero.mp h0 with h | h
          · exact h
          · omega
        subst this
        simp
      · simp only [if_neg h0, Sem.run_bind, hz, Result.andThen_ok, Sem.run_pure, zeroCells_flat hzs hpos]
    have hl0 : ¬ ((n : Int) < 0) := by omega
    have hnb' : ¬ ((n : Int) * (i.bytes : Int) > 2 ^ 48) := by rw [ib]; simpa using hnb
    simp only [Builtin.append_, List.getElem?_toArray, List.getElem?_cons_zero, List.getElem?_cons_succ, Sem.run_bind, run_underlying hu, Result.andThen_ok, he.run_sizeOf hv, run_underlying hd, Sem.run_pure, if_true, asInt, asIntOf, wl, if_neg hl0, hi, if_neg hnb', Int.toNat_natCast, if_neg hroom, Bool.not_true, Bool.false_eq_true, if_false, if_neg (hmax _), if_neg hfit, hch, run_askRoom, hold]
    rw [hap]
    simp only [Result.andThen_ok, hzv, newRow, Sem.run_bind, run_newObj, Sem.run_pure]
    rfl

end

end Go.Proofs.Ytmkhdnpnjjdgfaa.Ev
