/- Parts of the proof, merged: Pa8 Ir16 Pr5. -/
import Derived.Test.YtckojpaklblnpaaGreatDoorKG1
import Derived.Test.YtckojpaklblnpaaGreatDoorKG5
import Derived.Test.YtckojpaklblnpaaGreatDoorKG4
set_option linter.unusedVariables false
set_option linter.unusedSimpArgs false
set_option maxRecDepth 10000
set_option maxHeartbeats 2000000
namespace Go.Proofs.YtckojpaklblnpaaGreatDoor.Th
open Go Go.RowKit Go.Proofs.YtckojpaklblnpaaGreatDoor.Ev
def rowX (x : OpT) (tz : Nat) (tr : List (List T)) (iz : Nat) (ir : List (List T)) : List T := [.lit (.int .i64 x.num), .lit (.int .i64 x.kind), .lit (.int .i64 x.ref), .lit (.bool x.rep), .lit (.int .i64 x.oneof), .sl tz tr, .lit (.bool x.quick), .lit (.int .i64 x.run), .sl iz ir]
def ORok (ops : List OpT) (OR : List (List T)) : Prop := OR.length = ops.length ∧ ∀ i (h : i < ops.length), ∃ tz tr iz ir, OR[i]? = some (rowX ops[i] tz tr iz ir)
abbrev boxOR (b : Bool) (OR : List (List T)) (c : Bool) : O := { cells := [.own 3 [[.im b (.sl 9 OR), .im b (.sl 1 []), .ow (.lit (.bool c))]]], box := true }
theorem ORok.set {ops : List OpT} {OR : List (List T)} (h : ORok ops OR) (i : Nat) (hi : i < ops.length) (tz : Nat) (tr : List (List T)) (iz : Nat) (ir : List (List T)) : ORok ops (OR.set i (rowX ops[i] tz tr iz ir)) := by
  refine ⟨by simp [h.1], fun j hj => ?_⟩
  by_cases hij : i = j
  · subst hij
    exact ⟨tz, tr, iz, ir, by rw [List.getElem?_set_self (by rw [h.1]; exact hi)]⟩
  · rw [List.getElem?_set_ne hij]
    exact h.2 j hj
def SK (ms : List ModT) (R : List (List T)) : Prop := R.length = ms.length ∧ ∀ j (h : j < ms.length), ∃ OR J c, R[j]? = some [.sl 9 OR, J, c] ∧ ORok ms[j].ops OR
theorem SK.set {ms : List ModT} {R : List (List T)} (h : SK ms R) (k : Nat) (hk : k < ms.length) (OR : List (List T)) (J c : T) (hO : ORok ms[k].ops OR) : SK ms (R.set k [.sl 9 OR, J, c]) := by
  refine ⟨by simp [h.1], fun j hj => ?_⟩
  by_cases hij : k = j
  · subst hij
    exact ⟨OR, J, c, by rw [List.getElem?_set_self (by rw [h.1]; exact hk)], hO⟩
  · rw [List.getElem?_set_ne hij]
    exact h.2 j hj
theorem c_spec_l9WireR (b : Bool) (x : OpT) (tz : Nat) (tr : List (List T)) (iz : Nat) (ir : List (List T)) : cw f_spec_l9Wire [.agg b (rowX x tz tr iz ir)] [] = some (.lit (.int .i64 (owire x)), []) := by
  have h1 := c_spec_WireOf x.kind
  refine callW_run (by simp) fs_spec_l9Wire rfl rfl rfl ?_
  simp only [cw] at h1
  unfold owire
  simp only [rowX]
  generalize wireT x.kind = w at h1 ⊢
  cases hr : x.rep with
  | false => simp [h1]
  | true => by_cases hw : w = 2 <;> simp [h1, hw]
theorem c_spec_l9BareR (b : Bool) (x : OpT) (tz : Nat) (tr : List (List T)) (iz : Nat) (ir : List (List T)) : cw f_spec_l9Bare [.agg b (rowX x tz tr iz ir)] [] = some (.ov ((rowX (bareOp x) 0 [] 0 []).map C.ow) true, []) := by
  refine callW_run (by simp) fs_spec_l9Bare rfl rfl rfl ?_
  simp [rowX, bareOp, OpT.num, OpT.kind, OpT.ref, OpT.rep, OpT.oneof, OpT.quick, OpT.run]
theorem c_spec_l9JumpsR (b : Bool) (m : ModT) (OR : List (List T)) (hO : ORok m.ops OR) (h : m.ops.length ≤ 2 ^ 40) : cw f_spec_l9Jumps [.agg b [.sl 9 OR, .sl 1 [], .lit (.bool m.cached)]] [] = some (.ov [.ow (.sl 1 ((jumpsL m.ops).map encI))] false, []) := by
  refine callW_run (by simp) fs_spec_l9Jumps rfl rfl rfl ?_
  unfold jumpsL
  have hOl := hO.1
  have hOg := hO.2
  by_cases h0 : m.ops = []
  · have : OR = [] := List.length_eq_zero_iff.mp (by rw [hOl, h0]; rfl)
    simp [h0, this]
  have hpos : 0 < m.ops.length := by cases hh : m.ops with | nil => exact absurd hh h0 | cons _ _ => simp
  have hgl : m.ops.getLast? = some (m.ops[m.ops.length - 1]'(by omega)) := by rw [List.getLast?_eq_getElem?, List.getElem?_eq_getElem]
  rw [hgl]
  dsimp only
  have hlt : m.ops.length - 1 < m.ops.length := by omega
  have hlen0 : ¬ m.ops.length = 0 := by omega
  have hw : IntKind.wrap .i64 ((m.ops.length : Int) - 1) = (m.ops.length : Int) - 1 := i64_wrap (by omega) (by omega)
  have hnn : ¬ ((m.ops.length : Int) - 1 < 0) := by omega
  have hto : ((m.ops.length : Int) - 1).toNat = m.ops.length - 1 := by omega
  obtain ⟨tz, tr, iz, ir, hlast⟩ := hOg (m.ops.length - 1) hlt
  generalize hx : m.ops[m.ops.length - 1] = x at hlast
  by_cases h64 : x.num ≥ 64
  · have h64' : 64 ≤ x.num := h64
    rw [if_pos h64]
    simp [hOl, hlen0, hw, hnn, hto, hlt, hlast, at_of hlast, rowX, h64']
  · have h64' : ¬ 64 ≤ x.num := h64
    rw [if_neg h64]
    simp [hOl, hlen0, hw, hnn, hto, hlt, hlast, at_of hlast, rowX, h64']
    by_cases hneg : x.num < 0
    · have e0 : (x.num + 1).toNat = 0 := by omega
      have hz : ¬ (0 : Int) ≤ x.num := by omega
      rw [e0, jlL_zero]
      simp [Mc.at_loop, hw, hnn, hto, hlt, hlast, at_of hlast, rowX, hz, hOl]
    obtain ⟨N, hN⟩ : ∃ N : Nat, x.num = (N : Int) := ⟨x.num.toNat, by omega⟩
    rw [hN] at h64 h64' ⊢
    have hN1 : ((N : Int) + 1).toNat = N + 1 := by omega
    refine Mc.loop_ind (α := Nat) _ _ _ _ (fun k => I_spec_l9Jumps_0 (.ptr 72 [(0, 0)] 0) (.lit (.int .i64 m.ops.length)) (.vw 96 [] 0 1 false) (.lit (.int .i64 k)) [(72, boxOR b OR m.cached), (96, { cells := [.ow (.sl 1 ((jlL m.ops k).map encI))], var := true })]) (fun k => N + 1 - k) (fun k => k ≤ N + 1) 0 _ (by simp [jlL_zero]) (by simp) ?_
    intro k hk ih
    by_cases hkl : k ≤ N
    · have hkl' : (k : Int) ≤ N := by omega
      simp [hw, hnn, hto, hlt, hOl, hlast, at_of hlast, rowX, hN, hkl, hkl']
      refine Mc.loop_ind (α := Nat) _ _ _ _ (fun i => I_spec_l9Jumps_1 (.ptr 72 [(0, 0)] 0) (.lit (.int .i64 m.ops.length)) (.vw 96 [] 0 1 false) (.lit (.int .i64 k)) (.lit (.int .i64 (atT m.ops (k : Int) i))) (.lit (.int .i64 i)) [(72, boxOR b OR m.cached), (96, { cells := [.ow (.sl 1 ((jlL m.ops k).map encI))], var := true })]) (fun i => m.ops.length - i) (fun i => i ≤ m.ops.length) 0 _ (by simp [atT]) (by simp) ?_
      intro i hi ih2
      by_cases hl : i < m.ops.length
      · obtain ⟨tz2, tr2, iz2, ir2, hoi⟩ := hOg i hl
        by_cases hq : m.ops[i].num = (k : Int)
        · have hs : atT m.ops (k : Int) (i + 1) = i := by unfold atT; rw [List.getElem?_eq_getElem hl]; simp [hq]
          simp [hl, hOl, hoi, at_of hoi, rowX, hq, wrap_add i (by omega)]
          exact ih2 (i + 1) _ (by simp [hs]) (by omega) (by omega)
        · have hs : atT m.ops (k : Int) (i + 1) = atT m.ops (k : Int) i := by
            have hq' : ¬ ((m.ops[i]?).map OpT.num = some (k : Int)) := by rw [List.getElem?_eq_getElem hl]; simpa using hq
            rw [atT, if_neg hq']
          simp [hl, hOl, hoi, at_of hoi, rowX, hq, wrap_add i (by omega)]
          exact ih2 (i + 1) _ (by simp [hs]) (by omega) (by omega)
      · have hie : i = m.ops.length := by omega
        rw [hie]
        have hjs := jlL_succ m.ops k
        have hjl := jlL_len m.ops k
        generalize atT m.ops (k : Int) m.ops.length = j at hjs
        generalize jlL m.ops k = acc at hjs hjl
        have hm : (acc.length + 1) * 8 ≤ 140737488355328 := by omega
        simp [wrap_add k (by omega), maxBytes, hm]
        exact ih (k + 1) _ (by simp [hjs, encI]) (by omega) (by omega)
    · have hkl' : ¬ (k : Int) ≤ N := by omega
      have : k = N + 1 := by omega
      subst this
      have e1 : ¬ ((N : Int) + 1 ≤ N) := by omega
      simp [hw, hnn, hto, hlt, hOl, hlast, at_of hlast, rowX, hN, hN1, e1]
def modRaw (m : ModT) : List T := [.sl 9 (m.ops.map fun x => rowX x 0 [] 0 []), .sl 1 [], .lit (.bool m.cached)]
theorem ORok_raw (ops : List OpT) : ORok ops (ops.map fun x => rowX x 0 [] 0 []) := by
  refine ⟨by simp, fun i hi => ⟨0, [], 0, [], ?_⟩⟩
  rw [List.getElem?_map, List.getElem?_eq_getElem hi]
  rfl
theorem SK_raw (ms : List ModT) : SK ms (ms.map modRaw) := by
  refine ⟨by simp, fun j hj => ⟨_, .sl 1 [], .lit (.bool ms[j].cached), ?_, ORok_raw _⟩⟩
  rw [List.getElem?_map, List.getElem?_eq_getElem hj]
  rfl
structure RowsAt (ms : List ModT) (ops : List OpT) (fs : List Int) (i : Nat) (OR : List (List T)) : Prop where
  ok : ORok ops OR
  done : ∀ j (h : j < i) (h1 : j < ops.length) (h2 : j < fs.length), okOp false ms ops[j] fs[j] = true ∧ ∃ row, OR[j]? = some row ∧ nrmTs shOp row = (opL ms ops[j] fs[j]).enc
  rest : ∀ j (h : i ≤ j) (h1 : j < ops.length), OR[j]? = some (rowX ops[j] 0 [] 0 [])
theorem RowsAt.next {ms : List ModT} {ops : List OpT} {fs : List Int} {i : Nat} {OR : List (List T)} (h : RowsAt ms ops fs i OR) (hf : fs.length = ops.length) (hi : i < ops.length) (hok : okOp false ms ops[i] (fs[i]'(by omega)) = true) (tz : Nat) (tr : List (List T)) (iz : Nat) (ir : List (List T)) (hn : nrmTs shOp (rowX ops[i] tz tr iz ir) = (opL ms ops[i] (fs[i]'(by omega))).enc) : RowsAt ms ops fs (i + 1) (OR.set i (rowX ops[i] tz tr iz ir)) where
  ok := h.ok.set i hi tz tr iz ir
  done j hj h1 h2 := by
    by_cases hji : j = i
    · subst hji
      exact ⟨hok, _, by rw [List.getElem?_set_self (by rw [h.ok.1]; exact hi)], hn⟩
    · rw [List.getElem?_set_ne (Ne.symm hji)]
      exact h.done j (by omega) h1 h2
  rest j hj h1 := by
    rw [List.getElem?_set_ne (by omega)]
    exact h.rest j (by omega) h1
theorem RowsAt.full {ms : List ModT} {ops : List OpT} {fs : List Int} {OR : List (List T)} (h : RowsAt ms ops fs ops.length OR) (hf : fs.length = ops.length) : nrmRows shOp OR = (opsL ms ops fs).map OpT.enc ∧ ∀ i (h : i < ops.length) (h' : i < fs.length), okOp false ms ops[i] fs[i] = true := by
  refine ⟨?_, fun i hi hi' => (h.done i hi hi hi').1⟩
  apply List.ext_getElem?
  intro j
  rw [nrmRows_get]
  by_cases hj : j < ops.length
  · obtain ⟨_, row, h1, h2⟩ := h.done j hj hj (by omega)
    rw [h1, List.getElem?_map, List.getElem?_eq_getElem (by simp [opsL]; omega)]
    simp [h2, opsL]
  · rw [List.getElem?_eq_none (by rw [h.ok.1]; omega), List.getElem?_eq_none (by simp [opsL]; omega)]
    rfl
structure ModRows (ms : List ModT) (fl : List Int) (fo : List (List Int)) (k : Nat) (R : List (List T)) : Prop where
  sk : SK ms R
  done : ∀ j (h : j < k) (h1 : j < ms.length) (h2 : j < fl.length) (h3 : j < fo.length), okMod false ms ms[j] fl[j] fo[j] ∧ ∃ row, R[j]? = some row ∧ nrmTs shMod row = (modL false ms ms[j] fl[j] fo[j]).enc
  rest : ∀ j (h : k ≤ j) (h1 : j < ms.length), R[j]? = some (modRaw ms[j])
theorem ModRows.next {ms : List ModT} {fl : List Int} {fo : List (List Int)} {k : Nat} {R : List (List T)} (h : ModRows ms fl fo k R) (hr : Raw ms fl fo) (hk : k < ms.length) (OR : List (List T)) (J : List Int) (hO : RowsAt ms ms[k].ops (fo[k]'(by rw [hr.hfo]; exact hk)) ms[k].ops.length OR)
    (hJ : J = if bit (fl[k]'(by rw [hr.hfl]; exact hk)) 1 = true then jumpsL ms[k].ops else []) (hJ2 : bit (fl[k]'(by rw [hr.hfl]; exact hk)) 1 = true → jumpsL ms[k].ops ≠ []) : ModRows ms fl fo (k + 1) (R.set k [.sl 9 OR, .sl 1 (J.map encI), .lit (.bool ms[k].cached)]) := by
  have hof := hr.ops k hk (by rw [hr.hfo]; exact hk)
  obtain ⟨f1, f2⟩ := hO.full hof
  refine ⟨h.sk.set k hk _ _ _ hO.ok, fun j hj h1 h2 h3 => ?_, fun j hj h1 => ?_⟩
  · by_cases hjk : j = k
    · subst hjk
      refine ⟨⟨by simpa [jmpF] using hJ2, f2⟩, _, by rw [List.getElem?_set_self (by rw [h.sk.1]; exact hk)], ?_⟩
      have hz : ¬ ((9 : Nat) = 0 ∧ OR = []) := fun hh => absurd hh.1 (by omega)
      have e1 : (modL false ms ms[j] fl[j] fo[j]).enc = [.sl 9 ((opsL ms ms[j].ops fo[j]).map OpT.enc), .sl 1 (J.map encI), .lit (.bool ms[j].cached)] := by
        simp only [modL, ModT.enc, jmpF, hJ]
        rfl
      rw [e1, ← f1]
      simp
    · rw [List.getElem?_set_ne (Ne.symm hjk)]
      exact h.done j (by omega) h1 h2 h3
  · rw [List.getElem?_set_ne (by omega)]
    exact h.rest j (by omega) h1
theorem ModRows.full {ms : List ModT} {fl : List Int} {fo : List (List Int)} {R : List (List T)} (h : ModRows ms fl fo ms.length R) (hr : Raw ms fl fo) : nrmRows shMod R = (layL false ms fl fo).map ModT.enc ∧ okAll false ms fl fo := by
  constructor
  · apply List.ext_getElem?
    intro j
    rw [nrmRows_get]
    by_cases hj : j < ms.length
    · have h2 : j < fl.length := by rw [hr.hfl]; exact hj
      have h3 : j < fo.length := by rw [hr.hfo]; exact hj
      obtain ⟨_, row, e1, e2⟩ := h.done j hj hj h2 h3
      rw [e1, List.getElem?_map, List.getElem?_eq_getElem (by simp [layL]; omega)]
      simp [e2, layL]
    · rw [List.getElem?_eq_none (by rw [h.sk.1]; omega), List.getElem?_eq_none (by simp [layL]; omega)]
      rfl
  · intro k hk h1 h2
    exact (h.done k hk hk h1 h2).1
def b2i (b : Bool) : Int := if b then 1 else 0
theorem bit_b2i (b : Bool) : bit (b2i b) 1 = b := by cases b <;> rfl
def encBo (b : Bool) : List T := [.lit (.bool b)]
theorem nrmCRows_nil : ∀ X : List (List C), nrmCRows [] X = X
  | [] => rfl
  | r :: rs => by simp only [nrmCRows, nrmCs, nrmCRows_nil rs]
theorem ownedRows_app : ∀ (l : List (List T)) (r : List C), ownedRows (l.map (·.map C.ow) ++ [r]) = (ownedAll r).map (fun t => l ++ [t])
  | [], r => by
    simp only [List.map_nil, List.nil_append, ownedRows]
    cases ownedAll r <;> rfl
  | a :: l, r => by
    have ih := ownedRows_app l r
    simp only [List.map_cons, List.cons_append]
    unfold ownedRows
    have h1 : ∀ r : List T, ownedAll (r.map C.ow) = some r := by
      intro r
      induction r with
      | nil => rfl
      | cons t r ih => simp [ih]
    rw [ih, h1 a]
    cases ownedAll r <;> rfl
theorem sees1 {rs ks : List Nat} {α : F} {d : Option Nat} {β : F} {gv gp : List (Nat × List (Nat × Nat))} {rs' : List Nat} {cs : List S} {q : Qry} {os : List Seen} {d' : Option Nat} {s : S} (h1 : ks.contains q.key = true) (h2 : q.ask β.ob = q.ask α.ob) : seesE (.eff rs ks α d β gv gp) (.slot rs' cs [q] os d' s) := fun q' hq => by
  simp only [List.mem_singleton] at hq
  subst hq
  exact ⟨h1, h2⟩
end Go.Proofs.YtckojpaklblnpaaGreatDoor.Th
set_option linter.unusedVariables false
set_option linter.unusedSimpArgs false
set_option maxRecDepth 10000
set_option maxHeartbeats 2000000
namespace Go.Proofs.YtckojpaklblnpaaGreatDoor.Th
open Go Go.RowKit Go.Proofs.YtckojpaklblnpaaGreatDoor.Ev
def cellsI (cs : List Int) : List C := cs.map fun n => C.ow (.lit (.int .i64 n))
def encA (cs : List Int) : List T := cs.map fun n => T.lit (.int .i64 n)
def init (ms : List ModT) : List Int := (ms.length : Int) :: List.replicate 17 0
@[simp] theorem cellsI_len (cs : List Int) : (cellsI cs).length = cs.length := by simp [cellsI]
theorem cellsI_at (cs : List Int) (k : Nat) (h : k < cs.length) : List.take 1 (List.drop k (cellsI cs)) = [C.ow (.lit (.int .i64 cs[k]))] := by
  have h' : k < (cellsI cs).length := by simpa using h
  rw [List.drop_eq_getElem_cons h']
  simp [cellsI]
@[simp] theorem encA_len (cs : List Int) : (encA cs).length = cs.length := by simp [encA]
end Go.Proofs.YtckojpaklblnpaaGreatDoor.Th
set_option linter.unusedVariables false
set_option linter.unusedSimpArgs false
set_option maxRecDepth 10000
set_option maxHeartbeats 2000000
namespace Go.Proofs.YtckojpaklblnpaaGreatDoor.Th
open Go Go.RowKit Go.Proofs.YtckojpaklblnpaaGreatDoor.Ev
def encU (l : List UInt8) : List (List T) := l.map fun b => [.lit (.int .u8 b.toNat)]
theorem encU_append (a b : List UInt8) : encU (a ++ b) = encU a ++ encU b := List.map_append
@[simp] theorem encU_len (a : List UInt8) : (encU a).length = a.length := List.length_map _
theorem bytesOf_encU : ∀ (l : List UInt8), bytesOf (encU l) = some l
  | [] => rfl
  | x :: r => by
    have h1 : Ev.byteOf [T.lit (.int .u8 x.toNat)] = some x := by
      simp [Ev.byteOf]
    have h2 : encU (x :: r) = [T.lit (.int .u8 x.toNat)] :: encU r := rfl
    rw [h2]
    unfold bytesOf
    rw [h1, bytesOf_encU r]
@[simp] theorem ownedRows_U : ∀ (l : List UInt8), ownedRows (l.map fun b => [C.ow (T.lit (Value.int IntKind.u8 (b.toNat : Int)))]) = some (encU l)
  | [] => rfl
  | x :: r => by
    have ih := ownedRows_U r
    simp only [List.map_cons]
    unfold ownedRows
    rw [ih]
    rfl
def opsN (ops : List OpT) : Nat → List UInt8
  | 0 => []
  | j + 1 => opsN ops j ++ (match ops[j]? with | some x => opT x | none => [])
def modH (i : Nat) (m : ModT) : List UInt8 := [109, 111, 100, 32] ++ Lib.itoa i ++ (if m.jumps ≠ [] then [32, 106, 117, 109, 112, 115] else []) ++ (if m.cached = true then [32, 99, 97, 99, 104, 101, 100] else []) ++ [10]
def modT (i : Nat) (m : ModT) : List UInt8 := modH i m ++ opsN m.ops m.ops.length
def prN (ms : List ModT) : Nat → List UInt8
  | 0 => []
  | i + 1 => prN ms i ++ (match ms[i]? with | some m => modT i m | none => [])
theorem modH_len (i : Nat) (hi : i < 2 ^ 40) (m : ModT) : (modH i m).length ≤ 50 := by
  have h1 := itoa_len (i : Int) (by omega) (by omega)
  have k1 : (if m.jumps ≠ [] then [32, 106, 117, 109, 112, 115] else ([] : List UInt8)).length ≤ 6 := by split <;> simp
  have k2 : (if m.cached = true then [32, 99, 97, 99, 104, 101, 100] else ([] : List UInt8)).length ≤ 7 := by split <;> simp
  unfold modH
  simp only [List.length_append, List.length_cons, List.length_nil]
  omega
theorem opsN_len (ops : List OpT) (h : ∀ x ∈ ops, OkN x) : ∀ j, (opsN ops j).length ≤ 300 * j
  | 0 => by simp [opsN]
  | j + 1 => by
    have ih := opsN_len ops h j
    unfold opsN
    cases hq : ops[j]? with
    | none => simp; omega
    | some x =>
      have := opT_len x (h x (List.mem_of_getElem? hq))
      simp
      omega
theorem prN_len (ms : List ModT) (h : ∀ m ∈ ms, m.ops.length ≤ 40 ∧ ∀ x ∈ m.ops, OkN x) : ∀ i, i ≤ 2 ^ 30 → (prN ms i).length ≤ 13000 * i
  | 0, _ => by simp [prN]
  | i + 1, hi => by
    have ih := prN_len ms h i (by omega)
    unfold prN
    cases hq : ms[i]? with
    | none => simp; omega
    | some m =>
      obtain ⟨h1, h2⟩ := h m (List.mem_of_getElem? hq)
      have k1 := modH_len i (by omega) m
      have k2 := opsN_len m.ops h2 m.ops.length
      unfold modT
      simp
      omega
open Classical in
theorem specB_ok {ms : List ModT} (h : specB ms = true) : ms.length ≤ 30 ∧ ∀ m ∈ ms, m.ops.length ≤ 40 ∧ ∀ x ∈ m.ops, OkN x := by
  have h0 := specB_len h
  refine ⟨h0, fun m hm => ?_⟩
  unfold specB at h
  obtain ⟨q1, q2, q3⟩ := of_decide_eq_true h
  obtain ⟨j, hj, rfl⟩ := List.getElem_of_mem hm
  refine ⟨q2 j hj, fun x hx => ?_⟩
  obtain ⟨k, hk, rfl⟩ := List.getElem_of_mem hx
  have h40 := q2 j hj
  have hop := (q3 j hj).1 k hk
  obtain ⟨p1, p2, p3, p4, p5, p6⟩ := fineB_parts ((opOkB_iff ..).mp hop).1
  have p7 := ((opOkB_iff ..).mp hop).2.1
  have hm := ((opOkB_iff ..).mp hop).2.2
  unfold marksB runB at hm
  simp only [Bool.and_eq_true, Bool.or_eq_true, decide_eq_true_eq] at hm
  have hrun := hm.2.2.1
  simp only [numOkB, Bool.and_eq_true, decide_eq_true_eq] at p1
  unfold refsT at p6
  refine ⟨by omega, ?_, by omega, ?_, p3⟩
  · split at p6 <;> omega
  · rcases hrun with hr | hr
    · omega
    · have := hr.1; omega
theorem c_spec_PrintIr (b : Bool) (ms : List ModT) (hms : ms.length ≤ 2 ^ 40) (hs : ∀ m ∈ ms, m.Small) : cw f_spec_PrintIr [.agg b (encM ms)] [] = some (.lit (.string (str (if specB ms then prN ms ms.length else []))), []) := by
  refine callW_run (by simp) fs_spec_PrintIr rfl rfl rfl ?_
  have f1 := c_spec_IrOk b ms hms hs
  simp only [cw, encM] at f1
  cases q : specB ms with
  | false =>
    rw [q] at f1
    simp [encM, f1]
  | true =>
  rw [q] at f1
  obtain ⟨h30, hok⟩ := specB_ok q
  simp [encM, f1]
  clear f1
  refine Mc.loop_ind (α := Nat) _ _ _ _ (fun i => I_spec_PrintIr_0 (.ptr 72 [(0, 0)] 0) (.vw 88 [] 0 1 false) (.lit (.int .i64 i)) [(72, boxI b ms), (88, { cells := [.ow (.sl 1 (encU (prN ms i)))], var := true })]) (fun i => ms.length - i) (fun i => i ≤ ms.length) 0 _ (by simp [prN, encU]) (by simp) ?_
  intro i hi ih
  have hlen := prN_len ms hok i (by omega)
  by_cases hl : i < ms.length
  rotate_left
  · have hi2 : i = ms.length := by omega
    rw [← hi2]
    have hb := bytesOf_encU (prN ms i)
    have hl2 := encU_len (prN ms i)
    generalize prN ms i = acc at hb hl2 hlen ⊢
    generalize encU acc = ea at hb hl2 ⊢
    simp [hl, hb]
  have hnx : prN ms (i + 1) = prN ms i ++ modT i ms[i] := by
    show prN ms i ++ _ = _
    rw [List.getElem?_eq_getElem hl]
  have ih' := fun σ' hσ' => ih (i + 1) σ' hσ' (by omega) (by omega)
  clear ih
  rw [hnx] at ih'
  have hwi := wrap_add i (by omega)
  obtain ⟨hm40, hmo⟩ := hok ms[i] (List.getElem_mem hl)
  have hmT : modT i ms[i] = modH i ms[i] ++ opsN ms[i].ops ms[i].ops.length := rfl
  rw [hmT] at ih'
  generalize (V.lit (Value.string (str (prN ms ms.length)))) = res at ih' ⊢
  generalize prN ms i = acc at hlen ih' ⊢
  refine cut1 _ fun c hc => ?_
  generalize hm : ms[i] = m at ih' hm40 hmo
  simp [hl]
  subst hc
  rw [Mc.at_seq, Mc.at_block]
  refine cutK _ fun K hK => ?_
  refine cut3 _ fun c12 hc12 => ?_
  have T12 : ∀ a : List UInt8, a ++ [10] = modH i m → a.length ≤ 50 → ∀ σ : F, σ.keep (E.trim f_spec_PrintIr 12) = J_spec_PrintIr_12 (.ptr 72 [(0, 0)] 0) (.vw 88 [] 0 1 false) (.lit (.int .i64 i)) (.lit (.string (str a))) [(72, boxI b ms), (88, { cells := [.ow (.sl 1 (encU acc))], var := true })] → Mc.at ⟨E, callW E fs, f_spec_PrintIr, [ResultVar.tmp 2], 0⟩ c12 K σ = some (res, []) := by
    intro a ha hal σ hσ
    subst hc12
    rw [Mc.at_seq]
    refine (at_region_of _ _ _ _ _ _ hσ).trans ?_
    clear hσ
    have hb1 : acc.length + a.length ≤ maxBytes := by unfold maxBytes; omega
    have hb2 : acc.length + (a.length + 1) ≤ maxBytes := by unfold maxBytes; omega
    have hE : encU acc ++ (encU a ++ [[T.lit (Value.int .u8 10)]]) = encU (acc ++ modH i m) := by rw [← ha, encU_append, encU_append]; rfl
    have hb2' : acc.length + (modH i m).length ≤ maxBytes := by rw [← ha]; simpa using hb2
    simp [hb1, hb2, hb2', str_list, hE]
    have hlen2 : (acc ++ modH i m).length ≤ 13000 * i + 51 := by rw [← ha]; simp; omega
    have hass : acc ++ (modH i m ++ opsN m.ops m.ops.length) = (acc ++ modH i m) ++ opsN m.ops m.ops.length := by simp
    rw [hass] at ih'
    generalize acc ++ modH i m = acc2 at hlen2 ih' ⊢
    clear hE hb1 hb2 hass
    refine Mc.loop_ind (α := Nat) _ _ _ _ (fun j => I_spec_PrintIr_1 (.ptr 72 [(0, 0)] 0) (.vw 88 [] 0 1 false) (.lit (.int .i64 i)) (.lit (.int .i64 j)) [(72, boxI b ms), (88, { cells := [.ow (.sl 1 (encU (acc2 ++ opsN m.ops j)))], var := true })]) (fun j => m.ops.length - j) (fun j => j ≤ m.ops.length) 0 _ (by simp [opsN]) (by simp) ?_
    intro j hj ihj
    by_cases hjl : j < m.ops.length
    rotate_left
    · have hj2 : j = m.ops.length := by omega
      subst hK
      rw [hj2]
      simp [hl, hm, ModT.enc, hwi]
      exact ih' _ (by simp)
    have hlj := opsN_len m.ops hmo j
    have hx := hmo m.ops[j] (List.getElem_mem hjl)
    have f2 := c_spec_l20Op b m.ops[j] hx
    have hxl := opT_len _ hx
    have hnj : opsN m.ops (j + 1) = opsN m.ops j ++ opT m.ops[j] := by
      show opsN m.ops j ++ _ = _
      rw [List.getElem?_eq_getElem hjl]
    have hEj : encU (acc2 ++ opsN m.ops j) ++ encU (opT m.ops[j]) = encU (acc2 ++ opsN m.ops (j + 1)) := by rw [hnj, ← encU_append, List.append_assoc]
    have hb3 : acc2.length + (opsN m.ops j).length + (opT m.ops[j]).length ≤ maxBytes := by unfold maxBytes; omega
    simp only [cw, OpT.enc_eq] at f2
    have ihj' := fun σ' hσ' => ihj (j + 1) σ' hσ' (by omega) (by omega)
    clear ihj
    have hl3 : (acc2 ++ opsN m.ops j).length = acc2.length + (opsN m.ops j).length := by simp
    rw [← hl3] at hb3
    have hb4 : (acc2 ++ opsN m.ops (j + 1)).length ≤ maxBytes := by rw [hnj]; simp; omega
    generalize acc2 ++ opsN m.ops (j + 1) = acc4 at hEj hb4 ihj'
    generalize acc2 ++ opsN m.ops j = acc3 at hb3 hEj ⊢
    generalize opT m.ops[j] = ox at f2 hb3 hEj
    simp [hl, hm, ModT.enc, OpT.enc_eq, hjl, f2, hb3, hb4, str_list, hEj, wrap_add j (by omega)]
    exact ihj' _ (by simp)
  clear hc12 hK ih'
  refine cut2 _ fun c10 hc10 => ?_
  have T10 : ∀ a : List UInt8, a ++ ((if m.cached = true then [32, 99, 97, 99, 104, 101, 100] else []) ++ [10]) = modH i m → a.length ≤ 40 → ∀ σ : F, σ.keep (E.trim f_spec_PrintIr 10) = J_spec_PrintIr_10 (.ptr 72 [(0, 0)] 0) (.vw 88 [] 0 1 false) (.lit (.int .i64 i)) (.lit (.string (str a))) [(72, boxI b ms), (88, { cells := [.ow (.sl 1 (encU acc))], var := true })] → Mc.at ⟨E, callW E fs, f_spec_PrintIr, [ResultVar.tmp 2], 0⟩ c10 K σ = some (res, []) := by
    intro a ha hal σ hσ
    subst hc10
    rw [Mc.at_seq, Mc.at_seq]
    refine (at_region_of _ _ _ _ _ _ hσ).trans ?_
    clear hσ
    have hb : a.length + 7 ≤ 9223372036854775807 := by omega
    cases hcd : m.cached with
    | false =>
      rw [hcd] at ha
      simp [hl, hm, ModT.enc, hcd]
      exact T12 a (by simpa using ha) (by omega) _ (by simp)
    | true =>
      rw [hcd] at ha
      simp [hl, hm, ModT.enc, hcd, hb]
      exact T12 (a ++ [32, 99, 97, 99, 104, 101, 100] ) (by simpa using ha) (by simp; omega) _ (by simp)
  clear hc10 T12
  have hd := c_spec_l4Decimal (i : Int) (by omega) (by omega)
  have hdl := itoa_len (i : Int) (by omega) (by omega)
  have hb1 : (Lib.itoa (i : Int)).length + 4 ≤ 9223372036854775807 := by omega
  have hb2 : 4 + (Lib.itoa (i : Int)).length ≤ 9223372036854775807 := by omega
  have hb3 : (Lib.itoa (i : Int)).length + 4 + 6 ≤ 9223372036854775807 := by omega
  have hb4 : (Lib.itoa (i : Int)).length + 1 + 1 + 1 + 1 + 6 ≤ 9223372036854775807 := by omega
  simp only [cw] at hd
  unfold modH at T10
  generalize Lib.itoa (i : Int) = dn at hd hdl hb1 hb2 hb3 hb4 T10
  by_cases hj : m.jumps = []
  · have hj' : (0 < m.jumps.length) = False := by rw [hj]; simp
    simp [hl, hm, ModT.enc, hd, hb1, hb2, hj']
    exact T10 ([109, 111, 100, 32] ++ dn) (by simp [hj]) (by simp; omega) _ (by simp)
  · have hj' : (0 < m.jumps.length) = True := eq_true (List.length_pos_iff.mpr hj)
    simp [hl, hm, ModT.enc, hd, hb1, hb2, hb3, hb4, hj']
    exact T10 ([109, 111, 100, 32] ++ dn ++ [32, 106, 117, 109, 112, 115] ) (by simp [hj]) (by simp; omega) _ (by simp)
end Go.Proofs.YtckojpaklblnpaaGreatDoor.Th
