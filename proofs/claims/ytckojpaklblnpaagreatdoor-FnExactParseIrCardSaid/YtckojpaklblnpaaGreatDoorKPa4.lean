/- Texts of IRs read: an Op out of its words, by the reference. -/
import Derived.Test.YtckojpaklblnpaaGreatDoorKG1
import Derived.Test.YtckojpaklblnpaaGreatDoorKPa3
set_option linter.unusedVariables false
set_option linter.unusedSimpArgs false
set_option maxRecDepth 10000
set_option maxHeartbeats 2000000
namespace Go.Proofs.YtckojpaklblnpaaGreatDoor.Th
open Go Go.RowKit Go.Proofs.YtckojpaklblnpaaGreatDoor.Ev
def rdS (st : OpT × Bool × Bool) (s : List UInt8) : OpT × Bool × Bool :=
  match st with
  | (x, t, i) =>
    if s = [114, 101, 112, 101, 97, 116, 101, 100] then (.mk x.num x.kind x.ref true x.oneof [] x.quick x.run [], t, i)
    else if s = [116, 97, 103] then (x, true, i)
    else if s = [113, 117, 105, 99, 107] then (.mk x.num x.kind x.ref x.rep x.oneof [] true x.run [], t, i)
    else if s = [105, 110, 108, 105, 110, 101] then (x, t, true)
    else if Lib.hasPrefix s [64] = true then (.mk x.num x.kind (tailT s [64]) x.rep x.oneof [] x.quick x.run [], t, i)
    else if Lib.hasPrefix s [111, 110, 101, 111, 102] = true then (.mk x.num x.kind x.ref x.rep (tailT s [111, 110, 101, 111, 102]) [] x.quick x.run [], t, i)
    else if Lib.hasPrefix s [114, 117, 110] = true then (.mk x.num x.kind x.ref x.rep x.oneof [] x.quick (tailT s [114, 117, 110]) [], t, i)
    else (x, t, i)
def readH (ws : List (List UInt8)) : OpT × Bool × Bool := (if 1 < ws.length then .mk (l8n (ws.getD 0 [])).1 (kindW (ws.getD 1 [])) 0 false 0 [] false 0 [] else zeroOp, false, false)
def readR (ws : List (List UInt8)) : OpT × Bool × Bool := (ws.drop 2).foldl rdS (readH ws)
theorem rdS_plain {st : OpT × Bool × Bool} (s : List UInt8) (h : Plain st.1) : Plain (rdS st s).1 := by
  obtain ⟨x, t, i⟩ := st
  unfold rdS
  dsimp only
  repeat' split
  all_goals first | exact h | exact ⟨rfl, rfl⟩
theorem readR_plain (ws : List (List UInt8)) : Plain (readR ws).1 := by
  have key : ∀ (l : List (List UInt8)) st, Plain st.1 → Plain (l.foldl rdS st).1 := by
    intro l
    induction l with
    | nil => intro st h; exact h
    | cons a r ih => intro st h; exact ih _ (rdS_plain a h)
  refine key _ _ ?_
  unfold readH
  split <;> exact ⟨rfl, rfl⟩
abbrev nilV (x : OpT) : V := .ov [.ow (.lit (.int .i64 x.num)), .ow (.lit (.int .i64 x.kind)), .ow (.lit (.int .i64 x.ref)), .ow (.lit (.bool x.rep)), .ow (.lit (.int .i64 x.oneof)), .ow (.sl 0 []), .ow (.lit (.bool x.quick)), .ow (.lit (.int .i64 x.run)), .ow (.sl 0 [])] true
def readFin (st : OpT × Bool × Bool) : Option (V × List (Option O)) := some (.tup [nilV st.1, .lit (.int .i64 (flg st.2.1 st.2.2))], [])
theorem c_spec_l20Read (b : Bool) (ws : List (List UInt8)) (h : ws.length ≤ 2 ^ 40) (hs : ∀ w ∈ ws, w.length ≤ 2 ^ 40) : cw f_spec_l20Read [.val b (.sl 1 (ws.map encW))] [] = readFin (readR ws) := by
  refine callW_run (by simp) fs_spec_l20Read rfl rfl rfl ?_
  unfold readR readH
  by_cases h2 : 1 < ws.length
  · have f1 := c_spec_l8Number (ws.getD 0 []) (by
      rw [List.getD_eq_getElem?_getD, List.getElem?_eq_getElem (by omega)]; exact hs _ (List.getElem_mem _))
    have f2 := c_spec_l20Kind (ws.getD 1 [])
    have g0 : (ws.map encW)[0]? = some [.lit (.string (str (ws.getD 0 [])))] := by
      rw [List.getElem?_map, List.getD_eq_getElem?_getD, List.getElem?_eq_getElem (by omega)]; rfl
    have g1 : (ws.map encW)[1]? = some [.lit (.string (str (ws.getD 1 [])))] := by
      rw [List.getElem?_map, List.getD_eq_getElem?_getD, List.getElem?_eq_getElem h2]; rfl
    rw [if_pos h2]
    simp only [cw] at f1 f2
    generalize (l8n (ws.getD 0 [])).1 = m1 at f1 ⊢
    generalize (l8n (ws.getD 0 [])).2 = ok0 at f1
    generalize kindW (ws.getD 1 []) = k at f2 ⊢
    have hlen : (ws.map encW).length = ws.length := by simp
    have hdrop : ∀ i, (ws.map encW)[i]? = ws[i]?.map encW := fun i => List.getElem?_map
    have h2i : (1 : Int) < (ws.length : Int) := by omega
    generalize ws.getD 0 [] = w0 at f1 g0
    generalize ws.getD 1 [] = w1 at f2 g1
    generalize ws.map encW = RW at g0 g1 hlen hdrop ⊢
    have g1' : ∀ h : 1 < RW.length, RW[1] = [.lit (.string (str w1))] := fun h => by have := List.getElem?_eq_getElem h; rw [g1] at this; exact (Option.some.inj this).symm
    simp [hlen, h2, h2i, g0, g1, g1', f1, f2]
    refine Mc.loop_ind (α := Nat × (OpT × Bool × Bool)) _ _ _ _ (fun a => I_spec_l20Read_0 (.val b (.sl 1 RW)) (.ptr 80 [(0, 0)] 0) (.ptr 96 [(0, 0)] 0) (.lit (.int .i64 (flg a.2.2.1 a.2.2.2))) (.lit (.int .i64 a.1)) [(80, boxR zeroOp), (96, boxR a.2.1)]) (fun a => ws.length - a.1) (fun a => 2 ≤ a.1 ∧ (a.1 = 2 ∨ a.1 ≤ ws.length) ∧ a.2 = ((ws.drop 2).take (a.1 - 2)).foldl rdS (.mk m1 k 0 false 0 [] false 0 [], false, false)) (2, (.mk m1 k 0 false 0 [] false 0 [], false, false)) _ (by simp [zeroOp, flg, OpT.num, OpT.kind, OpT.ref, OpT.rep, OpT.oneof, OpT.quick, OpT.run]) ⟨by simp, by simp, by simp⟩ ?_
    intro ⟨i, x, t, f⟩ ⟨hi2, hi, ha⟩ ih
    dsimp only at hi2 hi ha
    by_cases hil : i < ws.length
    rotate_left
    · have hall : (ws.drop 2).take (i - 2) = ws.drop 2 := List.take_of_length_le (by simp; omega)
      rw [hall] at ha
      try unfold zeroOp at ha
      try simp only [zeroOp]
      rw [← ha]
      have hil' : ¬ ((i : Int) < (ws.length : Int)) := by omega
      simp [hil, hil', hlen, readFin]
    have hs1 := hs ws[i] (List.getElem_mem hil)
    have e2 : (ws.drop 2)[i - 2]? = some ws[i] := by
      rw [List.getElem?_drop, show 2 + (i - 2) = i by omega, List.getElem?_eq_getElem hil]
    have nx : rdS (x, t, f) ws[i] = ((ws.drop 2).take (i + 1 - 2)).foldl rdS (.mk m1 k 0 false 0 [] false 0 [], false, false) := by
      have hlt : i - 2 < (ws.drop 2).length := by simp; omega
      rw [show i + 1 - 2 = (i - 2) + 1 by omega, take_next _ (i - 2) hlt, List.foldl_append, ← ha]
      rw [List.getElem?_eq_getElem hlt] at e2
      rw [Option.some.inj e2]
      rfl
    have ih' := fun (st : OpT × Bool × Bool) (hst : st = ((ws.drop 2).take (i + 1 - 2)).foldl rdS (.mk m1 k 0 false 0 [] false 0 [], false, false)) σ' hσ' => ih (i + 1, st) σ' hσ' ⟨by simp; omega, .inr (by simp; omega), hst⟩ (by simp; omega)
    clear ih ha e2
    have hil' : (i : Int) < (ws.length : Int) := by omega
    have hgw : RW[i]? = some (encW ws[i]) := by rw [hdrop, List.getElem?_eq_getElem hil]; rfl
    generalize ws[i] = s at hs1 nx hgw
    have hgi : ∀ h : i < RW.length, RW[i] = encW s := fun h => by have := List.getElem?_eq_getElem h; rw [hgw] at this; exact (Option.some.inj this).symm
    have wi : IntKind.wrap .i64 ((i : Int) + 1) = (i : Int) + 1 := wrap_add i (by omega)
    generalize ((ws.drop 2).take (i + 1 - 2)).foldl rdS (.mk m1 k 0 false 0 [] false 0 [], false, false) = nxt at nx ih'
    generalize hfin : (ws.drop 2).foldl rdS _ = fin at ih' ⊢
    have k1 := c_spec_l8Begins s [64]
    have k2 := c_spec_l8Begins s [111, 110, 101, 111, 102]
    have k3 := c_spec_l8Begins s [114, 117, 110]
    have t1 := c_spec_l20Tail s [64] hs1 (by simp)
    have t2 := c_spec_l20Tail s [111, 110, 101, 111, 102] hs1 (by simp)
    have t3 := c_spec_l20Tail s [114, 117, 110] hs1 (by simp)
    simp only [cw] at k1 k2 k3 t1 t2 t3
    unfold rdS at nx
    dsimp only at nx
    clear f1 f2
    by_cases j1 : s = [114, 101, 112, 101, 97, 116, 101, 100]
    · rw [if_pos j1] at nx
      simp [hlen, hil', hil, hgw, hgi, encW, j1, wi]
      exact ih' _ nx _ (by simp [wi, hil, OpT.num, OpT.kind, OpT.ref, OpT.rep, OpT.oneof, OpT.quick, OpT.run])
    rw [if_neg j1] at nx
    by_cases j2 : s = [116, 97, 103]
    · rw [if_pos j2] at nx
      simp [hlen, hil', hil, hgw, hgi, encW, j2, wi, flg4]
      exact ih' _ nx _ (by simp [wi, hil, OpT.num, OpT.kind, OpT.ref, OpT.rep, OpT.oneof, OpT.quick, OpT.run])
    rw [if_neg j2] at nx
    by_cases j3 : s = [113, 117, 105, 99, 107]
    · rw [if_pos j3] at nx
      simp [hlen, hil', hil, hgw, hgi, encW, j3, wi]
      exact ih' _ nx _ (by simp [wi, hil, OpT.num, OpT.kind, OpT.ref, OpT.rep, OpT.oneof, OpT.quick, OpT.run])
    rw [if_neg j3] at nx
    by_cases j4 : s = [105, 110, 108, 105, 110, 101]
    · rw [if_pos j4] at nx
      simp [hlen, hil', hil, hgw, hgi, encW, j4, wi, flg8]
      exact ih' _ nx _ (by simp [wi, hil, OpT.num, OpT.kind, OpT.ref, OpT.rep, OpT.oneof, OpT.quick, OpT.run])
    rw [if_neg j4] at nx
    cases p1 : Lib.hasPrefix s [64] with
    | true =>
      rw [p1] at nx k1
      rw [if_pos rfl] at nx
      generalize tailT s [64] = v1 at t1 nx
      simp [hlen, hil', hil, hgw, hgi, encW, j1, j2, j3, j4, k1, t1, wi]
      exact ih' _ nx _ (by simp [wi, hil, OpT.num, OpT.kind, OpT.ref, OpT.rep, OpT.oneof, OpT.quick, OpT.run])
    | false =>
    rw [p1] at nx k1
    rw [if_neg (by simp)] at nx
    cases p2 : Lib.hasPrefix s [111, 110, 101, 111, 102] with
    | true =>
      rw [p2] at nx k2
      rw [if_pos rfl] at nx
      generalize tailT s [111, 110, 101, 111, 102] = v1 at t2 nx
      simp [hlen, hil', hil, hgw, hgi, encW, j1, j2, j3, j4, k1, k2, t2, wi]
      exact ih' _ nx _ (by simp [wi, hil, OpT.num, OpT.kind, OpT.ref, OpT.rep, OpT.oneof, OpT.quick, OpT.run])
    | false =>
    rw [p2] at nx k2
    rw [if_neg (by simp)] at nx
    cases p3 : Lib.hasPrefix s [114, 117, 110] with
    | true =>
      rw [p3] at nx k3
      rw [if_pos rfl] at nx
      generalize tailT s [114, 117, 110] = v1 at t3 nx
      simp [hlen, hil', hil, hgw, hgi, encW, j1, j2, j3, j4, k1, k2, k3, t3, wi]
      exact ih' _ nx _ (by simp [wi, hil, OpT.num, OpT.kind, OpT.ref, OpT.rep, OpT.oneof, OpT.quick, OpT.run])
    | false =>
      rw [p3] at nx k3
      rw [if_neg (by simp)] at nx
      simp [hlen, hil', hil, hgw, hgi, encW, j1, j2, j3, j4, k1, k2, k3, wi]
      exact ih' _ nx _ (by simp [wi, hil, OpT.num, OpT.kind, OpT.ref, OpT.rep, OpT.oneof, OpT.quick, OpT.run])
  · have h2i : ¬ ((1 : Int) < (ws.length : Int)) := by omega
    rw [if_neg h2]
    have hlen : (ws.map encW).length = ws.length := by simp
    have hdrop : ∀ i, (ws.map encW)[i]? = ws[i]?.map encW := fun i => List.getElem?_map
    generalize ws.map encW = RW at hlen hdrop ⊢
    simp [hlen, h2, h2i]
    refine Mc.loop_ind (α := Nat × (OpT × Bool × Bool)) _ _ _ _ (fun a => I_spec_l20Read_0 (.val b (.sl 1 RW)) (.ptr 80 [(0, 0)] 0) (.ptr 96 [(0, 0)] 0) (.lit (.int .i64 (flg a.2.2.1 a.2.2.2))) (.lit (.int .i64 a.1)) [(80, boxR zeroOp), (96, boxR a.2.1)]) (fun a => ws.length - a.1) (fun a => 2 ≤ a.1 ∧ (a.1 = 2 ∨ a.1 ≤ ws.length) ∧ a.2 = ((ws.drop 2).take (a.1 - 2)).foldl rdS (.mk 0 0 0 false 0 [] false 0 [], false, false)) (2, (.mk 0 0 0 false 0 [] false 0 [], false, false)) _ (by simp [zeroOp, flg, OpT.num, OpT.kind, OpT.ref, OpT.rep, OpT.oneof, OpT.quick, OpT.run]) ⟨by simp, by simp, by simp⟩ ?_
    intro ⟨i, x, t, f⟩ ⟨hi2, hi, ha⟩ ih
    dsimp only at hi2 hi ha
    by_cases hil : i < ws.length
    rotate_left
    · have hall : (ws.drop 2).take (i - 2) = ws.drop 2 := List.take_of_length_le (by simp; omega)
      rw [hall] at ha
      try unfold zeroOp at ha
      try simp only [zeroOp]
      rw [← ha]
      have hil' : ¬ ((i : Int) < (ws.length : Int)) := by omega
      simp [hil, hil', hlen, readFin]
    have hs1 := hs ws[i] (List.getElem_mem hil)
    have e2 : (ws.drop 2)[i - 2]? = some ws[i] := by
      rw [List.getElem?_drop, show 2 + (i - 2) = i by omega, List.getElem?_eq_getElem hil]
    have nx : rdS (x, t, f) ws[i] = ((ws.drop 2).take (i + 1 - 2)).foldl rdS (.mk 0 0 0 false 0 [] false 0 [], false, false) := by
      have hlt : i - 2 < (ws.drop 2).length := by simp; omega
      rw [show i + 1 - 2 = (i - 2) + 1 by omega, take_next _ (i - 2) hlt, List.foldl_append, ← ha]
      rw [List.getElem?_eq_getElem hlt] at e2
      rw [Option.some.inj e2]
      rfl
    have ih' := fun (st : OpT × Bool × Bool) (hst : st = ((ws.drop 2).take (i + 1 - 2)).foldl rdS (.mk 0 0 0 false 0 [] false 0 [], false, false)) σ' hσ' => ih (i + 1, st) σ' hσ' ⟨by simp; omega, .inr (by simp; omega), hst⟩ (by simp; omega)
    clear ih ha e2
    have hil' : (i : Int) < (ws.length : Int) := by omega
    have hgw : RW[i]? = some (encW ws[i]) := by rw [hdrop, List.getElem?_eq_getElem hil]; rfl
    generalize ws[i] = s at hs1 nx hgw
    have hgi : ∀ h : i < RW.length, RW[i] = encW s := fun h => by have := List.getElem?_eq_getElem h; rw [hgw] at this; exact (Option.some.inj this).symm
    have wi : IntKind.wrap .i64 ((i : Int) + 1) = (i : Int) + 1 := wrap_add i (by omega)
    generalize ((ws.drop 2).take (i + 1 - 2)).foldl rdS (.mk 0 0 0 false 0 [] false 0 [], false, false) = nxt at nx ih'
    generalize hfin : (ws.drop 2).foldl rdS _ = fin at ih' ⊢
    have k1 := c_spec_l8Begins s [64]
    have k2 := c_spec_l8Begins s [111, 110, 101, 111, 102]
    have k3 := c_spec_l8Begins s [114, 117, 110]
    have t1 := c_spec_l20Tail s [64] hs1 (by simp)
    have t2 := c_spec_l20Tail s [111, 110, 101, 111, 102] hs1 (by simp)
    have t3 := c_spec_l20Tail s [114, 117, 110] hs1 (by simp)
    simp only [cw] at k1 k2 k3 t1 t2 t3
    unfold rdS at nx
    dsimp only at nx
    skip
    by_cases j1 : s = [114, 101, 112, 101, 97, 116, 101, 100]
    · rw [if_pos j1] at nx
      simp [hlen, hil', hil, hgw, hgi, encW, j1, wi]
      exact ih' _ nx _ (by simp [wi, hil, OpT.num, OpT.kind, OpT.ref, OpT.rep, OpT.oneof, OpT.quick, OpT.run])
    rw [if_neg j1] at nx
    by_cases j2 : s = [116, 97, 103]
    · rw [if_pos j2] at nx
      simp [hlen, hil', hil, hgw, hgi, encW, j2, wi, flg4]
      exact ih' _ nx _ (by simp [wi, hil, OpT.num, OpT.kind, OpT.ref, OpT.rep, OpT.oneof, OpT.quick, OpT.run])
    rw [if_neg j2] at nx
    by_cases j3 : s = [113, 117, 105, 99, 107]
    · rw [if_pos j3] at nx
      simp [hlen, hil', hil, hgw, hgi, encW, j3, wi]
      exact ih' _ nx _ (by simp [wi, hil, OpT.num, OpT.kind, OpT.ref, OpT.rep, OpT.oneof, OpT.quick, OpT.run])
    rw [if_neg j3] at nx
    by_cases j4 : s = [105, 110, 108, 105, 110, 101]
    · rw [if_pos j4] at nx
      simp [hlen, hil', hil, hgw, hgi, encW, j4, wi, flg8]
      exact ih' _ nx _ (by simp [wi, hil, OpT.num, OpT.kind, OpT.ref, OpT.rep, OpT.oneof, OpT.quick, OpT.run])
    rw [if_neg j4] at nx
    cases p1 : Lib.hasPrefix s [64] with
    | true =>
      rw [p1] at nx k1
      rw [if_pos rfl] at nx
      generalize tailT s [64] = v1 at t1 nx
      simp [hlen, hil', hil, hgw, hgi, encW, j1, j2, j3, j4, k1, t1, wi]
      exact ih' _ nx _ (by simp [wi, hil, OpT.num, OpT.kind, OpT.ref, OpT.rep, OpT.oneof, OpT.quick, OpT.run])
    | false =>
    rw [p1] at nx k1
    rw [if_neg (by simp)] at nx
    cases p2 : Lib.hasPrefix s [111, 110, 101, 111, 102] with
    | true =>
      rw [p2] at nx k2
      rw [if_pos rfl] at nx
      generalize tailT s [111, 110, 101, 111, 102] = v1 at t2 nx
      simp [hlen, hil', hil, hgw, hgi, encW, j1, j2, j3, j4, k1, k2, t2, wi]
      exact ih' _ nx _ (by simp [wi, hil, OpT.num, OpT.kind, OpT.ref, OpT.rep, OpT.oneof, OpT.quick, OpT.run])
    | false =>
    rw [p2] at nx k2
    rw [if_neg (by simp)] at nx
    cases p3 : Lib.hasPrefix s [114, 117, 110] with
    | true =>
      rw [p3] at nx k3
      rw [if_pos rfl] at nx
      generalize tailT s [114, 117, 110] = v1 at t3 nx
      simp [hlen, hil', hil, hgw, hgi, encW, j1, j2, j3, j4, k1, k2, k3, t3, wi]
      exact ih' _ nx _ (by simp [wi, hil, OpT.num, OpT.kind, OpT.ref, OpT.rep, OpT.oneof, OpT.quick, OpT.run])
    | false =>
      rw [p3] at nx k3
      rw [if_neg (by simp)] at nx
      simp [hlen, hil', hil, hgw, hgi, encW, j1, j2, j3, j4, k1, k2, k3, wi]
      exact ih' _ nx _ (by simp [wi, hil, OpT.num, OpT.kind, OpT.ref, OpT.rep, OpT.oneof, OpT.quick, OpT.run])
end Go.Proofs.YtckojpaklblnpaaGreatDoor.Th
