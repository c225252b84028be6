/- Texts of IRs read: an Op out of its words, by the program. -/
import Derived.Test.YtckojpaklblnpaaGreatDoorKG1
import Derived.Test.YtckojpaklblnpaaGreatDoorKG3
set_option linter.unusedVariables false
set_option linter.unusedSimpArgs false
set_option maxRecDepth 10000
set_option maxHeartbeats 2000000
namespace Go.Proofs.YtckojpaklblnpaaGreatDoor.Th
open Go Go.RowKit Go.Proofs.YtckojpaklblnpaaGreatDoor.Ev
theorem str_extract (l : List UInt8) (a b : Nat) : (str l).extract a b = str ((l.drop a).take (b - a)) := by
  unfold str
  rw [ByteArray.extract_mk]
theorem str_get (l : List UInt8) (i : Nat) : (str l)[i]? = l[i]? := by
  unfold str
  simp [getElem?_def]
  rfl
attribute [simp] str_extract str_get
def numB (s : List UInt8) : Int × Bool := numIn (str s) 2147483647
theorem c_impl_numberIn (s : List UInt8) (h : s.length ≤ 2 ^ 40) : cw f_impl_numberIn [.lit (.string (str s)), .lit (.int .i64 2147483647)] [] = some (.tup [.lit (.int .i64 (numB s).1), .lit (.bool (numB s).2)], []) := by
  refine callW_ext (g := extNumIn) rfl ?_
  simp only [extNumIn, str_size]
  rw [if_pos (by omega)]
  rfl
theorem c_strings_HasPrefix (s p : List UInt8) : cw f_strings_HasPrefix [.lit (.string (str s)), .lit (.string (str p))] [] = some (.lit (.bool (Lib.hasPrefix s p)), []) := by
  refine callW_ext (g := extHasPrefix) rfl ?_
  simp only [extHasPrefix, str_list]
theorem hp_len {s p : List UInt8} (h : Lib.hasPrefix s p = true) : p.length ≤ s.length := (List.isPrefixOf_iff_prefix.mp h).length_le
def flg (t i : Bool) : Int := (if t then 4 else 0) + (if i then 8 else 0)
theorem flg4 (t i : Bool) : bits .or .i64 (flg t i) 4 = flg true i := by cases t <;> cases i <;> rfl
theorem flg8 (t i : Bool) : bits .or .i64 (flg t i) 8 = flg t true := by cases t <;> cases i <;> rfl
def rdW (st : OpT × Bool × Bool × Bool) (s : List UInt8) : OpT × Bool × Bool × Bool :=
  match st with
  | (x, t, i, ok) =>
    if s = [114, 101, 112, 101, 97, 116, 101, 100] then (.mk x.num x.kind x.ref true x.oneof [] x.quick x.run [], t, i, ok)
    else if s = [116, 97, 103] then (x, true, i, ok)
    else if s = [113, 117, 105, 99, 107] then (.mk x.num x.kind x.ref x.rep x.oneof [] true x.run [], t, i, ok)
    else if s = [105, 110, 108, 105, 110, 101] then (x, t, true, ok)
    else if Lib.hasPrefix s [64] = true then (.mk x.num x.kind (numB (s.drop 1)).1 x.rep x.oneof [] x.quick x.run [], t, i, ok && (numB (s.drop 1)).2)
    else if Lib.hasPrefix s [111, 110, 101, 111, 102] = true then (.mk x.num x.kind x.ref x.rep (numB (s.drop 5)).1 [] x.quick x.run [], t, i, ok && (numB (s.drop 5)).2)
    else if Lib.hasPrefix s [114, 117, 110] = true then (.mk x.num x.kind x.ref x.rep x.oneof [] x.quick (numB (s.drop 3)).1 [], t, i, ok && (numB (s.drop 3)).2)
    else (x, t, i, false)
def opH (ws : List (List UInt8)) : OpT × Bool × Bool × Bool := (.mk (numB (ws.getD 0 [])).1 (kindW (ws.getD 1 [])) 0 false 0 [] false 0 [], false, false, (numB (ws.getD 0 [])).2)
def opR (ws : List (List UInt8)) : OpT × Bool × Bool × Bool := (ws.drop 2).foldl rdW (opH ws)
def zeroOp : OpT := .mk 0 0 0 false 0 [] false 0 []
def opOfT (ws : List (List UInt8)) : OpT × Int × Bool := if ws.length < 2 then (zeroOp, 0, false) else ((opR ws).1, flg (opR ws).2.1 (opR ws).2.2.1, (opR ws).2.2.2 && !decide ((opR ws).1.kind = 0))
def Plain (x : OpT) : Prop := x.tag = [] ∧ x.inl = []
theorem rdW_plain {st : OpT × Bool × Bool × Bool} (s : List UInt8) (h : Plain st.1) : Plain (rdW st s).1 := by
  obtain ⟨x, t, i, ok⟩ := st
  unfold rdW
  dsimp only
  repeat' split
  all_goals first | exact h | exact ⟨rfl, rfl⟩
theorem opR_plain (ws : List (List UInt8)) : Plain (opR ws).1 := by
  have key : ∀ (l : List (List UInt8)) st, Plain st.1 → Plain (l.foldl rdW st).1 := by
    intro l
    induction l with
    | nil => intro st h; exact h
    | cons a r ih => intro st h; exact ih _ (rdW_plain a h)
  exact key _ _ ⟨rfl, rfl⟩
abbrev boxR (x : OpT) : O := { cells := [.own 9 [[.ow (.lit (.int .i64 x.num)), .ow (.lit (.int .i64 x.kind)), .ow (.lit (.int .i64 x.ref)), .ow (.lit (.bool x.rep)), .ow (.lit (.int .i64 x.oneof)), .ow (.sl 0 []), .ow (.lit (.bool x.quick)), .ow (.lit (.int .i64 x.run)), .ow (.sl 0 [])]]], box := true }
abbrev rawV (x : OpT) : V := .ov [.ow (.lit (.int .i64 x.num)), .ow (.lit (.int .i64 x.kind)), .ow (.lit (.int .i64 x.ref)), .ow (.lit (.bool x.rep)), .ow (.lit (.int .i64 x.oneof)), .ow (.sl 1 []), .ow (.lit (.bool x.quick)), .ow (.lit (.int .i64 x.run)), .ow (.sl 9 [])] true
def opFin (st : OpT × Bool × Bool × Bool) : Option (V × List (Option O)) := some (.tup [rawV st.1, .lit (.int .i64 (flg st.2.1 st.2.2.1)), .lit (.bool (st.2.2.2 && !decide (st.1.kind = 0)))], [])
theorem c_impl_opOf (b : Bool) (ws : List (List UInt8)) (h : ws.length ≤ 2 ^ 40) (hs : ∀ w ∈ ws, w.length ≤ 2 ^ 40) : cw f_impl_opOf [.val b (.sl 1 (ws.map encW))] [] = some (.tup [rawV (opOfT ws).1, .lit (.int .i64 (opOfT ws).2.1), .lit (.bool (opOfT ws).2.2)], []) := by
  refine callW_run (by simp) fs_impl_opOf rfl rfl rfl ?_
  by_cases h2 : ws.length < 2
  · have h2' : (ws.length : Int) < 2 := by omega
    simp [h2, h2', opOfT, zeroOp, OpT.num, OpT.kind, OpT.ref, OpT.rep, OpT.oneof, OpT.quick, OpT.run]
  obtain ⟨w0, w1, rest, rfl⟩ : ∃ w0 w1 rest, ws = w0 :: w1 :: rest := by
    match ws, h2 with
    | w0 :: w1 :: rest, _ => exact ⟨w0, w1, rest, rfl⟩
    | [], h2 => simp at h2
    | [_], h2 => simp at h2
  have hl : rest.length ≤ 2 ^ 40 := by simp at h; omega
  have hr : ∀ w ∈ rest, w.length ≤ 2 ^ 40 := fun w hw => hs w (by simp [hw])
  have e0 : some (V.tup [rawV (opOfT (w0 :: w1 :: rest)).1, .lit (.int .i64 (opOfT (w0 :: w1 :: rest)).2.1), .lit (.bool (opOfT (w0 :: w1 :: rest)).2.2)], ([] : List (Option O))) = opFin (rest.foldl rdW (.mk (numB w0).1 (kindW w1) 0 false 0 [] false 0 [], false, false, (numB w0).2)) := by
    unfold opOfT opR opFin
    rw [if_neg h2]
    rfl
  rw [e0]
  clear e0
  have f1 := c_impl_numberIn w0 (hs _ (by simp))
  have f2 := c_impl_KindOf w1
  simp only [cw] at f1 f2
  have n1 : (1 : Int) ≤ (rest.length : Int) + 1 + 1 := by omega
  have n2 : (2 : Int) ≤ (rest.length : Int) + 1 + 1 := by omega
  have n3 : ¬ ((rest.length : Int) + 1 + 1 < 2) := by omega
  have n4 : ((rest.length : Int) + 1 + 1).toNat = rest.length + 2 := by omega
  generalize (numB w0).1 = m1 at f1 ⊢
  generalize (numB w0).2 = ok0 at f1 ⊢
  have key : ∀ k : Int, ∀ σ : F, σ.keep (E.trim f_impl_opOf 12) = J_impl_opOf_12 (.val b (.sl 1 ((w0 :: w1 :: rest).map encW))) (.ptr 80 [(0, 0)] 0) (.ptr 104 [(0, 0)] 0) (.lit (.bool ok0)) [(80, boxR zeroOp), (104, boxR (.mk m1 k 0 false 0 [] false 0 []))] → ∀ c, some c = Tryz.f20.body.map (Code.drop 7) → Mc.at ⟨E, callW E fs, f_impl_opOf, Tryz.f20.results.toList, 0⟩ c [] σ = opFin (rest.foldl rdW (.mk m1 k 0 false 0 [] false 0 [], false, false, ok0)) := by
    intro k σ hσ c hc
    obtain rfl : c = _ := Option.some.inj (hc.trans rfl)
    simp only [Code.drop]
    repeat rw [Mc.at_seq]
    refine (at_region_of _ _ _ _ _ _ hσ).trans ?_
    clear hσ hc f1 f2
    have hfull : List.take rest.length (rest.map encW) = rest.map encW := List.take_of_length_le (by simp)
    simp [n2, n4]
    refine Mc.loop_ind (α := Nat × (OpT × Bool × Bool × Bool)) _ _ _ _ (fun a => I_impl_opOf_0 (.ptr 80 [(0, 0)] 0) (.ptr 104 [(0, 0)] 0) (.lit (.bool a.2.2.2.2)) (.lit (.int .i64 (flg a.2.2.1 a.2.2.2.1))) (.val b (.sl 1 (rest.map encW))) (.lit (.int .i64 rest.length)) (.lit (.int .i64 a.1)) [(80, boxR zeroOp), (104, boxR a.2.1)]) (fun a => rest.length - a.1) (fun a => a.1 ≤ rest.length ∧ a.2 = (rest.take a.1).foldl rdW (.mk m1 k 0 false 0 [] false 0 [], false, false, ok0)) (0, (.mk m1 k 0 false 0 [] false 0 [], false, false, ok0)) _ (by simp [zeroOp, flg, OpT.num, OpT.kind, OpT.ref, OpT.rep, OpT.oneof, OpT.quick, OpT.run, hfull]) ⟨by simp, by simp⟩ ?_
    intro ⟨i, x, t, f, ok⟩ ⟨hi, ha⟩ ih
    dsimp only at hi ha
    by_cases hil : i < rest.length
    rotate_left
    · rw [List.take_of_length_le (by omega)] at ha
      rw [← ha]
      unfold opFin
      cases ok with
      | false =>
        simp [hil]
        exact .h [(8, 104)] ⟨⟨by kernel_rfl, by rfl⟩, trivial⟩ (by kernel_rfl)
      | true =>
        by_cases hk : x.kind = 0
        · simp [hil, hk]
          exact .h [(8, 104)] ⟨⟨by kernel_rfl, by rfl⟩, trivial⟩ (by kernel_rfl)
        · simp [hil, hk]
          exact .h [(8, 104)] ⟨⟨by kernel_rfl, by rfl⟩, trivial⟩ (by kernel_rfl)
    have hs1 := hr rest[i] (List.getElem_mem hil)
    have nx : rdW (x, t, f, ok) rest[i] = (rest.take (i + 1)).foldl rdW (.mk m1 k 0 false 0 [] false 0 [], false, false, ok0) := by
      rw [take_next _ i hil, List.foldl_append, ← ha]; rfl
    have ih' := fun (st : OpT × Bool × Bool × Bool) (hst : st = (rest.take (i + 1)).foldl rdW (.mk m1 k 0 false 0 [] false 0 [], false, false, ok0)) σ' hσ' => ih (i + 1, st) σ' hσ' ⟨by simp; omega, hst⟩ (by simp; omega)
    clear ih ha
    have hil' : (i : Int) < (rest.length : Int) := by omega
    generalize hg : rest[i] = s at hs1 nx
    have hgw : (rest.map encW)[i]? = some (encW s) := by simp [hil, hg]
    clear hg
    have wi : IntKind.wrap .i64 ((i : Int) + 1) = ((i + 1 : Nat) : Int) := by rw [wrap_add i (by omega)]; omega
    generalize (rest.map encW) = RW at hgw ih' ⊢
    generalize rest.foldl rdW (.mk m1 k 0 false 0 [] false 0 [], false, false, ok0) = fin at ih' ⊢
    generalize (rest.take (i + 1)).foldl rdW (.mk m1 k 0 false 0 [] false 0 [], false, false, ok0) = nxt at nx ih'
    have g1 := c_strings_HasPrefix s [64]
    have g2 := c_strings_HasPrefix s [111, 110, 101, 111, 102]
    have g3 := c_strings_HasPrefix s [114, 117, 110]
    have g4 := c_impl_numberIn (s.drop 1) (by simp; omega)
    have g5 := c_impl_numberIn (s.drop 5) (by simp; omega)
    have g6 := c_impl_numberIn (s.drop 3) (by simp; omega)
    have t4 : (s.drop 1).take (s.length - 1) = s.drop 1 := List.take_of_length_le (by simp)
    have t5 : (s.drop 5).take (s.length - 5) = s.drop 5 := List.take_of_length_le (by simp)
    have t6 : (s.drop 3).take (s.length - 3) = s.drop 3 := List.take_of_length_le (by simp)
    simp only [cw] at g1 g2 g3 g4 g5 g6
    unfold rdW at nx
    dsimp only at nx
    by_cases k1 : s = [114, 101, 112, 101, 97, 116, 101, 100]
    · rw [if_pos k1] at nx
      simp [hil', hgw, encW, k1, wi]
      cases ok <;> simp
      all_goals refine ih' _ nx _ (by simp [wrap_add i (show i < 2 ^ 62 by omega), OpT.num, OpT.kind, OpT.ref, OpT.rep, OpT.oneof, OpT.quick, OpT.run])
    have k1' := eq_false k1
    rw [if_neg k1] at nx
    by_cases k2 : s = [116, 97, 103]
    · rw [if_pos k2] at nx
      simp [hil', hgw, encW, k2, wi, flg4]
      cases ok <;> simp
      all_goals refine ih' _ nx _ (by simp [wrap_add i (show i < 2 ^ 62 by omega), OpT.num, OpT.kind, OpT.ref, OpT.rep, OpT.oneof, OpT.quick, OpT.run])
    rw [if_neg k2] at nx
    by_cases k3 : s = [113, 117, 105, 99, 107]
    · rw [if_pos k3] at nx
      simp [hil', hgw, encW, k3, wi]
      cases ok <;> simp
      all_goals refine ih' _ nx _ (by simp [wrap_add i (show i < 2 ^ 62 by omega), OpT.num, OpT.kind, OpT.ref, OpT.rep, OpT.oneof, OpT.quick, OpT.run])
    rw [if_neg k3] at nx
    by_cases k4 : s = [105, 110, 108, 105, 110, 101]
    · rw [if_pos k4] at nx
      simp [hil', hgw, encW, k4, wi, flg8]
      cases ok <;> simp
      all_goals refine ih' _ nx _ (by simp [wrap_add i (show i < 2 ^ 62 by omega), OpT.num, OpT.kind, OpT.ref, OpT.rep, OpT.oneof, OpT.quick, OpT.run])
    rw [if_neg k4] at nx
    cases p1 : Lib.hasPrefix s [64] with
    | true =>
      rw [p1] at nx g1
      rw [if_pos rfl] at nx
      have hl1 := hp_len p1
      simp only [List.length_cons, List.length_nil] at hl1
      have l1 : (1 : Int) ≤ (s.length : Int) := by omega
      generalize (numB (s.drop 1)).1 = v1 at g4 nx
      generalize (numB (s.drop 1)).2 = v2 at g4 nx
      simp [hil', hgw, encW, k1, k2, k3, k4, wi, g1, l1, t4, g4, -List.drop_one]
      cases ok <;> (try simp only [Bool.false_and, Bool.true_and] at nx) <;> (try simp)
      all_goals refine ih' _ nx _ (by simp [wrap_add i (show i < 2 ^ 62 by omega), OpT.num, OpT.kind, OpT.ref, OpT.rep, OpT.oneof, OpT.quick, OpT.run])
    | false =>
    rw [p1] at nx g1
    rw [if_neg (by simp)] at nx
    cases p2 : Lib.hasPrefix s [111, 110, 101, 111, 102] with
    | true =>
      rw [p2] at nx g2
      rw [if_pos rfl] at nx
      have hl1 := hp_len p2
      simp only [List.length_cons, List.length_nil] at hl1
      have l1 : 5 ≤ s.length := by omega
      have l1i : (5 : Int) ≤ (s.length : Int) := by omega
      generalize (numB (s.drop 5)).1 = v1 at g5 nx
      generalize (numB (s.drop 5)).2 = v2 at g5 nx
      simp [hil', hgw, encW, k1, k2, k3, k4, wi, g1, g2, l1, l1i, t5, g5]
      cases ok <;> (try simp only [Bool.false_and, Bool.true_and] at nx) <;> (try simp)
      all_goals refine ih' _ nx _ (by simp [wrap_add i (show i < 2 ^ 62 by omega), OpT.num, OpT.kind, OpT.ref, OpT.rep, OpT.oneof, OpT.quick, OpT.run])
    | false =>
    rw [p2] at nx g2
    rw [if_neg (by simp)] at nx
    cases p3 : Lib.hasPrefix s [114, 117, 110] with
    | true =>
      rw [p3] at nx g3
      rw [if_pos rfl] at nx
      have hl1 := hp_len p3
      simp only [List.length_cons, List.length_nil] at hl1
      have l1 : 3 ≤ s.length := by omega
      have l1i : (3 : Int) ≤ (s.length : Int) := by omega
      generalize (numB (s.drop 3)).1 = v1 at g6 nx
      generalize (numB (s.drop 3)).2 = v2 at g6 nx
      simp [hil', hgw, encW, k1, k2, k3, k4, wi, g1, g2, g3, l1, l1i, t6, g6]
      cases ok <;> (try simp only [Bool.false_and, Bool.true_and] at nx) <;> (try simp)
      all_goals refine ih' _ nx _ (by simp [wrap_add i (show i < 2 ^ 62 by omega), OpT.num, OpT.kind, OpT.ref, OpT.rep, OpT.oneof, OpT.quick, OpT.run])
    | false =>
      rw [p3] at nx g3
      rw [if_neg (by simp)] at nx
      simp [hil', hgw, encW, k1, k2, k3, k4, wi, g1, g2, g3]
      cases ok <;> (try simp only [Bool.false_and, Bool.true_and] at nx) <;> (try simp)
      all_goals refine ih' _ nx _ (by simp [wrap_add i (show i < 2 ^ 62 by omega), OpT.num, OpT.kind, OpT.ref, OpT.rep, OpT.oneof, OpT.quick, OpT.run])
  refine cutG 7 _ fun c hc => ?_
  simp only [Code.graft]
  have key := fun k σ hσ => key k σ hσ c (by rw [hc]; rfl)
  clear hc
  unfold kindW
  by_cases q1 : w1 = [109, 101, 115, 115, 97, 103, 101]
  · rw [if_pos q1]
    subst q1
    simp [n1, n3, encW, f1, f2]
    exact key 16 _ (by simp [zeroOp, encW, OpT.num, OpT.kind, OpT.ref, OpT.rep, OpT.oneof, OpT.quick, OpT.run])
  rw [if_neg q1]
  by_cases q2 : w1 = [101, 110, 117, 109]
  · rw [if_pos q2]
    subst q2
    simp [n1, n3, encW, f1, f2]
    exact key 17 _ (by simp [zeroOp, encW, OpT.num, OpT.kind, OpT.ref, OpT.rep, OpT.oneof, OpT.quick, OpT.run])
  · rw [if_neg q2]
    simp [n1, n3, encW, f1, f2, q1, q2]
    exact key (kindOf w1) _ (by simp [zeroOp, encW, OpT.num, OpT.kind, OpT.ref, OpT.rep, OpT.oneof, OpT.quick, OpT.run])
end Go.Proofs.YtckojpaklblnpaaGreatDoor.Th
