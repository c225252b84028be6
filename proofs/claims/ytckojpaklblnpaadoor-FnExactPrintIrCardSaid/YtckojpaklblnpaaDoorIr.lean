/- IRs: what they are, and their copies. -/
import Derived.Test.YtckojpaklblnpaaDoorComm
import Derived.Test.YtckojpaklblnpaaDoorBytes
import Derived.Test.YtckojpaklblnpaaDoorInts
set_option linter.unusedVariables false
set_option linter.unusedSimpArgs false
set_option maxRecDepth 10000
set_option maxHeartbeats 2000000
namespace Go.Proofs.YtckojpaklblnpaaDoor.Th
open Go Go.RowKit Go.Proofs.YtckojpaklblnpaaDoor.Ev

/-- An operation of an IR. -/
inductive OpT where
  | mk (num kind ref : Int) (rep : Bool) (oneof : Int) (tag : List Int) (quick : Bool) (run : Int) (inl : List OpT)
  deriving Inhabited

namespace OpT
def num : OpT → Int | .mk a _ _ _ _ _ _ _ _ => a
def kind : OpT → Int | .mk _ a _ _ _ _ _ _ _ => a
def ref : OpT → Int | .mk _ _ a _ _ _ _ _ _ => a
def rep : OpT → Bool | .mk _ _ _ a _ _ _ _ _ => a
def oneof : OpT → Int | .mk _ _ _ _ a _ _ _ _ => a
def tag : OpT → List Int | .mk _ _ _ _ _ a _ _ _ => a
def quick : OpT → Bool | .mk _ _ _ _ _ _ a _ _ => a
def run : OpT → Int | .mk _ _ _ _ _ _ _ a _ => a
def inl : OpT → List OpT | .mk _ _ _ _ _ _ _ _ a => a
end OpT

mutual
def OpT.enc : OpT → List T
  | .mk a b c d e f g h i => [.lit (.int .i64 a), .lit (.int .i64 b), .lit (.int .i64 c), .lit (.bool d), .lit (.int .i64 e), .sl 1 (f.map encB), .lit (.bool g), .lit (.int .i64 h), .sl 9 (encOps i)]
def encOps : List OpT → List (List T)
  | [] => []
  | x :: r => x.enc :: encOps r
end

theorem encOps_eq : ∀ l : List OpT, encOps l = l.map OpT.enc
  | [] => by simp [encOps]
  | x :: r => by simp [encOps, encOps_eq r]

theorem OpT.enc_eq (x : OpT) : x.enc = [.lit (.int .i64 x.num), .lit (.int .i64 x.kind), .lit (.int .i64 x.ref), .lit (.bool x.rep), .lit (.int .i64 x.oneof), .sl 1 (x.tag.map encB), .lit (.bool x.quick), .lit (.int .i64 x.run), .sl 9 (x.inl.map OpT.enc)] := by
  cases x
  simp [OpT.enc, encOps_eq, num, kind, ref, rep, oneof, tag, quick, run, inl]

theorem OpT.ext_iff' (x y : OpT) : x = y ↔ x.num = y.num ∧ x.kind = y.kind ∧ x.ref = y.ref ∧ x.rep = y.rep ∧ x.oneof = y.oneof ∧ x.tag = y.tag ∧ x.quick = y.quick ∧ x.run = y.run ∧ x.inl = y.inl := by
  cases x; cases y
  simp [num, kind, ref, rep, oneof, tag, quick, run, inl]

noncomputable instance : DecidableEq OpT := fun a b => Classical.propDecidable (a = b)

theorem OpT.mem_lt {x y : OpT} (h : y ∈ x.inl) : SizeOf.sizeOf y < SizeOf.sizeOf x := by
  cases x
  simp only [inl] at h
  have := List.sizeOf_lt_of_mem h
  simp only [mk.sizeOf_spec]
  omega

/-- Is each list in it short? -/
inductive OpT.Small : OpT → Prop
  | mk (x : OpT) (h1 : x.tag.length ≤ 2 ^ 40) (h2 : x.inl.length ≤ 2 ^ 40) (h3 : ∀ y ∈ x.inl, OpT.Small y) : OpT.Small x

theorem OpT.Small.inv {x : OpT} (h : x.Small) : x.tag.length ≤ 2 ^ 40 ∧ x.inl.length ≤ 2 ^ 40 ∧ ∀ y ∈ x.inl, y.Small := by
  cases h with
  | mk _ h1 h2 h3 => exact ⟨h1, h2, h3⟩

structure ModT where
  ops : List OpT
  jumps : List Int
  cached : Bool

def ModT.enc (m : ModT) : List T := [.sl 9 (m.ops.map OpT.enc), .sl 1 (m.jumps.map encI), .lit (.bool m.cached)]

noncomputable instance : DecidableEq ModT := fun a b => Classical.propDecidable (a = b)

theorem ModT.ext_iff' (x y : ModT) : x = y ↔ x.ops = y.ops ∧ x.jumps = y.jumps ∧ x.cached = y.cached := by
  cases x; cases y; simp

def ModT.Small (m : ModT) : Prop := m.ops.length ≤ 2 ^ 40 ∧ (∀ y ∈ m.ops, y.Small) ∧ m.jumps.length ≤ 2 ^ 40

def encM (l : List ModT) : List T := [.sl 3 (l.map ModT.enc)]

theorem c_laws_toOpS' (b : Bool) (l : List OpT) (h : l.length ≤ 2 ^ 40) (hin : ∀ x ∈ l, cw f_laws_toOp [.agg b x.enc] [] = some (.ov (x.enc.map C.ow) true, [])) : cw f_laws_toOpS [.val b (.sl 9 (l.map OpT.enc))] [] = some (.ov [.ow (.sl 9 (l.map OpT.enc))] false, []) := by
  refine callW_run (by simp) fs_laws_toOpS rfl rfl rfl ?_
  simp [maxBytes]
  rw [if_pos (by omega)]
  simp
  refine Mc.loop_ind (α := Nat × List (List T)) _ _ _ _ (fun x => I_laws_toOpS_0 (.val b (.sl 9 (l.map OpT.enc))) (.vw 88 [] 0 1 false) (.lit (.int .i64 x.1)) [(88, { cells := [.ow (.sl 9 x.2)], var := true })]) (fun x => l.length - x.1) (fun x => x.1 ≤ l.length ∧ x.2.length = l.length ∧ (∀ r ∈ x.2, r.length = 9) ∧ x.2.take x.1 = (l.take x.1).map OpT.enc) (0, List.replicate l.length [.lit (.int .i64 0), .lit (.int .i64 0), .lit (.int .i64 0), .lit (.bool false), .lit (.int .i64 0), .sl 0 [], .lit (.bool false), .lit (.int .i64 0), .sl 0 []]) _ (by simp) (by simp) ?_
  intro ⟨i, rows⟩ ⟨hi, hn, h3, ha⟩ ih
  dsimp only at hi hn ha h3
  by_cases hl : i < l.length
  · have hl' : i < rows.length := by omega
    have hr : rows[i].length = 9 := h3 _ (List.getElem_mem hl')
    have hd : List.drop 9 (List.map C.ow rows[i]) = [] := List.drop_eq_nil_of_le (by simp [hr])
    have hd' : List.drop 9 rows[i] = [] := List.drop_eq_nil_of_le (by simp [hr])
    have hc := hin _ (List.getElem_mem hl)
    simp only [cw, OpT.enc_eq] at hc
    simp [hl, hl', OpT.enc_eq, hc, wrap_add i (by omega), hr, hd, hd']
    refine ih (i + 1, rows.set i (OpT.enc l[i])) _ (by simp [OpT.enc_eq]) ⟨by simp; omega, by simpa using hn, set_all h3 (by simp [OpT.enc_eq]), ?_⟩ (by simp; omega)
    simp only [take_set _ _ _ hl', take_next _ _ hl, ha, List.map_append, List.map_cons, List.map_nil]
  · simp [hl]
    rw [List.take_of_length_le (by omega), List.take_of_length_le (by omega)] at ha
    rw [ha]

theorem c_laws_toOp (b : Bool) (x : OpT) (hs : x.Small) : cw f_laws_toOp [.agg b x.enc] [] = some (.ov (x.enc.map C.ow) true, []) := by
  obtain ⟨h1, h2, h3⟩ := hs.inv
  have hc1 := c_laws_toByteS b x.tag h1
  have hc2 := c_laws_toOpS' b x.inl h2 (fun y hy => c_laws_toOp b y (h3 y hy))
  refine callW_run (by simp) fs_laws_toOp rfl rfl rfl ?_
  simp only [cw] at hc1 hc2
  simp [OpT.enc_eq, hc1, hc2]
termination_by SizeOf.sizeOf x
decreasing_by exact OpT.mem_lt hy

theorem c_laws_toOpS (b : Bool) (l : List OpT) (h : l.length ≤ 2 ^ 40) (hs : ∀ x ∈ l, x.Small) : cw f_laws_toOpS [.val b (.sl 9 (l.map OpT.enc))] [] = some (.ov [.ow (.sl 9 (l.map OpT.enc))] false, []) :=
  c_laws_toOpS' b l h fun x hx => c_laws_toOp b x (hs x hx)

theorem c_laws_toMod (b : Bool) (m : ModT) (hs : m.Small) : cw f_laws_toMod [.agg b m.enc] [] = some (.ov (m.enc.map C.ow) true, []) := by
  obtain ⟨h1, h2, h3⟩ := hs
  have hc1 := c_laws_toOpS b m.ops h1 h2
  have hc2 := c_laws_toIntS b m.jumps h3
  refine callW_run (by simp) fs_laws_toMod rfl rfl rfl ?_
  simp only [cw] at hc1 hc2
  simp [ModT.enc, hc1, hc2]

theorem c_laws_toModS (b : Bool) (l : List ModT) (h : l.length ≤ 2 ^ 40) (hin : ∀ x ∈ l, x.Small) : cw f_laws_toModS [.val b (.sl 3 (l.map ModT.enc))] [] = some (.ov [.ow (.sl 3 (l.map ModT.enc))] false, []) := by
  refine callW_run (by simp) fs_laws_toModS rfl rfl rfl ?_
  simp [maxBytes]
  rw [if_pos (by omega)]
  simp
  refine Mc.loop_ind (α := Nat × List (List T)) _ _ _ _ (fun x => I_laws_toModS_0 (.val b (.sl 3 (l.map ModT.enc))) (.vw 88 [] 0 1 false) (.lit (.int .i64 x.1)) [(88, { cells := [.ow (.sl 3 x.2)], var := true })]) (fun x => l.length - x.1) (fun x => x.1 ≤ l.length ∧ x.2.length = l.length ∧ (∀ r ∈ x.2, r.length = 3) ∧ x.2.take x.1 = (l.take x.1).map ModT.enc) (0, List.replicate l.length [.sl 0 [], .sl 0 [], .lit (.bool false)]) _ (by simp) (by simp) ?_
  intro ⟨i, rows⟩ ⟨hi, hn, h3, ha⟩ ih
  dsimp only at hi hn ha h3
  by_cases hl : i < l.length
  · have hl' : i < rows.length := by omega
    have hr : rows[i].length = 3 := h3 _ (List.getElem_mem hl')
    have hd : List.drop 3 (List.map C.ow rows[i]) = [] := List.drop_eq_nil_of_le (by simp [hr])
    have hd' : List.drop 3 rows[i] = [] := List.drop_eq_nil_of_le (by simp [hr])
    have hc := c_laws_toMod b l[i] (hin _ (List.getElem_mem hl))
    simp only [cw, ModT.enc] at hc
    simp [hl, hl', ModT.enc, hc, wrap_add i (by omega), hr, hd, hd']
    refine ih (i + 1, rows.set i (ModT.enc l[i])) _ (by simp [ModT.enc]) ⟨by simp; omega, by simpa using hn, set_all h3 (by simp [ModT.enc]), ?_⟩ (by simp; omega)
    simp only [take_set _ _ _ hl', take_next _ _ hl, ha, List.map_append, List.map_cons, List.map_nil]
  · simp [hl]
    rw [List.take_of_length_le (by omega), List.take_of_length_le (by omega)] at ha
    rw [ha]

theorem c_laws_toIR (b : Bool) (l : List ModT) (h : l.length ≤ 2 ^ 40) (hin : ∀ x ∈ l, x.Small) : cw f_laws_toIR [.agg b (encM l)] [] = some (.ov [.ow (.sl 3 (l.map ModT.enc))] true, []) := by
  have hc1 := c_laws_toModS b l h hin
  refine callW_run (by simp) fs_laws_toIR rfl rfl rfl ?_
  simp only [cw] at hc1
  simp [encM, hc1]

end Go.Proofs.YtckojpaklblnpaaDoor.Th
