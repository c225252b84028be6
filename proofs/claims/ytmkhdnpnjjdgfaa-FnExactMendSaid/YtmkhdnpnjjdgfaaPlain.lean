/- Arithmetic, conversions, lengths: operations of plain values. -/
import Derived.Test.YtmkhdnpnjjdgfaaStep
import Derived.Laws.Strings
import Derived.Laws.StructEq
set_option linter.unusedVariables false
set_option linter.unusedSimpArgs false
namespace Go.Proofs.Ytmkhdnpnjjdgfaa.Ev
open Go Go.RowKit

section
variable {P : Program} {σ : F} {d : Option Tmp} {ty : TypeId} {pos : String} {after : Array Edge} {gd : Option (Nat × Bool)}

theorem slot_lit {w : World} {Φ : Bool → Nat → Prop} {ob : List (Nat × O)} {ρ : Nat → List Value} {x v : Value} (h : SlotR w Φ ob ρ (.lit x) v) : v = x := by
  simp only [SlotR] at h; exact h.1

theorem lit_slot {w : World} {Φ : Bool → Nat → Prop} {ob : List (Nat × O)} {ρ : Nat → List Value} {x : Value} (h : one x) : SlotR w Φ ob ρ (.lit x) x := by
  simp only [SlotR]; exact ⟨trivial, h⟩

theorem run_binInt {w : World} {op : BinOp} {k : IntKind} {a b : Int} {v : Value} (t : TypeId) (h : binInt op k a b = some v) (h1 : op ≠ .shl) (h2 : op ≠ .shr) : (binOp op t (.int k a) (.int k b)).run P w = .ok v w ∧ one v := by
  cases op <;> simp only [binInt, Option.some.injEq, reduceCtorEq] at h
  case quo =>
    split at h
    · cases h
    · rename_i hb
      simp only [Option.some.injEq] at h
      subst h
      exact ⟨by simp [binOp, Op.intDiv, hb], rfl⟩
  case rem =>
    split at h
    · cases h
    · rename_i hb
      simp only [Option.some.injEq] at h
      subst h
      exact ⟨by simp [binOp, Op.intDiv, hb], rfl⟩
  case neq =>
    subst h
    refine ⟨?_, rfl⟩
    simp only [binOp_neq, Sem.run_pure]
    by_cases hab : a = b <;> simp [hab]
  case eql =>
    subst h
    refine ⟨?_, rfl⟩
    simp only [binOp_eql, Sem.run_pure]
    by_cases hab : a = b <;> simp [hab]
  all_goals
    subst h
    refine ⟨?_, rfl⟩
    simp [binOp, Op.intArith, Op.intCmp]
    try rfl

theorem eq_str (a b : ByteArray) : (a.toList == b.toList) = decide (a = b) := by
  rw [Bool.eq_iff_iff]
  simp only [beq_iff_eq, decide_eq_true_eq]
  constructor
  · intro h
    rw [ByteArray.toList_eq, ByteArray.toList_eq] at h
    cases a; cases b
    simp at h
    rw [h]
  · rintro rfl; rfl

theorem run_binStr {w : World} {op : BinOp} {a b : ByteArray} {v : Value} (t : TypeId) (h : binStr op a b = some v) : (binOp op t (.string a) (.string b)).run P w = .ok v w ∧ one v := by
  have he := eq_str a b
  cases op <;> simp only [binStr, Option.some.injEq, reduceCtorEq] at h
  case add =>
    split at h
    · rename_i hb
      simp only [Option.some.injEq] at h
      subst h
      refine ⟨?_, rfl⟩
      have hb' : ¬(((a.size + b.size : Nat) : Int) > IntKind.i64.max) := by rw [IntKind.max_i64]; omega
      simp only [binOp, Op.stringOp, if_neg hb', Sem.run_pure]
    · cases h
  all_goals
    subst h
    refine ⟨?_, rfl⟩
    simp [binOp, Op.stringOp, he]

theorem run_binBool {w : World} {op : BinOp} {a b : Bool} {t : TypeId} (ht : P.underlying t = some .bool) :
    (op = .eql → (binOp op t (.bool a) (.bool b)).run P w = .ok (.bool (a == b)) w) ∧ (op = .neq → (binOp op t (.bool a) (.bool b)).run P w = .ok (.bool (!(a == b))) w) := by
  have he : (Op.equal t (.bool a) (.bool b)).run P w = .ok (a == b) w := run_equalIn_bool w 9999 t a b ht
  constructor
  · rintro rfl
    rw [show binOp .eql t (.bool a) (.bool b) = (do pure (.bool (← Op.equal t (.bool a) (.bool b)))) from rfl]
    simp only [Sem.run_bind, he, Result.andThen_ok, Sem.run_pure]
  · rintro rfl
    rw [show binOp .neq t (.bool a) (.bool b) = (do pure (.bool (!(← Op.equal t (.bool a) (.bool b))))) from rfl]
    simp only [Sem.run_bind, he, Result.andThen_ok, Sem.run_pure]

theorem ok_bin (op : BinOp) (t : TypeId) (x y : Operand) (pt : TypeId) (isB : Bool) (s : S) (hb : isB = true → P.underlying t = some .bool) (h : binOp_ op isB (σ.rd x) (σ.rd y) = some s) :
    OpStill P ⟨d, .binOp op t x y pt, ty, pos, after, gd⟩ σ (σ.put d s) :=
  opVal (o := ⟨d, .binOp op t x y pt, ty, pos, after, gd⟩) fun w Φ tm ρ B ds hR => by
    have hx := hR.rd (ds := ds) x
    have hy := hR.rd (ds := ds) y
    simp only [execOp]
    unfold binOp_ at h
    split at h
    · rename_i k a k' b e1 e2
      rw [e1] at hx
      rw [e2] at hy
      rw [slot_lit hx, slot_lit hy]
      simp only [eqGuard_at_int]
      split at h
      · split at h
        · cases h
        · rename_i hneg
          simp only [Option.some.injEq] at h
          subst h
          refine ⟨_, ?_, lit_slot (x := .int k (k.wrap (a * 2 ^ min b.toNat k.bits))) rfl⟩
          intro w2 _
          simp [binOp, Op.shift, hneg]
      · split at h
        · cases h
        · rename_i hneg
          simp only [Option.some.injEq] at h
          subst h
          refine ⟨_, ?_, lit_slot (x := .int k (a / 2 ^ min b.toNat k.bits)) rfl⟩
          intro w2 _
          simp [binOp, Op.shift, hneg]
          exact Int.fdiv_eq_ediv_of_nonneg _ (Int.pow_nonneg (by decide))
      · rename_i h1 h2
        split at h
        · rename_i hk
          subst hk
          simp only [Option.map_eq_some_iff] at h
          obtain ⟨v, hv, rfl⟩ := h
          refine ⟨v, fun w2 _ => ?_, lit_slot (run_binInt (P := P) (w := w) t hv h1 h2).2⟩
          obtain ⟨r1, r2⟩ := run_binInt (P := P) (w := w2) t hv h1 h2
          simp [r1]
        · cases h
    · rename_i a b e1 e2
      rw [e1] at hx
      rw [e2] at hy
      rw [slot_lit hx, slot_lit hy]
      simp only [eqGuard_at_string]
      simp only [Option.map_eq_some_iff] at h
      obtain ⟨v, hv, rfl⟩ := h
      refine ⟨v, fun w2 _ => ?_, lit_slot (run_binStr (P := P) (w := w) t hv).2⟩
      obtain ⟨r1, r2⟩ := run_binStr (P := P) (w := w2) t hv
      simp [r1]
    · rename_i a b e1 e2
      rw [e1] at hx
      rw [e2] at hy
      rw [slot_lit hx, slot_lit hy]
      simp only [eqGuard_at_bool]
      split at h
      · rename_i hB
        have ht := hb hB
        split at h
        · simp only [Option.some.injEq] at h
          subst h
          exact ⟨.bool (a == b), fun w2 _ => by simp [(run_binBool (w := w2) (a := a) (b := b) ht).1 rfl], lit_slot rfl⟩
        · simp only [Option.some.injEq] at h
          subst h
          exact ⟨.bool (!(a == b)), fun w2 _ => by simp [(run_binBool (w := w2) (a := a) (b := b) ht).2 rfl], lit_slot rfl⟩
        · cases h
      · cases h
    · cases h

theorem ok_un (op : UnOp) (t : TypeId) (x : Operand) (s : S) (h : unOp_ op (σ.rd x) = some s) :
    OpStill P ⟨d, .unOp op t x, ty, pos, after, gd⟩ σ (σ.put d s) :=
  opVal (o := ⟨d, .unOp op t x, ty, pos, after, gd⟩) fun w Φ tm ρ B ds hR => by
    have hx := hR.rd (ds := ds) x
    simp only [execOp]
    unfold unOp_ at h
    split at h
    · rename_i b e1
      rw [e1] at hx
      rw [slot_lit hx]
      simp only [Option.some.injEq] at h
      subst h
      exact ⟨.bool (!b), fun _ _ => by simp [Op.unary], lit_slot rfl⟩
    · rename_i k n e1
      rw [e1] at hx
      rw [slot_lit hx]
      simp only [Option.some.injEq] at h
      subst h
      exact ⟨.int k (k.wrap (0 - n)), fun _ _ => by simp [Op.unary, Op.intArith], lit_slot rfl⟩
    · rename_i k n e1
      rw [e1] at hx
      rw [slot_lit hx]
      simp only [Option.some.injEq] at h
      subst h
      exact ⟨.int k (bits .xor k (if k.signed then -1 else k.max) n), fun _ _ => by simp only [Op.unary, intBits_xor, Sem.run_bind, Sem.run_pure, Result.andThen_ok], lit_slot rfl⟩
    · cases h

theorem ok_nilCheck (x : Operand) (h : match σ.rd x with | .ptr .. => True | .pt .. => True | .fn .. => True | _ => False) : OpStill P ⟨d, .nilCheck x, ty, pos, after, gd⟩ σ (σ.put d (σ.rd x)) :=
  opVal (o := ⟨d, .nilCheck x, ty, pos, after, gd⟩) fun w Φ tm ρ B ds hR => by
    have hx := hR.rd (ds := ds) x
    refine ⟨_, fun w2 _ => ?_, hx⟩
    simp only [execOp]
    generalize hs : σ.rd x = s at h hx
    cases s with
    | ptr k p off =>
      simp only [SlotR] at hx
      obtain ⟨o, g, a, _, _, e⟩ := hx
      rw [e]; rfl
    | pt b ts =>
      simp only [SlotR] at hx
      obtain ⟨g, o, cur, e, fz, e, _⟩ := hx
      rw [e]; rfl
    | fn g caps =>
      simp only [SlotR] at hx
      obtain ⟨vs, e, _⟩ := hx
      rw [e]; rfl
    | _ => exact h.elim

theorem ok_convert_int (src dst : TypeId) (x : Operand) (k k0 : IntKind) (n : Int) (hs : (P.underlying src).isSome = true) (hd : P.underlying dst = some (.int k)) (hx : σ.rd x = .lit (.int k0 n)) :
    OpStill P ⟨d, .convert src dst x, ty, pos, after, gd⟩ σ (σ.put d (liT (.int k (k.wrap n)))) :=
  opVal (o := ⟨d, .convert src dst x, ty, pos, after, gd⟩) fun w Φ tm ρ B ds hR => by
    have h := hR.rd (ds := ds) x
    rw [hx] at h
    refine ⟨.int k (k.wrap n), fun w2 _ => ?_, lit_slot rfl⟩
    obtain ⟨sd, hs'⟩ := Option.isSome_iff_exists.mp hs
    simp [execOp, slot_lit h, convert, run_underlying hs', run_underlying hd, Conv.intToInt]

theorem ok_convert_string (src dst : TypeId) (x : Operand) (b : ByteArray) (hs : (P.underlying src).isSome = true) (hd : P.underlying dst = some .string) (hx : σ.rd x = .lit (.string b)) :
    OpStill P ⟨d, .convert src dst x, ty, pos, after, gd⟩ σ (σ.put d (liT (.string b))) :=
  opVal (o := ⟨d, .convert src dst x, ty, pos, after, gd⟩) fun w Φ tm ρ B ds hR => by
    have h := hR.rd (ds := ds) x
    rw [hx] at h
    refine ⟨.string b, fun w2 _ => ?_, lit_slot rfl⟩
    obtain ⟨sd, hs'⟩ := Option.isSome_iff_exists.mp hs
    simp [execOp, slot_lit h, convert, run_underlying hs', run_underlying hd]

end

end Go.Proofs.Ytmkhdnpnjjdgfaa.Ev
