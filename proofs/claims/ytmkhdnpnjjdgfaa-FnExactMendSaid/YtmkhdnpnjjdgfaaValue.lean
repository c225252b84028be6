/- The last of the plain operations. -/
import Derived.Test.YtmkhdnpnjjdgfaaField
import Derived.Laws.BytesArg
set_option linter.unusedVariables false
set_option linter.unusedSimpArgs false
namespace Go.Proofs.Ytmkhdnpnjjdgfaa.Ev
open Go Go.RowKit

section
variable {P : Program} {e : Env} {σ : F} {d : Option Tmp} {ty : TypeId} {pos : String} {after : Array Edge} {gd : Option (Nat × Bool)}

theorem optInt_is {w : World} {Φ : Bool → Nat → Prop} {tm : List Value} {ρ : Nat → List Value} {B : List Nat} {ds : List Deferred} (hR : Rel w Φ σ tm ρ B) {x : Option Operand} {n : Option Int} (h : optInt σ x = some n) : OptV (x.map (⟨tm.toArray, ds⟩ : Act).eval) n := by
  cases x with
  | none =>
    simp only [optInt, Option.some.injEq] at h
    subst h
    trivial
  | some x =>
    simp only [optInt, Option.map_eq_some_iff] at h
    obtain ⟨m, hm, rfl⟩ := h
    exact intOf_is hm (hR.rd x)

theorem ok_slice (he : EnvOk P e) (t : TypeId) (x : Operand) (lo hi : Option Operand) (l h : Option Int) (s : S) (hl : optInt σ lo = some l) (hh : optInt σ hi = some h) (hs : sliceIt e σ t (σ.rd x) l h = some s) :
    OpStill P ⟨d, .slice t x lo hi none, ty, pos, after, gd⟩ σ (σ.put d s) :=
  opVal (o := ⟨d, .slice t x lo hi none, ty, pos, after, gd⟩) fun w Φ tm ρ B ds hR => by
    obtain ⟨v, h1, h2⟩ := slice_is he hR (hR.rd (ds := ds) x) (optInt_is (ds := ds) hR hl) (optInt_is (ds := ds) hR hh) hs
    exact ⟨v, fun w2 _ => by simp only [execOp, Option.map_none, Sem.run_bind, h1 w2, Result.andThen_ok, Sem.run_pure], h2⟩

theorem run_part (he : EnvOk P e) {t : TypeId} {w0 : TV} (h : e.ty t = some w0) (cs : Array Value) (off : Nat) (hfit : off + w0.cells ≤ cs.size) :
    ∃ v, (∀ w, (part t cs off).run P w = .ok v w) ∧ valOf w0.agg ((cs.toList.drop off).take w0.cells) v := by
  cases ha : w0.agg with
  | true =>
    refine ⟨.agg (cs.extract off (off + w0.cells)), fun w => ?_, ?_⟩
    · simp only [part, Sem.run_bind, he.run_isAgg h, ha, Result.andThen_ok, if_true, he.run_sizeOf h, Sem.run_pure]
    · simp only [valOf, if_true]
      congr 1
      apply Array.ext'
      simp [List.take_drop]
  | false =>
    have h1 := he.one h ha
    rw [h1] at hfit ⊢
    obtain ⟨x, hx⟩ : ∃ x, cs[off]? = some x := ⟨cs[off]'(by omega), by simp [show off < cs.size by omega]⟩
    refine ⟨x, fun w => ?_, ?_⟩
    · simp only [part, Sem.run_bind, he.run_isAgg h, ha, Result.andThen_ok, Bool.false_eq_true, if_false, hx, Sem.run_pure]
    · simp only [valOf, Bool.false_eq_true, if_false]
      have hx' : cs.toList[off]? = some x := by simpa using hx
      obtain ⟨hlt, rfl⟩ := List.getElem?_eq_some_iff.mp hx'
      rw [List.drop_eq_getElem_cons hlt]
      simp

theorem ok_field_agg (he : EnvOk P e) (t : TypeId) (tv w0 : TV) (x : Operand) (f : Nat) (fs : Array Field) (fd : Field) (b : Bool) (ts : List T) (ht : e.ty t = some tv) (hd : tv.desc = .struct fs) (hf : fs[f]? = some fd) (hw : e.ty fd.type = some w0) (hx : σ.rd x = .agg b ts) (hl : fd.offset + w0.cells ≤ ts.length) :
    OpStill P ⟨d, .field t x f, ty, pos, after, gd⟩ σ (σ.put d (ofT b w0.agg ((ts.drop fd.offset).take w0.cells))) :=
  opVal (o := ⟨d, .field t x f, ty, pos, after, gd⟩) fun w Φ tm ρ B ds hR => by
    have hu := he.und ht
    rw [hd] at hu
    have hr := hR.rd (ds := ds) x
    rw [hx] at hr
    simp only [SlotR] at hr
    obtain ⟨vs, h1, h2⟩ := hr
    obtain ⟨v, r1, r2⟩ := run_part he hw vs.toArray fd.offset (by simpa [h2.length] using hl)
    refine ⟨v, fun w2 _ => ?_, ofT_is ((h2.drop _).take _) r2⟩
    simp only [execOp, h1, Instr.field, Sem.run_bind, run_underlying hu, Result.andThen_ok, hf, asAgg, Sem.run_pure, r1]

theorem ok_field_vw (he : EnvOk P e) (t : TypeId) (tv w0 : TV) (x : Operand) (f : Nat) (fs : Array Field) (fd : Field) (k : Nat) (p : List (Nat × Nat)) (off n : Nat) (cs : List C) (ht : e.ty t = some tv) (hd : tv.desc = .struct fs) (hf : fs[f]? = some fd) (hw : e.ty fd.type = some w0) (hx : σ.rd x = .vw k p off n true) (hl : fd.offset + w0.cells ≤ n)
    (hc : σ.cells k p (off + fd.offset) w0.cells = some cs) :
    OpStill P ⟨d, .field t x f, ty, pos, after, gd⟩ σ (σ.put d (F.view k p (off + fd.offset) w0.cells w0.agg cs)) :=
  opVal (o := ⟨d, .field t x f, ty, pos, after, gd⟩) fun w Φ tm ρ B ds hR => by
    have hu := he.und ht
    rw [hd] at hu
    have hr := hR.rd (ds := ds) x
    rw [hx] at hr
    simp only [SlotR, if_true] at hr
    obtain ⟨o, vs, q1, q2, q3, h1⟩ := hr
    obtain ⟨o', vs', Bc, c1, c2, c3, c4, c5, c6, _⟩ := hR.cells hc
    rw [q1] at c1; cases c1
    rw [q2] at c2; cases c2
    obtain ⟨v, r1, r2⟩ := run_part he hw ((vs.drop off).take n).toArray fd.offset (by simp; omega)
    refine ⟨v, fun w2 _ => ?_, ?_⟩
    · simp only [execOp, h1, Instr.field, Sem.run_bind, run_underlying hu, Result.andThen_ok, hf, asAgg, Sem.run_pure, r1]
    · refine view_is hR q1 q2 c3 c5 ?_
      have e1 : (((vs.drop off).take n).drop fd.offset).take w0.cells = (vs.drop (off + fd.offset)).take w0.cells := by
        rw [List.drop_take, List.drop_drop, List.take_take, Nat.min_eq_left (by omega)]
      simpa [e1] using r2

theorem ok_index_str (he : EnvOk P e) (t : TypeId) (tv : TV) (x i : Operand) (s : ByteArray) (n : Int) (b : UInt8) (ht : e.ty t = some tv) (hd : tv.desc = .string) (hx : σ.rd x = .lit (.string s)) (hn : intOf? (σ.rd i) = some n) (h0 : 0 ≤ n) (hb : s[n.toNat]? = some b) :
    OpStill P ⟨d, .index t x i, ty, pos, after, gd⟩ σ (σ.put d (liT (.int .u8 b.toNat))) :=
  opVal (o := ⟨d, .index t x i, ty, pos, after, gd⟩) fun w Φ tm ρ B ds hR => by
    have hu := he.und ht
    rw [hd] at hu
    have hr := hR.rd (ds := ds) x
    rw [hx] at hr
    obtain ⟨k, hi⟩ := intOf_is hn (hR.rd (ds := ds) i)
    refine ⟨.int .u8 b.toNat, fun w2 _ => ?_, lit_slot rfl⟩
    simp only [execOp, slot_lit hr, hi, Instr.index, asIntOf, Sem.run_bind, Sem.run_pure, run_underlying hu, Result.andThen_ok, h0, if_true, hb]

theorem ok_index_arr (he : EnvOk P e) (t el : TypeId) (tv w0 : TV) (x i : Operand) (len : Nat) (n : Int) (b : Bool) (ts : List T) (ht : e.ty t = some tv) (hd : tv.desc = .array len el) (hw : e.ty el = some w0) (hx : σ.rd x = .agg b ts) (hn : intOf? (σ.rd i) = some n) (h0 : 0 ≤ n ∧ n < len ∧ n.toNat * w0.cells + w0.cells ≤ ts.length) :
    OpStill P ⟨d, .index t x i, ty, pos, after, gd⟩ σ (σ.put d (ofT b w0.agg ((ts.drop (n.toNat * w0.cells)).take w0.cells))) :=
  opVal (o := ⟨d, .index t x i, ty, pos, after, gd⟩) fun w Φ tm ρ B ds hR => by
    have hu := he.und ht
    rw [hd] at hu
    have hr := hR.rd (ds := ds) x
    rw [hx] at hr
    simp only [SlotR] at hr
    obtain ⟨vs, h1, h2⟩ := hr
    obtain ⟨k, hi⟩ := intOf_is hn (hR.rd (ds := ds) i)
    obtain ⟨v, r1, r2⟩ := run_part he hw vs.toArray (n.toNat * w0.cells) (by simpa [h2.length] using h0.2.2)
    refine ⟨v, fun w2 _ => ?_, ofT_is ((h2.drop _).take _) r2⟩
    have h01 : 0 ≤ n ∧ n < (len : Int) := ⟨h0.1, h0.2.1⟩
    simp only [execOp, h1, hi, Instr.index, asIntOf, Sem.run_bind, Sem.run_pure, run_underlying hu, Result.andThen_ok, if_pos h01, he.run_sizeOf hw, r1]

/-! ### builtins -/

theorem run_builtin (ρ : Operand → Value) {c : Call} {b : Builtin} {o : Oper} (w : World) (ho : o.op = .call c) (hb : c.callee = .builtin b) :
    ∃ cs, (execOp ρ o).run P w = (builtin b c.argTypes o.type cs (c.args.map ρ)).run P w :=
  ⟨_, by simp only [execOp, ho, resolve, hb, Sem.run_bind, Sem.run_pure, Result.andThen_ok, invoke]; rfl⟩

theorem ok_len (he : EnvOk P e) (c : Call) (t : TypeId) (tv : TV) (x : Operand) (n : Nat) (hb : c.callee = .builtin .len) (ha : c.args.toList = [x]) (hat : c.argTypes.toList = [t]) (ht : e.ty t = some tv) (hn : lenS σ (σ.rd x) = some n)
    (h : (∃ el, tv.desc = .slice el ∧ ∀ v, σ.rd x ≠ .lit v) ∨ (tv.desc = .string ∧ ∃ v, σ.rd x = .lit v)) :
    OpStill P ⟨d, .call c, ty, pos, after, gd⟩ σ (σ.put d (liT (.int .i64 n))) :=
  opVal (o := ⟨d, .call c, ty, pos, after, gd⟩) fun w Φ tm ρ B ds hR => by
    have hu := he.und ht
    have e1 : c.args = #[x] := Array.ext' (by simpa using ha)
    have e2 : c.argTypes = #[t] := Array.ext' (by simpa using hat)
    refine ⟨.int .i64 n, fun w2 _ => ?_, lit_slot rfl⟩
    obtain ⟨consts, hbi⟩ := run_builtin (P := P) (⟨tm.toArray, ds⟩ : Act).eval (o := ⟨d, .call c, ty, pos, after, gd⟩) w2 rfl hb
    rw [hbi]
    have hr := hR.rd (ds := ds) x
    simp only [builtin, e1, e2, List.map_toArray, List.map_cons, List.map_nil, Builtin.len_]
    rcases lenS_is hR hn hr with ⟨b, q1, q2, q3⟩ | ⟨q1, a, cap, q2, q3⟩
    · rcases h with ⟨el, _, h⟩ | ⟨hd, _⟩
      · exact absurd q1 (h _)
      · rw [hd] at hu
        simp [q2, run_underlying hu, goInt, q3]
    · rcases h with ⟨el, hd, _⟩ | ⟨_, v, h⟩
      · rw [hd] at hu
        simp [q2, run_underlying hu, goInt]
      · exact absurd h (q1 v)

theorem ok_minmax (c : Call) (x y : Operand) (k k' : IntKind) (a b : Int) (mx : Bool) (hb : c.callee = .builtin (if mx then .max else .min)) (ha : c.args.toList = [x, y]) (hx : σ.rd x = .lit (.int k a)) (hy : intOf? (σ.rd y) = some b) :
    OpStill P ⟨d, .call c, ty, pos, after, gd⟩ σ (σ.put d (liT (.int k (if mx then (if a < b then b else a) else if b < a then b else a)))) :=
  opVal (o := ⟨d, .call c, ty, pos, after, gd⟩) fun w Φ tm ρ B ds hR => by
    have e1 : c.args = #[x, y] := Array.ext' (by simpa using ha)
    refine ⟨.int k (if mx then (if a < b then b else a) else if b < a then b else a), fun w2 _ => ?_, lit_slot rfl⟩
    obtain ⟨consts, hbi⟩ := run_builtin (P := P) (⟨tm.toArray, ds⟩ : Act).eval (o := ⟨d, .call c, ty, pos, after, gd⟩) w2 rfl hb
    rw [hbi]
    have hr := hR.rd (ds := ds) x
    rw [hx] at hr
    obtain ⟨k2, hi⟩ := intOf_is hy (hR.rd (ds := ds) y)
    cases mx with
    | false =>
      simp only [Bool.false_eq_true, if_false, builtin, e1, List.map_toArray, List.map_cons, List.map_nil, Builtin.min_, slot_lit hr, hi, List.foldlM_cons, List.foldlM_nil, Builtin.min2, Sem.run_bind, Sem.run_pure, Result.andThen_ok]
    | true =>
      simp only [if_true, builtin, e1, List.map_toArray, List.map_cons, List.map_nil, Builtin.max_, slot_lit hr, hi, List.foldlM_cons, List.foldlM_nil, Builtin.max2, Sem.run_bind, Sem.run_pure, Result.andThen_ok, gt_iff_lt]

theorem ok_cap (he : EnvOk P e) (c : Call) (t el : TypeId) (tv : TV) (x : Operand) (hb : c.callee = .builtin .cap) (ha : c.args.toList = [x]) (hat : c.argTypes.toList = [t]) (ht : e.ty t = some tv) (hd : tv.desc = .slice el) (hx : σ.rd x = .nils) :
    OpStill P ⟨d, .call c, ty, pos, after, gd⟩ σ (σ.put d (liT (.int .i64 0))) :=
  opVal (o := ⟨d, .call c, ty, pos, after, gd⟩) fun w Φ tm ρ B ds hR => by
    have hu := he.und ht
    rw [hd] at hu
    have e1 : c.args = #[x] := Array.ext' (by simpa using ha)
    have e2 : c.argTypes = #[t] := Array.ext' (by simpa using hat)
    refine ⟨.int .i64 0, fun w2 _ => ?_, lit_slot rfl⟩
    obtain ⟨consts, hbi⟩ := run_builtin (P := P) (⟨tm.toArray, ds⟩ : Act).eval (o := ⟨d, .call c, ty, pos, after, gd⟩) w2 rfl hb
    rw [hbi]
    have hr := hR.rd (ds := ds) x
    rw [hx] at hr
    simp only [SlotR] at hr
    simp [builtin, e1, e2, Builtin.cap_, hr, run_underlying hu, goInt]

/-! ### bytes to a string -/

theorem bytes_rows {w : World} {φ : Nat → Prop} {sz : Nat} : ∀ {rows : List (List T)} {vs : List Value} {bs : List UInt8}, IsTRows w φ sz rows vs → bytesOf rows = some bs → ∃ ns : List Int, vs.take rows.length = ns.map (Value.int .u8) ∧ bs = ns.map (fun n => UInt8.ofNat n.toNat)
  | [], vs, bs, h, hb => by
    simp only [bytesOf, Option.some.injEq] at hb
    subst hb
    exact ⟨[], by simp, rfl⟩
  | r :: rs, vs, bs, h, hb => by
    simp only [bytesOf] at hb
    cases h1 : byteOf r with
    | none => simp [h1] at hb
    | some b =>
      cases h2 : bytesOf rs with
      | none => simp [h1, h2] at hb
      | some bs' =>
        simp only [h1, h2, Option.some.injEq] at hb
        subst hb
        unfold byteOf at h1
        split at h1
        · rename_i n
          simp only [Option.some.injEq] at h1
          subst h1
          simp only [IsTRows, List.length_cons, List.length_nil, Nat.zero_add] at h
          obtain ⟨rfl, h3, h4⟩ := h
          simp only [IsTs, IsT] at h3
          obtain ⟨v, vs', e1, ⟨rfl, _⟩, rfl⟩ := h3
          obtain ⟨ns, h5, rfl⟩ := bytes_rows h4 h2
          cases vs with
          | nil => simp at e1
          | cons v0 vs0 =>
            simp only [List.take_succ_cons, List.take_zero, List.cons.injEq, and_true] at e1
            subst e1
            simp only [List.drop_succ_cons, List.drop_zero] at h5
            exact ⟨n :: ns, by simp [h5], rfl⟩
        · cases h1

theorem bytesOf_length : ∀ {rows : List (List T)} {bs : List UInt8}, bytesOf rows = some bs → rows.length = bs.length
  | [], bs, h => by simp only [bytesOf, Option.some.injEq] at h; subst h; rfl
  | r :: rs, bs, h => by
    simp only [bytesOf] at h
    cases h1 : byteOf r with
    | none => simp [h1] at h
    | some b =>
      cases h2 : bytesOf rs with
      | none => simp [h1, h2] at h
      | some bs' =>
        simp only [h1, h2, Option.some.injEq] at h
        subst h
        simp [bytesOf_length h2]

theorem ok_bytesString (he : EnvOk P e) (src dst el : TypeId) (a b w0 : TV) (x : Operand) (sz : Nat) (rows : List (List T)) (bs : List UInt8) (hs : e.ty src = some a) (hsd : a.desc = .slice el) (hd : e.ty dst = some b) (hdd : b.desc = .string) (hw : e.ty el = some w0) (hwd : w0.desc = .int .u8) (hf : σ.free1 (σ.rd x) = some (.sl sz rows)) (hb : bytesOf rows = some bs) :
    OpStill P ⟨d, .convert src dst x, ty, pos, after, gd⟩ σ (σ.put d (liT (.string ⟨bs.toArray⟩))) :=
  opVal (o := ⟨d, .convert src dst x, ty, pos, after, gd⟩) fun w Φ tm ρ B ds hR => by
    have h1 := he.und hs; rw [hsd] at h1
    have h2 := he.und hd; rw [hdd] at h2
    have h3 := he.und hw; rw [hwd] at h3
    have hv := free1_is hR hf (hR.rd (ds := ds) x)
    refine ⟨.string ⟨bs.toArray⟩, fun w2 hw2 => ?_, lit_slot rfl⟩
    simp only [IsT] at hv
    obtain ⟨ad, cap, hev, hle, hrows⟩ := hv
    simp only [execOp, hev, Sem.run_bind]
    rcases hrows with rfl | ⟨g, o, cur, et, fz, rfl, _, hg, hrows⟩
    · simp only [bytesOf, Option.some.injEq] at hb
      subst hb
      rw [run_convert_bytes_string w2 src dst el _ _ _ h1 h3 h2]
      cases ad with
      | none => simp [Conv.bytesToString]; rfl
      | some a =>
        rw [run_bytesToString w2 a _ cap [] (by simp [loadCells, loadCellsFrom])]
        simp [Result.andThen_ok]
        rfl
    · obtain ⟨ns, e1, rfl⟩ := bytes_rows hrows hb
      have hln : rows.length = ns.length := by
        have := bytesOf_length hb
        simpa using this
      rw [run_convert_bytes_string w2 src dst el _ _ _ h1 h3 h2, run_bytesToString w2 _ _ cap ns, foldl_push_bytes]
      · simp [Result.andThen_ok]
      · have hcell : ∀ j, w2.cell? ⟨g, j, none⟩ = cur[j]? := fun j => by simp [World.cell?, hw2.get hg]
        have := run_loadCells_list (P := P) w2 ⟨g, o, none⟩ (ns.map (Value.int .u8)) (fun j x hj => by
          rw [← e1, List.getElem?_take] at hj
          split at hj
          · rw [List.getElem?_drop] at hj
            rw [Addr.add_lit, hcell]
            simpa using hj
          · cases hj)
        rw [List.length_map] at this
        rw [hln]
        exact this

end

end Go.Proofs.Ytmkhdnpnjjdgfaa.Ev
