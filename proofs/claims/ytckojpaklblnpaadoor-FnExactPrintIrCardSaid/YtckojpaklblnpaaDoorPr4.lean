/- Texts: the words of an Op, joined. -/
import Derived.Test.YtckojpaklblnpaaDoorComm
import Derived.Test.YtckojpaklblnpaaDoorPr3
set_option linter.unusedVariables false
set_option linter.unusedSimpArgs false
set_option maxRecDepth 10000
set_option maxHeartbeats 2000000
namespace Go.Proofs.YtckojpaklblnpaaDoor.Th
open Go Go.RowKit Go.Proofs.YtckojpaklblnpaaDoor.Ev

theorem join_snoc (sep : List UInt8) : ∀ (ws : List (List UInt8)) (w : List UInt8), ws ≠ [] → Lib.join (ws ++ [w]) sep = Lib.join ws sep ++ (sep ++ w)
  | [], w, h => absurd rfl h
  | [a], w, _ => by simp [Lib.join, List.intercalate]
  | a :: c :: r, w, _ => by
    have ih := join_snoc sep (c :: r) w (by simp)
    simp only [Lib.join, List.intercalate, List.cons_append, List.intersperse_cons_cons, List.flatten_cons] at ih ⊢
    rw [ih]
    simp

theorem join_addW (is : Bool) (w : List UInt8) (ws : List (List UInt8)) (h : ws ≠ []) : addW is w ws ≠ [] ∧ Lib.join (addW is w ws) [32] = Lib.join ws [32] ++ (if is = true then 32 :: w else []) := by
  unfold addW
  cases is with
  | false => simp [h]
  | true => simp [join_snoc [32] ws w h]

theorem words_join (x : OpT) (hx : OkN x) : [32, 32] ++ Lib.join (wordsT x) [32] ++ [10] = opT x := by
  have h0 : headW x ≠ [] := by unfold headW; simp
  have j0 : Lib.join (headW x) [32] = Lib.itoa x.num ++ [32] ++ wordT x.kind ++ (if x.kind = 16 then [32, 64] ++ Lib.itoa x.ref else []) := by
    unfold headW
    by_cases h16 : x.kind = 16
    · simp [h16, wordT, Lib.join, List.intercalate]
    · simp [h16, Lib.join, List.intercalate]
  unfold wordsT restW opT tRef tRep tOneof tTag tQuick tRun tInl tEnd
  obtain ⟨g1, j1⟩ := join_addW x.rep [114, 101, 112, 101, 97, 116, 101, 100] (headW x) h0
  generalize addW x.rep [114, 101, 112, 101, 97, 116, 101, 100] (headW x) = ws1 at g1 j1 ⊢
  obtain ⟨g2, j2⟩ := join_addW (!decide (x.oneof = 0)) ([111, 110, 101, 111, 102] ++ Lib.itoa x.oneof) ws1 g1
  generalize addW (!decide (x.oneof = 0)) ([111, 110, 101, 111, 102] ++ Lib.itoa x.oneof) ws1 = ws2 at g2 j2 ⊢
  obtain ⟨g3, j3⟩ := join_addW (decide (0 < x.tag.length)) [116, 97, 103] ws2 g2
  generalize addW (decide (0 < x.tag.length)) [116, 97, 103] ws2 = ws3 at g3 j3 ⊢
  obtain ⟨g4, j4⟩ := join_addW x.quick [113, 117, 105, 99, 107] ws3 g3
  generalize addW x.quick [113, 117, 105, 99, 107] ws3 = ws4 at g4 j4 ⊢
  obtain ⟨g5, j5⟩ := join_addW (!decide (x.run = 0)) ([114, 117, 110] ++ Lib.itoa x.run) ws4 g4
  generalize addW (!decide (x.run = 0)) ([114, 117, 110] ++ Lib.itoa x.run) ws4 = ws5 at g5 j5 ⊢
  obtain ⟨g6, j6⟩ := join_addW (decide (0 < x.inl.length)) [105, 110, 108, 105, 110, 101] ws5 g5
  rw [j6, j5, j4, j3, j2, j1, j0]
  have e1 : ((!decide (x.oneof = 0)) = true) = (0 < x.oneof) := by have := hx.oneof; simp; omega
  have e2 : (decide (0 < x.tag.length) = true) = (x.tag ≠ []) := by simp [List.length_pos_iff]
  have e3 : ((!decide (x.run = 0)) = true) = (0 < x.run) := by have := hx.run; simp; omega
  have e4 : (decide (0 < x.inl.length) = true) = (x.inl ≠ []) := by simp [List.length_pos_iff]
  simp only [e1, e2, e3, e4, List.append_assoc, List.cons_append, List.nil_append]

theorem opT_len (x : OpT) (hx : OkN x) : (opT x).length ≤ 300 := by
  have h1 := itoa_len x.num (by have := hx.num; omega) (by have := hx.num; omega)
  have h2 := itoa_len x.ref (by have := hx.ref; omega) (by have := hx.ref; omega)
  have h3 := itoa_len x.oneof (by have := hx.oneof; omega) (by have := hx.oneof; omega)
  have h4 := itoa_len x.run (by have := hx.run; omega) (by have := hx.run; omega)
  have h5 := wordT_len x.kind
  have k1 : (if x.kind = 16 then [32, 64] ++ Lib.itoa x.ref else []).length ≤ 30 := by split <;> simp; omega
  have k2 : (if x.rep = true then [32, 114, 101, 112, 101, 97, 116, 101, 100] else ([] : List UInt8)).length ≤ 30 := by split <;> simp
  have k3 : (if 0 < x.oneof then [32, 111, 110, 101, 111, 102] ++ Lib.itoa x.oneof else []).length ≤ 30 := by split <;> simp; omega
  have k4 : (if x.tag ≠ [] then [32, 116, 97, 103] else ([] : List UInt8)).length ≤ 30 := by split <;> simp
  have k5 : (if x.quick = true then [32, 113, 117, 105, 99, 107] else ([] : List UInt8)).length ≤ 30 := by split <;> simp
  have k6 : (if 0 < x.run then [32, 114, 117, 110] ++ Lib.itoa x.run else []).length ≤ 30 := by split <;> simp; omega
  have k7 : (if x.inl ≠ [] then [32, 105, 110, 108, 105, 110, 101] else ([] : List UInt8)).length ≤ 30 := by split <;> simp
  unfold opT tRef tRep tOneof tTag tQuick tRun tInl tEnd
  simp only [List.length_append, List.length_cons, List.length_nil]
  omega

theorem strsOf_enc : ∀ (ws : List (List UInt8)), strsOf (ws.map encW) = some (ws.map str)
  | [] => rfl
  | w :: r => by
    simp only [List.map_cons, encW, strsOf]
    rw [strsOf_enc r]
    rfl

theorem str_list (l : List UInt8) : (str l).data.toList = l := by unfold str; rfl

theorem c_strings_Join (b : Bool) (ws : List (List UInt8)) (sep : List UInt8) (h1 : ws.length ≤ 1000) (h2 : (Lib.join ws sep).length ≤ 1000) : cw f_strings_Join [.val b (.sl 1 (ws.map encW)), .lit (.string (str sep))] [] = some (.lit (.string (str (Lib.join ws sep))), []) := by
  refine callW_ext (g := extJoin) rfl ?_
  simp only [extJoin, strsOf_enc]
  have e : (ws.map str).map (fun x => x.data.toList) = ws := by
    have hf : (fun x : ByteArray => x.data.toList) ∘ str = id := by funext l; exact str_list l
    rw [List.map_map, hf, List.map_id]
  have e2 : joinB (ws.map str) (str sep) = str (Lib.join ws sep) := by unfold joinB; rw [e, str_list]; rfl
  rw [e, str_list, e2, List.length_map, if_pos ⟨by omega, by omega⟩]

end Go.Proofs.YtckojpaklblnpaaDoor.Th
