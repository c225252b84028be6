/- The law of ParseIr. -/
import Derived.Test.YtckojpaklblnpaaGreatDoorKG1
import Derived.Test.YtckojpaklblnpaaGreatDoorKG7
import Derived.Test.YtckojpaklblnpaaGreatDoorKG8
import Derived.Test.YtckojpaklblnpaaGreatDoorKPi2
import Derived.Test.YtckojpaklblnpaaGreatDoorKPi3
set_option linter.unusedVariables false
set_option linter.unusedSimpArgs false
set_option maxRecDepth 10000
set_option maxHeartbeats 2000000
namespace Go.Proofs.YtckojpaklblnpaaGreatDoor.Th
open Go Go.RowKit Go.Proofs.YtckojpaklblnpaaGreatDoor.Ev
theorem raw_raw {ms : List ModT} (h : specB ms = true) : Raw (ms.map rawM) (fls ms) (fos ms) := by
  obtain ⟨h30, h40⟩ := specB_ok h
  refine ⟨by rw [List.length_map]; omega, by simp, by simp, fun k h1 h2 => ?_, fun m hm => ?_, fun m hm x hx => ?_, fun m hm => ?_⟩
  · simp [rawM]
  · obtain ⟨m0, hm0, rfl⟩ := List.mem_map.mp hm
    have := (h40 m0 hm0).1
    simp [rawM]
    omega
  · obtain ⟨m0, hm0, rfl⟩ := List.mem_map.mp hm
    obtain ⟨y, hy, rfl⟩ := List.mem_map.mp hx
    exact ⟨rfl, rfl⟩
  · obtain ⟨m0, hm0, rfl⟩ := List.mem_map.mp hm
    rfl
theorem small_of {ms : List ModT} (h : specB ms = true) : ms.length ≤ 2 ^ 40 ∧ ∀ m ∈ ms, m.Small := by
  have := small_layL (st := true) (raw_raw h)
  rw [(lay_raw true h).2] at this
  exact this
theorem cntOps_mul (c : Int) : ∀ l : List OpT, (∀ x ∈ l, cntOp x ≤ c) → cntOps l ≤ c * l.length
  | [], _ => by simp [cntOps]
  | x :: r, h => by
    have h1 := cntOps_mul c r (fun y hy => h y (by simp [hy]))
    have h2 := h x (by simp)
    rw [cntOps, List.length_cons]
    have : c * ((r.length + 1 : Nat) : Int) = c * r.length + c := by
      rw [Int.natCast_add, Int.mul_add]
      simp
    omega
theorem cntMs_mul (c : Int) : ∀ l : List ModT, (∀ x ∈ l, cntM x ≤ c) → cntMs l ≤ c * l.length
  | [], _ => by simp [cntMs]
  | x :: r, h => by
    have h1 := cntMs_mul c r (fun y hy => h y (by simp [hy]))
    have h2 := h x (by simp)
    rw [cntMs, List.length_cons]
    have : c * ((r.length + 1 : Nat) : Int) = c * r.length + c := by
      rw [Int.natCast_add, Int.mul_add]
      simp
    omega
theorem tag_len5 (x : OpT) : (tagT x).length ≤ 5 := by
  unfold tagT putTag
  split
  · rename_i h
    have h2 : owire x ≤ 5 := by have := h.2; omega
    have := varint_len 4 (8 * x.num + owire x).toNat (by omega)
    omega
  · simp
theorem cnt_of {ms : List ModT} (h : specB ms = true) : cntMs ms ≤ 1000000 := by
  obtain ⟨h30, h40⟩ := specB_ok h
  have hL := specB_okL h
  have hS := h
  unfold specB at hS
  have hS := @of_decide_eq_true _ (Classical.propDecidable _) hS
  obtain ⟨q1, q2, q3⟩ := hS
  have hm : ∀ m ∈ ms, cntM m ≤ 20000 := by
    intro m hm
    have ho : ∀ x ∈ m.ops, cntOp x ≤ 400 := by
      intro x hx
      have h1 := hL m hm x hx
      rw [cntOp_eq]
      have ht : x.tag.length ≤ 5 := by
        rcases h1.tag with h2 | h2
        · rw [h2]; simp
        · rw [h2]; exact tag_len5 x
      have hi : cntOps x.inl ≤ 280 := by
        rcases h1.inl with h2 | ⟨_, h2⟩
        · rw [h2]; simp [cntOps]
        · have hl : x.inl.length ≤ 40 := by
            rw [h2.1]
            unfold refOps
            cases hq : ms[x.ref.toNat]? with
            | none => simp
            | some m' => exact (h40 m' (List.mem_of_getElem? hq)).1
          have hb : ∀ y ∈ x.inl, cntOp y ≤ 7 := by
            intro y hy
            rw [← alike_bare h2] at hy
            obtain ⟨z, _, rfl⟩ := List.mem_map.mp hy
            simp [cntOp_eq, bareOp, mk_tag, mk_inl, cntOps]
          have := cntOps_mul 7 x.inl hb
          omega
      omega
    have h1 := cntOps_mul 400 m.ops ho
    have h2 := (h40 m hm).1
    have h3 : m.jumps.length ≤ 70 := by
      obtain ⟨j, hj, rfl⟩ := List.getElem_of_mem hm
      rcases (q3 j hj).2.2 with e | e
      · rw [e]; simp
      · rw [e]
        unfold jumpsT
        cases hq : ms[j].ops.getLast? with
        | none => simp
        | some x =>
          dsimp only
          split
          · simp
          · rw [jl_len]
            omega
    unfold cntM
    omega
  have := cntMs_mul 20000 ms hm
  omega
theorem law_ParseIr (text : List UInt8) : cw f_laws_FnExactParseIr [.lit (.string (str text))] [] = some (.lit (.bool true), []) := by
  refine callW_run (by simp) fs_laws_FnExactParseIr rfl rfl rfl ?_
  by_cases hl : 1048576 < text.length
  · have hl' : (1048576 : Int) < (text.length : Int) := by omega
    simp [hl, hl']
  have hl' : ¬ (1048576 : Int) < (text.length : Int) := by omega
  have cI := c_impl_ParseIr text (by omega)
  have cS := c_spec_ParseIr text (by omega)
  rw [← parse_eq] at cS
  have hok := parseI_ok text
  unfold ansI at cI cS
  generalize (parseI text).2 = ok at cI cS
  generalize (parseI text).1 = ms at cI cS hok
  have hsm : ms.length ≤ 2 ^ 40 ∧ ∀ m ∈ ms, m.Small := by
    rcases hok with h | h
    · subst h; simp
    · exact small_of h
  have hcn : cntMs ms ≤ 1000000 := by
    rcases hok with h | h
    · subst h; simp [cntMs]
    · exact cnt_of h
  have hnn := cntMs_nn ms
  have cE := fun b b' => c_laws_eqIR ms b b' hsm.1 hsm.2
  have cM := c_laws_markIR ms 1 hsm.1 hsm.2 (by omega) (by omega)
  have cH := fun b => c_laws_heldIR ms 1 b hsm.1 hsm.2 (by omega) (by omega)
  have hq : ¬ 1 + cntMs ms < 0 := by omega
  simp only [cw] at cI cS cE cM cH
  generalize (mkMods ms 1).map ModT.enc = R1 at cM cH
  generalize ms.map ModT.enc = R at cI cS cE cM
  generalize 1 + cntMs ms = q at cM cH hq
  clear hok hsm hcn hnn
  simp [hl, hl', cI, cS, cE, cM, cH, hq]
end Go.Proofs.YtckojpaklblnpaaGreatDoor.Th
