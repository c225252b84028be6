/- IRs: both IrOk are the same. -/
import Derived.Test.YtckojpaklblnpaaDoorComm
import Derived.Test.YtckojpaklblnpaaDoorIr14
set_option linter.unusedVariables false
set_option linter.unusedSimpArgs false
set_option maxRecDepth 10000
set_option maxHeartbeats 2000000
namespace Go.Proofs.YtckojpaklblnpaaDoor.Th
open Go Go.RowKit Go.Proofs.YtckojpaklblnpaaDoor.Ev

theorem pigeon : ∀ (N : Nat) (l : List Int), (∀ j : Nat, j < N → ((j : Int) + 1) ∈ l) → N ≤ l.length := by
  intro N
  induction N with
  | zero => intro l _; omega
  | succ n ih =>
    intro l h
    have hm : ((n : Int) + 1) ∈ l := h n (by omega)
    have h2 := ih (l.erase ((n : Int) + 1)) fun j hj => (List.mem_erase_of_ne (by omega)).mpr (h j (by omega))
    rw [List.length_erase_of_mem hm] at h2
    have := List.length_pos_of_mem hm
    omega

theorem most_len {l : List OpT} (h : oneofsB l = true) : most l ≤ l.length := by
  have h0 := most_nonneg l
  have := pigeon (most l).toNat (l.map OpT.oneof) fun j hj => by
    unfold oneofsB at h
    have h1 := List.all_eq_true.mp h j (List.mem_range.mpr hj)
    obtain ⟨x, hx, he⟩ := List.any_eq_true.mp h1
    exact List.mem_map.mpr ⟨x, hx, by simpa using he⟩
  rw [List.length_map] at this
  omega

theorem le_most (l : List OpT) : ∀ x ∈ l, x.oneof ≤ most l := by
  have key : ∀ (l : List OpT) (m : Int), m ≤ l.foldl mostF m ∧ ∀ x ∈ l, x.oneof ≤ l.foldl mostF m := by
    intro l
    induction l with
    | nil => intro m; exact ⟨Int.le_refl _, fun x hx => by cases hx⟩
    | cons y r ih =>
      intro m
      have h1 := ih (mostF m y)
      have h2 : m ≤ mostF m y := by unfold mostF; split <;> omega
      have h3 : y.oneof ≤ mostF m y := by unfold mostF; split <;> omega
      refine ⟨Int.le_trans h2 h1.1, fun x hx => ?_⟩
      cases hx with
      | head => exact Int.le_trans h3 h1.1
      | tail _ hx => exact h1.2 x hx
  exact (key l 0).2

theorem opOkB_iff (ms : List ModT) (ops : List OpT) (i : Nat) (x : OpT) : opOkB ms ops i x = true ↔ fineB ms ops i x = true ∧ x.oneof ≤ 40 ∧ marksB ms ops i x = true := by
  unfold opOkB fineB marksB
  simp only [Bool.and_eq_true, decide_eq_true_eq]
  constructor
  · intro ⟨h1, h2, h3, h4, h5, h6, h7, h8, h9, h10⟩
    exact ⟨⟨h2, h1, h3, h5.1, h6, h4⟩, h5.2, h7, h8, h10, h9⟩
  · intro ⟨⟨h2, h1, h3, h5, h6, h4⟩, h5', h7, h8, h10, h9⟩
    exact ⟨h1, h2, h3, h4, ⟨h5, h5'⟩, h6, h7, h8, h9, h10⟩

open Classical in
theorem opsOkB_of {ms : List ModT} {ops : List OpT} (h : allFine ms ops) (h1 : ops.length ≤ 40) (h2 : oneofsB ops = true) : opsOkB ms ops = true := by
  unfold opsOkB endB
  simp only [Bool.and_eq_true, decide_eq_true_eq]
  exact ⟨h, h1, most_len h2, h2⟩

theorem spec_iff_impl (ms : List ModT) : specP ms ↔ implP ms := by
  constructor
  · intro ⟨h1, h2, h3⟩
    refine ⟨h1, fun m hm => ?_, fun j hj => ⟨(h3 j hj).2.2, fun k hk => ((opOkB_iff ..).mp ((h3 j hj).1 k hk)).2.2⟩⟩
    obtain ⟨j, hj, rfl⟩ := List.getElem_of_mem hm
    exact opsOkB_of (fun k hk => ((opOkB_iff ..).mp ((h3 j hj).1 k hk)).1) (h2 j hj) (h3 j hj).2.1
  · intro ⟨h1, h2, h3⟩
    refine ⟨h1, fun j hj => (opsOkB_parts (h2 _ (List.getElem_mem hj))).2.1, fun j hj => ⟨fun k hk => ?_, (opsOkB_parts (h2 _ (List.getElem_mem hj))).2.2.2, (h3 j hj).1⟩⟩
    obtain ⟨q1, q2, q3, q4⟩ := opsOkB_parts (h2 _ (List.getElem_mem hj))
    have := le_most _ _ (List.getElem_mem hk)
    exact (opOkB_iff ..).mpr ⟨q1 k hk, by omega, (h3 j hj).2 k hk⟩

theorem specB_eq (ms : List ModT) : implB ms = specB ms := by
  unfold implB specB
  exact decide_eq_decide.mpr (spec_iff_impl ms).symm

open Classical in
theorem specB_kinds {ms : List ModT} (h : specB ms = true) : ∀ j (h : j < ms.length) k (hk : k < ms[j].ops.length), 1 ≤ ms[j].ops[k].kind ∧ ms[j].ops[k].kind ≤ 17 := by
  intro j hj k hk
  unfold specB at h
  have := (fineB_parts ((opOkB_iff ..).mp ((of_decide_eq_true h).2.2 j hj |>.1 k hk)).1)
  exact this.2.2.1
open Classical in
theorem specB_len {ms : List ModT} (h : specB ms = true) : ms.length ≤ 30 := by
  unfold specB at h
  have := (of_decide_eq_true h).1
  omega

end Go.Proofs.YtckojpaklblnpaaDoor.Th
