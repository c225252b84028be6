/- Operations of a region that may come up in either order: the states that they lead to. -/
import Derived.Test.YtmkhdnpnjjdgfaaLocal
set_option linter.unusedVariables false
set_option linter.unusedSimpArgs false
namespace Go.Proofs.Ytmkhdnpnjjdgfaa.Ev
open Go Go.RowKit

/-- The same slots; the same objects, in whatever order. -/
structure Eqv (σ τ : F) : Prop where
  sl : σ.sl = τ.sl
  ob : ∀ k, look σ.ob k = look τ.ob k
  nd : (σ.ob.map (·.1)).Nodup
  nd' : (τ.ob.map (·.1)).Nodup

theorem Eqv.refl {σ : F} (h : (σ.ob.map (·.1)).Nodup) : Eqv σ σ := ⟨rfl, fun _ => rfl, h, h⟩
theorem Eqv.symm {σ τ : F} (h : Eqv σ τ) : Eqv τ σ := ⟨h.sl.symm, fun k => (h.ob k).symm, h.nd', h.nd⟩
theorem Eqv.trans {σ τ υ : F} (h : Eqv σ τ) (k : Eqv τ υ) : Eqv σ υ := ⟨h.sl.trans k.sl, fun j => (h.ob j).trans (k.ob j), h.nd, k.nd'⟩

theorem pick_congr : ∀ {ks : List Nat} {ob ob' : List (Nat × O)}, (ob.map (·.1)).Nodup → (ob'.map (·.1)).Nodup → (∀ k ∈ ks, look ob k = look ob' k) → pick ob ks = pick ob' ks
  | [], _, _, _, _, _ => rfl
  | k :: r, ob, ob', h, h', hl => by
    have e := hl k (by simp)
    simp only [pick, e]
    cases hk : look ob' k with
    | none => exact pick_congr h h' fun j hj => hl j (by simp [hj])
    | some o =>
      simp only
      rw [pick_congr (ob := drop_ ob k) (ob' := drop_ ob' k) (h.sublist (drop_sub _ _)) (h'.sublist (drop_sub _ _)) (fun j hj => by
        rw [look_drop h, look_drop h', hl j (by simp [hj])])]

theorem maskSl_congr {ob : List (Nat × O)} {ss : List Nat} : ∀ {l l' : List S} {i : Nat}, l.length = l'.length → (∀ t ∈ ss, i ≤ t → l.getD (t - i) .dead = l'.getD (t - i) .dead) → maskSl ob ss i l = maskSl ob ss i l'
  | [], [], _, _, _ => rfl
  | s :: r, s' :: r', i, hlen, h => by
    simp only [maskSl]
    rw [maskSl_congr (l := r) (l' := r') (i := i + 1) (by simpa using hlen) (fun t ht hi => by
      have := h t ht (by omega)
      have e : t - i = (t - (i + 1)) + 1 := by omega
      rw [e] at this
      simpa using this)]
    by_cases hc : ss.contains i = true
    · have := h i (by simpa using hc) (Nat.le_refl _)
      simp only [Nat.sub_self, List.getD_cons_zero] at this
      rw [this]
    · rw [if_neg hc, if_neg hc]

theorem only_congr {σ τ : F} {ss ks : List Nat} (h : (σ.ob.map (·.1)).Nodup) (h' : (τ.ob.map (·.1)).Nodup) (hlen : σ.sl.length = τ.sl.length) (hs : ∀ t ∈ ss, σ.at_ t = τ.at_ t) (hk : ∀ k ∈ ks, look σ.ob k = look τ.ob k) : σ.only ss ks = τ.only ss ks := by
  unfold F.only
  rw [pick_congr h h' hk, maskSl_congr (i := 0) hlen (fun t ht _ => by simpa [F.at_] using hs t ht)]

theorem Eqv.only {σ τ : F} (h : Eqv σ τ) (ss ks : List Nat) : σ.only ss ks = τ.only ss ks :=
  only_congr h.nd h.nd' (by rw [h.sl]) (fun t _ => by unfold F.at_; rw [h.sl]) (fun k _ => h.ob k)

/-- What an operation asks of the state that it comes up in. -/
def Res.pre (R : Res) (σ : F) : Prop :=
  match R with
  | .slot rs cs rk os _ _ => rs.map σ.at_ = cs ∧ rk.map (look σ.ob) = os
  | .eff rs ks α _ β => σ.only rs ks = α ∧ (∀ k ∈ β.ob.map (·.1), k ∉ ks → look σ.ob k = none) ∧ (β.ob.map (·.1)).Nodup

theorem Eqv.pre {σ τ : F} (h : Eqv σ τ) {R : Res} (hp : R.pre σ) : R.pre τ := by
  have hat : σ.at_ = τ.at_ := by funext t; unfold F.at_; rw [h.sl]
  cases R with
  | slot rs cs rk os d s =>
    simp only [Res.pre] at hp ⊢
    rw [← hat]
    refine ⟨hp.1, ?_⟩
    rw [← hp.2]
    exact List.map_congr_left fun k _ => (h.ob k).symm
  | eff rs ks α d β =>
    simp only [Res.pre] at hp ⊢
    refine ⟨by rw [← h.only]; exact hp.1, fun k hk hn => by rw [← h.ob]; exact hp.2.1 k hk hn, hp.2.2⟩

theorem app_nd {R : Res} {σ : F} (h : (σ.ob.map (·.1)).Nodup) (hp : R.pre σ) : ((R.app σ).ob.map (·.1)).Nodup := by
  cases R with
  | slot rs cs rk os d s => cases d <;> exact h
  | eff rs ks α d β =>
    simp only [Res.pre] at hp
    simp only [Res.app, List.map_append]
    rw [List.nodup_append]
    refine ⟨hp.2.2, dropAll_nodup h, fun a ha b hb e => ?_⟩
    subst e
    obtain ⟨o, ho⟩ := look_of_mem hb
    rw [look_dropAll] at ho
    by_cases hk : ks.contains a = true
    · rw [if_pos hk] at ho; cases ho
    · rw [if_neg hk, hp.2.1 a ha (by simpa using hk)] at ho
      cases ho

theorem app_look_slot {rs : List Nat} {cs : List S} {rk : List Nat} {os : List (Option O)} {d : Option Nat} {s : S} {σ : F} (k : Nat) : look ((Res.slot rs cs rk os d s).app σ).ob k = look σ.ob k := by
  cases d <;> rfl

theorem app_look_eff {rs ks : List Nat} {α : F} {d : Option Nat} {β σ : F} (k : Nat) : look ((Res.eff rs ks α d β).app σ).ob k = match look β.ob k with | some o => some o | none => if ks.contains k then none else look σ.ob k := by
  simp only [Res.app]
  rw [look_append, look_dropAll]
  cases look β.ob k <;> rfl

theorem look_none_of {ob : List (Nat × O)} {k : Nat} (h : k ∉ ob.map (·.1)) : look ob k = none := by
  cases hl : look ob k with
  | none => rfl
  | some o => exact absurd (look_mem hl) h

/-- Objects that nobody touches. -/
theorem app_look {R : Res} {σ : F} {k : Nat} (h : k ∉ R.tk) : look (R.app σ).ob k = look σ.ob k := by
  cases R with
  | slot rs cs rk os d s => exact app_look_slot k
  | eff rs ks α d β =>
    simp only [Res.tk, List.mem_append, not_or] at h
    rw [app_look_eff, look_none_of h.2]
    simp [h.1]

theorem Eqv.app {σ τ : F} (h : Eqv σ τ) {R : Res} (hp : R.pre σ) : Eqv (R.app σ) (R.app τ) := by
  refine ⟨?_, ?_, app_nd h.nd hp, app_nd h.nd' (h.pre hp)⟩
  · cases R with
    | slot rs cs rk os d s => cases d <;> simp [Res.app, F.put, h.sl]
    | eff rs ks α d β => simp [Res.app, h.sl]
  · intro k
    cases R with
    | slot rs cs rk os d s => rw [app_look_slot, app_look_slot]; exact h.ob k
    | eff rs ks α d β => rw [app_look_eff, app_look_eff, h.ob]

theorem setO_length (l : List S) (d : Option Nat) (s : S) : (setO l d s).length = l.length := by cases d <;> simp [setO]

theorem app_length {R : Res} {σ : F} : (R.app σ).sl.length = σ.sl.length := by
  cases R with
  | slot rs cs rk os d s => cases d <;> simp [Res.app, F.put]
  | eff rs ks α d β => simp [Res.app, setO_length]

theorem sf_slot {rs : List Nat} {cs : List S} {rk : List Nat} {os : List (Option O)} {d : Option Nat} {s x : S} : (Res.slot rs cs rk os d s).sf x = x := by simp [Res.sf, Res.okS]

theorem app_sl (R : Res) (σ : F) : (R.app σ).sl = setO (σ.sl.map R.sf) R.dst R.out := by
  cases R with
  | slot rs cs rk os d s =>
    have : σ.sl.map (Res.slot rs cs rk os d s).sf = σ.sl := by
      rw [show (Res.slot rs cs rk os d s).sf = id from funext fun x => sf_slot]
      simp
    rw [this]
    cases d <;> rfl
  | eff rs ks α d β => rfl

theorem sf_dead (R : Res) : R.sf .dead = .dead := by unfold Res.sf; split <;> rfl

theorem sf_ok {R : Res} {s : S} (h : R.okS s = true) : R.sf s = s := by unfold Res.sf; rw [if_pos h]

theorem getD_setO {l : List S} {d : Option Nat} {s x : S} {t : Nat} (h : ∀ j, d = some j → j ≠ t) : (setO l d s).getD t x = l.getD t x := by
  cases d with
  | none => rfl
  | some j =>
    have := h j rfl
    simp only [setO, List.getD_eq_getElem?_getD]
    rw [List.getElem?_set_ne this]

theorem getD_map_sf (R : Res) (l : List S) (t : Nat) : (l.map R.sf).getD t .dead = R.sf (l.getD t .dead) := by
  rw [List.getD_eq_getElem?_getD, List.getD_eq_getElem?_getD, List.getElem?_map]
  cases l[t]? with
  | none => exact (sf_dead R).symm
  | some x => rfl

theorem app_at {R : Res} {σ : F} {t : Nat} (h : ∀ j, R.dst = some j → j ≠ t) : (R.app σ).at_ t = R.sf (σ.at_ t) := by
  unfold F.at_
  rw [app_sl, getD_setO h, getD_map_sf]

theorem app_at_alive {R : Res} {σ : F} {t : Nat} (h : ∀ j, R.dst = some j → j ≠ t) (hd : (R.app σ).at_ t ≠ .dead) : σ.at_ t = (R.app σ).at_ t := by
  rw [app_at h] at hd ⊢
  unfold Res.sf at hd ⊢
  split
  · rfl
  · rename_i hh; rw [if_neg hh] at hd; exact absurd rfl hd

/-- Two operations that may come up in either order. -/
structure Indep (a b : Res) : Prop where
  d1 : ∀ d, a.dst = some d → d ∉ b.rs
  d2 : ∀ d, a.dst = some d → b.dst ≠ some d
  d3 : ∀ d, b.dst = some d → d ∉ a.rs
  k1 : ∀ k ∈ a.tk, k ∉ b.rks
  k2 : ∀ k ∈ b.tk, k ∉ a.rks
  k3 : ∀ k ∈ a.tk, k ∉ b.tk
  c1 : ∀ c ∈ b.cont, c ≠ .dead
  c2 : ∀ c ∈ a.cont, c ≠ .dead ∧ b.okS c = true
  o1 : b.okS a.out = true
  o2 : a.okS b.out = true

theorem apartL_is {a b : List Nat} (h : apartL a b = true) : ∀ k ∈ a, k ∉ b := by
  intro k hk hb
  have := List.all_eq_true.mp h k hk
  simp [hb] at this

theorem isDead_is {s : S} (h : s.isDead = false) : s ≠ .dead := by rintro rfl; cases h

theorem indep_of {a b : Res} (h : indepB a b = true) : Indep a b := by
  unfold indepB at h
  simp only [Bool.and_eq_true] at h
  obtain ⟨⟨⟨⟨⟨⟨⟨⟨h1, h2⟩, h3⟩, h4⟩, h5⟩, h6⟩, h7⟩, h8⟩, h9⟩ := h
  refine ⟨?_, ?_, ?_, apartL_is h3, apartL_is h4, apartL_is h5, ?_, ?_, h8, h9⟩
  · intro d hd
    rw [hd] at h1
    simp only [Bool.and_eq_true, Bool.not_eq_true', List.contains_eq_mem, decide_eq_false_iff_not] at h1
    exact h1.1
  · intro d hd
    rw [hd] at h1
    simp only [Bool.and_eq_true, bne_iff_ne, ne_eq] at h1
    exact h1.2
  · intro d hd
    rw [hd] at h2
    simpa using h2
  · intro c hc
    have := List.all_eq_true.mp h6 c hc
    exact isDead_is (by simpa using this)
  · intro c hc
    have := List.all_eq_true.mp h7 c hc
    simp only [Bool.and_eq_true, Bool.not_eq_true'] at this
    exact ⟨isDead_is this.1, this.2⟩

/-- What a state says where it is asked hangs on a few slots and objects. -/
theorem pre_congr {R : Res} {σ τ : F} (hn : (σ.ob.map (·.1)).Nodup) (hn' : (τ.ob.map (·.1)).Nodup) (hlen : σ.sl.length = τ.sl.length) (hp : R.pre σ) (hs : ∀ t ∈ R.rs, σ.at_ t = τ.at_ t) (hk : ∀ k ∈ R.rks, look σ.ob k = look τ.ob k)
    (hnew : ∀ k ∈ R.tk, look σ.ob k = look τ.ob k) : R.pre τ := by
  cases R with
  | slot rs cs rk os d s =>
    simp only [Res.pre, Res.rs, Res.rks] at hp hs hk ⊢
    refine ⟨?_, ?_⟩
    · rw [← hp.1]; exact List.map_congr_left fun t ht => (hs t ht).symm
    · rw [← hp.2]; exact List.map_congr_left fun k hk' => (hk k hk').symm
  | eff rs ks α d β =>
    simp only [Res.pre, Res.rs, Res.rks, Res.tk] at hp hs hk hnew ⊢
    refine ⟨?_, fun k hk' hn => ?_, hp.2.2⟩
    · rw [← hp.1]; exact (only_congr hn hn' hlen hs hk).symm
    · rw [← hnew k (List.mem_append.mpr (.inr hk'))]; exact hp.2.1 k hk' hn

theorem mem_cont_slot {R : Res} {σ : F} (hp : R.pre σ) {t : Nat} (ht : t ∈ R.rs) : (∃ c ∈ R.cont, σ.at_ t = c) ∨ ∃ c ∈ R.cont, (c = σ.at_ t ∨ c = .dead) := by
  cases R with
  | slot rs cs rk os d s =>
    simp only [Res.pre, Res.rs] at hp ht
    left
    refine ⟨σ.at_ t, ?_, rfl⟩
    simp only [Res.cont]
    rw [← hp.1]
    exact List.mem_map_of_mem ht
  | eff rs ks α d β =>
    simp only [Res.pre, Res.rs] at hp ht
    right
    refine ⟨α.at_ t, ?_, ?_⟩
    · simp only [Res.cont]; exact List.mem_map_of_mem ht
    · rw [← hp.1]
      have key : ∀ (l : List S) (i j : Nat), (maskSl (pick σ.ob ks) rs i l).getD j .dead = l.getD j .dead ∨ (maskSl (pick σ.ob ks) rs i l).getD j .dead = .dead := by
        intro l
        induction l with
        | nil => intro i j; left; simp [maskSl]
        | cons s r ih =>
          intro i j
          cases j with
          | zero =>
            simp only [maskSl, List.getD_cons_zero]
            split
            · unfold sift; split <;> simp
            · simp
          | succ j => simpa [maskSl] using ih (i + 1) j
      exact key σ.sl 0 t

/-- A slot that is looked at, and is alive, is what it is told to be. -/
theorem cont_alive {R : Res} {σ : F} (hp : R.pre σ) (h : ∀ c ∈ R.cont, c ≠ .dead) {t : Nat} (ht : t ∈ R.rs) : σ.at_ t ∈ R.cont := by
  rcases mem_cont_slot hp ht with ⟨c, hc, e⟩ | ⟨c, hc, e | e⟩
  · rw [e]; exact hc
  · rw [← e]; exact hc
  · exact absurd e (h c hc)

theorem setO_map {l : List S} {d : Option Nat} {s : S} (f : S → S) : (setO l d s).map f = setO (l.map f) d (f s) := by
  cases d with
  | none => rfl
  | some d => simp only [setO, List.map_set]

theorem setO_comm {l : List S} {d d' : Option Nat} {s s' : S} (h : ∀ j, d = some j → d' ≠ some j) : setO (setO l d s) d' s' = setO (setO l d' s') d s := by
  cases d with
  | none => cases d' <;> rfl
  | some j =>
    cases d' with
    | none => rfl
    | some j' =>
      have : j ≠ j' := by rintro rfl; exact h j rfl rfl
      simp only [setO]
      exact List.set_comm _ _ this

theorem sf_comm (a b : Res) (s : S) : a.sf (b.sf s) = b.sf (a.sf s) := by
  unfold Res.sf
  by_cases ha : a.okS s = true <;> by_cases hb : b.okS s = true <;> simp [ha, hb]

/-- The swap. -/
theorem swap {a b : Res} {σ : F} (hn : (σ.ob.map (·.1)).Nodup) (hi : Indep a b) (ha : a.pre σ) (hb : b.pre (a.app σ)) : b.pre σ ∧ a.pre (b.app σ) ∧ Eqv (a.app (b.app σ)) (b.app (a.app σ)) := by
  have hb' : b.pre σ := by
    refine pre_congr (app_nd hn ha) hn app_length hb (fun t ht => ?_) (fun k hk => app_look fun h => hi.k1 k h hk) (fun k hk => app_look fun h => hi.k3 k h hk)
    have hd : ∀ j, a.dst = some j → j ≠ t := by rintro j hj rfl; exact hi.d1 j hj ht
    exact (app_at_alive hd (hi.c1 _ (cont_alive hb hi.c1 ht))).symm
  have ha' : a.pre (b.app σ) := by
    refine pre_congr hn (app_nd hn hb') app_length.symm ha (fun t ht => ?_) (fun k hk => (app_look fun h => hi.k2 k h hk).symm) (fun k hk => (app_look fun h => hi.k3 k hk h).symm)
    have hd : ∀ j, b.dst = some j → j ≠ t := by rintro j hj rfl; exact hi.d3 j hj ht
    rw [app_at hd, sf_ok]
    exact (hi.c2 _ (cont_alive ha (fun c hc => (hi.c2 c hc).1) ht)).2
  refine ⟨hb', ha', ?_, ?_, app_nd (app_nd hn hb') ha', app_nd (app_nd hn ha) hb⟩
  · rw [app_sl, app_sl, app_sl, app_sl, setO_map, setO_map, sf_ok hi.o1, sf_ok hi.o2, setO_comm hi.d2, List.map_map, List.map_map]
    congr 2
    apply List.map_congr_left
    intro s _
    exact sf_comm a b s
  · intro k
    by_cases hka : k ∈ a.tk
    · have hkb : k ∉ b.tk := hi.k3 k hka
      rw [app_look (R := b) hkb]
      cases a with
      | slot rs cs rk os d s => simp [Res.tk] at hka
      | eff rs ks α d β => rw [app_look_eff, app_look_eff, app_look hkb]
    · rw [app_look hka]
      by_cases hkb : k ∈ b.tk
      · cases b with
        | slot rs cs rk os d s => simp [Res.tk] at hkb
        | eff rs ks α d β => rw [app_look_eff, app_look_eff, app_look hka]
      · rw [app_look hkb, app_look hkb, app_look hka]

/-- From one state to another, operation by operation. -/
def Seq : F → List (Nat × Res) → F → Prop
  | σ, [], τ => Eqv σ τ
  | σ, (_, R) :: l, τ => R.pre σ ∧ Seq (R.app σ) l τ

theorem Seq.congr : ∀ {l : List (Nat × Res)} {σ σ' τ : F}, Eqv σ σ' → Seq σ l τ → Seq σ' l τ
  | [], _, _, _, h, k => h.symm.trans k
  | (_, R) :: l, _, _, _, h, k => ⟨h.pre k.1, Seq.congr (h.app k.1) k.2⟩

theorem Seq.front : ∀ {l1 l2 : List (Nat × Res)} {j : Nat} {R : Res} {σ τ : F}, (σ.ob.map (·.1)).Nodup → Seq σ (l1 ++ (j, R) :: l2) τ → (∀ x ∈ l1, Indep x.2 R) → R.pre σ ∧ Seq (R.app σ) (l1 ++ l2) τ
  | [], l2, j, R, σ, τ, hn, h, _ => h
  | (i, A) :: l1, l2, j, R, σ, τ, hn, h, hi => by
    obtain ⟨h1, h2⟩ := h
    obtain ⟨h3, h4⟩ := Seq.front (app_nd hn h1) h2 (fun x hx => hi x (by simp [hx]))
    obtain ⟨s1, s2, s3⟩ := swap hn (hi (i, A) (by simp)) h1 h3
    exact ⟨s1, s2, h4.congr s3.symm⟩

end Go.Proofs.Ytmkhdnpnjjdgfaa.Ev
