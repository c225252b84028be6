/- Calls. -/
import Derived.Test.YtmkhdnpnjjdgfaaRecv
import Derived.BigCall
set_option linter.unusedVariables false
set_option linter.unusedSimpArgs false
namespace Go.Proofs.Ytmkhdnpnjjdgfaa.Ev
open Go Go.RowKit

/-- A function is entered, or answers outright. -/
def Enters (P : Program) (f : FuncId) (args : Array Value) (w : World) (R : Ending → World → Prop) : Prop :=
  match (callFunc f args).run P w with
  | .ok (.enter g as) w' => Calls P g as w' R
  | .ok (.value u) w' => R (.returned u) w'
  | _ => False

/-- What comes back of a call. -/
def Came (w : World) (Φ : Bool → Nat → Prop) (ρ : Nat → List Value) (B : List Nat) (n : Nat) (v : V) (os : List (Option O)) : Ending → World → Prop := fun e w' =>
  ∃ val Φ' ρ' B1 B2, e = .returned val ∧ Rel w' Φ' { sl := [], ob := backs (List.range n) os } [] ρ' B1 ∧ Loose w' Φ' B1 B2 ∧ VRt w' Φ' (backs (List.range n) os) ρ' v val B2 ∧ Next w Φ ρ B w' Φ' ρ' (B1 ++ B2)

/-- A call answers as told. -/
def RunIs (P : Program) (f : FuncId) (args : List S) (obs : List O) (v : V) (os : List (Option O)) : Prop :=
  ∀ (w : World) (Φ : Bool → Nat → Prop) (vals : List Value) (ρ : Nat → List Value) (B : List Nat), Rel w Φ { sl := args, ob := enterObs obs 0 } vals ρ B →
    Enters P f vals.toArray w (Came w Φ ρ B obs.length v os)

def RunSound (P : Program) (run : FuncId → List S → List O → Option (V × List (Option O))) : Prop :=
  ∀ f args obs v os, obs.length < 64 → run f args obs = some (v, os) → RunIs P f args obs v os

theorem looks_get : ∀ {ks : List Nat} {ob : List (Nat × O)} {os : List O}, looks ob ks = some os → ∀ k ∈ ks, look (zipO ks os) k = look ob k
  | [], _, _, _, k, hk => by cases hk
  | i :: r, ob, os, h, k, hk => by
    simp only [looks] at h
    split at h
    · rename_i o os' h1 h2
      simp only [Option.some.injEq] at h
      subst h
      simp only [zipO, look]
      split
      · rename_i e; subst e; exact h1.symm
      · rename_i e
        rcases List.mem_cons.mp hk with rfl | hk
        · exact absurd rfl e
        · exact looks_get h2 k hk
    · cases h

theorem run_callee {P : Program} {o : Oper} {c : Call} {f : Operand} {a : Act} {g : FuncId} {vs : Array Value} (ho : o.op = .call c) (hc : c.callee = .value f) (hf : a.eval f = .func (.func g) #[] vs) (w : World) :
    (execOp a.eval o).run P w = (callFunc g (c.args.map a.eval ++ vs)).run P w := by
  simp only [execOp, ho, resolve, hc, hf, Deferred.ofValue]
  simp [invoke]

theorem upon_enters {P : Program} {o : Oper} {a : Act} {w : World} {f : FuncId} {args : Array Value} {R : Ending → World → Prop} {K : Act → World → Prop} {Q : Exit → Act → World → Prop} (h : Enters P f args w R) (hR : ∀ e w', R e w' → ∃ v, e = .returned v ∧ K (a.put o.dst v) w') : o.upon P a K Q ((callFunc f args).run P w) := by
  unfold Enters at h
  generalize (callFunc f args).run P w = r at h
  cases r with
  | ok n w' =>
    cases n <;> simp only at h
    case value u =>
      obtain ⟨v, e, hk⟩ := hR _ _ h
      cases e
      exact hk
    case enter g as =>
      rw [Oper.upon_enter]
      refine Calls.mono h fun e w'' he => ?_
      obtain ⟨v, rfl, hk⟩ := hR _ _ he
      exact hk
  | halt x w' => exact h.elim

theorem done_keys {σ σ' : F} {n0 n1 : Nat} {d : Option Nat} {v : V} (h : σ.done n0 n1 d v = some σ') : ∀ k ∈ σ'.ob.map (·.1), k ∈ σ.ob.map (·.1) := by
  unfold F.done at h
  split at h
  · split at h
    · simp only [Option.some.injEq] at h
      subst h
      exact fun _ hk => hk
    · split at h
      · simp only [Option.some.injEq] at h
        subst h
        exact fun _ hk => hk
      · split at h
        · simp only [Option.some.injEq] at h
          subst h
          exact fun _ hk => hk
        · cases h
  · cases h

theorem runOk_of {P : Program} {e : Env} {run : FuncId → List S → List O → Option (V × List (Option O))} (hs : RunSound P run) : RunOk P e run := by
  intro σ σ' o c f g caps hop hcal hrd hcall w Φ tm ρ B ds K Q hR hK
  have hfv := hR.rd (ds := ds) f
  rw [hrd] at hfv
  simp only [SlotR] at hfv
  obtain ⟨cv, hfe, hcv⟩ := hfv
  have hargs : SlotRs w Φ σ.ob ρ (c.args.toList.map σ.rd) (c.args.toList.map (⟨tm.toArray, ds⟩ : Act).eval) := by
    generalize c.args.toList = l
    induction l with
    | nil => simp only [List.map_nil, SlotRs]
    | cons x l ih => simp only [List.map_cons, SlotRs]; exact ⟨_, _, rfl, hR.rd x, ih⟩
  have hall := hargs.append hcv
  generalize hav : c.args.toList.map (⟨tm.toArray, ds⟩ : Act).eval ++ cv = av at hall
  have hvals : c.args.map (⟨tm.toArray, ds⟩ : Act).eval ++ cv.toArray = av.toArray := by
    rw [← hav]
    apply Array.ext'
    simp
  generalize hxs : c.args.toList.map σ.rd ++ caps = as at hall hcall
  unfold F.call at hcall
  simp only at hcall
  split at hcall
  · rename_i σ1 pls hlend
    split at hcall
    · rename_i xs bs hbor
      split at hcall
      · rename_i obs hlooks
        split at hcall
        · rename_i hchk
          obtain ⟨hap, h64⟩ := hchk
          split at hcall
          · rename_i v os hrunv
            split at hcall
            · rename_i hlent
              obtain ⟨hlent, hoslen⟩ := hlent
              split at hcall
              · rename_i σ2 hrecv
                split at hcall
                · rename_i σ3 hunl
                  -- the frame with its arguments
                  have hlenT := hR.slots.length
                  have hlenA := hall.length
                  obtain ⟨gh, ρ1, B1, hR1, hB1, hρ1, hgh, hlen1⟩ := lendArgs_is as.length 0 (hR.more hall) hlend
                  generalize hks : dedup (S.keyss xs) = ks at *
                  have hksn : ks.Nodup := by rw [← hks]; exact dedup_nodup _
                  have hksm : ∀ k ∈ S.keyss xs, k ∈ ks := fun k hk => by rw [← hks]; exact dedup_mem.mpr hk
                  obtain ⟨z1, z2, z3⟩ := looks_zip hlooks
                  have hapart : ∀ k ∈ bs, k ∉ ks := fun k hkb hkk => apartL_is hap k hkk hkb
                  obtain ⟨A1, A2, s1, s2, s3, s4⟩ := hR1.obs.split (ob1 := zipO ks obs) (ob2 := dropAll ks σ1.ob) hR1.keys hR1.nd (by rw [z2]; exact hksn) (dropAll_nodup hR1.keys) z3 (fun k o hl => by
                    rw [look_dropAll] at hl
                    split at hl
                    · cases hl
                    · exact hl) (fun k hk hk' => by
                    rw [z2] at hk
                    obtain ⟨o2, h2⟩ := look_of_mem hk'
                    rw [look_dropAll, if_pos (by simpa using hk)] at h2
                    cases h2)
                  rw [List.nodup_append] at s3
                  obtain ⟨t1, t2, t3⟩ := s3
                  have m1 : ∀ b ∈ A1, b ∈ B1 := fun b hb => s4 b (List.mem_append.mpr (.inl hb))
                  have m2 : ∀ b ∈ A2, b ∈ B1 := fun b hb => s4 b (List.mem_append.mpr (.inr hb))
                  have hlow : Rel w Φ { sl := [], ob := dropAll ks σ1.ob } [] ρ1 A2 := ⟨s2, t2, dropAll_nodup hR1.keys, fun b hb => hR1.disj b (m2 b hb), fun b hb => hR1.lt b (m2 b hb), hR1.ltΦ, hR1.sub, by simp only [SlotRs]⟩
                  have hsl : SlotRs w Φ σ1.ob ρ1 ((σ1.sl.drop σ.sl.length).take as.length) av := by
                    have := (hR1.slots.drop σ.sl.length).take as.length
                    rw [List.append_assoc, ← hlenT, List.drop_left, ← hlenA, List.take_left] at this
                    rw [← hlenT, ← hlenA]
                    exact this
                  have hxslots := borrowAll_is (bs0 := bs) (ob := zipO ks obs) hR1 hlow (fun k o hl hk => by rw [looks_get hlooks k hk]; exact hl) hbor hapart id hksm hsl
                  have hentry := enter_rel hksn z1 (s1.keep ⟨fun x b hb => .inl hb, fun _ _ _ => rfl, fun _ _ => rfl⟩ (fun _ _ => rfl)) hxslots t1 (fun b hb x hx => by
                    rcases hx with hx | ⟨_, _, hx⟩
                    · exact hR1.disj b (m1 b hb) x hx
                    · exact t3 b hb b hx rfl) (fun b hb => hR1.lt b (m1 b hb)) (fun x b hb => by
                    rcases hb with hb | ⟨_, _, hb⟩
                    · exact hR1.ltΦ x b hb
                    · exact hR1.lt b (m2 b hb)) (fun b hb => by
                    rcases hb with hb | ⟨_, hh, _⟩
                    · exact .inl (hR1.sub b hb)
                    · cases hh)
                  have hent := hs g _ obs v os h64 hrunv w _ av _ A1 hentry
                  unfold Oper.wp
                  rw [run_callee hop hcal hfe, hvals]
                  refine upon_enters hent ?_
                  rintro en w' ⟨val, Φ', ρ', C1, C2, rfl, hRr, hL, hv, hN⟩
                  refine ⟨val, rfl, ?_⟩
                  rw [act_put]
                  -- what the caller reads from now on
                  let Φn : Bool → Nat → Prop := fun x b => Φ' x b ∧ b ∉ A2
                  have hdA : ∀ x b, Φ x b → b ∉ A2 := fun x b hb hb2 => hR1.disj b (m2 b hb2) x hb
                  have hnew : ∀ b, w.heap.size ≤ b → b ∉ A2 := fun b hb hb2 => absurd (hR1.lt b (m2 b hb2)) (Nat.not_lt.mpr hb)
                  have h12 : ∀ b ∈ A1, b ∉ A2 := fun b hb hb2 => t3 b hb b hb2 rfl
                  have hf : ∀ b, Φ' false b → Φn false b := fun b hb => ⟨hb, by
                    rcases hN.fresh false b hb with (hh | ⟨_, hh, _⟩) | hh | hh
                    · exact hdA _ b hh
                    · cases hh
                    · exact h12 b hh
                    · exact hnew b hh⟩
                  have ht : bs = [] → ∀ b, Φ' true b → Φn true b := fun hbs b hb => ⟨hb, by
                    rcases hN.fresh true b hb with (hh | ⟨hh, _⟩) | hh | hh
                    · exact hdA _ b hh
                    · exact absurd hbs hh
                    · exact h12 b hh
                    · exact hnew b hh⟩
                  have hlt : (v.lent = true ∨ lentO os = true) → bs = [] := by
                    intro hh
                    simp only [Bool.or_eq_true, List.isEmpty_iff, Bool.and_eq_true, Bool.not_eq_true'] at hlent
                    rcases hlent with h0 | ⟨h1, h2⟩
                    · exact h0
                    · rcases hh with hh | hh
                      · rw [h1] at hh; cases hh
                      · rw [h2] at hh; cases hh
                  have hmono : ∀ x b, Φ x b → Φn x b := fun x b hb => ⟨hN.mono x b (.inl hb), hdA x b hb⟩
                  have hblk : ∀ b ∈ A2, w'.heap[b]? = w.heap[b]? := fun b hb => hN.block b (hR1.lt b (m2 b hb)) (fun hb1 => h12 b hb1 hb)
                  have hro : ∀ x b, Φ x b → w'.heap[b]? = w.heap[b]? := fun x b hb => hN.block b (hR1.ltΦ x b hb) (fun hb1 => hR1.disj b (m1 b hb1) x hb)
                  have hown : ∀ b ∈ C1 ++ C2, b ∉ A2 := fun b hb => (hN.own b hb).elim (h12 b) (hnew b)
                  have hrange : List.range obs.length = ks.map (numOf ks) := by rw [numOf_map hksn, z1]
                  have hβ : IsOb w' Φn (fun k => ρ' (numOf ks k)) (backs ks os) C1 := by
                    have h0 := hRr.obs
                    simp only at h0
                    rw [hrange] at h0
                    exact backs_plain hf (fun hl => ht (hlt (.inr hl))) (backs_is (numOf ks) h0)
                  have hρk : ∀ k ∈ ks, ρ' (numOf ks k) = ρ1 k := by
                    intro k hk
                    have hgk := numOf_get hk
                    have hl64 : numOf ks k < 64 := by
                      have := (List.getElem?_eq_some_iff.mp hgk).1
                      omega
                    rw [hN.imp _ hl64]
                    simp [List.getD_eq_getElem?_getD, hgk]
                  have hback := back_rel (d := none) (ρ' := fun k => ρ' (numOf ks k)) (Φ' := Φn) (β := backs ks os) (ks := ks) hR1 s2 m2 t2 hβ (backs_nodup hksn) hRr.nd (fun k hk hn => absurd (backs_mem k hk) hn)
                    (fun b hb x hx => hRr.disj b hb x hx.1) hRr.lt (fun b hb => hown b (List.mem_append.mpr (.inl hb))) hN.size hmono hro hblk (fun b hb x hx => hx.2 hb) (fun x b hx => hRr.ltΦ x b hx.1) (fun b hb => ⟨hRr.sub b hb.1, hb.2⟩) (fun k hk _ => hρk k hk)
                  have hρe : (fun k => if ((backs ks os).map (·.1)).contains k then ρ' (numOf ks k) else ρ1 k) = ρ1 := by
                    funext k
                    split
                    · rename_i hc
                      exact hρk k (backs_mem k (by simpa using hc))
                    · rfl
                  rw [hρe] at hback
                  have hLn : Loose w' Φn (C1 ++ A2) C2 := ⟨hL.nd, fun b hb hb' => by
                    rcases List.mem_append.mp hb' with hh | hh
                    · exact hL.apart b hb hh
                    · exact hown b (List.mem_append.mpr (.inr hb)) hh, hL.lt, fun b hb x hx => hL.disj b hb x hx.1⟩
                  have hvn := VRt.plain (Φ' := Φn) hf (fun hl => ht (hlt (.inl hl))) hv
                  obtain ⟨outs, ρ2, B2, hR2, hO, hB2, hρ2, hd⟩ := recvAll_is (d := o.dst) hback hLn hvn (fun k key ob hk hl => by
                    have hkr : (List.range obs.length)[k]? = some k := by
                      have := (List.getElem?_eq_some_iff.mp hk).1
                      rw [List.getElem?_range (by omega)]
                    rw [backs_look List.nodup_range hkr] at hl
                    have e1 := backs_look (os := os) hksn hk
                    refine ⟨?_, ?_⟩
                    · simp only [F.back]
                      rw [look_append, e1, hl]
                    · have e2 : numOf ks key = k := by
                        have h9 := congrArg (fun l => l[k]?) hrange
                        simp only [hkr, List.getElem?_map, hk, Option.map_some, Option.some.injEq] at h9
                        exact h9.symm
                      rw [← hρk key (List.mem_of_getElem? hk), e2]) hrecv
                  have hghost : ∀ pl ∈ pls, (tm ++ av ++ gh ++ outs)[pl.1]? = some (.agg (ρ2 pl.2).toArray) := by
                    intro pl hpl
                    obtain ⟨g1, g2⟩ := hgh pl hpl
                    rw [List.getElem?_append_left (List.getElem?_eq_some_iff.mp g2).1, g2, hρ2 pl.2]
                    cases hdd : o.dst with
                    | none => rfl
                    | some j =>
                      have := hd j hdd
                      simp only [newKey, beq_eq_false_iff_ne, ne_eq]
                      simp only [keyOf] at g1
                      omega
                  obtain ⟨B3, hR3, hB3⟩ := unlendAll_is hR2 hghost hunl
                  have hlenn : σ1.sl.length = (tm ++ (av ++ gh)).length := by rw [hlen1]; simp [hlenT, hlenA]; omega
                  rw [← hlenT, hlenn] at hcall
                  have hR3' : Rel w' Φn σ3 (tm ++ (av ++ gh) ++ outs) ρ2 B3 := by rw [← List.append_assoc tm]; exact hR3
                  obtain ⟨hfin, hkeys⟩ := done_is hR3' hO hcall
                  have hB3s : ∀ b ∈ B3, b ∈ B ∨ w.heap.size ≤ b := by
                    intro b hb
                    have : b ∈ C1 ++ C2 ∨ b ∈ A2 := by
                      rcases hB2 b (hB3 b hb) with hh | hh
                      · rcases List.mem_append.mp hh with hh | hh
                        · exact .inl (List.mem_append.mpr (.inl hh))
                        · exact .inr hh
                      · exact .inl (List.mem_append.mpr (.inr hh))
                    rcases this with hh | hh
                    · exact (hN.own b hh).imp (fun h1 => hB1 b (m1 b h1)) id
                    · exact .inl (hB1 b (m2 b hh))
                  have hlast := hfin.rho (ρ' := fun k => if k < keyOf 100000 0 then ρ2 k else ρ k) (fun k hk => by
                    have hkk : k < keyOf 100000 0 := hkeys k (done_keys hcall k hk)
                    show (if k < keyOf 100000 0 then ρ2 k else ρ k) = ρ2 k
                    rw [if_pos hkk])
                  have hsame : Same o.dst ρ (fun k => if k < keyOf 100000 0 then ρ2 k else ρ k) := by
                    intro k hk
                    show (if k < keyOf 100000 0 then ρ2 k else ρ k) = ρ k
                    split
                    · rename_i hkk
                      rw [hρ2 k hk, hρ1 k (by simpa using hkk)]
                    · rfl
                  refine hK _ _ _ _ _ hlast ⟨hN.os, hN.tape, hN.output, hN.size, fun b hb hn => hN.block b hb (fun hb1 => hn (hB1 b (m1 b hb1))), hB3s, hmono, ?_, ?_, hsame.imp⟩ hsame
                  · intro x b hb
                    rcases hN.fresh x b hb.1 with (hh | ⟨_, _, hh⟩) | hh | hh
                    · exact .inl hh
                    · exact absurd hh hb.2
                    · exact .inr (.inl (hB1 b (m1 b hh)))
                    · exact .inr (.inr hh)
                  · intro b hb
                    rcases hN.lent b hb.1 with (hh | ⟨_, _, hh⟩) | hh
                    · exact .inl hh
                    · exact absurd hh hb.2
                    · exact .inr (hf b hh)
                · cases hcall
              · cases hcall
            · cases hcall
          · cases hcall
        · cases hcall
      · cases hcall
    · cases hcall
  · cases hcall

end Go.Proofs.Ytmkhdnpnjjdgfaa.Ev
