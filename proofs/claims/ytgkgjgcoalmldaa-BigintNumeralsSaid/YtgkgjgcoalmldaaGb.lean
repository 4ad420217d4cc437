/- Rf, part B: contracts of functions that are handed pointers or rows of the caller's own: from their bodies' evaluation. -/
import Derived.Test.YtgkgjgcoalmldaaGa
namespace Go.Proofs.Rf
open Go Go.RowKit

/-- What such a contract wants of a function's text. -/
structure FnOKB (P : Program) (f : Nat) (fn : Func) (c : Code) (psh rsh : Shape) (m : List Nat) (np : Nat) : Prop where
  at_ : P.funcs[f]? = some fn
  body : fn.body = some c
  name : (fn.name == "runtime.NumGoroutine") = false
  len : Nat.ble psh.sl.length fn.ntmps = true
  slots : slotsFrom 0 psh.sl = true
  slotr : slotsFrom 0 rsh.sl = true
  res : Nat.beq rsh.sl.length (np + fn.results.toList.length) = true
  pin : Nat.ble np psh.sl.length = true
  roots : rootsOk psh rsh np 0 m = true
  nd : nodupN m = true
  ml : Nat.ble m.length rsh.bl.length = true

theorem rangeN_length (k : Nat) : ∀ n, (rangeN k n).length = n
  | 0 => rfl
  | n + 1 => by simp [rangeN, rangeN_length (k + 1) n]

theorem rangeN_get : ∀ (k n i : Nat), i < n → (rangeN k n)[i]? = some (k + i)
  | k, 0, i, h => by omega
  | k, n + 1, 0, _ => by simp [rangeN]
  | k, n + 1, i + 1, h => by
    simp only [rangeN, List.getElem?_cons_succ]
    rw [rangeN_get (k + 1) n i (by omega), show k + 1 + i = k + (i + 1) by omega]

theorem RelL_slots {w : World} {ok : Nat → Prop} {ι : Nat → Option Value} {T : Nat → AV} {V : Nat → Value} (hT : ∀ t, RelV w ok ι (T t) (V t)) : ∀ l : List Nat, RelL w ok ι (l.map T) (l.map V)
  | [] => RelL_nil.2 rfl
  | x :: r => RelL_cons.2 ⟨_, _, rfl, hT x, RelL_slots hT r⟩

section
variable {X keep : Nat → Prop} {w0 w : World} {ι : Nat → Option Value} {C : Nat → Blk} {P : Program} {TT : Tab} {Δ : Nat → Option CallO}

theorem mkCallB_ok (hm : P.follows .mixedOrders = true) (hP : TabOK P TT) (hΔ : CallsOK P Δ) {Λ : Nat → Option LoopO} {f : Nat} {fn : Func} {c : Code} {psh rsh : Shape} {m : List Nat} {np : Nat} (hF : FnOKB P f fn c psh rsh m np)
    (hL : ∀ n : Slots, n.ok = roundOk (upTo fn.ntmps) (rangeN 0 np) → n.marks = true → LoopsIn P n none Λ c) {F : psh.den → Option rsh.den} (hrun : ∀ x z, F x = some z → runFB TT Δ (roundOk (upTo fn.ntmps) (rangeN 0 np)) Λ c fn.results.toList psh rsh np x = some z) : CallOK P f (mkCallB psh rsh m np F) := by
  refine ⟨⟨fn, hF.at_, hF.name, by rw [hF.body]; rfl⟩, ?_, ?_⟩
  · intro X keep w0 w ι C nb args vs e h hv hco hn
    unfold mkCallB at hco
    generalize hρ : blkB C psh.bl 0 (blkS (getT (numT 0 args)) psh.sl []) = ρ at hco
    split at hco
    · rename_i hc1
      simp only [Bool.and_eq_true] at hc1
      have hnd := nodupN_iff hc1.1
      have hal := Nat.eq_of_beq_eq_true hc1.2
      split at hco
      · rename_i x fz1 e1
        split at hco
        · rename_i y fz2 e2
          split at hco
          · cases hco
          · rename_i hmt
            have hmt : meetN ρ (updIds (fz1 ++ fz2)) = false := by simpa using hmt
            obtain ⟨z, hz, hco⟩ := bind_some' hco
            injection hco with hco
            subst hco
            let V : Nat → Value := fun t => vs.getD t undef
            have hTV : ∀ t, RelV w (okb X w ι C) ι (getT (numT 0 args) t) (V t) := fun t => by
              have := (getT_numT args vs 0 t hv).1
              rwa [Nat.zero_add] at this
            obtain ⟨H1, E1, same, hbl, hbk, hbk', hrel⟩ := takeC_sound h hTV e1 e2 hmt
            have hvl : vs.length = psh.sl.length := (RelL_length hv).trans hal
            have hnt : psh.sl.length ≤ fn.ntmps := Nat.le_of_ble_eq_true hF.len
            have hnp : np ≤ psh.sl.length := Nat.le_of_ble_eq_true hF.pin
            -- the callee's state
            let C1 := updC C (fz1 ++ fz2)
            let ι' : Nat → Option Value := fun j => (ρ[j]?).bind ι
            let C' := getB (putB psh.bl y)
            let X' : Nat → Prop := fun b => b < w.heap.size ∧ ¬ okb X w ι C1 b ∧ ¬ owned ι' C' b
            let keep' : Nat → Prop := fun b => b < w.heap.size ∧ ¬ owned ι' C' b
            have hown : ∀ b, owned ι' C' b → owned ι C1 b := by
              rintro b ⟨j, hj⟩
              obtain ⟨i, _, hi⟩ := hbk j b hj
              exact ⟨i, hi⟩
            have hokc : ∀ b, okb X w ι C1 b → okb X' w ι' C' b := fun b hb => ⟨hb.1, fun ho => hb.2.1 (hown b ho), fun hx => hx.2.1 hb⟩
            obtain ⟨hB, hT⟩ := hrel (okb X' w ι' C') hokc
            have Hc : HRel X' keep' w ι' C' w := ⟨hB, fun j j' b h1 h2 => by
                obtain ⟨i, hi, hb⟩ := hbk j b h1
                obtain ⟨i', hi', hb'⟩ := hbk j' b h2
                have e := H1.inj i i' b hb hb'
                subst e
                have hlt := (List.getElem?_eq_some_iff.1 hi).1
                exact (List.getElem?_inj hlt hnd).1 (hi.trans hi'.symm), Kept.refl _ _, fun b hb hk => hk.2 hb, fun b hb => hb.1, fun b hb hx => hx.2.2 hb, fun b hb => hb.1⟩
            let a0 : Act := { tmps := vs.toArray ++ Array.replicate (fn.ntmps - vs.toArray.size) undef, defers := [] }
            have ha0 : ∀ t, a0.tmps.getD t undef = V t := by
              intro t
              show (vs.toArray ++ Array.replicate (fn.ntmps - vs.toArray.size) undef).getD t undef = vs.getD t undef
              rw [Array.getD_eq_getD_getElem?, List.getD_eq_getElem?_getD]
              rcases Nat.lt_or_ge t vs.length with ht | ht
              · rw [Array.getElem?_append_left (by simpa using ht)]
                simp
              · rw [Array.getElem?_append_right (by simpa using ht), List.getElem?_eq_none ht, Array.getElem?_replicate]
                split <;> rfl
            let n : Slots := roundSlots (frameSlots w.heap.size fn.ntmps) (rangeN 0 np) a0
            have hsz0 : a0.tmps.size = fn.ntmps := by
              simp only [a0, Array.size_append, Array.size_replicate, List.size_toArray]
              omega
            have hjl : (psh.put (x, y)).bl.length = ρ.length := by rw [← hbl]; exact putB_length _ _
            have S0 : SRel X' keep' w n ι' (psh.put (x, y)) a0 w := by
              refine ⟨⟨Hc, fun t => ?_, ⟨hsz0, fun _ _ => rfl⟩, Nat.le_refl _, fun _ => rfl, trivial⟩, fun j hj => ?_⟩
              · rw [ha0 t]; exact hT t
              · show (ρ[j]?).bind ι = none
                rw [List.getElem?_eq_none (by omega)]
                rfl
            have hev := hrun (x, y) z hz
            unfold runFB at hev
            refine callsIn_wide.1 (callsIn_of_wp_marks (F := WF none) (n := 0) hF.at_ hF.body trivial (evC_sound (n := n) hm hP hΔ c (hL n rfl rfl) _ _ _ a0 w ι' keep' w S0 hev fun e s' a' w1 ι1 k1 v1 hlat hk h1 => ?_) rfl)
            have hsr : SRel X' keep' w n ι1 s' { tmps := a'.tmps, defers := [] } w1 :=
              ⟨⟨h1.f.h.weaken hlat.mono hlat.kept (fun b hb => hb.1) (fun b hb => hb.1), h1.f.tm, h1.f.size, Nat.le_refl _, fun _ => rfl, trivial⟩, h1.dom⟩
            -- at the end
            have fin : ∀ (w' : World) (ι3 : Nat → Option Value), SRel X' keep' w n ι3 s' { tmps := a'.tmps, defers := [] } w' → (match retsOf TT s' fn.results.toList with
                | some vs => rsh.take ⟨numT 0 ((rangeN 0 np).map (getT s'.tm) ++ vs), s'.bl⟩
                | none => none) = some z → ∃ v, (results fn a'.tmps).run P w' = .ok v w' ∧ ∃ v', Ending.returned v = .returned v' ∧ Out X keep w0 ι C w nb ⟨retV ((reS (rnB ρ m nb) rsh.sl z.1).drop np),
                  (if rsh.flat = true then [] else fz1 ++ fz2) ++ updRe m (reB (rnB ρ m nb) rsh.bl z.2) 0 ρ, (reB (rnB ρ m nb) rsh.bl z.2).drop m.length⟩ v' w' := by
              intro w' ι3 h' hk
              split at hk
              · rename_i rs hrs
                obtain ⟨us0, v, r1, r2, r3⟩ := results_sound hP h' hrs
                refine ⟨v, r1, v, rfl, ?_⟩
                let us : List Value := (rangeN 0 np).map (fun t => a'.tmps.getD t undef) ++ us0
                have hus : RelL w' (okb X' w' ι3 (getB s'.bl)) ι3 ((rangeN 0 np).map (getT s'.tm) ++ rs) us := RelL_append (RelL_slots h'.f.tm _) r2
                let a2 : Act := { tmps := us.toArray, defers := [] }
                have ha2 : ∀ t, a2.tmps.getD t undef = us.getD t undef := fun t => by
                  show us.toArray.getD t undef = _
                  rw [Array.getD_eq_getD_getElem?, List.getD_eq_getElem?_getD]
                  simp
                have S1 : SRel X' keep' w (frameSlots w.heap.size us.length) ι3 ⟨numT 0 ((rangeN 0 np).map (getT s'.tm) ++ rs), s'.bl⟩ a2 w' := by
                  refine ⟨⟨h'.f.h, fun t => ?_, (by show a2.tmps.size = us.length; simp [a2]), Nat.le_refl _, fun _ => rfl, trivial⟩, h'.dom⟩
                  have := (getT_numT _ us 0 t hus).1
                  rw [Nat.zero_add] at this
                  rw [ha2]
                  exact this
                obtain ⟨ι2, S2⟩ := Shape.take_sound S1 hk
                have hrl : us0.length = fn.results.toList.length := by
                  have h2 := RelL_length r2
                  have h3 : ∀ {l : List ResultVar} {vs : List AV}, retsOf TT s' l = some vs → vs.length = l.length := by
                    intro l
                    induction l with
                    | nil => intro vs hvs; simp only [retsOf] at hvs; injection hvs with hvs; subst hvs; rfl
                    | cons q l ih =>
                      intro vs hvs
                      simp only [retsOf] at hvs
                      split at hvs
                      · split at hvs
                        · rename_i vr hvr
                          injection hvs with hvs
                          subst hvs
                          simp [ih hvr]
                        · cases hvs
                      · cases hvs
                  have h4 := h3 hrs
                  omega
                have hul : us.length = rsh.sl.length := by
                  have h1 := Nat.eq_of_beq_eq_true hF.res
                  simp only [us, List.length_append, List.length_map, rangeN_length]
                  omega
                -- the pinned parameters
                have hpin : ∀ t, t < np → us.getD t undef = V t := by
                  intro t ht
                  have h1 := h'.f.size.2 t (List.mem_of_getElem? (show (rangeN 0 np)[t]? = some t by rw [rangeN_get 0 np t ht, Nat.zero_add]))
                  rw [ha0] at h1
                  rw [← h1, List.getD_eq_getElem?_getD, List.getElem?_append_left (by simpa [rangeN_length] using ht), List.getElem?_map, rangeN_get 0 np t ht, Nat.zero_add]
                  rfl
                have hroot : ∀ j k, m[j]? = some k → ∃ i u, ρ[k]? = some i ∧ ι2 j = some u ∧ ι i = some u := by
                  intro j k hjk
                  have hra := rootsOk_iff hF.roots j k hjk
                  rw [Nat.zero_add] at hra
                  obtain ⟨t, _, ht, sv, sv', q1, q2, q3⟩ := rootAt_iff hra hF.slots hF.slotr
                  rw [Nat.zero_add] at ht
                  obtain ⟨y1, g1⟩ := putS_at psh.sl x 0 t sv hF.slots (Nat.zero_le _) q1
                  obtain ⟨y2, g2⟩ := putS_at rsh.sl z.1 0 t sv' hF.slotr (Nat.zero_le _) q2
                  have l1 := hT t
                  have l2 := S2.f.tm t
                  rw [ha2, hpin t ht] at l2
                  have g2 : getT (rsh.put z).tm t = sv'.put y2 := g2
                  rw [g1] at l1
                  rw [g2] at l2
                  have hone : ∃ u, ι2 j = some u ∧ ι' k = some u := by
                    cases sv' <;> cases sv <;> simp only [rootOf, Option.some.injEq, Prod.mk.injEq] at q3 <;> (try (cases q3; done))
                    · obtain ⟨q3, q4⟩ := q3
                      subst q3; subst q4
                      simp only [SV.put, RelV] at l1 l2
                      exact ⟨_, l2.1, l1.1⟩
                    · obtain ⟨q3, q4⟩ := q3
                      subst q3; subst q4
                      simp only [SV.put, RelV] at l1 l2
                      obtain ⟨g, k1, k2⟩ := l1
                      obtain ⟨g', k3, k4⟩ := l2
                      rw [k2] at k4
                      injection k4 with k4
                      injection k4 with k4
                      injection k4 with k4
                      rw [k4] at k1
                      exact ⟨_, k3, k1⟩
                  obtain ⟨u, u1, u2⟩ := hone
                  have u2 : (ρ[k]?).bind ι = some u := u2
                  obtain ⟨i, i1, i2⟩ := bind_some' u2
                  exact ⟨i, u, i1, u1, i2⟩
                -- the caller's state behind the call
                let fl := rsh.flat
                let fz := fz1 ++ fz2
                let Cz := updC C (if fl = true then [] else fz)
                have hz' : HRel X keep w0 ι Cz w ∧ Ext X ι C w ι Cz w ∧ ∀ i ∈ ρ, Cz i = C i := by
                  show HRel X keep w0 ι (updC C (if fl = true then [] else fz)) w ∧ Ext X ι C w ι (updC C (if fl = true then [] else fz)) w ∧ ∀ i ∈ ρ, (updC C (if fl = true then [] else fz)) i = C i
                  cases fl
                  · exact ⟨H1, E1, same⟩
                  · exact ⟨h, Ext.refl _ _ _ _, fun _ _ => rfl⟩
                obtain ⟨Hz, Ez, samez⟩ := hz'
                let bs := reB (rnB ρ m nb) rsh.bl z.2
                let new := bs.drop m.length
                have hml : m.length ≤ rsh.bl.length := Nat.le_of_ble_eq_true hF.ml
                have hbsl : bs.length = rsh.bl.length := reB_length _ _ _
                have hnl : new.length = rsh.bl.length - m.length := by show (bs.drop m.length).length = _; rw [List.length_drop, hbsl]
                let ι'' : Nat → Option Value := fun k => if nb ≤ k ∧ k < nb + new.length then ι2 (m.length + (k - nb)) else ι k
                have hin : ∀ j, j < new.length → ι'' (nb + j) = ι2 (m.length + j) := by
                  intro j hj
                  show (if nb ≤ nb + j ∧ nb + j < nb + new.length then ι2 (m.length + (nb + j - nb)) else ι (nb + j)) = _
                  rw [if_pos (by omega), Nat.add_sub_cancel_left]
                have hou : ∀ k, ¬ (nb ≤ k ∧ k < nb + new.length) → ι'' k = ι k := fun k hk => if_neg hk
                let upd := (if fl = true then [] else fz) ++ updRe m bs 0 ρ
                let C'' := addC (updC C upd) nb new
                have hCu : updC C upd = updC Cz (updRe m bs 0 ρ) := updC_append _ _ _
                have hsm : ∀ i u, ι i = some u → ¬ (nb ≤ i ∧ i < nb + new.length) := fun i u hi hq => by rw [hn i hq.1 hq.2] at hi; cases hi
                -- where block j lies
                have hrn : ∀ j v, ι2 j = some v → ι'' (rnB ρ m nb j) = some v := by
                  intro j v hv
                  have hjl : j < rsh.bl.length := by
                    rcases Nat.lt_or_ge j rsh.bl.length with q | q
                    · exact q
                    · rw [S2.dom j (by rw [show (rsh.put z).bl.length = rsh.bl.length from putB_length _ _]; exact q)] at hv; cases hv
                  unfold rnB
                  cases hmj : m[j]? with
                  | some k =>
                    obtain ⟨i, u, i1, i2, i3⟩ := hroot j k hmj
                    rw [hv] at i2
                    injection i2 with i2
                    subst i2
                    simp only
                    rw [List.getD_eq_getElem?_getD, i1]
                    show ι'' i = some v
                    rw [hou i (hsm i _ i3), i3]
                  | none =>
                    have hge : m.length ≤ j := List.getElem?_eq_none_iff.1 hmj
                    simp only
                    rw [hin (j - m.length) (by omega), show m.length + (j - m.length) = j by omega, hv]
                let S : Nat → Prop := fun i => i ∈ ρ ∨ (nb ≤ i ∧ i < nb + new.length)
                -- the block at i
                have hCat : ∀ i, S i → C'' i = .dead ∨ ∃ j, rnB ρ m nb j = i ∧ C'' i = getB bs j := by
                  intro i hi
                  by_cases hq : nb ≤ i ∧ i < nb + new.length
                  · right
                    obtain ⟨j, rfl⟩ : ∃ j, i = nb + j := ⟨i - nb, by omega⟩
                    refine ⟨m.length + j, ?_, ?_⟩
                    · unfold rnB
                      rw [List.getElem?_eq_none (by omega)]
                      simp only
                      omega
                    · show addC (updC C upd) nb new (nb + j) = _
                      rw [addC_at new _ nb j (by omega)]
                      exact getB_drop bs m.length j
                  · have hi : i ∈ ρ := hi.resolve_right hq
                    obtain ⟨k, hk⟩ := List.mem_iff_getElem?.1 hi
                    have hCi : C'' i = match posM (0 + k) 0 m with
                        | some j => getB bs j
                        | none => .dead := by
                      show addC (updC C upd) nb new i = _
                      rw [addC_other _ _ _ _ hq, hCu]
                      exact updRe_at m bs ρ 0 k i Cz hnd hk
                    rw [Nat.zero_add] at hCi
                    cases hp : posM k 0 m with
                    | none => rw [hp] at hCi; exact .inl hCi
                    | some j =>
                      rw [hp] at hCi
                      right
                      refine ⟨j, ?_, hCi⟩
                      have := (posM_iff hp).2
                      rw [Nat.sub_zero] at this
                      unfold rnB
                      rw [this]
                      simp only
                      rw [List.getD_eq_getElem?_getD, hk]
                      rfl
                have hbk2 : ∀ i b, S i → bk ι'' C'' i = some b → ∃ j, rnB ρ m nb j = i ∧ bk ι2 (getB (putB rsh.bl z.2)) j = some b := by
                  intro i b hi hb
                  rcases hCat i hi with q | ⟨j, q1, q2⟩
                  · rw [bk_dead q] at hb; cases hb
                  · refine ⟨j, q1, ?_⟩
                    rcases reB_get (rnB ρ m nb) rsh.bl z.2 j with g | ⟨sb, g1, y', g2, g3⟩
                    · rw [bk_dead (q2.trans g.1)] at hb; cases hb
                    · have hB := S2.f.h.bl j
                      rw [show getB (rsh.put z).bl j = _ from g3] at hB
                      subst q1
                      exact SB.re_bk hrn sb y' hB (q2.trans g2) g3 hb
                have hCo : ∀ i, ¬ S i → C'' i = Cz i := by
                  intro i hi
                  show addC (updC C upd) nb new i = _
                  rw [addC_other _ _ _ _ (fun q => hi (.inr q)), hCu]
                  exact updC_other _ _ _ (by rw [updRe_ids]; exact fun q => hi (.inl q))
                have hιo : ∀ k, ¬ S k → ι'' k = ι k := fun k hk => hou k fun q => hk (.inr q)
                have hownz : ∀ b, owned ι' C' b → ∃ i ∈ ρ, bk ι Cz i = some b := by
                  rintro b ⟨j, hj⟩
                  obtain ⟨i, hi, hb⟩ := hbk j b hj
                  have hm : i ∈ ρ := List.mem_of_getElem? hi
                  exact ⟨i, hm, by rw [← hb]; exact bk_congr ((samez i hm).trans (same i hm).symm) rfl⟩
                have okT : fl = false → ∀ b, okb X' w' ι2 (getB (rsh.put z).bl) b → okb X w' ι'' C'' b := by
                  intro hfl b hb
                  have hCz : Cz = C1 := by show updC C (if fl = true then [] else fz) = _; rw [hfl]; rfl
                  have hcase : b < w.heap.size → okb X w ι C1 b ∨ owned ι' C' b := fun hl => Classical.byContradiction fun q => hb.2.2 ⟨hl, fun q1 => q (.inl q1), fun q1 => q (.inr q1)⟩
                  refine ⟨hb.1, ?_, fun hx => ?_⟩
                  · rintro ⟨i, hi⟩
                    by_cases hs : S i
                    · obtain ⟨j, _, hj⟩ := hbk2 i b hs hi
                      exact hb.2.1 ⟨j, hj⟩
                    · rw [bk_congr (hCo i hs) (hιo i hs)] at hi
                      rcases hcase (Hz.lt ⟨i, hi⟩) with q | q
                      · rw [hCz] at hi
                        exact q.2.1 ⟨i, hi⟩
                      · obtain ⟨i', hm, hi'⟩ := hownz b q
                        exact hs (.inl (Hz.inj i i' b hi hi' ▸ hm))
                  · rcases hcase (Nat.lt_of_lt_of_le (h.xl b hx) h.fr.size) with q | q
                    · exact q.2.2 hx
                    · obtain ⟨i', hm, hi'⟩ := hownz b q
                      exact Hz.ox b ⟨i', hi'⟩ hx
                have hfl2 : fl = true → flatS rsh.sl = true ∧ flatB rsh.bl = true := by
                  intro q
                  have q : (flatS rsh.sl && flatB rsh.bl) = true := q
                  simpa only [Bool.and_eq_true] using q
                obtain ⟨HF, EF⟩ := Hz.step (C' := C'') (ι' := ι'') (w' := w') S S2.f.h.fr.os S2.f.h.fr.tape S2.f.h.fr.output S2.f.h.fr.size hCo
                  (fun k v hk => by rw [hou k (hsm k v hk)]; exact hk) hιo
                  (by
                    intro k b hs hb
                    obtain ⟨j, _, hj⟩ := hbk2 k b hs hb
                    have hnk := S2.f.h.own b ⟨j, hj⟩
                    by_cases hl : b < w.heap.size
                    · right
                      have ho : owned ι' C' b := Classical.byContradiction fun q => hnk ⟨hl, q⟩
                      obtain ⟨i, hm, hi⟩ := hownz b ho
                      exact ⟨i, .inl hm, hi⟩
                    · exact .inl (Nat.le_of_not_lt hl))
                  (by
                    intro k k' b hs hs' hb hb'
                    obtain ⟨j, q, hj⟩ := hbk2 k b hs hb
                    obtain ⟨j', q', hj'⟩ := hbk2 k' b hs' hb'
                    rw [← q, ← q', S2.f.h.inj j j' b hj hj'])
                  (by
                    intro b hb hno
                    refine S2.f.h.fr.block b ⟨hb, fun ho => ?_⟩ hb
                    obtain ⟨i, hm, hi⟩ := hownz b ho
                    exact hno i (.inl hm) hi)
                  (by
                    intro _ k hs
                    rcases hCat k hs with q | ⟨j, q1, q2⟩
                    · rw [q]; trivial
                    · rcases reB_get (rnB ρ m nb) rsh.bl z.2 j with g | ⟨sb, g1, y', g2, g3⟩
                      · rw [q2.trans g.1]; trivial
                      · have hB := S2.f.h.bl j
                        rw [show getB (rsh.put z).bl j = _ from g3] at hB
                        rw [q2.trans g2, ← q1]
                        exact SB.re_rel (fl := fl) okT hrn sb y' (fun q => flatB_get (hfl2 q).2 g1) hB)
                have hret : RelL w' (okb X w' ι'' C'') ι'' (reS (rnB ρ m nb) rsh.sl z.1) us := by
                  refine reS_rel (ι2 := ι2) (fl := fl) okT hrn rsh.sl z.1 0 us hF.slotr (fun q => (hfl2 q).1) hul fun t _ => ?_
                  rw [Nat.zero_add]
                  have := S2.f.tm t
                  rw [ha2] at this
                  exact this
                have hret2 := RelL_drop hret np
                have hdr : us.drop np = us0 := by
                  show ((rangeN 0 np).map (fun t => a'.tmps.getD t undef) ++ us0).drop np = us0
                  rw [List.drop_left' (by simp [rangeN_length])]
                rw [hdr] at hret2
                refine ⟨ι'', HF, Ez.trans EF, ?_, hou⟩
                rw [r3]
                exact retV_rel hret2
              · cases hk
            have leave : (match retsOf TT s' fn.results.toList with
                | some vs => rsh.take ⟨numT 0 ((rangeN 0 np).map (getT s'.tm) ++ vs), s'.bl⟩
                | none => none) = some z → LeavesInM (WF none) 0 P fn a'.tmps (fun en w' => ∃ v, en = .returned v ∧ Out X keep w0 ι C w nb ⟨retV ((reS (rnB ρ m nb) rsh.sl z.1).drop np),
                  (if rsh.flat = true then [] else fz1 ++ fz2) ++ updRe m (reB (rnB ρ m nb) rsh.bl z.2) 0 ρ, (reB (rnB ρ m nb) rsh.bl z.2).drop m.length⟩ v w') a'.defers .returning w1 := by
              intro hk
              refine leaves_marks (base := w.heap.size) (G := fun w' => SRel X' keep' w n ι1 s' { tmps := a'.tmps, defers := [] } w') (fun w' h' => fin w' ι1 h' hk) (fun w' D h' hD hd => ?_) a'.defers w1 hsr (marksIn_of h1.f.h.fr h1.f.defers.2.2)
              obtain ⟨q1, q2⟩ := h'.f.h.quiet (w' := w'.putObj D (.deferred none)) D rfl rfl rfl (by simp) (fun b hb _ => World.putObj_heap_other hb) (fun o v hc => by simp [World.cell?, hd] at hc)
                (fun b hb e => h'.f.h.owned_obj hb (by rw [e]; exact hd)) (fun hk' => absurd hk'.1 (Nat.not_lt.2 hD))
              exact ⟨⟨q1, fun t => q2 _ _ (h'.f.tm t), h'.f.size, Nat.le_refl _, fun _ => rfl, trivial⟩, h'.dom⟩
            cases e with
            | nm => exact leave hk
            | ex j => cases hk
            | rt => exact leave hk
        · cases hco
      · cases hco
    · cases hco
  · intro args C nb R K
    unfold mkCallB
    split
    · split
      · split
        · split
          · rfl
          · generalize F _ = q
            cases q <;> rfl
        · rfl
      · rfl
    · rfl
end

/-- A function that is handed blocks, over data. -/
noncomputable def runFnB (TT : Tab) (Δ : List (Nat × CallO)) (Λ : List (Nat × LoopO)) (f : Func) (psh rsh : Shape) (np : Nat) (x : psh.den) : Option rsh.den :=
  runFB TT (lookL Δ) (roundOk (upTo f.ntmps) (rangeN 0 np)) (lookL Λ) (bodyOf f) f.results.toList psh rsh np x

theorem runFnB_ok {P : Program} {TT : Tab} (hm : P.follows .mixedOrders = true) (hP : TabOK P TT) {Δ : List (Nat × CallO)} (hΔ : AllCalls P Δ) {Λ : List (Nat × LoopO)} {f : Nat} {fn : Func} {psh rsh : Shape} {m : List Nat} {np : Nat} {c : Code} (hF : FnOKB P f fn c psh rsh m np) (hc : bodyOf fn = c)
    (hL : LoopsAt P (roundOk (upTo fn.ntmps) (rangeN 0 np)) false Λ c) : CallOK P f (mkCallB psh rsh m np (runFnB TT Δ Λ fn psh rsh np)) := by
  subst hc
  exact mkCallB_ok hm hP (callsOK_of hΔ) hF (fun n hn hk => hL n hn none (.inr ⟨rfl, hk⟩)) fun x y h => h
end Go.Proofs.Rf
