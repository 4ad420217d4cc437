/- Rf, part v: a function's contract, from its body's evaluation. -/
import Derived.Test.YtgkgjgcoalmldaaFu
import Derived.RangeFuncLeaves
import Derived.RangeFuncWrites
import Derived.RangeFuncNested
namespace Go.Proofs.Rf
open Go Go.RowKit

section
variable {X keep : Nat → Prop} {w0 w : World} {ι : Nat → Option Value} {C : Nat → Blk} {P : Program} {TT : Tab} {Δ : Nat → Option CallO}

/-- The slots of a function's frame. -/
def frameSlots (base k : Nat) : Slots := ⟨true, base, upTo k, fun tm => tm.size = k, fun tm d h hd => by
  have hd : Nat.blt d k = true := hd
  rw [h]; exact Nat.le_of_ble_eq_true hd, fun tm d v h _ => by simpa using h⟩

/-- What is owned is no mark. -/
theorem HRel.owned_obj (h : HRel X keep w0 ι C w) {b : Nat} (hb : owned ι C b) : w.heap[b]? ≠ some (.deferred (some [])) := by
  obtain ⟨k, hk⟩ := hb
  have hB := h.bl k
  unfold bk at hk
  cases hC : C k with
  | row t e xs rw =>
    rw [hC] at hB hk
    cases rw with
    | true =>
      obtain ⟨v, cs, h1, h2, h3⟩ := hB
      rw [h1] at hk
      rcases h2.2 with ⟨h4, _⟩ | ⟨g, cap, cur, hv, _, h6, _⟩
      · rw [h4] at hk; cases hk
      · rw [hv] at hk
        injection hk with hk
        have hk : g = b := hk
        subst hk
        rw [h6]; intro e; cases e
    | false => cases hι : ι k <;> rw [hι] at hk <;> cases hk
  | box cs =>
    rw [hC] at hB hk
    obtain ⟨g, e, us, h1, h2, h3⟩ := hB
    rw [h1] at hk
    injection hk with hk
    have hk : g = b := hk
    subst hk
    rw [h2]; intro e; cases e
  | it s pos =>
    rw [hC] at hB hk
    obtain ⟨g, h1, h2⟩ := hB
    rw [h1] at hk
    injection hk with hk
    have hk : g = b := hk
    subst hk
    rw [h2]; intro e; cases e
  | dead => rw [hC] at hk; cases hι : ι k <;> rw [hι] at hk <;> cases hk

/-- The marks of a world. -/
def MarksIn (base : Nat) (w : World) : List Deferred → Prop
  | [] => True
  | d :: ds => (∃ D, d.target = .collected D ∧ base ≤ D ∧ w.heap[D]? = some (.deferred (some [])) ∧ ∀ e ∈ ds, e.target ≠ .collected D) ∧ MarksIn base w ds

theorem marksIn_of {base : Nat} {keep : Nat → Prop} {w0 w : World} (hk : Kept keep w0 w) : ∀ {ds : List Deferred}, MarksOK base keep w0 ds → MarksIn base w ds
  | [], _ => trivial
  | d :: ds, ⟨⟨D, h1, h2, h3, h4, h5⟩, h6⟩ => ⟨⟨D, h1, h2, by rw [hk.block D h3 (Array.getElem?_eq_some_iff.1 h4).1]; exact h4, h5⟩, marksIn_of hk h6⟩

theorem marksIn_put {base : Nat} {w : World} {D : Nat} {o : Obj} : ∀ {ds : List Deferred}, (∀ e ∈ ds, e.target ≠ .collected D) → MarksIn base w ds → MarksIn base (w.putObj D o) ds
  | [], _, _ => trivial
  | d :: ds, hd, ⟨⟨D', h1, h2, h4, h5⟩, h6⟩ => by
    refine ⟨⟨D', h1, h2, ?_, h5⟩, marksIn_put (fun e he => hd e (List.mem_cons_of_mem _ he)) h6⟩
    rw [World.putObj_heap_other ?_]
    · exact h4
    · rintro rfl
      exact hd d (List.mem_cons_self ..) h1

theorem leaves_marks {dp base : Nat} {fn : Func} {tmps : Array Value} {R : Ending → World → Prop} {G : World → Prop} (hfin : ∀ w, G w → ∃ v, (results fn tmps).run P w = .ok v w ∧ R (.returned v) w)
    (hstep : ∀ w D, G w → base ≤ D → w.heap[D]? = some (.deferred (some [])) → G (w.putObj D (.deferred none))) : ∀ (ds : List Deferred) (w : World), G w → MarksIn base w ds → LeavesInM (WF none) dp P fn tmps R ds .returning w
  | [], w, hg, _ => hfin w hg
  | d :: ds, w, hg, ⟨⟨D, h1, h2, h4, h5⟩, h6⟩ =>
    ⟨by simp, .inl ⟨D, _, h1, run_takeDeferred h4, leaves_marks hfin hstep ds _ (hstep w D hg h2 h4) (marksIn_put h5 h6)⟩⟩

theorem bk2 {ι ι' : Nat → Option Value} {C C' : Nat → Blk} {j k : Nat} (hC : C' j = C k) (hi : ι' j = ι k) : bk ι' C' j = bk ι C k := by simp only [bk, hC, hi]

theorem retV_rel {ok : Nat → Prop} {vs : List AV} {us : List Value} (h : RelL w ok ι vs us) : RelV w ok ι (retV vs) (if h : us.toArray.size = 1 then us.toArray[0] else .tuple us.toArray) := by
  match vs, h with
  | [], h =>
    rw [RelL_nil.1 h]
    simp only [retV, RelV]
    exact ⟨[], rfl, RelL_nil.2 rfl⟩
  | [v], h =>
    obtain ⟨u, ur, e, h1, h2⟩ := RelL_cons.1 h
    have h2 := RelL_nil.1 h2
    subst h2
    subst e
    exact h1
  | v1 :: v2 :: r, h =>
    have hl := RelL_length h
    rw [dif_neg (by simp only [List.size_toArray, hl, List.length_cons]; omega)]
    simp only [retV, RelV]
    exact ⟨us, rfl, h⟩

theorem takeL_length {C : Nat → Blk} {ρ : List Nat} : ∀ (l : List SV) (vs : List AV) (p : SV.denL l × List (Nat × Blk)), SV.takeL C ρ l vs = some p → vs.length = l.length
  | [], [], _, _ => rfl
  | [], _ :: _, _, h => by simp only [SV.takeL] at h; cases h
  | a :: r, [], _, h => by simp only [SV.takeL] at h; cases h
  | a :: r, v :: vs, p, h => by
    simp only [SV.takeL] at h
    split at h
    · split at h
      · rename_i y g e2
        have := takeL_length r vs _ e2
        simp [this]
      · cases h
    · cases h

/-- What a function's contract wants of its text. -/
structure FnOK (P : Program) (f : Nat) (fn : Func) (c : Code) (ps : List SV) (rsh : Shape) : Prop where
  at_ : P.funcs[f]? = some fn
  body : fn.body = some c
  name : (fn.name == "runtime.NumGoroutine") = false
  len : Nat.ble ps.length fn.ntmps = true
  slots : slotsFrom 0 rsh.sl = true
  res : Nat.beq rsh.sl.length fn.results.toList.length = true

theorem mkCall_ok (hm : P.follows .mixedOrders = true) (hP : TabOK P TT) (hΔ : CallsOK P Δ) {Λ : Nat → Option LoopO} {f : Nat} {fn : Func} {c : Code} {ps : List SV} {rsh : Shape} (hF : FnOK P f fn c ps rsh)
    (hL : ∀ base, LoopsIn P (frameSlots base fn.ntmps) none Λ c) {F : SV.denL ps → Option rsh.den} (hrun : ∀ x y, F x = some y → runF TT Δ (upTo fn.ntmps) Λ c fn.results.toList ps rsh x = some y) : CallOK P f (mkCall ps rsh F) := by
  refine ⟨⟨fn, hF.at_, hF.name, by rw [hF.body]; rfl⟩, ?_, ?_⟩
  · intro X keep w0 w ι C nb args vs e h hv hco hn
    unfold mkCall at hco
    split at hco
    · rename_i x fz hx
      obtain ⟨y, hy, hco⟩ := bind_some' hco
      injection hco with hco
      subst hco
      obtain ⟨⟨H1, hFr, E1⟩, hrel⟩ := SV.takeL_sound ps C args vs h (FrozenOf.refl C) hv x fz hx
      have hlen : vs.length = ps.length := (RelL_length hv).trans (takeL_length ps args _ hx)
      have hnt : ps.length ≤ fn.ntmps := Nat.le_of_ble_eq_true hF.len
      -- the callee's frame
      let X' : Nat → Prop := fun b => b < w.heap.size ∧ ¬ okb X w ι (updC C fz) b
      let keep' : Nat → Prop := fun b => b < w.heap.size
      let ι0 : Nat → Option Value := fun _ => none
      have hno : ∀ b, ¬ owned ι0 (getB []) b := by rintro b ⟨k, hk⟩; rw [bk_dead rfl] at hk; cases hk
      have Hc : HRel X' keep' w ι0 (getB []) w := ⟨fun k => trivial, fun k k' b h1 _ => (by rw [bk_dead rfl] at h1; cases h1), Kept.refl _ _, fun b hb => (hno b hb).elim, fun b hb => hb, fun b hb => (hno b hb).elim, fun b hb => hb.1⟩
      have hokc : ∀ b, okb X w ι (updC C fz) b → okb X' w ι0 (getB []) b := fun b hb => ⟨hb.1, hno b, fun hx => hx.2 hb⟩
      have hargs : RelL w (okb X' w ι0 (getB [])) ι0 (SV.putL ps x) vs := hrel _ ι0 hokc (fun b i hb => by simp at hb)
      let a0 : Act := { tmps := vs.toArray ++ Array.replicate (fn.ntmps - vs.toArray.size) undef, defers := [] }
      have hT0 : ∀ t, RelV w (okb X' w ι0 (getB [])) ι0 (getT (numT 0 (SV.putL ps x)) t) (a0.tmps.getD t undef) := by
        intro t
        have h1 := (getT_numT (SV.putL ps x) vs 0 t hargs).1
        rw [Nat.zero_add] at h1
        have h2 : a0.tmps.getD t undef = vs.getD t undef := by
          show (vs.toArray ++ Array.replicate (fn.ntmps - vs.toArray.size) undef).getD t undef = _
          rw [Array.getD_eq_getD_getElem?, List.getD_eq_getElem?_getD]
          rcases Nat.lt_or_ge t vs.length with ht | ht
          · rw [Array.getElem?_append_left (by simpa using ht)]
            simp
          · rw [Array.getElem?_append_right (by simpa using ht), List.getElem?_eq_none ht, Array.getElem?_replicate]
            split <;> rfl
        rw [h2]
        exact h1
      have S0 : SRel X' keep' w (frameSlots w.heap.size fn.ntmps) ι0 ⟨numT 0 (SV.putL ps x), []⟩ a0 w := by
        refine ⟨⟨Hc, hT0, ?_, Nat.le_refl _, fun _ => rfl, trivial⟩, fun _ _ => rfl⟩
        show a0.tmps.size = fn.ntmps
        simp only [a0, Array.size_append, Array.size_replicate, List.size_toArray]
        omega
      have hev := hrun x y hy
      unfold runF at hev
      refine callsIn_wide.1 (callsIn_of_wp_marks (F := WF none) (n := 0) hF.at_ hF.body trivial (evC_sound hm hP hΔ c (hL _) _ _ _ a0 w ι0 keep' w S0 hev fun e s' a' w1 ι1 k1 v1 hlat hk h1 => ?_) rfl)
      have hsr : SRel X' keep' w (frameSlots w.heap.size fn.ntmps) ι1 s' { tmps := a'.tmps, defers := [] } w1 :=
        ⟨⟨h1.f.h.weaken hlat.mono hlat.kept (fun b hb => hb) (fun b hb => hb.1), h1.f.tm, h1.f.size, Nat.le_refl _, fun _ => rfl, trivial⟩, h1.dom⟩
      -- at the end
      have fin : ∀ (w' : World) (ι' : Nat → Option Value), SRel X' keep' w (frameSlots w.heap.size fn.ntmps) ι' s' { tmps := a'.tmps, defers := [] } w' → (match retsOf TT s' fn.results.toList with
          | some vs => rsh.take ⟨numT 0 vs, s'.bl⟩
          | none => none) = some y → ∃ v, (results fn a'.tmps).run P w' = .ok v w' ∧ ∃ v', Ending.returned v = .returned v' ∧ Out X keep w0 ι C w nb ⟨retV (retS nb rsh.sl y.1), if rsh.flat = true then [] else fz, retB nb rsh.bl y.2⟩ v' w' := by
        intro w' ι' h' hk
        split at hk
        · rename_i rs hrs
          obtain ⟨us, v, r1, r2, r3⟩ := results_sound hP h' hrs
          refine ⟨v, r1, v, rfl, ?_⟩
          let a2 : Act := { tmps := us.toArray, defers := [] }
          have S1 : SRel X' keep' w (frameSlots w.heap.size us.length) ι' ⟨numT 0 rs, s'.bl⟩ a2 w' := by
            refine ⟨⟨h'.f.h, fun t => ?_, (by show a2.tmps.size = us.length; simp [a2]), Nat.le_refl _, fun _ => rfl, trivial⟩, h'.dom⟩
            have := (getT_numT rs us 0 t r2).1
            rw [Nat.zero_add] at this
            have h2 : a2.tmps.getD t undef = us.getD t undef := by
              show us.toArray.getD t undef = _
              rw [Array.getD_eq_getD_getElem?, List.getD_eq_getElem?_getD]
              simp
            rw [h2]
            exact this
          obtain ⟨ι2, S2⟩ := Shape.take_sound S1 hk
          have hul : us.length = rsh.sl.length := by
            have h1 := Nat.eq_of_beq_eq_true hF.res
            have h2 := RelL_length r2
            have h3 : ∀ {l : List ResultVar} {vs : List AV}, retsOf TT s' l = some vs → vs.length = l.length := by
              intro l
              induction l with
              | nil => intro vs hvs; simp only [retsOf] at hvs; injection hvs with hvs; subst hvs; rfl
              | cons q l ih =>
                intro vs hvs
                simp only [retsOf] at hvs
                split at hvs
                · split at hvs
                  · rename_i vr hvr
                    injection hvs with hvs
                    subst hvs
                    simp [ih hvr]
                  · cases hvs
                · cases hvs
            have h4 := h3 hrs
            omega
          -- the caller's state behind the call
          let fl := rsh.flat
          let Cz := updC C (if fl = true then [] else fz)
          have hz : HRel X keep w0 ι Cz w ∧ Ext X ι C w ι Cz w := by
            show HRel X keep w0 ι (updC C (if fl = true then [] else fz)) w ∧ Ext X ι C w ι (updC C (if fl = true then [] else fz)) w
            cases fl
            · exact ⟨H1, E1⟩
            · exact ⟨h, Ext.refl _ _ _ _⟩
          obtain ⟨Hz, Ez⟩ := hz
          let new := retB nb rsh.bl y.2
          have hnl : new.length = rsh.bl.length := retB_length _ _ _
          let ι'' : Nat → Option Value := fun k => if nb ≤ k ∧ k < nb + new.length then ι2 (k - nb) else ι k
          have hin : ∀ j, j < new.length → ι'' (nb + j) = ι2 j := by
            intro j hj
            show (if nb ≤ nb + j ∧ nb + j < nb + new.length then ι2 (nb + j - nb) else ι (nb + j)) = _
            rw [if_pos (by omega), Nat.add_sub_cancel_left]
          have hou : ∀ k, ¬ (nb ≤ k ∧ k < nb + new.length) → ι'' k = ι k := fun k hk => if_neg hk
          let C'' := addC Cz nb new
          have hCin : ∀ j, j < new.length → C'' (nb + j) = getB new j := fun j hj => addC_at new Cz nb j hj
          have hbkn : ∀ j b, j < new.length → bk ι'' C'' (nb + j) = some b → bk ι2 (getB (putB rsh.bl y.2)) j = some b := by
            intro j b hj hb
            rcases retB_get nb rsh.bl y.2 j with q | ⟨sb, q1, z, q2, q3⟩
            · rw [bk_dead (by rw [hCin j hj]; exact q)] at hb; cases hb
            · exact SB.ret_bk sb z (by rw [hCin j hj]; exact q2) q3 (hin j hj) hb
          have hout : ∀ k, ¬ (nb ≤ k ∧ k < nb + new.length) → C'' k = Cz k := fun k hk => addC_other _ _ _ _ hk
          have hX : ∀ b, ¬ X' b → b < w.heap.size → okb X w ι (updC C fz) b := fun b h1 h2 => Classical.byContradiction fun h3 => h1 ⟨h2, h3⟩
          have okT : fl = false → ∀ b, okb X' w' ι2 (getB (rsh.put y).bl) b → okb X w' ι'' C'' b := by
            intro hfl b hb
            have hCz : Cz = updC C fz := by show updC C (if fl = true then [] else fz) = _; rw [hfl]; rfl
            refine ⟨hb.1, ?_, fun hx => ?_⟩
            · rintro ⟨k, hk⟩
              by_cases hs : nb ≤ k ∧ k < nb + new.length
              · obtain ⟨j, rfl⟩ : ∃ j, k = nb + j := ⟨k - nb, by omega⟩
                exact hb.2.1 ⟨j, hbkn j b (by omega) hk⟩
              · rw [bk_congr (hout k hs) (hou k hs)] at hk
                have := hX b hb.2.2 (Hz.lt ⟨k, hk⟩)
                rw [hCz] at hk
                exact this.2.1 ⟨k, hk⟩
            · exact (hX b hb.2.2 (Nat.lt_of_lt_of_le (h.xl b hx) h.fr.size)).2.2 hx
          have hfl2 : fl = true → flatS rsh.sl = true ∧ flatB rsh.bl = true := by
            intro q
            have q : (flatS rsh.sl && flatB rsh.bl) = true := q
            simpa only [Bool.and_eq_true] using q
          have hlen2 : (rsh.put y).bl.length = new.length := by rw [hnl]; exact putB_length _ _
          have hιn : ∀ b v, ι2 b = some v → ι'' (nb + b) = some v := by
            intro b v hb
            have hb' : b < new.length := by
              rcases Nat.lt_or_ge b new.length with q | q
              · exact q
              · rw [S2.dom b (by omega)] at hb; cases hb
            rw [hin b hb']; exact hb
          obtain ⟨HF, EF⟩ := Hz.step (C' := C'') (ι' := ι'') (w' := w') (fun k => nb ≤ k ∧ k < nb + new.length) S2.f.h.fr.os S2.f.h.fr.tape S2.f.h.fr.output S2.f.h.fr.size hout
            (fun k v hk => by
              have hs : ¬ (nb ≤ k ∧ k < nb + new.length) := fun q => by rw [hn k q.1 q.2] at hk; cases hk
              rw [hou k hs]; exact hk) hou
            (by
              intro k b hs hb
              obtain ⟨j, rfl⟩ : ∃ j, k = nb + j := ⟨k - nb, by omega⟩
              exact .inl (Nat.le_of_not_lt (S2.f.h.own b ⟨j, hbkn j b (by omega) hb⟩)))
            (by
              intro k k' b hs hs' hb hb'
              obtain ⟨j, rfl⟩ : ∃ j, k = nb + j := ⟨k - nb, by omega⟩
              obtain ⟨j', rfl⟩ : ∃ j, k' = nb + j := ⟨k' - nb, by omega⟩
              rw [S2.f.h.inj j j' b (hbkn j b (by omega) hb) (hbkn j' b (by omega) hb')])
            (fun b hb _ => S2.f.h.fr.block b hb hb)
            (by
              intro _ k hs
              obtain ⟨j, rfl⟩ : ∃ j, k = nb + j := ⟨k - nb, by omega⟩
              have hj : j < new.length := by omega
              rw [hCin j hj]
              rcases retB_get nb rsh.bl y.2 j with q | ⟨sb, q1, z, q2, q3⟩
              · rw [show getB new j = .dead from q]; trivial
              · rw [show getB new j = _ from q2]
                have hB := S2.f.h.bl j
                rw [show getB (rsh.put y).bl j = _ from q3] at hB
                exact SB.ret_rel (fl := fl) okT hιn sb z (fun q => flatB_get (hfl2 q).2 q1) hB)
          have hret : RelL w' (okb X w' ι'' C'') ι'' (retS nb rsh.sl y.1) us := by
            refine retS_rel (ι2 := ι2) (fl := fl) okT hιn rsh.sl y.1 0 us hF.slots (fun q => (hfl2 q).1) hul fun t _ => ?_
            · rw [Nat.zero_add]
              have := S2.f.tm t
              have h2 : a2.tmps.getD t undef = us.getD t undef := by
                show us.toArray.getD t undef = _
                rw [Array.getD_eq_getD_getElem?, List.getD_eq_getElem?_getD]
                simp
              rw [h2] at this
              exact this
          refine ⟨ι'', HF, Ez.trans EF, ?_, hou⟩
          rw [r3]
          exact retV_rel hret
        · cases hk
      have leave : (match retsOf TT s' fn.results.toList with
          | some vs => rsh.take ⟨numT 0 vs, s'.bl⟩
          | none => none) = some y → LeavesInM (WF none) 0 P fn a'.tmps (fun en w' => ∃ v, en = .returned v ∧ Out X keep w0 ι C w nb ⟨retV (retS nb rsh.sl y.1), if rsh.flat = true then [] else fz, retB nb rsh.bl y.2⟩ v w') a'.defers .returning w1 := by
        intro hk
        refine leaves_marks (base := w.heap.size) (G := fun w' => SRel X' keep' w (frameSlots w.heap.size fn.ntmps) ι1 s' { tmps := a'.tmps, defers := [] } w') (fun w' h' => fin w' ι1 h' hk) (fun w' D h' hD hd => ?_) a'.defers w1 hsr (marksIn_of h1.f.h.fr h1.f.defers.2.2)
        obtain ⟨q1, q2⟩ := h'.f.h.quiet (w' := w'.putObj D (.deferred none)) D rfl rfl rfl (by simp) (fun b hb _ => World.putObj_heap_other hb) (fun o v hc => by simp [World.cell?, hd] at hc)
          (fun b hb e => h'.f.h.owned_obj hb (by rw [e]; exact hd)) (fun hk' => absurd hk' (Nat.not_lt.2 hD))
        exact ⟨⟨q1, fun t => q2 _ _ (h'.f.tm t), h'.f.size, Nat.le_refl _, fun _ => rfl, trivial⟩, h'.dom⟩
      cases e with
      | nm => exact leave hk
      | ex j => cases hk
      | rt => exact leave hk
    · cases hco
  · intro args C nb R K
    unfold mkCall
    split
    · rename_i x fz hx
      cases F x <;> rfl
    · rfl
end
end Go.Proofs.Rf
