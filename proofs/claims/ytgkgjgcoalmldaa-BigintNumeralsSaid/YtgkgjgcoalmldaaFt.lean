/- Rf, part t: loops over data. -/
import Derived.Test.YtgkgjgcoalmldaaFs
namespace Go.Proofs.Rf
open Go Go.RowKit

section
variable {X keep : Nat → Prop} {w0 w : World} {ι : Nat → Option Value} {C : Nat → Blk}

theorem box_lt {bl : List Blk} {k : Nat} {vs : List AV} (h : getB bl k = .box vs) : k < bl.length := by
  rcases Nat.lt_or_ge k bl.length with q | q
  · exact q
  · rw [getB_out _ _ q] at h; cases h

theorem SRel.nil_row {n : Slots} {s : St} {a : Act} (h : SRel X keep w0 n ι s a w) {t : Nat} (ht : getT s.tm t = .nl) (ty : Ty) (e : Nat) :
    ∃ ι', SRel X keep w0 n ι' ⟨(t, .rf s.bl.length) :: s.tm, s.bl ++ [.row ty e [] true]⟩ a w ∧ (∀ k b, bk ι' (getB (s.bl ++ [.row ty e [] true])) k = some b → bk ι (getB s.bl) k = some b) ∧ ∀ b, Bx ι (getB s.bl) b → Bx ι' (getB (s.bl ++ [.row ty e [] true])) b := by
  have hnone : ι s.bl.length = none := h.dom _ (Nat.le_refl _)
  have hbk : bk (setI ι s.bl.length (.slice none 0 0)) (setC (getB s.bl) s.bl.length (.row ty e [] true)) s.bl.length = none := by
    unfold bk
    rw [setC_self, setI_self]
    rfl
  obtain ⟨h1, h2⟩ := h.f.h.step (C' := setC (getB s.bl) s.bl.length (.row ty e [] true)) (ι' := setI ι s.bl.length (.slice none 0 0)) (w' := w) (fun k => k = s.bl.length) rfl rfl rfl (Nat.le_refl _)
    (fun k hk => setC_ne hk) (fun k v hk => by
      have hne : k ≠ s.bl.length := by rintro rfl; rw [hnone] at hk; cases hk
      rw [setI_ne hne]; exact hk) (fun k hk => setI_ne hk)
    (by rintro k b rfl hb; rw [hbk] at hb; cases hb) (fun k k' b e1 e2 _ _ => e1.trans e2.symm) (fun _ _ _ => rfl)
    (by
      rintro _ k rfl
      rw [setC_self]
      exact ⟨.slice none 0 0, [], setI_self .., ⟨by simp, .inl ⟨rfl, rfl⟩⟩, rfl⟩)
  refine ⟨setI ι s.bl.length (.slice none 0 0), ⟨?_, fun k hk => ?_⟩, fun k b hb => ?_, fun b hb => Bx_of (fun k vs hk => ?_) hb⟩
  · show FRel X keep w0 n _ (getT ((t, .rf s.bl.length) :: s.tm)) (getB (s.bl ++ [.row ty e [] true])) a w
    rw [getB_append1]
    refine ⟨h1, fun u => ?_, h.f.size, h.f.defers⟩
    have hu := h.f.tm u
    simp only [getT]
    split
    · rename_i hb
      have hb := Nat.eq_of_beq_eq_true hb
      subst hb
      rw [ht] at hu
      simp only [RelV] at hu ⊢
      rw [hu]
      exact ⟨setI_self .., _, _, _, rfl⟩
    · exact h2.val hu
  · simp only [List.length_append, List.length_singleton] at hk
    rw [setI_ne (by omega)]
    exact h.dom k (by omega)
  · rw [getB_append1] at hb
    by_cases e : k = s.bl.length
    · subst e
      rw [hbk] at hb
      cases hb
    · rw [← hb]
      exact (bk_congr (setC_ne e) (setI_ne e)).symm
  · have := box_lt hk
    rw [getB_append1]
    exact ⟨⟨vs, (setC_ne (by omega)).trans hk⟩, setI_ne (by omega)⟩

theorem getB_setB_append (bl : List Blk) (i : Nat) (b : Blk) (hi : i < bl.length) : getB (setB bl i .dead ++ [b]) = setC (setC (getB bl) i .dead) bl.length b := by
  rw [getB_append1, setB_length, getB_setB bl i .dead hi]

theorem SRel.rs_row {n : Slots} {s : St} {a : Act} (h : SRel X keep w0 n ι s a w) {t i sz len : Nat} (ht : getT s.tm t = .rs i sz 0 len) {ty : Ty} {e : Nat} {xs : List ty.den} (hC : getB s.bl i = .row ty e xs true) (hi : i < s.bl.length) :
    ∃ ι', SRel X keep w0 n ι' ⟨(t, .rf s.bl.length) :: s.tm, setB s.bl i .dead ++ [.row ty e (xs.take len) true]⟩ a w ∧ (∀ k b, bk ι' (getB (setB s.bl i .dead ++ [.row ty e (xs.take len) true])) k = some b → bk ι (getB s.bl) k = some b ∨ bk ι (getB s.bl) i = some b) ∧ ∀ b, Bx ι (getB s.bl) b → Bx ι' (getB (setB s.bl i .dead ++ [.row ty e (xs.take len) true])) b := by
  have hnone : ι s.bl.length = none := h.dom _ (Nat.le_refl _)
  have hv := h.f.tm t
  rw [ht] at hv
  simp only [RelV] at hv
  obtain ⟨A, nn, c, A', c', v1, v2, v3, v4, v5, v6⟩ := hv
  obtain ⟨rfl, rfl⟩ := v6 trivial
  have hB := h.f.h.bl i
  rw [hC] at hB
  obtain ⟨v, cs, b1, b2, b3⟩ := hB
  rw [v1] at b1
  injection b1 with b1
  subst b1
  obtain ⟨u, hu⟩ : ∃ u, u = Value.slice A' len c' := ⟨_, rfl⟩
  have hne : i ≠ s.bl.length := by omega
  let C' := setC (setC (getB s.bl) i .dead) s.bl.length (.row ty e (xs.take len) true)
  let ι' := setI ι s.bl.length u
  have hlen : nn = xs.length := by
    rcases b2.2 with ⟨q, q'⟩ | ⟨g, cap, cur, q, _⟩
    · injection q with _ q1 _
      omega
    · injection q
  have hxl : (xs.take len).length = len := by rw [List.length_take]; omega
  have hbk : ∀ b, bk ι' C' s.bl.length = some b → bk ι (getB s.bl) i = some b := by
    intro b hb
    unfold bk at hb ⊢
    rw [show C' s.bl.length = .row ty e (xs.take len) true from setC_self .., show ι' s.bl.length = some u from setI_self .., hu] at hb
    rw [hC, v1]
    cases A' with
    | none => exact hb
    | some A => exact hb
  have hdead : bk ι' C' i = none := bk_dead (by show setC (setC (getB s.bl) i .dead) s.bl.length _ i = .dead; rw [setC_ne hne, setC_self])
  obtain ⟨h1, h2⟩ := h.f.h.step (C' := C') (ι' := ι') (w' := w) (fun k => k = i ∨ k = s.bl.length) rfl rfl rfl (Nat.le_refl _)
    (fun k hk => by
      have k1 : k ≠ i := fun q => hk (.inl q)
      have k2 : k ≠ s.bl.length := fun q => hk (.inr q)
      show setC (setC (getB s.bl) i .dead) s.bl.length _ k = _
      rw [setC_ne k2, setC_ne k1])
    (fun k v hk => by
      have hne : k ≠ s.bl.length := by rintro rfl; rw [hnone] at hk; cases hk
      show setI ι s.bl.length u k = _
      rw [setI_ne hne]; exact hk) (fun k hk => setI_ne (fun q => hk (.inr q)))
    (by
      rintro k b (rfl | rfl) hb
      · rw [hdead] at hb; cases hb
      · exact .inr ⟨i, .inl rfl, hbk b hb⟩)
    (by
      rintro k k' b (rfl | rfl) (rfl | rfl) e1 e2
      · rfl
      · rw [hdead] at e1; cases e1
      · rw [hdead] at e2; cases e2
      · rfl) (fun _ _ _ => rfl)
    (by
      rintro hext k (rfl | rfl)
      · show RelB w _ ι' k (C' k)
        rw [show C' k = .dead from (show setC (setC (getB s.bl) k .dead) s.bl.length _ k = .dead by rw [setC_ne hne, setC_self])]
        trivial
      · show RelB w _ ι' _ (C' _)
        rw [show C' s.bl.length = .row ty e (xs.take len) true from setC_self ..]
        refine ⟨u, cs.take (len * ty.size), setI_self .., ⟨?_, ?_⟩, ?_⟩
        · rw [List.length_take, b2.1, hxl]
          exact Nat.min_eq_left (Nat.mul_le_mul_right _ (by omega))
        · rw [hxl, hu]
          rcases b2.2 with ⟨q, q'⟩ | ⟨g, cap, cur, q, q1, q2, q3, q4, q5, q6⟩
          · left
            injection q with p1 p2 p3
            exact ⟨by rw [p1, p3, show len = 0 by omega], by omega⟩
          · right
            injection q with p1 p2 p3
            refine ⟨g, cap, cur, by rw [p1, p3], q1, q2, by omega, q4, q5, ?_⟩
            rw [← q6, List.take_take, Nat.min_eq_left (Nat.mul_le_mul_right _ (by omega))]
        · exact RzL_take (fun x us hx => Rz_length _ _ _ hx) len (RzL_mono (Rz_mono (fun _ _ _ _ e => e) hext.ok _) b3))
  refine ⟨ι', ⟨?_, fun k hk => ?_⟩, fun k b hb => ?_, fun b hb => Bx_of (fun k vs hk => ?_) hb⟩
  · show FRel X keep w0 n _ (getT ((t, .rf s.bl.length) :: s.tm)) (getB (setB s.bl i .dead ++ [.row ty e (xs.take len) true])) a w
    rw [getB_setB_append _ _ _ hi]
    refine ⟨h1, fun x => ?_, h.f.size, h.f.defers⟩
    have hx := h.f.tm x
    simp only [getT]
    split
    · rename_i hb
      have hb := Nat.eq_of_beq_eq_true hb
      subst hb
      simp only [RelV]
      rw [v3]
      exact ⟨(setI_self ..).trans (congrArg some hu), _, _, _, rfl⟩
    · exact h2.val hx
  · simp only [List.length_append, List.length_singleton, setB_length] at hk
    show setI ι s.bl.length u k = none
    rw [setI_ne (by omega)]
    exact h.dom k (by omega)
  · rw [getB_setB_append _ _ _ hi] at hb
    by_cases e1 : k = s.bl.length
    · subst e1
      exact .inr (hbk b hb)
    · by_cases e2 : k = i
      · subst e2
        rw [hdead] at hb
        cases hb
      · left
        rw [← hb]
        exact (bk_congr (by show setC (setC (getB s.bl) i .dead) s.bl.length _ k = _; rw [setC_ne e1, setC_ne e2]) (setI_ne e1)).symm
  · have hl := box_lt hk
    have hki : k ≠ i := by rintro rfl; rw [hC] at hk; cases hk
    rw [getB_setB_append _ _ _ hi]
    refine ⟨⟨vs, ?_⟩, setI_ne (by omega)⟩
    rw [setC_ne (show k ≠ s.bl.length by omega), setC_ne hki, hk]

theorem nlfix1_sound {n : Slots} {bl : List SB} (p : Nat × SV) {s : St} {a : Act} (h : SRel X keep w0 n ι s a w) : ∃ ι', SRel X keep w0 n ι' (nlfix1 bl p s) a w ∧ (∀ k b, bk ι' (getB (nlfix1 bl p s).bl) k = some b → bk ι (getB s.bl) k = some b ∨ ∃ k' ∈ rsOf (getT s.tm p.1), bk ι (getB s.bl) k' = some b) ∧ ∀ b, Bx ι (getB s.bl) b → Bx ι' (getB (nlfix1 bl p s).bl) b := by
  obtain ⟨t, sv⟩ := p
  have stay : ∃ ι', SRel X keep w0 n ι' s a w ∧ (∀ k b, bk ι' (getB s.bl) k = some b → bk ι (getB s.bl) k = some b ∨ ∃ k' ∈ rsOf (getT s.tm t), bk ι (getB s.bl) k' = some b) ∧ ∀ b, Bx ι (getB s.bl) b → Bx ι' (getB s.bl) b := ⟨ι, h, fun _ _ e => .inl e, fun _ e => e⟩
  cases sv with
  | rf b =>
    simp only [nlfix1]
    split
    · rename_i ty e ht _
      obtain ⟨ι', h', h2, h3⟩ := h.nil_row ht ty e
      exact ⟨ι', h', fun k b hb => .inl (h2 k b hb), h3⟩
    · rename_i i sz off len _ _ ht _
      split
      · rename_i ty' e' xs hC
        split
        · rename_i hc
          simp only [Bool.and_eq_true] at hc
          have hof := Nat.eq_of_beq_eq_true hc.1.1
          subst hof
          obtain ⟨ι', h', h2, h3⟩ := h.rs_row ht hC (Nat.le_of_ble_eq_true hc.2)
          refine ⟨ι', h', fun k b hb => ?_, h3⟩
          rcases h2 k b hb with q | q
          · exact .inl q
          · exact .inr ⟨i, by rw [ht]; exact List.mem_singleton.2 rfl, q⟩
        · exact stay
      · exact stay
    · exact stay
  | _ => exact stay

theorem nlfix_sound {n : Slots} {bl : List SB} : ∀ (sl : List (Nat × SV)) {s : St} {a : Act} {ι : Nat → Option Value}, SRel X keep w0 n ι s a w → ∃ ι', SRel X keep w0 n ι' (nlfix bl sl s) a w ∧ (∀ k b, bk ι' (getB (nlfix bl sl s).bl) k = some b → bk ι (getB s.bl) k = some b ∨ ∃ k' ∈ nlsrc bl sl s, bk ι (getB s.bl) k' = some b) ∧ ∀ b, Bx ι (getB s.bl) b → Bx ι' (getB (nlfix bl sl s).bl) b
  | [], _, _, ι, h => ⟨ι, h, fun _ _ e => .inl e, fun _ e => e⟩
  | p :: r, s, a, ι, h => by
    obtain ⟨ι1, h1, e1, x1⟩ := nlfix1_sound (bl := bl) p h
    obtain ⟨ι2, h2, e2, x2⟩ := nlfix_sound (bl := bl) r h1
    refine ⟨ι2, h2, fun k b hb => ?_, fun b hb => x2 b (x1 b hb)⟩
    rcases e2 k b hb with q | ⟨k', q1, q2⟩
    · rcases e1 k b q with q | ⟨k', q1, q2⟩
      · exact .inl q
      · exact .inr ⟨k', List.mem_append_left _ q1, q2⟩
    · rcases e1 k' b q2 with q | ⟨k2, q3, q4⟩
      · exact .inr ⟨k', List.mem_append_right _ q1, q⟩
      · exact .inr ⟨k2, List.mem_append_left _ q3, q4⟩

theorem RelL_set {w : World} {ok : Nat → Prop} {ι : Nat → Option Value} {x : AV} : ∀ {vs : List AV} {us : List Value} (k : Nat) (u : Value), RelL w ok ι vs us → us[k]? = some u → RelV w ok ι x u → RelL w ok ι (vs.set k x) us
  | [], us, k, u, h, hu, hx => by
    have := RelL_nil.1 h
    subst this
    simp at hu
  | v :: vs, us, 0, u, h, hu, hx => by
    obtain ⟨u', ur, e, h1, h2⟩ := RelL_cons.1 h
    subst e
    simp only [List.getElem?_cons_zero, Option.some.injEq] at hu
    subst hu
    exact RelL_cons.2 ⟨_, _, rfl, hx, h2⟩
  | v :: vs, us, k + 1, u, h, hu, hx => by
    obtain ⟨u', ur, e, h1, h2⟩ := RelL_cons.1 h
    subst e
    exact RelL_cons.2 ⟨_, _, rfl, h1, RelL_set k u h2 (by simpa using hu) hx⟩

theorem nlcell1_sound {n : Slots} {bl : List SB} {i k : Nat} (sv : SV) {s : St} {a : Act} (h : SRel X keep w0 n ι s a w) : ∃ ι', SRel X keep w0 n ι' (nlcell1 bl i k sv s) a w ∧ (∀ j b, bk ι' (getB (nlcell1 bl i k sv s).bl) j = some b → bk ι (getB s.bl) j = some b) ∧ ∀ b, Bx ι (getB s.bl) b → Bx ι' (getB (nlcell1 bl i k sv s).bl) b := by
  have stay : ∃ ι', SRel X keep w0 n ι' s a w ∧ (∀ j b, bk ι' (getB s.bl) j = some b → bk ι (getB s.bl) j = some b) ∧ ∀ b, Bx ι (getB s.bl) b → Bx ι' (getB s.bl) b := ⟨ι, h, fun _ _ e => e, fun _ e => e⟩
  unfold nlcell1
  split
  · split
    · rename_i ty e _
      split
      · rename_i vs hC
        split
        · rename_i hk
          split
          · rename_i hi
            have hi : i < s.bl.length := Nat.le_of_ble_eq_true hi
            have hne : i ≠ s.bl.length := by omega
            have hnone : ι s.bl.length = none := h.dom _ (Nat.le_refl _)
            have hB := h.f.h.bl i
            rw [hC] at hB
            obtain ⟨g, ty', us, b1, b2, b3⟩ := hB
            obtain ⟨u, hu, hr⟩ := RelL_get k .nl b3 hk
            simp only [RelV] at hr
            subst hr
            let x : Blk := .box (vs.set k (.rf s.bl.length))
            let C' := setC (setC (getB s.bl) i x) s.bl.length (.row ty e [] true)
            let ι' := setI ι s.bl.length (.slice none 0 0)
            have e1 : C' s.bl.length = .row ty e [] true := setC_self ..
            have e2 : C' i = x := (setC_ne hne).trans (setC_self ..)
            have e3 : ι' s.bl.length = some (.slice none 0 0) := setI_self ..
            have e4 : ι' i = ι i := setI_ne hne
            have k1 : bk ι' C' s.bl.length = none := by unfold bk; rw [e1, e3]; rfl
            have k2 : bk ι' C' i = bk ι (getB s.bl) i := by unfold bk; rw [e2, e4, hC, b1]
            obtain ⟨h1, h2⟩ := h.f.h.step (C' := C') (ι' := ι') (w' := w) (fun k => k = i ∨ k = s.bl.length) rfl rfl rfl (Nat.le_refl _)
              (fun k hk => by
                have q1 : k ≠ i := fun q => hk (.inl q)
                have q2 : k ≠ s.bl.length := fun q => hk (.inr q)
                show setC (setC (getB s.bl) i x) s.bl.length _ k = _
                rw [setC_ne q2, setC_ne q1])
              (fun k v hk => by
                have hne : k ≠ s.bl.length := by rintro rfl; rw [hnone] at hk; cases hk
                show setI ι s.bl.length _ k = _
                rw [setI_ne hne]; exact hk) (fun k hk => setI_ne (fun q => hk (.inr q)))
              (by
                rintro k b (rfl | rfl) hb
                · exact .inr ⟨k, .inl rfl, by rw [← k2]; exact hb⟩
                · rw [k1] at hb; cases hb)
              (by
                rintro k k' b (rfl | rfl) (rfl | rfl) q1 q2
                · rfl
                · rw [k1] at q2; cases q2
                · rw [k1] at q1; cases q1
                · rfl) (fun _ _ _ => rfl)
              (by
                rintro hext k (rfl | rfl)
                · show RelB w _ ι' k (C' k)
                  rw [e2]
                  refine ⟨g, ty', us, e4.trans b1, b2, RelL_set _ _ (hext.vals b3) hu ?_⟩
                  simp only [RelV]
                  exact ⟨e3, _, _, _, rfl⟩
                · show RelB w _ ι' _ (C' _)
                  rw [e1]
                  exact ⟨.slice none 0 0, [], e3, ⟨by simp, .inl ⟨rfl, rfl⟩⟩, rfl⟩)
            have hg : getB (setB s.bl i x ++ [.row ty e [] true]) = C' := by rw [getB_append1, setB_length, getB_setB s.bl i x hi]
            refine ⟨ι', ⟨?_, fun j hj => ?_⟩, fun j b hb => ?_, fun b hb => Bx_of (fun j ws hj => ?_) hb⟩
            · show FRel X keep w0 n ι' (getT s.tm) (getB (setB s.bl i x ++ [.row ty e [] true])) a w
              rw [hg]
              exact ⟨h1, fun t => h2.val (h.f.tm t), h.f.size, h.f.defers⟩
            · simp only [List.length_append, List.length_singleton, setB_length] at hj
              show setI ι s.bl.length _ j = none
              rw [setI_ne (by omega)]
              exact h.dom j (by omega)
            · have hb : bk ι' (getB (setB s.bl i x ++ [.row ty e [] true])) j = some b := hb
              rw [hg] at hb
              by_cases q1 : j = s.bl.length
              · subst q1; rw [k1] at hb; cases hb
              · by_cases q2 : j = i
                · subst q2; rw [← k2]; exact hb
                · rw [← hb]
                  exact (bk_congr (by show setC (setC (getB s.bl) i x) s.bl.length _ j = _; rw [setC_ne q1, setC_ne q2]) (setI_ne q1)).symm
            · have hl := box_lt hj
              show (∃ vs', getB (setB s.bl i x ++ [.row ty e [] true]) j = .box vs') ∧ ι' j = ι j
              rw [hg]
              by_cases q2 : j = i
              · subst q2; exact ⟨⟨_, e2⟩, e4⟩
              · refine ⟨⟨ws, ?_⟩, setI_ne (by omega)⟩
                show setC (setC (getB s.bl) i x) s.bl.length _ j = _
                rw [setC_ne (show j ≠ s.bl.length by omega), setC_ne q2, hj]
          · exact stay
        · exact stay
      · exact stay
    · exact stay
  · exact stay

theorem nlcells_sound {n : Slots} {bl : List SB} {i : Nat} : ∀ (l : List SV) (k : Nat) {s : St} {a : Act} {ι : Nat → Option Value}, SRel X keep w0 n ι s a w → ∃ ι', SRel X keep w0 n ι' (nlcells bl i k l s) a w ∧ (∀ j b, bk ι' (getB (nlcells bl i k l s).bl) j = some b → bk ι (getB s.bl) j = some b) ∧ ∀ b, Bx ι (getB s.bl) b → Bx ι' (getB (nlcells bl i k l s).bl) b
  | [], _, _, _, ι, h => ⟨ι, h, fun _ _ e => e, fun _ e => e⟩
  | sv :: r, k, s, a, ι, h => by
    obtain ⟨ι1, h1, e1, x1⟩ := nlcell1_sound (bl := bl) (i := i) (k := k) sv h
    obtain ⟨ι2, h2, e2, x2⟩ := nlcells_sound (bl := bl) (i := i) r (k + 1) h1
    exact ⟨ι2, h2, fun j b hb => e1 j b (e2 j b hb), fun b hb => x2 b (x1 b hb)⟩

theorem nlboxes_sound {n : Slots} {sh : Shape} : ∀ (l : List SB) (j : Nat) {s : St} {a : Act} {ι : Nat → Option Value}, SRel X keep w0 n ι s a w → ∃ ι', SRel X keep w0 n ι' (sh.nlboxes j l s) a w ∧ (∀ k b, bk ι' (getB (sh.nlboxes j l s).bl) k = some b → bk ι (getB s.bl) k = some b) ∧ ∀ b, Bx ι (getB s.bl) b → Bx ι' (getB (sh.nlboxes j l s).bl) b
  | [], _, _, _, ι, h => ⟨ι, h, fun _ _ e => e, fun _ e => e⟩
  | .row _ _ :: r, j, s, a, ι, h => nlboxes_sound r (j + 1) h
  | .it :: r, j, s, a, ι, h => nlboxes_sound r (j + 1) h
  | .box cs :: r, j, s, a, ι, h => by
    simp only [Shape.nlboxes]
    split
    · rename_i i _
      obtain ⟨ι1, h1, e1, x1⟩ := nlcells_sound (bl := sh.bl) (i := i) cs 0 h
      obtain ⟨ι2, h2, e2, x2⟩ := nlboxes_sound (sh := sh) r (j + 1) h1
      exact ⟨ι2, h2, fun k b hb => e1 k b (e2 k b hb), fun b hb => x2 b (x1 b hb)⟩
    · exact nlboxes_sound r (j + 1) h

theorem Shape.fixd_sound {n : Slots} {sh : Shape} {s : St} {a : Act} (h : SRel X keep w0 n ι s a w) : ∃ ι', SRel X keep w0 n ι' (sh.fixd s) a w ∧ (∀ k b, bk ι' (getB (sh.fixd s).bl) k = some b → bk ι (getB s.bl) k = some b ∨ ∃ k' ∈ nlsrc sh.bl sh.sl s, bk ι (getB s.bl) k' = some b) ∧ ∀ b, Bx ι (getB s.bl) b → Bx ι' (getB (sh.fixd s).bl) b := by
  obtain ⟨ι1, h1, e1, x1⟩ := nlfix_sound (bl := sh.bl) sh.sl h
  obtain ⟨ι2, h2, e2, x2⟩ := nlboxes_sound (sh := sh) sh.bl 0 h1
  exact ⟨ι2, h2, fun k b hb => e1 k b (e2 k b hb), fun b hb => x2 b (x1 b hb)⟩

/-- Some boxes are let alone from here on: nothing that is taken leads to them. -/
theorem Shape.take_own {n : Slots} {sh : Shape} {s : St} {a : Act} (h : SRel X keep w0 n ι s a w) {x : sh.den} (ht : sh.take s = some x) (Y : Nat → Prop) (hY : ∀ b, Y b → Bx ι (getB s.bl) b ∧ b < w0.heap.size ∧ ∀ i ∈ sh.ids (sh.fixd s) ++ nlsrc sh.bl sh.sl s, bk ι (getB s.bl) i ≠ some b) :
    ∃ ι', SRel (fun b => X b ∨ Y b) keep w0 n ι' (sh.put x) a w ∧ ∀ b, owned ι' (getB (sh.put x).bl) b → ∃ i ∈ sh.ids (sh.fixd s) ++ nlsrc sh.bl sh.sl s, bk ι (getB s.bl) i = some b := by
  unfold Shape.take at ht
  obtain ⟨ι', h', h2, h3⟩ := Shape.fixd_sound (sh := sh) h
  obtain ⟨ι2, h4, h5⟩ := Shape.take1_sound h' ht Y (fun b hb => by
    obtain ⟨q1, q2, q3⟩ := hY b hb
    refine ⟨h3 b q1, q2, fun i hi hbi => ?_⟩
    rcases h2 i b hbi with q | ⟨k, q4, q5⟩
    · exact q3 i (List.mem_append_left _ hi) q
    · exact q3 k (List.mem_append_right _ q4) q5)
  refine ⟨ι2, h4, fun b hb => ?_⟩
  obtain ⟨i, hi, hb⟩ := h5 b hb
  rcases h2 i b hb with q | ⟨k, q1, q2⟩
  · exact ⟨i, List.mem_append_left _ hi, q⟩
  · exact ⟨k, List.mem_append_right _ q1, q2⟩

theorem SRel.noY {n : Slots} {s : St} {a : Act} (h : SRel (fun b => X b ∨ False) keep w0 n ι s a w) : SRel X keep w0 n ι s a w := by
  have e : (fun b => X b ∨ False) = X := funext fun b => propext (iff_of_eq (or_false _))
  rw [e] at h
  exact h

theorem Shape.take_sound {n : Slots} {sh : Shape} {s : St} {a : Act} (h : SRel X keep w0 n ι s a w) {x : sh.den} (ht : sh.take s = some x) : ∃ ι', SRel X keep w0 n ι' (sh.put x) a w := by
  obtain ⟨ι', h', _⟩ := Shape.take_own h ht (fun _ => False) (fun _ q => q.elim)
  exact ⟨ι', h'.noY⟩
end

/-! ### A loop by its data -/
/-- A way out of a loop: the block that is left (none: the function returns), the state's shape. -/
abbrev Way := Option Nat × Shape

def exIs : Option Nat → Ex → Bool
  | none, .rt => true
  | some i, .ex j => Nat.beq i j
  | _, _ => false

def exOf : Option Nat → Ex
  | none => .rt
  | some i => .ex i

theorem exIs_eq : ∀ {i : Option Nat} {e : Ex}, exIs i e = true → e = exOf i
  | none, .rt, _ => rfl
  | some i, .ex j, h => by rw [Nat.eq_of_beq_eq_true h]; rfl
  | none, .nm, h => by cases h
  | none, .ex _, h => by cases h
  | some _, .nm, h => by cases h
  | some _, .rt, h => by cases h

@[reducible] def denX : List Way → Type
  | [] => Empty
  | [p] => p.2.den
  | p :: q :: r => p.2.den ⊕ denX (q :: r)

def toX {R : Type} : (l : List Way) → Ex → St → (denX l → Option R) → Option R
  | [], _, _, _ => none
  | [p], e, s, K => if exIs p.1 e = true then (match p.2.take s with
      | some x => K x
      | none => none) else none
  | p :: q :: r, e, s, K => if exIs p.1 e = true then (match p.2.take s with
      | some x => K (.inl x)
      | none => toX (q :: r) e s fun y => K (.inr y)) else toX (q :: r) e s fun y => K (.inr y)

def onX {R : Type} : (l : List Way) → denX l → (Ex → St → Option R) → Option R
  | [], _, _ => none
  | [p], x, K => K (exOf p.1) (p.2.put x)
  | p :: q :: r, x, K => Sum.elim (fun y => K (exOf p.1) (p.2.put y)) (fun z => onX (q :: r) z K) x

theorem toX_sound {R : Type} {X keep : Nat → Prop} {w0 w : World} {ι : Nat → Option Value} {n : Slots} {s : St} {a : Act} (h : SRel X keep w0 n ι s a w) {e : Ex} {r : R} : ∀ (l : List Way) (K : denX l → Option R), toX l e s K = some r →
    ∃ y, K y = some r ∧ ∀ {R' : Type} (K' : Ex → St → Option R') (r' : R'), onX l y K' = some r' → ∃ s' ι', SRel X keep w0 n ι' s' a w ∧ K' e s' = some r'
  | [], _, h => by cases h
  | [p], K, ht => by
    simp only [toX] at ht
    split at ht
    · rename_i he
      split at ht
      · rename_i x hx
        obtain ⟨ι', h'⟩ := Shape.take_sound h hx
        refine ⟨x, ht, fun K' r' hk => ⟨_, ι', h', ?_⟩⟩
        rw [exIs_eq he]
        exact hk
      · cases ht
    · cases ht
  | p :: q :: t, K, ht => by
    have hrest : (toX (q :: t) e s fun y => K (.inr y)) = some r → ∃ y, K y = some r ∧ ∀ {R' : Type} (K' : Ex → St → Option R') (r' : R'), onX (p :: q :: t) y K' = some r' → ∃ s' ι', SRel X keep w0 n ι' s' a w ∧ K' e s' = some r' := by
      intro ht
      obtain ⟨y, h1, h2⟩ := toX_sound h (q :: t) (fun y => K (.inr y)) ht
      exact ⟨.inr y, h1, fun K' r' hk => h2 K' r' hk⟩
    simp only [toX] at ht
    split at ht
    · rename_i he
      split at ht
      · rename_i x hx
        obtain ⟨ι', h'⟩ := Shape.take_sound h hx
        refine ⟨.inl x, ht, fun K' r' hk => ⟨_, ι', h', ?_⟩⟩
        rw [exIs_eq he]
        exact hk
      · exact hrest ht
    · exact hrest ht

section
variable (TT : Tab) (Δ : Nat → Option CallO) (n : Nat → Bool) (Λ : Nat → Option LoopO)

/-- One round of a loop, over its data. -/
noncomputable def stepL (head : Shape) (ways : List Way) (c : Code) (x : head.den) : Option (head.den ⊕ denX ways) :=
  evC TT Δ n Λ c (head.put x) fun e s => match e with
    | .nm => (match head.take s with
      | some y => some (.inl y)
      | none => none)
    | .ex j => toX ways (.ex j) s fun y => some (.inr y)
    | .rt => toX ways .rt s fun y => some (.inr y)
end

def iterL {A B : Type} (f : A → Option (A ⊕ B)) : Nat → A → Option B
  | 0, _ => none
  | k + 1, x => match f x with
    | some (.inl y) => iterL f k y
    | some (.inr z) => some z
    | none => none

theorem iterL_mono {A B : Type} {f : A → Option (A ⊕ B)} : ∀ (k m : Nat) (x : A) (y : B), k ≤ m → iterL f k x = some y → iterL f m x = some y
  | 0, _, _, _, _, h => by cases h
  | k + 1, 0, _, _, hm, _ => by omega
  | k + 1, m + 1, x, y, hm, h => by
    simp only [iterL] at h ⊢
    split at h
    · rename_i z hz
      exact iterL_mono k m z y (by omega) h
    · exact h
    · cases h

open Classical in
/-- As many rounds as it takes. -/
noncomputable def limL {A B : Type} (f : A → Option (A ⊕ B)) (x : A) : Option B := if h : ∃ y k, iterL f k x = some y then some h.choose else none

theorem limL_some {A B : Type} {f : A → Option (A ⊕ B)} {x : A} {y : B} (k : Nat) (h : iterL f k x = some y) : limL f x = some y := by
  unfold limL
  have hex : ∃ y k, iterL f k x = some y := ⟨y, k, h⟩
  rw [dif_pos hex]
  obtain ⟨m, hm⟩ := hex.choose_spec
  have h1 := iterL_mono k (max k m) x y (Nat.le_max_left ..) h
  have h2 := iterL_mono m (max k m) x _ (Nat.le_max_right ..) hm
  rw [h1] at h2
  exact h2.symm

theorem limL_inv {A B : Type} {f : A → Option (A ⊕ B)} {x : A} {y : B} (h : limL f x = some y) : ∃ k, iterL f k x = some y := by
  unfold limL at h
  split at h
  · rename_i hex
    injection h with h
    rw [← h]
    exact hex.choose_spec
  · cases h

/-- The round's equation, for the limit. -/
theorem limL_eq {A B : Type} (f : A → Option (A ⊕ B)) (x : A) : limL f x = match f x with
    | some (.inl y) => limL f y
    | some (.inr z) => some z
    | none => none := by
  cases hf : f x with
  | none =>
    show limL f x = none
    cases h : limL f x with
    | none => rfl
    | some y =>
      obtain ⟨k, hk⟩ := limL_inv h
      cases k with
      | zero => cases hk
      | succ k => simp [iterL, hf] at hk
  | some z =>
    cases z with
    | inr z => exact limL_some 1 (by simp [iterL, hf])
    | inl y =>
      show limL f x = limL f y
      cases h : limL f y with
      | some z =>
        obtain ⟨k, hk⟩ := limL_inv h
        exact limL_some (k + 1) (by simp [iterL, hf, hk])
      | none =>
        cases h' : limL f x with
        | none => rfl
        | some z =>
          obtain ⟨k, hk⟩ := limL_inv h'
          cases k with
          | zero => cases hk
          | succ k =>
            simp only [iterL, hf] at hk
            rw [limL_some k hk] at h
            cases h

/-- The loop, over its data. -/
def lp (head : Shape) (ways : List Way) (g : head.den → Option (denX ways)) : LoopO := fun s _ K =>
  match head.take s with
  | some x => (g x).bind fun y => onX ways y K
  | none => none

section
variable {P : Program} {TT : Tab} {Δ : Nat → Option CallO} {n : Slots}

theorem lp_ok (hm : P.follows .mixedOrders = true) (hP : TabOK P TT) (hΔ : CallsOK P Δ) {ρ : Option Nat} {Λ : Nat → Option LoopO} {head : Shape} {ways : List Way} {c : Code} (hL : LoopsIn P n ρ Λ c) {g : head.den → Option (denX ways)}
    (hg : ∀ x y, g x = some y → ∃ k, iterL (stepL TT Δ n.ok Λ head ways c) k x = some y) : LoopOK P n ρ (lp head ways g) c := by
  intro dp X keep w0 w ι s a R K r Q h hev hQ
  unfold lp at hev
  split at hev
  · rename_i x hx
    obtain ⟨y, hy, hk⟩ := bind_some' hev
    obtain ⟨k, hit⟩ := hg x y hy
    obtain ⟨ι', h'⟩ := Shape.take_sound h hx
    refine wp_loop_ix (fun k a w => ∃ x ι k1 v1, Later keep w0 k1 v1 ∧ SRel X k1 v1 n ι (head.put x) a w ∧ iterL (stepL TT Δ n.ok Λ head ways c) k x = some y) ?_ ?_ (k := k) ⟨x, ι', keep, w0, Later.refl _ _, h', hit⟩
    · rintro a w ⟨x, ι, _, _, _, _, h⟩
      cases h
    · rintro k a w ⟨x, ι, k1, v1, hl, h, hit⟩
      simp only [iterL] at hit
      have hwp : ∀ (v : head.den ⊕ denX ways), stepL TT Δ n.ok Λ head ways c x = some v → (∀ x', v = .inl x' → iterL (stepL TT Δ n.ok Λ head ways c) k x' = some y) → (∀ z, v = .inr z → z = y) →
          c.wpIn (WF ρ) dp P (Exit.then (fun a' w' => ∃ x ι k1 v1, Later keep w0 k1 v1 ∧ SRel X k1 v1 n ι (head.put x) a' w' ∧ iterL (stepL TT Δ n.ok Λ head ways c) k x = some y) Q) a w := by
        intro v hv h1 h2
        refine evC_sound hm hP hΔ c hL _ _ _ a w ι k1 v1 h hv fun e s' a' w' ι'' k2 v2 hl2 hk' h'' => ?_
        have hout : ∀ e : Ex, (toX ways e s' fun y => some (Sum.inr y : head.den ⊕ denX ways)) = some v → Q e.out a' w' := by
          intro e hk'
          obtain ⟨z, hz1, hz2⟩ := toX_sound h'' ways _ hk'
          injection hz1 with hz1
          have hz := h2 z hz1.symm
          subst hz
          obtain ⟨s2, ι2, q1, q2⟩ := hz2 K r hk
          exact hQ e s2 a' w' ι2 k2 v2 (hl.trans hl2) q2 q1
        cases e with
        | nm =>
          simp only at hk'
          split at hk'
          · rename_i x' hx'
            injection hk' with hk'
            obtain ⟨ι3, h3⟩ := Shape.take_sound h'' hx'
            exact ⟨x', ι3, k2, v2, hl.trans hl2, h3, h1 x' hk'.symm⟩
          · cases hk'
        | ex j => exact hout (.ex j) hk'
        | rt => exact hout .rt hk'
      cases hst : stepL TT Δ n.ok Λ head ways c x with
      | none => rw [hst] at hit; cases hit
      | some v =>
        rw [hst] at hit
        cases v with
        | inl x' => exact hwp _ hst (fun x'' e => by injection e with e; subst e; exact hit) (fun z e => by cases e)
        | inr z => exact hwp _ hst (fun x'' e => by cases e) (fun z' e => by injection e with e; subst e; injection hit)
  · cases hev
end
end Go.Proofs.Rf
