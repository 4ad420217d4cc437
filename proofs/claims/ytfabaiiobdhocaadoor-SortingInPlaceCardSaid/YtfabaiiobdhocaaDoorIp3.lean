/- Texts put together: Ft, Fu, Fv, Fw, Fx, Tab, Fy, Fz, Ga, Gb, Gc, Gd, Ge, Gf, Gi, Gj, Gg, Gh, Gk. -/
import Derived.Test.YtfabaiiobdhocaaDoorIp2
import Derived.RangeFuncLeaves
import Derived.RangeFuncWrites
import Derived.RangeFuncNested
import Derived.Test.YtfabaiiobdhocaaDoorProg
import Derived.RangeFuncIn
import Derived.RangeFuncRecord
import Derived.Below
import Derived.WalkKit
import Derived.ProofKit
import Derived.OpenShut
import Derived.ChangeOld
import Derived.ChangeArms
import Derived.Carry
namespace Go.Proofs.Rf
open Go Go.RowKit
section
variable {X keep : Nat → Prop} {w0 w : World} {ι : Nat → Option Value} {C : Nat → Blk}
theorem box_lt {bl : List Blk} {k : Nat} {e : Nat} {vs : List AV} (h : getB bl k = .box e vs) : k < bl.length := by
 rcases Nat.lt_or_ge k bl.length with q | q
 ·exact q
 ·rw [z2K _ _ q] at h; cases h
theorem SRel.nil_row {n : z0L} {s : St} {a : Act} (h : SRel X keep w0 n ι s a w) {t : Nat} (ht : getT s.tm t = .nl) (ty : Ty) (e : Nat) :
  ∃ ι', SRel X keep w0 n ι' ⟨(t, .rf s.bl.length) :: s.tm, s.bl ++ [.row ty e [] true]⟩ a w ∧ (∀ k b, b ∈ bk ι' (getB (s.bl ++ [.row ty e [] true])) k → b ∈ bk ι (getB s.bl) k) ∧ ∀ b, Bx ι (getB s.bl) b → Bx ι' (getB (s.bl ++ [.row ty e [] true])) b := by
 have hnone : ι s.bl.length = none := h.dom _ (Nat.le_refl _)
 have hbk : bk (setI ι s.bl.length (.slice none 0 0)) (setC (getB s.bl) s.bl.length (.row ty e [] true)) s.bl.length = [] := by
  unfold bk
  rw [z0e, z0i]
  rfl
 obtain ⟨h1, h2⟩ := h.f.h.step (C' := setC (getB s.bl) s.bl.length (.row ty e [] true)) (ι' := setI ι s.bl.length (.slice none 0 0)) (w' := w) (fun k => k = s.bl.length) rfl rfl rfl (Nat.le_refl _)
  (fun k hk => z0f hk) (fun k v hk => by
   have hne : k ≠ s.bl.length := by rintro rfl; rw [hnone] at hk; cases hk
   rw [z0r hne]; exact hk) (fun k hk => z0r hk)
  (by rintro k b rfl hb; rw [hbk] at hb; cases hb) (fun k k' b e1 e2 _ _ => e1.trans e2.symm) (fun _ _ _ => rfl)
  (by
   rintro _ k rfl
   rw [z0e]
   exact ⟨.slice none 0 0, [], z0i .., ⟨by simp, .inl ⟨rfl, rfl⟩⟩, rfl⟩)
 refine ⟨setI ι s.bl.length (.slice none 0 0), ⟨?_, fun k hk => ?_⟩, fun k b hb => ?_, fun b hb => Bx_of (fun k be' vs hk => ?_) hb⟩
 ·show FRel X keep w0 n _ (getT ((t, .rf s.bl.length) :: s.tm)) (getB (s.bl ++ [.row ty e [] true])) a w
  rw [z0W]
  refine ⟨h1, fun u => ?_, h.f.size, h.f.defers⟩
  have hu := h.f.tm u
  simp only [getT]
  split
  ·rename_i hb
   have hb := Nat.eq_of_beq_eq_true hb
   subst hb
   rw [ht] at hu
   simp only [RelV] at hu ⊢
   rw [hu]
   exact ⟨z0i .., _, _, _, rfl⟩
  ·exact h2.val hu
 ·simp only [List.length_append, List.length_singleton] at hk
  rw [z0r (by omega)]
  exact h.dom k (by omega)
 ·rw [z0W] at hb
  by_cases e : k = s.bl.length
  ·subst e
   rw [hbk] at hb
   cases hb
  ·rw [z0z (C := getB s.bl) (ι := ι) (z0f e) (z0r e)] at hb
   exact hb
 ·have := box_lt hk
  rw [z0W]
  exact ⟨⟨_, vs, (z0f (by omega)).trans hk⟩, z0r (by omega)⟩
theorem z1N (bl : List Blk) (i : Nat) (b : Blk) (hi : i < bl.length) : getB (setB bl i .dead ++ [b]) = setC (setC (getB bl) i .dead) bl.length b := by
 rw [z0W, z1m, z4c bl i .dead hi]
theorem SRel.rs_row {n : z0L} {s : St} {a : Act} (h : SRel X keep w0 n ι s a w) {t i sz len : Nat} (ht : getT s.tm t = .rs i sz 0 len) {ty : Ty} {e : Nat} {xs : List ty.den} (hC : getB s.bl i = .row ty e xs true) (hi : i < s.bl.length) :
  ∃ ι', SRel X keep w0 n ι' ⟨(t, .rf s.bl.length) :: s.tm, setB s.bl i .dead ++ [.row ty e (xs.take len) true]⟩ a w ∧ (∀ k b, b ∈ bk ι' (getB (setB s.bl i .dead ++ [.row ty e (xs.take len) true])) k → b ∈ bk ι (getB s.bl) k ∨ b ∈ bk ι (getB s.bl) i) ∧ ∀ b, Bx ι (getB s.bl) b → Bx ι' (getB (setB s.bl i .dead ++ [.row ty e (xs.take len) true])) b := by
 have hnone : ι s.bl.length = none := h.dom _ (Nat.le_refl _)
 have hv := h.f.tm t
 rw [ht] at hv
 simp only [RelV] at hv
 obtain ⟨A, nn, c, A', c', v1, v2, v3, v4, v5, v6⟩ := hv
 obtain ⟨rfl, rfl⟩ := v6 trivial
 have hB := h.f.h.bl i
 rw [hC] at hB
 obtain ⟨v, cs, b1, b2, b3⟩ := hB
 rw [v1] at b1
 injection b1 with b1
 subst b1
 obtain ⟨u, hu⟩ : ∃ u, u = Value.slice A' len c' := ⟨_, rfl⟩
 have hne : i ≠ s.bl.length := by omega
 let C' := setC (setC (getB s.bl) i .dead) s.bl.length (.row ty e (xs.take len) true)
 let ι' := setI ι s.bl.length u
 have hlen : nn = xs.length := by
  rcases b2.2 with ⟨q, q'⟩ | ⟨g, cap, cur, q, _⟩
  ·injection q with _ q1 _
   omega
  ·injection q
 have hxl : (xs.take len).length = len := by rw [List.length_take]; omega
 have hbk : ∀ b, b ∈ bk ι' C' s.bl.length → b ∈ bk ι (getB s.bl) i := by
  intro b hb
  unfold bk at hb ⊢
  rw [show C' s.bl.length = .row ty e (xs.take len) true from z0e .., show ι' s.bl.length = some u from z0i .., hu] at hb
  rw [hC, v1]
  cases A' with
  | none => exact hb
  | some A => exact hb
 have hdead : bk ι' C' i = [] := z0O (by show setC (setC (getB s.bl) i .dead) s.bl.length _ i = .dead; rw [z0f hne, z0e])
 obtain ⟨h1, h2⟩ := h.f.h.step (C' := C') (ι' := ι') (w' := w) (fun k => k = i ∨ k = s.bl.length) rfl rfl rfl (Nat.le_refl _)
  (fun k hk => by
   have k1 : k ≠ i := fun q => hk (.inl q)
   have k2 : k ≠ s.bl.length := fun q => hk (.inr q)
   show setC (setC (getB s.bl) i .dead) s.bl.length _ k = _
   rw [z0f k2, z0f k1])
  (fun k v hk => by
   have hne : k ≠ s.bl.length := by rintro rfl; rw [hnone] at hk; cases hk
   show setI ι s.bl.length u k = _
   rw [z0r hne]; exact hk) (fun k hk => z0r (fun q => hk (.inr q)))
  (by
   rintro k b (rfl | rfl) hb
   ·rw [hdead] at hb; cases hb
   ·exact .inr ⟨i, .inl rfl, hbk b hb⟩)
  (by
   rintro k k' b (rfl | rfl) (rfl | rfl) e1 e2
   ·rfl
   ·rw [hdead] at e1; cases e1
   ·rw [hdead] at e2; cases e2
   ·rfl) (fun _ _ _ => rfl)
  (by
   rintro hext k (rfl | rfl)
   ·show RelB w _ ι' k (C' k)
    rw [show C' k = .dead from (show setC (setC (getB s.bl) k .dead) s.bl.length _ k = .dead by rw [z0f hne, z0e])]
    trivial
   ·show RelB w _ ι' _ (C' _)
    rw [show C' s.bl.length = .row ty e (xs.take len) true from z0e ..]
    refine ⟨u, cs.take (len * ty.size), z0i .., ⟨?_, ?_⟩, ?_⟩
    ·rw [List.length_take, b2.1, hxl]
     exact Nat.min_eq_left (Nat.mul_le_mul_right _ (by omega))
    ·rw [hxl, hu]
     rcases b2.2 with ⟨q, q'⟩ | ⟨g, cap, cur, q, q1, q2, q3, q4, q5, q6⟩
     ·left
      injection q with p1 p2 p3
      exact ⟨by rw [p1, p3, show len = 0 by omega], by omega⟩
     ·right
      injection q with p1 p2 p3
      refine ⟨g, cap, cur, by rw [p1, p3], q1, q2, by omega, q4, q5, ?_⟩
      rw [← q6, List.take_take, Nat.min_eq_left (Nat.mul_le_mul_right _ (by omega))]
    ·exact z1f (fun x us hx => z0g _ _ _ hx) len (z0u (z0s (fun _ _ _ _ e => e) hext.ok _) b3))
 refine ⟨ι', ⟨?_, fun k hk => ?_⟩, fun k b hb => ?_, fun b hb => Bx_of (fun k be' vs hk => ?_) hb⟩
 ·show FRel X keep w0 n _ (getT ((t, .rf s.bl.length) :: s.tm)) (getB (setB s.bl i .dead ++ [.row ty e (xs.take len) true])) a w
  rw [z1N _ _ _ hi]
  refine ⟨h1, fun x => ?_, h.f.size, h.f.defers⟩
  have hx := h.f.tm x
  simp only [getT]
  split
  ·rename_i hb
   have hb := Nat.eq_of_beq_eq_true hb
   subst hb
   simp only [RelV]
   rw [v3]
   exact ⟨(z0i ..).trans (congrArg some hu), _, _, _, rfl⟩
  ·exact h2.val hx
 ·simp only [List.length_append, List.length_singleton, z1m] at hk
  show setI ι s.bl.length u k = none
  rw [z0r (by omega)]
  exact h.dom k (by omega)
 ·rw [z1N _ _ _ hi] at hb
  by_cases e1 : k = s.bl.length
  ·subst e1
   exact .inr (hbk b hb)
  ·by_cases e2 : k = i
   ·subst e2
    rw [hdead] at hb
    cases hb
   ·left
    rw [z0z (C := getB s.bl) (ι := ι) (by show setC (setC (getB s.bl) i .dead) s.bl.length _ k = _; rw [z0f e1, z0f e2]) (z0r e1)] at hb
    exact hb
 ·have hl := box_lt hk
  have hki : k ≠ i := by rintro rfl; rw [hC] at hk; cases hk
  rw [z1N _ _ _ hi]
  refine ⟨⟨be', vs, ?_⟩, z0r (by omega)⟩
  rw [z0f (show k ≠ s.bl.length by omega), z0f hki, hk]
theorem nlfix1_sound {n : z0L} {bl : List SB} (p : Nat × SV) {s : St} {a : Act} (h : SRel X keep w0 n ι s a w) : ∃ ι', SRel X keep w0 n ι' (nlfix1 bl p s) a w ∧ (∀ k b, b ∈ bk ι' (getB (nlfix1 bl p s).bl) k → b ∈ bk ι (getB s.bl) k ∨ ∃ k' ∈ rsOf (getT s.tm p.1), b ∈ bk ι (getB s.bl) k') ∧ ∀ b, Bx ι (getB s.bl) b → Bx ι' (getB (nlfix1 bl p s).bl) b := by
 obtain ⟨t, sv⟩ := p
 have stay : ∃ ι', SRel X keep w0 n ι' s a w ∧ (∀ k b, b ∈ bk ι' (getB s.bl) k → b ∈ bk ι (getB s.bl) k ∨ ∃ k' ∈ rsOf (getT s.tm t), b ∈ bk ι (getB s.bl) k') ∧ ∀ b, Bx ι (getB s.bl) b → Bx ι' (getB s.bl) b := ⟨ι, h, fun _ _ e => .inl e, fun _ e => e⟩
 cases sv with
 | rf b =>
  simp only [nlfix1]
  split
  ·rename_i ty e ht _
   obtain ⟨ι', h', h2, h3⟩ := h.nil_row ht ty e
   exact ⟨ι', h', fun k b hb => .inl (h2 k b hb), h3⟩
  ·rename_i i sz off len _ _ ht _
   split
   ·rename_i ty' e' xs hC
    split
    ·rename_i hc
     simp only [Bool.and_eq_true] at hc
     have hof := Nat.eq_of_beq_eq_true hc.1.1
     subst hof
     obtain ⟨ι', h', h2, h3⟩ := h.rs_row ht hC (Nat.le_of_ble_eq_true hc.2)
     refine ⟨ι', h', fun k b hb => ?_, h3⟩
     rcases h2 k b hb with q | q
     ·exact .inl q
     ·exact .inr ⟨i, by rw [ht]; exact List.mem_singleton.2 rfl, q⟩
    ·exact stay
   ·exact stay
  ·exact stay
 | _ => exact stay
theorem z5Q {n : z0L} {bl : List SB} : ∀ (sl : List (Nat × SV)) {s : St} {a : Act} {ι : Nat → Option Value}, SRel X keep w0 n ι s a w → ∃ ι', SRel X keep w0 n ι' (nlfix bl sl s) a w ∧ (∀ k b, b ∈ bk ι' (getB (nlfix bl sl s).bl) k → b ∈ bk ι (getB s.bl) k ∨ ∃ k' ∈ nlsrc bl sl s, b ∈ bk ι (getB s.bl) k') ∧ ∀ b, Bx ι (getB s.bl) b → Bx ι' (getB (nlfix bl sl s).bl) b
 | [], _, _, ι, h => ⟨ι, h, fun _ _ e => .inl e, fun _ e => e⟩
 | p :: r, s, a, ι, h => by
  obtain ⟨ι1, h1, e1, x1⟩ := nlfix1_sound (bl := bl) p h
  obtain ⟨ι2, h2, e2, x2⟩ := z5Q (bl := bl) r h1
  refine ⟨ι2, h2, fun k b hb => ?_, fun b hb => x2 b (x1 b hb)⟩
  rcases e2 k b hb with q | ⟨k', q1, q2⟩
  ·rcases e1 k b q with q | ⟨k', q1, q2⟩
   ·exact .inl q
   ·exact .inr ⟨k', List.mem_append_left _ q1, q2⟩
  ·rcases e1 k' b q2 with q | ⟨k2, q3, q4⟩
   ·exact .inr ⟨k', List.mem_append_right _ q1, q⟩
   ·exact .inr ⟨k2, List.mem_append_left _ q3, q4⟩
theorem RelL_set {w : World} {ok : Nat → Prop} {ι : Nat → Option Value} {x : AV} : ∀ {vs : List AV} {us : List Value} (k : Nat) (u : Value), RelL w ok ι vs us → us[k]? = some u → RelV w ok ι x u → RelL w ok ι (vs.set k x) us
 | [], us, k, u, h, hu, hx => by
  have := z0b.1 h
  subst this
  simp at hu
 | v :: vs, us, 0, u, h, hu, hx => by
  obtain ⟨u', ur, e, h1, h2⟩ := z0a.1 h
  subst e
  simp only [List.getElem?_cons_zero, Option.some.injEq] at hu
  subst hu
  exact z0a.2 ⟨_, _, rfl, hx, h2⟩
 | v :: vs, us, k + 1, u, h, hu, hx => by
  obtain ⟨u', ur, e, h1, h2⟩ := z0a.1 h
  subst e
  exact z0a.2 ⟨_, _, rfl, h1, RelL_set k u h2 (by simpa using hu) hx⟩
theorem nlcell_at {n : z0L} {i k be : Nat} {vs : List AV} {s : St} {a : Act} (h : SRel X keep w0 n ι s a w) (hC : getB s.bl i = .box be vs) (hk : vs[k]? = some .nl) (hi : i < s.bl.length) (nv : AV) (nk : Blk) (nw : Value)
  (hbk : ∀ ι' C', C' s.bl.length = nk → ι' s.bl.length = some nw → bk ι' C' s.bl.length = []) (hrb : ∀ w ok ι' k, ι' k = some nw → RelB w ok ι' k nk)
  (hrv : ∀ w ok ι', ι' s.bl.length = some nw → RelV w ok ι' nv (.slice none 0 0)) :
  ∃ ι', SRel X keep w0 n ι' ⟨s.tm, setB s.bl i (.box be (vs.set k nv)) ++ [nk]⟩ a w ∧ (∀ j b, b ∈ bk ι' (getB (setB s.bl i (.box be (vs.set k nv)) ++ [nk])) j → b ∈ bk ι (getB s.bl) j) ∧ ∀ b, Bx ι (getB s.bl) b → Bx ι' (getB (setB s.bl i (.box be (vs.set k nv)) ++ [nk])) b := by
 have hne : i ≠ s.bl.length := by omega
 have hnone : ι s.bl.length = none := h.dom _ (Nat.le_refl _)
 have hB := h.f.h.bl i
 rw [hC] at hB
 obtain ⟨g, us, b1, b2, b3⟩ := hB
 obtain ⟨u, hu, hr⟩ := RelL_get k .nl b3 hk
 simp only [RelV] at hr
 subst hr
 let x : Blk := .box be (vs.set k (nv))
 let C' := setC (setC (getB s.bl) i x) s.bl.length (nk)
 let ι' := setI ι s.bl.length nw
 have e1 : C' s.bl.length = nk := z0e ..
 have e2 : C' i = x := (z0f hne).trans (z0e ..)
 have e3 : ι' s.bl.length = some nw := z0i ..
 have e4 : ι' i = ι i := z0r hne
 have k1 : bk ι' C' s.bl.length = [] := hbk _ _ e1 e3
 have k2 : bk ι' C' i = bk ι (getB s.bl) i := by unfold bk; rw [e2, e4, hC, b1]
 obtain ⟨h1, h2⟩ := h.f.h.step (C' := C') (ι' := ι') (w' := w) (fun k => k = i ∨ k = s.bl.length) rfl rfl rfl (Nat.le_refl _)
  (fun k hk => by
   have q1 : k ≠ i := fun q => hk (.inl q)
   have q2 : k ≠ s.bl.length := fun q => hk (.inr q)
   show setC (setC (getB s.bl) i x) s.bl.length _ k = _
   rw [z0f q2, z0f q1])
  (fun k v hk => by
   have hne : k ≠ s.bl.length := by rintro rfl; rw [hnone] at hk; cases hk
   show setI ι s.bl.length _ k = _
   rw [z0r hne]; exact hk) (fun k hk => z0r (fun q => hk (.inr q)))
  (by
   rintro k b (rfl | rfl) hb
   ·exact .inr ⟨k, .inl rfl, by rw [← k2]; exact hb⟩
   ·rw [k1] at hb; cases hb)
  (by
   rintro k k' b (rfl | rfl) (rfl | rfl) q1 q2
   ·rfl
   ·rw [k1] at q2; cases q2
   ·rw [k1] at q1; cases q1
   ·rfl) (fun _ _ _ => rfl)
  (by
   rintro hext k (rfl | rfl)
   ·show RelB w _ ι' k (C' k)
    rw [e2]
    refine ⟨g, us, e4.trans b1, b2, RelL_set _ _ (hext.vals b3) hu ?_⟩
    exact hrv _ _ _ e3
   ·show RelB w _ ι' _ (C' _)
    rw [e1]
    exact hrb _ _ _ _ e3)
 have hg : getB (setB s.bl i x ++ [nk]) = C' := by rw [z0W, z1m, z4c s.bl i x hi]
 refine ⟨ι', ⟨?_, fun j hj => ?_⟩, fun j b hb => ?_, fun b hb => Bx_of (fun j be' ws hj => ?_) hb⟩
 ·show FRel X keep w0 n ι' (getT s.tm) (getB (setB s.bl i x ++ [nk])) a w
  rw [hg]
  exact ⟨h1, fun t => h2.val (h.f.tm t), h.f.size, h.f.defers⟩
 ·simp only [List.length_append, List.length_singleton, z1m] at hj
  show setI ι s.bl.length _ j = none
  rw [z0r (by omega)]
  exact h.dom j (by omega)
 ·have hb : b ∈ bk ι' (getB (setB s.bl i x ++ [nk])) j := hb
  rw [hg] at hb
  by_cases q1 : j = s.bl.length
  ·subst q1; rw [k1] at hb; cases hb
  ·by_cases q2 : j = i
   ·subst q2; rw [← k2]; exact hb
   ·rw [z0z (C := getB s.bl) (ι := ι) (by show setC (setC (getB s.bl) i x) s.bl.length _ j = _; rw [z0f q1, z0f q2]) (z0r q1)] at hb
    exact hb
 ·have hl := box_lt hj
  show (∃ e' vs', getB (setB s.bl i x ++ [nk]) j = .box e' vs') ∧ ι' j = ι j
  rw [hg]
  by_cases q2 : j = i
  ·subst q2; exact ⟨⟨_, _, e2⟩, e4⟩
  ·refine ⟨⟨be', ws, ?_⟩, z0r (by omega)⟩
   show setC (setC (getB s.bl) i x) s.bl.length _ j = _
   rw [z0f (show j ≠ s.bl.length by omega), z0f q2, hj]
theorem nlcell1_sound {n : z0L} {bl : List SB} {i k : Nat} (sv : SV) {s : St} {a : Act} (h : SRel X keep w0 n ι s a w) : ∃ ι', SRel X keep w0 n ι' (nlcell1 bl i k sv s) a w ∧ (∀ j b, b ∈ bk ι' (getB (nlcell1 bl i k sv s).bl) j → b ∈ bk ι (getB s.bl) j) ∧ ∀ b, Bx ι (getB s.bl) b → Bx ι' (getB (nlcell1 bl i k sv s).bl) b := by
 have stay : ∃ ι', SRel X keep w0 n ι' s a w ∧ (∀ j b, b ∈ bk ι' (getB s.bl) j → b ∈ bk ι (getB s.bl) j) ∧ ∀ b, Bx ι (getB s.bl) b → Bx ι' (getB s.bl) b := ⟨ι, h, fun _ _ e => e, fun _ e => e⟩
 unfold nlcell1
 split
 ·split
  ·rename_i ty e _
   split
   ·rename_i be vs hC
    split
    ·rename_i hk
     split
     ·rename_i hi
      exact nlcell_at h hC hk (Nat.le_of_ble_eq_true hi) _ _ (.slice none 0 0) (fun ι' C' e1 e3 => by unfold bk; rw [e1, e3]; rfl) (fun w ok ι' k e3 => ⟨.slice none 0 0, [], e3, ⟨by simp, .inl ⟨rfl, rfl⟩⟩, rfl⟩)
       (fun w ok ι' e3 => by
        simp only [RelV]
        exact ⟨e3, _, _, _, rfl⟩)
     ·exact stay
    ·exact stay
   ·exact stay
  ·exact stay
 ·split
  ·rename_i ty t2 e ie _
   split
   ·rename_i be vs hC
    split
    ·rename_i hk
     split
     ·rename_i hi
      exact nlcell_at h hC hk (Nat.le_of_ble_eq_true hi) _ _ (.tuple #[.slice none 0 0]) (fun ι' C' e1 e3 => by unfold bk; rw [e1, e3]; rfl) (fun w ok ι' k e3 => ⟨_, .slice none 0 0, [], [], e3, rfl, ⟨by simp, .inl ⟨rfl, rfl⟩⟩, ⟨rfl, rfl⟩, List.nodup_nil⟩)
       (fun w ok ι' e3 => by
        simp only [RelV]
        exact ⟨_, e3, rfl, _, _, _, rfl⟩)
     ·exact stay
    ·exact stay
   ·exact stay
  ·exact stay
 ·exact stay
theorem z4b {n : z0L} {bl : List SB} {i : Nat} : ∀ (l : List SV) (k : Nat) {s : St} {a : Act} {ι : Nat → Option Value}, SRel X keep w0 n ι s a w → ∃ ι', SRel X keep w0 n ι' (z5R bl i k l s) a w ∧ (∀ j b, b ∈ bk ι' (getB (z5R bl i k l s).bl) j → b ∈ bk ι (getB s.bl) j) ∧ ∀ b, Bx ι (getB s.bl) b → Bx ι' (getB (z5R bl i k l s).bl) b
 | [], _, _, _, ι, h => ⟨ι, h, fun _ _ e => e, fun _ e => e⟩
 | sv :: r, k, s, a, ι, h => by
  obtain ⟨ι1, h1, e1, x1⟩ := nlcell1_sound (bl := bl) (i := i) (k := k) sv h
  obtain ⟨ι2, h2, e2, x2⟩ := z4b (bl := bl) (i := i) r (k + 1) h1
  exact ⟨ι2, h2, fun j b hb => e1 j b (e2 j b hb), fun b hb => x2 b (x1 b hb)⟩
theorem z0K {n : z0L} {sh : Shape} : ∀ (l : List SB) (j : Nat) {s : St} {a : Act} {ι : Nat → Option Value}, SRel X keep w0 n ι s a w → ∃ ι', SRel X keep w0 n ι' (sh.nlboxes j l s) a w ∧ (∀ k b, b ∈ bk ι' (getB (sh.nlboxes j l s).bl) k → b ∈ bk ι (getB s.bl) k) ∧ ∀ b, Bx ι (getB s.bl) b → Bx ι' (getB (sh.nlboxes j l s).bl) b
 | [], _, _, _, ι, h => ⟨ι, h, fun _ _ e => e, fun _ e => e⟩
 | .row _ _ :: r, j, s, a, ι, h => z0K r (j + 1) h
 | .it :: r, j, s, a, ι, h => z0K r (j + 1) h
 | .map _ _ _ :: r, j, s, a, ι, h => z0K r (j + 1) h
 | .mi _ _ _ :: r, j, s, a, ι, h => z0K r (j + 1) h
 | .nr _ _ _ _ :: r, j, s, a, ι, h => z0K r (j + 1) h
 | .box _ cs :: r, j, s, a, ι, h => by
  simp only [Shape.nlboxes]
  split
  ·rename_i i _
   obtain ⟨ι1, h1, e1, x1⟩ := z4b (bl := sh.bl) (i := i) cs 0 h
   obtain ⟨ι2, h2, e2, x2⟩ := z0K (sh := sh) r (j + 1) h1
   exact ⟨ι2, h2, fun k b hb => e1 k b (e2 k b hb), fun b hb => x2 b (x1 b hb)⟩
  ·exact z0K r (j + 1) h
theorem Shape.fixd_sound {n : z0L} {sh : Shape} {s : St} {a : Act} (h : SRel X keep w0 n ι s a w) : ∃ ι', SRel X keep w0 n ι' (sh.fixd s) a w ∧ (∀ k b, b ∈ bk ι' (getB (sh.fixd s).bl) k → b ∈ bk ι (getB s.bl) k ∨ ∃ k' ∈ nlsrc sh.bl sh.sl s, b ∈ bk ι (getB s.bl) k') ∧ ∀ b, Bx ι (getB s.bl) b → Bx ι' (getB (sh.fixd s).bl) b := by
 obtain ⟨ι1, h1, e1, x1⟩ := z5Q (bl := sh.bl) sh.sl h
 obtain ⟨ι2, h2, e2, x2⟩ := z0K (sh := sh) sh.bl 0 h1
 exact ⟨ι2, h2, fun k b hb => e1 k b (e2 k b hb), fun b hb => x2 b (x1 b hb)⟩
theorem Shape.take_own {n : z0L} {sh : Shape} {s : St} {a : Act} (h : SRel X keep w0 n ι s a w) {x : sh.den} (ht : sh.take s = some x) (Y : Nat → Prop) (hY : ∀ b, Y b → Bx ι (getB s.bl) b ∧ b < w0.heap.size ∧ ∀ i ∈ sh.ids (sh.fixd s) ++ nlsrc sh.bl sh.sl s, b ∉ bk ι (getB s.bl) i) :
  ∃ ι', SRel (fun b => X b ∨ Y b) keep w0 n ι' (sh.put x) a w ∧ ∀ b, owned ι' (getB (sh.put x).bl) b → ∃ i ∈ sh.ids (sh.fixd s) ++ nlsrc sh.bl sh.sl s, b ∈ bk ι (getB s.bl) i := by
 unfold Shape.take at ht
 obtain ⟨ι', h', h2, h3⟩ := Shape.fixd_sound (sh := sh) h
 obtain ⟨ι2, _, h4, h5⟩ := Shape.take1_sound h' ht Y (fun b hb => by
  obtain ⟨q1, q2, q3⟩ := hY b hb
  refine ⟨h3 b q1, q2, fun i hi hbi => ?_⟩
  rcases h2 i b hbi with q | ⟨k, q4, q5⟩
  ·exact q3 i (List.mem_append_left _ hi) q
  ·exact q3 k (List.mem_append_right _ q4) q5)
 refine ⟨ι2, h4, fun b hb => ?_⟩
 obtain ⟨i, hi, hb⟩ := h5 b hb
 rcases h2 i b hb with q | ⟨k, q1, q2⟩
 ·exact ⟨i, List.mem_append_left _ hi, q⟩
 ·exact ⟨k, List.mem_append_right _ q1, q2⟩
theorem SRel.noY {n : z0L} {s : St} {a : Act} (h : SRel (fun b => X b ∨ False) keep w0 n ι s a w) : SRel X keep w0 n ι s a w := by
 have e : (fun b => X b ∨ False) = X := funext fun b => propext (iff_of_eq (or_false _))
 rw [e] at h
 exact h
theorem Shape.z0H {n : z0L} {sh : Shape} {s : St} {a : Act} (h : SRel X keep w0 n ι s a w) {x : sh.den} (ht : sh.take s = some x) : ∃ ι', SRel X keep w0 n ι' (sh.put x) a w := by
 obtain ⟨ι', h', _⟩ := Shape.take_own h ht (fun _ => False) (fun _ q => q.elim)
 exact ⟨ι', h'.noY⟩
end
abbrev Way := Option Nat × Shape
def exIs : Option Nat → Ex → Bool
 | none, .rt => true
 | some i, .ex j => Nat.beq i j
 | _, _ => false
def exOf : Option Nat → Ex
 | none => .rt
 | some i => .ex i
theorem exIs_eq : ∀ {i : Option Nat} {e : Ex}, exIs i e = true → e = exOf i
 | none, .rt, _ => rfl
 | some i, .ex j, h => by rw [Nat.eq_of_beq_eq_true h]; rfl
 | none, .nm, h => by cases h
 | none, .ex _, h => by cases h
 | some _, .nm, h => by cases h
 | some _, .rt, h => by cases h
@[reducible] def denX : List Way → Type
 | [] => Empty
 | [p] => p.2.den
 | p :: q :: r => p.2.den ⊕ denX (q :: r)
def toX {R : Type} : (l : List Way) → Ex → St → (denX l → Option R) → Option R
 | [], _, _, _ => none
 | [p], e, s, K => if exIs p.1 e = true then (match p.2.take s with
   | some x => K x
   | none => none) else none
 | p :: q :: r, e, s, K => if exIs p.1 e = true then (match p.2.take s with
   | some x => K (.inl x)
   | none => toX (q :: r) e s fun y => K (.inr y)) else toX (q :: r) e s fun y => K (.inr y)
def onX {R : Type} : (l : List Way) → denX l → (Ex → St → Option R) → Option R
 | [], _, _ => none
 | [p], x, K => K (exOf p.1) (p.2.put x)
 | p :: q :: r, x, K => Sum.elim (fun y => K (exOf p.1) (p.2.put y)) (fun z => onX (q :: r) z K) x
theorem z5l {R : Type} {X keep : Nat → Prop} {w0 w : World} {ι : Nat → Option Value} {n : z0L} {s : St} {a : Act} (h : SRel X keep w0 n ι s a w) {e : Ex} {r : R} : ∀ (l : List Way) (K : denX l → Option R), toX l e s K = some r →
  ∃ y, K y = some r ∧ ∀ {R' : Type} (K' : Ex → St → Option R') (r' : R'), onX l y K' = some r' → ∃ s' ι', SRel X keep w0 n ι' s' a w ∧ K' e s' = some r'
 | [], _, h => by cases h
 | [p], K, ht => by
  simp only [toX] at ht
  split at ht
  ·rename_i he
   split at ht
   ·rename_i x hx
    obtain ⟨ι', h'⟩ := Shape.z0H h hx
    refine ⟨x, ht, fun K' r' hk => ⟨_, ι', h', ?_⟩⟩
    rw [exIs_eq he]
    exact hk
   ·cases ht
  ·cases ht
 | p :: q :: t, K, ht => by
  have hrest : (toX (q :: t) e s fun y => K (.inr y)) = some r → ∃ y, K y = some r ∧ ∀ {R' : Type} (K' : Ex → St → Option R') (r' : R'), onX (p :: q :: t) y K' = some r' → ∃ s' ι', SRel X keep w0 n ι' s' a w ∧ K' e s' = some r' := by
   intro ht
   obtain ⟨y, h1, h2⟩ := z5l h (q :: t) (fun y => K (.inr y)) ht
   exact ⟨.inr y, h1, fun K' r' hk => h2 K' r' hk⟩
  simp only [toX] at ht
  split at ht
  ·rename_i he
   split at ht
   ·rename_i x hx
    obtain ⟨ι', h'⟩ := Shape.z0H h hx
    refine ⟨.inl x, ht, fun K' r' hk => ⟨_, ι', h', ?_⟩⟩
    rw [exIs_eq he]
    exact hk
   ·exact hrest ht
  ·exact hrest ht
section
variable (TT : Tab) (Δ : Nat → Option z0G) (n : Nat → Bool) (Λ : Nat → Option z0Y)
noncomputable def stepL (head : Shape) (ways : List Way) (c : Code) (x : head.den) : Option (head.den ⊕ denX ways) :=
 evC TT Δ n Λ c (head.put x) fun e s => match e with
  | .nm => (match head.take s with
   | some y => some (.inl y)
   | none => none)
  | .ex j => toX ways (.ex j) s fun y => some (.inr y)
  | .rt => toX ways .rt s fun y => some (.inr y)
end
def iterL {A B : Type} (f : A → Option (A ⊕ B)) : Nat → A → Option B
 | 0, _ => none
 | k + 1, x => match f x with
  | some (.inl y) => iterL f k y
  | some (.inr z) => some z
  | none => none
theorem z4C {A B : Type} {f : A → Option (A ⊕ B)} : ∀ (k m : Nat) (x : A) (y : B), k ≤ m → iterL f k x = some y → iterL f m x = some y
 | 0, _, _, _, _, h => by cases h
 | k + 1, 0, _, _, hm, _ => by omega
 | k + 1, m + 1, x, y, hm, h => by
  simp only [iterL] at h ⊢
  split at h
  ·rename_i z hz
   exact z4C k m z y (by omega) h
  ·exact h
  ·cases h
open Classical in
noncomputable def limL {A B : Type} (f : A → Option (A ⊕ B)) (x : A) : Option B := if h : ∃ y k, iterL f k x = some y then some h.choose else none
theorem z5V {A B : Type} {f : A → Option (A ⊕ B)} {x : A} {y : B} (k : Nat) (h : iterL f k x = some y) : limL f x = some y := by
 unfold limL
 have hex : ∃ y k, iterL f k x = some y := ⟨y, k, h⟩
 rw [dif_pos hex]
 obtain ⟨m, hm⟩ := hex.choose_spec
 have h1 := z4C k (max k m) x y (Nat.le_max_left ..) h
 have h2 := z4C m (max k m) x _ (Nat.le_max_right ..) hm
 rw [h1] at h2
 exact h2.symm
theorem z5f {A B : Type} {f : A → Option (A ⊕ B)} {x : A} {y : B} (h : limL f x = some y) : ∃ k, iterL f k x = some y := by
 unfold limL at h
 split at h
 ·rename_i hex
  injection h with h
  rw [← h]
  exact hex.choose_spec
 ·cases h
theorem z3L {A B : Type} (f : A → Option (A ⊕ B)) (x : A) : limL f x = match f x with
  | some (.inl y) => limL f y
  | some (.inr z) => some z
  | none => none := by
 cases hf : f x with
 | none =>
  show limL f x = none
  cases h : limL f x with
  | none => rfl
  | some y =>
   obtain ⟨k, hk⟩ := z5f h
   cases k with
   | zero => cases hk
   | succ k => simp [iterL, hf] at hk
 | some z =>
  cases z with
  | inr z => exact z5V 1 (by simp [iterL, hf])
  | inl y =>
   show limL f x = limL f y
   cases h : limL f y with
   | some z =>
    obtain ⟨k, hk⟩ := z5f h
    exact z5V (k + 1) (by simp [iterL, hf, hk])
   | none =>
    cases h' : limL f x with
    | none => rfl
    | some z =>
     obtain ⟨k, hk⟩ := z5f h'
     cases k with
     | zero => cases hk
     | succ k =>
      simp only [iterL, hf] at hk
      rw [z5V k hk] at h
      cases h
def lp (head : Shape) (ways : List Way) (g : head.den → Option (denX ways)) : z0Y := fun s _ K =>
 match head.take s with
 | some x => (g x).bind fun y => onX ways y K
 | none => none
section
variable {P : Program} {TT : Tab} {Δ : Nat → Option z0G} {n : z0L}
theorem lp_ok (hm : P.follows .mixedOrders = true) (hP : z0n P TT) (hΔ : z0R P Δ) {ρ : Option Nat} {Λ : Nat → Option z0Y} {head : Shape} {ways : List Way} {c : Code} (hL : LoopsIn P n ρ Λ c) {g : head.den → Option (denX ways)}
  (hg : ∀ x y, g x = some y → ∃ k, iterL (stepL TT Δ n.ok Λ head ways c) k x = some y) : LoopOK P n ρ (lp head ways g) c := by
 intro dp X keep w0 w ι s a R K r Q h hev hQ
 unfold lp at hev
 split at hev
 ·rename_i x hx
  obtain ⟨y, hy, hk⟩ := z1e hev
  obtain ⟨k, hit⟩ := hg x y hy
  obtain ⟨ι', h'⟩ := Shape.z0H h hx
  refine z6X (fun k a w => ∃ x ι k1 v1, z2y keep w0 k1 v1 ∧ SRel X k1 v1 n ι (head.put x) a w ∧ iterL (stepL TT Δ n.ok Λ head ways c) k x = some y) ?_ ?_ (k := k) ⟨x, ι', keep, w0, z2y.refl _ _, h', hit⟩
  ·rintro a w ⟨x, ι, _, _, _, _, h⟩
   cases h
  ·rintro k a w ⟨x, ι, k1, v1, hl, h, hit⟩
   simp only [iterL] at hit
   have hwp : ∀ (v : head.den ⊕ denX ways), stepL TT Δ n.ok Λ head ways c x = some v → (∀ x', v = .inl x' → iterL (stepL TT Δ n.ok Λ head ways c) k x' = some y) → (∀ z, v = .inr z → z = y) →
     c.wpIn (WF ρ) dp P (Exit.then (fun a' w' => ∃ x ι k1 v1, z2y keep w0 k1 v1 ∧ SRel X k1 v1 n ι (head.put x) a' w' ∧ iterL (stepL TT Δ n.ok Λ head ways c) k x = some y) Q) a w := by
    intro v hv h1 h2
    refine z0P hm hP hΔ c hL _ _ _ a w ι k1 v1 h hv fun e s' a' w' ι'' k2 v2 hl2 hk' h'' => ?_
    have hout : ∀ e : Ex, (toX ways e s' fun y => some (Sum.inr y : head.den ⊕ denX ways)) = some v → Q e.out a' w' := by
     intro e hk'
     obtain ⟨z, hz1, hz2⟩ := z5l h'' ways _ hk'
     injection hz1 with hz1
     have hz := h2 z hz1.symm
     subst hz
     obtain ⟨s2, ι2, q1, q2⟩ := hz2 K r hk
     exact hQ e s2 a' w' ι2 k2 v2 (hl.trans hl2) q2 q1
    cases e with
    | nm =>
     simp only at hk'
     split at hk'
     ·rename_i x' hx'
      injection hk' with hk'
      obtain ⟨ι3, h3⟩ := Shape.z0H h'' hx'
      exact ⟨x', ι3, k2, v2, hl.trans hl2, h3, h1 x' hk'.symm⟩
     ·cases hk'
    | ex j => exact hout (.ex j) hk'
    | rt => exact hout .rt hk'
   cases hst : stepL TT Δ n.ok Λ head ways c x with
   | none => rw [hst] at hit; cases hit
   | some v =>
    rw [hst] at hit
    cases v with
    | inl x' => exact hwp _ hst (fun x'' e => by injection e with e; subst e; exact hit) (fun z e => by cases e)
    | inr z => exact hwp _ hst (fun x'' e => by cases e) (fun z' e => by injection e with e; subst e; injection hit)
 ·cases hev
end
end Go.Proofs.Rf
namespace Go.Proofs.Rf
open Go Go.RowKit
def numT (i : Nat) : List AV → List (Nat × AV)
 | [] => []
 | v :: r => (i, v) :: numT (i + 1) r
mutual
def SV.ret (nb : Nat) : (s : SV) → s.den → AV
 | .d agg t, x => avD agg t x
 | .rs b sz, p => .rs (nb + b) sz p.1 p.2
 | .rz b sz, p => .rs (nb + b) sz 0 p
 | .fn f cs, x => .fn f (SV.retL nb cs x)
 | .rf b, _ => .rf (nb + b)
 | .pt b o, _ => .pt (nb + b) o
 | .ud, _ => .ud
 | .mp b, _ => .mp (nb + b)
 | .np, _ => .np
 | .mnil, _ => .mnil
 | .nl, _ => .nl
 | .ro b, _ => .ro (nb + b)
 | .fs b sz, p => .fs (nb + b) p.1 sz p.2.1 p.2.2
 | .ag cs, x => .ag (SV.retL nb cs x)
 | .ve cs, x => .ve (SV.retL nb cs x)
def SV.retL (nb : Nat) : (l : List SV) → SV.denL l → List AV
 | [], _ => []
 | a :: r, x => a.ret nb x.1 :: SV.retL nb r x.2
end
def retS (nb : Nat) : (l : List (Nat × SV)) → denS l → List AV
 | [], _ => []
 | p :: r, x => p.2.ret nb x.1 :: retS nb r x.2
def retV : List AV → AV
 | [v] => v
 | vs => .tp vs
def SB.ret (nb : Nat) : (s : SB) → s.den → Blk
 | .row t e, xs => .row t e xs true
 | .box e cs, x => .box e (SV.retL nb cs x)
 | .it, _ => .dead
 | .mi _ _ _, _ => .dead
 | .map kt va vt, l => .map kt va vt l
 | .nr t t2 e ie, l => .nr t t2 e ie l
def retB (nb : Nat) : (l : List SB) → denB l → List Blk
 | [], _ => []
 | a :: r, x => a.ret nb x.1 :: retB nb r x.2
def Ty.flat : Ty → Bool
 | .sl _ => false
 | .tr _ _ => false
 | .pr a b => a.flat && b.flat
 | _ => true
mutual
def SV.flat : SV → Bool
 | .d _ t => t.flat
 | .fn _ cs => SV.flatL cs
 | .ag cs => SV.flatL cs
 | .ve _ => false
 | _ => true
def SV.flatL : List SV → Bool
 | [] => true
 | a :: r => a.flat && SV.flatL r
end
def SB.flat : SB → Bool
 | .row t _ => t.flat
 | .box _ cs => SV.flatL cs
 | .it => true
 | .mi _ _ _ => true
 | .map kt _ vt => kt.flat && vt.flat
 | .nr t t2 _ _ => t.flat && t2.flat
def flatS : List (Nat × SV) → Bool
 | [] => true
 | p :: r => p.2.flat && flatS r
def flatB : List SB → Bool
 | [] => true
 | a :: r => a.flat && flatB r
def Shape.flat (sh : Shape) : Bool := flatS sh.sl && flatB sh.bl
def mkCall (ps : List SV) (rsh : Shape) (F : SV.denL ps → Option rsh.den) : z0G := fun args C nb _ K =>
 match SV.takeL C [] ps args with
 | some (x, f) => (F x).bind fun y => K ⟨retV (retS nb rsh.sl y.1), if rsh.flat = true then [] else f, retB nb rsh.bl y.2⟩
 | none => none
section
variable (TT : Tab)
def retOf (s : St) : ResultVar → Option AV
 | .tmp t => some (getT s.tm t)
 | .cell a tt => match getT s.tm a with
  | .pt b o => match getB s.bl b with
   | .box _ cs => loadC TT tt (cs.drop o)
   | _ => none
  | _ => none
def retsOf (s : St) : List ResultVar → Option (List AV)
 | [] => some []
 | r :: rs => match retOf TT s r with
  | some v => match retsOf s rs with
   | some vs => some (v :: vs)
   | none => none
  | none => none
noncomputable def runF (Δ : Nat → Option z0G) (n : Nat → Bool) (Λ : Nat → Option z0Y) (c : Code) (rvs : List ResultVar) (ps : List SV) (rsh : Shape) (x : SV.denL ps) : Option rsh.den :=
 evC TT Δ n Λ c ⟨numT 0 (SV.putL ps x), []⟩ fun e s => match e with
  | .ex _ => none
  | .nm => (match retsOf TT s rvs with
   | some vs => rsh.take ⟨numT 0 vs, s.bl⟩
   | none => none)
  | .rt => (match retsOf TT s rvs with
   | some vs => rsh.take ⟨numT 0 vs, s.bl⟩
   | none => none)
end
section
variable {X keep : Nat → Prop} {w0 w : World} {ι : Nat → Option Value} {C : Nat → Blk} {P : Program} {TT : Tab} {Δ : Nat → Option z0G} {n : z0L}
theorem z2u {ok : Nat → Prop} : ∀ (vs : List AV) (us : List Value) (i t : Nat), RelL w ok ι vs us → RelV w ok ι (getT (numT i vs) (i + t)) (us.getD t undef) ∧ ∀ j, j < i → getT (numT i vs) j = .un
 | [], us, i, t, h => ⟨by simp only [numT, getT, RelV], fun _ _ => rfl⟩
 | v :: r, us, i, t, h => by
  obtain ⟨u, ur, e, h1, h2⟩ := z0a.1 h
  subst e
  constructor
  ·simp only [numT, getT]
   cases t with
   | zero =>
    rw [if_pos (by rw [Nat.add_zero]; exact Nat.beq_refl i)]
    exact h1
   | succ t =>
    rw [if_neg (fun q => by have := Nat.eq_of_beq_eq_true q; omega)]
    have := (z2u r ur (i + 1) t h2).1
    rw [show i + 1 + t = i + (t + 1) by omega] at this
    simpa using this
  ·intro j hj
   simp only [numT, getT]
   rw [if_neg (fun q => by have := Nat.eq_of_beq_eq_true q; omega)]
   exact (z2u r ur (i + 1) t h2).2 j (by omega)
theorem retOf_sound (hP : z0n P TT) {s : St} {a : Act} (h : SRel X keep w0 n ι s a w) {rv : ResultVar} {v : AV} (hr : retOf TT s rv = some v) :
  ∃ u, ((match rv with
   | .tmp t => pure (a.tmps.getD t undef)
   | .cell b t => do loadVar t (← asAddr (a.tmps.getD b undef))) : Sem Value).run P w = .ok u w ∧ RelV w (okb X w ι (getB s.bl)) ι v u := by
 cases rv with
 | tmp t =>
  simp only [retOf] at hr
  injection hr with hr
  subst hr
  exact ⟨a.tmps.getD t undef, rfl, h.f.tm t⟩
 | cell b tt =>
  simp only [retOf] at hr
  split at hr
  ·rename_i k o hk
   split at hr
   ·rename_i cs hcs
    have h1 := h.f.tm b
    rw [hk] at h1
    simp only [RelV] at h1
    obtain ⟨g, g1, g2⟩ := h1
    have hb := h.f.h.bl k
    rw [hcs] at hb
    obtain ⟨g', us, k1, k2, k3⟩ := hb
    rw [g1] at k1
    injection k1 with k1
    injection k1 with k1
    injection k1 with k1
    injection k1 with k1 _
    subst k1
    obtain ⟨u, r1, r2⟩ := z1V (w := w) (P := P) hP (g := g) (o := o) (us := us.drop o) (fun j u hu => by
     rw [List.getElem?_drop] at hu
     simp only [World.cell?, k2]
     simpa using hu) (z0X k3 o) hr
    refine ⟨u, ?_, r2⟩
    show ((do loadVar tt (← asAddr (a.tmps.getD b undef))) : Sem Value).run P w = _
    rw [g2]
    simp [asAddr, r1]
   ·cases hr
  ·cases hr
theorem z4S (hP : z0n P TT) {s : St} {a : Act} (h : SRel X keep w0 n ι s a w) : ∀ {rvs : List ResultVar} {vs : List AV}, retsOf TT s rvs = some vs →
  ∃ us, (rvs.mapM (fun rv => ((match rv with
   | .tmp t => pure (a.tmps.getD t undef)
   | .cell b t => do loadVar t (← asAddr (a.tmps.getD b undef))) : Sem Value)) : Sem (List Value)).run P w = .ok us w ∧ RelL w (okb X w ι (getB s.bl)) ι vs us
 | [], vs, hr => by
  simp only [retsOf] at hr
  injection hr with hr
  subst hr
  exact ⟨[], rfl, z0b.2 rfl⟩
 | rv :: rvs, vs, hr => by
  simp only [retsOf] at hr
  split at hr
  ·rename_i v hv
   split at hr
   ·rename_i vr hvr
    injection hr with hr
    subst hr
    obtain ⟨u, r1, r2⟩ := retOf_sound hP h hv
    obtain ⟨ur, s1, s2⟩ := z4S hP h hvr
    refine ⟨u :: ur, ?_, z0a.2 ⟨u, ur, rfl, r2, s2⟩⟩
    rw [List.mapM_cons]
    simp only [Sem.run_bind, r1, s1, Result.andThen_ok]
    rfl
   ·cases hr
  ·cases hr
theorem z3V (hP : z0n P TT) {s : St} {a : Act} (h : SRel X keep w0 n ι s a w) {fn : Func} {vs : List AV} (hr : retsOf TT s fn.results.toList = some vs) :
  ∃ us v, (results fn a.tmps).run P w = .ok v w ∧ RelL w (okb X w ι (getB s.bl)) ι vs us ∧ v = (if h : us.toArray.size = 1 then us.toArray[0] else .tuple us.toArray) := by
 obtain ⟨us, h1, h2⟩ := z4S hP h hr
 refine ⟨us, _, ?_, h2, rfl⟩
 unfold results
 rw [← Array.toArray_toList (xs := fn.results)]
 rw [List.mapM_toArray]
 simp only [Sem.run_bind, Sem.run_map]
 generalize hq : Sem.run P (List.mapM _ fn.results.toList) w = q
 have hq' : q = .ok us w := hq.symm.trans h1
 subst hq'
 rfl
theorem z3d {w w' : World} {ok ok' : Nat → Prop} : ∀ (t : Ty) (x : t.den) (us : List Value), t.flat = true → Rz w ok t x us → Rz w' ok' t x us
 | .int _, _, _, _, h => h
 | .bool, _, _, _, h => h
 | .str, _, _, _, h => h
 | .sl _, _, _, hf, _ => by cases hf
 | .pr a b, _, _, hf, ⟨us, vr, e, h1, h2⟩ => by
  simp only [Ty.flat, Bool.and_eq_true] at hf
  exact ⟨us, vr, e, z3d a _ _ hf.1 h1, z3d b _ _ hf.2 h2⟩
 | .un, _, _, _, h => h
 | .fk _, _, _, _, h => h
 | .ic, _, _, _, h => h
 | .fv, _, _, _, h => h
 | .tr _ _, _, _, hf, _ => by cases hf
theorem z4n {w w' : World} {ok ok' : Nat → Prop} {ι ι' : Nat → Option Value} : ∀ (t : Ty) (x : t.den) (us : List Value), t.flat = true → RelL w ok ι (unpack t x) us → RelL w' ok' ι' (unpack t x) us
 | .int k, x, us, _, h => by
  obtain ⟨v, vr, e, h1, h2⟩ := z0a.1 h
  exact z0a.2 ⟨v, vr, e, (by simp only [RelV] at h1 ⊢; exact h1), z0b.2 (z0b.1 h2)⟩
 | .bool, x, us, _, h => by
  obtain ⟨v, vr, e, h1, h2⟩ := z0a.1 h
  exact z0a.2 ⟨v, vr, e, (by simp only [RelV] at h1 ⊢; exact h1), z0b.2 (z0b.1 h2)⟩
 | .str, x, us, _, h => by
  obtain ⟨v, vr, e, h1, h2⟩ := z0a.1 h
  exact z0a.2 ⟨v, vr, e, (by simp only [RelV] at h1 ⊢; exact h1), z0b.2 (z0b.1 h2)⟩
 | .ic, x, us, _, h => by
  obtain ⟨v, vr, e, h1, h2⟩ := z0a.1 h
  exact z0a.2 ⟨v, vr, e, (by simp only [RelV] at h1 ⊢; exact h1), z0b.2 (z0b.1 h2)⟩
 | .fv, x, us, _, h => by
  obtain ⟨v, vr, e, h1, h2⟩ := z0a.1 h
  exact z0a.2 ⟨v, vr, e, (by simp only [RelV] at h1 ⊢; exact h1), z0b.2 (z0b.1 h2)⟩
 | .sl t, x, us, hf, h => by cases hf
 | .pr a b, x, us, hf, h => by
  simp only [Ty.flat, Bool.and_eq_true] at hf
  obtain ⟨u1, u2, e, h1, h2⟩ := z1F h
  rw [e]
  exact z0B (z4n a _ _ hf.1 h1) (z4n b _ _ hf.2 h2)
 | .un, x, us, _, h => z0b.2 (z0b.1 h)
 | .fk f, x, us, _, h => by
  obtain ⟨v, vr, e, h1, h2⟩ := z0a.1 h
  refine z0a.2 ⟨v, vr, e, ?_, z0b.2 (z0b.1 h2)⟩
  simp only [RelV] at h1 ⊢
  obtain ⟨us, e, h3⟩ := h1
  exact ⟨us, e, z0b.2 (z0b.1 h3)⟩
 | .tr _ _, _, _, hf, _ => by cases hf
theorem avD_flat {w w' : World} {ok ok' : Nat → Prop} {ι ι' : Nat → Option Value} {agg : Bool} {t : Ty} {x : t.den} {u : Value} (hf : t.flat = true) (h : RelV w ok ι (avD agg t x) u) : RelV w' ok' ι' (avD agg t x) u := by
 unfold avD at h ⊢
 split at h
 ·rename_i ha
  simp only [ha, if_true]
  simp only [RelV] at h ⊢
  obtain ⟨us, e, h1⟩ := h
  exact ⟨us, e, z4n t x us hf h1⟩
 ·rename_i ha
  rw [if_neg ha]
  split at h
  ·rename_i v hv
   have h1 : RelL w ok ι (unpack t x) [u] := by rw [hv]; exact z0a.2 ⟨u, [], rfl, h, z0b.2 rfl⟩
   have h2 := z4n (w' := w') (ok' := ok') (ι' := ι') t x _ hf h1
   rw [hv] at h2
   obtain ⟨v', vr, e, h3, _⟩ := z0a.1 h2
   injection e with e _
   subst e
   exact h3
  ·simp only [RelV]
theorem NrL_turn {w : World} {ok ok' : Nat → Prop} {t t2 : Ty} {ie : Nat} (h1 : ∀ x us, Rz w ok t x us → Rz w ok' t x us) (h2 : ∀ x us, Rz w ok t2 x us → Rz w ok' t2 x us) : ∀ {xs : List (t.den × List t2.den)} {cs vs : List Value}, NrL w ok t t2 ie xs cs vs → NrL w ok' t t2 ie xs cs vs
 | [], _, _, h => h
 | _ :: _, _, _, ⟨us, v, cr, vr, ds, q1, q2, q3, q4, q5, q6⟩ => ⟨us, v, cr, vr, ds, q1, q2, h1 _ _ q3, q4, z0u h2 q5, NrL_turn h1 h2 q6⟩
theorem RzM_flat {w w' : World} {ok ok' : Nat → Prop} {ι ι' : Nat → Option Value} {kt : Ty} {va : Bool} {vt : Ty} (hk : kt.flat = true) (hv : vt.flat = true) : ∀ {l : List (kt.den × vt.den)} {es : List MapEntry}, RzM w ok ι kt va vt l es → RzM w' ok' ι' kt va vt l es
 | [], _, h => h
 | _ :: _, _, ⟨e, er, q1, q2, q3, q4⟩ => ⟨e, er, q1, avD_flat hk q2, avD_flat hv q3, RzM_flat hk hv q4⟩
theorem RelL_mv {w : World} {ok ok' : Nat → Prop} {ι ι' : Nat → Option Value} (hok : ∀ b, ok b → ok' b) : ∀ (t : Ty) (x : t.den) (us : List Value), RelL w ok ι (unpack t x) us → RelL w ok' ι' (unpack t x) us
 | .int k, x, us, h => by
  obtain ⟨v, vr, e, h1, h2⟩ := z0a.1 h
  exact z0a.2 ⟨v, vr, e, (by simp only [RelV] at h1 ⊢; exact h1), z0b.2 (z0b.1 h2)⟩
 | .bool, x, us, h => by
  obtain ⟨v, vr, e, h1, h2⟩ := z0a.1 h
  exact z0a.2 ⟨v, vr, e, (by simp only [RelV] at h1 ⊢; exact h1), z0b.2 (z0b.1 h2)⟩
 | .str, x, us, h => by
  obtain ⟨v, vr, e, h1, h2⟩ := z0a.1 h
  exact z0a.2 ⟨v, vr, e, (by simp only [RelV] at h1 ⊢; exact h1), z0b.2 (z0b.1 h2)⟩
 | .ic, x, us, h => by
  obtain ⟨v, vr, e, h1, h2⟩ := z0a.1 h
  exact z0a.2 ⟨v, vr, e, (by simp only [RelV] at h1 ⊢; exact h1), z0b.2 (z0b.1 h2)⟩
 | .fv, x, us, h => by
  obtain ⟨v, vr, e, h1, h2⟩ := z0a.1 h
  exact z0a.2 ⟨v, vr, e, (by simp only [RelV] at h1 ⊢; exact h1), z0b.2 (z0b.1 h2)⟩
 | .sl t, x, us, h => by
  obtain ⟨v, vr, e, h1, h2⟩ := z0a.1 h
  refine z0a.2 ⟨v, vr, e, ?_, z0b.2 (z0b.1 h2)⟩
  simp only [RelV] at h1 ⊢
  exact z0s (fun _ _ _ _ e => e) hok _ _ _ h1
 | .pr a b, x, us, h => by
  obtain ⟨u1, u2, e, h1, h2⟩ := z1F h
  rw [e]
  exact z0B (RelL_mv hok a _ _ h1) (RelL_mv hok b _ _ h2)
 | .un, x, us, h => z0b.2 (z0b.1 h)
 | .fk f, x, us, h => by
  obtain ⟨v, vr, e, h1, h2⟩ := z0a.1 h
  refine z0a.2 ⟨v, vr, e, ?_, z0b.2 (z0b.1 h2)⟩
  simp only [RelV] at h1 ⊢
  obtain ⟨us, e, h3⟩ := h1
  exact ⟨us, e, z0b.2 (z0b.1 h3)⟩
 | .tr a b, x, us, h => by
  obtain ⟨v, vr, e, h1, h2⟩ := z0a.1 h
  refine z0a.2 ⟨v, vr, e, ?_, z0b.2 (z0b.1 h2)⟩
  simp only [RelV] at h1 ⊢
  exact z0s (fun _ _ _ _ e => e) hok _ _ _ h1
section
variable {w' : World} {ok ok' : Nat → Prop} {ι2 ι'' : Nat → Option Value} {nb : Nat} {fl : Bool}
theorem avD_mv (hok : fl = false → ∀ b, ok b → ok' b) {agg : Bool} {ty : Ty} {x : ty.den} {u : Value} (hf : fl = true → ty.flat = true) (h0 : RelV w' ok ι2 (avD agg ty x) u) : RelV w' ok' ι'' (avD agg ty x) u := by
 cases fl with
 | true => exact avD_flat (hf rfl) h0
 | false =>
  unfold avD at h0 ⊢
  split at h0
  ·rename_i ha
   simp only [ha, if_true]
   simp only [RelV] at h0 ⊢
   obtain ⟨us, e, h1⟩ := h0
   exact ⟨us, e, RelL_mv (hok rfl) ty x us h1⟩
  ·rename_i ha
   rw [if_neg ha]
   split at h0
   ·rename_i v hv
    have h1 : RelL w' ok ι2 (unpack ty x) [u] := by rw [hv]; exact z0a.2 ⟨u, [], rfl, h0, z0b.2 rfl⟩
    have h2 := RelL_mv (ι' := ι'') (hok rfl) ty x _ h1
    rw [hv] at h2
    obtain ⟨v', vr, e, h3, _⟩ := z0a.1 h2
    injection e with e _
    subst e
    exact h3
   ·simp only [RelV]
mutual
theorem SV.ret_rel (hok : fl = false → ∀ b, ok b → ok' b) (hι : ∀ b v, ι2 b = some v → ι'' (nb + b) = some v) : ∀ (sv : SV) (x : sv.den) (u : Value), (fl = true → sv.flat = true) → RelV w' ok ι2 (sv.put x) u → RelV w' ok' ι'' (sv.ret nb x) u
 | .d agg t, x, u, hf, h => avD_mv hok hf h
 | .rs b sz, p, u, _, h => by
  simp only [SV.put, SV.ret, RelV] at h ⊢
  obtain ⟨A, n, c, A', c', h1, h2⟩ := h
  exact ⟨A, n, c, A', c', hι _ _ h1, h2⟩
 | .rz b sz, p, u, _, h => by
  simp only [SV.put, SV.ret, RelV] at h ⊢
  obtain ⟨A, n, c, A', c', h1, h2⟩ := h
  exact ⟨A, n, c, A', c', hι _ _ h1, h2⟩
 | .fn f cs, x, u, hf, h => by
  simp only [SV.put, SV.ret, RelV] at h ⊢
  obtain ⟨us, e, h1⟩ := h
  exact ⟨us, e, SV.z3U hok hι cs x us hf h1⟩
 | .rf b, x, u, _, h => by
  simp only [SV.put, SV.ret, RelV] at h ⊢
  exact ⟨hι _ _ h.1, h.2⟩
 | .pt b o, x, u, _, h => by
  simp only [SV.put, SV.ret, RelV] at h ⊢
  obtain ⟨g, h1, h2⟩ := h
  exact ⟨g, hι _ _ h1, h2⟩
 | .ud, x, u, _, h => by
  simp only [SV.put, SV.ret, RelV] at h ⊢
  exact h
 | .mp b, x, u, _, h => by
  simp only [SV.put, SV.ret, RelV] at h ⊢
  obtain ⟨g, h1, h2⟩ := h
  exact ⟨g, hι _ _ h1, h2⟩
 | .np, x, u, _, h => by
  simp only [SV.put, SV.ret, RelV] at h ⊢
  exact h
 | .mnil, x, u, _, h => by
  simp only [SV.put, SV.ret, RelV] at h ⊢
  exact h
 | .nl, x, u, _, h => by
  simp only [SV.put, SV.ret, RelV] at h ⊢
  exact h
 | .ro b, x, u, _, h => by
  simp only [SV.put, SV.ret, RelV] at h ⊢
  obtain ⟨arr, h1, h2⟩ := h
  exact ⟨arr, hι _ _ h1, h2⟩
 | .fs b sz, p, u, _, h => by
  simp only [SV.put, SV.ret, RelV] at h ⊢
  obtain ⟨A', c', h1, h2, h3⟩ := h
  refine ⟨A', c', h1, h2, fun q => ?_⟩
  obtain ⟨arr, g, n, c, k1, k2⟩ := h3 q
  exact ⟨arr, g, n, c, hι _ _ k1, k2⟩
 | .ag cs, x, u, hf, h => by
  simp only [SV.put, SV.ret, RelV] at h ⊢
  obtain ⟨us, e, h1⟩ := h
  exact ⟨us, e, SV.z3U hok hι cs x us hf h1⟩
 | .ve cs, x, u, hf, h => by
  have hfl : fl = false := by
   cases h0 : fl with
   | false => rfl
   | true => have := hf h0; simp [SV.flat] at this
  simp only [SV.put, SV.ret, RelV] at h ⊢
  obtain ⟨g, o, us, e, h0, h1, h2⟩ := h
  exact ⟨g, o, us, e, hok hfl g h0, SV.z3U hok hι cs x us (fun q => by rw [hfl] at q; cases q) h1, h2⟩
theorem SV.z3U (hok : fl = false → ∀ b, ok b → ok' b) (hι : ∀ b v, ι2 b = some v → ι'' (nb + b) = some v) : ∀ (l : List SV) (x : SV.denL l) (us : List Value), (fl = true → SV.flatL l = true) → RelL w' ok ι2 (SV.putL l x) us → RelL w' ok' ι'' (SV.retL nb l x) us
 | [], x, us, _, h => by simpa only [SV.putL, SV.retL, RelL] using h
 | a :: r, x, us, hf, h => by
  simp only [SV.putL, SV.retL, RelL] at h ⊢
  obtain ⟨v, vr, e, h1, h2⟩ := h
  have hf' : fl = true → a.flat = true ∧ SV.flatL r = true := fun q => by
   have := hf q
   simpa only [SV.flatL, Bool.and_eq_true] using this
  exact ⟨v, vr, e, SV.ret_rel hok hι a x.1 v (fun q => (hf' q).1) h1, SV.z3U hok hι r x.2 vr (fun q => (hf' q).2) h2⟩
end
theorem SB.ret_rel (hok : fl = false → ∀ b, ok b → ok' b) (hι : ∀ b v, ι2 b = some v → ι'' (nb + b) = some v) {j : Nat} : ∀ (sb : SB) (x : sb.den), (fl = true → sb.flat = true) → RelB w' ok ι2 j (sb.put x) → RelB w' ok' ι'' (nb + j) (sb.ret nb x)
 | .row t e, xs, hf, h => by
  obtain ⟨v, cs, h1, h2, h3⟩ := h
  refine ⟨v, cs, hι _ _ h1, h2, z0u (fun x us hx => ?_) h3⟩
  cases hfl : fl with
  | true => exact z3d t x us (hf hfl) hx
  | false => exact z0s (fun _ _ _ _ e => e) (hok hfl) t x us hx
 | .box e cs, x, hf, h => by
  obtain ⟨g, us, h1, h2, h3⟩ := h
  exact ⟨g, us, hι _ _ h1, h2, SV.z3U hok hι cs x us hf h3⟩
 | .it, _, _, _ => trivial
 | .mi _ _ _, _, _, _ => trivial
 | .map kt va vt, l, hf, h => by
  obtain ⟨g, es, ck, l', h1, h2, h3, h4, h5, h6, h7⟩ := h
  refine ⟨g, es, ck, l', hι _ _ h1, h2, h3, h4, h5, ?_, h7⟩
  cases hfl : fl with
  | true =>
   have := hf hfl
   simp only [SB.flat, Bool.and_eq_true] at this
   exact RzM_flat this.1 this.2 h6
  | false => exact z2f (fun _ _ _ _ e => e) (hok hfl) h6
 | .nr t t2 e ie, l, hf, h => by
  obtain ⟨arr, u, vs, cs, h1, h2, h3, h4, h5⟩ := h
  refine ⟨arr, u, vs, cs, hι _ _ h1, h2, h3, ?_, h5⟩
  cases hfl : fl with
  | true =>
   have := hf hfl
   simp only [SB.flat, Bool.and_eq_true] at this
   exact NrL_turn (fun x us => z3d t x us this.1) (fun x us => z3d t2 x us this.2) h4
  | false => exact z2j (fun _ _ _ _ e => e) (hok hfl) h4 (fun _ _ _ _ => rfl)
end
theorem z5z (nb : Nat) : ∀ (l : List SB) (x : denB l), (retB nb l x).length = l.length
 | [], _ => rfl
 | _ :: r, x => by simp [retB, z5z nb r x.2]
theorem retB_get (nb : Nat) : ∀ (l : List SB) (x : denB l) (j : Nat), getB (retB nb l x) j = .dead ∨ ∃ sb, l[j]? = some sb ∧ ∃ y : sb.den, getB (retB nb l x) j = sb.ret nb y ∧ getB (putB l x) j = sb.put y
 | [], _, _ => .inl rfl
 | a :: r, x, 0 => .inr ⟨a, rfl, x.1, rfl, rfl⟩
 | a :: r, x, j + 1 => by
  rcases retB_get nb r x.2 j with h | ⟨sb, h1, y, h2, h3⟩
  ·exact .inl h
  ·exact .inr ⟨sb, by simpa using h1, y, h2, h3⟩
theorem z6b : ∀ {l : List SB} {j : Nat} {sb : SB}, flatB l = true → l[j]? = some sb → sb.flat = true
 | [], j, _, _, h => by simp at h
 | a :: r, 0, sb, hf, h => by
  simp only [List.getElem?_cons_zero, Option.some.injEq] at h
  subst h
  simp only [flatB, Bool.and_eq_true] at hf
  exact hf.1
 | a :: r, j + 1, sb, hf, h => by
  simp only [flatB, Bool.and_eq_true] at hf
  exact z6b (l := r) (j := j) hf.2 (by simpa using h)
theorem SB.ret_bk {ι2 ι'' : Nat → Option Value} {C2 C'' : Nat → Blk} {nb j k : Nat} {b : Nat} : ∀ (sb : SB) (y : sb.den), C'' k = sb.ret nb y → C2 j = sb.put y → ι'' k = ι2 j → b ∈ bk ι'' C'' k → b ∈ bk ι2 C2 j
 | .row t e, xs, h1, h2, h3, h => by
  unfold bk at h ⊢
  rw [h1, h3] at h
  rw [h2]
  exact h
 | .box e cs, x, h1, h2, h3, h => by
  unfold bk at h ⊢
  rw [h1, h3] at h
  rw [h2]
  simp only [SB.ret, SB.put] at h ⊢
  cases hι : ι2 j with
  | none => rw [hι] at h; cases h
  | some v =>
   rw [hι] at h
   cases v <;> (try (cases h; done))
   rename_i p
   cases p with
   | none => cases h
   | some a => exact h
 | .it, _, h1, _, _, h => by
  rw [z0O h1] at h
  cases h
 | .mi _ _ _, _, h1, _, _, h => by
  rw [z0O h1] at h
  cases h
 | .map kt va vt, l, h1, h2, h3, h => by
  unfold bk at h ⊢
  rw [h1, h3] at h
  rw [h2]
  exact h
 | .nr t t2 e ie, l, h1, h2, h3, h => by
  unfold bk at h ⊢
  rw [h1, h3] at h
  rw [h2]
  exact h
theorem addC_at : ∀ (new : List Blk) (C : Nat → Blk) (nb j : Nat), j < new.length → addC C nb new (nb + j) = getB new j
 | [], _, _, j, h => by simp at h
 | b :: r, C, nb, 0, _ => by
  show addC (setC C nb b) (nb + 1) r (nb + 0) = b
  rw [z1W _ _ _ _ (by omega), Nat.add_zero, z0e]
 | b :: r, C, nb, j + 1, h => by
  show addC (setC C nb b) (nb + 1) r (nb + (j + 1)) = getB r j
  rw [show nb + (j + 1) = nb + 1 + j by omega]
  exact addC_at r _ (nb + 1) j (by simpa using h)
def slotsFrom : Nat → List (Nat × SV) → Bool
 | _, [] => true
 | i, p :: r => Nat.beq p.1 i && slotsFrom (i + 1) r
theorem retS_rel {w' : World} {ok ok' : Nat → Prop} {ι2 ι'' : Nat → Option Value} {nb : Nat} {fl : Bool} (hok : fl = false → ∀ b, ok b → ok' b) (hι : ∀ b v, ι2 b = some v → ι'' (nb + b) = some v) :
  ∀ (l : List (Nat × SV)) (x : denS l) (i : Nat) (us : List Value), slotsFrom i l = true → (fl = true → flatS l = true) → us.length = l.length → (∀ t, t < us.length → RelV w' ok ι2 (getT (putS l x) (i + t)) (us.getD t undef)) → RelL w' ok' ι'' (retS nb l x) us
 | [], x, i, us, _, _, hl, _ => z0b.2 (List.length_eq_zero_iff.1 hl)
 | p :: r, x, i, us, hs, hf, hl, h => by
  cases us with
  | nil => simp at hl
  | cons u ur =>
   simp only [slotsFrom, Bool.and_eq_true] at hs
   have hp := Nat.eq_of_beq_eq_true hs.1
   have hf' : fl = true → p.2.flat = true ∧ flatS r = true := fun q => by
    have := hf q
    simpa only [flatS, Bool.and_eq_true] using this
   refine z0a.2 ⟨u, ur, rfl, ?_, retS_rel hok hι r x.2 (i + 1) ur hs.2 (fun q => (hf' q).2) (by simpa using hl) fun t ht => ?_⟩
   ·have h0 := h 0 (by simp)
    rw [Nat.add_zero] at h0
    simp only [putS, getT] at h0
    rw [if_pos (by rw [hp]; exact Nat.beq_refl i)] at h0
    exact SV.ret_rel hok hι p.2 x.1 u (fun q => (hf' q).1) h0
   ·have h1 := h (t + 1) (by simpa using ht)
    simp only [putS, getT] at h1
    rw [if_neg (fun q => by have := Nat.eq_of_beq_eq_true q; omega)] at h1
    rw [show i + 1 + t = i + (t + 1) by omega]
    simpa using h1
end
end Go.Proofs.Rf
namespace Go.Proofs.Rf
open Go Go.RowKit
section
variable {X keep : Nat → Prop} {w0 w : World} {ι : Nat → Option Value} {C : Nat → Blk} {P : Program} {TT : Tab} {Δ : Nat → Option z0G}
def z1d (base k : Nat) : z0L := ⟨true, base, upTo k, fun tm => tm.size = k, fun tm d h hd => by
 have hd : Nat.blt d k = true := hd
 rw [h]; exact Nat.le_of_ble_eq_true hd, fun tm d v h _ => by simpa using h⟩
theorem z5N {e m n b : Nat} {v : Value} {cs : List Value} (h : w.ownsRow 0 e m v n cs) (hb : v.ownBlock = some b) : w.heap[b]? ≠ some (.deferred (some [])) := by
 rcases h.2 with ⟨h4, _⟩ | ⟨g, cap, cur, hv, _, h6, _⟩
 ·rw [h4] at hb; cases hb
 ·rw [hv] at hb
  injection hb with hb
  have hb : g = b := hb
  subst hb
  rw [h6]; intro e; cases e
theorem HRel.owned_obj (h : HRel X keep w0 ι C w) {b : Nat} (hb : owned ι C b) : w.heap[b]? ≠ some (.deferred (some [])) := by
 obtain ⟨k, hk⟩ := hb
 have hB := h.bl k
 unfold bk at hk
 cases hC : C k with
 | row t e xs rw =>
  rw [hC] at hB hk
  cases rw with
  | true =>
   obtain ⟨v, cs, h1, h2, h3⟩ := hB
   rw [h1] at hk
   exact z5N h2 (Option.mem_toList.1 hk)
  | false => cases hι : ι k <;> rw [hι] at hk <;> cases hk
 | box e cs =>
  rw [hC] at hB hk
  obtain ⟨g, us, h1, h2, h3⟩ := hB
  rw [h1] at hk
  have hk : b = g := List.mem_singleton.1 hk
  subst hk
  rw [h2]; intro e; cases e
 | it s pos =>
  rw [hC] at hB hk
  obtain ⟨g, h1, h2⟩ := hB
  rw [h1] at hk
  have hk : b = g := List.mem_singleton.1 hk
  subst hk
  rw [h2]; intro e; cases e
 | map kt va vt l =>
  rw [hC] at hB hk
  obtain ⟨g, es, ck, l', h1, h2, _⟩ := hB
  rw [h1] at hk
  have hk : b = g := List.mem_singleton.1 hk
  subst hk
  rw [h2]; intro e; cases e
 | ms kt va vt l q nb =>
  rw [hC] at hB hk
  obtain ⟨g, es, ck, l', j, x, e, h1, h2, _⟩ := hB
  rw [h1] at hk
  have hk : b = g := List.mem_singleton.1 hk
  subst hk
  rw [h2]; intro e; cases e
 | mi kt va vt l cur =>
  rw [hC] at hB hk
  obtain ⟨g, m, es, ck, since, c0, seen, l', h1, h2, _⟩ := hB
  rw [h1] at hk
  have hk : b = g := List.mem_singleton.1 hk
  subst hk
  rw [h2]; intro e; cases e
 | nr t t2 e ie xs =>
  rw [hC] at hB hk
  obtain ⟨arr, u, vs, cs, h1, h2, h3, h4, h5⟩ := hB
  rw [h1] at hk
  obtain ⟨v, hv, hb⟩ := List.mem_filterMap.1 hk
  rw [h2] at hv
  rcases List.mem_cons.1 hv with rfl | hv
  ·exact z5N h3 hb
  ·obtain ⟨n, ds, h6⟩ := NrL_owns h4 v hv
   exact z5N h6 hb
 | nz t it xs => rw [hC] at hk; cases hι : ι k <;> rw [hι] at hk <;> cases hk
 | bz cs => rw [hC] at hk; cases hι : ι k <;> rw [hι] at hk <;> cases hk
 | dead => rw [hC] at hk; cases hι : ι k <;> rw [hι] at hk <;> cases hk
def z6C (base : Nat) (w : World) : List Deferred → Prop
 | [] => True
 | d :: ds => (∃ D, d.target = .collected D ∧ base ≤ D ∧ w.heap[D]? = some (.deferred (some [])) ∧ ∀ e ∈ ds, e.target ≠ .collected D) ∧ z6C base w ds
theorem z4A {base : Nat} {keep : Nat → Prop} {w0 w : World} (hk : Kept keep w0 w) : ∀ {ds : List Deferred}, MarksOK base keep w0 ds → z6C base w ds
 | [], _ => trivial
 | d :: ds, ⟨⟨D, h1, h2, h3, h4, h5⟩, h6⟩ => ⟨⟨D, h1, h2, by rw [hk.block D h3 (Array.getElem?_eq_some_iff.1 h4).1]; exact h4, h5⟩, z4A hk h6⟩
theorem z5S {base : Nat} {w : World} {D : Nat} {o : Obj} : ∀ {ds : List Deferred}, (∀ e ∈ ds, e.target ≠ .collected D) → z6C base w ds → z6C base (w.putObj D o) ds
 | [], _, _ => trivial
 | d :: ds, hd, ⟨⟨D', h1, h2, h4, h5⟩, h6⟩ => by
  refine ⟨⟨D', h1, h2, ?_, h5⟩, z5S (fun e he => hd e (List.mem_cons_of_mem _ he)) h6⟩
  rw [World.putObj_heap_other ?_]
  ·exact h4
  ·rintro rfl
   exact hd d (List.mem_cons_self ..) h1
theorem z2X {dp base : Nat} {fn : Func} {tmps : Array Value} {R : Ending → World → Prop} {G : World → Prop} (hfin : ∀ w, G w → ∃ v, (results fn tmps).run P w = .ok v w ∧ R (.returned v) w)
  (hstep : ∀ w D, G w → base ≤ D → w.heap[D]? = some (.deferred (some [])) → G (w.putObj D (.deferred none))) : ∀ (ds : List Deferred) (w : World), G w → z6C base w ds → LeavesInM (WF none) dp P fn tmps R ds .returning w
 | [], w, hg, _ => hfin w hg
 | d :: ds, w, hg, ⟨⟨D, h1, h2, h4, h5⟩, h6⟩ =>
  ⟨by simp, .inl ⟨D, _, h1, run_takeDeferred h4, z2X hfin hstep ds _ (hstep w D hg h2 h4) (z5S h5 h6)⟩⟩
theorem retV_rel {ok : Nat → Prop} {vs : List AV} {us : List Value} (h : RelL w ok ι vs us) : RelV w ok ι (retV vs) (if h : us.toArray.size = 1 then us.toArray[0] else .tuple us.toArray) := by
 match vs, h with
 | [], h =>
  rw [z0b.1 h]
  simp only [retV, RelV]
  exact ⟨[], rfl, z0b.2 rfl⟩
 | [v], h =>
  obtain ⟨u, ur, e, h1, h2⟩ := z0a.1 h
  have h2 := z0b.1 h2
  subst h2
  subst e
  exact h1
 | v1 :: v2 :: r, h =>
  have hl := z0j h
  rw [dif_neg (by simp only [List.size_toArray, hl, List.length_cons]; omega)]
  simp only [retV, RelV]
  exact ⟨us, rfl, h⟩
theorem z4Q {C : Nat → Blk} {ρ : List Nat} : ∀ (l : List SV) (vs : List AV) (p : SV.denL l × List (Nat × Blk)), SV.takeL C ρ l vs = some p → vs.length = l.length
 | [], [], _, _ => rfl
 | [], _ :: _, _, h => by simp only [SV.takeL] at h; cases h
 | a :: r, [], _, h => by simp only [SV.takeL] at h; cases h
 | a :: r, v :: vs, p, h => by
  simp only [SV.takeL] at h
  split at h
  ·split at h
   ·rename_i y g e2
    have := z4Q r vs _ e2
    simp [this]
   ·cases h
  ·cases h
structure FnOK (P : Program) (f : Nat) (fn : Func) (c : Code) (ps : List SV) (rsh : Shape) : Prop where
 at_ : P.funcs[f]? = some fn
 body : fn.body = some c
 name : (fn.name == "runtime.NumGoroutine") = false
 len : Nat.ble ps.length fn.ntmps = true
 slots : slotsFrom 0 rsh.sl = true
 res : Nat.beq rsh.sl.length fn.results.toList.length = true
theorem mkCall_ok (hm : P.follows .mixedOrders = true) (hP : z0n P TT) (hΔ : z0R P Δ) {Λ : Nat → Option z0Y} {f : Nat} {fn : Func} {c : Code} {ps : List SV} {rsh : Shape} (hF : FnOK P f fn c ps rsh)
  (hL : ∀ base, LoopsIn P (z1d base fn.ntmps) none Λ c) {F : SV.denL ps → Option rsh.den} (hrun : ∀ x y, F x = some y → runF TT Δ (upTo fn.ntmps) Λ c fn.results.toList ps rsh x = some y) : z0c P f (mkCall ps rsh F) := by
 refine ⟨⟨fn, hF.at_, hF.name, by rw [hF.body]; rfl⟩, ?_, ?_⟩
 ·intro X keep w0 w ι C nb args vs e h hv hco hn
  unfold mkCall at hco
  split at hco
  ·rename_i x fz hx
   obtain ⟨y, hy, hco⟩ := z1e hco
   injection hco with hco
   subst hco
   obtain ⟨⟨H1, hFr, E1⟩, hrel⟩ := SV.z0S ps C args vs h (z0p.refl C) hv x fz hx
   have hlen : vs.length = ps.length := (z0j hv).trans (z4Q ps args _ hx)
   have hnt : ps.length ≤ fn.ntmps := Nat.le_of_ble_eq_true hF.len
   let X' : Nat → Prop := fun b => b < w.heap.size ∧ ¬ okb X w ι (updC C fz) b
   let keep' : Nat → Prop := fun b => b < w.heap.size
   let ι0 : Nat → Option Value := fun _ => none
   have hno : ∀ b, ¬ owned ι0 (getB []) b := by rintro b ⟨k, hk⟩; rw [z0O rfl] at hk; cases hk
   have Hc : HRel X' keep' w ι0 (getB []) w := ⟨fun k => trivial, fun k k' b h1 _ => (by rw [z0O rfl] at h1; cases h1), Kept.refl _ _, fun b hb => (hno b hb).elim, fun b hb => hb, fun b hb => (hno b hb).elim, fun b hb => hb.1, H1.gl.mono fun b hb => ⟨⟨hb.1, hno b, fun hx => hx.2 hb⟩, rfl⟩⟩
   have hokc : ∀ b, okb X w ι (updC C fz) b → okb X' w ι0 (getB []) b := fun b hb => ⟨hb.1, hno b, fun hx => hx.2 hb⟩
   have hargs : RelL w (okb X' w ι0 (getB [])) ι0 (SV.putL ps x) vs := hrel _ ι0 hokc (fun b i hb => by simp at hb)
   let a0 : Act := { tmps := vs.toArray ++ Array.replicate (fn.ntmps - vs.toArray.size) undef, defers := [] }
   have hT0 : ∀ t, RelV w (okb X' w ι0 (getB [])) ι0 (getT (numT 0 (SV.putL ps x)) t) (a0.tmps.getD t undef) := by
    intro t
    have h1 := (z2u (SV.putL ps x) vs 0 t hargs).1
    rw [Nat.zero_add] at h1
    have h2 : a0.tmps.getD t undef = vs.getD t undef := by
     show (vs.toArray ++ Array.replicate (fn.ntmps - vs.toArray.size) undef).getD t undef = _
     rw [Array.getD_eq_getD_getElem?, List.getD_eq_getElem?_getD]
     rcases Nat.lt_or_ge t vs.length with ht | ht
     ·rw [Array.getElem?_append_left (by simpa using ht)]
      simp
     ·rw [Array.getElem?_append_right (by simpa using ht), List.getElem?_eq_none ht, Array.getElem?_replicate]
      split <;> rfl
    rw [h2]
    exact h1
   have S0 : SRel X' keep' w (z1d w.heap.size fn.ntmps) ι0 ⟨numT 0 (SV.putL ps x), []⟩ a0 w := by
    refine ⟨⟨Hc, hT0, ?_, Nat.le_refl _, fun _ => rfl, trivial⟩, fun _ _ => rfl⟩
    show a0.tmps.size = fn.ntmps
    simp only [a0, Array.size_append, Array.size_replicate, List.size_toArray]
    omega
   have hev := hrun x y hy
   unfold runF at hev
   refine callsIn_wide.1 (callsIn_of_wp_marks (F := WF none) (n := 0) hF.at_ hF.body trivial (z0P hm hP hΔ c (hL _) _ _ _ a0 w ι0 keep' w S0 hev fun e s' a' w1 ι1 k1 v1 hlat hk h1 => ?_) rfl)
   have hsr : SRel X' keep' w (z1d w.heap.size fn.ntmps) ι1 s' { tmps := a'.tmps, defers := [] } w1 :=
    ⟨⟨h1.f.h.weaken hlat.mono hlat.kept (fun b hb => hb) (fun b hb => hb.1), h1.f.tm, h1.f.size, Nat.le_refl _, fun _ => rfl, trivial⟩, h1.dom⟩
   have fin : ∀ (w' : World) (ι' : Nat → Option Value), SRel X' keep' w (z1d w.heap.size fn.ntmps) ι' s' { tmps := a'.tmps, defers := [] } w' → (match retsOf TT s' fn.results.toList with
     | some vs => rsh.take ⟨numT 0 vs, s'.bl⟩
     | none => none) = some y → ∃ v, (results fn a'.tmps).run P w' = .ok v w' ∧ ∃ v', Ending.returned v = .returned v' ∧ Out X keep w0 ι C w nb ⟨retV (retS nb rsh.sl y.1), if rsh.flat = true then [] else fz, retB nb rsh.bl y.2⟩ v' w' := by
    intro w' ι' h' hk
    split at hk
    ·rename_i rs hrs
     obtain ⟨us, v, r1, r2, r3⟩ := z3V hP h' hrs
     refine ⟨v, r1, v, rfl, ?_⟩
     let a2 : Act := { tmps := us.toArray, defers := [] }
     have S1 : SRel X' keep' w (z1d w.heap.size us.length) ι' ⟨numT 0 rs, s'.bl⟩ a2 w' := by
      refine ⟨⟨h'.f.h, fun t => ?_, (by show a2.tmps.size = us.length; simp [a2]), Nat.le_refl _, fun _ => rfl, trivial⟩, h'.dom⟩
      have := (z2u rs us 0 t r2).1
      rw [Nat.zero_add] at this
      have h2 : a2.tmps.getD t undef = us.getD t undef := by
       show us.toArray.getD t undef = _
       rw [Array.getD_eq_getD_getElem?, List.getD_eq_getElem?_getD]
       simp
      rw [h2]
      exact this
     obtain ⟨ι2, S2⟩ := Shape.z0H S1 hk
     have hul : us.length = rsh.sl.length := by
      have h1 := Nat.eq_of_beq_eq_true hF.res
      have h2 := z0j r2
      have h3 : ∀ {l : List ResultVar} {vs : List AV}, retsOf TT s' l = some vs → vs.length = l.length := by
       intro l
       induction l with
       | nil => intro vs hvs; simp only [retsOf] at hvs; injection hvs with hvs; subst hvs; rfl
       | cons q l ih =>
        intro vs hvs
        simp only [retsOf] at hvs
        split at hvs
        ·split at hvs
         ·rename_i vr hvr
          injection hvs with hvs
          subst hvs
          simp [ih hvr]
         ·cases hvs
        ·cases hvs
      have h4 := h3 hrs
      omega
     let fl := rsh.flat
     let Cz := updC C (if fl = true then [] else fz)
     have hz : HRel X keep w0 ι Cz w ∧ Ext X ι C w ι Cz w := by
      show HRel X keep w0 ι (updC C (if fl = true then [] else fz)) w ∧ Ext X ι C w ι (updC C (if fl = true then [] else fz)) w
      cases fl
      ·exact ⟨H1, E1⟩
      ·exact ⟨h, Ext.refl _ _ _ _⟩
     obtain ⟨Hz, Ez⟩ := hz
     let new := retB nb rsh.bl y.2
     have hnl : new.length = rsh.bl.length := z5z _ _ _
     let ι'' : Nat → Option Value := fun k => if nb ≤ k ∧ k < nb + new.length then ι2 (k - nb) else ι k
     have hin : ∀ j, j < new.length → ι'' (nb + j) = ι2 j := by
      intro j hj
      show (if nb ≤ nb + j ∧ nb + j < nb + new.length then ι2 (nb + j - nb) else ι (nb + j)) = _
      rw [if_pos (by omega), Nat.add_sub_cancel_left]
     have hou : ∀ k, ¬ (nb ≤ k ∧ k < nb + new.length) → ι'' k = ι k := fun k hk => if_neg hk
     let C'' := addC Cz nb new
     have hCin : ∀ j, j < new.length → C'' (nb + j) = getB new j := fun j hj => addC_at new Cz nb j hj
     have hbkn : ∀ j b, j < new.length → b ∈ bk ι'' C'' (nb + j) → b ∈ bk ι2 (getB (putB rsh.bl y.2)) j := by
      intro j b hj hb
      rcases retB_get nb rsh.bl y.2 j with q | ⟨sb, q1, z, q2, q3⟩
      ·rw [z0O (by rw [hCin j hj]; exact q)] at hb; cases hb
      ·exact SB.ret_bk sb z (by rw [hCin j hj]; exact q2) q3 (hin j hj) hb
     have hout : ∀ k, ¬ (nb ≤ k ∧ k < nb + new.length) → C'' k = Cz k := fun k hk => z1W _ _ _ _ hk
     have hX : ∀ b, ¬ X' b → b < w.heap.size → okb X w ι (updC C fz) b := fun b h1 h2 => Classical.byContradiction fun h3 => h1 ⟨h2, h3⟩
     have okT : fl = false → ∀ b, okb X' w' ι2 (getB (rsh.put y).bl) b → okb X w' ι'' C'' b := by
      intro hfl b hb
      have hCz : Cz = updC C fz := by show updC C (if fl = true then [] else fz) = _; rw [hfl]; rfl
      refine ⟨hb.1, ?_, fun hx => ?_⟩
      ·rintro ⟨k, hk⟩
       by_cases hs : nb ≤ k ∧ k < nb + new.length
       ·obtain ⟨j, rfl⟩ : ∃ j, k = nb + j := ⟨k - nb, by omega⟩
        exact hb.2.1 ⟨j, hbkn j b (by omega) hk⟩
       ·rw [z0z (hout k hs) (hou k hs)] at hk
        have := hX b hb.2.2 (Hz.lt ⟨k, hk⟩)
        rw [hCz] at hk
        exact this.2.1 ⟨k, hk⟩
      ·exact (hX b hb.2.2 (Nat.lt_of_lt_of_le (h.xl b hx) h.fr.size)).2.2 hx
     have hfl2 : fl = true → flatS rsh.sl = true ∧ flatB rsh.bl = true := by
      intro q
      have q : (flatS rsh.sl && flatB rsh.bl) = true := q
      simpa only [Bool.and_eq_true] using q
     have hlen2 : (rsh.put y).bl.length = new.length := by rw [hnl]; exact z0N _ _
     have hιn : ∀ b v, ι2 b = some v → ι'' (nb + b) = some v := by
      intro b v hb
      have hb' : b < new.length := by
       rcases Nat.lt_or_ge b new.length with q | q
       ·exact q
       ·rw [S2.dom b (by omega)] at hb; cases hb
      rw [hin b hb']; exact hb
     obtain ⟨HF, EF⟩ := Hz.step (C' := C'') (ι' := ι'') (w' := w') (fun k => nb ≤ k ∧ k < nb + new.length) S2.f.h.fr.os S2.f.h.fr.tape S2.f.h.fr.output S2.f.h.fr.size hout
      (fun k v hk => by
       have hs : ¬ (nb ≤ k ∧ k < nb + new.length) := fun q => by rw [hn k q.1 q.2] at hk; cases hk
       rw [hou k hs]; exact hk) hou
      (by
       intro k b hs hb
       obtain ⟨j, rfl⟩ : ∃ j, k = nb + j := ⟨k - nb, by omega⟩
       exact .inl (Nat.le_of_not_lt (S2.f.h.own b ⟨j, hbkn j b (by omega) hb⟩)))
      (by
       intro k k' b hs hs' hb hb'
       obtain ⟨j, rfl⟩ : ∃ j, k = nb + j := ⟨k - nb, by omega⟩
       obtain ⟨j', rfl⟩ : ∃ j, k' = nb + j := ⟨k' - nb, by omega⟩
       rw [S2.f.h.inj j j' b (hbkn j b (by omega) hb) (hbkn j' b (by omega) hb')])
      (fun b hb _ => S2.f.h.fr.block b hb hb)
      (by
       intro _ k hs
       obtain ⟨j, rfl⟩ : ∃ j, k = nb + j := ⟨k - nb, by omega⟩
       have hj : j < new.length := by omega
       rw [hCin j hj]
       rcases retB_get nb rsh.bl y.2 j with q | ⟨sb, q1, z, q2, q3⟩
       ·rw [show getB new j = .dead from q]; trivial
       ·rw [show getB new j = _ from q2]
        have hB := S2.f.h.bl j
        rw [show getB (rsh.put y).bl j = _ from q3] at hB
        exact SB.ret_rel (fl := fl) okT hιn sb z (fun q => z6b (hfl2 q).2 q1) hB)
     have hret : RelL w' (okb X w' ι'' C'') ι'' (retS nb rsh.sl y.1) us := by
      refine retS_rel (ι2 := ι2) (fl := fl) okT hιn rsh.sl y.1 0 us hF.slots (fun q => (hfl2 q).1) hul fun t _ => ?_
      ·rw [Nat.zero_add]
       have := S2.f.tm t
       have h2 : a2.tmps.getD t undef = us.getD t undef := by
        show us.toArray.getD t undef = _
        rw [Array.getD_eq_getD_getElem?, List.getD_eq_getElem?_getD]
        simp
       rw [h2] at this
       exact this
     refine ⟨ι'', HF, Ez.trans EF, ?_, hou⟩
     rw [r3]
     exact retV_rel hret
    ·cases hk
   have leave : (match retsOf TT s' fn.results.toList with
     | some vs => rsh.take ⟨numT 0 vs, s'.bl⟩
     | none => none) = some y → LeavesInM (WF none) 0 P fn a'.tmps (fun en w' => ∃ v, en = .returned v ∧ Out X keep w0 ι C w nb ⟨retV (retS nb rsh.sl y.1), if rsh.flat = true then [] else fz, retB nb rsh.bl y.2⟩ v w') a'.defers .returning w1 := by
    intro hk
    refine z2X (base := w.heap.size) (G := fun w' => SRel X' keep' w (z1d w.heap.size fn.ntmps) ι1 s' { tmps := a'.tmps, defers := [] } w') (fun w' h' => fin w' ι1 h' hk) (fun w' D h' hD hd => ?_) a'.defers w1 hsr (z4A h1.f.h.fr h1.f.defers.2.2)
    obtain ⟨q1, q2⟩ := h'.f.h.quiet (w' := w'.putObj D (.deferred none)) D rfl rfl rfl (by simp) (fun b hb _ => World.putObj_heap_other hb) (fun o v hc => by simp [World.cell?, hd] at hc) (fun es ck hc => by simp [hd] at hc)
     (fun b hb e => h'.f.h.owned_obj hb (by rw [e]; exact hd)) (fun hk' => absurd hk' (Nat.not_lt.2 hD))
    exact ⟨⟨q1, fun t => q2 _ _ (h'.f.tm t), h'.f.size, Nat.le_refl _, fun _ => rfl, trivial⟩, h'.dom⟩
   cases e with
   | nm => exact leave hk
   | ex j => cases hk
   | rt => exact leave hk
  ·cases hco
 ·intro args C nb R K
  unfold mkCall
  split
  ·rename_i x fz hx
   cases F x <;> rfl
  ·rfl
end
end Go.Proofs.Rf
namespace Go.Proofs.Rf
open Go Go.RowKit
def ifTK : TK := .ifc
theorem und_if {P : Program} {t : Nat} (h : ∃ ms, P.underlying t = some (.interface ms)) : UndOK P t ifTK := by
 obtain ⟨ms, h⟩ := h
 exact ⟨ms, h⟩
def tkOf : TypeDesc → TK
 | .int k => .int k
 | .bool => .bool
 | .string => .str
 | .slice e => .sl e
 | .array n e => .ar n e
 | .struct fields => .st (fields.toList.map fun f => (f.offset, f.type))
 | .pointer e => .pt e
 | .map k e => .mp k e
 | .unsafePointer => .up
 | .interface _ => ifTK
 | _ => .oth
def prL : List Ty → Ty
 | [] => .un
 | [a] => a
 | a :: b :: r => .pr a (prL (b :: r))
def allT {α β : Type} (f : α → Option β) : List α → Option (List β)
 | [] => some []
 | a :: r => match f a with
  | some b => match allT f r with
   | some bs => some (b :: bs)
   | none => none
  | none => none
def tyOf (P : Program) : Nat → Nat → Option Ty
 | 0, _ => none
 | k + 1, t => match P.underlying t with
  | some (.int i) => some (.int i)
  | some .bool => some .bool
  | some .string => some .str
  | some (.slice e) => (match tyOf P k e with
   | some ty => some (.sl ty)
   | none => none)
  | some (.array n e) => (match tyOf P k e with
   | some ty => some (prL (List.replicate n ty))
   | none => none)
  | some (.interface _) => some .ic
  | some (.func _ _ _) => if fnsR.isEmpty = true then none else some .fv
  | some (.pointer e) => (match treeOf e with
   | some (a, b) => some (.tr a b)
   | none => none)
  | some (.struct fields) => (match allT (fun f : Field => tyOf P k f.type) fields.toList with
   | some ts => some (prL ts)
   | none => none)
  | _ => none
def zInt (k : IntKind) : List Value → Bool
 | [.int k' n] => ikEq k' k && (n == 0)
 | _ => false
def zBool : List Value → Bool
 | [.bool b] => !b
 | _ => false
def zStr : List Value → Bool
 | [.string s] => Nat.beq s.data.size 0
 | _ => false
def zSl : List Value → Bool
 | [.slice none 0 0] => true
 | _ => false
def zNil : List Value → Bool
 | [] => true
 | _ => false
def zPtr : List Value → Bool
 | [.pointer none] => true
 | _ => false
def zIf : List Value → Bool
 | [.nilIface] => true
 | _ => false
def zFn : List Value → Bool
 | [.nilFunc] => true
 | _ => false
def zB : Ty → List Value → Bool
 | .int k, vs => zInt k vs
 | .bool, vs => zBool vs
 | .str, vs => zStr vs
 | .sl _, vs => zSl vs
 | .pr a b, vs => zB a (vs.take a.size) && zB b (vs.drop a.size)
 | .un, vs => zNil vs
 | .fk _, _ => false
 | .ic, vs => zIf vs
 | .fv, vs => zFn vs
 | .tr _ _, vs => zPtr vs
theorem zB_sound {w : World} {ok : Nat → Prop} : ∀ (t : Ty) (vs : List Value), zB t vs = true → Rz w ok t t.dflt vs
 | .int k, vs, h => by
  unfold zB zInt at h
  split at h
  ·simp only [Bool.and_eq_true, beq_iff_eq] at h
   rw [z2Y h.1, h.2]
   rfl
  ·cases h
 | .bool, vs, h => by
  unfold zB zBool at h
  split at h
  ·rename_i b
   cases b
   ·rfl
   ·cases h
  ·cases h
 | .str, vs, h => by
  unfold zB zStr at h
  split at h
  ·rename_i s
   have h := Nat.eq_of_beq_eq_true h
   have : s = ⟨[].toArray⟩ := by
    cases s with
    | mk d =>
     congr 1
     exact Array.eq_empty_of_size_eq_zero h
   rw [this]
   rfl
  ·cases h
 | .sl t, vs, h => by
  unfold zB zSl at h
  split at h
  ·exact ⟨none, 0, rfl, Nat.le_refl _, fun hp => by simp [Ty.dflt] at hp⟩
  ·cases h
 | .pr a b, vs, h => by
  simp only [zB, Bool.and_eq_true] at h
  exact ⟨vs.take a.size, vs.drop a.size, (List.take_append_drop _ _).symm, zB_sound a _ h.1, zB_sound b _ h.2⟩
 | .un, vs, h => by
  unfold zB zNil at h
  split at h
  ·rfl
  ·cases h
 | .fk f, vs, h => by simp [zB] at h
 | .ic, vs, h => by
  unfold zB zIf at h
  split at h
  ·exact ⟨_, rfl, rfl⟩
  ·cases h
 | .fv, vs, h => by
  unfold zB zFn at h
  split at h
  ·rfl
  ·cases h
 | .tr a b, vs, h => by
  unfold zB zPtr at h
  split at h
  ·exact ⟨_, rfl, rfl⟩
  ·cases h
def tdOf (P : Program) (t : Nat) : Option TD :=
 match P.info? t, P.underlying t with
 | some i, some d => match i.zero with
  | some z => if (Nat.beq z.cells.toList.length i.size && z.cells.toList.all Value.oneCell' && eqBB (isAgV z) (tkOf d).agg) = true then
    some ⟨tkOf d, i.size, i.bytes, z.cells.toList.map avc, match tyOf P 16 t with
     | some ty => if (Nat.beq ty.size i.size && zB ty z.cells.toList) = true then some ty else none
     | none => none, (match d with
      | .struct fields => (fields.toList.all fun f => f.name != "_") && !P.stoodInHeld t
      | _ => true) && !P.eqGuardType P.depth t⟩ else none
  | none => none
 | _, _ => none
theorem tdOf_ok {P : Program} {t : Nat} {td : TD} (h : tdOf P t = some td) : InfoOK P t td := by
 unfold tdOf at h
 split at h
 ·rename_i i d hi hd
  split at h
  ·rename_i z hz
   split at h
   ·rename_i hc
    simp only [Bool.and_eq_true] at hc
    injection h with h
    subst h
    refine ⟨⟨i, z, hi, rfl, rfl, hz, fun w ok ι => ?_, fun u hu => List.all_eq_true.1 hc.1.2 u hu, fun ty hty => ?_⟩, ?_, ?_, fun i' z' q1 q2 => ?_, fun q => ?_⟩
    ·generalize z.cells.toList = vs
     induction vs with
     | nil => exact z0b.2 rfl
     | cons v r ih => exact z0a.2 ⟨v, r, rfl, avc_rel v, ih⟩
    ·simp only at hty
     split at hty
     ·split at hty
      ·rename_i hb
       injection hty with hty
       subst hty
       simp only [Bool.and_eq_true] at hb
       exact ⟨Nat.eq_of_beq_eq_true hb.1, fun w ok => zB_sound _ _ hb.2⟩
      ·cases hty
     ·cases hty
    ·cases d <;> first | exact und_if ⟨_, hd⟩ | (simp only [tkOf, UndOK]; first | exact hd | exact ⟨_, hd, rfl⟩)
    ·simp only [List.length_map]
     exact Nat.eq_of_beq_eq_true hc.1.1
    ·rw [hi] at q1
     injection q1 with q1
     subst q1
     rw [hz] at q2
     injection q2 with q2
     subst q2
     exact z1t hc.2
    ·rw [Bool.and_eq_true, Bool.not_eq_true'] at q
     refine ⟨fun fields hf => ?_, q.2⟩
     rw [hd] at hf
     injection hf with hf
     subst hf
     have := q.1
     simpa using this
   ·cases h
  ·cases h
 ·cases h
def tabOf : List (Nat × TD) → Tab
 | [], _ => none
 | (k, td) :: r, t => if Nat.beq k t = true then some td else tabOf r t
theorem tabOf_ok {P : Program} : ∀ {l : List (Nat × TD)}, l.map (fun p => tdOf P p.1) = l.map (fun p => some p.2) → z0n P (tabOf l)
 | [], _, t, td, h => by cases h
 | (k, d) :: r, he, t, td, h => by
  simp only [List.map_cons, List.cons.injEq] at he
  simp only [tabOf] at h
  split at h
  ·rename_i hk
   have hk := Nat.eq_of_beq_eq_true hk
   subst hk
   injection h with h
   subst h
   exact tdOf_ok he.1
  ·exact tabOf_ok he.2 t td h
end Go.Proofs.Rf
namespace Go.Proofs.Rf
open Go Go.RowKit
def bodyOf (f : Func) : Code := match f.body with
 | some c => c
 | none => .skip
def z6T (r : Nat) : Code → Option Code
 | .seq a b => match z6T r a with
  | some c => some c
  | none => z6T r b
 | .cond _ a b => match z6T r a with
  | some c => some c
  | none => z6T r b
 | .block _ c => z6T r c
 | .scope c => z6T r c
 | .loop c => if Nat.beq (z1Q c) r = true then some c else z6T r c
 | .rangeFunc _ _ a b => match z6T r a with
  | some c => some c
  | none => z6T r b
 | _ => none
def z0M (f : Func) (r : Nat) : Code := match z6T r (bodyOf f) with
 | some c => c
 | none => .skip
def lookL.{u} {α : Type u} : List (Nat × α) → Nat → Option α
 | [], _ => none
 | (k, a) :: r, t => if Nat.beq k t = true then some a else lookL r t
noncomputable def z1b (TT : Tab) (Δ : List (Nat × z0G)) (Λ : List (Nat × z0Y)) (f : Func) (ps : List SV) (rsh : Shape) (x : SV.denL ps) : Option rsh.den :=
 runF TT (lookL Δ) (upTo f.ntmps) (lookL Λ) (bodyOf f) f.results.toList ps rsh x
noncomputable def z1w (TT : Tab) (Δ : List (Nat × z0G)) (Λ : List (Nat × z0Y)) (ok : Nat → Bool) (f : Func) (r : Nat) (head : Shape) (ways : List Way) (x : head.den) : Option (head.den ⊕ denX ways) :=
 stepL TT (lookL Δ) ok (lookL Λ) head ways (z0M f r) x
def z2h : Code → List Code
 | .seq a b => z2h a ++ z2h b
 | .cond _ a b => z2h a ++ z2h b
 | .block _ c => z2h c
 | .scope c => z2h c
 | .loop c => [.loop c]
 | .rangeFunc g ps asg body => [.rangeFunc g ps asg body]
 | _ => []
def z5Y : Code → Nat
 | .loop c => z1Q c
 | .rangeFunc _ _ asg _ => z1Q asg
 | _ => 0
theorem lookL_mem.{u} {α : Type u} {k : Nat} {a : α} : ∀ {l : List (Nat × α)}, lookL l k = some a → (k, a) ∈ l
 | [], h => by cases h
 | (j, b) :: r, h => by
  simp only [lookL] at h
  split at h
  ·rename_i hj
   injection h with h
   rw [Nat.eq_of_beq_eq_true hj, h]
   exact List.mem_cons_self ..
  ·exact List.mem_cons_of_mem _ (lookL_mem h)
def LoopAt (P : Program) (ok : Nat → Bool) (inn : Bool) (l : z0Y) (c : Code) : Prop := ∀ n : z0L, n.ok = ok → ∀ ρ, (inn = true ∨ (ρ = none ∧ n.marks = true)) → CodeOK P n ρ l c
def z6D (P : Program) (ok : Nat → Bool) (inn : Bool) (Λ : List (Nat × z0Y)) (c : Code) : Prop := ∀ n : z0L, n.ok = ok → ∀ ρ, (inn = true ∨ (ρ = none ∧ n.marks = true)) → LoopsIn P n ρ (lookL Λ) c
theorem z1C {P : Program} {n : z0L} {ρ : Option Nat} {Λ : Nat → Option z0Y} : ∀ (c : Code), (∀ d ∈ z2h c, ∀ l, Λ (z5Y d) = some l → CodeOK P n ρ l d) → LoopsIn P n ρ Λ c
 | .seq a b, h => ⟨z1C a fun d hd => h d (List.mem_append_left _ hd), z1C b fun d hd => h d (List.mem_append_right _ hd)⟩
 | .cond _ a b, h => ⟨z1C a fun d hd => h d (List.mem_append_left _ hd), z1C b fun d hd => h d (List.mem_append_right _ hd)⟩
 | .block _ c, h => z1C c h
 | .scope c, h => z1C c h
 | .loop c, h => fun l hl => h (.loop c) (List.mem_singleton.2 rfl) l hl
 | .rangeFunc g ps asg body, h => fun l hl => h (.rangeFunc g ps asg body) (List.mem_singleton.2 rfl) l hl
 | .skip, _ => trivial
 | .region .., _ => trivial
 | .exit _, _ => trivial
 | .label _, _ => trivial
 | .goto _, _ => trivial
 | .ret, _ => trivial
 | .refuse _, _ => trivial
def ZipOK (P : Program) (ok : Nat → Bool) (inn : Bool) : List (Nat × z0Y) → List Code → Prop
 | [], [] => True
 | p :: r, c :: cs => LoopAt P ok inn p.2 c ∧ ZipOK P ok inn r cs
 | _, _ => False
theorem zip_get {P : Program} {n : z0L} {ok : Nat → Bool} {inn : Bool} (hn : n.ok = ok) {ρ : Option Nat} (hi : inn = true ∨ (ρ = none ∧ n.marks = true)) : ∀ {Λ : List (Nat × z0Y)} {cs : List Code}, ZipOK P ok inn Λ cs → cs.map z5Y = Λ.map (fun p => p.1) → (Λ.map (fun p => p.1)).Nodup → ∀ d ∈ cs, ∀ l, lookL Λ (z5Y d) = some l → CodeOK P n ρ l d
 | [], [], _, _, _, d, hd, _, _ => by cases hd
 | [], _ :: _, h, _, _, _, _, _, _ => h.elim
 | _ :: _, [], h, _, _, _, _, _, _ => h.elim
 | (j, l0) :: r, c :: cs, h, he, hnd, d, hd, l, hl => by
  simp only [List.map_cons, List.cons.injEq] at he
  simp only [List.map_cons, List.nodup_cons] at hnd
  simp only [lookL] at hl
  rcases List.mem_cons.1 hd with rfl | hd
  ·rw [if_pos (by rw [he.1]; exact Nat.beq_refl _)] at hl
   injection hl with hl
   subst hl
   exact h.1 n hn ρ hi
  ·have hmem : z5Y d ∈ r.map (fun p => p.1) := by rw [← he.2]; exact List.mem_map_of_mem hd
   rw [if_neg (fun q => hnd.1 (by rw [Nat.eq_of_beq_eq_true q]; exact hmem))] at hl
   exact zip_get hn hi h.2 he.2 hnd.2 d hd l hl
theorem z0d {P : Program} {ok : Nat → Bool} {inn : Bool} {Λ : List (Nat × z0Y)} {c : Code} {cs : List Code} (hc : z2h c = cs) (hr : cs.map z5Y = Λ.map (fun p => p.1)) (hn : nodupN (Λ.map (fun p => p.1)) = true) (h : ZipOK P ok inn Λ cs) : z6D P ok inn Λ c :=
 fun n hok ρ hi => z1C c fun d hd => zip_get hok hi h hr (z3l hn) d (by rw [← hc]; exact hd)
def z3q (P : Program) : List (Nat × z0G) → Prop
 | [] => True
 | p :: r => AnyOK P p.1 p.2 ∧ z3q P r
theorem z3o {P : Program} {Δ : List (Nat × z0G)} (h : z3q P Δ) : z0R P (lookL Δ) := by
 intro f co hf
 have hm := lookL_mem hf
 clear hf
 induction Δ with
 | nil => cases hm
 | cons p r ih =>
  rcases List.mem_cons.1 hm with e | hm
  ·subst e; exact h.1
  ·exact ih h.2 hm
theorem z0t {P : Program} {TT : Tab} (hm : P.follows .mixedOrders = true) (hP : z0n P TT) {Δ : List (Nat × z0G)} (hΔ : z3q P Δ) {Λ : List (Nat × z0Y)} {f : Nat} {fn : Func} {ps : List SV} {rsh : Shape} {c : Code} (hF : FnOK P f fn c ps rsh) (hc : bodyOf fn = c)
  (hL : z6D P (upTo fn.ntmps) false Λ c) : z0c P f (mkCall ps rsh (z1b TT Δ Λ fn ps rsh)) := by
 subst hc
 exact mkCall_ok hm hP (z3o hΔ) hF (fun base => hL (z1d base fn.ntmps) rfl none (.inr ⟨rfl, rfl⟩)) fun x y h => h
end Go.Proofs.Rf
namespace Go.Proofs.Rf
open Go Go.RowKit
def tyTab : List (Nat × TD) := [(1, { k := TK.oth, size := 1, bytes := 8, zero := [AV.d Ty.fv (Int.ofNat 0)], ty := none, cmp := true }),
 (2, { k := TK.int Go.IntKind.i64, size := 1, bytes := 8, zero := [AV.d (Ty.int Go.IntKind.i64) (Int.ofNat 0)], ty := some (Ty.int Go.IntKind.i64), cmp := true }),
 (3, { k := TK.int Go.IntKind.i64, size := 1, bytes := 8, zero := [AV.d (Ty.int Go.IntKind.i64) (Int.ofNat 0)], ty := some (Ty.int Go.IntKind.i64), cmp := true }),
 (4, { k := TK.bool, size := 1, bytes := 1, zero := [AV.d Ty.bool false], ty := some Ty.bool, cmp := true }),
 (5, { k := TK.int Go.IntKind.u8, size := 1, bytes := 1, zero := [AV.d (Ty.int Go.IntKind.u8) (Int.ofNat 0)], ty := some (Ty.int Go.IntKind.u8), cmp := true }),
 (6, { k := TK.int Go.IntKind.u8, size := 1, bytes := 1, zero := [AV.d (Ty.int Go.IntKind.u8) (Int.ofNat 0)], ty := some (Ty.int Go.IntKind.u8), cmp := true }),
 (7, { k := TK.st [(0, 2), (1, 3), (2, 4), (3, 6)], size := 4, bytes := 24, zero := [AV.d (Ty.int Go.IntKind.i64) (Int.ofNat 0), AV.d (Ty.int Go.IntKind.i64) (Int.ofNat 0), AV.d Ty.bool false, AV.d (Ty.int Go.IntKind.u8) (Int.ofNat 0)], ty := some (Ty.pr (Ty.int Go.IntKind.i64) (Ty.pr (Ty.int Go.IntKind.i64) (Ty.pr Ty.bool (Ty.int Go.IntKind.u8)))), cmp := true }),
 (8, { k := TK.st [(0, 2), (1, 3), (2, 4), (3, 6)], size := 4, bytes := 24, zero := [AV.d (Ty.int Go.IntKind.i64) (Int.ofNat 0), AV.d (Ty.int Go.IntKind.i64) (Int.ofNat 0), AV.d Ty.bool false, AV.d (Ty.int Go.IntKind.u8) (Int.ofNat 0)], ty := some (Ty.pr (Ty.int Go.IntKind.i64) (Ty.pr (Ty.int Go.IntKind.i64) (Ty.pr Ty.bool (Ty.int Go.IntKind.u8)))), cmp := true }),
 (9, { k := TK.str, size := 1, bytes := 16, zero := [AV.d Ty.str []], ty := some Ty.str, cmp := true }),
 (10, { k := TK.str, size := 1, bytes := 16, zero := [AV.d Ty.str []], ty := some Ty.str, cmp := true }),
 (11, { k := TK.str, size := 1, bytes := 16, zero := [AV.d Ty.str []], ty := some Ty.str, cmp := true }),
 (12, { k := TK.int Go.IntKind.u64, size := 1, bytes := 8, zero := [AV.d (Ty.int Go.IntKind.u64) (Int.ofNat 0)], ty := some (Ty.int Go.IntKind.u64), cmp := true }),
 (13, { k := TK.st [(0, 9), (1, 12)], size := 2, bytes := 24, zero := [AV.d Ty.str [], AV.d (Ty.int Go.IntKind.u64) (Int.ofNat 0)], ty := some (Ty.pr Ty.str (Ty.int Go.IntKind.u64)), cmp := false }),
 (14, { k := TK.st [(0, 9), (1, 12)], size := 2, bytes := 24, zero := [AV.d Ty.str [], AV.d (Ty.int Go.IntKind.u64) (Int.ofNat 0)], ty := some (Ty.pr Ty.str (Ty.int Go.IntKind.u64)), cmp := false }),
 (15, { k := TK.pt 172, size := 1, bytes := 8, zero := [AV.np], ty := none, cmp := true }),
 (16, { k := TK.pt 175, size := 1, bytes := 8, zero := [AV.np], ty := none, cmp := true }),
 (17, { k := TK.pt 182, size := 1, bytes := 8, zero := [AV.np], ty := none, cmp := true }),
 (18, { k := TK.st [(0, 17)], size := 1, bytes := 8, zero := [AV.np], ty := none, cmp := false }),
 (19, { k := TK.st [(0, 17)], size := 1, bytes := 8, zero := [AV.np], ty := none, cmp := false }),
 (20, { k := TK.ifc, size := 1, bytes := 16, zero := [AV.d Ty.ic true], ty := some Ty.ic, cmp := true }),
 (21, { k := TK.int Go.IntKind.i32, size := 1, bytes := 4, zero := [AV.d (Ty.int Go.IntKind.i32) (Int.ofNat 0)], ty := some (Ty.int Go.IntKind.i32), cmp := true }),
 (22, { k := TK.sl 29, size := 1, bytes := 24, zero := [AV.nl], ty := some (Ty.sl (Ty.pr (Ty.int Go.IntKind.i64) (Ty.pr (Ty.int Go.IntKind.i64) (Ty.int Go.IntKind.i64)))), cmp := true }),
 (23, { k := TK.oth, size := 1, bytes := 8, zero := [AV.d Ty.fv (Int.ofNat 0)], ty := none, cmp := true }),
 (24, { k := TK.pt 90, size := 1, bytes := 8, zero := [AV.np], ty := none, cmp := true }),
 (25, { k := TK.oth, size := 1, bytes := 8, zero := [AV.d Ty.fv (Int.ofNat 0)], ty := none, cmp := true }),
 (26, { k := TK.pt 92, size := 1, bytes := 8, zero := [AV.np], ty := none, cmp := true }),
 (27, { k := TK.oth, size := 1, bytes := 8, zero := [AV.d Ty.fv (Int.ofNat 0)], ty := none, cmp := true }),
 (28, { k := TK.st [(0, 3), (1, 3), (2, 3)], size := 3, bytes := 24, zero := [AV.d (Ty.int Go.IntKind.i64) (Int.ofNat 0), AV.d (Ty.int Go.IntKind.i64) (Int.ofNat 0), AV.d (Ty.int Go.IntKind.i64) (Int.ofNat 0)], ty := some (Ty.pr (Ty.int Go.IntKind.i64) (Ty.pr (Ty.int Go.IntKind.i64) (Ty.int Go.IntKind.i64))), cmp := true }),
 (29, { k := TK.st [(0, 3), (1, 3), (2, 3)], size := 3, bytes := 24, zero := [AV.d (Ty.int Go.IntKind.i64) (Int.ofNat 0), AV.d (Ty.int Go.IntKind.i64) (Int.ofNat 0), AV.d (Ty.int Go.IntKind.i64) (Int.ofNat 0)], ty := some (Ty.pr (Ty.int Go.IntKind.i64) (Ty.pr (Ty.int Go.IntKind.i64) (Ty.int Go.IntKind.i64))), cmp := true }),
 (30, { k := TK.int Go.IntKind.i64, size := 1, bytes := 8, zero := [AV.d (Ty.int Go.IntKind.i64) (Int.ofNat 0)], ty := some (Ty.int Go.IntKind.i64), cmp := true }),
 (31, { k := TK.oth, size := 1, bytes := 8, zero := [AV.d Ty.fv (Int.ofNat 0)], ty := none, cmp := true }),
 (32, { k := TK.st [(0, 3), (1, 3)], size := 2, bytes := 16, zero := [AV.d (Ty.int Go.IntKind.i64) (Int.ofNat 0), AV.d (Ty.int Go.IntKind.i64) (Int.ofNat 0)], ty := some (Ty.pr (Ty.int Go.IntKind.i64) (Ty.int Go.IntKind.i64)), cmp := true }),
 (33, { k := TK.st [(0, 3), (1, 3)], size := 2, bytes := 16, zero := [AV.d (Ty.int Go.IntKind.i64) (Int.ofNat 0), AV.d (Ty.int Go.IntKind.i64) (Int.ofNat 0)], ty := some (Ty.pr (Ty.int Go.IntKind.i64) (Ty.int Go.IntKind.i64)), cmp := true }),
 (34, { k := TK.oth, size := 1, bytes := 8, zero := [AV.d Ty.fv (Int.ofNat 0)], ty := none, cmp := true }),
 (35, { k := TK.st [(0, 3), (1, 3)], size := 2, bytes := 16, zero := [AV.d (Ty.int Go.IntKind.i64) (Int.ofNat 0), AV.d (Ty.int Go.IntKind.i64) (Int.ofNat 0)], ty := some (Ty.pr (Ty.int Go.IntKind.i64) (Ty.int Go.IntKind.i64)), cmp := true }),
 (37, { k := TK.oth, size := 1, bytes := 8, zero := [AV.d Ty.fv (Int.ofNat 0)], ty := none, cmp := true }),
 (39, { k := TK.oth, size := 1, bytes := 8, zero := [AV.d Ty.fv (Int.ofNat 0)], ty := none, cmp := true }),
 (40, { k := TK.oth, size := 1, bytes := 8, zero := [AV.d Ty.fv (Int.ofNat 0)], ty := none, cmp := true }),
 (41, { k := TK.oth, size := 1, bytes := 8, zero := [AV.d Ty.fv (Int.ofNat 0)], ty := none, cmp := true }),
 (42, { k := TK.sl 35, size := 1, bytes := 24, zero := [AV.nl], ty := some (Ty.sl (Ty.pr (Ty.int Go.IntKind.i64) (Ty.int Go.IntKind.i64))), cmp := true }),
 (43, { k := TK.sl 33, size := 1, bytes := 24, zero := [AV.nl], ty := some (Ty.sl (Ty.pr (Ty.int Go.IntKind.i64) (Ty.int Go.IntKind.i64))), cmp := true }),
 (45, { k := TK.oth, size := 1, bytes := 8, zero := [AV.d Ty.fv (Int.ofNat 0)], ty := none, cmp := true }),
 (46, { k := TK.oth, size := 1, bytes := 8, zero := [AV.d Ty.fv (Int.ofNat 0)], ty := none, cmp := true }),
 (48, { k := TK.oth, size := 1, bytes := 8, zero := [AV.d Ty.fv (Int.ofNat 0)], ty := none, cmp := true }),
 (49, { k := TK.oth, size := 1, bytes := 8, zero := [AV.d Ty.fv (Int.ofNat 0)], ty := none, cmp := true }),
 (50, { k := TK.oth, size := 1, bytes := 8, zero := [AV.d Ty.fv (Int.ofNat 0)], ty := none, cmp := true }),
 (51, { k := TK.oth, size := 1, bytes := 8, zero := [AV.d Ty.fv (Int.ofNat 0)], ty := none, cmp := true }),
 (52, { k := TK.oth, size := 1, bytes := 8, zero := [AV.d Ty.fv (Int.ofNat 0)], ty := none, cmp := true }),
 (53, { k := TK.mp 33 3, size := 1, bytes := 8, zero := [AV.mnil], ty := none, cmp := true }),
 (54, { k := TK.oth, size := 1, bytes := 8, zero := [AV.d Ty.fv (Int.ofNat 0)], ty := none, cmp := true }),
 (55, { k := TK.sl 3, size := 1, bytes := 24, zero := [AV.nl], ty := some (Ty.sl (Ty.int Go.IntKind.i64)), cmp := true }),
 (57, { k := TK.oth, size := 1, bytes := 8, zero := [AV.d Ty.fv (Int.ofNat 0)], ty := none, cmp := true }),
 (58, { k := TK.oth, size := 1, bytes := 8, zero := [AV.d Ty.fv (Int.ofNat 0)], ty := none, cmp := true }),
 (59, { k := TK.int Go.IntKind.u64, size := 1, bytes := 8, zero := [AV.d (Ty.int Go.IntKind.u64) (Int.ofNat 0)], ty := some (Ty.int Go.IntKind.u64), cmp := true }),
 (60, { k := TK.oth, size := 1, bytes := 8, zero := [AV.d Ty.fv (Int.ofNat 0)], ty := none, cmp := true }),
 (62, { k := TK.oth, size := 1, bytes := 8, zero := [AV.d Ty.fv (Int.ofNat 0)], ty := none, cmp := true }),
 (63, { k := TK.oth, size := 1, bytes := 8, zero := [AV.d Ty.fv (Int.ofNat 0)], ty := none, cmp := true }),
 (64, { k := TK.pt 108, size := 1, bytes := 8, zero := [AV.np], ty := none, cmp := true }),
 (65, { k := TK.oth, size := 1, bytes := 8, zero := [AV.d Ty.fv (Int.ofNat 0)], ty := none, cmp := true }),
 (67, { k := TK.oth, size := 1, bytes := 8, zero := [AV.d Ty.fv (Int.ofNat 0)], ty := none, cmp := true }),
 (68, { k := TK.oth, size := 1, bytes := 8, zero := [AV.d Ty.fv (Int.ofNat 0)], ty := none, cmp := true }),
 (69, { k := TK.oth, size := 1, bytes := 8, zero := [AV.d Ty.fv (Int.ofNat 0)], ty := none, cmp := true }),
 (70, { k := TK.oth, size := 1, bytes := 8, zero := [AV.d Ty.fv (Int.ofNat 0)], ty := none, cmp := true }),
 (72, { k := TK.oth, size := 1, bytes := 8, zero := [AV.d Ty.fv (Int.ofNat 0)], ty := none, cmp := true }),
 (74, { k := TK.oth, size := 1, bytes := 8, zero := [AV.d Ty.fv (Int.ofNat 0)], ty := none, cmp := true }),
 (75, { k := TK.oth, size := 1, bytes := 8, zero := [AV.d Ty.fv (Int.ofNat 0)], ty := none, cmp := true }),
 (76, { k := TK.pt 125, size := 1, bytes := 8, zero := [AV.np], ty := none, cmp := true }),
 (77, { k := TK.oth, size := 1, bytes := 8, zero := [AV.d Ty.fv (Int.ofNat 0)], ty := none, cmp := true }),
 (79, { k := TK.oth, size := 1, bytes := 8, zero := [AV.d Ty.fv (Int.ofNat 0)], ty := none, cmp := true }),
 (80, { k := TK.oth, size := 1, bytes := 8, zero := [AV.d Ty.fv (Int.ofNat 0)], ty := none, cmp := true }),
 (81, { k := TK.oth, size := 1, bytes := 8, zero := [AV.d Ty.fv (Int.ofNat 0)], ty := none, cmp := true }),
 (83, { k := TK.oth, size := 1, bytes := 8, zero := [AV.d Ty.fv (Int.ofNat 0)], ty := none, cmp := true }),
 (84, { k := TK.oth, size := 1, bytes := 8, zero := [AV.d Ty.fv (Int.ofNat 0)], ty := none, cmp := true }),
 (86, { k := TK.oth, size := 1, bytes := 8, zero := [AV.d Ty.fv (Int.ofNat 0)], ty := none, cmp := true }),
 (87, { k := TK.oth, size := 1, bytes := 8, zero := [AV.d Ty.fv (Int.ofNat 0)], ty := none, cmp := true }),
 (88, { k := TK.sl 96, size := 1, bytes := 24, zero := [AV.nl], ty := some (Ty.sl (Ty.pr (Ty.pr (Ty.int Go.IntKind.i64) (Ty.int Go.IntKind.i64)) (Ty.int Go.IntKind.i64))), cmp := true }),
 (89, { k := TK.st [(0, 88), (1, 3)], size := 2, bytes := 32, zero := [AV.nl, AV.d (Ty.int Go.IntKind.i64) (Int.ofNat 0)], ty := some (Ty.pr (Ty.sl (Ty.pr (Ty.pr (Ty.int Go.IntKind.i64) (Ty.int Go.IntKind.i64)) (Ty.int Go.IntKind.i64))) (Ty.int Go.IntKind.i64)), cmp := true }),
 (90, { k := TK.st [(0, 88), (1, 3)], size := 2, bytes := 32, zero := [AV.nl, AV.d (Ty.int Go.IntKind.i64) (Int.ofNat 0)], ty := some (Ty.pr (Ty.sl (Ty.pr (Ty.pr (Ty.int Go.IntKind.i64) (Ty.int Go.IntKind.i64)) (Ty.int Go.IntKind.i64))) (Ty.int Go.IntKind.i64)), cmp := true }),
 (91, { k := TK.st [(0, 42)], size := 1, bytes := 24, zero := [AV.nl], ty := some (Ty.sl (Ty.pr (Ty.int Go.IntKind.i64) (Ty.int Go.IntKind.i64))), cmp := true }),
 (92, { k := TK.st [(0, 42)], size := 1, bytes := 24, zero := [AV.nl], ty := some (Ty.sl (Ty.pr (Ty.int Go.IntKind.i64) (Ty.int Go.IntKind.i64))), cmp := true }),
 (93, { k := TK.oth, size := 1, bytes := 8, zero := [AV.d Ty.fv (Int.ofNat 0)], ty := none, cmp := true }),
 (94, { k := TK.oth, size := 1, bytes := 8, zero := [AV.d Ty.fv (Int.ofNat 0)], ty := none, cmp := true }),
 (95, { k := TK.st [(0, 33), (2, 3)], size := 3, bytes := 24, zero := [AV.d (Ty.int Go.IntKind.i64) (Int.ofNat 0), AV.d (Ty.int Go.IntKind.i64) (Int.ofNat 0), AV.d (Ty.int Go.IntKind.i64) (Int.ofNat 0)], ty := some (Ty.pr (Ty.pr (Ty.int Go.IntKind.i64) (Ty.int Go.IntKind.i64)) (Ty.int Go.IntKind.i64)), cmp := true }),
 (96, { k := TK.st [(0, 33), (2, 3)], size := 3, bytes := 24, zero := [AV.d (Ty.int Go.IntKind.i64) (Int.ofNat 0), AV.d (Ty.int Go.IntKind.i64) (Int.ofNat 0), AV.d (Ty.int Go.IntKind.i64) (Int.ofNat 0)], ty := some (Ty.pr (Ty.pr (Ty.int Go.IntKind.i64) (Ty.int Go.IntKind.i64)) (Ty.int Go.IntKind.i64)), cmp := true }),
 (97, { k := TK.oth, size := 1, bytes := 8, zero := [AV.d Ty.fv (Int.ofNat 0)], ty := none, cmp := true }),
 (98, { k := TK.oth, size := 1, bytes := 8, zero := [AV.d Ty.fv (Int.ofNat 0)], ty := none, cmp := true }),
 (99, { k := TK.oth, size := 1, bytes := 8, zero := [AV.d Ty.fv (Int.ofNat 0)], ty := none, cmp := true }),
 (100, { k := TK.oth, size := 1, bytes := 8, zero := [AV.d Ty.fv (Int.ofNat 0)], ty := none, cmp := true }),
 (101, { k := TK.oth, size := 1, bytes := 8, zero := [AV.d Ty.fv (Int.ofNat 0)], ty := none, cmp := true }),
 (102, { k := TK.oth, size := 1, bytes := 8, zero := [AV.d Ty.fv (Int.ofNat 0)], ty := none, cmp := true }),
 (103, { k := TK.int Go.IntKind.u64, size := 1, bytes := 8, zero := [AV.d (Ty.int Go.IntKind.u64) (Int.ofNat 0)], ty := some (Ty.int Go.IntKind.u64), cmp := true }),
 (104, { k := TK.oth, size := 1, bytes := 8, zero := [AV.d Ty.fv (Int.ofNat 0)], ty := none, cmp := true }),
 (105, { k := TK.mp 3 3, size := 1, bytes := 8, zero := [AV.mnil], ty := none, cmp := true }),
 (106, { k := TK.pt 114, size := 1, bytes := 8, zero := [AV.np], ty := some (Ty.tr (Ty.pr (Ty.int Go.IntKind.i64) (Ty.int Go.IntKind.u64)) (Ty.int Go.IntKind.i64)), cmp := true }),
 (107, { k := TK.st [(0, 106), (1, 3), (2, 105)], size := 3, bytes := 24, zero := [AV.np, AV.d (Ty.int Go.IntKind.i64) (Int.ofNat 0), AV.mnil], ty := none, cmp := true }),
 (108, { k := TK.st [(0, 106), (1, 3), (2, 105)], size := 3, bytes := 24, zero := [AV.np, AV.d (Ty.int Go.IntKind.i64) (Int.ofNat 0), AV.mnil], ty := none, cmp := true }),
 (111, { k := TK.oth, size := 1, bytes := 8, zero := [AV.d Ty.fv (Int.ofNat 0)], ty := none, cmp := true }),
 (112, { k := TK.ar 2 106, size := 2, bytes := 16, zero := [AV.np, AV.np], ty := some (Ty.pr (Ty.tr (Ty.pr (Ty.int Go.IntKind.i64) (Ty.int Go.IntKind.u64)) (Ty.int Go.IntKind.i64)) (Ty.tr (Ty.pr (Ty.int Go.IntKind.i64) (Ty.int Go.IntKind.u64)) (Ty.int Go.IntKind.i64))), cmp := true }),
 (113, { k := TK.st [(0, 3), (1, 59), (2, 112), (4, 3)], size := 5, bytes := 40, zero := [AV.d (Ty.int Go.IntKind.i64) (Int.ofNat 0), AV.d (Ty.int Go.IntKind.u64) (Int.ofNat 0), AV.np, AV.np, AV.d (Ty.int Go.IntKind.i64) (Int.ofNat 0)], ty := some (Ty.pr (Ty.int Go.IntKind.i64) (Ty.pr (Ty.int Go.IntKind.u64) (Ty.pr (Ty.pr (Ty.tr (Ty.pr (Ty.int Go.IntKind.i64) (Ty.int Go.IntKind.u64)) (Ty.int Go.IntKind.i64)) (Ty.tr (Ty.pr (Ty.int Go.IntKind.i64) (Ty.int Go.IntKind.u64)) (Ty.int Go.IntKind.i64))) (Ty.int Go.IntKind.i64)))), cmp := true }),
 (114, { k := TK.st [(0, 3), (1, 59), (2, 112), (4, 3)], size := 5, bytes := 40, zero := [AV.d (Ty.int Go.IntKind.i64) (Int.ofNat 0), AV.d (Ty.int Go.IntKind.u64) (Int.ofNat 0), AV.np, AV.np, AV.d (Ty.int Go.IntKind.i64) (Int.ofNat 0)], ty := some (Ty.pr (Ty.int Go.IntKind.i64) (Ty.pr (Ty.int Go.IntKind.u64) (Ty.pr (Ty.pr (Ty.tr (Ty.pr (Ty.int Go.IntKind.i64) (Ty.int Go.IntKind.u64)) (Ty.int Go.IntKind.i64)) (Ty.tr (Ty.pr (Ty.int Go.IntKind.i64) (Ty.int Go.IntKind.u64)) (Ty.int Go.IntKind.i64))) (Ty.int Go.IntKind.i64)))), cmp := true }),
 (115, { k := TK.oth, size := 1, bytes := 8, zero := [AV.d Ty.fv (Int.ofNat 0)], ty := none, cmp := true }),
 (116, { k := TK.pt 119, size := 1, bytes := 8, zero := [AV.np], ty := none, cmp := true }),
 (117, { k := TK.sl 5, size := 1, bytes := 24, zero := [AV.nl], ty := some (Ty.sl (Ty.int Go.IntKind.u8)), cmp := true }),
 (118, { k := TK.st [(0, 116), (1, 117)], size := 2, bytes := 32, zero := [AV.np, AV.nl], ty := none, cmp := true }),
 (119, { k := TK.st [(0, 116), (1, 117)], size := 2, bytes := 32, zero := [AV.np, AV.nl], ty := none, cmp := true }),
 (120, { k := TK.oth, size := 1, bytes := 8, zero := [AV.d Ty.fv (Int.ofNat 0)], ty := none, cmp := true }),
 (121, { k := TK.oth, size := 1, bytes := 8, zero := [AV.d Ty.fv (Int.ofNat 0)], ty := none, cmp := true }),
 (122, { k := TK.oth, size := 1, bytes := 8, zero := [AV.d Ty.fv (Int.ofNat 0)], ty := none, cmp := true }),
 (123, { k := TK.oth, size := 1, bytes := 8, zero := [AV.d Ty.fv (Int.ofNat 0)], ty := none, cmp := true }),
 (124, { k := TK.st [(0, 3), (1, 42)], size := 2, bytes := 32, zero := [AV.d (Ty.int Go.IntKind.i64) (Int.ofNat 0), AV.nl], ty := some (Ty.pr (Ty.int Go.IntKind.i64) (Ty.sl (Ty.pr (Ty.int Go.IntKind.i64) (Ty.int Go.IntKind.i64)))), cmp := true }),
 (125, { k := TK.st [(0, 3), (1, 42)], size := 2, bytes := 32, zero := [AV.d (Ty.int Go.IntKind.i64) (Int.ofNat 0), AV.nl], ty := some (Ty.pr (Ty.int Go.IntKind.i64) (Ty.sl (Ty.pr (Ty.int Go.IntKind.i64) (Ty.int Go.IntKind.i64)))), cmp := true }),
 (126, { k := TK.oth, size := 1, bytes := 8, zero := [AV.d Ty.fv (Int.ofNat 0)], ty := none, cmp := true }),
 (127, { k := TK.oth, size := 1, bytes := 8, zero := [AV.d Ty.fv (Int.ofNat 0)], ty := none, cmp := true }),
 (128, { k := TK.oth, size := 1, bytes := 8, zero := [AV.d Ty.fv (Int.ofNat 0)], ty := none, cmp := true }),
 (129, { k := TK.oth, size := 1, bytes := 8, zero := [AV.d Ty.fv (Int.ofNat 0)], ty := none, cmp := true }),
 (130, { k := TK.oth, size := 1, bytes := 8, zero := [AV.d Ty.fv (Int.ofNat 0)], ty := none, cmp := true }),
 (131, { k := TK.sl 30, size := 1, bytes := 24, zero := [AV.nl], ty := some (Ty.sl (Ty.int Go.IntKind.i64)), cmp := true }),
 (132, { k := TK.oth, size := 1, bytes := 8, zero := [AV.d Ty.fv (Int.ofNat 0)], ty := none, cmp := true }),
 (133, { k := TK.st [(0, 132)], size := 1, bytes := 8, zero := [AV.d Ty.fv (Int.ofNat 0)], ty := none, cmp := true }),
 (134, { k := TK.ar 2 133, size := 2, bytes := 16, zero := [AV.d Ty.fv (Int.ofNat 0), AV.d Ty.fv (Int.ofNat 0)], ty := none, cmp := true }),
 (135, { k := TK.oth, size := 1, bytes := 8, zero := [AV.d Ty.fv (Int.ofNat 0)], ty := none, cmp := true }),
 (136, { k := TK.ifc, size := 1, bytes := 16, zero := [AV.d Ty.ic true], ty := some Ty.ic, cmp := false }),
 (137, { k := TK.ifc, size := 1, bytes := 16, zero := [AV.d Ty.ic true], ty := some Ty.ic, cmp := false }),
 (138, { k := TK.oth, size := 1, bytes := 8, zero := [AV.d Ty.fv (Int.ofNat 0)], ty := none, cmp := true }),
 (140, { k := TK.oth, size := 1, bytes := 8, zero := [AV.d Ty.fv (Int.ofNat 0)], ty := none, cmp := true }),
 (141, { k := TK.oth, size := 1, bytes := 8, zero := [AV.d Ty.fv (Int.ofNat 0)], ty := none, cmp := true }),
 (142, { k := TK.pt 5, size := 1, bytes := 8, zero := [AV.np], ty := none, cmp := true }),
 (143, { k := TK.sl 64, size := 1, bytes := 24, zero := [AV.nl], ty := none, cmp := true }),
 (144, { k := TK.oth, size := 1, bytes := 8, zero := [AV.d Ty.fv (Int.ofNat 0)], ty := none, cmp := true }),
 (145, { k := TK.oth, size := 1, bytes := 8, zero := [AV.d Ty.fv (Int.ofNat 0)], ty := none, cmp := true }),
 (146, { k := TK.oth, size := 1, bytes := 8, zero := [AV.d Ty.fv (Int.ofNat 0)], ty := none, cmp := true }),
 (147, { k := TK.oth, size := 1, bytes := 8, zero := [AV.d Ty.fv (Int.ofNat 0)], ty := none, cmp := true }),
 (148, { k := TK.oth, size := 1, bytes := 8, zero := [AV.d Ty.fv (Int.ofNat 0)], ty := none, cmp := true }),
 (149, { k := TK.oth, size := 1, bytes := 8, zero := [AV.d Ty.fv (Int.ofNat 0)], ty := none, cmp := true }),
 (150, { k := TK.oth, size := 1, bytes := 8, zero := [AV.d Ty.fv (Int.ofNat 0)], ty := none, cmp := true }),
 (151, { k := TK.oth, size := 1, bytes := 8, zero := [AV.d Ty.fv (Int.ofNat 0)], ty := none, cmp := true }),
 (152, { k := TK.oth, size := 1, bytes := 8, zero := [AV.d Ty.fv (Int.ofNat 0)], ty := none, cmp := true }),
 (153, { k := TK.up, size := 1, bytes := 8, zero := [AV.np], ty := none, cmp := true }),
 (154, { k := TK.oth, size := 1, bytes := 8, zero := [AV.d Ty.fv (Int.ofNat 0)], ty := none, cmp := true }),
 (155, { k := TK.oth, size := 1, bytes := 8, zero := [AV.d Ty.fv (Int.ofNat 0)], ty := none, cmp := true }),
 (156, { k := TK.oth, size := 1, bytes := 8, zero := [AV.d Ty.fv (Int.ofNat 0)], ty := none, cmp := true }),
 (157, { k := TK.oth, size := 1, bytes := 8, zero := [AV.d Ty.fv (Int.ofNat 0)], ty := none, cmp := true }),
 (158, { k := TK.int Go.IntKind.u32, size := 1, bytes := 4, zero := [AV.d (Ty.int Go.IntKind.u32) (Int.ofNat 0)], ty := some (Ty.int Go.IntKind.u32), cmp := true }),
 (159, { k := TK.ar 24 5, size := 24, bytes := 24, zero := [AV.d (Ty.int Go.IntKind.u8) (Int.ofNat 0), AV.d (Ty.int Go.IntKind.u8) (Int.ofNat 0), AV.d (Ty.int Go.IntKind.u8) (Int.ofNat 0), AV.d (Ty.int Go.IntKind.u8) (Int.ofNat 0), AV.d (Ty.int Go.IntKind.u8) (Int.ofNat 0), AV.d (Ty.int Go.IntKind.u8) (Int.ofNat 0), AV.d (Ty.int Go.IntKind.u8) (Int.ofNat 0), AV.d (Ty.int Go.IntKind.u8) (Int.ofNat 0), AV.d (Ty.int Go.IntKind.u8) (Int.ofNat 0), AV.d (Ty.int Go.IntKind.u8) (Int.ofNat 0), AV.d (Ty.int Go.IntKind.u8) (Int.ofNat 0), AV.d (Ty.int Go.IntKind.u8) (Int.ofNat 0), AV.d (Ty.int Go.IntKind.u8) (Int.ofNat 0), AV.d (Ty.int Go.IntKind.u8) (Int.ofNat 0), AV.d (Ty.int Go.IntKind.u8) (Int.ofNat 0), AV.d (Ty.int Go.IntKind.u8) (Int.ofNat 0), AV.d (Ty.int Go.IntKind.u8) (Int.ofNat 0), AV.d (Ty.int Go.IntKind.u8) (Int.ofNat 0), AV.d (Ty.int Go.IntKind.u8) (Int.ofNat 0), AV.d (Ty.int Go.IntKind.u8) (Int.ofNat 0), AV.d (Ty.int Go.IntKind.u8) (Int.ofNat 0), AV.d (Ty.int Go.IntKind.u8) (Int.ofNat 0), AV.d (Ty.int Go.IntKind.u8) (Int.ofNat 0), AV.d (Ty.int Go.IntKind.u8) (Int.ofNat 0)], ty := some (Ty.pr (Ty.int Go.IntKind.u8) (Ty.pr (Ty.int Go.IntKind.u8) (Ty.pr (Ty.int Go.IntKind.u8) (Ty.pr (Ty.int Go.IntKind.u8) (Ty.pr (Ty.int Go.IntKind.u8) (Ty.pr (Ty.int Go.IntKind.u8) (Ty.pr (Ty.int Go.IntKind.u8) (Ty.pr (Ty.int Go.IntKind.u8) (Ty.pr (Ty.int Go.IntKind.u8) (Ty.pr (Ty.int Go.IntKind.u8) (Ty.pr (Ty.int Go.IntKind.u8) (Ty.pr (Ty.int Go.IntKind.u8) (Ty.pr (Ty.int Go.IntKind.u8) (Ty.pr (Ty.int Go.IntKind.u8) (Ty.pr (Ty.int Go.IntKind.u8) (Ty.pr (Ty.int Go.IntKind.u8) (Ty.pr (Ty.int Go.IntKind.u8) (Ty.pr (Ty.int Go.IntKind.u8) (Ty.pr (Ty.int Go.IntKind.u8) (Ty.pr (Ty.int Go.IntKind.u8) (Ty.pr (Ty.int Go.IntKind.u8) (Ty.pr (Ty.int Go.IntKind.u8) (Ty.pr (Ty.int Go.IntKind.u8) (Ty.int Go.IntKind.u8)))))))))))))))))))))))), cmp := true }),
 (160, { k := TK.oth, size := 1, bytes := 8, zero := [AV.d Ty.fv (Int.ofNat 0)], ty := none, cmp := true }),
 (161, { k := TK.oth, size := 1, bytes := 8, zero := [AV.d Ty.fv (Int.ofNat 0)], ty := none, cmp := true }),
 (163, { k := TK.oth, size := 1, bytes := 8, zero := [AV.d Ty.fv (Int.ofNat 0)], ty := none, cmp := true }),
 (164, { k := TK.oth, size := 1, bytes := 8, zero := [AV.d Ty.fv (Int.ofNat 0)], ty := none, cmp := true }),
 (165, { k := TK.ar 20 59, size := 20, bytes := 160, zero := [AV.d (Ty.int Go.IntKind.u64) (Int.ofNat 0), AV.d (Ty.int Go.IntKind.u64) (Int.ofNat 0), AV.d (Ty.int Go.IntKind.u64) (Int.ofNat 0), AV.d (Ty.int Go.IntKind.u64) (Int.ofNat 0), AV.d (Ty.int Go.IntKind.u64) (Int.ofNat 0), AV.d (Ty.int Go.IntKind.u64) (Int.ofNat 0), AV.d (Ty.int Go.IntKind.u64) (Int.ofNat 0), AV.d (Ty.int Go.IntKind.u64) (Int.ofNat 0), AV.d (Ty.int Go.IntKind.u64) (Int.ofNat 0), AV.d (Ty.int Go.IntKind.u64) (Int.ofNat 0), AV.d (Ty.int Go.IntKind.u64) (Int.ofNat 0), AV.d (Ty.int Go.IntKind.u64) (Int.ofNat 0), AV.d (Ty.int Go.IntKind.u64) (Int.ofNat 0), AV.d (Ty.int Go.IntKind.u64) (Int.ofNat 0), AV.d (Ty.int Go.IntKind.u64) (Int.ofNat 0), AV.d (Ty.int Go.IntKind.u64) (Int.ofNat 0), AV.d (Ty.int Go.IntKind.u64) (Int.ofNat 0), AV.d (Ty.int Go.IntKind.u64) (Int.ofNat 0), AV.d (Ty.int Go.IntKind.u64) (Int.ofNat 0), AV.d (Ty.int Go.IntKind.u64) (Int.ofNat 0)], ty := some (Ty.pr (Ty.int Go.IntKind.u64) (Ty.pr (Ty.int Go.IntKind.u64) (Ty.pr (Ty.int Go.IntKind.u64) (Ty.pr (Ty.int Go.IntKind.u64) (Ty.pr (Ty.int Go.IntKind.u64) (Ty.pr (Ty.int Go.IntKind.u64) (Ty.pr (Ty.int Go.IntKind.u64) (Ty.pr (Ty.int Go.IntKind.u64) (Ty.pr (Ty.int Go.IntKind.u64) (Ty.pr (Ty.int Go.IntKind.u64) (Ty.pr (Ty.int Go.IntKind.u64) (Ty.pr (Ty.int Go.IntKind.u64) (Ty.pr (Ty.int Go.IntKind.u64) (Ty.pr (Ty.int Go.IntKind.u64) (Ty.pr (Ty.int Go.IntKind.u64) (Ty.pr (Ty.int Go.IntKind.u64) (Ty.pr (Ty.int Go.IntKind.u64) (Ty.pr (Ty.int Go.IntKind.u64) (Ty.pr (Ty.int Go.IntKind.u64) (Ty.int Go.IntKind.u64)))))))))))))))))))), cmp := true }),
 (166, { k := TK.ar 65 5, size := 65, bytes := 65, zero := [AV.d (Ty.int Go.IntKind.u8) (Int.ofNat 0), AV.d (Ty.int Go.IntKind.u8) (Int.ofNat 0), AV.d (Ty.int Go.IntKind.u8) (Int.ofNat 0), AV.d (Ty.int Go.IntKind.u8) (Int.ofNat 0), AV.d (Ty.int Go.IntKind.u8) (Int.ofNat 0), AV.d (Ty.int Go.IntKind.u8) (Int.ofNat 0), AV.d (Ty.int Go.IntKind.u8) (Int.ofNat 0), AV.d (Ty.int Go.IntKind.u8) (Int.ofNat 0), AV.d (Ty.int Go.IntKind.u8) (Int.ofNat 0), AV.d (Ty.int Go.IntKind.u8) (Int.ofNat 0), AV.d (Ty.int Go.IntKind.u8) (Int.ofNat 0), AV.d (Ty.int Go.IntKind.u8) (Int.ofNat 0), AV.d (Ty.int Go.IntKind.u8) (Int.ofNat 0), AV.d (Ty.int Go.IntKind.u8) (Int.ofNat 0), AV.d (Ty.int Go.IntKind.u8) (Int.ofNat 0), AV.d (Ty.int Go.IntKind.u8) (Int.ofNat 0), AV.d (Ty.int Go.IntKind.u8) (Int.ofNat 0), AV.d (Ty.int Go.IntKind.u8) (Int.ofNat 0), AV.d (Ty.int Go.IntKind.u8) (Int.ofNat 0), AV.d (Ty.int Go.IntKind.u8) (Int.ofNat 0), AV.d (Ty.int Go.IntKind.u8) (Int.ofNat 0), AV.d (Ty.int Go.IntKind.u8) (Int.ofNat 0), AV.d (Ty.int Go.IntKind.u8) (Int.ofNat 0), AV.d (Ty.int Go.IntKind.u8) (Int.ofNat 0), AV.d (Ty.int Go.IntKind.u8) (Int.ofNat 0), AV.d (Ty.int Go.IntKind.u8) (Int.ofNat 0), AV.d (Ty.int Go.IntKind.u8) (Int.ofNat 0), AV.d (Ty.int Go.IntKind.u8) (Int.ofNat 0), AV.d (Ty.int Go.IntKind.u8) (Int.ofNat 0), AV.d (Ty.int Go.IntKind.u8) (Int.ofNat 0), AV.d (Ty.int Go.IntKind.u8) (Int.ofNat 0), AV.d (Ty.int Go.IntKind.u8) (Int.ofNat 0), AV.d (Ty.int Go.IntKind.u8) (Int.ofNat 0), AV.d (Ty.int Go.IntKind.u8) (Int.ofNat 0), AV.d (Ty.int Go.IntKind.u8) (Int.ofNat 0), AV.d (Ty.int Go.IntKind.u8) (Int.ofNat 0), AV.d (Ty.int Go.IntKind.u8) (Int.ofNat 0), AV.d (Ty.int Go.IntKind.u8) (Int.ofNat 0), AV.d (Ty.int Go.IntKind.u8) (Int.ofNat 0), AV.d (Ty.int Go.IntKind.u8) (Int.ofNat 0), AV.d (Ty.int Go.IntKind.u8) (Int.ofNat 0), AV.d (Ty.int Go.IntKind.u8) (Int.ofNat 0), AV.d (Ty.int Go.IntKind.u8) (Int.ofNat 0), AV.d (Ty.int Go.IntKind.u8) (Int.ofNat 0), AV.d (Ty.int Go.IntKind.u8) (Int.ofNat 0), AV.d (Ty.int Go.IntKind.u8) (Int.ofNat 0), AV.d (Ty.int Go.IntKind.u8) (Int.ofNat 0), AV.d (Ty.int Go.IntKind.u8) (Int.ofNat 0), AV.d (Ty.int Go.IntKind.u8) (Int.ofNat 0), AV.d (Ty.int Go.IntKind.u8) (Int.ofNat 0), AV.d (Ty.int Go.IntKind.u8) (Int.ofNat 0), AV.d (Ty.int Go.IntKind.u8) (Int.ofNat 0), AV.d (Ty.int Go.IntKind.u8) (Int.ofNat 0), AV.d (Ty.int Go.IntKind.u8) (Int.ofNat 0), AV.d (Ty.int Go.IntKind.u8) (Int.ofNat 0), AV.d (Ty.int Go.IntKind.u8) (Int.ofNat 0), AV.d (Ty.int Go.IntKind.u8) (Int.ofNat 0), AV.d (Ty.int Go.IntKind.u8) (Int.ofNat 0), AV.d (Ty.int Go.IntKind.u8) (Int.ofNat 0), AV.d (Ty.int Go.IntKind.u8) (Int.ofNat 0), AV.d (Ty.int Go.IntKind.u8) (Int.ofNat 0), AV.d (Ty.int Go.IntKind.u8) (Int.ofNat 0), AV.d (Ty.int Go.IntKind.u8) (Int.ofNat 0), AV.d (Ty.int Go.IntKind.u8) (Int.ofNat 0), AV.d (Ty.int Go.IntKind.u8) (Int.ofNat 0)], ty := some (Ty.pr (Ty.int Go.IntKind.u8) (Ty.pr (Ty.int Go.IntKind.u8) (Ty.pr (Ty.int Go.IntKind.u8) (Ty.pr (Ty.int Go.IntKind.u8) (Ty.pr (Ty.int Go.IntKind.u8) (Ty.pr (Ty.int Go.IntKind.u8) (Ty.pr (Ty.int Go.IntKind.u8) (Ty.pr (Ty.int Go.IntKind.u8) (Ty.pr (Ty.int Go.IntKind.u8) (Ty.pr (Ty.int Go.IntKind.u8) (Ty.pr (Ty.int Go.IntKind.u8) (Ty.pr (Ty.int Go.IntKind.u8) (Ty.pr (Ty.int Go.IntKind.u8) (Ty.pr (Ty.int Go.IntKind.u8) (Ty.pr (Ty.int Go.IntKind.u8) (Ty.pr (Ty.int Go.IntKind.u8) (Ty.pr (Ty.int Go.IntKind.u8) (Ty.pr (Ty.int Go.IntKind.u8) (Ty.pr (Ty.int Go.IntKind.u8) (Ty.pr (Ty.int Go.IntKind.u8) (Ty.pr (Ty.int Go.IntKind.u8) (Ty.pr (Ty.int Go.IntKind.u8) (Ty.pr (Ty.int Go.IntKind.u8) (Ty.pr (Ty.int Go.IntKind.u8) (Ty.pr (Ty.int Go.IntKind.u8) (Ty.pr (Ty.int Go.IntKind.u8) (Ty.pr (Ty.int Go.IntKind.u8) (Ty.pr (Ty.int Go.IntKind.u8) (Ty.pr (Ty.int Go.IntKind.u8) (Ty.pr (Ty.int Go.IntKind.u8) (Ty.pr (Ty.int Go.IntKind.u8) (Ty.pr (Ty.int Go.IntKind.u8) (Ty.pr (Ty.int Go.IntKind.u8) (Ty.pr (Ty.int Go.IntKind.u8) (Ty.pr (Ty.int Go.IntKind.u8) (Ty.pr (Ty.int Go.IntKind.u8) (Ty.pr (Ty.int Go.IntKind.u8) (Ty.pr (Ty.int Go.IntKind.u8) (Ty.pr (Ty.int Go.IntKind.u8) (Ty.pr (Ty.int Go.IntKind.u8) (Ty.pr (Ty.int Go.IntKind.u8) (Ty.pr (Ty.int Go.IntKind.u8) (Ty.pr (Ty.int Go.IntKind.u8) (Ty.pr (Ty.int Go.IntKind.u8) (Ty.pr (Ty.int Go.IntKind.u8) (Ty.pr (Ty.int Go.IntKind.u8) (Ty.pr (Ty.int Go.IntKind.u8) (Ty.pr (Ty.int Go.IntKind.u8) (Ty.pr (Ty.int Go.IntKind.u8) (Ty.pr (Ty.int Go.IntKind.u8) (Ty.pr (Ty.int Go.IntKind.u8) (Ty.pr (Ty.int Go.IntKind.u8) (Ty.pr (Ty.int Go.IntKind.u8) (Ty.pr (Ty.int Go.IntKind.u8) (Ty.pr (Ty.int Go.IntKind.u8) (Ty.pr (Ty.int Go.IntKind.u8) (Ty.pr (Ty.int Go.IntKind.u8) (Ty.pr (Ty.int Go.IntKind.u8) (Ty.pr (Ty.int Go.IntKind.u8) (Ty.pr (Ty.int Go.IntKind.u8) (Ty.pr (Ty.int Go.IntKind.u8) (Ty.pr (Ty.int Go.IntKind.u8) (Ty.pr (Ty.int Go.IntKind.u8) (Ty.pr (Ty.int Go.IntKind.u8) (Ty.int Go.IntKind.u8))))))))))))))))))))))))))))))))))))))))))))))))))))))))))))))))), cmp := true }),
 (167, { k := TK.oth, size := 1, bytes := 8, zero := [AV.d Ty.fv (Int.ofNat 0)], ty := none, cmp := true }),
 (168, { k := TK.oth, size := 1, bytes := 8, zero := [AV.d Ty.fv (Int.ofNat 0)], ty := none, cmp := true }),
 (169, { k := TK.ar 32 5, size := 32, bytes := 32, zero := [AV.d (Ty.int Go.IntKind.u8) (Int.ofNat 0), AV.d (Ty.int Go.IntKind.u8) (Int.ofNat 0), AV.d (Ty.int Go.IntKind.u8) (Int.ofNat 0), AV.d (Ty.int Go.IntKind.u8) (Int.ofNat 0), AV.d (Ty.int Go.IntKind.u8) (Int.ofNat 0), AV.d (Ty.int Go.IntKind.u8) (Int.ofNat 0), AV.d (Ty.int Go.IntKind.u8) (Int.ofNat 0), AV.d (Ty.int Go.IntKind.u8) (Int.ofNat 0), AV.d (Ty.int Go.IntKind.u8) (Int.ofNat 0), AV.d (Ty.int Go.IntKind.u8) (Int.ofNat 0), AV.d (Ty.int Go.IntKind.u8) (Int.ofNat 0), AV.d (Ty.int Go.IntKind.u8) (Int.ofNat 0), AV.d (Ty.int Go.IntKind.u8) (Int.ofNat 0), AV.d (Ty.int Go.IntKind.u8) (Int.ofNat 0), AV.d (Ty.int Go.IntKind.u8) (Int.ofNat 0), AV.d (Ty.int Go.IntKind.u8) (Int.ofNat 0), AV.d (Ty.int Go.IntKind.u8) (Int.ofNat 0), AV.d (Ty.int Go.IntKind.u8) (Int.ofNat 0), AV.d (Ty.int Go.IntKind.u8) (Int.ofNat 0), AV.d (Ty.int Go.IntKind.u8) (Int.ofNat 0), AV.d (Ty.int Go.IntKind.u8) (Int.ofNat 0), AV.d (Ty.int Go.IntKind.u8) (Int.ofNat 0), AV.d (Ty.int Go.IntKind.u8) (Int.ofNat 0), AV.d (Ty.int Go.IntKind.u8) (Int.ofNat 0), AV.d (Ty.int Go.IntKind.u8) (Int.ofNat 0), AV.d (Ty.int Go.IntKind.u8) (Int.ofNat 0), AV.d (Ty.int Go.IntKind.u8) (Int.ofNat 0), AV.d (Ty.int Go.IntKind.u8) (Int.ofNat 0), AV.d (Ty.int Go.IntKind.u8) (Int.ofNat 0), AV.d (Ty.int Go.IntKind.u8) (Int.ofNat 0), AV.d (Ty.int Go.IntKind.u8) (Int.ofNat 0), AV.d (Ty.int Go.IntKind.u8) (Int.ofNat 0)], ty := some (Ty.pr (Ty.int Go.IntKind.u8) (Ty.pr (Ty.int Go.IntKind.u8) (Ty.pr (Ty.int Go.IntKind.u8) (Ty.pr (Ty.int Go.IntKind.u8) (Ty.pr (Ty.int Go.IntKind.u8) (Ty.pr (Ty.int Go.IntKind.u8) (Ty.pr (Ty.int Go.IntKind.u8) (Ty.pr (Ty.int Go.IntKind.u8) (Ty.pr (Ty.int Go.IntKind.u8) (Ty.pr (Ty.int Go.IntKind.u8) (Ty.pr (Ty.int Go.IntKind.u8) (Ty.pr (Ty.int Go.IntKind.u8) (Ty.pr (Ty.int Go.IntKind.u8) (Ty.pr (Ty.int Go.IntKind.u8) (Ty.pr (Ty.int Go.IntKind.u8) (Ty.pr (Ty.int Go.IntKind.u8) (Ty.pr (Ty.int Go.IntKind.u8) (Ty.pr (Ty.int Go.IntKind.u8) (Ty.pr (Ty.int Go.IntKind.u8) (Ty.pr (Ty.int Go.IntKind.u8) (Ty.pr (Ty.int Go.IntKind.u8) (Ty.pr (Ty.int Go.IntKind.u8) (Ty.pr (Ty.int Go.IntKind.u8) (Ty.pr (Ty.int Go.IntKind.u8) (Ty.pr (Ty.int Go.IntKind.u8) (Ty.pr (Ty.int Go.IntKind.u8) (Ty.pr (Ty.int Go.IntKind.u8) (Ty.pr (Ty.int Go.IntKind.u8) (Ty.pr (Ty.int Go.IntKind.u8) (Ty.pr (Ty.int Go.IntKind.u8) (Ty.pr (Ty.int Go.IntKind.u8) (Ty.int Go.IntKind.u8)))))))))))))))))))))))))))))))), cmp := true }),
 (170, { k := TK.ar 64 5, size := 64, bytes := 64, zero := [AV.d (Ty.int Go.IntKind.u8) (Int.ofNat 0), AV.d (Ty.int Go.IntKind.u8) (Int.ofNat 0), AV.d (Ty.int Go.IntKind.u8) (Int.ofNat 0), AV.d (Ty.int Go.IntKind.u8) (Int.ofNat 0), AV.d (Ty.int Go.IntKind.u8) (Int.ofNat 0), AV.d (Ty.int Go.IntKind.u8) (Int.ofNat 0), AV.d (Ty.int Go.IntKind.u8) (Int.ofNat 0), AV.d (Ty.int Go.IntKind.u8) (Int.ofNat 0), AV.d (Ty.int Go.IntKind.u8) (Int.ofNat 0), AV.d (Ty.int Go.IntKind.u8) (Int.ofNat 0), AV.d (Ty.int Go.IntKind.u8) (Int.ofNat 0), AV.d (Ty.int Go.IntKind.u8) (Int.ofNat 0), AV.d (Ty.int Go.IntKind.u8) (Int.ofNat 0), AV.d (Ty.int Go.IntKind.u8) (Int.ofNat 0), AV.d (Ty.int Go.IntKind.u8) (Int.ofNat 0), AV.d (Ty.int Go.IntKind.u8) (Int.ofNat 0), AV.d (Ty.int Go.IntKind.u8) (Int.ofNat 0), AV.d (Ty.int Go.IntKind.u8) (Int.ofNat 0), AV.d (Ty.int Go.IntKind.u8) (Int.ofNat 0), AV.d (Ty.int Go.IntKind.u8) (Int.ofNat 0), AV.d (Ty.int Go.IntKind.u8) (Int.ofNat 0), AV.d (Ty.int Go.IntKind.u8) (Int.ofNat 0), AV.d (Ty.int Go.IntKind.u8) (Int.ofNat 0), AV.d (Ty.int Go.IntKind.u8) (Int.ofNat 0), AV.d (Ty.int Go.IntKind.u8) (Int.ofNat 0), AV.d (Ty.int Go.IntKind.u8) (Int.ofNat 0), AV.d (Ty.int Go.IntKind.u8) (Int.ofNat 0), AV.d (Ty.int Go.IntKind.u8) (Int.ofNat 0), AV.d (Ty.int Go.IntKind.u8) (Int.ofNat 0), AV.d (Ty.int Go.IntKind.u8) (Int.ofNat 0), AV.d (Ty.int Go.IntKind.u8) (Int.ofNat 0), AV.d (Ty.int Go.IntKind.u8) (Int.ofNat 0), AV.d (Ty.int Go.IntKind.u8) (Int.ofNat 0), AV.d (Ty.int Go.IntKind.u8) (Int.ofNat 0), AV.d (Ty.int Go.IntKind.u8) (Int.ofNat 0), AV.d (Ty.int Go.IntKind.u8) (Int.ofNat 0), AV.d (Ty.int Go.IntKind.u8) (Int.ofNat 0), AV.d (Ty.int Go.IntKind.u8) (Int.ofNat 0), AV.d (Ty.int Go.IntKind.u8) (Int.ofNat 0), AV.d (Ty.int Go.IntKind.u8) (Int.ofNat 0), AV.d (Ty.int Go.IntKind.u8) (Int.ofNat 0), AV.d (Ty.int Go.IntKind.u8) (Int.ofNat 0), AV.d (Ty.int Go.IntKind.u8) (Int.ofNat 0), AV.d (Ty.int Go.IntKind.u8) (Int.ofNat 0), AV.d (Ty.int Go.IntKind.u8) (Int.ofNat 0), AV.d (Ty.int Go.IntKind.u8) (Int.ofNat 0), AV.d (Ty.int Go.IntKind.u8) (Int.ofNat 0), AV.d (Ty.int Go.IntKind.u8) (Int.ofNat 0), AV.d (Ty.int Go.IntKind.u8) (Int.ofNat 0), AV.d (Ty.int Go.IntKind.u8) (Int.ofNat 0), AV.d (Ty.int Go.IntKind.u8) (Int.ofNat 0), AV.d (Ty.int Go.IntKind.u8) (Int.ofNat 0), AV.d (Ty.int Go.IntKind.u8) (Int.ofNat 0), AV.d (Ty.int Go.IntKind.u8) (Int.ofNat 0), AV.d (Ty.int Go.IntKind.u8) (Int.ofNat 0), AV.d (Ty.int Go.IntKind.u8) (Int.ofNat 0), AV.d (Ty.int Go.IntKind.u8) (Int.ofNat 0), AV.d (Ty.int Go.IntKind.u8) (Int.ofNat 0), AV.d (Ty.int Go.IntKind.u8) (Int.ofNat 0), AV.d (Ty.int Go.IntKind.u8) (Int.ofNat 0), AV.d (Ty.int Go.IntKind.u8) (Int.ofNat 0), AV.d (Ty.int Go.IntKind.u8) (Int.ofNat 0), AV.d (Ty.int Go.IntKind.u8) (Int.ofNat 0), AV.d (Ty.int Go.IntKind.u8) (Int.ofNat 0)], ty := some (Ty.pr (Ty.int Go.IntKind.u8) (Ty.pr (Ty.int Go.IntKind.u8) (Ty.pr (Ty.int Go.IntKind.u8) (Ty.pr (Ty.int Go.IntKind.u8) (Ty.pr (Ty.int Go.IntKind.u8) (Ty.pr (Ty.int Go.IntKind.u8) (Ty.pr (Ty.int Go.IntKind.u8) (Ty.pr (Ty.int Go.IntKind.u8) (Ty.pr (Ty.int Go.IntKind.u8) (Ty.pr (Ty.int Go.IntKind.u8) (Ty.pr (Ty.int Go.IntKind.u8) (Ty.pr (Ty.int Go.IntKind.u8) (Ty.pr (Ty.int Go.IntKind.u8) (Ty.pr (Ty.int Go.IntKind.u8) (Ty.pr (Ty.int Go.IntKind.u8) (Ty.pr (Ty.int Go.IntKind.u8) (Ty.pr (Ty.int Go.IntKind.u8) (Ty.pr (Ty.int Go.IntKind.u8) (Ty.pr (Ty.int Go.IntKind.u8) (Ty.pr (Ty.int Go.IntKind.u8) (Ty.pr (Ty.int Go.IntKind.u8) (Ty.pr (Ty.int Go.IntKind.u8) (Ty.pr (Ty.int Go.IntKind.u8) (Ty.pr (Ty.int Go.IntKind.u8) (Ty.pr (Ty.int Go.IntKind.u8) (Ty.pr (Ty.int Go.IntKind.u8) (Ty.pr (Ty.int Go.IntKind.u8) (Ty.pr (Ty.int Go.IntKind.u8) (Ty.pr (Ty.int Go.IntKind.u8) (Ty.pr (Ty.int Go.IntKind.u8) (Ty.pr (Ty.int Go.IntKind.u8) (Ty.pr (Ty.int Go.IntKind.u8) (Ty.pr (Ty.int Go.IntKind.u8) (Ty.pr (Ty.int Go.IntKind.u8) (Ty.pr (Ty.int Go.IntKind.u8) (Ty.pr (Ty.int Go.IntKind.u8) (Ty.pr (Ty.int Go.IntKind.u8) (Ty.pr (Ty.int Go.IntKind.u8) (Ty.pr (Ty.int Go.IntKind.u8) (Ty.pr (Ty.int Go.IntKind.u8) (Ty.pr (Ty.int Go.IntKind.u8) (Ty.pr (Ty.int Go.IntKind.u8) (Ty.pr (Ty.int Go.IntKind.u8) (Ty.pr (Ty.int Go.IntKind.u8) (Ty.pr (Ty.int Go.IntKind.u8) (Ty.pr (Ty.int Go.IntKind.u8) (Ty.pr (Ty.int Go.IntKind.u8) (Ty.pr (Ty.int Go.IntKind.u8) (Ty.pr (Ty.int Go.IntKind.u8) (Ty.pr (Ty.int Go.IntKind.u8) (Ty.pr (Ty.int Go.IntKind.u8) (Ty.pr (Ty.int Go.IntKind.u8) (Ty.pr (Ty.int Go.IntKind.u8) (Ty.pr (Ty.int Go.IntKind.u8) (Ty.pr (Ty.int Go.IntKind.u8) (Ty.pr (Ty.int Go.IntKind.u8) (Ty.pr (Ty.int Go.IntKind.u8) (Ty.pr (Ty.int Go.IntKind.u8) (Ty.pr (Ty.int Go.IntKind.u8) (Ty.pr (Ty.int Go.IntKind.u8) (Ty.pr (Ty.int Go.IntKind.u8) (Ty.pr (Ty.int Go.IntKind.u8) (Ty.pr (Ty.int Go.IntKind.u8) (Ty.int Go.IntKind.u8)))))))))))))))))))))))))))))))))))))))))))))))))))))))))))))))), cmp := true }),
 (171, { k := TK.st [(0, 17), (1, 17), (2, 17), (3, 9)], size := 4, bytes := 40, zero := [AV.np, AV.np, AV.np, AV.d Ty.str []], ty := none, cmp := false }),
 (172, { k := TK.st [(0, 17), (1, 17), (2, 17), (3, 9)], size := 4, bytes := 40, zero := [AV.np, AV.np, AV.np, AV.d Ty.str []], ty := none, cmp := false }),
 (173, { k := TK.ar 0 16, size := 0, bytes := 0, zero := [], ty := none, cmp := true }),
 (174, { k := TK.st [(0, 173)], size := 0, bytes := 0, zero := [], ty := none, cmp := false }),
 (175, { k := TK.st [(0, 173)], size := 0, bytes := 0, zero := [], ty := none, cmp := false }),
 (176, { k := TK.int Go.IntKind.u8, size := 1, bytes := 1, zero := [AV.d (Ty.int Go.IntKind.u8) (Int.ofNat 0)], ty := some (Ty.int Go.IntKind.u8), cmp := true }),
 (177, { k := TK.int Go.IntKind.u8, size := 1, bytes := 1, zero := [AV.d (Ty.int Go.IntKind.u8) (Int.ofNat 0)], ty := some (Ty.int Go.IntKind.u8), cmp := true }),
 (178, { k := TK.oth, size := 1, bytes := 8, zero := [AV.d Ty.fv (Int.ofNat 0)], ty := none, cmp := true }),
 (179, { k := TK.int Go.IntKind.i32, size := 1, bytes := 4, zero := [AV.d (Ty.int Go.IntKind.i32) (Int.ofNat 0)], ty := some (Ty.int Go.IntKind.i32), cmp := true }),
 (180, { k := TK.int Go.IntKind.i32, size := 1, bytes := 4, zero := [AV.d (Ty.int Go.IntKind.i32) (Int.ofNat 0)], ty := some (Ty.int Go.IntKind.i32), cmp := true }),
 (181, { k := TK.st [(0, 12), (1, 12), (2, 158), (3, 176), (4, 5), (5, 5), (6, 177), (7, 178), (8, 142), (9, 179), (10, 180)], size := 11, bytes := 48, zero := [AV.d (Ty.int Go.IntKind.u64) (Int.ofNat 0), AV.d (Ty.int Go.IntKind.u64) (Int.ofNat 0), AV.d (Ty.int Go.IntKind.u32) (Int.ofNat 0), AV.d (Ty.int Go.IntKind.u8) (Int.ofNat 0), AV.d (Ty.int Go.IntKind.u8) (Int.ofNat 0), AV.d (Ty.int Go.IntKind.u8) (Int.ofNat 0), AV.d (Ty.int Go.IntKind.u8) (Int.ofNat 0), AV.d Ty.fv (Int.ofNat 0), AV.np, AV.d (Ty.int Go.IntKind.i32) (Int.ofNat 0), AV.d (Ty.int Go.IntKind.i32) (Int.ofNat 0)], ty := none, cmp := false }),
 (182, { k := TK.st [(0, 12), (1, 12), (2, 158), (3, 176), (4, 5), (5, 5), (6, 177), (7, 178), (8, 142), (9, 179), (10, 180)], size := 11, bytes := 48, zero := [AV.d (Ty.int Go.IntKind.u64) (Int.ofNat 0), AV.d (Ty.int Go.IntKind.u64) (Int.ofNat 0), AV.d (Ty.int Go.IntKind.u32) (Int.ofNat 0), AV.d (Ty.int Go.IntKind.u8) (Int.ofNat 0), AV.d (Ty.int Go.IntKind.u8) (Int.ofNat 0), AV.d (Ty.int Go.IntKind.u8) (Int.ofNat 0), AV.d (Ty.int Go.IntKind.u8) (Int.ofNat 0), AV.d Ty.fv (Int.ofNat 0), AV.np, AV.d (Ty.int Go.IntKind.i32) (Int.ofNat 0), AV.d (Ty.int Go.IntKind.i32) (Int.ofNat 0)], ty := none, cmp := false })]
theorem z0v : z0n Tryd.prog (tabOf tyTab) := tabOf_ok (by kernel_rfl)
end Go.Proofs.Rf
namespace Go.Proofs.Rf
open Go Go.RowKit
def asgA : List (Nat × Nat) → Act → Act
 | [], a => a
 | p :: r, a => asgA r (a.put (some p.1) (a.tmps.getD p.2 undef))
def asgT : List (Nat × Nat) → List (Nat × AV) → List (Nat × AV)
 | [], tm => tm
 | p :: r, tm => asgT r ((p.1, getT tm p.2) :: tm)
def roundSlots (n : z0L) (pins : List Nat) (a : Act) : z0L :=
 ⟨n.marks, n.base, fun d => n.ok d && !memN d pins, fun tm => n.G tm ∧ ∀ t ∈ pins, tm.getD t undef = a.tmps.getD t undef,
  fun tm d h hd => by
   rw [Bool.and_eq_true] at hd
   exact n.lt tm d h.1 hd.1,
  fun tm d v h hd => by
   rw [Bool.and_eq_true, Bool.not_eq_true'] at hd
   refine ⟨n.set tm d v h.1 hd.1, fun t ht => ?_⟩
   rw [← h.2 t ht]
   have hne : d ≠ t := by rintro rfl; rw [z1r.2 ht] at hd; cases hd.2
   rw [Array.getD_eq_getD_getElem?, Array.getD_eq_getD_getElem?, Array.getElem?_setIfInBounds_ne hne]⟩
def z1M (ok : Nat → Bool) (pins : List Nat) (d : Nat) : Bool := ok d && !memN d pins
section
variable {X keep : Nat → Prop} {w0 w : World} {ι : Nat → Option Value} {n : z0L}
structure z7t (S : Nat → Prop) (A B : World) : Prop where
 os : B.os = A.os
 tape : B.tape = A.tape
 output : B.output = A.output
 size : A.heap.size ≤ B.heap.size
 block : ∀ b, b < A.heap.size → ¬ S b → B.heap[b]? = A.heap[b]?
theorem z7t.refl (S : Nat → Prop) (A : World) : z7t S A A := ⟨rfl, rfl, rfl, Nat.le_refl _, fun _ _ _ => rfl⟩
theorem z7t.trans {S : Nat → Prop} {A B D : World} (h : z7t S A B) (k : z7t S B D) : z7t S A D :=
 ⟨k.os.trans h.os, k.tape.trans h.tape, k.output.trans h.output, Nat.le_trans h.size k.size, fun b hb hs => (k.block b (Nat.lt_of_lt_of_le hb h.size) hs).trans (h.block b hb hs)⟩
end
end Go.Proofs.Rf
namespace Go.Proofs.Rf
open Go Go.RowKit
section
variable (TT : Tab) (Δ : Nat → Option z0G) (ok : Nat → Bool) (Λ : Nat → Option z0Y)
end
section
variable {P : Program} {TT : Tab} {Δ : Nat → Option z0G}
theorem FRel.put1 {X keep : Nat → Prop} {w0 w : World} {n : z0L} {ι : Nat → Option Value} {tm : List (Nat × AV)} {C : Nat → Blk} {a : Act} (h : FRel X keep w0 n ι (getT tm) C a w) {d : Nat} (hd : n.ok d = true) {x : AV} {v : Value} (hv : RelV w (okb X w ι C) ι x v) :
  FRel X keep w0 n ι (getT ((d, x) :: tm)) C (a.put (some d) v) w := by
 rw [z2Z]
 exact h.step (fun d' hd' => by injection hd' with hd'; subst hd'; exact hd) h.h (Ext.refl _ _ _ _) hv
theorem FRel.asg {X keep : Nat → Prop} {w0 w : World} {n : z0L} {ι : Nat → Option Value} {C : Nat → Blk} : ∀ (l : List (Nat × Nat)) (tm : List (Nat × AV)) (a : Act), FRel X keep w0 n ι (getT tm) C a w → (∀ p ∈ l, n.ok p.1 = true) → FRel X keep w0 n ι (getT (asgT l tm)) C (asgA l a) w
 | [], _, _, h, _ => h
 | p :: r, _, _, h, hp => FRel.asg r _ _ (h.put1 (hp p (List.mem_cons_self ..)) (h.tm p.2)) fun q hq => hp q (List.mem_cons_of_mem _ hq)
end
end Go.Proofs.Rf
namespace Go.Proofs.Rf
open Go Go.RowKit
mutual
def SV.re (f : Nat → Nat) : (s : SV) → s.den → AV
 | .d agg t, x => avD agg t x
 | .rs b sz, p => .rs (f b) sz p.1 p.2
 | .rz b sz, p => .rs (f b) sz 0 p
 | .fn g cs, x => .fn g (SV.reL f cs x)
 | .rf b, _ => .rf (f b)
 | .pt b o, _ => .pt (f b) o
 | .ud, _ => .ud
 | .mp b, _ => .mp (f b)
 | .np, _ => .np
 | .mnil, _ => .mnil
 | .nl, _ => .nl
 | .ro b, _ => .ro (f b)
 | .fs b sz, p => .fs (f b) p.1 sz p.2.1 p.2.2
 | .ag cs, x => .ag (SV.reL f cs x)
 | .ve cs, x => .ve (SV.reL f cs x)
def SV.reL (f : Nat → Nat) : (l : List SV) → SV.denL l → List AV
 | [], _ => []
 | a :: r, x => a.re f x.1 :: SV.reL f r x.2
end
def reS (f : Nat → Nat) : (l : List (Nat × SV)) → denS l → List AV
 | [], _ => []
 | p :: r, x => p.2.re f x.1 :: reS f r x.2
def SB.re (f : Nat → Nat) : (s : SB) → s.den → Blk
 | .row t e, xs => .row t e xs true
 | .box e cs, x => .box e (SV.reL f cs x)
 | .it, _ => .dead
 | .mi _ _ _, _ => .dead
 | .map kt va vt, l => .map kt va vt l
 | .nr t t2 e ie, l => .nr t t2 e ie l
def reB (f : Nat → Nat) : (l : List SB) → denB l → List Blk
 | [], _ => []
 | a :: r, x => a.re f x.1 :: reB f r x.2
def rnB (ρ m : List Nat) (nb b : Nat) : Nat := match m[b]? with
 | some k => ρ.getD k 0
 | none => nb + (b - m.length)
def posM (k : Nat) : Nat → List Nat → Option Nat
 | _, [] => none
 | i, j :: r => if Nat.beq j k = true then some i else posM k (i + 1) r
def z5k (m : List Nat) (bs : List Blk) : Nat → List Nat → List (Nat × Blk)
 | _, [] => []
 | k, i :: r => (i, match posM k 0 m with
  | some j => getB bs j
  | none => .dead) :: z5k m bs (k + 1) r
def mkCallB (psh rsh : Shape) (m : List Nat) (np : Nat) (F : psh.den → Option rsh.den) : z0G := fun args C nb _ K =>
 if (nodupN (blkB C psh.bl 0 (blkS (getT (numT 0 args)) psh.sl [])) && Nat.beq args.length psh.sl.length) = true then
  (match takeS C (getT (numT 0 args)) (blkB C psh.bl 0 (blkS (getT (numT 0 args)) psh.sl [])) psh.sl with
  | some (x, f) => match takeB C (blkB C psh.bl 0 (blkS (getT (numT 0 args)) psh.sl [])) psh.bl (blkB C psh.bl 0 (blkS (getT (numT 0 args)) psh.sl [])) with
   | some (y, g) => if meetN (blkB C psh.bl 0 (blkS (getT (numT 0 args)) psh.sl [])) (z0J (f ++ g)) = true then none else
     (F (x, y)).bind fun z => K ⟨retV ((reS (rnB (blkB C psh.bl 0 (blkS (getT (numT 0 args)) psh.sl [])) m nb) rsh.sl z.1).drop np),
      (if rsh.flat = true then [] else f ++ g) ++ z5k m (reB (rnB (blkB C psh.bl 0 (blkS (getT (numT 0 args)) psh.sl [])) m nb) rsh.bl z.2) 0 (blkB C psh.bl 0 (blkS (getT (numT 0 args)) psh.sl [])),
      (reB (rnB (blkB C psh.bl 0 (blkS (getT (numT 0 args)) psh.sl [])) m nb) rsh.bl z.2).drop m.length⟩
   | none => none
  | none => none)
 else none
noncomputable def runFB (TT : Tab) (Δ : Nat → Option z0G) (n : Nat → Bool) (Λ : Nat → Option z0Y) (c : Code) (rvs : List ResultVar) (psh rsh : Shape) (np : Nat) (x : psh.den) : Option rsh.den :=
 evC TT Δ n Λ c (psh.put x) fun e s => match e with
  | .ex _ => none
  | .nm => (match retsOf TT s rvs with
   | some vs => rsh.take ⟨numT 0 ((z0C 0 np).map (getT s.tm) ++ vs), s.bl⟩
   | none => none)
  | .rt => (match retsOf TT s rvs with
   | some vs => rsh.take ⟨numT 0 ((z0C 0 np).map (getT s.tm) ++ vs), s.bl⟩
   | none => none)
def rootOf : SV → SV → Option (Nat × Nat)
 | .rf a, .rf b => some (a, b)
 | .pt a _, .pt b _ => some (a, b)
 | .rz a _, .rz b _ => some (a, b)
 | _, _ => none
def z4V : (l : List SB) → denB l → Nat → Option Nat
 | .row _ _ :: _, x, 0 => some x.1.length
 | _ :: r, x, k + 1 => z4V r x.2 k
 | _, _, _ => none
def keepsLen (pb rb : List SB) (y : denB pb) (z : denB rb) : Nat → List (Nat × SV) → List (Nat × SV) → Bool
 | np + 1, p :: r, p' :: r' => (match p.2, p'.2 with
  | .rz a _, .rz b _ => (match z4V pb y a, z4V rb z b with
   | some n, some n' => Nat.beq n n'
   | _, _ => false)
  | _, _ => true) && keepsLen pb rb y z np r r'
 | _, _, _ => true
theorem z7k : ∀ (l : List SB) (x : denB l) (k n : Nat), z4V l x k = some n → ∃ (t : Ty) (e : Nat) (xs : List t.den), getB (putB l x) k = .row t e xs true ∧ xs.length = n
 | [], _, k, n, h => by cases k <;> cases h
 | .row t e :: _, x, 0, n, h => by
  injection h with h
  exact ⟨t, e, x.1, rfl, h⟩
 | .box _ _ :: _, _, 0, _, h => by cases h
 | .it :: _, _, 0, _, h => by cases h
 | .map _ _ _ :: _, _, 0, _, h => by cases h
 | .mi _ _ _ :: _, _, 0, _, h => by cases h
 | a :: r, x, k + 1, n, h => by
  have h : z4V r x.2 k = some n := by cases a <;> exact h
  exact z7k r x.2 k n h
theorem z4U {X keep : Nat → Prop} {w0 w : World} {ι : Nat → Option Value} {l : List SB} {x : denB l} (h : HRel X keep w0 ι (getB (putB l x)) w) {k n : Nat} (hl : z4V l x k = some n) {A : Option Addr} {n' c : Nat} (hι : ι k = some (.slice A n' c)) : n' = n := by
 obtain ⟨t, e, xs, h1, h2⟩ := z7k l x k n hl
 have hB := h.bl k
 rw [h1] at hB
 obtain ⟨v, cs, b1, b2, _⟩ := hB
 rw [hι] at b1
 injection b1 with b1
 subst b1
 rw [← h2]
 rcases b2.2 with ⟨q, q'⟩ | ⟨g, cap, cur, q, _⟩
 ·injection q with _ q1 _
  omega
 ·injection q
theorem z5W {pb rb : List SB} {y : denB pb} {z : denB rb} : ∀ {np : Nat} {l l' : List (Nat × SV)}, keepsLen pb rb y z np l l' = true → ∀ (i t t' a b sz sz' : Nat), i < np → l[i]? = some (t, .rz a sz) → l'[i]? = some (t', .rz b sz') → ∃ n, z4V pb y a = some n ∧ z4V rb z b = some n
 | 0, _, _, _, i, _, _, _, _, _, _, hi, _, _ => by omega
 | np + 1, [], _, _, i, _, _, _, _, _, _, _, h1, _ => by simp at h1
 | np + 1, _ :: _, [], _, i, _, _, _, _, _, _, _, _, h2 => by simp at h2
 | np + 1, p :: r, p' :: r', h, i, t, t', a, b, sz, sz', hi, h1, h2 => by
  simp only [keepsLen, Bool.and_eq_true] at h
  cases i with
  | zero =>
   simp only [List.getElem?_cons_zero, Option.some.injEq] at h1 h2
   subst h1; subst h2
   have h := h.1
   simp only at h
   split at h
   ·rename_i n n' q1 q2
    have := Nat.eq_of_beq_eq_true h
    subst this
    exact ⟨n, q1, q2⟩
   ·cases h
  | succ i => exact z5W h.2 i t t' a b sz sz' (by omega) (by simpa using h1) (by simpa using h2)
def rootAt (j k : Nat) : Nat → List (Nat × SV) → List (Nat × SV) → Bool
 | 0, _, _ => false
 | np + 1, p :: r, p' :: r' => (match rootOf p'.2 p.2 with
  | some (a, b) => Nat.beq a j && Nat.beq b k
  | none => false) || rootAt j k np r r'
 | _, _, _ => false
def z5y (psh rsh : Shape) (np : Nat) : Nat → List Nat → Bool
 | _, [] => true
 | j, k :: r => rootAt j k np psh.sl rsh.sl && z5y psh rsh np (j + 1) r
section
variable {w' : World} {ok ok' : Nat → Prop} {ι2 ι'' : Nat → Option Value} {fl : Bool} {f : Nat → Nat}
mutual
theorem SV.re_rel (hok : fl = false → ∀ b, ok b → ok' b) (hι : ∀ b v, ι2 b = some v → ι'' (f b) = some v) : ∀ (sv : SV) (x : sv.den) (u : Value), (fl = true → sv.flat = true) → RelV w' ok ι2 (sv.put x) u → RelV w' ok' ι'' (sv.re f x) u
 | .d agg t, x, u, hf, h => avD_mv hok hf h
 | .rs b sz, p, u, _, h => by
  simp only [SV.put, SV.re, RelV] at h ⊢
  obtain ⟨A, n, c, A', c', h1, h2⟩ := h
  exact ⟨A, n, c, A', c', hι _ _ h1, h2⟩
 | .rz b sz, p, u, _, h => by
  simp only [SV.put, SV.re, RelV] at h ⊢
  obtain ⟨A, n, c, A', c', h1, h2⟩ := h
  exact ⟨A, n, c, A', c', hι _ _ h1, h2⟩
 | .fn g cs, x, u, hf, h => by
  simp only [SV.put, SV.re, RelV] at h ⊢
  obtain ⟨us, e, h1⟩ := h
  exact ⟨us, e, SV.z5B hok hι cs x us hf h1⟩
 | .rf b, x, u, _, h => by
  simp only [SV.put, SV.re, RelV] at h ⊢
  exact ⟨hι _ _ h.1, h.2⟩
 | .pt b o, x, u, _, h => by
  simp only [SV.put, SV.re, RelV] at h ⊢
  obtain ⟨g, h1, h2⟩ := h
  exact ⟨g, hι _ _ h1, h2⟩
 | .ud, x, u, _, h => by
  simp only [SV.put, SV.re, RelV] at h ⊢
  exact h
 | .mp b, x, u, _, h => by
  simp only [SV.put, SV.re, RelV] at h ⊢
  obtain ⟨g, h1, h2⟩ := h
  exact ⟨g, hι _ _ h1, h2⟩
 | .np, x, u, _, h => by
  simp only [SV.put, SV.re, RelV] at h ⊢
  exact h
 | .mnil, x, u, _, h => by
  simp only [SV.put, SV.re, RelV] at h ⊢
  exact h
 | .nl, x, u, _, h => by
  simp only [SV.put, SV.re, RelV] at h ⊢
  exact h
 | .ro b, x, u, _, h => by
  simp only [SV.put, SV.re, RelV] at h ⊢
  obtain ⟨arr, h1, h2⟩ := h
  exact ⟨arr, hι _ _ h1, h2⟩
 | .fs b sz, p, u, _, h => by
  simp only [SV.put, SV.re, RelV] at h ⊢
  obtain ⟨A', c', h1, h2, h3⟩ := h
  refine ⟨A', c', h1, h2, fun q => ?_⟩
  obtain ⟨arr, g, n, c, k1, k2⟩ := h3 q
  exact ⟨arr, g, n, c, hι _ _ k1, k2⟩
 | .ag cs, x, u, hf, h => by
  simp only [SV.put, SV.re, RelV] at h ⊢
  obtain ⟨us, e, h1⟩ := h
  exact ⟨us, e, SV.z5B hok hι cs x us hf h1⟩
 | .ve cs, x, u, hf, h => by
  have hfl : fl = false := by
   cases h0 : fl with
   | false => rfl
   | true => have := hf h0; simp [SV.flat] at this
  simp only [SV.put, SV.re, RelV] at h ⊢
  obtain ⟨g, o, us, e, h0, h1, h2⟩ := h
  exact ⟨g, o, us, e, hok hfl g h0, SV.z5B hok hι cs x us (fun q => by rw [hfl] at q; cases q) h1, h2⟩
theorem SV.z5B (hok : fl = false → ∀ b, ok b → ok' b) (hι : ∀ b v, ι2 b = some v → ι'' (f b) = some v) : ∀ (l : List SV) (x : SV.denL l) (us : List Value), (fl = true → SV.flatL l = true) → RelL w' ok ι2 (SV.putL l x) us → RelL w' ok' ι'' (SV.reL f l x) us
 | [], x, us, _, h => by simpa only [SV.putL, SV.reL, RelL] using h
 | a :: r, x, us, hf, h => by
  simp only [SV.putL, SV.reL, RelL] at h ⊢
  obtain ⟨v, vr, e, h1, h2⟩ := h
  have hf' : fl = true → a.flat = true ∧ SV.flatL r = true := fun q => by
   have := hf q
   simpa only [SV.flatL, Bool.and_eq_true] using this
  exact ⟨v, vr, e, SV.re_rel hok hι a x.1 v (fun q => (hf' q).1) h1, SV.z5B hok hι r x.2 vr (fun q => (hf' q).2) h2⟩
end
theorem SB.re_rel (hok : fl = false → ∀ b, ok b → ok' b) (hι : ∀ b v, ι2 b = some v → ι'' (f b) = some v) {j : Nat} : ∀ (sb : SB) (x : sb.den), (fl = true → sb.flat = true) → RelB w' ok ι2 j (sb.put x) → RelB w' ok' ι'' (f j) (sb.re f x)
 | .row t e, xs, hf, h => by
  obtain ⟨v, cs, h1, h2, h3⟩ := h
  refine ⟨v, cs, hι _ _ h1, h2, z0u (fun x us hx => ?_) h3⟩
  cases hfl : fl with
  | true => exact z3d t x us (hf hfl) hx
  | false => exact z0s (fun _ _ _ _ e => e) (hok hfl) t x us hx
 | .box e cs, x, hf, h => by
  obtain ⟨g, us, h1, h2, h3⟩ := h
  exact ⟨g, us, hι _ _ h1, h2, SV.z5B hok hι cs x us hf h3⟩
 | .it, _, _, _ => trivial
 | .mi _ _ _, _, _, _ => trivial
 | .map kt va vt, l, hf, h => by
  obtain ⟨g, es, ck, l', h1, h2, h3, h4, h5, h6, h7⟩ := h
  refine ⟨g, es, ck, l', hι _ _ h1, h2, h3, h4, h5, ?_, h7⟩
  cases hfl : fl with
  | true =>
   have := hf hfl
   simp only [SB.flat, Bool.and_eq_true] at this
   exact RzM_flat this.1 this.2 h6
  | false => exact z2f (fun _ _ _ _ e => e) (hok hfl) h6
 | .nr t t2 e ie, l, hf, h => by
  obtain ⟨arr, u, vs, cs, h1, h2, h3, h4, h5⟩ := h
  refine ⟨arr, u, vs, cs, hι _ _ h1, h2, h3, ?_, h5⟩
  cases hfl : fl with
  | true =>
   have := hf hfl
   simp only [SB.flat, Bool.and_eq_true] at this
   exact NrL_turn (fun x us => z3d t x us this.1) (fun x us => z3d t2 x us this.2) h4
  | false => exact z2j (fun _ _ _ _ e => e) (hok hfl) h4 (fun _ _ _ _ => rfl)
theorem SB.re_bk {C2 C'' : Nat → Blk} {j : Nat} {b : Nat} (hι : ∀ b v, ι2 b = some v → ι'' (f b) = some v) : ∀ (sb : SB) (y : sb.den), RelB w' ok ι2 j (sb.put y) → C'' (f j) = sb.re f y → C2 j = sb.put y → b ∈ bk ι'' C'' (f j) → b ∈ bk ι2 C2 j
 | .row t e, xs, hB, h1, h2, h => by
  obtain ⟨v, cs, hv, _⟩ := hB
  unfold bk at h ⊢
  rw [h1, hι j v hv] at h
  rw [h2, hv]
  exact h
 | .box e cs, x, hB, h1, h2, h => by
  obtain ⟨g, us, hv, _⟩ := hB
  unfold bk at h ⊢
  rw [h1, hι j _ hv] at h
  rw [h2, hv]
  exact h
 | .it, _, _, h1, _, h => by
  rw [z0O h1] at h
  cases h
 | .mi _ _ _, _, _, h1, _, h => by
  rw [z0O h1] at h
  cases h
 | .map kt va vt, l, hB, h1, h2, h => by
  obtain ⟨g, es, ck, l', hv, _⟩ := hB
  unfold bk at h ⊢
  rw [h1, hι j _ hv] at h
  rw [h2, hv]
  exact h
 | .nr t t2 e ie, l, hB, h1, h2, h => by
  obtain ⟨arr, u, vs, cs, hv, _⟩ := hB
  unfold bk at h ⊢
  rw [h1, hι j _ hv] at h
  rw [h2, hv]
  exact h
end
theorem z7e (f : Nat → Nat) : ∀ (l : List SB) (x : denB l), (reB f l x).length = l.length
 | [], _ => rfl
 | _ :: r, x => by simp [reB, z7e f r x.2]
theorem reB_get (f : Nat → Nat) : ∀ (l : List SB) (x : denB l) (j : Nat), (getB (reB f l x) j = .dead ∧ l.length ≤ j) ∨ ∃ sb, l[j]? = some sb ∧ ∃ y : sb.den, getB (reB f l x) j = sb.re f y ∧ getB (putB l x) j = sb.put y
 | [], _, j => .inl ⟨rfl, Nat.zero_le j⟩
 | a :: r, x, 0 => .inr ⟨a, rfl, x.1, rfl, rfl⟩
 | a :: r, x, j + 1 => by
  rcases reB_get f r x.2 j with h | ⟨sb, h1, y, h2, h3⟩
  ·exact .inl ⟨h.1, by simpa using h.2⟩
  ·exact .inr ⟨sb, by simpa using h1, y, h2, h3⟩
theorem getB_drop : ∀ (l : List Blk) (k j : Nat), getB (l.drop k) j = getB l (k + j)
 | [], k, j => by simp [getB]
 | b :: r, 0, j => by simp
 | b :: r, k + 1, j => by
  rw [List.drop_succ_cons, getB_drop r k j, show k + 1 + j = (k + j) + 1 by omega]
  rfl
theorem posM_iff : ∀ {m : List Nat} {k i j : Nat}, posM k i m = some j → i ≤ j ∧ m[j - i]? = some k
 | [], _, _, _, h => by cases h
 | a :: r, k, i, j, h => by
  simp only [posM] at h
  split at h
  ·rename_i hb
   injection h with h
   subst h
   rw [Nat.sub_self, Nat.eq_of_beq_eq_true hb]
   exact ⟨Nat.le_refl _, rfl⟩
  ·obtain ⟨h1, h2⟩ := posM_iff h
   refine ⟨by omega, ?_⟩
   rw [show j - i = (j - (i + 1)) + 1 by omega]
   simpa using h2
theorem z5j (m : List Nat) (bs : List Blk) : ∀ (k : Nat) (l : List Nat), z0J (z5k m bs k l) = l
 | _, [] => rfl
 | k, i :: r => by simp only [z5k, z0J, z5j m bs (k + 1) r]
theorem updRe_at (m : List Nat) (bs : List Blk) : ∀ (l : List Nat) (k0 k i : Nat) (C : Nat → Blk), l.Nodup → l[k]? = some i → updC C (z5k m bs k0 l) i = match posM (k0 + k) 0 m with
  | some j => getB bs j
  | none => .dead
 | [], _, _, _, _, _, h => by simp at h
 | a :: r, k0, 0, i, C, hn, h => by
  simp only [List.getElem?_cons_zero, Option.some.injEq] at h
  subst h
  show updC (setC C a _) (z5k m bs (k0 + 1) r) a = _
  rw [z1T _ _ _ (by rw [z5j]; exact (List.nodup_cons.1 hn).1), z0e]
  rfl
 | a :: r, k0, k + 1, i, C, hn, h => by
  show updC (setC C a _) (z5k m bs (k0 + 1) r) i = _
  rw [updRe_at m bs r (k0 + 1) k i _ (List.nodup_cons.1 hn).2 (by simpa using h), show k0 + 1 + k = k0 + (k + 1) by omega]
theorem z7d : ∀ {np : Nat} {j k i : Nat} {l l' : List (Nat × SV)}, rootAt j k np l l' = true → slotsFrom i l = true → slotsFrom i l' = true → ∃ t, i ≤ t ∧ t < i + np ∧ ∃ sv sv', l[t - i]? = some (t, sv) ∧ l'[t - i]? = some (t, sv') ∧ rootOf sv' sv = some (j, k)
 | 0, _, _, _, _, _, h, _, _ => by simp [rootAt] at h
 | np + 1, _, _, _, [], _, h, _, _ => by simp [rootAt] at h
 | np + 1, _, _, _, _ :: _, [], h, _, _ => by simp [rootAt] at h
 | np + 1, j, k, i, p :: r, p' :: r', h, h1, h2 => by
  simp only [slotsFrom, Bool.and_eq_true] at h1 h2
  have e1 := Nat.eq_of_beq_eq_true h1.1
  have e2 := Nat.eq_of_beq_eq_true h2.1
  simp only [rootAt, Bool.or_eq_true] at h
  rcases h with h | h
  ·split at h
   ·rename_i a b hr
    simp only [Bool.and_eq_true] at h
    rw [Nat.eq_of_beq_eq_true h.1, Nat.eq_of_beq_eq_true h.2] at hr
    obtain ⟨t, sv⟩ := p
    obtain ⟨t', sv'⟩ := p'
    simp only at e1 e2 hr
    subst e1
    subst e2
    exact ⟨_, Nat.le_refl _, by omega, sv, sv', by simp, by simp, hr⟩
   ·cases h
  ·obtain ⟨t, q1, q2, sv, sv', q3, q4, q5⟩ := z7d h h1.2 h2.2
   refine ⟨t, by omega, by omega, sv, sv', ?_, ?_, q5⟩
   ·rw [show t - i = (t - (i + 1)) + 1 by omega]; simpa using q3
   ·rw [show t - i = (t - (i + 1)) + 1 by omega]; simpa using q4
theorem z5x {psh rsh : Shape} {np : Nat} : ∀ {m : List Nat} {j0 : Nat}, z5y psh rsh np j0 m = true → ∀ j k, m[j]? = some k → rootAt (j0 + j) k np psh.sl rsh.sl = true
 | [], _, _, j, k, h => by simp at h
 | a :: r, j0, hr, 0, k, h => by
  simp only [List.getElem?_cons_zero, Option.some.injEq] at h
  subst h
  simp only [z5y, Bool.and_eq_true] at hr
  exact hr.1
 | a :: r, j0, hr, j + 1, k, h => by
  simp only [z5y, Bool.and_eq_true] at hr
  have := z5x hr.2 j k (by simpa using h)
  rwa [show j0 + 1 + j = j0 + (j + 1) by omega] at this
theorem putS_at : ∀ (l : List (Nat × SV)) (x : denS l) (i t : Nat) (sv : SV), slotsFrom i l = true → i ≤ t → l[t - i]? = some (t, sv) → ∃ y : sv.den, getT (putS l x) t = sv.put y
 | [], _, _, _, _, _, _, h => by simp at h
 | p :: r, x, i, t, sv, hs, hi, h => by
  simp only [slotsFrom, Bool.and_eq_true] at hs
  have e1 := Nat.eq_of_beq_eq_true hs.1
  rcases Nat.eq_or_lt_of_le hi with e | e
  ·subst e
   rw [Nat.sub_self] at h
   simp only [List.getElem?_cons_zero, Option.some.injEq] at h
   subst h
   refine ⟨x.1, ?_⟩
   simp only [putS, getT]
   rw [if_pos (Nat.beq_refl _)]
  ·rw [show t - i = (t - (i + 1)) + 1 by omega] at h
   obtain ⟨y, hy⟩ := putS_at r x.2 (i + 1) t sv hs.2 (by omega) (by simpa using h)
   refine ⟨y, ?_⟩
   simp only [putS, getT]
   rw [if_neg (fun q => by have := Nat.eq_of_beq_eq_true q; omega)]
   exact hy
theorem reS_rel {w' : World} {ok ok' : Nat → Prop} {ι2 ι'' : Nat → Option Value} {f : Nat → Nat} {fl : Bool} (hok : fl = false → ∀ b, ok b → ok' b) (hι : ∀ b v, ι2 b = some v → ι'' (f b) = some v) :
  ∀ (l : List (Nat × SV)) (x : denS l) (i : Nat) (us : List Value), slotsFrom i l = true → (fl = true → flatS l = true) → us.length = l.length → (∀ t, t < us.length → RelV w' ok ι2 (getT (putS l x) (i + t)) (us.getD t undef)) → RelL w' ok' ι'' (reS f l x) us
 | [], x, i, us, _, _, hl, _ => z0b.2 (List.length_eq_zero_iff.1 hl)
 | p :: r, x, i, us, hs, hf, hl, h => by
  cases us with
  | nil => simp at hl
  | cons u ur =>
   simp only [slotsFrom, Bool.and_eq_true] at hs
   have hp := Nat.eq_of_beq_eq_true hs.1
   have hf' : fl = true → p.2.flat = true ∧ flatS r = true := fun q => by
    have := hf q
    simpa only [flatS, Bool.and_eq_true] using this
   refine z0a.2 ⟨u, ur, rfl, ?_, reS_rel hok hι r x.2 (i + 1) ur hs.2 (fun q => (hf' q).2) (by simpa using hl) fun t ht => ?_⟩
   ·have h0 := h 0 (by simp)
    rw [Nat.add_zero] at h0
    simp only [putS, getT] at h0
    rw [if_pos (by rw [hp]; exact Nat.beq_refl i)] at h0
    exact SV.re_rel hok hι p.2 x.1 u (fun q => (hf' q).1) h0
   ·have h1 := h (t + 1) (by simpa using ht)
    simp only [putS, getT] at h1
    rw [if_neg (fun q => by have := Nat.eq_of_beq_eq_true q; omega)] at h1
    rw [show i + 1 + t = i + (t + 1) by omega]
    simpa using h1
section
variable {X keep : Nat → Prop} {w0 w : World} {ι : Nat → Option Value} {C : Nat → Blk}
theorem takeC_sound {sh : Shape} {T : Nat → AV} {V : Nat → Value} {ρ : List Nat} (h : HRel X keep w0 ι C w) (hT : ∀ t, RelV w (okb X w ι C) ι (T t) (V t)) {x1 : denS sh.sl} {f1 : List (Nat × Blk)} (e1 : takeS C T ρ sh.sl = some (x1, f1))
  {x2 : denB sh.bl} {f2 : List (Nat × Blk)} (e2 : takeB C ρ sh.bl ρ = some (x2, f2)) (hmt : meetN ρ (z0J (f1 ++ f2)) = false) :
  HRel X keep w0 ι (updC C (f1 ++ f2)) w ∧ Ext X ι C w ι (updC C (f1 ++ f2)) w ∧ (∀ i ∈ ρ, updC C (f1 ++ f2) i = C i) ∧ sh.bl.length = ρ.length ∧
  (∀ j b, b ∈ bk (fun j => (ρ[j]?).bind ι) (getB (putB sh.bl x2)) j → ∃ i, ρ[j]? = some i ∧ b ∈ bk ι (updC C (f1 ++ f2)) i) ∧
  (∀ i b j, ρ[j]? = some i → b ∈ bk ι (updC C (f1 ++ f2)) i → b ∈ bk (fun j => (ρ[j]?).bind ι) (getB (putB sh.bl x2)) j) ∧
  ∀ ok' : Nat → Prop, (∀ g, okb X w ι (updC C (f1 ++ f2)) g → ok' g) → (∀ j, RelB w ok' (fun j => (ρ[j]?).bind ι) j (getB (putB sh.bl x2) j)) ∧ ∀ t, RelV w ok' (fun j => (ρ[j]?).bind ι) (getT (putS sh.sl x1) t) (V t) := by
 obtain ⟨a1, a2⟩ := z3C sh.sl _ h (z0p.refl _) hT x1 f1 e1
 obtain ⟨b1, b2, b3⟩ := z3D sh.bl ρ 0 _ a1.1 a1.2.1 (fun k i hk => by rw [Nat.zero_add]; exact hk) x2 f2 e2
 have hF := a1.append b1
 let C1 := updC C (f1 ++ f2)
 have hC1 : C1 = updC (updC C f1) f2 := z0o _ _ _
 let ι' : Nat → Option Value := fun j => (ρ[j]?).bind ι
 have hι' : z3e ρ ι ι' := fun j i e => by show (ρ[j]?).bind ι = _; rw [e]; rfl
 let C' := getB (putB sh.bl x2)
 have hHR : HRel X keep w0 ι C1 w := hF.1
 have same : ∀ i ∈ ρ, C1 i = C i := fun i hi => z1T _ _ _ (z1n hmt i hi)
 have hat : ∀ j i, ρ[j]? = some i → bk ι' C' j = bk ι C1 i := by
  intro j i hi
  have := (b3 C1 (fun _ => True) ι' same hHR.bl (fun _ _ => trivial) (fun _ _ => trivial) hι' j i hi).2 C' (by rw [Nat.zero_add])
  rw [Nat.zero_add] at this
  exact this
 refine ⟨hHR, hF.2.2, same, b2, fun j b hb => ?_, fun i b j hi hb => by rw [hat j i hi]; exact hb, fun ok' hok => ⟨fun j => ?_, ?_⟩⟩
 ·cases hi : ρ[j]? with
  | none =>
   have h1 : C' j = .dead := z2K _ _ (by rw [z0N, b2]; exact List.getElem?_eq_none_iff.1 hi)
   rw [z0O h1] at hb
   cases hb
  | some i =>
   refine ⟨i, rfl, ?_⟩
   rw [← hat j i hi]
   exact hb
 ·cases hi : ρ[j]? with
  | none =>
   have h1 : C' j = .dead := z2K _ _ (by rw [z0N, b2]; exact List.getElem?_eq_none_iff.1 hi)
   show RelB w ok' ι' j (C' j)
   rw [h1]
   trivial
  | some i =>
   have := (b3 C1 ok' ι' same hHR.bl (fun g hg => hok g (by show okb X w ι C1 g; rw [hC1]; exact hg)) hok hι' j i hi).1
   rw [Nat.zero_add] at this
   exact this
 ·exact a2 ok' ι' (fun g hg => hok g (by show okb X w ι C1 g; rw [hC1]; exact b1.2.2.ok g hg)) hι'
end
end Go.Proofs.Rf
namespace Go.Proofs.Rf
open Go Go.RowKit
structure FnOKB (P : Program) (f : Nat) (fn : Func) (c : Code) (psh rsh : Shape) (m : List Nat) (np : Nat) : Prop where
 at_ : P.funcs[f]? = some fn
 body : fn.body = some c
 name : (fn.name == "runtime.NumGoroutine") = false
 len : Nat.ble psh.sl.length fn.ntmps = true
 slots : slotsFrom 0 psh.sl = true
 slotr : slotsFrom 0 rsh.sl = true
 res : Nat.beq rsh.sl.length (np + fn.results.toList.length) = true
 pin : Nat.ble np psh.sl.length = true
 roots : z5y psh rsh np 0 m = true
 nd : nodupN m = true
 ml : Nat.ble m.length rsh.bl.length = true
theorem z1O (k : Nat) : ∀ n, (z0C k n).length = n
 | 0 => rfl
 | n + 1 => by simp [z0C, z1O (k + 1) n]
theorem z4y : ∀ (k n i : Nat), i < n → (z0C k n)[i]? = some (k + i)
 | k, 0, i, h => by omega
 | k, n + 1, 0, _ => by simp [z0C]
 | k, n + 1, i + 1, h => by
  simp only [z0C, List.getElem?_cons_succ]
  rw [z4y (k + 1) n i (by omega), show k + 1 + i = k + (i + 1) by omega]
theorem z7v {w : World} {ok : Nat → Prop} {ι : Nat → Option Value} {T : Nat → AV} {V : Nat → Value} (hT : ∀ t, RelV w ok ι (T t) (V t)) : ∀ l : List Nat, RelL w ok ι (l.map T) (l.map V)
 | [] => z0b.2 rfl
 | x :: r => z0a.2 ⟨_, _, rfl, hT x, z7v hT r⟩
section
variable {X keep : Nat → Prop} {w0 w : World} {ι : Nat → Option Value} {C : Nat → Blk} {P : Program} {TT : Tab} {Δ : Nat → Option z0G}
theorem mkCallB_ok (hm : P.follows .mixedOrders = true) (hP : z0n P TT) (hΔ : z0R P Δ) {Λ : Nat → Option z0Y} {f : Nat} {fn : Func} {c : Code} {psh rsh : Shape} {m : List Nat} {np : Nat} (hF : FnOKB P f fn c psh rsh m np)
  (hL : ∀ n : z0L, n.ok = z1M (upTo fn.ntmps) (z0C 0 np) → n.marks = true → LoopsIn P n none Λ c) {F : psh.den → Option rsh.den} (hrun : ∀ x z, F x = some z → runFB TT Δ (z1M (upTo fn.ntmps) (z0C 0 np)) Λ c fn.results.toList psh rsh np x = some z ∧ keepsLen psh.bl rsh.bl x.2 z.2 np psh.sl rsh.sl = true) : z0c P f (mkCallB psh rsh m np F) := by
 refine ⟨⟨fn, hF.at_, hF.name, by rw [hF.body]; rfl⟩, ?_, ?_⟩
 ·intro X keep w0 w ι C nb args vs e h hv hco hn
  unfold mkCallB at hco
  generalize hρ : blkB C psh.bl 0 (blkS (getT (numT 0 args)) psh.sl []) = ρ at hco
  split at hco
  ·rename_i hc1
   simp only [Bool.and_eq_true] at hc1
   have hnd := z3l hc1.1
   have hal := Nat.eq_of_beq_eq_true hc1.2
   split at hco
   ·rename_i x fz1 e1
    split at hco
    ·rename_i y fz2 e2
     split at hco
     ·cases hco
     ·rename_i hmt
      have hmt : meetN ρ (z0J (fz1 ++ fz2)) = false := by simpa using hmt
      obtain ⟨z, hz, hco⟩ := z1e hco
      injection hco with hco
      subst hco
      let V : Nat → Value := fun t => vs.getD t undef
      have hTV : ∀ t, RelV w (okb X w ι C) ι (getT (numT 0 args) t) (V t) := fun t => by
       have := (z2u args vs 0 t hv).1
       rwa [Nat.zero_add] at this
      obtain ⟨H1, E1, same, hbl, hbk, hbk', hrel⟩ := takeC_sound h hTV e1 e2 hmt
      have hvl : vs.length = psh.sl.length := (z0j hv).trans hal
      have hnt : psh.sl.length ≤ fn.ntmps := Nat.le_of_ble_eq_true hF.len
      have hnp : np ≤ psh.sl.length := Nat.le_of_ble_eq_true hF.pin
      let C1 := updC C (fz1 ++ fz2)
      let ι' : Nat → Option Value := fun j => (ρ[j]?).bind ι
      let C' := getB (putB psh.bl y)
      let X' : Nat → Prop := fun b => b < w.heap.size ∧ ¬ okb X w ι C1 b ∧ ¬ owned ι' C' b
      let keep' : Nat → Prop := fun b => b < w.heap.size ∧ ¬ owned ι' C' b
      have hown : ∀ b, owned ι' C' b → owned ι C1 b := by
       rintro b ⟨j, hj⟩
       obtain ⟨i, _, hi⟩ := hbk j b hj
       exact ⟨i, hi⟩
      have hokc : ∀ b, okb X w ι C1 b → okb X' w ι' C' b := fun b hb => ⟨hb.1, fun ho => hb.2.1 (hown b ho), fun hx => hx.2.1 hb⟩
      obtain ⟨hB, hT⟩ := hrel (okb X' w ι' C') hokc
      have Hc : HRel X' keep' w ι' C' w := ⟨hB, fun j j' b h1 h2 => by
        obtain ⟨i, hi, hb⟩ := hbk j b h1
        obtain ⟨i', hi', hb'⟩ := hbk j' b h2
        have e := H1.inj i i' b hb hb'
        subst e
        have hlt := (List.getElem?_eq_some_iff.1 hi).1
        exact (List.getElem?_inj hlt hnd).1 (hi.trans hi'.symm), Kept.refl _ _, fun b hb hk => hk.2 hb, fun b hb => hb.1, fun b hb hx => hx.2.2 hb, fun b hb => hb.1, H1.gl.mono fun g hg => ⟨hokc g hg, rfl⟩⟩
      let a0 : Act := { tmps := vs.toArray ++ Array.replicate (fn.ntmps - vs.toArray.size) undef, defers := [] }
      have ha0 : ∀ t, a0.tmps.getD t undef = V t := by
       intro t
       show (vs.toArray ++ Array.replicate (fn.ntmps - vs.toArray.size) undef).getD t undef = vs.getD t undef
       rw [Array.getD_eq_getD_getElem?, List.getD_eq_getElem?_getD]
       rcases Nat.lt_or_ge t vs.length with ht | ht
       ·rw [Array.getElem?_append_left (by simpa using ht)]
        simp
       ·rw [Array.getElem?_append_right (by simpa using ht), List.getElem?_eq_none ht, Array.getElem?_replicate]
        split <;> rfl
      let n : z0L := roundSlots (z1d w.heap.size fn.ntmps) (z0C 0 np) a0
      have hsz0 : a0.tmps.size = fn.ntmps := by
       simp only [a0, Array.size_append, Array.size_replicate, List.size_toArray]
       omega
      have hjl : (psh.put (x, y)).bl.length = ρ.length := by rw [← hbl]; exact z0N _ _
      have S0 : SRel X' keep' w n ι' (psh.put (x, y)) a0 w := by
       refine ⟨⟨Hc, fun t => ?_, ⟨hsz0, fun _ _ => rfl⟩, Nat.le_refl _, fun _ => rfl, trivial⟩, fun j hj => ?_⟩
       ·rw [ha0 t]; exact hT t
       ·show (ρ[j]?).bind ι = none
        rw [List.getElem?_eq_none (by omega)]
        rfl
      have hev := (hrun (x, y) z hz).1
      unfold runFB at hev
      refine callsIn_wide.1 (callsIn_of_wp_marks (F := WF none) (n := 0) hF.at_ hF.body trivial (z0P (n := n) hm hP hΔ c (hL n rfl rfl) _ _ _ a0 w ι' keep' w S0 hev fun e s' a' w1 ι1 k1 v1 hlat hk h1 => ?_) rfl)
      have hsr : SRel X' keep' w n ι1 s' { tmps := a'.tmps, defers := [] } w1 :=
       ⟨⟨h1.f.h.weaken hlat.mono hlat.kept (fun b hb => hb.1) (fun b hb => hb.1), h1.f.tm, h1.f.size, Nat.le_refl _, fun _ => rfl, trivial⟩, h1.dom⟩
      have fin : ∀ (w' : World) (ι3 : Nat → Option Value), SRel X' keep' w n ι3 s' { tmps := a'.tmps, defers := [] } w' → (match retsOf TT s' fn.results.toList with
        | some vs => rsh.take ⟨numT 0 ((z0C 0 np).map (getT s'.tm) ++ vs), s'.bl⟩
        | none => none) = some z → ∃ v, (results fn a'.tmps).run P w' = .ok v w' ∧ ∃ v', Ending.returned v = .returned v' ∧ Out X keep w0 ι C w nb ⟨retV ((reS (rnB ρ m nb) rsh.sl z.1).drop np),
         (if rsh.flat = true then [] else fz1 ++ fz2) ++ z5k m (reB (rnB ρ m nb) rsh.bl z.2) 0 ρ, (reB (rnB ρ m nb) rsh.bl z.2).drop m.length⟩ v' w' := by
       intro w' ι3 h' hk
       split at hk
       ·rename_i rs hrs
        obtain ⟨us0, v, r1, r2, r3⟩ := z3V hP h' hrs
        refine ⟨v, r1, v, rfl, ?_⟩
        let us : List Value := (z0C 0 np).map (fun t => a'.tmps.getD t undef) ++ us0
        have hus : RelL w' (okb X' w' ι3 (getB s'.bl)) ι3 ((z0C 0 np).map (getT s'.tm) ++ rs) us := z0B (z7v h'.f.tm _) r2
        let a2 : Act := { tmps := us.toArray, defers := [] }
        have ha2 : ∀ t, a2.tmps.getD t undef = us.getD t undef := fun t => by
         show us.toArray.getD t undef = _
         rw [Array.getD_eq_getD_getElem?, List.getD_eq_getElem?_getD]
         simp
        have S1 : SRel X' keep' w (z1d w.heap.size us.length) ι3 ⟨numT 0 ((z0C 0 np).map (getT s'.tm) ++ rs), s'.bl⟩ a2 w' := by
         refine ⟨⟨h'.f.h, fun t => ?_, (by show a2.tmps.size = us.length; simp [a2]), Nat.le_refl _, fun _ => rfl, trivial⟩, h'.dom⟩
         have := (z2u _ us 0 t hus).1
         rw [Nat.zero_add] at this
         rw [ha2]
         exact this
        obtain ⟨ι2, S2⟩ := Shape.z0H S1 hk
        have hrl : us0.length = fn.results.toList.length := by
         have h2 := z0j r2
         have h3 : ∀ {l : List ResultVar} {vs : List AV}, retsOf TT s' l = some vs → vs.length = l.length := by
          intro l
          induction l with
          | nil => intro vs hvs; simp only [retsOf] at hvs; injection hvs with hvs; subst hvs; rfl
          | cons q l ih =>
           intro vs hvs
           simp only [retsOf] at hvs
           split at hvs
           ·split at hvs
            ·rename_i vr hvr
             injection hvs with hvs
             subst hvs
             simp [ih hvr]
            ·cases hvs
           ·cases hvs
         have h4 := h3 hrs
         omega
        have hul : us.length = rsh.sl.length := by
         have h1 := Nat.eq_of_beq_eq_true hF.res
         simp only [us, List.length_append, List.length_map, z1O]
         omega
        have hpin : ∀ t, t < np → us.getD t undef = V t := by
         intro t ht
         have h1 := h'.f.size.2 t (List.mem_of_getElem? (show (z0C 0 np)[t]? = some t by rw [z4y 0 np t ht, Nat.zero_add]))
         rw [ha0] at h1
         rw [← h1, List.getD_eq_getElem?_getD, List.getElem?_append_left (by simpa [z1O] using ht), List.getElem?_map, z4y 0 np t ht, Nat.zero_add]
         rfl
        have hroot : ∀ j k, m[j]? = some k → ∃ i u, ρ[k]? = some i ∧ ι2 j = some u ∧ ι i = some u := by
         intro j k hjk
         have hra := z5x hF.roots j k hjk
         rw [Nat.zero_add] at hra
         obtain ⟨t, _, ht, sv, sv', q1, q2, q3⟩ := z7d hra hF.slots hF.slotr
         rw [Nat.zero_add] at ht
         obtain ⟨y1, g1⟩ := putS_at psh.sl x 0 t sv hF.slots (Nat.zero_le _) q1
         obtain ⟨y2, g2⟩ := putS_at rsh.sl z.1 0 t sv' hF.slotr (Nat.zero_le _) q2
         have l1 := hT t
         have l2 := S2.f.tm t
         rw [ha2, hpin t ht] at l2
         have g2 : getT (rsh.put z).tm t = sv'.put y2 := g2
         rw [g1] at l1
         rw [g2] at l2
         have hone : ∃ u, ι2 j = some u ∧ ι' k = some u := by
          cases sv' <;> cases sv <;> simp only [rootOf, Option.some.injEq, Prod.mk.injEq] at q3 <;> (try (cases q3; done))
          ·obtain ⟨q3, q4⟩ := q3
           subst q3; subst q4
           simp only [SV.put, RelV] at l1 l2
           exact ⟨_, l2.1, l1.1⟩
          ·obtain ⟨q3, q4⟩ := q3
           subst q3; subst q4
           obtain ⟨nn, w1, w2⟩ := z5W (hrun _ _ hz).2 t _ _ _ _ _ _ ht (by rw [Nat.sub_zero] at q1; exact q1) (by rw [Nat.sub_zero] at q2; exact q2)
           simp only [SV.put, RelV] at l1 l2
           obtain ⟨A, n1, c, A', c', k1, _, k3, _, _, k6⟩ := l1
           obtain ⟨A2, n2, c2, A2', c2', j1, _, j3, _, _, j6⟩ := l2
           obtain ⟨rfl, rfl⟩ := k6 trivial
           obtain ⟨rfl, rfl⟩ := j6 trivial
           rw [k3] at j3
           injection j3 with j3 _ j5
           subst j3; subst j5
           have e1 := z4U Hc w1 k1
           have e2 := z4U S2.f.h w2 j1
           subst e1; subst e2
           exact ⟨_, j1, k1⟩
          ·obtain ⟨q3, q4⟩ := q3
           subst q3; subst q4
           simp only [SV.put, RelV] at l1 l2
           obtain ⟨g, k1, k2⟩ := l1
           obtain ⟨g', k3, k4⟩ := l2
           rw [k2] at k4
           injection k4 with k4
           injection k4 with k4
           injection k4 with k4
           rw [k4] at k1
           exact ⟨_, k3, k1⟩
         obtain ⟨u, u1, u2⟩ := hone
         have u2 : (ρ[k]?).bind ι = some u := u2
         obtain ⟨i, i1, i2⟩ := z1e u2
         exact ⟨i, u, i1, u1, i2⟩
        let fl := rsh.flat
        let fz := fz1 ++ fz2
        let Cz := updC C (if fl = true then [] else fz)
        have hz' : HRel X keep w0 ι Cz w ∧ Ext X ι C w ι Cz w ∧ ∀ i ∈ ρ, Cz i = C i := by
         show HRel X keep w0 ι (updC C (if fl = true then [] else fz)) w ∧ Ext X ι C w ι (updC C (if fl = true then [] else fz)) w ∧ ∀ i ∈ ρ, (updC C (if fl = true then [] else fz)) i = C i
         cases fl
         ·exact ⟨H1, E1, same⟩
         ·exact ⟨h, Ext.refl _ _ _ _, fun _ _ => rfl⟩
        obtain ⟨Hz, Ez, samez⟩ := hz'
        let bs := reB (rnB ρ m nb) rsh.bl z.2
        let new := bs.drop m.length
        have hml : m.length ≤ rsh.bl.length := Nat.le_of_ble_eq_true hF.ml
        have hbsl : bs.length = rsh.bl.length := z7e _ _ _
        have hnl : new.length = rsh.bl.length - m.length := by show (bs.drop m.length).length = _; rw [List.length_drop, hbsl]
        let ι'' : Nat → Option Value := fun k => if nb ≤ k ∧ k < nb + new.length then ι2 (m.length + (k - nb)) else ι k
        have hin : ∀ j, j < new.length → ι'' (nb + j) = ι2 (m.length + j) := by
         intro j hj
         show (if nb ≤ nb + j ∧ nb + j < nb + new.length then ι2 (m.length + (nb + j - nb)) else ι (nb + j)) = _
         rw [if_pos (by omega), Nat.add_sub_cancel_left]
        have hou : ∀ k, ¬ (nb ≤ k ∧ k < nb + new.length) → ι'' k = ι k := fun k hk => if_neg hk
        let upd := (if fl = true then [] else fz) ++ z5k m bs 0 ρ
        let C'' := addC (updC C upd) nb new
        have hCu : updC C upd = updC Cz (z5k m bs 0 ρ) := z0o _ _ _
        have hsm : ∀ i u, ι i = some u → ¬ (nb ≤ i ∧ i < nb + new.length) := fun i u hi hq => by rw [hn i hq.1 hq.2] at hi; cases hi
        have hrn : ∀ j v, ι2 j = some v → ι'' (rnB ρ m nb j) = some v := by
         intro j v hv
         have hjl : j < rsh.bl.length := by
          rcases Nat.lt_or_ge j rsh.bl.length with q | q
          ·exact q
          ·rw [S2.dom j (by rw [show (rsh.put z).bl.length = rsh.bl.length from z0N _ _]; exact q)] at hv; cases hv
         unfold rnB
         cases hmj : m[j]? with
         | some k =>
          obtain ⟨i, u, i1, i2, i3⟩ := hroot j k hmj
          rw [hv] at i2
          injection i2 with i2
          subst i2
          simp only
          rw [List.getD_eq_getElem?_getD, i1]
          show ι'' i = some v
          rw [hou i (hsm i _ i3), i3]
         | none =>
          have hge : m.length ≤ j := List.getElem?_eq_none_iff.1 hmj
          simp only
          rw [hin (j - m.length) (by omega), show m.length + (j - m.length) = j by omega, hv]
        let S : Nat → Prop := fun i => i ∈ ρ ∨ (nb ≤ i ∧ i < nb + new.length)
        have hCat : ∀ i, S i → C'' i = .dead ∨ ∃ j, rnB ρ m nb j = i ∧ C'' i = getB bs j := by
         intro i hi
         by_cases hq : nb ≤ i ∧ i < nb + new.length
         ·right
          obtain ⟨j, rfl⟩ : ∃ j, i = nb + j := ⟨i - nb, by omega⟩
          refine ⟨m.length + j, ?_, ?_⟩
          ·unfold rnB
           rw [List.getElem?_eq_none (by omega)]
           simp only
           omega
          ·show addC (updC C upd) nb new (nb + j) = _
           rw [addC_at new _ nb j (by omega)]
           exact getB_drop bs m.length j
         ·have hi : i ∈ ρ := hi.resolve_right hq
          obtain ⟨k, hk⟩ := List.mem_iff_getElem?.1 hi
          have hCi : C'' i = match posM (0 + k) 0 m with
            | some j => getB bs j
            | none => .dead := by
           show addC (updC C upd) nb new i = _
           rw [z1W _ _ _ _ hq, hCu]
           exact updRe_at m bs ρ 0 k i Cz hnd hk
          rw [Nat.zero_add] at hCi
          cases hp : posM k 0 m with
          | none => rw [hp] at hCi; exact .inl hCi
          | some j =>
           rw [hp] at hCi
           right
           refine ⟨j, ?_, hCi⟩
           have := (posM_iff hp).2
           rw [Nat.sub_zero] at this
           unfold rnB
           rw [this]
           simp only
           rw [List.getD_eq_getElem?_getD, hk]
           rfl
        have hbk2 : ∀ i b, S i → b ∈ bk ι'' C'' i → ∃ j, rnB ρ m nb j = i ∧ b ∈ bk ι2 (getB (putB rsh.bl z.2)) j := by
         intro i b hi hb
         rcases hCat i hi with q | ⟨j, q1, q2⟩
         ·rw [z0O q] at hb; cases hb
         ·refine ⟨j, q1, ?_⟩
          rcases reB_get (rnB ρ m nb) rsh.bl z.2 j with g | ⟨sb, g1, y', g2, g3⟩
          ·rw [z0O (q2.trans g.1)] at hb; cases hb
          ·have hB := S2.f.h.bl j
           rw [show getB (rsh.put z).bl j = _ from g3] at hB
           subst q1
           exact SB.re_bk hrn sb y' hB (q2.trans g2) g3 hb
        have hCo : ∀ i, ¬ S i → C'' i = Cz i := by
         intro i hi
         show addC (updC C upd) nb new i = _
         rw [z1W _ _ _ _ (fun q => hi (.inr q)), hCu]
         exact z1T _ _ _ (by rw [z5j]; exact fun q => hi (.inl q))
        have hιo : ∀ k, ¬ S k → ι'' k = ι k := fun k hk => hou k fun q => hk (.inr q)
        have hownz : ∀ b, owned ι' C' b → ∃ i ∈ ρ, b ∈ bk ι Cz i := by
         rintro b ⟨j, hj⟩
         obtain ⟨i, hi, hb⟩ := hbk j b hj
         have hm : i ∈ ρ := List.mem_of_getElem? hi
         exact ⟨i, hm, by rw [z0z (ι := ι) (ι' := ι) ((samez i hm).trans (same i hm).symm) rfl]; exact hb⟩
        have okT : fl = false → ∀ b, okb X' w' ι2 (getB (rsh.put z).bl) b → okb X w' ι'' C'' b := by
         intro hfl b hb
         have hCz : Cz = C1 := by show updC C (if fl = true then [] else fz) = _; rw [hfl]; rfl
         have hcase : b < w.heap.size → okb X w ι C1 b ∨ owned ι' C' b := fun hl => Classical.byContradiction fun q => hb.2.2 ⟨hl, fun q1 => q (.inl q1), fun q1 => q (.inr q1)⟩
         refine ⟨hb.1, ?_, fun hx => ?_⟩
         ·rintro ⟨i, hi⟩
          by_cases hs : S i
          ·obtain ⟨j, _, hj⟩ := hbk2 i b hs hi
           exact hb.2.1 ⟨j, hj⟩
          ·rw [z0z (hCo i hs) (hιo i hs)] at hi
           rcases hcase (Hz.lt ⟨i, hi⟩) with q | q
           ·rw [hCz] at hi
            exact q.2.1 ⟨i, hi⟩
           ·obtain ⟨i', hm, hi'⟩ := hownz b q
            exact hs (.inl (Hz.inj i i' b hi hi' ▸ hm))
         ·rcases hcase (Nat.lt_of_lt_of_le (h.xl b hx) h.fr.size) with q | q
          ·exact q.2.2 hx
          ·obtain ⟨i', hm, hi'⟩ := hownz b q
           exact Hz.ox b ⟨i', hi'⟩ hx
        have hfl2 : fl = true → flatS rsh.sl = true ∧ flatB rsh.bl = true := by
         intro q
         have q : (flatS rsh.sl && flatB rsh.bl) = true := q
         simpa only [Bool.and_eq_true] using q
        obtain ⟨HF, EF⟩ := Hz.step (C' := C'') (ι' := ι'') (w' := w') S S2.f.h.fr.os S2.f.h.fr.tape S2.f.h.fr.output S2.f.h.fr.size hCo
         (fun k v hk => by rw [hou k (hsm k v hk)]; exact hk) hιo
         (by
          intro k b hs hb
          obtain ⟨j, _, hj⟩ := hbk2 k b hs hb
          have hnk := S2.f.h.own b ⟨j, hj⟩
          by_cases hl : b < w.heap.size
          ·right
           have ho : owned ι' C' b := Classical.byContradiction fun q => hnk ⟨hl, q⟩
           obtain ⟨i, hm, hi⟩ := hownz b ho
           exact ⟨i, .inl hm, hi⟩
          ·exact .inl (Nat.le_of_not_lt hl))
         (by
          intro k k' b hs hs' hb hb'
          obtain ⟨j, q, hj⟩ := hbk2 k b hs hb
          obtain ⟨j', q', hj'⟩ := hbk2 k' b hs' hb'
          rw [← q, ← q', S2.f.h.inj j j' b hj hj'])
         (by
          intro b hb hno
          refine S2.f.h.fr.block b ⟨hb, fun ho => ?_⟩ hb
          obtain ⟨i, hm, hi⟩ := hownz b ho
          exact hno i (.inl hm) hi)
         (by
          intro _ k hs
          rcases hCat k hs with q | ⟨j, q1, q2⟩
          ·rw [q]; trivial
          ·rcases reB_get (rnB ρ m nb) rsh.bl z.2 j with g | ⟨sb, g1, y', g2, g3⟩
           ·rw [q2.trans g.1]; trivial
           ·have hB := S2.f.h.bl j
            rw [show getB (rsh.put z).bl j = _ from g3] at hB
            rw [q2.trans g2, ← q1]
            exact SB.re_rel (fl := fl) okT hrn sb y' (fun q => z6b (hfl2 q).2 g1) hB)
        have hret : RelL w' (okb X w' ι'' C'') ι'' (reS (rnB ρ m nb) rsh.sl z.1) us := by
         refine reS_rel (ι2 := ι2) (fl := fl) okT hrn rsh.sl z.1 0 us hF.slotr (fun q => (hfl2 q).1) hul fun t _ => ?_
         rw [Nat.zero_add]
         have := S2.f.tm t
         rw [ha2] at this
         exact this
        have hret2 := z0X hret np
        have hdr : us.drop np = us0 := by
         show ((z0C 0 np).map (fun t => a'.tmps.getD t undef) ++ us0).drop np = us0
         rw [List.drop_left' (by simp [z1O])]
        rw [hdr] at hret2
        refine ⟨ι'', HF, Ez.trans EF, ?_, hou⟩
        rw [r3]
        exact retV_rel hret2
       ·cases hk
      have leave : (match retsOf TT s' fn.results.toList with
        | some vs => rsh.take ⟨numT 0 ((z0C 0 np).map (getT s'.tm) ++ vs), s'.bl⟩
        | none => none) = some z → LeavesInM (WF none) 0 P fn a'.tmps (fun en w' => ∃ v, en = .returned v ∧ Out X keep w0 ι C w nb ⟨retV ((reS (rnB ρ m nb) rsh.sl z.1).drop np),
         (if rsh.flat = true then [] else fz1 ++ fz2) ++ z5k m (reB (rnB ρ m nb) rsh.bl z.2) 0 ρ, (reB (rnB ρ m nb) rsh.bl z.2).drop m.length⟩ v w') a'.defers .returning w1 := by
       intro hk
       refine z2X (base := w.heap.size) (G := fun w' => SRel X' keep' w n ι1 s' { tmps := a'.tmps, defers := [] } w') (fun w' h' => fin w' ι1 h' hk) (fun w' D h' hD hd => ?_) a'.defers w1 hsr (z4A h1.f.h.fr h1.f.defers.2.2)
       obtain ⟨q1, q2⟩ := h'.f.h.quiet (w' := w'.putObj D (.deferred none)) D rfl rfl rfl (by simp) (fun b hb _ => World.putObj_heap_other hb) (fun o v hc => by simp [World.cell?, hd] at hc) (fun es ck hc => by simp [hd] at hc)
        (fun b hb e => h'.f.h.owned_obj hb (by rw [e]; exact hd)) (fun hk' => absurd hk'.1 (Nat.not_lt.2 hD))
       exact ⟨⟨q1, fun t => q2 _ _ (h'.f.tm t), h'.f.size, Nat.le_refl _, fun _ => rfl, trivial⟩, h'.dom⟩
      cases e with
      | nm => exact leave hk
      | ex j => cases hk
      | rt => exact leave hk
    ·cases hco
   ·cases hco
  ·cases hco
 ·intro args C nb R K
  unfold mkCallB
  split
  ·split
   ·split
    ·split
     ·rfl
     ·generalize F _ = q
      cases q <;> rfl
    ·rfl
   ·rfl
  ·rfl
end
noncomputable def z0U (TT : Tab) (Δ : List (Nat × z0G)) (Λ : List (Nat × z0Y)) (f : Func) (psh rsh : Shape) (np : Nat) (x : psh.den) : Option rsh.den :=
 runFB TT (lookL Δ) (z1M (upTo f.ntmps) (z0C 0 np)) (lookL Λ) (bodyOf f) f.results.toList psh rsh np x |>.bind fun z => if keepsLen psh.bl rsh.bl x.2 z.2 np psh.sl rsh.sl = true then some z else none
theorem z0w {P : Program} {TT : Tab} (hm : P.follows .mixedOrders = true) (hP : z0n P TT) {Δ : List (Nat × z0G)} (hΔ : z3q P Δ) {Λ : List (Nat × z0Y)} {f : Nat} {fn : Func} {psh rsh : Shape} {m : List Nat} {np : Nat} {c : Code} (hF : FnOKB P f fn c psh rsh m np) (hc : bodyOf fn = c)
  (hL : z6D P (z1M (upTo fn.ntmps) (z0C 0 np)) false Λ c) : z0c P f (mkCallB psh rsh m np (z0U TT Δ Λ fn psh rsh np)) := by
 subst hc
 exact mkCallB_ok hm hP (z3o hΔ) hF (fun n hn hk => hL n hn none (.inr ⟨rfl, hk⟩)) fun x y h => by
  obtain ⟨z, h1, h2⟩ := z1e h
  split at h2
  ·rename_i hk
   injection h2 with h2
   subst h2
   exact ⟨h1, hk⟩
  ·cases h2
end Go.Proofs.Rf
namespace Go.Proofs.Rf
open Go Go.RowKit
def Lim {A B : Type} (f : A → Option (A ⊕ B)) (g : A → Option B) : Prop := ∀ x y, g x = some y → ∃ k, iterL f k x = some y
theorem z1P {A B : Type} (f : A → Option (A ⊕ B)) : Lim f (limL f) := fun _ _ h => z5f h
theorem z1j {A B : Type} (f : A → Option (A ⊕ B)) (k : Nat) : Lim f (iterL f k) := fun _ _ h => ⟨k, h⟩
theorem z0y {P : Program} {TT : Tab} (hm : P.follows .mixedOrders = true) (hP : z0n P TT) {Δ : List (Nat × z0G)} (hΔ : z3q P Δ) {Λ : List (Nat × z0Y)} {fn : Func} {r : Nat} {head : Shape} {ways : List Way} {ok : Nat → Bool} {inn : Bool}
  {g : head.den → Option (denX ways)} (hg : Lim (z1w TT Δ Λ ok fn r head ways) g) (hL : z6D P ok inn Λ (z0M fn r)) : LoopAt P ok inn (lp head ways g) (.loop (z0M fn r)) := by
 intro n hn ρ hi
 subst hn
 exact lp_ok hm hP (z3o hΔ) (hL n rfl ρ hi) fun x y h => hg x y h
end Go.Proofs.Rf
namespace Go.Proofs.Rf
open Go Go.RowKit
section
variable (TT : Tab) (Δ : Nat → Option z0G) (ok : Nat → Bool) (Λ : Nat → Option z0Y) (rid j : Nat) (mid : Shape)
end
section
variable {P : Program} {TT : Tab} {Δ : Nat → Option z0G} {n : z0L} {Λ : Nat → Option z0Y} {rid j : Nat} {mid : Shape} {l : Nat}
theorem zipN_get : ∀ (l : List Oper) (i : Nat), ∀ p ∈ zipN i l, ∃ k, p.1 = i + k ∧ l[k]? = some p.2
 | [], _, p, h => by cases h
 | o :: l, i, p, h => by
  rcases List.mem_cons.1 h with rfl | h
  ·exact ⟨0, rfl, rfl⟩
  ·obtain ⟨k, h1, h2⟩ := zipN_get l (i + 1) p h
   exact ⟨k + 1, by omega, by simpa using h2⟩
end
end Go.Proofs.Rf
namespace Go.Proofs.Rf
open Go Go.RowKit
section
variable {X keep : Nat → Prop} {w0 w : World} {ι : Nat → Option Value} {C : Nat → Blk}
end
section
variable (TT : Tab) (Δ : Nat → Option z0G) (ok : Nat → Bool) (Λ : Nat → Option z0Y) {El : Type}
end
section
variable {P : Program} {TT : Tab} {Δ : Nat → Option z0G} {Λ : Nat → Option z0Y} {El : Type}
end
end Go.Proofs.Rf
namespace Go.Proofs.Rf
open Go Go.RowKit
end Go.Proofs.Rf
namespace Go.Proofs.Rf
open Go Go.RowKit
def iterF {A B : Type} (Φ : (A → Option B) → A → Option B) : Nat → A → Option B
 | 0 => fun _ => none
 | n + 1 => Φ (iterF Φ n)
def HasFn (P : Program) (f : Nat) : Prop := ∃ fn, P.funcs[f]? = some fn ∧ (fn.name == "runtime.NumGoroutine") = false ∧ fn.body.isNone = false
theorem callOK_none {P : Program} {f : Nat} (hf : HasFn P f) (ps : List SV) (rsh : Shape) : z0c P f (mkCall ps rsh fun _ => none) := by
 refine ⟨hf, ?_, ?_⟩
 ·intro X keep w0 w ι C nb args vs e h hv hco hn
  unfold mkCall at hco
  split at hco
  ·cases hco
  ·cases hco
 ·intro args C nb R K
  unfold mkCall
  split <;> rfl
theorem z2M {P : Program} {f : Nat} (hf : HasFn P f) {ps : List SV} {rsh : Shape} {Φ : (SV.denL ps → Option rsh.den) → SV.denL ps → Option rsh.den} (h : ∀ F, z0c P f (mkCall ps rsh F) → z0c P f (mkCall ps rsh (Φ F))) : ∀ n, z0c P f (mkCall ps rsh (iterF Φ n))
 | 0 => callOK_none hf ps rsh
 | n + 1 => h _ (z2M hf h n)
theorem mkCallB_inv {psh rsh : Shape} {m : List Nat} {np : Nat} {G : psh.den → Option rsh.den} {args : List AV} {C : Nat → Blk} {nb : Nat} {e : Eff} (h : mkCallB psh rsh m np G args C nb Eff some = some e) :
  ∃ x y, G x = some y ∧ ∀ F : psh.den → Option rsh.den, F x = some y → mkCallB psh rsh m np F args C nb Eff some = some e := by
 have hh := h
 unfold mkCallB at h
 split at h
 ·rename_i c1
  split at h
  ·rename_i x f hx
   split at h
   ·rename_i y g hy
    split at h
    ·cases h
    ·rename_i c2
     obtain ⟨z, hz, h⟩ := z1e h
     refine ⟨(x, y), z, hz, fun F hF => ?_⟩
     unfold mkCallB
     rw [if_pos c1, hx]
     simp only
     rw [hy]
     simp only
     rw [if_neg c2, hF]
     exact h
   ·cases h
  ·cases h
 ·cases h
theorem mkCallB_nat {psh rsh : Shape} {m : List Nat} {np : Nat} (G : psh.den → Option rsh.den) (args : List AV) (C : Nat → Blk) (nb : Nat) (R : Type) (K : Eff → Option R) : mkCallB psh rsh m np G args C nb R K = (mkCallB psh rsh m np G args C nb Eff some).bind K := by
 unfold mkCallB
 split
 ·split
  ·split
   ·split
    ·rfl
    ·generalize G _ = q
     cases q <;> rfl
   ·rfl
  ·rfl
 ·rfl
theorem callOKB_of {P : Program} {f : Nat} (hf : HasFn P f) {psh rsh : Shape} {m : List Nat} {np : Nat} {G : psh.den → Option rsh.den} (h : ∀ x y, G x = some y → ∃ F, F x = some y ∧ z0c P f (mkCallB psh rsh m np F)) : z0c P f (mkCallB psh rsh m np G) := by
 refine ⟨hf, ?_, fun args C nb R K => mkCallB_nat G args C nb R K⟩
 intro X keep w0 w ι C nb args vs e hh hv hco hn
 obtain ⟨x, y, h1, h2⟩ := mkCallB_inv hco
 obtain ⟨F, hF, hok⟩ := h x y h1
 exact hok.run X keep w0 w ι C nb args vs e hh hv (h2 F hF) hn
theorem z4Y {P : Program} {f : Nat} (hf : HasFn P f) {psh rsh : Shape} {m : List Nat} {np : Nat} {Φ : (psh.den → Option rsh.den) → psh.den → Option rsh.den} (h : ∀ F, z0c P f (mkCallB psh rsh m np F) → z0c P f (mkCallB psh rsh m np (Φ F))) : ∀ n, z0c P f (mkCallB psh rsh m np (iterF Φ n))
 | 0 => callOKB_of hf fun x y e => by cases e
 | n + 1 => h _ (z4Y hf h n)
def fitB (psh : Shape) (args : List AV) (C : Nat → Blk) : Bool :=
 Nat.beq args.length psh.sl.length && nodupN (blkB C psh.bl 0 (blkS (getT (numT 0 args)) psh.sl [])) &&
 (takeS C (getT (numT 0 args)) (blkB C psh.bl 0 (blkS (getT (numT 0 args)) psh.sl [])) psh.sl).isSome &&
 (takeB C (blkB C psh.bl 0 (blkS (getT (numT 0 args)) psh.sl [])) psh.bl (blkB C psh.bl 0 (blkS (getT (numT 0 args)) psh.sl []))).isSome
def orC (t : List AV → (Nat → Blk) → Bool) (a b : z0G) : z0G := fun args C nb R K => if t args C = true then a args C nb R K else b args C nb R K
theorem orC_ok {P : Program} {f : Nat} {t : List AV → (Nat → Blk) → Bool} {a b : z0G} (ha : z0c P f a) (hb : z0c P f b) : z0c P f (orC t a b) := by
 refine ⟨ha.fn, ?_, ?_⟩
 ·intro X keep w0 w ι C nb args vs e hh hv hco hn
  unfold orC at hco
  split at hco
  ·exact ha.run X keep w0 w ι C nb args vs e hh hv hco hn
  ·exact hb.run X keep w0 w ι C nb args vs e hh hv hco hn
 ·intro args C nb R K
  unfold orC
  split
  ·exact ha.nat ..
  ·exact hb.nat ..
def orL (t : St → Bool) (a b : z0Y) : z0Y := fun s R K => if t s = true then a s R K else b s R K
def fitL (head : Shape) (s : St) : Bool := (head.take s).isSome
end Go.Proofs.Rf
namespace Go.Proofs.Rf
open Go Go.RowKit
end Go.Proofs.Rf
namespace Go.Proofs.Rf
open Go Go.RowKit
def iNone : Nat → Option Value := fun _ => none
def cDead : Nat → Blk := fun _ => .dead
theorem z3k {ι : Nat → Option Value} {b : Nat} : ¬ owned ι cDead b := by
 rintro ⟨k, hk⟩
 rw [z0O rfl] at hk
 cases hk
theorem HRel.start (w : World) (hg : GlOK w (fun b => b < w.heap.size)) : HRel (fun _ => False) (fun b => b < w.heap.size) w iNone cDead w :=
 ⟨fun k => trivial, fun k k' b h1 _ => (by rw [z0O rfl] at h1; cases h1), Kept.refl _ _, fun b hb => (z3k hb).elim, fun b hb => hb, fun b hb => (z3k hb).elim, fun b hb => hb.elim, hg.mono fun g q => ⟨⟨q, z3k, fun q => q⟩, rfl⟩⟩
theorem law_walk {P : Program} {f : Nat} {ps : List SV} {F : SV.denL ps → Option (Shape.den ⟨[(0, .d false .bool)], []⟩)} (h : z0c P f (mkCall ps ⟨[(0, .d false .bool)], []⟩ F)) (w : World) {args : List AV} {vs : List Value} {x : SV.denL ps} {fz : List (Nat × Blk)}
  (ht : SV.takeL cDead [] ps args = some (x, fz)) (hF : F x = some ((true, ()), ())) (hrel : RelL w (fun b => b < w.heap.size) iNone args vs) (hg : GlOK w (fun b => b < w.heap.size)) : Calls P f vs.toArray w fun e w' => e = .returned (.bool true) ∧ Below w.heap.size w w' := by
 have hok : okb (fun _ => False) w iNone cDead = fun b => b < w.heap.size := by
  funext b
  exact propext ⟨fun q => q.1, fun q => ⟨q, z3k, fun q => q⟩⟩
 have hco : mkCall ps ⟨[(0, .d false .bool)], []⟩ F args cDead 0 Eff some = some ⟨.d .bool true, [], []⟩ := by
  unfold mkCall
  rw [ht]
  simp only [hF]
  rfl
 refine (h.run _ _ w w iNone cDead 0 args vs _ (HRel.start w hg) (by rw [hok]; exact hrel) hco (fun _ _ _ => rfl)).mono ?_
 rintro e w' ⟨v, rfl, ι', H, E, hv, _⟩
 have hv := z0q.1 hv
 exact ⟨by rw [hv], H.fr.os, H.fr.tape, H.fr.output, H.fr.size, fun i hi => H.fr.block i hi hi⟩
end Go.Proofs.Rf
namespace Go.Proofs.Rf
open Go Go.RowKit Go.ChangeShapes Go.WideShapes
def fitK (k : IntKind) (n : Int) : Prop := k.min ≤ n ∧ n ≤ k.max
def Ty.fit : (t : Ty) → t.den → Prop
 | .int k, n => fitK k n
 | .str, s => s.length ≤ maxLen
 | .sl t, xs => xs.length ≤ maxLen ∧ ∀ x ∈ xs, t.fit x
 | .pr a b, x => a.fit x.1 ∧ b.fit x.2
 | _, _ => True
def tyFs (g : Nat → Option Ty) (c : Nat → Nat) : Nat → List Field → Option (List Ty)
 | _, [] => some []
 | o, f :: r => match g f.type with
  | some ty => if (Nat.beq f.offset o && Nat.beq (c f.type) ty.size) = true then (match tyFs g c (o + ty.size) r with
   | some ts => some (ty :: ts)
   | none => none) else none
  | none => none
def goodTy (P : Program) : Nat → Nat → Option Ty
 | 0, _ => none
 | k + 1, t => match P.underlying t with
  | some (.int i) => some (.int i)
  | some .bool => some .bool
  | some .string => some .str
  | some (.slice e) => (match goodTy P k e with
   | some ty => if (Nat.blt 0 ty.size && Nat.beq (P.cellsOf e) ty.size) = true then some (.sl ty) else none
   | none => none)
  | some (.struct fields) => (match tyFs (goodTy P k) P.cellsOf 0 fields.toList with
   | some ts => if Nat.beq (P.cellsOf t) (prL ts).size = true then some (prL ts) else none
   | none => none)
  | _ => none
section
variable {H : Type} {enc : TypeId × Value → H} {P : Program} {w : World} {sp : Nat → Bool} {held : Bool}
theorem cells_get {a : Addr} {n : Nat} {cs : List Value} (h : w.cells? 0 a n = some cs) : cs.length = n ∧ ∀ j u, cs[j]? = some u → w.cell? (a.add j) = some u := by
 unfold World.cells? at h
 rw [if_pos (Nat.zero_le _)] at h
 have hl := mapM_some_length h
 rw [List.length_range] at hl
 refine ⟨hl, fun j u hu => ?_⟩
 have hj : j < n := by
  rw [← hl]
  exact (List.getElem?_eq_some_iff.1 hu).1
 have := mapM_some_get h j j (by simp [hj])
 rw [hu] at this
 exact this
theorem add_plain (g o j : Nat) : Addr.add ⟨g, o, none⟩ j = ⟨g, o + j, none⟩ := by
 unfold Addr.add
 split
 ·rename_i h
  rw [h]; rfl
 ·rfl
theorem add_two (a : Addr) {m r j : Nat} (h : m + r = j) : (a.add m).add r = a.add j := by
 subst h
 unfold Addr.add
 by_cases h1 : m = 0
 ·subst h1
  simp
 ·by_cases h2 : r = 0
  ·subst h2
   simp [h1]
  ·rw [if_neg h1, if_neg h2, if_neg (by omega), Nat.add_assoc]
theorem cell_place {a : Addr} {u : Value} (h : w.cell? a = some u) : a.spot = none ∧ a.block < w.heap.size := by
 refine ⟨World.cell?_spot h, ?_⟩
 unfold World.cell? at h
 split at h
 ·rename_i h1
  exact (Array.getElem?_eq_some_iff.1 h1).1
 ·cases h
theorem rowL {α : Type} {D : α → List Value → Prop} {Q : α → Prop} {n : Nat} (at_ : Nat → Option (List Value)) : ∀ (len k : Nat), (∀ i, i < len → ∃ cs x, at_ (k + i) = some cs ∧ cs.length = n ∧ D x cs ∧ Q x) →
  ∃ (xs : List α) (cs : List Value), xs.length = len ∧ RzL D xs cs ∧ cs.length = len * n ∧ (∀ x ∈ xs, Q x) ∧ ∀ i j c, i < len → at_ (k + i) = some c → j < n → cs[i * n + j]? = c[j]?
 | 0, k, _ => ⟨[], [], rfl, rfl, by simp, by simp, fun i j c hi => by omega⟩
 | len + 1, k, h => by
  obtain ⟨c0, x0, h0, hl0, hd0, hq0⟩ := h 0 (by omega)
  obtain ⟨xs, cs, hxl, hr, hcl, hq, hg⟩ := rowL at_ len (k + 1) (fun i hi => by
   obtain ⟨c, x, h1, h2⟩ := h (i + 1) (by omega)
   exact ⟨c, x, by rw [show k + 1 + i = k + (i + 1) by omega]; exact h1, h2⟩)
  refine ⟨x0 :: xs, c0 ++ cs, by simp [hxl], ⟨c0, cs, rfl, hd0, hr⟩, by rw [List.length_append, hl0, hcl, Nat.add_mul]; omega, ?_, ?_⟩
  ·intro x hx
   rcases List.mem_cons.1 hx with rfl | hx
   ·exact hq0
   ·exact hq x hx
  ·intro i j c hi hc hj
   cases i with
   | zero =>
    rw [Nat.add_zero] at h0 hc
    rw [h0] at hc
    cases hc
    rw [Nat.zero_mul, Nat.zero_add, List.getElem?_append_left (by omega)]
   | succ i =>
    rw [List.getElem?_append_right (by rw [hl0, Nat.add_mul]; omega), show (i + 1) * n + j - c0.length = i * n + j by rw [hl0, Nat.add_mul]; omega]
    exact hg i j c (by omega) (by rw [show k + 1 + i = k + (i + 1) by omega]; exact hc) hj
theorem z6d {g : Nat → Option Ty} {c : Nat → Nat} {cs : List Value} {D : Nat → List Value → Prop} (ho : ∀ t ty us, g t = some ty → D t us → ∃ x : ty.den, Rz w (fun b => b < w.heap.size) ty x us ∧ ty.fit x) :
  ∀ (fs : List Field) (ts : List Ty) (o : Nat), tyFs g c o fs = some ts → (∀ f ∈ fs, D f.type ((cs.drop f.offset).take (c f.type))) → (cs.drop o).length = (prL ts).size →
   ∃ x : (prL ts).den, Rz w (fun b => b < w.heap.size) (prL ts) x (cs.drop o) ∧ (prL ts).fit x
 | [], ts, o, ht, _, hl => by
  cases ht
  exact ⟨(), List.eq_nil_of_length_eq_zero hl, trivial⟩
 | f :: r, ts, o, ht, hD, hl => by
  unfold tyFs at ht
  split at ht
  ·rename_i ty hty
   split at ht
   ·rename_i hc
    split at ht
    ·rename_i ts' hts
     cases ht
     simp only [Bool.and_eq_true] at hc
     have ho' := Nat.eq_of_beq_eq_true hc.1
     have hs := Nat.eq_of_beq_eq_true hc.2
     have hd := hD f (by simp)
     rw [ho', hs] at hd
     obtain ⟨x, hx, hf⟩ := ho _ _ _ hty hd
     cases ts' with
     | nil =>
      have hl : _ = ty.size := hl
      rw [List.take_of_length_le (by omega)] at hx
      exact ⟨x, hx, hf⟩
     | cons b r' =>
      have hl : _ = ty.size + (prL (b :: r')).size := hl
      obtain ⟨y, hy, hg⟩ := z6d ho r (b :: r') (o + ty.size) hts (fun f hf => hD f (by simp [hf])) (by rw [← List.drop_drop, List.length_drop]; omega)
      exact ⟨(x, y), ⟨_, _, by rw [← List.drop_drop, List.take_append_drop], hx, hy⟩, hf, hg⟩
    ·cases ht
   ·cases ht
  ·cases ht
theorem z4z : ∀ (k : Nat) (t : Nat) (ty : Ty), goodTy P k t = some ty → ∀ (fuel : Nat) (cs : List Value) (d : DataW H × List MemPlace), DataW.trod enc P w 0 sp held fuel t cs = some d →
  ∃ x : ty.den, Rz w (fun b => b < w.heap.size) ty x cs ∧ ty.fit x
 | 0, t, ty, hty, _, _, _, _ => by cases hty
 | k + 1, t, ty, hty, fuel, cs, d, h => by
  unfold goodTy at hty
  split at hty
  ·rename_i i hu
   cases hty
   obtain ⟨n, rfl, _, hw⟩ := DataW.trod_int hu h
   simp only [Lit.wf, Bool.and_eq_true, decide_eq_true_eq] at hw
   exact ⟨n, rfl, hw⟩
  ·rename_i hu
   cases hty
   obtain ⟨b, rfl, _⟩ := DataW.trod_bool hu h
   exact ⟨b, rfl, trivial⟩
  ·rename_i hu
   cases hty
   obtain ⟨s, rfl, _, hs⟩ := DataW.trod_string hu h
   refine ⟨s.data.toList, ?_, ?_⟩
   ·show _ = _
    cases s
    rfl
   ·show _ ≤ _
    rw [Array.length_toList]
    exact hs
  ·rename_i e hu
   split at hty
   ·rename_i te hte
    split at hty
    ·rename_i hc
     cases hty
     simp only [Bool.and_eq_true] at hc
     have hpos : 0 < te.size := Nat.le_of_ble_eq_true hc.1
     have hsz := Nat.eq_of_beq_eq_true hc.2
     rcases DataW.trod_slice hu h with ⟨rfl, _⟩ | ⟨a, len, cap, elems, rest, n, _, rfl, _, _, hlc, hcm, hel, hget, _, _⟩
     ·exact ⟨[], ⟨none, 0, rfl, Nat.le_refl _, fun hp => by simp at hp⟩, by simp [Ty.fit]⟩
     ·have hrow : ∀ i, i < len → ∃ cs x, (fun i => w.cells? 0 (a.add (i * te.size)) te.size) (0 + i) = some cs ∧ cs.length = te.size ∧ Rz w (fun b => b < w.heap.size) te x cs ∧ te.fit x := by
       intro i hi
       have hg := hget i hi
       rw [hsz, List.getElem?_eq_getElem (by omega)] at hg
       obtain ⟨c, h1, h2⟩ := Option.bind_eq_some_iff.1 hg
       obtain ⟨x, hx, hf⟩ := z4z k e te hte n c _ h2
       exact ⟨c, x, by rw [Nat.zero_add]; exact h1, (cells_get h1).1, hx, hf⟩
      obtain ⟨xs, cs, hxl, hr, hcl, hq, hg⟩ := rowL (fun i => w.cells? 0 (a.add (i * te.size)) te.size) len 0 hrow
      refine ⟨xs, ⟨some a, cap, by rw [hxl], by rw [hxl]; exact hlc, fun hp => ?_⟩, by rw [hxl]; omega, hq⟩
      rw [hxl] at hp
      have hcell : ∀ j u, cs[j]? = some u → w.cell? (a.add j) = some u := by
       intro j u hu
       have hj : j < len * te.size := by rw [← hcl]; exact (List.getElem?_eq_some_iff.1 hu).1
       have hi : j / te.size < len := Nat.div_lt_of_lt_mul (by rw [Nat.mul_comm]; exact hj)
       obtain ⟨c, _, h1, hl, _⟩ := hrow (j / te.size) hi
       have hjm : j % te.size < te.size := Nat.mod_lt _ hpos
       have e1 : j / te.size * te.size + j % te.size = j := by rw [Nat.mul_comm]; exact Nat.div_add_mod _ _
       have := hg (j / te.size) (j % te.size) c hi h1 hjm
       rw [e1, hu] at this
       rw [Nat.zero_add] at h1
       have h3 := (cells_get h1).2 (j % te.size) u this.symm
       have e2 : (a.add (j / te.size * te.size)).add (j % te.size) = a.add j := add_two a e1
       rw [← e2]
       exact h3
      have h0 : ∃ u, cs[0]? = some u := by
       refine ⟨_, List.getElem?_eq_getElem ?_⟩
       rw [hcl]
       exact Nat.mul_pos hp hpos
      obtain ⟨u, hu⟩ := h0
      have hp := cell_place (hcell 0 u hu)
      obtain ⟨g, o, s⟩ := a
      obtain ⟨hp1, hp2⟩ := hp
      have hs : s = none := hp1
      subst hs
      exact ⟨g, o, cs, rfl, hp2, hr, fun j u hu => by rw [← add_plain]; exact hcell j u hu⟩
    ·cases hty
   ·cases hty
  ·rename_i fields hu
   split at hty
   ·rename_i ts hts
    split at hty
    ·rename_i hc
     cases hty
     obtain ⟨xs, n, _, _, hlen, _, hf⟩ := DataW.trod_struct hu h
     rw [Nat.eq_of_beq_eq_true hc] at hlen
     have hf : ∀ f ∈ fields.toList, ∃ y, DataW.trod enc P w 0 sp held n f.type ((cs.drop f.offset).take (P.cellsOf f.type)) = some y := by
      intro f hm
      obtain ⟨i, hi, e⟩ := List.getElem_of_mem hm
      have hi' : i < fields.size := by simpa using hi
      have e' : fields[i]? = some f := by rw [Array.getElem?_eq_getElem hi']; simp only [← e, Array.getElem_toList]
      have := hf i f e'
      rw [this]
      exact ⟨xs[i]'(by omega), List.getElem?_eq_getElem _⟩
     have := z6d (cs := cs) (D := fun t us => ∃ y, DataW.trod enc P w 0 sp held n t us = some y) (fun t ty us h1 ⟨y, h2⟩ => z4z k t ty h1 n us y h2) fields.toList ts 0 hts hf (by rw [List.drop_zero]; exact hlen)
     rw [List.drop_zero] at this
     exact this
    ·cases hty
   ·cases hty
  ·cases hty
def aggB (P : Program) (t : Nat) : Bool := match P.underlying t with
 | some (.struct _) => true
 | _ => false
theorem z2L : ∀ (t : Ty), t.eqv t = some ⟨rfl⟩
 | .int k => by
  have : ikEq k k = true := by cases k <;> rfl
  simp [Ty.eqv, this]
 | .bool => rfl
 | .str => rfl
 | .sl t => by
  unfold Ty.eqv
  rw [z2L t]
 | .pr a b => by
  unfold Ty.eqv
  rw [z2L a, z2L b]
 | .un => rfl
 | .ic => rfl
 | .fv => rfl
 | .fk f => by simp [Ty.eqv]
 | .tr a b => by
  unfold Ty.eqv
  rw [z2L a, z2L b]
theorem z2H (C : Nat → Blk) : ∀ (t : Ty) (x : t.den) (r : List AV), pack C t (unpack t x ++ r) = some (x, r, [])
 | .int k, x, r => by
  have : dat1 C (.int k) (.d (.int k) x) = some (x, []) := by
   show (if ikEq k k = true then some (x, []) else none) = _
   rw [if_pos (by cases k <;> rfl)]
  show (match dat1 C (.int k) (.d (.int k) x) with | some (x, f) => some (x, r, f) | none => none) = _
  rw [this]
 | .bool, x, r => rfl
 | .str, x, r => rfl
 | .sl t, x, r => by
  have : dat1 C (.sl t) (.d (.sl t) x) = some (x, []) := by
   simp only [dat1, z2L]
   rfl
  show (match dat1 C (.sl t) (.d (.sl t) x) with | some (x, f) => some (x, r, f) | none => none) = _
  rw [this]
 | .pr a b, x, r => by
  show pack C (.pr a b) ((unpack a x.1 ++ unpack b x.2) ++ r) = _
  rw [List.append_assoc]
  unfold pack
  rw [z2H C a x.1]
  simp only
  rw [z2H C b x.2]
  rfl
 | .un, x, r => rfl
 | .ic, x, r => rfl
 | .fv, x, r => rfl
 | .fk f, x, r => by
  have : dat1 C (.fk f) (.fn f []) = some ((), []) := by
   show (if Nat.beq f f = true then some ((), []) else none) = _
   rw [if_pos (Nat.beq_refl f)]
  show (match dat1 C (.fk f) (.fn f []) with | some (x, f) => some (x, r, f) | none => none) = _
  rw [this]
 | .tr a b, x, r => by
  have : dat1 C (.tr a b) (.d (.tr a b) x) = some (x, []) := by
   simp only [dat1, z2L]
   rfl
  show (match dat1 C (.tr a b) (.d (.tr a b) x) with | some (x, f) => some (x, r, f) | none => none) = _
  rw [this]
theorem dat_ag (C : Nat → Blk) (t : Ty) (x : t.den) : dat C t (.ag (unpack t x)) = some (x, []) := by
 have := z2H C t x []
 rw [List.append_nil] at this
 show (match pack C t (unpack t x) with | some (x, [], f) => some (x, f) | _ => none) = _
 rw [this]
theorem take_ag (C : Nat → Blk) (t : Ty) (x : t.den) : SV.take C [] (.d true t) (.ag (unpack t x)) = some (x, []) := dat_ag C t x
theorem take_one (C : Nat → Blk) (t : Ty) (x : t.den) (h : unpack t x = [.d t x]) : SV.take C [] (.d false t) (.d t x) = some (x, []) := by
 have := z2H C t x []
 rw [List.append_nil, h] at this
 show (match pack C t [.d t x] with | some (x, [], f) => some (x, f) | _ => none) = _
 rw [this]
theorem open_arg {r : Reach} {b0 k t : Nat} {ty : Ty} {v : Value} {d : DataW H} {ps : List MemPlace} (hg : goodTy P (k + 1) t = some ty) (hv : Value.okWide P w r b0 t v) (hd : DataW.Trod enc P w 0 sp held t v d ps) :
  ∃ (a : AV) (x : ty.den), RelV w (fun b => b < w.heap.size) iNone a v ∧ SV.take cDead [] (.d (aggB P t) ty) a = some (x, []) ∧ ty.fit x := by
 obtain ⟨fuel, hf⟩ := hd
 obtain ⟨x, hx, hfit⟩ := z4z (k + 1) t ty hg fuel _ _ hf
 unfold goodTy at hg
 unfold aggB
 split at hg
 ·rename_i i hu
  cases hg
  obtain ⟨n, rfl⟩ := okWide_int hu hv
  rw [hu]
  exact ⟨_, x, by simp only [RelV]; exact hx, take_one _ _ x rfl, hfit⟩
 ·rename_i hu
  cases hg
  obtain ⟨n, rfl⟩ := okWide_bool hu hv
  rw [hu]
  exact ⟨_, x, by simp only [RelV]; exact hx, take_one _ _ x rfl, hfit⟩
 ·rename_i hu
  cases hg
  obtain ⟨n, rfl⟩ := okWide_string hu hv
  rw [hu]
  exact ⟨_, x, by simp only [RelV]; exact hx, take_one _ _ x rfl, hfit⟩
 ·rename_i e hu
  split at hg
  ·split at hg
   ·cases hg
    obtain ⟨a, l, c, rfl⟩ := okWide_slice hu hv
    rw [hu]
    exact ⟨_, x, by simp only [RelV]; exact hx, take_one _ _ x rfl, hfit⟩
   ·cases hg
  ·cases hg
 ·rename_i fs hu
  split at hg
  ·split at hg
   ·cases hg
    obtain ⟨cs, rfl, _⟩ := okWide_struct hu hv
    rw [hu]
    have hx : Rz _ _ _ x cs.toList := hx
    exact ⟨_, x, by simp only [RelV]; exact ⟨cs.toList, by simp, z0A _ _ _ hx⟩, take_ag _ _ x, hfit⟩
   ·cases hg
  ·cases hg
 ·cases hg
def argsOf (P : Program) : List Nat → Option (List SV)
 | [] => some []
 | t :: r => match goodTy P 16 t with
  | some ty => match argsOf P r with
   | some s => some (.d (aggB P t) ty :: s)
   | none => none
  | none => none
def fitDL : (l : List SV) → SV.denL l → Prop
 | [], _ => True
 | .d _ t :: r, x => t.fit x.1 ∧ fitDL r x.2
 | _ :: _, _ => False
theorem open_args {r : Reach} {b0 : Nat} : ∀ (ts : List TypeId) (vs : List Value) (ds : List (DataW H)) (ps : List MemPlace), DataW.TrodAll enc P w 0 sp held ts vs ds ps →
  (∀ (j : Nat) t v, ts[j]? = some t → vs[j]? = some v → Value.okWide P w r b0 t v) → ∀ (svs : List SV), argsOf P ts = some svs →
  ∃ (avs : List AV) (x : SV.denL svs), RelL w (fun b => b < w.heap.size) iNone avs vs ∧ SV.takeL cDead [] svs avs = some (x, []) ∧ fitDL svs x
 | [], vs, ds, ps, h, _, svs, hs => by
  obtain ⟨rfl, _, _⟩ := trodAll_nil h
  cases hs
  exact ⟨[], (), z0b.2 rfl, rfl, trivial⟩
 | t :: ts, vs, ds, ps, h, hv, svs, hs => by
  obtain ⟨v, vs', d, ds', p, q, rfl, rfl, rfl, hd, hr⟩ := trodAll_cons h
  unfold argsOf at hs
  split at hs
  ·rename_i ty hty
   split at hs
   ·rename_i s hs'
    cases hs
    obtain ⟨a, x, h1, h2, h3⟩ := open_arg hty (hv 0 t v rfl rfl) hd
    obtain ⟨avs, y, h4, h5, h6⟩ := open_args ts vs' ds' q hr (fun j t' v' h7 h8 => hv (j + 1) t' v' h7 h8) s hs'
    refine ⟨a :: avs, (x, y), z0a.2 ⟨v, vs', rfl, h1, h4⟩, ?_, h3, h6⟩
    unfold SV.takeL
    rw [h2]
    simp only
    rw [h5]
    rfl
   ·cases hs
  ·cases hs
theorem shut_args {W W' : World} (hl : laidOutB P = true) (hb : Below W.heap.size W W') : ∀ (ts : List TypeId) (vs : List Value) (ds : List (DataW H)) (ps : List MemPlace), (∀ t ∈ ts, P.readableRec t = true ∧ t < P.types.size) →
  DataW.TrodAll enc P W 0 (fun _ => true) true ts vs ds ps → DataW.TrodAll enc P W' 0 (fun b => decide (b < W.heap.size)) true ts vs ds ps
 | [], vs, ds, ps, _, h => by
  obtain ⟨rfl, rfl, rfl⟩ := trodAll_nil h
  exact trodAll_mk0
 | t :: ts, vs, ds, ps, ht, h => by
  obtain ⟨v, vs', d, ds', p, q, rfl, rfl, rfl, hd, hr⟩ := trodAll_cons h
  have lt : ∀ x ∈ p, x.block < W.heap.size := by
   obtain ⟨m, hm⟩ := hd
   exact DataW.trod_lt m _ _ _ hm
  exact trodAll_cons_mk (Below.trod hl (ht t (by simp)).1 (ht t (by simp)).2 hd hb lt) (shut_args hl hb ts vs' ds' q (fun t' h' => ht t' (by simp [h'])) hr)
end
end Go.Proofs.Rf
namespace Go.Proofs.Rf
open Go Go.RowKit
section
variable {X keep : Nat → Prop} {w0 w : World} {ι : Nat → Option Value} {C : Nat → Blk} {P : Program}
theorem left_push : ∀ {es : List MapEntry} {seen : Array Nat} {j : Nat} {e : MapEntry}, (es.map fun e => e.born).Nodup → (z6S es seen)[j]? = some e → z6S es (seen.push e.born) = (z6S es seen).eraseIdx j := by
 have key : ∀ (L : List MapEntry) (j : Nat) (e : MapEntry), (L.map fun e => e.born).Nodup → L[j]? = some e → L.filter (fun x => !(x.born == e.born)) = L.eraseIdx j := by
  intro L
  induction L with
  | nil => intro j e _ h; simp at h
  | cons x r ih =>
   intro j e hn h
   simp only [List.map_cons, List.nodup_cons] at hn
   cases j with
   | zero =>
    simp only [List.getElem?_cons_zero, Option.some.injEq] at h
    subst h
    simp only [List.filter_cons, beq_self_eq_true, Bool.not_true, Bool.false_eq_true, if_false, List.eraseIdx_cons_zero]
    rw [List.filter_eq_self]
    intro y hy
    have : y.born ≠ x.born := fun q => hn.1 (List.mem_map.2 ⟨y, hy, q⟩)
    simpa using this
   | succ j =>
    have h : r[j]? = some e := by simpa using h
    have hne : x.born ≠ e.born := fun q => hn.1 (List.mem_map.2 ⟨e, List.mem_of_getElem? h, q.symm⟩)
    have : (!(x.born == e.born)) = true := by simpa using hne
    rw [List.filter_cons, if_pos this, List.eraseIdx_cons_succ, ih j e hn.2 h]
 intro es seen j e hn h
 have hn' : ((z6S es seen).map fun e => e.born).Nodup := ((List.filter_sublist ..).map _).nodup hn
 rw [← key _ j e hn' h]
 unfold z6S
 rw [List.filter_filter]
 refine List.filter_congr fun x _ => ?_
 rw [Array.contains_push]
 cases seen.contains x.born <;> cases x.born == e.born <;> rfl
theorem perm_cons_erase {α : Type} : ∀ (l : List α) (j : Nat) (x : α), l[j]? = some x → (x :: l.eraseIdx j).Perm l
 | [], _, _, h => by simp at h
 | a :: r, 0, x, h => by
  simp only [List.getElem?_cons_zero, Option.some.injEq] at h
  subst h
  simp
 | a :: r, j + 1, x, h => by
  have ih := perm_cons_erase r j x (by simpa using h)
  rw [List.eraseIdx_cons_succ]
  exact (List.Perm.swap ..).trans (ih.cons a)
theorem nextM_op (h : HRel X keep w0 ι C w) {nb b : Nat} {vx : Value} {ty : TypeId} (hx : RelV w (okb X w ι C) ι (.pt b 0) vx) {kt : Ty} {va : Bool} {vt : Ty} {l cur : List (kt.den × vt.den)} (hb : C b = .mi kt va vt l cur) :
  (l = [] ∧ ∃ v w', (Instr.next vx false ty).run P w = .ok v w' ∧ Out X keep w0 ι C w nb ⟨.tp [.d .bool false], [], []⟩ v w') ∨
  ∃ p r v w', l.Perm (p :: r) ∧ (Instr.next vx false ty).run P w = .ok v w' ∧ Out X keep w0 ι C w nb ⟨.tp [.d .bool true, avD kt.kag kt p.1, avD va vt p.2], [(b, .mi kt va vt r [p])], []⟩ v w' := by
 have hB := h.bl b
 rw [hb] at hB
 obtain ⟨g, m, es, ck, since, c0, seen, l', h1, h2, h3, h4, h5, ⟨h6, h6'⟩, h7, h8, h9, h10⟩ := hB
 subst h6'
 simp only [RelV] at hx
 obtain ⟨g', k1, k2⟩ := hx
 rw [h1] at k1
 injection k1 with k1
 injection k1 with k1
 injection k1 with k1
 injection k1 with k1
 subst k1; subst k2
 have hg2 : (getObj g).run P w = .ok (.mapIter (some m) since seen c0) w := by simp [getObj, Sem.run, h2]
 have hg4 : (getObj m).run P w = .ok (.map es c0) w := by simp [getObj, Sem.run, h4]
 have hno := next_test_false seen es since c0 h5 h6
 obtain ⟨L, hLd⟩ : ∃ L : Array MapEntry, L = es.filter fun e => !seen.contains e.born := ⟨_, rfl⟩
 have hLl : L.toList = z6S es.toList seen := by rw [hLd, Array.toList_filter]; rfl
 have hmem : ∀ x ∈ L.toList, x.born < since := fun x hx => h5 x (by rw [hLl] at hx; exact (List.mem_filter.1 hx).1)
 have e1 : L.filter (fun x => decide (x.born < since)) = L := Array.filter_eq_self.2 (fun x hx => by simpa using hmem x (by simpa using hx))
 have e2 : L.filter (fun x => decide (x.born ≥ since)) = #[] := by
  rw [Array.filter_eq_empty_iff]
  intro x hx
  have := hmem x (by simpa using hx)
  simp
  omega
 have hlen : L.size = l'.length := by rw [← Array.length_toList, hLl, z3p h9]
 cases hl : L.toList with
 | nil =>
  left
  have hL : L = #[] := by apply Array.ext'; simpa using hl
  have hl0 : l = [] := by
   have : l'.length = 0 := by rw [← hlen, hL]; rfl
   have : l' = [] := List.eq_nil_of_length_eq_zero this
   rw [this] at h8
   exact h8.nil_eq.symm
  refine ⟨hl0, .tuple #[.bool false], w, ?_, Out.z0k h rfl ?_⟩
  ·have e1 := e1
   rw [hL] at e1 e2
   simp only [Instr.next, Sem.run_bind, hg2, hg4, Result.andThen_ok, hno, Bool.false_eq_true, if_false, ← hLd, hL]
   simp [choose, Sem.run, Question.forced]
  ·simp only [RelV]
   exact ⟨[.bool false], rfl, z0a.2 ⟨_, _, rfl, z0q.2 rfl, z0b.2 rfl⟩⟩
 | cons x0 xr =>
  right
  have hne : L.isEmpty = false := by
   cases hq : L.isEmpty with
   | false => rfl
   | true =>
    have : L.size = 0 := by simpa [Array.isEmpty] using hq
    rw [← Array.length_toList, hl] at this
    cases this
  have hsz : 0 < L.size := by rw [← Array.length_toList, hl]; simp
  have hch : ∃ (j : Nat) (w1 : World), j < L.size ∧ w1.heap = w.heap ∧ w1.os = w.os ∧ w1.tape = w.tape ∧ w1.output = w.output ∧ (choose (Question.mapNext L.size)).run P w = .ok j w1 := by
   by_cases hf : L.size ≤ 1
   ·exact ⟨0, w, by omega, rfl, rfl, rfl, rfl, by simp [choose, Sem.run, Question.forced, hf]⟩
   ·exact ⟨_, w.drew, Nat.mod_lt _ (by omega), rfl, rfl, rfl, rfl, by
     simp only [choose, Sem.run, Question.forced, decide_eq_true_eq, hf, if_false, Question.cut]
     rfl⟩
  obtain ⟨j, w1, hj, q1, q2, q3, q4, hrun⟩ := hch
  have hej : (z6S es.toList seen)[j]? = some L[j] := by rw [← hLl]; simp
  have hpj : l'[j]? = some (l'[j]'(by omega)) := List.getElem?_eq_getElem (by omega)
  obtain ⟨p, hp⟩ : ∃ p, p = l'[j]'(by omega) := ⟨_, rfl⟩
  rw [← hp] at hpj
  obtain ⟨r1, r2⟩ := RzM_at h9 hpj hej
  have hlt : g < w.heap.size := (Array.getElem?_eq_some_iff.1 h2).1
  have hgm : g ≠ m := by
   rintro rfl
   rw [h2] at h4
   cases h4
  let w2 : World := { w1 with heap := w1.heap.setIfInBounds g (.mapIter (some m) since (seen.push L[j].born) c0) }
  refine ⟨p, l'.eraseIdx j, .tuple #[.bool true, L[j].key, L[j].val], w2, (h8.symm.trans (perm_cons_erase _ _ _ hpj).symm), ?_, ?_⟩
  ·have hso : (setObj g (.mapIter (some m) since (seen.push L[j].born) c0)).run P w1 = .ok () w2 := by
    have : w1.heap[g]? = some (.mapIter (some m) since seen c0) := by rw [q1]; exact h2
    simp only [setObj, Sem.run, this]
    rfl
   simp only [Instr.next, Sem.run_bind, hg2, hg4, Result.andThen_ok, hno, Bool.false_eq_true, if_false, ← hLd, e1, e2, Array.append_empty, hne, Array.empty_append, Array.size_map, hrun, Array.getElem?_map, Array.getElem?_eq_getElem hj, Option.map_some, hso, Sem.run_pure]
  ·have hbk : bk ι C b = [g] := by unfold bk; rw [hb, h1]; try rfl
   have hbk' : bk ι (setC C b (.mi kt va vt (l'.eraseIdx j) [p])) b = [g] := by unfold bk; rw [z0e, h1]; try rfl
   have hown : ¬ owned ι (setC C b (.mi kt va vt (l'.eraseIdx j) [p])) m := by
    rintro ⟨k, hk⟩
    by_cases e : k = b
    ·subst e
     rw [hbk'] at hk
     exact hgm (List.mem_singleton.1 hk).symm
    ·rw [z0z (z0f e) rfl] at hk
     exact h3.2.1 ⟨k, hk⟩
   have := h.step (C' := setC C b (.mi kt va vt (l'.eraseIdx j) [p])) (ι' := ι) (w' := w2) (fun k => k = b) q2 q3 q4 (by show w.heap.size ≤ (w1.heap.setIfInBounds g _).size; rw [q1]; simp)
    (fun k hk => z0f hk) (fun _ _ q => q) (fun _ _ => rfl) (fun k b' hk q => by
     subst hk
     rw [hbk'] at q
     exact .inr ⟨_, rfl, by rw [hbk]; exact q⟩) (fun k k' b' hk hk' _ _ => hk.trans hk'.symm) (fun b' hb' hk => by
      have hne : g ≠ b' := by rintro rfl; exact hk b rfl (by rw [hbk]; exact List.mem_singleton_self _)
      show (w1.heap.setIfInBounds g _)[b']? = _
      rw [q1]
      simp [hne]) (fun hext k hk => by
     subst hk
     rw [z0e]
     refine ⟨g, m, es, c0, since, c0, seen.push L[j].born, l'.eraseIdx j, h1, ?_, hext.ok m h3, (hext.ce m h3).trans h4, h5, ⟨h6, rfl⟩, h7, List.Perm.refl _, ?_, fun p' hp' => ?_⟩
     ·show (w1.heap.setIfInBounds g _)[g]? = _
      rw [q1]
      simp [hlt]
     ·rw [left_push h7 hej]
      exact z6u j (z1l (fun a v hv => hext.val hv) _ _ h9)
     ·rw [List.mem_singleton.1 hp']
      refine ⟨L[j], ?_, Array.back?_push .., rfl, hext.val r1, hext.val r2⟩
      have := List.mem_of_getElem? hej
      exact (List.mem_filter.1 this).1)
   refine ⟨ι, this.1, this.2, ?_, fun _ _ => rfl⟩
   simp only [RelV]
   exact ⟨[.bool true, L[j].key, L[j].val], rfl, z0a.2 ⟨_, _, rfl, z0q.2 rfl, z0a.2 ⟨_, _, rfl, this.2.val r1, z0a.2 ⟨_, _, rfl, this.2.val r2, z0b.2 rfl⟩⟩⟩⟩
end
theorem SRel.out {X keep : Nat → Prop} {w0 w : World} {ι : Nat → Option Value} {n : z0L} {s : St} {a : Act} (h : SRel X keep w0 n ι s a w) {o : Oper} (hd : dstOk n.ok o = true) {e : Eff} (hu : updLt s.bl.length e.upd = true) {v : Value} {w' : World} (ho : Out X keep w0 ι (getB s.bl) w s.bl.length e v w') :
  ∃ ι', SRel X keep w0 n ι' (z5a o s e) (a.put o.dst v) w' := by
 obtain ⟨ι', h1, h2, h3, h4⟩ := ho
 refine ⟨ι', ?_, fun k hk => ?_⟩
 ·have := h.f.step (z4h hd) h1 h2 h3
  rw [stepE_tm, z3O, getB_eff hu]
  exact this
 ·rw [z3O, List.length_append, z1X] at hk
  rw [h4 k (by omega)]
  exact h.dom k (by omega)
def headM (kt vt : Ty) (c : Code) (s : St) : Option (Nat × Bool × List (kt.den × vt.den)) :=
 match c with
 | .seq (.region _ ops false) _ => match ops.toList with
  | o :: _ => match o.op, o.guard with
   | .next x false, none => match ev (getT s.tm) x with
    | .pt b 0 => match getB s.bl b with
     | .mi kt' va' vt' l _ => match kt'.eqv kt, vt'.eqv vt with
      | some h, some k => some (b, va', Ty.z4I h.down k.down l)
      | _, _ => none
     | _ => none
    | _ => none
   | _, _ => none
  | [] => none
 | _ => none
section
variable (TT : Tab) (Δ : Nat → Option z0G) (n : Nat → Bool) (Λ : Nat → Option z0Y)
noncomputable def stepK (head : Shape) (ways : List Way) (c : Code) (s : St) (e : Eff) : Option (head.den ⊕ denX ways) :=
 match c with
 | .seq (.region _ ops false) rest => match ops.toList with
  | o :: os => if (dstOk n o && updLt s.bl.length e.upd) = true then evOps TT Δ n ops false (zipN 1 os) (z5a o s e) [] fun s _ => evC TT Δ n Λ rest s fun e s => match e with
    | .nm => (match head.take s with
     | some y => some (.inl y)
     | none => none)
    | .ex j => toX ways (.ex j) s fun y => some (.inr y)
    | .rt => toX ways .rt s fun y => some (.inr y)
   else none
  | [] => none
 | _ => none
noncomputable def z4Z (kt vt : Ty) (head : Shape) (ways : List Way) (c : Code) (x : head.den) (q : Option ((kt.den × vt.den) × List (kt.den × vt.den))) : Option (head.den ⊕ denX ways) :=
 match headM kt vt c (head.put x) with
 | some (b, va, _) => match q with
  | none => stepK TT Δ n Λ head ways c (head.put x) ⟨.tp [.d .bool false], [], []⟩
  | some (p, r) => stepK TT Δ n Λ head ways c (head.put x) ⟨.tp [.d .bool true, avD kt.kag kt p.1, avD va vt p.2], [(b, .mi kt va vt r [p])], []⟩
 | none => none
end
def z5b (kt vt : Ty) (head : Shape) (c : Code) (x : head.den) : Option (List (kt.den × vt.den)) := (headM kt vt c (head.put x)).map fun p => p.2.2
def nextOK {A B : Type} (R : A → Prop) (y : B) : Option (A ⊕ B) → Prop
 | some (.inl x') => R x'
 | some (.inr z) => z = y
 | none => False
def goodM {A B E : Type} (left : A → Option (List E)) (st : A → Option (E × List E) → Option (A ⊕ B)) : Nat → A → B → Prop
 | 0, _, _ => False
 | k + 1, x, y => match left x with
  | none => False
  | some l => (l = [] → nextOK (fun x' => goodM left st k x' y) y (st x none)) ∧ ∀ p r, l.Perm (p :: r) → nextOK (fun x' => goodM left st k x' y) y (st x (some (p, r)))
theorem goodM_fun {A B E : Type} {left : A → Option (List E)} {st : A → Option (E × List E) → Option (A ⊕ B)} : ∀ (k j : Nat) (x : A) (y z : B), goodM left st k x y → goodM left st j x z → y = z
 | 0, _, _, _, _, h, _ => h.elim
 | _ + 1, 0, _, _, _, _, h => h.elim
 | k + 1, j + 1, x, y, z, h1, h2 => by
  simp only [goodM] at h1 h2
  cases hl : left x with
  | none => rw [hl] at h1; exact h1.elim
  | some l =>
   rw [hl] at h1 h2
   obtain ⟨a1, a2⟩ := h1
   obtain ⟨b1, b2⟩ := h2
   have go : ∀ q, nextOK (fun x' => goodM left st k x' y) y (st x q) → nextOK (fun x' => goodM left st j x' z) z (st x q) → y = z := by
    intro q h1 h2
    cases hs : st x q with
    | none => rw [hs] at h1; exact h1.elim
    | some u =>
     rw [hs] at h1 h2
     cases u with
     | inl x' => exact goodM_fun k j x' y z h1 h2
     | inr u => exact h1.symm.trans h2
   cases l with
   | nil => exact go none (a1 rfl) (b1 rfl)
   | cons p r => exact go (some (p, r)) (a2 p r (List.Perm.refl _)) (b2 p r (List.Perm.refl _))
open Classical in
noncomputable def limM {A B E : Type} (left : A → Option (List E)) (st : A → Option (E × List E) → Option (A ⊕ B)) (x : A) : Option B := if h : ∃ y k, goodM left st k x y then some h.choose else none
theorem limM_some {A B E : Type} {left : A → Option (List E)} {st : A → Option (E × List E) → Option (A ⊕ B)} {x : A} {y : B} (k : Nat) (h : goodM left st k x y) : limM left st x = some y := by
 unfold limM
 have hex : ∃ y k, goodM left st k x y := ⟨y, k, h⟩
 rw [dif_pos hex]
 obtain ⟨j, hj⟩ := hex.choose_spec
 rw [goodM_fun j k x _ y hj h]
theorem limM_inv {A B E : Type} {left : A → Option (List E)} {st : A → Option (E × List E) → Option (A ⊕ B)} {x : A} {y : B} (h : limM left st x = some y) : ∃ k, goodM left st k x y := by
 unfold limM at h
 split at h
 ·rename_i hex
  injection h with h
  rw [← h]
  exact hex.choose_spec
 ·cases h
theorem z6U : ∀ (l : List Oper) (i : Nat), (zipN i l).map (·.1) = List.range' i l.length
 | [], _ => rfl
 | _ :: l, i => by simp [zipN, z6U l (i + 1), List.range'_succ]
section
variable {P : Program} {TT : Tab} {Δ : Nat → Option z0G} {n : z0L}
theorem headM_some {kt vt : Ty} {c : Code} {s : St} {b : Nat} {va : Bool} {l : List (kt.den × vt.den)} (h : headM kt vt c s = some (b, va, l)) :
  ∃ id ops rest o os x cur, c = .seq (.region id ops false) rest ∧ ops.toList = o :: os ∧ o.op = .next x false ∧ o.guard = none ∧ ev (getT s.tm) x = .pt b 0 ∧ getB s.bl b = .mi kt va vt l cur := by
 unfold headM at h
 repeat' split at h
 all_goals first | (cases h; done) | skip
 rename_i id ops rest _ o os hops _ _ x hop hg _ b' hx _ kt' va' vt' l' cur hb _ _ h1 h2 _ _
 obtain ⟨h1⟩ := h1
 obtain ⟨h2⟩ := h2
 subst h1; subst h2
 injection h with h
 injection h with q1 q2
 injection q2 with q2 q3
 subst q1; subst q2; subst q3
 exact ⟨id, ops, rest, o, os, x, cur, rfl, hops, hop, hg, hx, hb⟩
theorem lpM_ok (hm : P.follows .mixedOrders = true) (hP : z0n P TT) (hΔ : z0R P Δ) {ρ : Option Nat} {Λ : Nat → Option z0Y} {head : Shape} {ways : List Way} {c : Code} (hL : LoopsIn P n ρ Λ c) {kt vt : Ty} {g : head.den → Option (denX ways)}
  (hg : ∀ x y, g x = some y → ∃ k, goodM (z5b kt vt head c) (z4Z TT Δ n.ok Λ kt vt head ways c) k x y) : LoopOK P n ρ (lp head ways g) c := by
 intro dp X keep w0 w ι s a R K r Q h hev hQ
 unfold lp at hev
 split at hev
 ·rename_i x hx
  obtain ⟨y, hy, hk⟩ := z1e hev
  obtain ⟨k, hit⟩ := hg x y hy
  obtain ⟨ι', h'⟩ := Shape.z0H h hx
  refine z6X (fun k a w => ∃ x ι k1 v1, z2y keep w0 k1 v1 ∧ SRel X k1 v1 n ι (head.put x) a w ∧ goodM (z5b kt vt head c) (z4Z TT Δ n.ok Λ kt vt head ways c) k x y) ?_ ?_ (k := k) ⟨x, ι', keep, w0, z2y.refl _ _, h', hit⟩
  ·rintro a w ⟨x, ι, _, _, _, _, h⟩
   exact h
  ·rintro k a w ⟨x, ι, k1, v1, hl, h, hit⟩
   simp only [goodM] at hit
   cases hh : headM kt vt c (head.put x) with
   | none => rw [show z5b kt vt head c x = none by unfold z5b; rw [hh]; rfl] at hit; exact hit.elim
   | some hd =>
    obtain ⟨b, va, l⟩ := hd
    rw [show z5b kt vt head c x = some l by unfold z5b; rw [hh]; rfl] at hit
    obtain ⟨hit1, hit2⟩ := hit
    obtain ⟨id, ops, rest, o, os, opx, cur, rfl, hops, hop, hgu, hx, hb⟩ := headM_some hh
    have hblt : b < (head.put x).bl.length := by
     rcases Nat.lt_or_ge b (head.put x).bl.length with q | q
     ·exact q
     ·rw [z2K _ _ q] at hb; cases hb
    have fin : ∀ (e : Eff) (v : Value) (w1 : World) (u : head.den ⊕ denX ways), (Instr.next (a.eval opx) false o.type).run P w = .ok v w1 → Out X k1 v1 ι (getB (head.put x).bl) w (head.put x).bl.length e v w1 →
      stepK TT Δ n.ok Λ head ways (.seq (.region id ops false) rest) (head.put x) e = some u → (∀ x', u = .inl x' → goodM (z5b kt vt head (.seq (.region id ops false) rest)) (z4Z TT Δ n.ok Λ kt vt head ways (.seq (.region id ops false) rest)) k x' y) → (∀ z, u = .inr z → z = y) →
      (Code.seq (.region id ops false) rest).wpIn (WF ρ) dp P (Exit.then (fun a' w' => ∃ x ι k1 v1, z2y keep w0 k1 v1 ∧ SRel X k1 v1 n ι (head.put x) a' w' ∧ goodM (z5b kt vt head (.seq (.region id ops false) rest)) (z4Z TT Δ n.ok Λ kt vt head ways (.seq (.region id ops false) rest)) k x y) Q) a w := by
     intro e v w1 u hrun hout hst h1 h2
     simp only [stepK, hops] at hst
     split at hst
     ·rename_i hc
      simp only [Bool.and_eq_true] at hc
      obtain ⟨ι2, S2⟩ := h.out hc.1 hc.2 hout
      refine wpIn_seq (wpIn_region ?_)
      have hsz : ops.size = os.length + 1 := by rw [← Array.length_toList, hops]; rfl
      rw [hsz, List.range_eq_range', List.range'_succ, wpOpsIn_cons]
      have h0 : ops[0]? = some o := by rw [← Array.getElem?_toList, hops]; rfl
      unfold wpOpIn
      rw [h0]
      have hw : Region.wanted o (yielded ops a.tmps) = true := by simp [Region.wanted, hgu]
      simp only [hw, if_true]
      refine z4q (fun c hc => by rw [hop] at hc; cases hc) (Runs.wp (Post := fun v' w' => v' = v ∧ w' = w1) ?_ ?_)
      ·unfold execOp
       rw [hop]
       exact z0x ⟨v, w1, hrun, rfl, rfl⟩
      ·rintro v' w' ⟨rfl, rfl⟩
       rw [show List.range' (0 + 1) os.length = (zipN 1 os).map (·.1) from (z6U os 1).symm]
       refine evOps_seq hP hΔ (zipN 1 os) _ [] _ _ ι2 (fun p hp => by
        obtain ⟨k, q1, q2⟩ := zipN_get _ _ p hp
        rw [q1, ← Array.getElem?_toList, hops, Nat.add_comm, List.getElem?_cons_succ]
        exact q2) hst S2 (fun s' lg' a' w' ι' hk h' => ?_)
       ·show rest.wpIn (WF ρ) dp P _ a' w'
        refine z0P hm hP hΔ rest hL.2 _ _ _ a' w' ι' k1 v1 h' hk fun e s' a' w' ι'' k2 v2 hl2 hk' h'' => ?_
        have hout : ∀ e : Ex, (toX ways e s' fun y => some (Sum.inr y : head.den ⊕ denX ways)) = some u → Q e.out a' w' := by
         intro e hk'
         obtain ⟨z, hz1, hz2⟩ := z5l h'' ways _ hk'
         injection hz1 with hz1
         have hz := h2 z hz1.symm
         subst hz
         obtain ⟨s2, ι2, q1, q2⟩ := hz2 K r ‹_›
         exact hQ e s2 a' w' ι2 k2 v2 (hl.trans hl2) q2 q1
        cases e with
        | nm =>
         simp only at hk'
         split at hk'
         ·rename_i x' hx'
          injection hk' with hk'
          obtain ⟨ι3, h3⟩ := Shape.z0H h'' hx'
          exact ⟨x', ι3, k2, v2, hl.trans hl2, h3, h1 x' hk'.symm⟩
         ·cases hk'
        | ex j => exact hout (.ex j) hk'
        | rt => exact hout .rt hk'
     ·cases hst
    have hxr : RelV w (okb X w ι (getB (head.put x).bl)) ι (.pt b 0) (a.eval opx) := by
     have := z6e h.f.tm opx
     rw [hx] at this
     exact this
    have pick : ∀ (q : Option ((kt.den × vt.den) × List (kt.den × vt.den))), nextOK (fun x' => goodM (z5b kt vt head (.seq (.region id ops false) rest)) (z4Z TT Δ n.ok Λ kt vt head ways (.seq (.region id ops false) rest)) k x' y) y (z4Z TT Δ n.ok Λ kt vt head ways (.seq (.region id ops false) rest) x q) →
      ∃ u, z4Z TT Δ n.ok Λ kt vt head ways (.seq (.region id ops false) rest) x q = some u ∧ (∀ x', u = .inl x' → goodM (z5b kt vt head (.seq (.region id ops false) rest)) (z4Z TT Δ n.ok Λ kt vt head ways (.seq (.region id ops false) rest)) k x' y) ∧ (∀ z, u = .inr z → z = y) := by
     intro q hq
     cases he : z4Z TT Δ n.ok Λ kt vt head ways (.seq (.region id ops false) rest) x q with
     | none => rw [he] at hq; exact hq.elim
     | some u =>
      rw [he] at hq
      cases u with
      | inl x' => exact ⟨_, rfl, fun x'' e => by injection e with e; subst e; exact hq, fun z e => by cases e⟩
      | inr z => exact ⟨_, rfl, fun x'' e => (by cases e), fun z' e => by injection e with e; subst e; exact hq⟩
    rcases nextM_op (P := P) (nb := (head.put x).bl.length) (ty := o.type) h.f.h hxr hb with ⟨hl0, v, w1, hrun, hout⟩ | ⟨p, rr, v, w1, hp, hrun, hout⟩
    ·obtain ⟨u, hu, h1, h2⟩ := pick none (hit1 hl0)
     simp only [z4Z, hh] at hu
     exact fin _ v w1 u hrun hout hu h1 h2
    ·obtain ⟨u, hu, h1, h2⟩ := pick (some (p, rr)) (hit2 p rr hp)
     simp only [z4Z, hh] at hu
     exact fin _ v w1 u hrun hout hu h1 h2
 ·cases hev
noncomputable def stepFnM (TT : Tab) (Δ : List (Nat × z0G)) (Λ : List (Nat × z0Y)) (ok : Nat → Bool) (f : Func) (r : Nat) (kt vt : Ty) (head : Shape) (ways : List Way) (x : head.den) (q : Option ((kt.den × vt.den) × List (kt.den × vt.den))) : Option (head.den ⊕ denX ways) :=
 z4Z TT (lookL Δ) ok (lookL Λ) kt vt head ways (z0M f r) x q
def LimM {A B E : Type} (left : A → Option (List E)) (st : A → Option (E × List E) → Option (A ⊕ B)) (g : A → Option B) : Prop := ∀ x y, g x = some y → ∃ k, goodM left st k x y
theorem lim_limM {A B E : Type} {left : A → Option (List E)} {st : A → Option (E × List E) → Option (A ⊕ B)} : LimM left st (limM left st) := fun _ _ h => limM_inv h
theorem stepLimM_ok {P : Program} {TT : Tab} (hm : P.follows .mixedOrders = true) (hP : z0n P TT) {Δ : List (Nat × z0G)} (hΔ : z3q P Δ) {Λ : List (Nat × z0Y)} {fn : Func} {r : Nat} {kt vt : Ty} {head : Shape} {ways : List Way} {ok : Nat → Bool} {inn : Bool}
  {g : head.den → Option (denX ways)} (hg : LimM (z5b kt vt head (z0M fn r)) (stepFnM TT Δ Λ ok fn r kt vt head ways) g) (hL : z6D P ok inn Λ (z0M fn r)) : LoopAt P ok inn (lp head ways g) (.loop (z0M fn r)) := by
 intro n hn ρ hi
 subst hn
 exact lpM_ok hm hP (z3o hΔ) (hL n rfl ρ hi) fun x y h => hg x y h
end
end Go.Proofs.Rf
