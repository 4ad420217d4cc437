/- Rf, part c: a change of some blocks; freezing; packing; what the table of types says of the program. -/
import Derived.Test.YtgkgjgcoalmldaaFb
import Derived.Laws.Cells
import Derived.Laws.CopyRow
import Derived.Laws.MakeOwn
namespace Go.Proofs.Rf
open Go Go.RowKit

def setC (C : Nat → Blk) (k : Nat) (b : Blk) : Nat → Blk := fun j => if j = k then b else C j
def updC (C : Nat → Blk) : List (Nat × Blk) → Nat → Blk
  | [] => C
  | (k, b) :: r => updC (setC C k b) r
def addC (C : Nat → Blk) (nb : Nat) : List Blk → Nat → Blk
  | [] => C
  | b :: r => addC (setC C nb b) (nb + 1) r
def effC (C : Nat → Blk) (nb : Nat) (e : Eff) : Nat → Blk := addC (updC C e.upd) nb e.new
def setI (ι : Nat → Option Value) (k : Nat) (v : Value) : Nat → Option Value := fun j => if j = k then some v else ι j

theorem setC_self (C : Nat → Blk) (k : Nat) (b : Blk) : setC C k b k = b := by simp [setC]
theorem setC_ne {C : Nat → Blk} {k j : Nat} {b : Blk} (h : j ≠ k) : setC C k b j = C j := by simp [setC, h]
theorem setI_self (ι : Nat → Option Value) (k : Nat) (v : Value) : setI ι k v k = some v := by simp [setI]
theorem setI_ne {ι : Nat → Option Value} {k j : Nat} {v : Value} (h : j ≠ k) : setI ι k v j = ι j := by simp [setI, h]

theorem updC_append (C : Nat → Blk) (f g : List (Nat × Blk)) : updC C (f ++ g) = updC (updC C f) g := by
  induction f generalizing C with
  | nil => rfl
  | cons p r ih => exact ih _

theorem bk_congr {ι ι' : Nat → Option Value} {C C' : Nat → Blk} {k : Nat} (h : C' k = C k) (hi : ι' k = ι k) : bk ι' C' k = bk ι C k := by simp only [bk, h, hi]

section
variable {X keep : Nat → Prop} {w0 w : World} {ι : Nat → Option Value} {C : Nat → Blk}

/-- Some blocks (S) change; the others stay. -/
theorem HRel.step (h : HRel X keep w0 ι C w) {C' : Nat → Blk} {ι' : Nat → Option Value} {w' : World} (S : Nat → Prop)
    (hos : w'.os = w.os) (htape : w'.tape = w.tape) (hout : w'.output = w.output) (hsz : w.heap.size ≤ w'.heap.size)
    (hC : ∀ k, ¬ S k → C' k = C k) (hι : ∀ k v, ι k = some v → ι' k = some v) (hι2 : ∀ k, ¬ S k → ι' k = ι k)
    (hown : ∀ k b, S k → bk ι' C' k = some b → w.heap.size ≤ b ∨ ∃ k0, S k0 ∧ bk ι C k0 = some b)
    (hinj : ∀ k k' b, S k → S k' → bk ι' C' k = some b → bk ι' C' k' = some b → k = k')
    (hbl : ∀ b, b < w.heap.size → (∀ k, S k → bk ι C k ≠ some b) → w'.heap[b]? = w.heap[b]?)
    (hS : Ext X ι C w ι' C' w' → ∀ k, S k → RelB w' (okb X w' ι' C') ι' k (C' k)) : HRel X keep w0 ι' C' w' ∧ Ext X ι C w ι' C' w' := by
  have hkeep : ∀ k, ¬ S k → bk ι' C' k = bk ι C k := fun k hk => bk_congr (hC k hk) (hι2 k hk)
  have hold : ∀ b, owned ι' C' b → w.heap.size ≤ b ∨ owned ι C b := by
    rintro b ⟨k, hk⟩
    by_cases hs : S k
    · rcases hown k b hs hk with h1 | ⟨k0, _, h2⟩
      · exact .inl h1
      · exact .inr ⟨k0, h2⟩
    · exact .inr ⟨k, by rw [← hkeep k hs]; exact hk⟩
  have hext : Ext X ι C w ι' C' w' := by
    refine ⟨hι, fun b hb => ⟨Nat.lt_of_lt_of_le hb.1 hsz, fun ho => ?_, hb.2.2⟩, fun b hb => hbl b hb.1 fun k _ hk => hb.2.1 ⟨k, hk⟩⟩
    rcases hold b ho with h1 | h1
    · exact absurd hb.1 (by omega)
    · exact hb.2.1 h1
  refine ⟨⟨fun k => ?_, fun k k' b h1 h2 => ?_, ?_, fun b hb hk => ?_, h.kl, fun b hb hx => ?_, h.xl⟩, hext⟩
  · by_cases hs : S k
    · exact hS hext k hs
    · refine RelB_keep hext k (h.bl k) (hC k hs) fun b hb => hbl b (h.lt ⟨k, hb⟩) fun k0 h0 h1 => ?_
      exact hs (h.inj k0 k b h1 hb ▸ h0)
  · have cross : ∀ k k', S k → ¬ S k' → bk ι' C' k = some b → bk ι' C' k' = some b → False := by
      intro k k' hs hs' h1 h2
      rw [hkeep k' hs'] at h2
      rcases hown k b hs h1 with h3 | ⟨k0, h4, h5⟩
      · exact absurd (h.lt ⟨k', h2⟩) (by omega)
      · exact hs' (h.inj k0 k' b h5 h2 ▸ h4)
    by_cases hs : S k <;> by_cases hs' : S k'
    · exact hinj k k' b hs hs' h1 h2
    · exact (cross k k' hs hs' h1 h2).elim
    · exact (cross k' k hs' hs h2 h1).elim
    · exact h.inj k k' b (by rw [← hkeep k hs]; exact h1) (by rw [← hkeep k' hs']; exact h2)
  · exact h.fr.trans ⟨hos, htape, hout, hsz, fun b hb hl => hbl b hl fun k _ hk => h.own b ⟨k, hk⟩ hb⟩
  · rcases hold b hb with h1 | h1
    · exact absurd (h.kl b hk) (by have := h.fr.size; omega)
    · exact h.own b h1 hk
  · rcases hold b hb with h1 | h1
    · exact absurd (h.xl b hx) (by have := h.fr.size; omega)
    · exact h.ox b h1 hx

/-- Rows that are read as data alone from here on. -/
theorem HRel.freeze (h : HRel X keep w0 ι C w) {k : Nat} {t : Ty} {e : Nat} {xs : List t.den} (hk : C k = .row t e xs true) :
    HRel X keep w0 ι (setC C k (.row t e xs false)) w ∧ Ext X ι C w ι (setC C k (.row t e xs false)) w := by
  have hnone : bk ι (setC C k (.row t e xs false)) k = none := by
    unfold bk; rw [setC_self]
  refine h.step (fun j => j = k) rfl rfl rfl (Nat.le_refl _) (fun j hj => setC_ne hj) (fun _ _ e => e) (fun _ _ => rfl) ?_ ?_ (fun _ _ _ => rfl) ?_
  · rintro j b rfl hb
    rw [hnone] at hb; cases hb
  · exact fun j j' b h1 h2 _ _ => h1.trans h2.symm
  · rintro hext j rfl
    rw [setC_self]
    have hB := h.bl j
    rw [hk] at hB
    obtain ⟨v, cs, h1, h2, h3⟩ := hB
    refine ⟨v, h1, ?_, ?_⟩
    · rcases h2.2 with ⟨h4, h5⟩ | ⟨g, cap, cur, hv, _⟩
      · rw [h4]; trivial
      · rw [hv]; exact ⟨rfl, rfl⟩
    have h3' := RzL_mono (fun x us hx => hext.data hx) h3
    rcases h2.2 with ⟨h4, h5⟩ | ⟨g, cap, cur, hv, _, h6, h7, h8, h9, h10⟩
    · exact ⟨none, 0, by rw [h4, h5], by omega, fun hp => by omega⟩
    · refine ⟨some ⟨g, 0, none⟩, cap, by rw [hv], h7, fun hp => ⟨g, 0, cs, rfl, ⟨(Array.getElem?_eq_some_iff.1 h6).1, ?_, h.ox g ⟨j, by unfold bk; rw [hk, h1, hv]; rfl⟩⟩, h3', fun i u hu => ?_⟩⟩
      · rintro ⟨k', hk'⟩
        have hkk : k' ≠ j := by rintro rfl; rw [hnone] at hk'; cases hk'
        rw [bk_congr (setC_ne hkk) rfl] at hk'
        exact hkk (h.inj k' j g hk' (by unfold bk; rw [hk, h1, hv]; rfl))
      · have hcl := h2.cells (g := g) (by rw [hv]; rfl) i u hu
        rw [Nat.zero_add]
        rwa [show (⟨g, 0, none⟩ : Addr).add i = ⟨g, i, none⟩ from by unfold Addr.add; split <;> simp_all] at hcl
end

/-- C0 is C, some rows being frozen. -/
def FrozenOf (C C0 : Nat → Blk) : Prop := ∀ k, C0 k = C k ∨ ∃ t e xs, C k = .row t e xs true ∧ C0 k = .row t e xs false

theorem FrozenOf.refl (C : Nat → Blk) : FrozenOf C C := fun _ => .inl rfl

theorem Ty.eqv_some {a b : Ty} {h : PLift (a = b)} (_ : a.eqv b = some h) : a = b := h.down

section
variable {X keep : Nat → Prop} {w0 w : World} {ι : Nat → Option Value} {C C0 : Nat → Blk}

/-- What freezing gives: the later state, and the data. -/
def Frz (X keep : Nat → Prop) (w0 : World) (ι : Nat → Option Value) (C C0 : Nat → Blk) (w : World) (f : List (Nat × Blk)) : Prop :=
  HRel X keep w0 ι (updC C0 f) w ∧ FrozenOf C (updC C0 f) ∧ Ext X ι C0 w ι (updC C0 f) w

theorem Frz.nil (h : HRel X keep w0 ι C0 w) (hf : FrozenOf C C0) : Frz X keep w0 ι C C0 w [] := ⟨h, hf, Ext.refl _ _ _ _⟩

/-- A row that is met while packing: read as data, frozen from here on. -/
theorem frz_row (h : HRel X keep w0 ι C0 w) (hf : FrozenOf C C0) {b : Nat} {t : Ty} {e : Nat} {xs : List t.den} {rw : Bool} (hb : C b = .row t e xs rw) :
    Frz X keep w0 ι C C0 w (if rw = true then [(b, .row t e xs false)] else []) ∧
    ∃ v, ι b = some v ∧ Rz w (okb X w ι (updC C0 (if rw = true then [(b, .row t e xs false)] else []))) (.sl t) xs [v] := by
  cases rw with
  | false =>
    have h0 : C0 b = .row t e xs false := by
      rcases hf b with h1 | ⟨t', e', xs', h1, h2⟩
      · rw [h1, hb]
      · rw [hb] at h1; cases h1
    have hB := h.bl b
    rw [h0] at hB
    obtain ⟨v, h1, _, h2⟩ := hB
    exact ⟨Frz.nil h hf, v, h1, h2⟩
  | true =>
    rcases hf b with h1 | ⟨t', e', xs', h1, h2⟩
    · rw [hb] at h1
      obtain ⟨h3, h4⟩ := h.freeze h1
      refine ⟨⟨h3, fun k => ?_, h4⟩, ?_⟩
      · by_cases hk : k = b
        · subst hk
          exact .inr ⟨t, e, xs, hb, setC_self _ _ _⟩
        · have := hf k
          rw [show updC C0 (if true = true then [(b, Blk.row t e xs false)] else []) k = C0 k from setC_ne hk]
          exact this
      · have hB := h3.bl b
        rw [setC_self] at hB
        obtain ⟨v, h1, _, h2⟩ := hB
        exact ⟨v, h1, h2⟩
    · rw [hb] at h1
      injection h1 with q1 q2 q3 q4
      subst q1
      subst q2
      have q3 := eq_of_heq q3
      subst q3
      have hsame : setC C0 b (.row t e xs false) = C0 := by
        funext k
        by_cases hk : k = b
        · subst hk; rw [setC_self, h2]
        · rw [setC_ne hk]
      have hu : updC C0 (if true = true then [(b, Blk.row t e xs false)] else []) = C0 := hsame
      rw [show (Frz X keep w0 ι C C0 w (if true = true then [(b, Blk.row t e xs false)] else [])) = (HRel X keep w0 ι (updC C0 (if true = true then [(b, Blk.row t e xs false)] else [])) w ∧ FrozenOf C (updC C0 (if true = true then [(b, Blk.row t e xs false)] else [])) ∧ Ext X ι C0 w ι (updC C0 (if true = true then [(b, Blk.row t e xs false)] else [])) w) from rfl, hu]
      refine ⟨⟨h, hf, Ext.refl _ _ _ _⟩, ?_⟩
      have hB := h.bl b
      rw [h2] at hB
      obtain ⟨v, h1, _, h2⟩ := hB
      exact ⟨v, h1, h2⟩

theorem dat1_sound (h : HRel X keep w0 ι C0 w) (hf : FrozenOf C C0) {t : Ty} {a : AV} {v : Value} (hv : RelV w (okb X w ι C0) ι a v) {x : t.den} {f : List (Nat × Blk)}
    (hd : dat1 C t a = some (x, f)) : Frz X keep w0 ι C C0 w f ∧ Rz w (okb X w ι (updC C0 f)) t x [v] := by
  unfold dat1 at hd
  split at hd
  · split at hd
    · rename_i k k' n hk
      injection hd with hd
      injection hd with h1 h2
      subst h1; subst h2
      rw [← ikEq_eq hk] at hv
      simp only [RelV] at hv
      exact ⟨Frz.nil h hf, hv⟩
    · cases hd
  · injection hd with hd
    injection hd with h1 h2
    subst h1; subst h2
    simp only [RelV] at hv
    exact ⟨Frz.nil h hf, hv⟩
  · injection hd with hd
    injection hd with h1 h2
    subst h1; subst h2
    simp only [RelV] at hv
    exact ⟨Frz.nil h hf, hv⟩
  · rename_i t t' xs
    split at hd
    · rename_i hq _
      obtain ⟨hq⟩ := hq
      subst hq
      injection hd with hd
      injection hd with h1 h2
      subst h1; subst h2
      simp only [RelV] at hv
      exact ⟨Frz.nil h hf, hv⟩
    · cases hd
  · injection hd with hd
    injection hd with h1 h2
    subst h1; subst h2
    simp only [RelV] at hv
    subst hv
    exact ⟨Frz.nil h hf, none, 0, rfl, Nat.le_refl _, fun hp => absurd hp (by simp)⟩
  · rename_i t b
    split at hd
    · rename_i t' e xs rw hb
      split at hd
      · rename_i hq _
        obtain ⟨hq⟩ := hq
        subst hq
        injection hd with hd
        injection hd with h1 h2
        subst h1; subst h2
        obtain ⟨h3, v', h4, h5⟩ := frz_row h hf hb
        simp only [RelV] at hv
        rw [hv.1] at h4
        injection h4 with h4
        subst h4
        exact ⟨h3, h5⟩
      · cases hd
    · cases hd
  · rename_i t b sz off len
    split at hd
    · rename_i t' e xs rw hb
      split at hd
      · rename_i hq _
        obtain ⟨hq⟩ := hq
        subst hq
        split at hd
        · rename_i hsz
          have hsz := Nat.eq_of_beq_eq_true hsz
          subst hsz
          injection hd with hd
          injection hd with h1 h2
          subst h1; subst h2
          obtain ⟨h3, v', h4, h5⟩ := frz_row h hf hb
          simp only [RelV] at hv
          obtain ⟨A, n, c, A', c', e1, e2, e3, e4, e5⟩ := hv
          rw [e1] at h4
          injection h4 with h4
          subst h4
          obtain ⟨A2, c2, q1, q2, q3⟩ := h5
          injection q1 with q1 _
          injection q1 with q11 q12 q13
          subst q11; subst q12; subst q13
          refine ⟨h3, A', c', ?_, ?_, fun hp => ?_⟩
          · rw [e3, Ty.castL_rfl, List.length_take, List.length_drop, Nat.min_eq_left (by omega)]
          · rw [Ty.castL_rfl, List.length_take, List.length_drop]; omega
          · rw [Ty.castL_rfl, List.length_take, List.length_drop] at hp
            obtain ⟨g, o, cs, p1, p2, p3, p4⟩ := q3 (by omega)
            obtain ⟨g', p5, p6⟩ := e5.1 (by omega)
            rw [p1] at p5
            injection p5 with p5
            injection p5 with p5 p7 _
            subst p5; subst p7
            refine ⟨g, off * t'.size, (cs.drop (off * t'.size)).take (len * t'.size), p6, p2, ?_, fun j u hu => ?_⟩
            · rw [Ty.castL_rfl]
              exact RzL_take (Rz_length t') len (RzL_drop (Rz_length t') off p3)
            · have hu2 : cs[off * t'.size + j]? = some u := by
                rw [List.getElem?_take] at hu
                split at hu
                · rwa [List.getElem?_drop] at hu
                · cases hu
              have := p4 _ u hu2
              rwa [Nat.zero_add] at this
        · cases hd
      · cases hd
    · cases hd
  · split at hd
    · rename_i f' g hg
      injection hd with hd
      injection hd with h1 h2
      subst h1; subst h2
      have := Nat.eq_of_beq_eq_true hg
      subst this
      simp only [RelV] at hv
      obtain ⟨us, h1, h2⟩ := hv
      rw [RelL_nil.1 h2] at h1
      exact ⟨Frz.nil h hf, by rw [h1]; rfl⟩
    · cases hd
  · cases hd

theorem pack_sound : ∀ (t : Ty) (C0 : Nat → Blk) (cs : List AV) (us : List Value), HRel X keep w0 ι C0 w → FrozenOf C C0 → RelL w (okb X w ι C0) ι cs us → ∀ (x : t.den) (r : List AV) (f : List (Nat × Blk)),
    pack C t cs = some (x, r, f) → Frz X keep w0 ι C C0 w f ∧ ∃ u1 u2, us = u1 ++ u2 ∧ Rz w (okb X w ι (updC C0 f)) t x u1 ∧ RelL w (okb X w ι (updC C0 f)) ι r u2
  | .pr a b, C0, cs, us, h, hf, hr, x, r, f, hp => by
    simp only [pack] at hp
    split at hp
    · rename_i x1 r1 f1 h1
      split at hp
      · rename_i y r2 f2 h2
        injection hp with hp
        injection hp with q1 q2
        injection q2 with q2 q3
        subst q1; subst q2; subst q3
        obtain ⟨⟨g1, g2, g3⟩, u1, u2, e1, e2, e3⟩ := pack_sound a C0 cs us h hf hr x1 r1 f1 h1
        obtain ⟨⟨k1, k2, k3⟩, v1, v2, e4, e5, e6⟩ := pack_sound b _ r1 u2 g1 g2 e3 y r2 f2 h2
        rw [show Frz X keep w0 ι C C0 w (f1 ++ f2) = (HRel X keep w0 ι (updC C0 (f1 ++ f2)) w ∧ FrozenOf C (updC C0 (f1 ++ f2)) ∧ Ext X ι C0 w ι (updC C0 (f1 ++ f2)) w) from rfl, updC_append]
        exact ⟨⟨k1, k2, g3.trans k3⟩, u1 ++ v1, v2, by rw [e1, e4, List.append_assoc], ⟨u1, v1, rfl, k3.data e2, e5⟩, e6⟩
      · cases hp
    · cases hp
  | .un, C0, cs, us, h, hf, hr, x, r, f, hp => by
    simp only [pack] at hp
    injection hp with hp
    injection hp with q1 q2
    injection q2 with q2 q3
    subst q1; subst q2; subst q3
    exact ⟨Frz.nil h hf, [], us, rfl, rfl, hr⟩
  | .int k, C0, [], us, h, hf, hr, x, r, f, hp => by simp [pack] at hp
  | .bool, C0, [], us, h, hf, hr, x, r, f, hp => by simp [pack] at hp
  | .str, C0, [], us, h, hf, hr, x, r, f, hp => by simp [pack] at hp
  | .sl t, C0, [], us, h, hf, hr, x, r, f, hp => by simp [pack] at hp
  | .fk g, C0, [], us, h, hf, hr, x, r, f, hp => by simp [pack] at hp
  | .int k, C0, c :: cr, us, h, hf, hr, x, r, f, hp => by
    simp only [pack] at hp
    split at hp
    · rename_i x1 f1 h1
      injection hp with hp
      injection hp with q1 q2
      injection q2 with q2 q3
      subst q1; subst q2; subst q3
      obtain ⟨v, vr, e, e1, e2⟩ := RelL_cons.1 hr
      obtain ⟨g1, g2⟩ := dat1_sound h hf e1 h1
      exact ⟨g1, [v], vr, e, g2, g1.2.2.vals e2⟩
    · cases hp
  | .bool, C0, c :: cr, us, h, hf, hr, x, r, f, hp => by
    simp only [pack] at hp
    split at hp
    · rename_i x1 f1 h1
      injection hp with hp
      injection hp with q1 q2
      injection q2 with q2 q3
      subst q1; subst q2; subst q3
      obtain ⟨v, vr, e, e1, e2⟩ := RelL_cons.1 hr
      obtain ⟨g1, g2⟩ := dat1_sound h hf e1 h1
      exact ⟨g1, [v], vr, e, g2, g1.2.2.vals e2⟩
    · cases hp
  | .str, C0, c :: cr, us, h, hf, hr, x, r, f, hp => by
    simp only [pack] at hp
    split at hp
    · rename_i x1 f1 h1
      injection hp with hp
      injection hp with q1 q2
      injection q2 with q2 q3
      subst q1; subst q2; subst q3
      obtain ⟨v, vr, e, e1, e2⟩ := RelL_cons.1 hr
      obtain ⟨g1, g2⟩ := dat1_sound h hf e1 h1
      exact ⟨g1, [v], vr, e, g2, g1.2.2.vals e2⟩
    · cases hp
  | .sl t, C0, c :: cr, us, h, hf, hr, x, r, f, hp => by
    simp only [pack] at hp
    split at hp
    · rename_i x1 f1 h1
      injection hp with hp
      injection hp with q1 q2
      injection q2 with q2 q3
      subst q1; subst q2; subst q3
      obtain ⟨v, vr, e, e1, e2⟩ := RelL_cons.1 hr
      obtain ⟨g1, g2⟩ := dat1_sound h hf e1 h1
      exact ⟨g1, [v], vr, e, g2, g1.2.2.vals e2⟩
    · cases hp
  | .fk g, C0, c :: cr, us, h, hf, hr, x, r, f, hp => by
    simp only [pack] at hp
    split at hp
    · rename_i x1 f1 h1
      injection hp with hp
      injection hp with q1 q2
      injection q2 with q2 q3
      subst q1; subst q2; subst q3
      obtain ⟨v, vr, e, e1, e2⟩ := RelL_cons.1 hr
      obtain ⟨g1, g2⟩ := dat1_sound h hf e1 h1
      exact ⟨g1, [v], vr, e, g2, g1.2.2.vals e2⟩
    · cases hp

/-- The cells of a value. -/
theorem RelV_cells {ok : Nat → Prop} {a : AV} {v : Value} (h : RelV w ok ι a v) (hun : a ≠ .un) (hud : a ≠ .ud) : RelL w ok ι (cellsOf a) v.cells.toList := by
  cases a with
  | ag cs =>
    simp only [RelV] at h
    obtain ⟨us, e, h1⟩ := h
    rw [e]
    exact h1
  | un => exact absurd rfl hun
  | ud => exact absurd rfl hud
  | d t x =>
    have hc : v.cells.toList = [v] := by
      simp only [RelV] at h
      have := Rz_one t x _ h v (by simp)
      cases v <;> first | rfl | (simp [Value.oneCell'] at this)
    rw [hc]
    exact RelL_cons.2 ⟨v, [], rfl, h, RelL_nil.2 rfl⟩
  | nl => 
    have h' := h
    simp only [RelV] at h'
    subst h'
    exact RelL_cons.2 ⟨_, [], rfl, h, RelL_nil.2 rfl⟩
  | ub =>
    have h' := h
    simp only [RelV] at h'
    obtain ⟨b, e⟩ := h'
    subst e
    exact RelL_cons.2 ⟨_, [], rfl, h, RelL_nil.2 rfl⟩
  | np =>
    have h' := h
    simp only [RelV] at h'
    subst h'
    exact RelL_cons.2 ⟨_, [], rfl, h, RelL_nil.2 rfl⟩
  | rf b =>
    have h' := h
    simp only [RelV] at h'
    obtain ⟨_, A, n, c, e⟩ := h'
    subst e
    exact RelL_cons.2 ⟨_, [], rfl, h, RelL_nil.2 rfl⟩
  | rs b sz off len =>
    have h' := h
    simp only [RelV] at h'
    obtain ⟨A, n, c, A', c', _, _, e, _⟩ := h'
    subst e
    exact RelL_cons.2 ⟨_, [], rfl, h, RelL_nil.2 rfl⟩
  | pt b o =>
    have h' := h
    simp only [RelV] at h'
    obtain ⟨g, _, e⟩ := h'
    subst e
    exact RelL_cons.2 ⟨_, [], rfl, h, RelL_nil.2 rfl⟩
  | pe b sz i o =>
    have h' := h
    simp only [RelV] at h'
    obtain ⟨g, n, c, _, _, e⟩ := h'
    subst e
    exact RelL_cons.2 ⟨_, [], rfl, h, RelL_nil.2 rfl⟩
  | ve cs =>
    have h' := h
    simp only [RelV] at h'
    obtain ⟨g, o, us, e, _⟩ := h'
    subst e
    exact RelL_cons.2 ⟨_, [], rfl, h, RelL_nil.2 rfl⟩
  | tp cs =>
    have h' := h
    simp only [RelV] at h'
    obtain ⟨us, e, _⟩ := h'
    subst e
    exact RelL_cons.2 ⟨_, [], rfl, h, RelL_nil.2 rfl⟩
  | fn f cs =>
    have h' := h
    simp only [RelV] at h'
    obtain ⟨us, e, _⟩ := h'
    subst e
    exact RelL_cons.2 ⟨_, [], rfl, h, RelL_nil.2 rfl⟩
  | fm f cs =>
    have h' := h
    simp only [RelV] at h'
    obtain ⟨us, e, _⟩ := h'
    subst e
    exact RelL_cons.2 ⟨_, [], rfl, h, RelL_nil.2 rfl⟩

theorem dat_sound (h : HRel X keep w0 ι C0 w) (hf : FrozenOf C C0) {t : Ty} {a : AV} {v : Value} (hv : RelV w (okb X w ι C0) ι a v) {x : t.den} {f : List (Nat × Blk)}
    (hd : dat C t a = some (x, f)) : Frz X keep w0 ι C C0 w f ∧ Rz w (okb X w ι (updC C0 f)) t x v.cells.toList := by
  unfold dat at hd
  split at hd
  · cases hd
  · cases hd
  · rename_i hun hud
    split at hd
    · rename_i x1 f1 h1
      injection hd with hd
      injection hd with q1 q2
      subst q1; subst q2
      obtain ⟨g1, u1, u2, e1, e2, e3⟩ := pack_sound t C0 _ _ h hf (RelV_cells hv hun hud) _ _ _ h1
      rw [RelL_nil.1 e3, List.append_nil] at e1
      rw [e1]
      exact ⟨g1, e2⟩
    · cases hd
end
end Go.Proofs.Rf
