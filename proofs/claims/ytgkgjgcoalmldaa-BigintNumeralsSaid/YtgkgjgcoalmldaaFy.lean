/- Rf, part y: loops over a function (iterators). -/
import Derived.Test.YtgkgjgcoalmldaaFx
namespace Go.Proofs.Rf
open Go Go.RowKit

/-! ### What a round's head writes -/
/-- The assignments at a round's head: slot out of slot. -/
def asgs : Code → Option (List (Nat × Nat))
  | .skip => some []
  | .seq a b => match asgs a, asgs b with
    | some x, some y => some (x ++ y)
    | _, _ => none
  | .region _ ops false => match ops.toList with
    | [o] => match o.dst, o.op, o.guard with
      | some d, .assign (.tmp t), none => some [(d, t)]
      | _, _, _ => none
    | _ => none
  | _ => none

def asgA : List (Nat × Nat) → Act → Act
  | [], a => a
  | p :: r, a => asgA r (a.put (some p.1) (a.tmps.getD p.2 undef))

def asgT : List (Nat × Nat) → List (Nat × AV) → List (Nat × AV)
  | [], tm => tm
  | p :: r, tm => asgT r ((p.1, getT tm p.2) :: tm)

def putsA : List (Nat × Value) → Act → Act
  | [], a => a
  | p :: r, a => putsA r (a.put (some p.1) p.2)

def putsT : List Nat → List AV → List (Nat × AV) → List (Nat × AV)
  | p :: ps, v :: vs, tm => putsT ps vs ((p, v) :: tm)
  | _, _, tm => tm

theorem asgA_append : ∀ (x y : List (Nat × Nat)) (a : Act), asgA (x ++ y) a = asgA y (asgA x a)
  | [], _, _ => rfl
  | _ :: r, y, _ => asgA_append r y _

theorem asgs_wp {P : Program} {ρ : Option Nat} {dp : Nat} : ∀ (c : Code) (l : List (Nat × Nat)) (a : Act) (W : World) (K : Act → World → Prop) (Q : Exit → Act → World → Prop), asgs c = some l → K (asgA l a) W → c.wpIn (WF ρ) dp P (Exit.then K Q) a W
  | .skip, l, a, W, K, Q, h, hk => by
    simp only [asgs] at h
    injection h with h
    subst h
    exact wpIn_skip hk
  | .seq x y, l, a, W, K, Q, h, hk => by
    simp only [asgs] at h
    split at h
    · rename_i l1 l2 h1 h2
      injection h with h
      subst h
      rw [asgA_append] at hk
      refine wpIn_seq (asgs_wp x l1 a W _ _ h1 ?_)
      exact asgs_wp y l2 _ W K Q h2 hk
    · cases h
  | .region id ops dr, l, a, W, K, Q, h, hk => by
    cases dr with
    | true => simp only [asgs] at h; cases h
    | false =>
      simp only [asgs] at h
      split at h
      · rename_i o ho
        split at h
        · rename_i d t hd hop hg
          injection h with h
          subst h
          have hsz : ops.size = 1 := by rw [← Array.length_toList, ho]; rfl
          have h0 : ops[0]? = some o := by rw [← Array.getElem?_toList, ho]; rfl
          refine wpIn_region ?_
          rw [hsz]
          show wpOpsIn (WF ρ) dp P ops _ [0] a W
          rw [wpOpsIn_cons]
          unfold wpOpIn
          rw [h0]
          have hw : Region.wanted o (yielded ops a.tmps) = true := by simp [Region.wanted, hg]
          simp only [hw, if_true]
          refine wpIn_of_wp (fun c hc => by rw [hop] at hc; cases hc) ?_
          unfold Oper.wp
          have hr : (execOp a.eval o).run P W = .ok (.value (a.eval (.tmp t))) W := by
            unfold execOp
            rw [hop]
            rfl
          rw [hr]
          show K (a.put o.dst (a.eval (.tmp t))) W
          rw [hd]
          exact hk
        · cases h
      · cases h
  | .cond .., _, _, _, _, _, h, _ => by simp only [asgs] at h; cases h
  | .block .., _, _, _, _, _, h, _ => by simp only [asgs] at h; cases h
  | .loop .., _, _, _, _, _, h, _ => by simp only [asgs] at h; cases h
  | .rangeFunc .., _, _, _, _, _, h, _ => by simp only [asgs] at h; cases h
  | .exit .., _, _, _, _, _, h, _ => by simp only [asgs] at h; cases h
  | .scope .., _, _, _, _, _, h, _ => by simp only [asgs] at h; cases h
  | .label .., _, _, _, _, _, h, _ => by simp only [asgs] at h; cases h
  | .goto .., _, _, _, _, _, h, _ => by simp only [asgs] at h; cases h
  | .ret, _, _, _, _, _, h, _ => by simp only [asgs] at h; cases h
  | .refuse .., _, _, _, _, _, h, _ => by simp only [asgs] at h; cases h

theorem putsA_tmps : ∀ (l : List (Nat × Value)) (a : Act), (putsA l a).tmps = l.foldl (fun t p => t.setIfInBounds p.1 p.2) a.tmps ∧ (putsA l a).defers = a.defers
  | [], _ => ⟨rfl, rfl⟩
  | p :: r, a => putsA_tmps r (a.put (some p.1) p.2)

/-- The slots of a round's frame: those that are pinned are not written. -/
def roundSlots (n : Slots) (pins : List Nat) (a : Act) : Slots :=
  ⟨n.marks, n.base, fun d => n.ok d && !memN d pins, fun tm => n.G tm ∧ ∀ t ∈ pins, tm.getD t undef = a.tmps.getD t undef,
    fun tm d h hd => by
      rw [Bool.and_eq_true] at hd
      exact n.lt tm d h.1 hd.1,
    fun tm d v h hd => by
      rw [Bool.and_eq_true, Bool.not_eq_true'] at hd
      refine ⟨n.set tm d v h.1 hd.1, fun t ht => ?_⟩
      rw [← h.2 t ht]
      have hne : d ≠ t := by rintro rfl; rw [memN_iff.2 ht] at hd; cases hd.2
      rw [Array.getD_eq_getD_getElem?, Array.getD_eq_getD_getElem?, Array.getElem?_setIfInBounds_ne hne]⟩

def roundOk (ok : Nat → Bool) (pins : List Nat) (d : Nat) : Bool := ok d && !memN d pins

def noItB : List SB → Bool
  | [] => true
  | .it :: _ => false
  | _ :: r => noItB r

def noItX : List Way → Bool
  | [] => true
  | p :: r => noItB p.2.bl && noItX r

def NoIt (s : St) : Prop := ∀ k st p, getB s.bl k ≠ .it st p

theorem putB_noIt : ∀ (l : List SB), noItB l = true → ∀ (x : denB l) (k : Nat) (st : List UInt8) (p : Nat), getB (putB l x) k ≠ .it st p
  | [], _, _, _, _, _, h => by cases h
  | a :: r, hn, x, 0, st, p, h => by
    cases a with
    | row t e => cases h
    | box cs => cases h
    | it => cases hn
  | a :: r, hn, x, k + 1, st, p, h => by
    refine putB_noIt r ?_ x.2 k st p h
    cases a with
    | row t e => exact hn
    | box cs => exact hn
    | it => cases hn

def slotsOf : List (Nat × SV) → List Nat
  | [] => []
  | p :: r => p.1 :: slotsOf r

def slotsX : List Way → List Nat
  | [] => []
  | p :: r => slotsOf p.2.sl ++ slotsX r

theorem putS_out : ∀ (l : List (Nat × SV)) (x : denS l) (t : Nat), t ∉ slotsOf l → getT (putS l x) t = .un
  | [], _, _, _ => rfl
  | p :: r, x, t, h => by
    simp only [slotsOf, List.mem_cons, not_or] at h
    simp only [putS, getT]
    rw [if_neg (fun q => h.1 (Nat.eq_of_beq_eq_true q).symm)]
    exact putS_out r x.2 t h.2

/-- The ways out of a loop, kept together with what is told of the state. -/
theorem toX_sound2 {R : Type} {X keep : Nat → Prop} {w0 w : World} {ι : Nat → Option Value} {n : Slots} {s : St} {a : Act} (h : SRel X keep w0 n ι s a w) {e : Ex} {r : R} : ∀ (l : List Way) (K : denX l → Option R), noItX l = true → toX l e s K = some r →
    ∃ y, K y = some r ∧ ∀ {R' : Type} (K' : Ex → St → Option R') (r' : R'), onX l y K' = some r' → ∃ s' ι', SRel X keep w0 n ι' s' a w ∧ NoIt s' ∧ (∀ t, t ∉ slotsX l → getT s'.tm t = .un) ∧ K' e s' = some r'
  | [], _, _, h => by cases h
  | [p], K, hn, ht => by
    simp only [noItX, Bool.and_eq_true] at hn
    simp only [toX] at ht
    split at ht
    · rename_i he
      split at ht
      · rename_i x hx
        obtain ⟨ι', h'⟩ := Shape.take_sound h hx
        refine ⟨x, ht, fun K' r' hk => ⟨_, ι', h', putB_noIt _ hn.1 _, fun t ht => putS_out _ _ _ (fun q => ht (by simp [slotsX, q])), ?_⟩⟩
        rw [exIs_eq he]
        exact hk
      · cases ht
    · cases ht
  | p :: q :: t, K, hn, ht => by
    have hn' : noItB p.2.bl = true ∧ noItX (q :: t) = true := by
      have := hn
      simp only [noItX, Bool.and_eq_true] at this ⊢
      exact ⟨this.1, this.2⟩
    have hrest : (toX (q :: t) e s fun y => K (.inr y)) = some r → ∃ y, K y = some r ∧ ∀ {R' : Type} (K' : Ex → St → Option R') (r' : R'), onX (p :: q :: t) y K' = some r' → ∃ s' ι', SRel X keep w0 n ι' s' a w ∧ NoIt s' ∧ (∀ u, u ∉ slotsX (p :: q :: t) → getT s'.tm u = .un) ∧ K' e s' = some r' := by
      intro ht
      obtain ⟨y, h1, h2⟩ := toX_sound2 h (q :: t) (fun y => K (.inr y)) hn'.2 ht
      refine ⟨.inr y, h1, fun K' r' hk => ?_⟩
      obtain ⟨s', ι', g1, g2, g3, g4⟩ := h2 K' r' hk
      exact ⟨s', ι', g1, g2, fun u hu => g3 u (fun q => hu (List.mem_append_right _ q)), g4⟩
    simp only [toX] at ht
    split at ht
    · rename_i he
      split at ht
      · rename_i x hx
        obtain ⟨ι', h'⟩ := Shape.take_sound h hx
        refine ⟨.inl x, ht, fun K' r' hk => ⟨_, ι', h', putB_noIt _ hn'.1 _, fun u hu => putS_out _ _ _ (fun q => hu (List.mem_append_left _ q)), ?_⟩⟩
        rw [exIs_eq he]
        exact hk
      · exact hrest ht
    · exact hrest ht

section
variable {X keep : Nat → Prop} {w0 w : World} {ι : Nat → Option Value} {n : Slots}

/-- Without iterators over strings, what is owned are cells. -/
theorem SRel.owned_cells {s : St} {a : Act} (h : SRel X keep w0 n ι s a w) (hn : NoIt s) {b : Nat} (hb : owned ι (getB s.bl) b) : ∃ o : Obj, w.heap[b]? = some o ∧ o.isCells = true := by
  obtain ⟨k, hk⟩ := hb
  have hB := h.f.h.bl k
  unfold bk at hk
  cases hC : getB s.bl k with
  | row t e xs rw =>
    rw [hC] at hB hk
    cases rw with
    | true =>
      obtain ⟨v, cs, h1, h2, h3⟩ := hB
      rw [h1] at hk
      rcases h2.2 with ⟨h4, _⟩ | ⟨g, cap, cur, hv, _, h6, _⟩
      · rw [h4] at hk; cases hk
      · rw [hv] at hk
        injection hk with hk
        have hk : g = b := hk
        subst hk
        exact ⟨_, h6, rfl⟩
    | false => cases hι : ι k <;> rw [hι] at hk <;> cases hk
  | box cs =>
    rw [hC] at hB hk
    obtain ⟨g, e, us, h1, h2, h3⟩ := hB
    rw [h1] at hk
    injection hk with hk
    have hk : g = b := hk
    subst hk
    exact ⟨_, h2, rfl⟩
  | it s p => exact absurd hC (hn k s p)
  | dead => rw [hC] at hk; cases hι : ι k <;> rw [hι] at hk <;> cases hk

/-- Some blocks are turned, and there is more memory. -/
structure Turned (S : Nat → Prop) (A B : World) : Prop where
  os : B.os = A.os
  tape : B.tape = A.tape
  output : B.output = A.output
  size : A.heap.size ≤ B.heap.size
  block : ∀ b, b < A.heap.size → ¬ S b → B.heap[b]? = A.heap[b]?

theorem Turned.refl (S : Nat → Prop) (A : World) : Turned S A A := ⟨rfl, rfl, rfl, Nat.le_refl _, fun _ _ _ => rfl⟩
theorem Turned.trans {S : Nat → Prop} {A B D : World} (h : Turned S A B) (k : Turned S B D) : Turned S A D :=
  ⟨k.os.trans h.os, k.tape.trans h.tape, k.output.trans h.output, Nat.le_trans h.size k.size, fun b hb hs => (k.block b (Nat.lt_of_lt_of_le hb h.size) hs).trans (h.block b hb hs)⟩
theorem Turned.of_grown {S : Nat → Prop} {A B : World} {row : Option Nat} (h : A.grownBy B row) (hr : ∀ r, row = some r → S r) : Turned S A B :=
  ⟨h.os, h.tape, h.output, h.size, fun b hb hs => h.block b hb fun e => hs (hr b e.symm)⟩

theorem HRel.mod {C : Nat → Blk} (h : HRel X keep w0 ι C w) {w' : World} {S : Nat → Prop} (hm : Turned S w w') (hS : ∀ b, S b → ¬ keep b ∧ ¬ owned ι C b ∧ (X b ∨ ∀ o v, w.cell? ⟨b, o, none⟩ = some v → False)) :
    HRel X keep w0 ι C w' ∧ ∀ v u, RelV w (okb X w ι C) ι v u → RelV w' (okb X w' ι C) ι v u := by
  have hok : ∀ g, okb X w ι C g → okb X w' ι C g := fun g hg => ⟨Nat.lt_of_lt_of_le hg.1 hm.size, hg.2⟩
  have hcell : ∀ g o v, okb X w ι C g → w.cell? ⟨g, o, none⟩ = some v → w'.cell? ⟨g, o, none⟩ = some v := by
    intro g o v hg hv
    by_cases e : S g
    · rcases (hS g e).2.2 with q | q
      · exact (hg.2.2 q).elim
      · exact (q o v hv).elim
    · rw [← hv]; exact World.cell?_of_block (hm.block g hg.1 e)
  have hown : ∀ b, owned ι C b → w'.heap[b]? = w.heap[b]? := fun b ho => hm.block b (h.lt ho) fun e => (hS b e).2.1 ho
  refine ⟨⟨fun k => ?_, h.inj, ⟨hm.os.trans h.fr.os, hm.tape.trans h.fr.tape, hm.output.trans h.fr.output, Nat.le_trans h.fr.size hm.size, fun b hb' hl => ?_⟩, h.own, h.kl, h.ox, h.xl⟩, fun v u hv => RelV_mono hcell hok (fun _ _ e => e) v u hv⟩
  · have hB := h.bl k
    cases hC : C k with
    | row t e xs rw =>
      rw [hC] at hB
      cases rw with
      | true =>
        obtain ⟨v, cs, h1, h2, h3⟩ := hB
        refine ⟨v, cs, h1, ⟨h2.1, ?_⟩, RzL_mono (Rz_mono hcell hok t) h3⟩
        rcases h2.2 with h4 | ⟨g, cap, cur, hv, h5, h6, h7⟩
        · exact .inl h4
        · refine .inr ⟨g, cap, cur, hv, h5, ?_, h7⟩
          rw [hown g ⟨k, by unfold bk; rw [hC, h1, hv]; rfl⟩]
          exact h6
      | false =>
        obtain ⟨v, h1, h0, h2⟩ := hB
        exact ⟨v, h1, h0, Rz_mono hcell hok _ _ _ h2⟩
    | box cs =>
      rw [hC] at hB
      obtain ⟨g, e, us, h1, h2, h3⟩ := hB
      refine ⟨g, e, us, h1, ?_, RelL_mono hcell hok (fun _ _ e => e) cs us h3⟩
      rw [hown g ⟨k, by unfold bk; rw [hC, h1]⟩]
      exact h2
    | it s pos =>
      rw [hC] at hB
      obtain ⟨g, h1, h2⟩ := hB
      refine ⟨g, h1, ?_⟩
      rw [hown g ⟨k, by unfold bk; rw [hC, h1]⟩]
      exact h2
    | dead => trivial
  · rw [hm.block b (Nat.lt_of_lt_of_le hl h.fr.size) fun e => (hS b e).1 hb']
    exact h.fr.block b hb' hl

theorem SRel.mod {s : St} {a : Act} (h : SRel X keep w0 n ι s a w) {W' : World} {S : Nat → Prop} (hm : Turned S w W') (hS : ∀ b, S b → ¬ keep b ∧ ¬ owned ι (getB s.bl) b ∧ (X b ∨ ∀ o v, w.cell? ⟨b, o, none⟩ = some v → False)) : SRel X keep w0 n ι s a W' := by
  obtain ⟨q1, q2⟩ := h.f.h.mod hm hS
  exact ⟨⟨q1, fun t => q2 _ _ (h.f.tm t), h.f.size, h.f.defers⟩, h.dom⟩

theorem HRel.lessX {C : Nat → Blk} {X' : Nat → Prop} (h : HRel X' keep w0 ι C w) (hX : ∀ b, X b → X' b) : HRel X keep w0 ι C w ∧ ∀ v u, RelV w (okb X' w ι C) ι v u → RelV w (okb X w ι C) ι v u := by
  have hok : ∀ g, okb X' w ι C g → okb X w ι C g := fun g hg => ⟨hg.1, hg.2.1, fun hx => hg.2.2 (hX g hx)⟩
  refine ⟨⟨fun k => ?_, h.inj, h.fr, h.own, h.kl, fun b hb hx => h.ox b hb (hX b hx), fun b hb => h.xl b (hX b hb)⟩, fun v u hv => RelV_mono (fun _ _ _ _ e => e) hok (fun _ _ e => e) v u hv⟩
  have hB := h.bl k
  cases hC : C k with
  | row t e xs rw =>
    rw [hC] at hB
    cases rw with
    | true =>
      obtain ⟨v, cs, h1, h2, h3⟩ := hB
      exact ⟨v, cs, h1, h2, RzL_mono (Rz_mono (fun _ _ _ _ e => e) hok t) h3⟩
    | false =>
      obtain ⟨v, h1, h0, h2⟩ := hB
      exact ⟨v, h1, h0, Rz_mono (fun _ _ _ _ e => e) hok _ _ _ h2⟩
  | box cs =>
    rw [hC] at hB
    obtain ⟨g, e, us, h1, h2, h3⟩ := hB
    exact ⟨g, e, us, h1, h2, RelL_mono (fun _ _ _ _ e => e) hok (fun _ _ e => e) cs us h3⟩
  | it s pos =>
    rw [hC] at hB
    exact hB
  | dead => trivial

theorem SRel.lessX {X' : Nat → Prop} {s : St} {a : Act} (h : SRel X' keep w0 n ι s a w) (hX : ∀ b, X b → X' b) : SRel X keep w0 n ι s a w := by
  obtain ⟨q1, q2⟩ := h.f.h.lessX hX
  exact ⟨⟨q1, fun t => q2 _ _ (h.f.tm t), h.f.size, h.f.defers⟩, h.dom⟩

/-- A record's block is turned, or there is more memory. -/
theorem SRel.grown {s : St} {a : Act} (h : SRel X keep w0 n ι s a w) (hn : NoIt s) {W' : World} {row : Option Nat} (hg : w.grownBy W' row) (hr : ∀ r, row = some r → w0.heap.size ≤ r ∧ ∃ o : Obj, w.heap[r]? = some o ∧ o.isCells = false) : SRel X keep w0 n ι s a W' := by
  obtain ⟨r, hr1, hr2, hr3, hr4⟩ : ∃ r : Nat, (∀ b, b ≠ r → b < w.heap.size → W'.heap[b]? = w.heap[b]?) ∧ (∀ o v, w.cell? ⟨r, o, none⟩ = some v → False) ∧ (∀ b, owned ι (getB s.bl) b → b ≠ r) ∧ ¬ keep r := by
    cases row with
    | none =>
      refine ⟨w.heap.size, fun b _ hl => hg.block b hl (by simp), fun o v hc => by simp [World.cell?] at hc, fun b hb e => ?_, fun hk => ?_⟩
      · have := h.f.h.lt hb; omega
      · have := h.f.h.kl _ hk
        have := h.f.h.fr.size
        omega
    | some r =>
      obtain ⟨h1, o, h2, h3⟩ := hr r rfl
      refine ⟨r, fun b hb hl => hg.block b hl (fun e => hb (by injection e)), fun o' v hc => ?_, fun b hb e => ?_, fun hk => ?_⟩
      · simp only [World.cell?, h2] at hc
        cases o <;> simp_all [Obj.isCells]
      · subst e
        obtain ⟨o', q1, q2⟩ := h.owned_cells hn hb
        rw [h2] at q1
        injection q1 with q1
        subst q1
        rw [h3] at q2
        cases q2
      · have := h.f.h.kl _ hk
        omega
  obtain ⟨q1, q2⟩ := h.f.h.quiet r hg.os hg.tape hg.output hg.size hr1 hr2 hr3 hr4
  exact ⟨⟨q1, fun t => q2 _ _ (h.f.tm t), h.f.size, h.f.defers⟩, h.dom⟩
end
end Go.Proofs.Rf
