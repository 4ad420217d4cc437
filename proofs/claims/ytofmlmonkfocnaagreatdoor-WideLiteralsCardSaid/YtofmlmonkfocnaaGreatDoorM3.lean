/- Texts put together: Fz, Ga, Gb, Gc, Gd, Ge, Gf, Gi, Gj, ShJoin. -/
import Derived.Test.YtofmlmonkfocnaaGreatDoorM2
import Derived.RangeFuncIn
import Derived.RangeFuncRecord
import Derived.Below
import Derived.Shelf.Strings.OnBuilder
import Derived.Shelf.Strings.Repeat
import Derived.Shelf.Strconv.Itoa3
import Derived.Test.YtofmlmonkfocnaaGreatDoorProg
/- Rf, part z: the law of loops over a function. -/
namespace Go.Proofs.Rf
open Go Go.RowKit

/-- What is turned while a function is handed an element: what the loop's body owns (O: ahead of it, O': behind it), the loop's record. -/
structure Yields (O O' : Nat → Prop) (l : Nat) (A B : World) : Prop where
  size : A.heap.size ≤ B.heap.size
  block : ∀ b, b < A.heap.size → ¬ O b → b ≠ l → B.heap[b]? = A.heap[b]?
  own : ∀ b, b < A.heap.size → O' b → O b

/-- The memory of what is captured. -/
def Capt (ι : Nat → Option Value) (C : Nat → Blk) (cs : List AV) (b : Nat) : Prop := ∃ k ∈ AV.idsL cs, bk ι C k = some b

/-- A function that hands over the elements xs, one by one, of what it has captured (boxes, which it may write): what is not the loop's body's is kept while that runs; the body is asked for the next element alone. -/
structure IterOK (P : Program) (gf : Nat) {El : Type} (encs : El → List Value) (cap : (Nat → Blk) → List AV → Option (List El)) : Prop where
  fn : ∃ fn, P.funcs[gf]? = some fn ∧ (fn.name == "runtime.NumGoroutine") = false ∧ fn.body.isNone = false
  run : ∀ (X keep : Nat → Prop) (w0 w : World) (ι : Nat → Option Value) (C : Nat → Blk) (cs : List AV) (us : List Value) (xs : List El) (O : Nat → Prop), HRel X keep w0 ι C w → RelL w (okb X w ι C) ι cs us → cap C cs = some xs →
    (∀ b, okb X w ι C b → ¬ O b) → (∀ b, Capt ι C cs b → ¬ O b) →
    ∀ (l : Nat) (J : List El → (Nat → Prop) → World → Prop) (Jx : World → Prop) (W : World), w.heap.size ≤ l → l < W.heap.size → w.heap.size ≤ W.heap.size → (∀ b, b < w.heap.size → W.heap[b]? = w.heap[b]?) → J [] O W →
      (∀ pre O A, J pre O A → ∀ b, O b → b < A.heap.size) → (∀ pre O A B, J pre O A → Turned (Capt ι C cs) A B → J pre O B) → (∀ A B, Jx A → Turned (Capt ι C cs) A B → Jx B) →
      (∀ pre x, pre ++ [x] <+: xs → ∀ O W1, J pre O W1 → YieldAt (WF none) 1 P l (encs x).toArray W1 fun e W' => (e = .returned (.bool true) ∧ ∃ O', J (pre ++ [x]) O' W' ∧ Yields O O' l W1 W') ∨ (e = .returned (.bool false) ∧ Jx W' ∧ Yields O (fun _ => False) l W1 W')) →
      CallsIn (WF none) 2 P gf (#[.func (.yield l) #[] #[]] ++ us.toArray) W fun e W' => (∃ v, e = .returned v) ∧ ((∃ O', J xs O' W') ∨ Jx W')

def allBox (C : Nat → Blk) : List Nat → Bool
  | [] => true
  | k :: r => (match C k with
    | .box _ _ => true
    | _ => false) && allBox C r

theorem allBox_iff {C : Nat → Blk} : ∀ {l : List Nat}, allBox C l = true → ∀ k ∈ l, ∃ e vs, C k = .box e vs
  | [], _, k, h => by cases h
  | j :: r, ha, k, h => by
    simp only [allBox, Bool.and_eq_true] at ha
    rcases List.mem_cons.1 h with rfl | h
    · have := ha.1
      split at this
      · rename_i e vs hv; exact ⟨e, vs, hv⟩
      · cases this
    · exact allBox_iff ha.2 k h

def foldR {El A B : Type} (f : El → A → Option (A ⊕ B)) : List El → A → Option (A ⊕ B)
  | [], x => some (.inl x)
  | e :: r, x => match f e x with
    | some (.inl y) => foldR f r y
    | some (.inr z) => some (.inr z)
    | none => none

section
variable (TT : Tab) (Δ : Nat → Option CallO) (ok : Nat → Bool) (Λ : Nat → Option LoopO)

/-- One round, over data. -/
noncomputable def stepR {El : Type} (avs : El → List AV) (ps : List Nat) (asl : List (Nat × Nat)) (head : Shape) (ways : List Way) (body : Code) (e : El) (x : head.den) : Option (head.den ⊕ denX ways) :=
  evC TT Δ ok Λ body ⟨asgT asl (putsT ps (avs e) (head.put x).tm), (head.put x).bl⟩ fun e s => match e with
    | .nm => (match head.take s with
      | some y => some (.inl y)
      | none => none)
    | .ex j => toX ways (.ex j) s fun y => some (.inr y)
    | .rt => toX ways .rt s fun y => some (.inr y)
end

/-- A loop over a function, over data. -/
def rangeO {El : Type} (g : Operand) (gf : Nat) (cap : (Nat → Blk) → List AV → Option (List El)) (head : Shape) (ways : List Way) (st : List El → head.den → Option (head.den ⊕ denX ways)) : LoopO := fun s _ K =>
  match ev (getT s.tm) g with
  | .fn f cs => if Nat.beq f gf = true then (cap (getB s.bl) cs).bind fun xs => (if (allBox (getB s.bl) (AV.idsL cs) && !(meetN (AV.idsL cs) (head.ids (head.fixd s) ++ nlsrc head.bl head.sl s))) = true then (match head.take s with
        | some x => (st xs x).bind fun y => Sum.elim (fun x' => K .nm (head.put x')) (fun z => onX ways z K) y
        | none => none) else none) else none
  | _ => none

theorem wpIn_depth {ρ : Option Nat} {d d' : Nat} {P : Program} {c : Code} {Q : Exit → Act → World → Prop} {a : Act} {w : World} (h : c.wpIn (WF ρ) d P Q a w) : c.wpIn (WF ρ) d' P Q a w :=
  fun b k cs h1 h2 _ => h b k cs h1 h2 (fun _ hd => by cases hd)

theorem marksOK_later {base : Nat} {k1 k2 : Nat → Prop} {w1 w2 : World} (hl : Later k1 w1 k2 w2) : ∀ {ds : List Deferred}, MarksOK base k1 w1 ds → MarksOK base k2 w2 ds
  | [], _ => trivial
  | d :: ds, ⟨⟨D, h1, h2, h3, h4, h5⟩, h6⟩ => ⟨⟨D, h1, h2, hl.mono D h3, by rw [hl.kept.block D h3 (Array.getElem?_eq_some_iff.1 h4).1]; exact h4, h5⟩, marksOK_later hl h6⟩

theorem marks_lt {base : Nat} {k1 : Nat → Prop} {w1 : World} : ∀ {ds : List Deferred}, MarksOK base k1 w1 ds → ∀ e ∈ ds, ∃ D, e.target = .collected D ∧ D < w1.heap.size
  | [], _, e, he => by cases he
  | d :: ds, ⟨⟨D, h1, h2, h3, h4, h5⟩, h6⟩, e, he => by
    rcases List.mem_cons.1 he with rfl | he
    · exact ⟨D, h1, (Array.getElem?_eq_some_iff.1 h4).1⟩
    · exact marks_lt h6 e he

section
variable {P : Program} {TT : Tab} {Δ : Nat → Option CallO}

theorem FRel.put1 {X keep : Nat → Prop} {w0 w : World} {n : Slots} {ι : Nat → Option Value} {tm : List (Nat × AV)} {C : Nat → Blk} {a : Act} (h : FRel X keep w0 n ι (getT tm) C a w) {d : Nat} (hd : n.ok d = true) {x : AV} {v : Value} (hv : RelV w (okb X w ι C) ι x v) :
    FRel X keep w0 n ι (getT ((d, x) :: tm)) C (a.put (some d) v) w := by
  rw [getT_cons]
  exact h.step (fun d' hd' => by injection hd' with hd'; subst hd'; exact hd) h.h (Ext.refl _ _ _ _) hv

theorem FRel.puts {X keep : Nat → Prop} {w0 w : World} {n : Slots} {ι : Nat → Option Value} {C : Nat → Blk} : ∀ (ps : List Nat) (vs : List AV) (us : List Value) (tm : List (Nat × AV)) (a : Act), FRel X keep w0 n ι (getT tm) C a w → (∀ p ∈ ps, n.ok p = true) → RelL w (okb X w ι C) ι vs us → ps.length = us.length →
    FRel X keep w0 n ι (getT (putsT ps vs tm)) C (putsA (ps.zip us) a) w
  | [], vs, us, tm, a, h, _, _, hl => by
    cases us with
    | nil => exact h
    | cons u ur => simp at hl
  | p :: ps, vs, us, tm, a, h, hp, hv, hl => by
    cases us with
    | nil => simp at hl
    | cons u ur =>
      cases vs with
      | nil => simp only [RelL] at hv; cases hv
      | cons v vr =>
        obtain ⟨u', ur', e, h1, h2⟩ := RelL_cons.1 hv
        injection e with e1 e2
        subst e1; subst e2
        exact FRel.puts ps vr ur _ _ (h.put1 (hp p (List.mem_cons_self ..)) h1) (fun q hq => hp q (List.mem_cons_of_mem _ hq)) h2 (by simpa using hl)

theorem FRel.asg {X keep : Nat → Prop} {w0 w : World} {n : Slots} {ι : Nat → Option Value} {C : Nat → Blk} : ∀ (l : List (Nat × Nat)) (tm : List (Nat × AV)) (a : Act), FRel X keep w0 n ι (getT tm) C a w → (∀ p ∈ l, n.ok p.1 = true) → FRel X keep w0 n ι (getT (asgT l tm)) C (asgA l a) w
  | [], _, _, h, _ => h
  | p :: r, _, _, h, hp => FRel.asg r _ _ (h.put1 (hp p (List.mem_cons_self ..)) (h.tm p.2)) fun q hq => hp q (List.mem_cons_of_mem _ hq)

def allOk (ok : Nat → Bool) : List Nat → Bool
  | [] => true
  | p :: r => ok p && allOk ok r

theorem allOk_iff {ok : Nat → Bool} : ∀ {l : List Nat}, allOk ok l = true → ∀ p ∈ l, ok p = true
  | [], _, p, h => by cases h
  | q :: r, hl, p, h => by
    simp only [allOk, Bool.and_eq_true] at hl
    rcases List.mem_cons.1 h with rfl | h
    · exact hl.1
    · exact allOk_iff hl.2 p h

/-- What the law asks of the text. -/
structure RangeText (ok : Nat → Bool) {El : Type} (avs : El → List AV) (encs : El → List Value) (ps : Array Nat) (asg : Code) (asl : List (Nat × Nat)) (head : Shape) (ways : List Way) : Prop where
  asg : asgs asg = some asl
  rel : ∀ (w : World) (ok : Nat → Prop) (ι : Nat → Option Value) (e : El), RelL w ok ι (avs e) (encs e)
  len : ∀ e : El, (encs e).length = ps.toList.length
  ps : allOk (roundOk ok (slotsOf head.sl ++ slotsX ways)) ps.toList = true
  asn : allOk (roundOk ok (slotsOf head.sl ++ slotsX ways)) (asl.map (fun p => p.1)) = true
  no1 : noItB head.bl = true
  no2 : noItX ways = true

theorem rangeO_ok (hm : P.follows .mixedOrders = true) (hP : TabOK P TT) (hΔ : CallsOK P Δ) {Λ : List (Nat × LoopO)} {El : Type} {avs : El → List AV} {encs : El → List Value} {g : Operand} {gf : Nat} {cap : (Nat → Blk) → List AV → Option (List El)} {ps : Array Nat} {asg body : Code} {asl : List (Nat × Nat)}
    {head : Shape} {ways : List Way} {ok : Nat → Bool} (hI : IterOK P gf encs cap) (hT : RangeText ok avs encs ps asg asl head ways) (hL : LoopsAt P (roundOk ok (slotsOf head.sl ++ slotsX ways)) true Λ body)
    {st : List El → head.den → Option (head.den ⊕ denX ways)} (hst : ∀ xs x y, st xs x = some y → foldR (stepR TT Δ (roundOk ok (slotsOf head.sl ++ slotsX ways)) (lookL Λ) avs ps.toList asl head ways body) xs x = some y) :
    LoopAt P ok false (rangeO g gf cap head ways st) (.rangeFunc g ps asg body) := by
  intro n hn ρ hρ
  obtain ⟨hρ, hmk⟩ : ρ = none ∧ n.marks = true := hρ.resolve_left (by simp)
  subst hρ
  subst hn
  intro dp X keep w0 w ι s a R K r Q h hev hQ
  unfold rangeO at hev
  have hgv := ev_rel h.f.tm g
  split at hev
  · rename_i f cs hg
    split at hev
    · rename_i hf
      have hf := Nat.eq_of_beq_eq_true hf
      subst hf
      obtain ⟨xs, hcap, hev⟩ := bind_some' hev
      · split at hev
        · rename_i hck
          simp only [Bool.and_eq_true, Bool.not_eq_true'] at hck
          obtain ⟨hbox, hmt⟩ := hck
          split at hev
          · rename_i x0 hx0
            obtain ⟨out, hout, hev⟩ := bind_some' hev
            have hfold := hst xs x0 out hout
            rw [hg] at hgv
            simp only [RelV] at hgv
            obtain ⟨us, hgval, hcs⟩ := hgv
            let a0 : Act := { tmps := a.tmps, defers := [] }
            have hbase : n.base ≤ w.heap.size := Nat.le_trans h.f.defers.1 h.f.h.fr.size
            let Cp := Capt ι (getB s.bl) cs
            have hCo : ∀ b, Cp b → owned ι (getB s.bl) b := by rintro b ⟨k, _, hb⟩; exact ⟨k, hb⟩
            have hr0 : SRel X (fun b => b < w.heap.size ∧ ¬ owned ι (getB s.bl) b) w n ι s a0 w := ⟨⟨h.f.h.rebase, h.f.tm, h.f.size, hbase, fun _ => rfl, trivial⟩, h.dom⟩
            obtain ⟨ι1, S1, hown1⟩ := Shape.take_own hr0 hx0 Cp (by
              rintro b ⟨k, hk, hb⟩
              obtain ⟨e, vs, hvs⟩ := allBox_iff hbox k hk
              refine ⟨⟨k, e, vs, hvs, hb⟩, h.f.h.lt ⟨k, hb⟩, fun i hi hbi => ?_⟩
              have e := h.f.h.inj k i b hb hbi
              subst e
              exact meetN_false hmt k hk hi)
            -- what is kept from here on
            let C1 := getB (head.put x0).bl
            let XX : Nat → Prop := fun b => X b ∨ Cp b
            let kp : Nat → Prop := fun b => b < w.heap.size ∧ ¬ owned ι1 C1 b ∧ ¬ Cp b
            let pins := slotsOf head.sl ++ slotsX ways
            have hown2 : ∀ b, owned ι1 C1 b → owned ι (getB s.bl) b := fun b ho => by obtain ⟨i, _, hi⟩ := hown1 b ho; exact ⟨i, hi⟩
            have hokp : ∀ b, okb X w ι (getB s.bl) b → ¬ owned ι1 C1 b := fun b hb ho => hb.2.1 (hown2 b ho)
            have hcsp : ∀ b, Cp b → ¬ owned ι1 C1 b := fun b hb ho => S1.f.h.ox b ho (.inr hb)
            have hseq := hI.run X keep w0 w ι (getB s.bl) cs us xs (owned ι1 C1) h.f.h hcs hcap hokp hcsp
            have hkeep : ∀ b, keep b → kp b := fun b hb => ⟨Nat.lt_of_lt_of_le (h.f.h.kl b hb) h.f.h.fr.size, fun ho => h.f.h.own b (hown2 b ho) hb, fun hc => h.f.h.own b (hCo b hc) hb⟩
            have hXl0 : ∀ b, X b → b < w.heap.size := fun b hb => Nat.lt_of_lt_of_le (h.f.h.xl b hb) h.f.h.fr.size
            have hXl : ∀ b, XX b → b < w.heap.size := fun b hb => hb.elim (hXl0 b) fun hc => h.f.h.lt (hCo b hc)
            have S2 : SRel XX kp w n ι1 (head.put x0) a0 w := ⟨⟨⟨S1.f.h.bl, S1.f.h.inj, Kept.refl _ _, fun b hb hk => hk.2.1 hb, fun b hb => hb.1, S1.f.h.ox, S1.f.h.xl, S1.f.h.gl⟩, S1.f.tm, S1.f.size, hbase, fun _ => rfl, trivial⟩, S1.dom⟩
            let step := stepR TT Δ (roundOk n.ok (slotsOf head.sl ++ slotsX ways)) (lookL Λ) avs ps.toList asl head ways body
            let nR := roundSlots n pins a0
            -- what holds ahead of a round, and where the loop is left
            let I : List El → (Nat → Prop) → World → Prop := fun pre O W => ∃ rest x ι, xs = pre ++ rest ∧ foldR step rest x = some out ∧ SRel XX kp w n ι (head.put x) a0 W ∧ O = owned ι (getB (head.put x).bl)
            let Ix : Code → World → Prop := fun c W => ∃ z e, out = .inr z ∧ ((c = .ret ∧ e = Ex.rt) ∨ ∃ j, c = .exit j ∧ e = Ex.ex j) ∧ ∀ (R' : Type) (K' : Ex → St → Option R') (r' : R'), onX ways z K' = some r' → ∃ s' ι', SRel XX kp w n ι' s' a0 W ∧ NoIt s' ∧ K' e s' = some r'
            have hIg : ∀ {pre O A B row}, I pre O A → A.grownBy B row → (∀ r, row = some r → w.heap.size ≤ r ∧ ∃ o : Obj, A.heap[r]? = some o ∧ o.isCells = false) → I pre O B := by
              rintro pre O A B row ⟨rest, x, ι, e1, e2, e3, e4⟩ hg hr
              exact ⟨rest, x, ι, e1, e2, e3.grown (putB_noIt _ hT.no1 _) hg hr, e4⟩
            have hIxg : ∀ {c A B row}, Ix c A → A.grownBy B row → (∀ r, row = some r → w.heap.size ≤ r ∧ ∃ o : Obj, A.heap[r]? = some o ∧ o.isCells = false) → Ix c B := by
              rintro c A B row ⟨z, e, e1, e2, e3⟩ hg hr
              refine ⟨z, e, e1, e2, fun R' K' r' hk => ?_⟩
              obtain ⟨s', ι', q1, q2, q3⟩ := e3 R' K' r' hk
              exact ⟨s', ι', q1.grown q2 hg hr, q2, q3⟩
            have hCS : ∀ {ι' s' a' A}, SRel XX kp w n ι' s' a' A → ∀ b, Cp b → ¬ kp b ∧ ¬ owned ι' (getB s'.bl) b ∧ (XX b ∨ ∀ o v, A.cell? ⟨b, o, none⟩ = some v → False) :=
              fun h' b hb => ⟨fun hk => hk.2.2 hb, fun ho => h'.f.h.ox b ho (.inr hb), .inl (.inr hb)⟩
            have hIm : ∀ {pre O A B}, I pre O A → Turned Cp A B → I pre O B := by
              rintro pre O A B ⟨rest, x, ι, e1, e2, e3, e4⟩ hm
              exact ⟨rest, x, ι, e1, e2, e3.mod hm (hCS e3), e4⟩
            have hIxm : ∀ {c A B}, Ix c A → Turned Cp A B → Ix c B := by
              rintro c A B ⟨z, e, e1, e2, e3⟩ hm
              refine ⟨z, e, e1, e2, fun R' K' r' hk => ?_⟩
              obtain ⟨s', ι', q1, q2, q3⟩ := e3 R' K' r' hk
              exact ⟨s', ι', q1.mod hm (hCS q1), q2, q3⟩
            obtain ⟨fg, hg1, hg2, hg3⟩ := hI.fn
            have eg : ∀ (args : Array Value) (w : World), (callFunc f args).run P w = .ok (.enter f args) w := by
              intro args w
              have hname : ¬ fg.name = "runtime.NumGoroutine" := by simpa using hg2
              have hb : ¬ fg.body = none := by
                intro hb
                rw [hb] at hg3
                cases hg3
              simp [callFunc, hg1, hname, hb]
            refine wpIn_depth (d := 3) (wpIn_rangeFunc fun fn hfn => ?_)
            obtain ⟨rec, hrec⟩ : ∃ rec : LoopState → Option Code → Loop, rec = fun st pe => { state := st, pending := pe, fn, tmps := a.tmps, params := ps, assign := asg, body, defers := w.heap.size } := ⟨_, rfl⟩
            obtain ⟨L, hLe⟩ : ∃ L, L = w.heap.size + 1 := ⟨_, rfl⟩
            obtain ⟨V1, hV1⟩ : ∃ V1, V1 = (w.alloc (.deferred (some []))).alloc (.loop (rec .ready none)) := ⟨_, rfl⟩
            have g1 : w.grownBy (w.alloc (.deferred (some []))) none := World.grownBy_alloc w _ none
            have g2 : (w.alloc (.deferred (some []))).grownBy V1 none := by rw [hV1]; exact World.grownBy_alloc _ _ none
            have hL1 : V1.heap[L]? = some (.loop (rec .ready none)) := by
              have := World.alloc_heap_new (w.alloc (.deferred (some []))) (.loop (rec .ready none))
              rw [World.size_alloc] at this
              rw [hV1, hLe]; exact this
            have hK1 : V1.heap[w.heap.size]? = some (.deferred (some [])) := by
              rw [g2.block _ (by rw [World.size_alloc]; omega) (by simp)]
              exact World.alloc_heap_new w _
            have hkV : ∀ b, b < w.heap.size → V1.heap[b]? = w.heap[b]? := fun b hb => by
              rw [g2.block b (by rw [World.size_alloc]; omega) (by simp), g1.block b hb (by simp)]
            have hI1 : I [] (owned ι1 C1) V1 := hIg (hIg ⟨xs, x0, ι1, rfl, hfold, S2, rfl⟩ g1 (fun r e => by cases e)) g2 (fun r e => by cases e)
            refine ⟨L, [{ target := .collected w.heap.size, args := #[] }], V1, { target := .fn (.func f) us.toArray, args := #[.func (.yield L) #[] #[]] }, V1, f,
              #[.func (.yield L) #[] #[]] ++ us.toArray, V1, ?_, ?_, ?_, ?_, (fun e => by cases e), ?_⟩
            · rw [hV1, hLe, hrec]; exact run_enterLoop_outer _ _ _ _ _
            · simp only [resolve, hgval]
              simp [go_sem]
            · intro f' _; trivial
            · simp [invoke, go_sem, eg]
            · let J : List El → (Nat → Prop) → World → Prop := fun pre O W => I pre O W ∧ W.heap[L]? = some (.loop (rec .ready none)) ∧ W.heap[w.heap.size]? = some (.deferred (some []))
              let Jx : World → Prop := fun W => ∃ c, Ix c W ∧ W.heap[L]? = some (.loop (rec .done (some c))) ∧ W.heap[w.heap.size]? = some (.deferred (some []))
              have hCl : ∀ b, Cp b → b < w.heap.size := fun b hb => h.f.h.lt (hCo b hb)
              have keepM : ∀ {A B : World} {k : Nat} {o : Obj}, w.heap.size ≤ k → Turned Cp A B → A.heap[k]? = some o → B.heap[k]? = some o := fun hw hm hk => (hm.block _ (Array.getElem?_eq_some_iff.1 hk).1 (fun hc => absurd (hCl _ hc) (Nat.not_lt.2 hw))).trans hk
              have hLw : w.heap.size ≤ L := by omega
              have hV1s : w.heap.size ≤ V1.heap.size := Nat.le_trans g1.size g2.size
              refine (hseq L J Jx V1 hLw (Array.getElem?_eq_some_iff.1 hL1).1 hV1s hkV ⟨hI1, hL1, hK1⟩ (by
                rintro pre O A ⟨⟨rest, x, ι, e1, e2, e3, rfl⟩, _, _⟩ b hb
                exact e3.f.h.lt hb) (fun pre O A B hJ hm => ⟨hIm hJ.1 hm, keepM hLw hm hJ.2.1, keepM (Nat.le_refl _) hm hJ.2.2⟩)
                (fun A B ⟨c, h1, h2, h3⟩ hm => ⟨c, hIxm h1 hm, keepM hLw hm h2, keepM (Nat.le_refl _) hm h3⟩) ?_).mono ?_
              · -- one round
                rintro pre x ⟨t, ht⟩ O W ⟨⟨rest, x1, ι2, hxs, hfo, S3, hO⟩, hl, hk⟩
                have hrest : rest = x :: t := by
                  rw [hxs, List.append_assoc] at ht
                  exact (List.append_cancel_left ht).symm
                subst hrest
                have hlt : L < W.heap.size := (Array.getElem?_eq_some_iff.1 hl).1
                have hy := run_yield (P := P) (args := (encs x).toArray) hl (by rw [hrec]; simp [hT.len x])
                rw [hrec] at hy
                refine ⟨fn, _, asg, body, hy, roundIn_of_wpIn hfn (asgs_wp asg asl _ W _ _ hT.asg ⟨_, run_beginRound hl (by rw [hrec]), ?_⟩)⟩
                have hwL : w.heap.size < L := by omega
                obtain ⟨W2, hW2⟩ : ∃ W2, W2 = W.putObj L (.loop { rec .ready none with state := .busy }) := ⟨_, rfl⟩
                rw [← hW2]
                have hl2 : W2.heap[L]? = some (.loop { rec .ready none with state := .busy }) := by rw [hW2]; exact World.putObj_heap_same hlt
                have ho2 : ∀ b, b ≠ L → W2.heap[b]? = W.heap[b]? := fun b hb => by rw [hW2]; exact World.putObj_heap_other hb
                have hk2 : W2.heap[w.heap.size]? = some (.deferred (some [])) := by rw [ho2 _ (by omega)]; exact hk
                have S4 : SRel XX kp w n ι2 (head.put x1) a0 W2 := by
                  rw [hW2]
                  exact S3.grown (putB_noIt _ hT.no1 _) (grownBy_putObj' W L _) (fun r e => by injection e with e; subst e; exact ⟨by omega, _, hl, rfl⟩)
                have hno4 : NoIt (head.put x1) := putB_noIt _ hT.no1 _
                let kp2 : Nat → Prop := fun b => b < W2.heap.size ∧ ¬ owned ι2 (getB (head.put x1).bl) b
                have hkp2 : ∀ b, kp b → kp2 b := fun b hb => ⟨Nat.lt_of_lt_of_le hb.1 S4.f.h.fr.size, fun ho => S4.f.h.own b ho hb⟩
                have hbase2 : n.base ≤ W2.heap.size := Nat.le_trans hbase S4.f.h.fr.size
                have F0 : FRel XX kp2 W2 nR ι2 (getT (head.put x1).tm) (getB (head.put x1).bl) a0 W2 := ⟨S4.f.h.rebase, S4.f.tm, ⟨S4.f.size, fun _ _ => rfl⟩, hbase2, fun _ => rfl, trivial⟩
                have F1 := F0.puts ps.toList (avs x) (encs x) (head.put x1).tm a0 (fun p hp => allOk_iff hT.ps p hp) (hT.rel _ _ _ x) (hT.len x).symm
                have F2 := F1.asg asl _ _ (fun p hp => allOk_iff hT.asn p.1 (List.mem_map_of_mem hp))
                have hact : ({ tmps := (ps.zip (encs x).toArray).foldl (fun t (p, v) => t.setIfInBounds p v) a.tmps, defers := [] } : Act) = putsA (ps.toList.zip (encs x)) a0 := by
                  obtain ⟨q1, q2⟩ := putsA_tmps (ps.toList.zip (encs x)) a0
                  have e : putsA (ps.toList.zip (encs x)) a0 = ⟨(putsA (ps.toList.zip (encs x)) a0).tmps, (putsA (ps.toList.zip (encs x)) a0).defers⟩ := rfl
                  rw [e, q1, q2]
                  congr 1
                  rw [← Array.foldl_toList, Array.toList_zip]
                rw [hact]
                simp only [foldR] at hfo
                cases hst' : step x x1 with
                | none => rw [hst'] at hfo; cases hfo
                | some v =>
                  rw [hst'] at hfo
                  refine evC_sound (n := nR) (ρ := some L) hm hP hΔ body (hL nR rfl (some L) (.inl rfl)) ⟨asgT asl (putsT ps.toList (avs x) (head.put x1).tm), (head.put x1).bl⟩ _ _ _ W2 ι2 kp2 W2 ⟨F2, S4.dom⟩ hst' (fun e s3 a3 W3 ι3 k3 v3 hlat hk3 S5 => ?_)
                  have keepW : ∀ b, kp2 b → W3.heap[b]? = W2.heap[b]? := fun b hb => (S5.f.h.fr.block b (hlat.mono b hb) (Nat.lt_of_lt_of_le hb.1 hlat.kept.size)).trans (hlat.kept.block b hb hb.1)
                  have keepN : ∀ (b : Nat) (o : Obj), W2.heap[b]? = some o → o.isCells = false → W3.heap[b]? = some o := fun b o hb ho => by
                    rw [keepW b ⟨(Array.getElem?_eq_some_iff.1 hb).1, fun hw => by
                      obtain ⟨o', q1, q2⟩ := S4.owned_cells hno4 hw
                      rw [hb] at q1
                      injection q1 with q1
                      subst q1
                      rw [ho] at q2
                      cases q2⟩]
                    exact hb
                  have hl3 := keepN _ _ hl2 rfl
                  have hk3' := keepN _ _ hk2 rfl
                  have back : ∀ s4 ι4, SRel XX k3 v3 nR ι4 s4 a3 W3 → (∀ t, t ∉ pins → getT s4.tm t = .un) → SRel XX kp w n ι4 s4 a0 W3 := by
                    intro s4 ι4 h4 hun
                    refine ⟨⟨h4.f.h.weaken (fun b hb => hlat.mono b (hkp2 b hb)) (S4.f.h.fr.trans (hlat.kept.weak hkp2)) (fun b hb => hb.1) hXl, fun t => ?_, S4.f.size, hbase, fun _ => rfl, trivial⟩, h4.dom⟩
                    by_cases hp : t ∈ pins
                    · have e1 := h4.f.size.2 t hp
                      rw [← e1]
                      exact h4.f.tm t
                    · rw [hun t hp]
                      simp only [RelV]
                  have hend : ∀ jump : Option Code, (Instr.endRound L jump).run P W3 = .ok (.bool jump.isNone) (W3.putObj L (.loop (rec (if jump.isNone then .ready else .done) jump))) := fun jump => by
                    have := run_endRound (P := P) jump hl3
                    rw [hrec] at this ⊢
                    exact this
                  have hlt3 : L < W3.heap.size := (Array.getElem?_eq_some_iff.1 hl3).1
                  have gP : ∀ o, W3.grownBy (W3.putObj L o) (some L) := fun o => grownBy_putObj' W3 L o
                  have gR : ∀ r, some L = some r → w.heap.size ≤ r ∧ ∃ o : Obj, W3.heap[r]? = some o ∧ o.isCells = false := fun r e => by injection e with e; subst e; exact ⟨by omega, _, hl3, rfl⟩
                  have hkD : ∀ o, (W3.putObj L o).heap[w.heap.size]? = some (.deferred (some [])) := fun o => (World.putObj_heap_other (by omega)).trans hk3'
                  have leave : ∀ (e : Ex) (c : Code), ((c = .ret ∧ e = Ex.rt) ∨ ∃ j, c = .exit j ∧ e = Ex.ex j) → (toX ways e s3 fun y => some (Sum.inr y : head.den ⊕ denX ways)) = some v → Jx (W3.putObj L (.loop (rec .done (some c)))) := by
                    intro e c hce hto
                    obtain ⟨z, hz1, hz2⟩ := toX_sound2 S5 ways _ hT.no2 hto
                    injection hz1 with hz1
                    subst hz1
                    have hout' : Sum.inr z = out := by injection hfo
                    refine ⟨c, hIxg (c := c) ⟨z, e, hout'.symm, hce, fun R' K' r' hk' => ?_⟩ (gP _) gR, World.putObj_heap_same hlt3, hkD _⟩
                    obtain ⟨s4, ι4, q1, q2, q3, q4⟩ := hz2 K' r' hk'
                    exact ⟨s4, ι4, back s4 ι4 q1 (fun t ht => q3 t (fun q => ht (List.mem_append_right _ q))), q2, q4⟩
                  have hyS : ∀ o, W.heap.size ≤ (W3.putObj L o).heap.size := fun o => by
                    have q1 : W.heap.size = W2.heap.size := by rw [hW2]; simp
                    have q2 : W2.heap.size ≤ W3.heap.size := Nat.le_trans hlat.kept.size S5.f.h.fr.size
                    rw [q1]
                    simpa using q2
                  have hyB : ∀ o b, b < W.heap.size → ¬ O b → b ≠ L → (W3.putObj L o).heap[b]? = W.heap[b]? := fun o b hb hno hbl => by
                    rw [World.putObj_heap_other hbl, keepW b ⟨by rw [hW2]; simpa using hb, by rw [← hO]; exact hno⟩, ho2 b hbl]
                  cases e with
                  | nm =>
                    simp only at hk3
                    split at hk3
                    · rename_i y hy'
                      injection hk3 with hk3
                      subst hk3
                      obtain ⟨ι4, h4, h4o⟩ := Shape.take_own S5 hy' (fun _ => False) (fun _ q => q.elim)
                      have h4 := h4.noY
                      refine ⟨_, _, hend none, .inl ⟨rfl, _, ⟨hIg ⟨t, y, ι4, by rw [hxs, List.append_assoc]; rfl, hfo, back _ _ h4 (fun u hu => putS_out _ _ _ (fun q => hu (List.mem_append_left _ q))), rfl⟩ (gP _) gR, World.putObj_heap_same hlt3, hkD _⟩, ?_, ?_, ?_⟩⟩
                      · exact hyS _
                      · exact hyB _
                      · intro b hb hob
                        have q1 : owned ι3 (getB s3.bl) b := by obtain ⟨i, _, hi⟩ := h4o b hob; exact ⟨i, hi⟩
                        have q2 := S5.f.h.own b q1
                        have hb2 : b < W2.heap.size := by rw [hW2]; simpa using hb
                        rw [hO]
                        exact Classical.byContradiction fun q => q2 (hlat.mono b ⟨hb2, q⟩)
                    · cases hk3
                  | ex j => exact ⟨_, _, hend (some (.exit j)), .inr ⟨rfl, leave (.ex j) (.exit j) (.inr ⟨j, rfl, rfl⟩) hk3, hyS _, hyB _, fun _ _ q => q.elim⟩⟩
                  | rt => exact ⟨_, _, hend (some .ret), .inr ⟨rfl, leave .rt .ret (.inl ⟨rfl, rfl⟩) hk3, hyS _, hyB _, fun _ _ q => q.elim⟩⟩
              · -- behind the iterator
                have fin : ∀ s' ι' W', SRel XX kp w n ι' s' a0 W' → NoIt s' → W'.heap[w.heap.size]? = some (.deferred (some [])) →
                    Later keep w0 (fun b => keep b ∨ b = w.heap.size) W' ∧ SRel X (fun b => keep b ∨ b = w.heap.size) W' n ι' s' { a with defers := { target := .collected w.heap.size, args := #[] } :: a.defers } W' := by
                  intro s' ι' W' h' hno hD
                  have h' := h'.lessX (X := X) fun b hb => .inl hb
                  have hlat : Later keep w0 (fun b => keep b ∨ b = w.heap.size) W' := ⟨fun b hb => .inl hb, h.f.h.fr.trans (h'.f.h.fr.weak hkeep)⟩
                  refine ⟨hlat, ⟨⟨⟨h'.f.h.bl, h'.f.h.inj, Kept.refl _ _, fun b hb hk => ?_, fun b hk => ?_, h'.f.h.ox, fun b hb => Nat.lt_of_lt_of_le (hXl0 b hb) h'.f.h.fr.size, h'.f.h.gl⟩, h'.f.tm, h'.f.size, Nat.le_trans hbase h'.f.h.fr.size, (fun hm => by rw [hmk] at hm; cases hm), ⟨_, rfl, hbase, .inr rfl, hD, fun e he ht => ?_⟩, marksOK_later hlat h.f.defers.2.2⟩, h'.dom⟩⟩
                  · rcases hk with hk | hk
                    · exact h'.f.h.own b hb (hkeep b hk)
                    · subst hk
                      exact h'.f.h.owned_obj hb hD
                  · rcases hk with hk | hk
                    · exact Nat.lt_of_lt_of_le (hkeep b hk).1 h'.f.h.fr.size
                    · subst hk
                      exact (Array.getElem?_eq_some_iff.1 hD).1
                  · obtain ⟨D', q1, q2⟩ := marks_lt h.f.defers.2.2 e he
                    rw [ht] at q1
                    injection q1 with q1
                    have := h.f.h.fr.size
                    omega
                rintro e V2 ⟨⟨v, rfl⟩, (⟨O', ⟨rest, x, ι2, hxs, hfo, S3, _⟩, hl, hk⟩ | ⟨c, ⟨z, e, hz, hce, hK⟩, hl, hk⟩)⟩
                · have hrest : rest = [] := by simpa using hxs.symm
                  subst hrest
                  simp only [foldR] at hfo
                  injection hfo with hfo
                  subst hfo
                  obtain ⟨V3, hE, hgr, hD3⟩ : ∃ V3, (Instr.endLoop L).run P V2 = .ok (none) V3 ∧ V2.grownBy V3 (some L) ∧ V3.heap[w.heap.size]? = some (.deferred (some [])) :=
                    ⟨V2.putObj L (.loop { rec .ready none with state := .exhausted }), by have := run_endLoop (P := P) hl (by rw [hrec]; simp); rw [hrec] at this ⊢; exact this, grownBy_putObj' V2 L _, (World.putObj_heap_other (by omega)).trans hk⟩
                  have S4 := S3.grown (putB_noIt _ hT.no1 _) hgr (fun r e => by injection e with e; subst e; exact ⟨by omega, _, hl, rfl⟩)
                  obtain ⟨q1, q2⟩ := fin _ _ _ S4 (putB_noIt _ hT.no1 _) hD3
                  refine ⟨none, _, hE, ?_⟩
                  exact hQ .nm _ _ _ _ _ _ q1 hev q2
                · subst hz
                  obtain ⟨s', ι', S3, hno, hk3⟩ := hK R K r hev
                  obtain ⟨V3, hE, hgr, hD3⟩ : ∃ V3, (Instr.endLoop L).run P V2 = .ok (some c) V3 ∧ V2.grownBy V3 (some L) ∧ V3.heap[w.heap.size]? = some (.deferred (some [])) :=
                    ⟨V2.putObj L (.loop { rec .done (some c) with state := .exhausted }), by have := run_endLoop (P := P) hl (by rw [hrec]; simp); rw [hrec] at this ⊢; exact this, grownBy_putObj' V2 L _, (World.putObj_heap_other (by omega)).trans hk⟩
                  have S4 := S3.grown hno hgr (fun r e => by injection e with e; subst e; exact ⟨by omega, _, hl, rfl⟩)
                  obtain ⟨q1, q2⟩ := fin _ _ _ S4 hno hD3
                  refine ⟨some c, _, hE, ?_⟩
                  rcases hce with ⟨rfl, rfl⟩ | ⟨j, rfl, rfl⟩
                  · exact wpIn_ret (hQ .rt _ _ _ _ _ _ q1 hk3 q2)
                  · exact wpIn_exit (hQ (.ex j) _ _ _ _ _ _ q1 hk3 q2)
          · cases hev
        · cases hev
    · cases hev
  · cases hev
end
end Go.Proofs.Rf
/- Rf, part A: contracts of functions that are handed pointers or rows of the caller's own: definitions. -/
namespace Go.Proofs.Rf
open Go Go.RowKit

mutual
/-- A result's value, where its blocks are renamed. -/
def SV.re (f : Nat → Nat) : (s : SV) → s.den → AV
  | .d agg t, x => avD agg t x
  | .rs b sz, p => .rs (f b) sz p.1 p.2
  | .rz b sz, p => .rs (f b) sz 0 p
  | .fn g cs, x => .fn g (SV.reL f cs x)
  | .rf b, _ => .rf (f b)
  | .pt b o, _ => .pt (f b) o
  | .ud, _ => .ud
  | .mp b, _ => .mp (f b)
  | .np, _ => .np
  | .mnil, _ => .mnil
  | .nl, _ => .nl
def SV.reL (f : Nat → Nat) : (l : List SV) → SV.denL l → List AV
  | [], _ => []
  | a :: r, x => a.re f x.1 :: SV.reL f r x.2
end

def reS (f : Nat → Nat) : (l : List (Nat × SV)) → denS l → List AV
  | [], _ => []
  | p :: r, x => p.2.re f x.1 :: reS f r x.2

def SB.re (f : Nat → Nat) : (s : SB) → s.den → Blk
  | .row t e, xs => .row t e xs true
  | .box e cs, x => .box e (SV.reL f cs x)
  | .it, _ => .dead
  | .map kt va vt, l => .map kt va vt l

def reB (f : Nat → Nat) : (l : List SB) → denB l → List Blk
  | [], _ => []
  | a :: r, x => a.re f x.1 :: reB f r x.2

/-- Where a result's block lies: the first ones are blocks that were handed in, the others are new. -/
def rnB (ρ m : List Nat) (nb b : Nat) : Nat := match m[b]? with
  | some k => ρ.getD k 0
  | none => nb + (b - m.length)

def posM (k : Nat) : Nat → List Nat → Option Nat
  | _, [] => none
  | i, j :: r => if Nat.beq j k = true then some i else posM k (i + 1) r

/-- What the blocks that were handed in become. -/
def updRe (m : List Nat) (bs : List Blk) : Nat → List Nat → List (Nat × Blk)
  | _, [] => []
  | k, i :: r => (i, match posM k 0 m with
    | some j => getB bs j
    | none => .dead) :: updRe m bs (k + 1) r

/-- A call, over data, of a function that is handed blocks; m names the handed ones that its first blocks are at the end; the first np values at the end are its parameters. -/
def mkCallB (psh rsh : Shape) (m : List Nat) (np : Nat) (F : psh.den → Option rsh.den) : CallO := fun args C nb _ K =>
  if (nodupN (blkB C psh.bl 0 (blkS (getT (numT 0 args)) psh.sl [])) && Nat.beq args.length psh.sl.length) = true then
    (match takeS C (getT (numT 0 args)) (blkB C psh.bl 0 (blkS (getT (numT 0 args)) psh.sl [])) psh.sl with
    | some (x, f) => match takeB C (blkB C psh.bl 0 (blkS (getT (numT 0 args)) psh.sl [])) psh.bl (blkB C psh.bl 0 (blkS (getT (numT 0 args)) psh.sl [])) with
      | some (y, g) => if meetN (blkB C psh.bl 0 (blkS (getT (numT 0 args)) psh.sl [])) (updIds (f ++ g)) = true then none else
          (F (x, y)).bind fun z => K ⟨retV ((reS (rnB (blkB C psh.bl 0 (blkS (getT (numT 0 args)) psh.sl [])) m nb) rsh.sl z.1).drop np),
            (if rsh.flat = true then [] else f ++ g) ++ updRe m (reB (rnB (blkB C psh.bl 0 (blkS (getT (numT 0 args)) psh.sl [])) m nb) rsh.bl z.2) 0 (blkB C psh.bl 0 (blkS (getT (numT 0 args)) psh.sl [])),
            (reB (rnB (blkB C psh.bl 0 (blkS (getT (numT 0 args)) psh.sl [])) m nb) rsh.bl z.2).drop m.length⟩
      | none => none
    | none => none)
  else none

/-- A function's body, over data, its first np parameters kept to the end. -/
noncomputable def runFB (TT : Tab) (Δ : Nat → Option CallO) (n : Nat → Bool) (Λ : Nat → Option LoopO) (c : Code) (rvs : List ResultVar) (psh rsh : Shape) (np : Nat) (x : psh.den) : Option rsh.den :=
  evC TT Δ n Λ c (psh.put x) fun e s => match e with
    | .ex _ => none
    | .nm => (match retsOf TT s rvs with
      | some vs => rsh.take ⟨numT 0 ((rangeN 0 np).map (getT s.tm) ++ vs), s.bl⟩
      | none => none)
    | .rt => (match retsOf TT s rvs with
      | some vs => rsh.take ⟨numT 0 ((rangeN 0 np).map (getT s.tm) ++ vs), s.bl⟩
      | none => none)

/-- Values that name a block from its beginning on. -/
def rootOf : SV → SV → Option (Nat × Nat)
  | .rf a, .rf b => some (a, b)
  | .pt a _, .pt b _ => some (a, b)
  | .rz a _, .rz b _ => some (a, b)
  | _, _ => none

/-- How long a row of the data is. -/
def lenRow : (l : List SB) → denB l → Nat → Option Nat
  | .row _ _ :: _, x, 0 => some x.1.length
  | _ :: r, x, k + 1 => lenRow r x.2 k
  | _, _, _ => none

/-- Rows that are handed in by a part of them alone keep their lengths. -/
def keepsLen (pb rb : List SB) (y : denB pb) (z : denB rb) : Nat → List (Nat × SV) → List (Nat × SV) → Bool
  | np + 1, p :: r, p' :: r' => (match p.2, p'.2 with
    | .rz a _, .rz b _ => (match lenRow pb y a, lenRow rb z b with
      | some n, some n' => Nat.beq n n'
      | _, _ => false)
    | _, _ => true) && keepsLen pb rb y z np r r'
  | _, _, _ => true

theorem lenRow_row : ∀ (l : List SB) (x : denB l) (k n : Nat), lenRow l x k = some n → ∃ (t : Ty) (e : Nat) (xs : List t.den), getB (putB l x) k = .row t e xs true ∧ xs.length = n
  | [], _, k, n, h => by cases k <;> cases h
  | .row t e :: _, x, 0, n, h => by
    injection h with h
    exact ⟨t, e, x.1, rfl, h⟩
  | .box _ _ :: _, _, 0, _, h => by cases h
  | .it :: _, _, 0, _, h => by cases h
  | .map _ _ _ :: _, _, 0, _, h => by cases h
  | a :: r, x, k + 1, n, h => by
    have h : lenRow r x.2 k = some n := by cases a <;> exact h
    exact lenRow_row r x.2 k n h

theorem lenRow_slice {X keep : Nat → Prop} {w0 w : World} {ι : Nat → Option Value} {l : List SB} {x : denB l} (h : HRel X keep w0 ι (getB (putB l x)) w) {k n : Nat} (hl : lenRow l x k = some n) {A : Option Addr} {n' c : Nat} (hι : ι k = some (.slice A n' c)) : n' = n := by
  obtain ⟨t, e, xs, h1, h2⟩ := lenRow_row l x k n hl
  have hB := h.bl k
  rw [h1] at hB
  obtain ⟨v, cs, b1, b2, _⟩ := hB
  rw [hι] at b1
  injection b1 with b1
  subst b1
  rw [← h2]
  rcases b2.2 with ⟨q, q'⟩ | ⟨g, cap, cur, q, _⟩
  · injection q with _ q1 _
    omega
  · injection q

theorem keepsLen_at {pb rb : List SB} {y : denB pb} {z : denB rb} : ∀ {np : Nat} {l l' : List (Nat × SV)}, keepsLen pb rb y z np l l' = true → ∀ (i t t' a b sz sz' : Nat), i < np → l[i]? = some (t, .rz a sz) → l'[i]? = some (t', .rz b sz') → ∃ n, lenRow pb y a = some n ∧ lenRow rb z b = some n
  | 0, _, _, _, i, _, _, _, _, _, _, hi, _, _ => by omega
  | np + 1, [], _, _, i, _, _, _, _, _, _, _, h1, _ => by simp at h1
  | np + 1, _ :: _, [], _, i, _, _, _, _, _, _, _, _, h2 => by simp at h2
  | np + 1, p :: r, p' :: r', h, i, t, t', a, b, sz, sz', hi, h1, h2 => by
    simp only [keepsLen, Bool.and_eq_true] at h
    cases i with
    | zero =>
      simp only [List.getElem?_cons_zero, Option.some.injEq] at h1 h2
      subst h1; subst h2
      have h := h.1
      simp only at h
      split at h
      · rename_i n n' q1 q2
        have := Nat.eq_of_beq_eq_true h
        subst this
        exact ⟨n, q1, q2⟩
      · cases h
    | succ i => exact keepsLen_at h.2 i t t' a b sz sz' (by omega) (by simpa using h1) (by simpa using h2)

/-- Some parameter tells that block j at the end is block k that was handed in. -/
def rootAt (j k : Nat) : Nat → List (Nat × SV) → List (Nat × SV) → Bool
  | 0, _, _ => false
  | np + 1, p :: r, p' :: r' => (match rootOf p'.2 p.2 with
    | some (a, b) => Nat.beq a j && Nat.beq b k
    | none => false) || rootAt j k np r r'
  | _, _, _ => false

def rootsOk (psh rsh : Shape) (np : Nat) : Nat → List Nat → Bool
  | _, [] => true
  | j, k :: r => rootAt j k np psh.sl rsh.sl && rootsOk psh rsh np (j + 1) r

section
variable {w' : World} {ok ok' : Nat → Prop} {ι2 ι'' : Nat → Option Value} {fl : Bool} {f : Nat → Nat}

mutual
theorem SV.re_rel (hok : fl = false → ∀ b, ok b → ok' b) (hι : ∀ b v, ι2 b = some v → ι'' (f b) = some v) : ∀ (sv : SV) (x : sv.den) (u : Value), (fl = true → sv.flat = true) → RelV w' ok ι2 (sv.put x) u → RelV w' ok' ι'' (sv.re f x) u
  | .d agg t, x, u, hf, h => avD_mv hok hf h
  | .rs b sz, p, u, _, h => by
    simp only [SV.put, SV.re, RelV] at h ⊢
    obtain ⟨A, n, c, A', c', h1, h2⟩ := h
    exact ⟨A, n, c, A', c', hι _ _ h1, h2⟩
  | .rz b sz, p, u, _, h => by
    simp only [SV.put, SV.re, RelV] at h ⊢
    obtain ⟨A, n, c, A', c', h1, h2⟩ := h
    exact ⟨A, n, c, A', c', hι _ _ h1, h2⟩
  | .fn g cs, x, u, hf, h => by
    simp only [SV.put, SV.re, RelV] at h ⊢
    obtain ⟨us, e, h1⟩ := h
    exact ⟨us, e, SV.reL_rel hok hι cs x us hf h1⟩
  | .rf b, x, u, _, h => by
    simp only [SV.put, SV.re, RelV] at h ⊢
    exact ⟨hι _ _ h.1, h.2⟩
  | .pt b o, x, u, _, h => by
    simp only [SV.put, SV.re, RelV] at h ⊢
    obtain ⟨g, h1, h2⟩ := h
    exact ⟨g, hι _ _ h1, h2⟩
  | .ud, x, u, _, h => by
    simp only [SV.put, SV.re, RelV] at h ⊢
    exact h
  | .mp b, x, u, _, h => by
    simp only [SV.put, SV.re, RelV] at h ⊢
    obtain ⟨g, h1, h2⟩ := h
    exact ⟨g, hι _ _ h1, h2⟩
  | .np, x, u, _, h => by
    simp only [SV.put, SV.re, RelV] at h ⊢
    exact h
  | .mnil, x, u, _, h => by
    simp only [SV.put, SV.re, RelV] at h ⊢
    exact h
  | .nl, x, u, _, h => by
    simp only [SV.put, SV.re, RelV] at h ⊢
    exact h
theorem SV.reL_rel (hok : fl = false → ∀ b, ok b → ok' b) (hι : ∀ b v, ι2 b = some v → ι'' (f b) = some v) : ∀ (l : List SV) (x : SV.denL l) (us : List Value), (fl = true → SV.flatL l = true) → RelL w' ok ι2 (SV.putL l x) us → RelL w' ok' ι'' (SV.reL f l x) us
  | [], x, us, _, h => by simpa only [SV.putL, SV.reL, RelL] using h
  | a :: r, x, us, hf, h => by
    simp only [SV.putL, SV.reL, RelL] at h ⊢
    obtain ⟨v, vr, e, h1, h2⟩ := h
    have hf' : fl = true → a.flat = true ∧ SV.flatL r = true := fun q => by
      have := hf q
      simpa only [SV.flatL, Bool.and_eq_true] using this
    exact ⟨v, vr, e, SV.re_rel hok hι a x.1 v (fun q => (hf' q).1) h1, SV.reL_rel hok hι r x.2 vr (fun q => (hf' q).2) h2⟩
end

theorem SB.re_rel (hok : fl = false → ∀ b, ok b → ok' b) (hι : ∀ b v, ι2 b = some v → ι'' (f b) = some v) {j : Nat} : ∀ (sb : SB) (x : sb.den), (fl = true → sb.flat = true) → RelB w' ok ι2 j (sb.put x) → RelB w' ok' ι'' (f j) (sb.re f x)
  | .row t e, xs, hf, h => by
    obtain ⟨v, cs, h1, h2, h3⟩ := h
    refine ⟨v, cs, hι _ _ h1, h2, RzL_mono (fun x us hx => ?_) h3⟩
    cases hfl : fl with
    | true => exact Rz_flat t x us (hf hfl) hx
    | false => exact Rz_mono (fun _ _ _ _ e => e) (hok hfl) t x us hx
  | .box e cs, x, hf, h => by
    obtain ⟨g, us, h1, h2, h3⟩ := h
    exact ⟨g, us, hι _ _ h1, h2, SV.reL_rel hok hι cs x us hf h3⟩
  | .it, _, _, _ => trivial
  | .map kt va vt, l, hf, h => by
    obtain ⟨g, es, ck, l', h1, h2, h3, h4, h5, h6⟩ := h
    refine ⟨g, es, ck, l', hι _ _ h1, h2, h3, h4, h5, ?_⟩
    cases hfl : fl with
    | true =>
      have := hf hfl
      simp only [SB.flat, Bool.and_eq_true] at this
      exact RzM_flat this.1 this.2 h6
    | false => exact RzM_dat (fun _ _ _ _ e => e) (hok hfl) h6

theorem SB.re_bk {C2 C'' : Nat → Blk} {j : Nat} {b : Nat} (hι : ∀ b v, ι2 b = some v → ι'' (f b) = some v) : ∀ (sb : SB) (y : sb.den), RelB w' ok ι2 j (sb.put y) → C'' (f j) = sb.re f y → C2 j = sb.put y → bk ι'' C'' (f j) = some b → bk ι2 C2 j = some b
  | .row t e, xs, hB, h1, h2, h => by
    obtain ⟨v, cs, hv, _⟩ := hB
    unfold bk at h ⊢
    rw [h1, hι j v hv] at h
    rw [h2, hv]
    exact h
  | .box e cs, x, hB, h1, h2, h => by
    obtain ⟨g, us, hv, _⟩ := hB
    unfold bk at h ⊢
    rw [h1, hι j _ hv] at h
    rw [h2, hv]
    exact h
  | .it, _, _, h1, _, h => by
    rw [bk_dead h1] at h
    cases h
  | .map kt va vt, l, hB, h1, h2, h => by
    obtain ⟨g, es, ck, l', hv, _⟩ := hB
    unfold bk at h ⊢
    rw [h1, hι j _ hv] at h
    rw [h2, hv]
    exact h
end

theorem reB_length (f : Nat → Nat) : ∀ (l : List SB) (x : denB l), (reB f l x).length = l.length
  | [], _ => rfl
  | _ :: r, x => by simp [reB, reB_length f r x.2]

theorem reB_get (f : Nat → Nat) : ∀ (l : List SB) (x : denB l) (j : Nat), (getB (reB f l x) j = .dead ∧ l.length ≤ j) ∨ ∃ sb, l[j]? = some sb ∧ ∃ y : sb.den, getB (reB f l x) j = sb.re f y ∧ getB (putB l x) j = sb.put y
  | [], _, j => .inl ⟨rfl, Nat.zero_le j⟩
  | a :: r, x, 0 => .inr ⟨a, rfl, x.1, rfl, rfl⟩
  | a :: r, x, j + 1 => by
    rcases reB_get f r x.2 j with h | ⟨sb, h1, y, h2, h3⟩
    · exact .inl ⟨h.1, by simpa using h.2⟩
    · exact .inr ⟨sb, by simpa using h1, y, h2, h3⟩

theorem getB_drop : ∀ (l : List Blk) (k j : Nat), getB (l.drop k) j = getB l (k + j)
  | [], k, j => by simp [getB]
  | b :: r, 0, j => by simp
  | b :: r, k + 1, j => by
    rw [List.drop_succ_cons, getB_drop r k j, show k + 1 + j = (k + j) + 1 by omega]
    rfl

theorem posM_iff : ∀ {m : List Nat} {k i j : Nat}, posM k i m = some j → i ≤ j ∧ m[j - i]? = some k
  | [], _, _, _, h => by cases h
  | a :: r, k, i, j, h => by
    simp only [posM] at h
    split at h
    · rename_i hb
      injection h with h
      subst h
      rw [Nat.sub_self, Nat.eq_of_beq_eq_true hb]
      exact ⟨Nat.le_refl _, rfl⟩
    · obtain ⟨h1, h2⟩ := posM_iff h
      refine ⟨by omega, ?_⟩
      rw [show j - i = (j - (i + 1)) + 1 by omega]
      simpa using h2

theorem updRe_ids (m : List Nat) (bs : List Blk) : ∀ (k : Nat) (l : List Nat), updIds (updRe m bs k l) = l
  | _, [] => rfl
  | k, i :: r => by simp only [updRe, updIds, updRe_ids m bs (k + 1) r]

theorem updRe_at (m : List Nat) (bs : List Blk) : ∀ (l : List Nat) (k0 k i : Nat) (C : Nat → Blk), l.Nodup → l[k]? = some i → updC C (updRe m bs k0 l) i = match posM (k0 + k) 0 m with
    | some j => getB bs j
    | none => .dead
  | [], _, _, _, _, _, h => by simp at h
  | a :: r, k0, 0, i, C, hn, h => by
    simp only [List.getElem?_cons_zero, Option.some.injEq] at h
    subst h
    show updC (setC C a _) (updRe m bs (k0 + 1) r) a = _
    rw [updC_other _ _ _ (by rw [updRe_ids]; exact (List.nodup_cons.1 hn).1), setC_self]
    rfl
  | a :: r, k0, k + 1, i, C, hn, h => by
    show updC (setC C a _) (updRe m bs (k0 + 1) r) i = _
    rw [updRe_at m bs r (k0 + 1) k i _ (List.nodup_cons.1 hn).2 (by simpa using h), show k0 + 1 + k = k0 + (k + 1) by omega]

theorem rootAt_iff : ∀ {np : Nat} {j k i : Nat} {l l' : List (Nat × SV)}, rootAt j k np l l' = true → slotsFrom i l = true → slotsFrom i l' = true → ∃ t, i ≤ t ∧ t < i + np ∧ ∃ sv sv', l[t - i]? = some (t, sv) ∧ l'[t - i]? = some (t, sv') ∧ rootOf sv' sv = some (j, k)
  | 0, _, _, _, _, _, h, _, _ => by simp [rootAt] at h
  | np + 1, _, _, _, [], _, h, _, _ => by simp [rootAt] at h
  | np + 1, _, _, _, _ :: _, [], h, _, _ => by simp [rootAt] at h
  | np + 1, j, k, i, p :: r, p' :: r', h, h1, h2 => by
    simp only [slotsFrom, Bool.and_eq_true] at h1 h2
    have e1 := Nat.eq_of_beq_eq_true h1.1
    have e2 := Nat.eq_of_beq_eq_true h2.1
    simp only [rootAt, Bool.or_eq_true] at h
    rcases h with h | h
    · split at h
      · rename_i a b hr
        simp only [Bool.and_eq_true] at h
        rw [Nat.eq_of_beq_eq_true h.1, Nat.eq_of_beq_eq_true h.2] at hr
        obtain ⟨t, sv⟩ := p
        obtain ⟨t', sv'⟩ := p'
        simp only at e1 e2 hr
        subst e1
        subst e2
        exact ⟨_, Nat.le_refl _, by omega, sv, sv', by simp, by simp, hr⟩
      · cases h
    · obtain ⟨t, q1, q2, sv, sv', q3, q4, q5⟩ := rootAt_iff h h1.2 h2.2
      refine ⟨t, by omega, by omega, sv, sv', ?_, ?_, q5⟩
      · rw [show t - i = (t - (i + 1)) + 1 by omega]; simpa using q3
      · rw [show t - i = (t - (i + 1)) + 1 by omega]; simpa using q4

theorem rootsOk_iff {psh rsh : Shape} {np : Nat} : ∀ {m : List Nat} {j0 : Nat}, rootsOk psh rsh np j0 m = true → ∀ j k, m[j]? = some k → rootAt (j0 + j) k np psh.sl rsh.sl = true
  | [], _, _, j, k, h => by simp at h
  | a :: r, j0, hr, 0, k, h => by
    simp only [List.getElem?_cons_zero, Option.some.injEq] at h
    subst h
    simp only [rootsOk, Bool.and_eq_true] at hr
    exact hr.1
  | a :: r, j0, hr, j + 1, k, h => by
    simp only [rootsOk, Bool.and_eq_true] at hr
    have := rootsOk_iff hr.2 j k (by simpa using h)
    rwa [show j0 + 1 + j = j0 + (j + 1) by omega] at this

/-- The value at a slot of the data. -/
theorem putS_at : ∀ (l : List (Nat × SV)) (x : denS l) (i t : Nat) (sv : SV), slotsFrom i l = true → i ≤ t → l[t - i]? = some (t, sv) → ∃ y : sv.den, getT (putS l x) t = sv.put y
  | [], _, _, _, _, _, _, h => by simp at h
  | p :: r, x, i, t, sv, hs, hi, h => by
    simp only [slotsFrom, Bool.and_eq_true] at hs
    have e1 := Nat.eq_of_beq_eq_true hs.1
    rcases Nat.eq_or_lt_of_le hi with e | e
    · subst e
      rw [Nat.sub_self] at h
      simp only [List.getElem?_cons_zero, Option.some.injEq] at h
      subst h
      refine ⟨x.1, ?_⟩
      simp only [putS, getT]
      rw [if_pos (Nat.beq_refl _)]
    · rw [show t - i = (t - (i + 1)) + 1 by omega] at h
      obtain ⟨y, hy⟩ := putS_at r x.2 (i + 1) t sv hs.2 (by omega) (by simpa using h)
      refine ⟨y, ?_⟩
      simp only [putS, getT]
      rw [if_neg (fun q => by have := Nat.eq_of_beq_eq_true q; omega)]
      exact hy

theorem reS_rel {w' : World} {ok ok' : Nat → Prop} {ι2 ι'' : Nat → Option Value} {f : Nat → Nat} {fl : Bool} (hok : fl = false → ∀ b, ok b → ok' b) (hι : ∀ b v, ι2 b = some v → ι'' (f b) = some v) :
    ∀ (l : List (Nat × SV)) (x : denS l) (i : Nat) (us : List Value), slotsFrom i l = true → (fl = true → flatS l = true) → us.length = l.length → (∀ t, t < us.length → RelV w' ok ι2 (getT (putS l x) (i + t)) (us.getD t undef)) → RelL w' ok' ι'' (reS f l x) us
  | [], x, i, us, _, _, hl, _ => RelL_nil.2 (List.length_eq_zero_iff.1 hl)
  | p :: r, x, i, us, hs, hf, hl, h => by
    cases us with
    | nil => simp at hl
    | cons u ur =>
      simp only [slotsFrom, Bool.and_eq_true] at hs
      have hp := Nat.eq_of_beq_eq_true hs.1
      have hf' : fl = true → p.2.flat = true ∧ flatS r = true := fun q => by
        have := hf q
        simpa only [flatS, Bool.and_eq_true] using this
      refine RelL_cons.2 ⟨u, ur, rfl, ?_, reS_rel hok hι r x.2 (i + 1) ur hs.2 (fun q => (hf' q).2) (by simpa using hl) fun t ht => ?_⟩
      · have h0 := h 0 (by simp)
        rw [Nat.add_zero] at h0
        simp only [putS, getT] at h0
        rw [if_pos (by rw [hp]; exact Nat.beq_refl i)] at h0
        exact SV.re_rel hok hι p.2 x.1 u (fun q => (hf' q).1) h0
      · have h1 := h (t + 1) (by simpa using ht)
        simp only [putS, getT] at h1
        rw [if_neg (fun q => by have := Nat.eq_of_beq_eq_true q; omega)] at h1
        rw [show i + 1 + t = i + (t + 1) by omega]
        simpa using h1

section
variable {X keep : Nat → Prop} {w0 w : World} {ι : Nat → Option Value} {C : Nat → Blk}

/-- What is taken out of a state, as a state of its own. -/
theorem takeC_sound {sh : Shape} {T : Nat → AV} {V : Nat → Value} {ρ : List Nat} (h : HRel X keep w0 ι C w) (hT : ∀ t, RelV w (okb X w ι C) ι (T t) (V t)) {x1 : denS sh.sl} {f1 : List (Nat × Blk)} (e1 : takeS C T ρ sh.sl = some (x1, f1))
    {x2 : denB sh.bl} {f2 : List (Nat × Blk)} (e2 : takeB C ρ sh.bl ρ = some (x2, f2)) (hmt : meetN ρ (updIds (f1 ++ f2)) = false) :
    HRel X keep w0 ι (updC C (f1 ++ f2)) w ∧ Ext X ι C w ι (updC C (f1 ++ f2)) w ∧ (∀ i ∈ ρ, updC C (f1 ++ f2) i = C i) ∧ sh.bl.length = ρ.length ∧
    (∀ j b, bk (fun j => (ρ[j]?).bind ι) (getB (putB sh.bl x2)) j = some b → ∃ i, ρ[j]? = some i ∧ bk ι (updC C (f1 ++ f2)) i = some b) ∧
    (∀ i b j, ρ[j]? = some i → bk ι (updC C (f1 ++ f2)) i = some b → bk (fun j => (ρ[j]?).bind ι) (getB (putB sh.bl x2)) j = some b) ∧
    ∀ ok' : Nat → Prop, (∀ g, okb X w ι (updC C (f1 ++ f2)) g → ok' g) → (∀ j, RelB w ok' (fun j => (ρ[j]?).bind ι) j (getB (putB sh.bl x2) j)) ∧ ∀ t, RelV w ok' (fun j => (ρ[j]?).bind ι) (getT (putS sh.sl x1) t) (V t) := by
  obtain ⟨a1, a2⟩ := takeS_sound sh.sl _ h (FrozenOf.refl _) hT x1 f1 e1
  obtain ⟨b1, b2, b3⟩ := takeB_sound sh.bl ρ 0 _ a1.1 a1.2.1 (fun k i hk => by rw [Nat.zero_add]; exact hk) x2 f2 e2
  have hF := a1.append b1
  let C1 := updC C (f1 ++ f2)
  have hC1 : C1 = updC (updC C f1) f2 := updC_append _ _ _
  let ι' : Nat → Option Value := fun j => (ρ[j]?).bind ι
  have hι' : Renames ρ ι ι' := fun j i e => by show (ρ[j]?).bind ι = _; rw [e]; rfl
  let C' := getB (putB sh.bl x2)
  have hHR : HRel X keep w0 ι C1 w := hF.1
  have same : ∀ i ∈ ρ, C1 i = C i := fun i hi => updC_other _ _ _ (meetN_false hmt i hi)
  have hat : ∀ j i, ρ[j]? = some i → bk ι' C' j = bk ι C1 i := by
    intro j i hi
    have := (b3 C1 (fun _ => True) ι' same hHR.bl (fun _ _ => trivial) (fun _ _ => trivial) hι' j i hi).2 C' (by rw [Nat.zero_add])
    rw [Nat.zero_add] at this
    exact this
  refine ⟨hHR, hF.2.2, same, b2, fun j b hb => ?_, fun i b j hi hb => (hat j i hi).trans hb, fun ok' hok => ⟨fun j => ?_, ?_⟩⟩
  · cases hi : ρ[j]? with
    | none =>
      have h1 : C' j = .dead := getB_out _ _ (by rw [putB_length, b2]; exact List.getElem?_eq_none_iff.1 hi)
      rw [bk_dead h1] at hb
      cases hb
    | some i =>
      refine ⟨i, rfl, ?_⟩
      rw [← hb]
      exact (hat j i hi).symm
  · cases hi : ρ[j]? with
    | none =>
      have h1 : C' j = .dead := getB_out _ _ (by rw [putB_length, b2]; exact List.getElem?_eq_none_iff.1 hi)
      show RelB w ok' ι' j (C' j)
      rw [h1]
      trivial
    | some i =>
      have := (b3 C1 ok' ι' same hHR.bl (fun g hg => hok g (by show okb X w ι C1 g; rw [hC1]; exact hg)) hok hι' j i hi).1
      rw [Nat.zero_add] at this
      exact this
  · exact a2 ok' ι' (fun g hg => hok g (by show okb X w ι C1 g; rw [hC1]; exact b1.2.2.ok g hg)) hι'
end
end Go.Proofs.Rf
/- Rf, part B: contracts of functions that are handed pointers or rows of the caller's own: from their bodies' evaluation. -/
namespace Go.Proofs.Rf
open Go Go.RowKit

/-- What such a contract wants of a function's text. -/
structure FnOKB (P : Program) (f : Nat) (fn : Func) (c : Code) (psh rsh : Shape) (m : List Nat) (np : Nat) : Prop where
  at_ : P.funcs[f]? = some fn
  body : fn.body = some c
  name : (fn.name == "runtime.NumGoroutine") = false
  len : Nat.ble psh.sl.length fn.ntmps = true
  slots : slotsFrom 0 psh.sl = true
  slotr : slotsFrom 0 rsh.sl = true
  res : Nat.beq rsh.sl.length (np + fn.results.toList.length) = true
  pin : Nat.ble np psh.sl.length = true
  roots : rootsOk psh rsh np 0 m = true
  nd : nodupN m = true
  ml : Nat.ble m.length rsh.bl.length = true

theorem rangeN_length (k : Nat) : ∀ n, (rangeN k n).length = n
  | 0 => rfl
  | n + 1 => by simp [rangeN, rangeN_length (k + 1) n]

theorem rangeN_get : ∀ (k n i : Nat), i < n → (rangeN k n)[i]? = some (k + i)
  | k, 0, i, h => by omega
  | k, n + 1, 0, _ => by simp [rangeN]
  | k, n + 1, i + 1, h => by
    simp only [rangeN, List.getElem?_cons_succ]
    rw [rangeN_get (k + 1) n i (by omega), show k + 1 + i = k + (i + 1) by omega]

theorem RelL_slots {w : World} {ok : Nat → Prop} {ι : Nat → Option Value} {T : Nat → AV} {V : Nat → Value} (hT : ∀ t, RelV w ok ι (T t) (V t)) : ∀ l : List Nat, RelL w ok ι (l.map T) (l.map V)
  | [] => RelL_nil.2 rfl
  | x :: r => RelL_cons.2 ⟨_, _, rfl, hT x, RelL_slots hT r⟩

section
variable {X keep : Nat → Prop} {w0 w : World} {ι : Nat → Option Value} {C : Nat → Blk} {P : Program} {TT : Tab} {Δ : Nat → Option CallO}

theorem mkCallB_ok (hm : P.follows .mixedOrders = true) (hP : TabOK P TT) (hΔ : CallsOK P Δ) {Λ : Nat → Option LoopO} {f : Nat} {fn : Func} {c : Code} {psh rsh : Shape} {m : List Nat} {np : Nat} (hF : FnOKB P f fn c psh rsh m np)
    (hL : ∀ n : Slots, n.ok = roundOk (upTo fn.ntmps) (rangeN 0 np) → n.marks = true → LoopsIn P n none Λ c) {F : psh.den → Option rsh.den} (hrun : ∀ x z, F x = some z → runFB TT Δ (roundOk (upTo fn.ntmps) (rangeN 0 np)) Λ c fn.results.toList psh rsh np x = some z ∧ keepsLen psh.bl rsh.bl x.2 z.2 np psh.sl rsh.sl = true) : CallOK P f (mkCallB psh rsh m np F) := by
  refine ⟨⟨fn, hF.at_, hF.name, by rw [hF.body]; rfl⟩, ?_, ?_⟩
  · intro X keep w0 w ι C nb args vs e h hv hco hn
    unfold mkCallB at hco
    generalize hρ : blkB C psh.bl 0 (blkS (getT (numT 0 args)) psh.sl []) = ρ at hco
    split at hco
    · rename_i hc1
      simp only [Bool.and_eq_true] at hc1
      have hnd := nodupN_iff hc1.1
      have hal := Nat.eq_of_beq_eq_true hc1.2
      split at hco
      · rename_i x fz1 e1
        split at hco
        · rename_i y fz2 e2
          split at hco
          · cases hco
          · rename_i hmt
            have hmt : meetN ρ (updIds (fz1 ++ fz2)) = false := by simpa using hmt
            obtain ⟨z, hz, hco⟩ := bind_some' hco
            injection hco with hco
            subst hco
            let V : Nat → Value := fun t => vs.getD t undef
            have hTV : ∀ t, RelV w (okb X w ι C) ι (getT (numT 0 args) t) (V t) := fun t => by
              have := (getT_numT args vs 0 t hv).1
              rwa [Nat.zero_add] at this
            obtain ⟨H1, E1, same, hbl, hbk, hbk', hrel⟩ := takeC_sound h hTV e1 e2 hmt
            have hvl : vs.length = psh.sl.length := (RelL_length hv).trans hal
            have hnt : psh.sl.length ≤ fn.ntmps := Nat.le_of_ble_eq_true hF.len
            have hnp : np ≤ psh.sl.length := Nat.le_of_ble_eq_true hF.pin
            -- the callee's state
            let C1 := updC C (fz1 ++ fz2)
            let ι' : Nat → Option Value := fun j => (ρ[j]?).bind ι
            let C' := getB (putB psh.bl y)
            let X' : Nat → Prop := fun b => b < w.heap.size ∧ ¬ okb X w ι C1 b ∧ ¬ owned ι' C' b
            let keep' : Nat → Prop := fun b => b < w.heap.size ∧ ¬ owned ι' C' b
            have hown : ∀ b, owned ι' C' b → owned ι C1 b := by
              rintro b ⟨j, hj⟩
              obtain ⟨i, _, hi⟩ := hbk j b hj
              exact ⟨i, hi⟩
            have hokc : ∀ b, okb X w ι C1 b → okb X' w ι' C' b := fun b hb => ⟨hb.1, fun ho => hb.2.1 (hown b ho), fun hx => hx.2.1 hb⟩
            obtain ⟨hB, hT⟩ := hrel (okb X' w ι' C') hokc
            have Hc : HRel X' keep' w ι' C' w := ⟨hB, fun j j' b h1 h2 => by
                obtain ⟨i, hi, hb⟩ := hbk j b h1
                obtain ⟨i', hi', hb'⟩ := hbk j' b h2
                have e := H1.inj i i' b hb hb'
                subst e
                have hlt := (List.getElem?_eq_some_iff.1 hi).1
                exact (List.getElem?_inj hlt hnd).1 (hi.trans hi'.symm), Kept.refl _ _, fun b hb hk => hk.2 hb, fun b hb => hb.1, fun b hb hx => hx.2.2 hb, fun b hb => hb.1, H1.gl.mono fun g hg => ⟨hokc g hg, rfl⟩⟩
            let a0 : Act := { tmps := vs.toArray ++ Array.replicate (fn.ntmps - vs.toArray.size) undef, defers := [] }
            have ha0 : ∀ t, a0.tmps.getD t undef = V t := by
              intro t
              show (vs.toArray ++ Array.replicate (fn.ntmps - vs.toArray.size) undef).getD t undef = vs.getD t undef
              rw [Array.getD_eq_getD_getElem?, List.getD_eq_getElem?_getD]
              rcases Nat.lt_or_ge t vs.length with ht | ht
              · rw [Array.getElem?_append_left (by simpa using ht)]
                simp
              · rw [Array.getElem?_append_right (by simpa using ht), List.getElem?_eq_none ht, Array.getElem?_replicate]
                split <;> rfl
            let n : Slots := roundSlots (frameSlots w.heap.size fn.ntmps) (rangeN 0 np) a0
            have hsz0 : a0.tmps.size = fn.ntmps := by
              simp only [a0, Array.size_append, Array.size_replicate, List.size_toArray]
              omega
            have hjl : (psh.put (x, y)).bl.length = ρ.length := by rw [← hbl]; exact putB_length _ _
            have S0 : SRel X' keep' w n ι' (psh.put (x, y)) a0 w := by
              refine ⟨⟨Hc, fun t => ?_, ⟨hsz0, fun _ _ => rfl⟩, Nat.le_refl _, fun _ => rfl, trivial⟩, fun j hj => ?_⟩
              · rw [ha0 t]; exact hT t
              · show (ρ[j]?).bind ι = none
                rw [List.getElem?_eq_none (by omega)]
                rfl
            have hev := (hrun (x, y) z hz).1
            unfold runFB at hev
            refine callsIn_wide.1 (callsIn_of_wp_marks (F := WF none) (n := 0) hF.at_ hF.body trivial (evC_sound (n := n) hm hP hΔ c (hL n rfl rfl) _ _ _ a0 w ι' keep' w S0 hev fun e s' a' w1 ι1 k1 v1 hlat hk h1 => ?_) rfl)
            have hsr : SRel X' keep' w n ι1 s' { tmps := a'.tmps, defers := [] } w1 :=
              ⟨⟨h1.f.h.weaken hlat.mono hlat.kept (fun b hb => hb.1) (fun b hb => hb.1), h1.f.tm, h1.f.size, Nat.le_refl _, fun _ => rfl, trivial⟩, h1.dom⟩
            -- at the end
            have fin : ∀ (w' : World) (ι3 : Nat → Option Value), SRel X' keep' w n ι3 s' { tmps := a'.tmps, defers := [] } w' → (match retsOf TT s' fn.results.toList with
                | some vs => rsh.take ⟨numT 0 ((rangeN 0 np).map (getT s'.tm) ++ vs), s'.bl⟩
                | none => none) = some z → ∃ v, (results fn a'.tmps).run P w' = .ok v w' ∧ ∃ v', Ending.returned v = .returned v' ∧ Out X keep w0 ι C w nb ⟨retV ((reS (rnB ρ m nb) rsh.sl z.1).drop np),
                  (if rsh.flat = true then [] else fz1 ++ fz2) ++ updRe m (reB (rnB ρ m nb) rsh.bl z.2) 0 ρ, (reB (rnB ρ m nb) rsh.bl z.2).drop m.length⟩ v' w' := by
              intro w' ι3 h' hk
              split at hk
              · rename_i rs hrs
                obtain ⟨us0, v, r1, r2, r3⟩ := results_sound hP h' hrs
                refine ⟨v, r1, v, rfl, ?_⟩
                let us : List Value := (rangeN 0 np).map (fun t => a'.tmps.getD t undef) ++ us0
                have hus : RelL w' (okb X' w' ι3 (getB s'.bl)) ι3 ((rangeN 0 np).map (getT s'.tm) ++ rs) us := RelL_append (RelL_slots h'.f.tm _) r2
                let a2 : Act := { tmps := us.toArray, defers := [] }
                have ha2 : ∀ t, a2.tmps.getD t undef = us.getD t undef := fun t => by
                  show us.toArray.getD t undef = _
                  rw [Array.getD_eq_getD_getElem?, List.getD_eq_getElem?_getD]
                  simp
                have S1 : SRel X' keep' w (frameSlots w.heap.size us.length) ι3 ⟨numT 0 ((rangeN 0 np).map (getT s'.tm) ++ rs), s'.bl⟩ a2 w' := by
                  refine ⟨⟨h'.f.h, fun t => ?_, (by show a2.tmps.size = us.length; simp [a2]), Nat.le_refl _, fun _ => rfl, trivial⟩, h'.dom⟩
                  have := (getT_numT _ us 0 t hus).1
                  rw [Nat.zero_add] at this
                  rw [ha2]
                  exact this
                obtain ⟨ι2, S2⟩ := Shape.take_sound S1 hk
                have hrl : us0.length = fn.results.toList.length := by
                  have h2 := RelL_length r2
                  have h3 : ∀ {l : List ResultVar} {vs : List AV}, retsOf TT s' l = some vs → vs.length = l.length := by
                    intro l
                    induction l with
                    | nil => intro vs hvs; simp only [retsOf] at hvs; injection hvs with hvs; subst hvs; rfl
                    | cons q l ih =>
                      intro vs hvs
                      simp only [retsOf] at hvs
                      split at hvs
                      · split at hvs
                        · rename_i vr hvr
                          injection hvs with hvs
                          subst hvs
                          simp [ih hvr]
                        · cases hvs
                      · cases hvs
                  have h4 := h3 hrs
                  omega
                have hul : us.length = rsh.sl.length := by
                  have h1 := Nat.eq_of_beq_eq_true hF.res
                  simp only [us, List.length_append, List.length_map, rangeN_length]
                  omega
                -- the pinned parameters
                have hpin : ∀ t, t < np → us.getD t undef = V t := by
                  intro t ht
                  have h1 := h'.f.size.2 t (List.mem_of_getElem? (show (rangeN 0 np)[t]? = some t by rw [rangeN_get 0 np t ht, Nat.zero_add]))
                  rw [ha0] at h1
                  rw [← h1, List.getD_eq_getElem?_getD, List.getElem?_append_left (by simpa [rangeN_length] using ht), List.getElem?_map, rangeN_get 0 np t ht, Nat.zero_add]
                  rfl
                have hroot : ∀ j k, m[j]? = some k → ∃ i u, ρ[k]? = some i ∧ ι2 j = some u ∧ ι i = some u := by
                  intro j k hjk
                  have hra := rootsOk_iff hF.roots j k hjk
                  rw [Nat.zero_add] at hra
                  obtain ⟨t, _, ht, sv, sv', q1, q2, q3⟩ := rootAt_iff hra hF.slots hF.slotr
                  rw [Nat.zero_add] at ht
                  obtain ⟨y1, g1⟩ := putS_at psh.sl x 0 t sv hF.slots (Nat.zero_le _) q1
                  obtain ⟨y2, g2⟩ := putS_at rsh.sl z.1 0 t sv' hF.slotr (Nat.zero_le _) q2
                  have l1 := hT t
                  have l2 := S2.f.tm t
                  rw [ha2, hpin t ht] at l2
                  have g2 : getT (rsh.put z).tm t = sv'.put y2 := g2
                  rw [g1] at l1
                  rw [g2] at l2
                  have hone : ∃ u, ι2 j = some u ∧ ι' k = some u := by
                    cases sv' <;> cases sv <;> simp only [rootOf, Option.some.injEq, Prod.mk.injEq] at q3 <;> (try (cases q3; done))
                    · obtain ⟨q3, q4⟩ := q3
                      subst q3; subst q4
                      simp only [SV.put, RelV] at l1 l2
                      exact ⟨_, l2.1, l1.1⟩
                    · obtain ⟨q3, q4⟩ := q3
                      subst q3; subst q4
                      obtain ⟨nn, w1, w2⟩ := keepsLen_at (hrun _ _ hz).2 t _ _ _ _ _ _ ht (by rw [Nat.sub_zero] at q1; exact q1) (by rw [Nat.sub_zero] at q2; exact q2)
                      simp only [SV.put, RelV] at l1 l2
                      obtain ⟨A, n1, c, A', c', k1, _, k3, _, _, k6⟩ := l1
                      obtain ⟨A2, n2, c2, A2', c2', j1, _, j3, _, _, j6⟩ := l2
                      obtain ⟨rfl, rfl⟩ := k6 trivial
                      obtain ⟨rfl, rfl⟩ := j6 trivial
                      rw [k3] at j3
                      injection j3 with j3 _ j5
                      subst j3; subst j5
                      have e1 := lenRow_slice Hc w1 k1
                      have e2 := lenRow_slice S2.f.h w2 j1
                      subst e1; subst e2
                      exact ⟨_, j1, k1⟩
                    · obtain ⟨q3, q4⟩ := q3
                      subst q3; subst q4
                      simp only [SV.put, RelV] at l1 l2
                      obtain ⟨g, k1, k2⟩ := l1
                      obtain ⟨g', k3, k4⟩ := l2
                      rw [k2] at k4
                      injection k4 with k4
                      injection k4 with k4
                      injection k4 with k4
                      rw [k4] at k1
                      exact ⟨_, k3, k1⟩
                  obtain ⟨u, u1, u2⟩ := hone
                  have u2 : (ρ[k]?).bind ι = some u := u2
                  obtain ⟨i, i1, i2⟩ := bind_some' u2
                  exact ⟨i, u, i1, u1, i2⟩
                -- the caller's state behind the call
                let fl := rsh.flat
                let fz := fz1 ++ fz2
                let Cz := updC C (if fl = true then [] else fz)
                have hz' : HRel X keep w0 ι Cz w ∧ Ext X ι C w ι Cz w ∧ ∀ i ∈ ρ, Cz i = C i := by
                  show HRel X keep w0 ι (updC C (if fl = true then [] else fz)) w ∧ Ext X ι C w ι (updC C (if fl = true then [] else fz)) w ∧ ∀ i ∈ ρ, (updC C (if fl = true then [] else fz)) i = C i
                  cases fl
                  · exact ⟨H1, E1, same⟩
                  · exact ⟨h, Ext.refl _ _ _ _, fun _ _ => rfl⟩
                obtain ⟨Hz, Ez, samez⟩ := hz'
                let bs := reB (rnB ρ m nb) rsh.bl z.2
                let new := bs.drop m.length
                have hml : m.length ≤ rsh.bl.length := Nat.le_of_ble_eq_true hF.ml
                have hbsl : bs.length = rsh.bl.length := reB_length _ _ _
                have hnl : new.length = rsh.bl.length - m.length := by show (bs.drop m.length).length = _; rw [List.length_drop, hbsl]
                let ι'' : Nat → Option Value := fun k => if nb ≤ k ∧ k < nb + new.length then ι2 (m.length + (k - nb)) else ι k
                have hin : ∀ j, j < new.length → ι'' (nb + j) = ι2 (m.length + j) := by
                  intro j hj
                  show (if nb ≤ nb + j ∧ nb + j < nb + new.length then ι2 (m.length + (nb + j - nb)) else ι (nb + j)) = _
                  rw [if_pos (by omega), Nat.add_sub_cancel_left]
                have hou : ∀ k, ¬ (nb ≤ k ∧ k < nb + new.length) → ι'' k = ι k := fun k hk => if_neg hk
                let upd := (if fl = true then [] else fz) ++ updRe m bs 0 ρ
                let C'' := addC (updC C upd) nb new
                have hCu : updC C upd = updC Cz (updRe m bs 0 ρ) := updC_append _ _ _
                have hsm : ∀ i u, ι i = some u → ¬ (nb ≤ i ∧ i < nb + new.length) := fun i u hi hq => by rw [hn i hq.1 hq.2] at hi; cases hi
                -- where block j lies
                have hrn : ∀ j v, ι2 j = some v → ι'' (rnB ρ m nb j) = some v := by
                  intro j v hv
                  have hjl : j < rsh.bl.length := by
                    rcases Nat.lt_or_ge j rsh.bl.length with q | q
                    · exact q
                    · rw [S2.dom j (by rw [show (rsh.put z).bl.length = rsh.bl.length from putB_length _ _]; exact q)] at hv; cases hv
                  unfold rnB
                  cases hmj : m[j]? with
                  | some k =>
                    obtain ⟨i, u, i1, i2, i3⟩ := hroot j k hmj
                    rw [hv] at i2
                    injection i2 with i2
                    subst i2
                    simp only
                    rw [List.getD_eq_getElem?_getD, i1]
                    show ι'' i = some v
                    rw [hou i (hsm i _ i3), i3]
                  | none =>
                    have hge : m.length ≤ j := List.getElem?_eq_none_iff.1 hmj
                    simp only
                    rw [hin (j - m.length) (by omega), show m.length + (j - m.length) = j by omega, hv]
                let S : Nat → Prop := fun i => i ∈ ρ ∨ (nb ≤ i ∧ i < nb + new.length)
                -- the block at i
                have hCat : ∀ i, S i → C'' i = .dead ∨ ∃ j, rnB ρ m nb j = i ∧ C'' i = getB bs j := by
                  intro i hi
                  by_cases hq : nb ≤ i ∧ i < nb + new.length
                  · right
                    obtain ⟨j, rfl⟩ : ∃ j, i = nb + j := ⟨i - nb, by omega⟩
                    refine ⟨m.length + j, ?_, ?_⟩
                    · unfold rnB
                      rw [List.getElem?_eq_none (by omega)]
                      simp only
                      omega
                    · show addC (updC C upd) nb new (nb + j) = _
                      rw [addC_at new _ nb j (by omega)]
                      exact getB_drop bs m.length j
                  · have hi : i ∈ ρ := hi.resolve_right hq
                    obtain ⟨k, hk⟩ := List.mem_iff_getElem?.1 hi
                    have hCi : C'' i = match posM (0 + k) 0 m with
                        | some j => getB bs j
                        | none => .dead := by
                      show addC (updC C upd) nb new i = _
                      rw [addC_other _ _ _ _ hq, hCu]
                      exact updRe_at m bs ρ 0 k i Cz hnd hk
                    rw [Nat.zero_add] at hCi
                    cases hp : posM k 0 m with
                    | none => rw [hp] at hCi; exact .inl hCi
                    | some j =>
                      rw [hp] at hCi
                      right
                      refine ⟨j, ?_, hCi⟩
                      have := (posM_iff hp).2
                      rw [Nat.sub_zero] at this
                      unfold rnB
                      rw [this]
                      simp only
                      rw [List.getD_eq_getElem?_getD, hk]
                      rfl
                have hbk2 : ∀ i b, S i → bk ι'' C'' i = some b → ∃ j, rnB ρ m nb j = i ∧ bk ι2 (getB (putB rsh.bl z.2)) j = some b := by
                  intro i b hi hb
                  rcases hCat i hi with q | ⟨j, q1, q2⟩
                  · rw [bk_dead q] at hb; cases hb
                  · refine ⟨j, q1, ?_⟩
                    rcases reB_get (rnB ρ m nb) rsh.bl z.2 j with g | ⟨sb, g1, y', g2, g3⟩
                    · rw [bk_dead (q2.trans g.1)] at hb; cases hb
                    · have hB := S2.f.h.bl j
                      rw [show getB (rsh.put z).bl j = _ from g3] at hB
                      subst q1
                      exact SB.re_bk hrn sb y' hB (q2.trans g2) g3 hb
                have hCo : ∀ i, ¬ S i → C'' i = Cz i := by
                  intro i hi
                  show addC (updC C upd) nb new i = _
                  rw [addC_other _ _ _ _ (fun q => hi (.inr q)), hCu]
                  exact updC_other _ _ _ (by rw [updRe_ids]; exact fun q => hi (.inl q))
                have hιo : ∀ k, ¬ S k → ι'' k = ι k := fun k hk => hou k fun q => hk (.inr q)
                have hownz : ∀ b, owned ι' C' b → ∃ i ∈ ρ, bk ι Cz i = some b := by
                  rintro b ⟨j, hj⟩
                  obtain ⟨i, hi, hb⟩ := hbk j b hj
                  have hm : i ∈ ρ := List.mem_of_getElem? hi
                  exact ⟨i, hm, by rw [← hb]; exact bk_congr ((samez i hm).trans (same i hm).symm) rfl⟩
                have okT : fl = false → ∀ b, okb X' w' ι2 (getB (rsh.put z).bl) b → okb X w' ι'' C'' b := by
                  intro hfl b hb
                  have hCz : Cz = C1 := by show updC C (if fl = true then [] else fz) = _; rw [hfl]; rfl
                  have hcase : b < w.heap.size → okb X w ι C1 b ∨ owned ι' C' b := fun hl => Classical.byContradiction fun q => hb.2.2 ⟨hl, fun q1 => q (.inl q1), fun q1 => q (.inr q1)⟩
                  refine ⟨hb.1, ?_, fun hx => ?_⟩
                  · rintro ⟨i, hi⟩
                    by_cases hs : S i
                    · obtain ⟨j, _, hj⟩ := hbk2 i b hs hi
                      exact hb.2.1 ⟨j, hj⟩
                    · rw [bk_congr (hCo i hs) (hιo i hs)] at hi
                      rcases hcase (Hz.lt ⟨i, hi⟩) with q | q
                      · rw [hCz] at hi
                        exact q.2.1 ⟨i, hi⟩
                      · obtain ⟨i', hm, hi'⟩ := hownz b q
                        exact hs (.inl (Hz.inj i i' b hi hi' ▸ hm))
                  · rcases hcase (Nat.lt_of_lt_of_le (h.xl b hx) h.fr.size) with q | q
                    · exact q.2.2 hx
                    · obtain ⟨i', hm, hi'⟩ := hownz b q
                      exact Hz.ox b ⟨i', hi'⟩ hx
                have hfl2 : fl = true → flatS rsh.sl = true ∧ flatB rsh.bl = true := by
                  intro q
                  have q : (flatS rsh.sl && flatB rsh.bl) = true := q
                  simpa only [Bool.and_eq_true] using q
                obtain ⟨HF, EF⟩ := Hz.step (C' := C'') (ι' := ι'') (w' := w') S S2.f.h.fr.os S2.f.h.fr.tape S2.f.h.fr.output S2.f.h.fr.size hCo
                  (fun k v hk => by rw [hou k (hsm k v hk)]; exact hk) hιo
                  (by
                    intro k b hs hb
                    obtain ⟨j, _, hj⟩ := hbk2 k b hs hb
                    have hnk := S2.f.h.own b ⟨j, hj⟩
                    by_cases hl : b < w.heap.size
                    · right
                      have ho : owned ι' C' b := Classical.byContradiction fun q => hnk ⟨hl, q⟩
                      obtain ⟨i, hm, hi⟩ := hownz b ho
                      exact ⟨i, .inl hm, hi⟩
                    · exact .inl (Nat.le_of_not_lt hl))
                  (by
                    intro k k' b hs hs' hb hb'
                    obtain ⟨j, q, hj⟩ := hbk2 k b hs hb
                    obtain ⟨j', q', hj'⟩ := hbk2 k' b hs' hb'
                    rw [← q, ← q', S2.f.h.inj j j' b hj hj'])
                  (by
                    intro b hb hno
                    refine S2.f.h.fr.block b ⟨hb, fun ho => ?_⟩ hb
                    obtain ⟨i, hm, hi⟩ := hownz b ho
                    exact hno i (.inl hm) hi)
                  (by
                    intro _ k hs
                    rcases hCat k hs with q | ⟨j, q1, q2⟩
                    · rw [q]; trivial
                    · rcases reB_get (rnB ρ m nb) rsh.bl z.2 j with g | ⟨sb, g1, y', g2, g3⟩
                      · rw [q2.trans g.1]; trivial
                      · have hB := S2.f.h.bl j
                        rw [show getB (rsh.put z).bl j = _ from g3] at hB
                        rw [q2.trans g2, ← q1]
                        exact SB.re_rel (fl := fl) okT hrn sb y' (fun q => flatB_get (hfl2 q).2 g1) hB)
                have hret : RelL w' (okb X w' ι'' C'') ι'' (reS (rnB ρ m nb) rsh.sl z.1) us := by
                  refine reS_rel (ι2 := ι2) (fl := fl) okT hrn rsh.sl z.1 0 us hF.slotr (fun q => (hfl2 q).1) hul fun t _ => ?_
                  rw [Nat.zero_add]
                  have := S2.f.tm t
                  rw [ha2] at this
                  exact this
                have hret2 := RelL_drop hret np
                have hdr : us.drop np = us0 := by
                  show ((rangeN 0 np).map (fun t => a'.tmps.getD t undef) ++ us0).drop np = us0
                  rw [List.drop_left' (by simp [rangeN_length])]
                rw [hdr] at hret2
                refine ⟨ι'', HF, Ez.trans EF, ?_, hou⟩
                rw [r3]
                exact retV_rel hret2
              · cases hk
            have leave : (match retsOf TT s' fn.results.toList with
                | some vs => rsh.take ⟨numT 0 ((rangeN 0 np).map (getT s'.tm) ++ vs), s'.bl⟩
                | none => none) = some z → LeavesInM (WF none) 0 P fn a'.tmps (fun en w' => ∃ v, en = .returned v ∧ Out X keep w0 ι C w nb ⟨retV ((reS (rnB ρ m nb) rsh.sl z.1).drop np),
                  (if rsh.flat = true then [] else fz1 ++ fz2) ++ updRe m (reB (rnB ρ m nb) rsh.bl z.2) 0 ρ, (reB (rnB ρ m nb) rsh.bl z.2).drop m.length⟩ v w') a'.defers .returning w1 := by
              intro hk
              refine leaves_marks (base := w.heap.size) (G := fun w' => SRel X' keep' w n ι1 s' { tmps := a'.tmps, defers := [] } w') (fun w' h' => fin w' ι1 h' hk) (fun w' D h' hD hd => ?_) a'.defers w1 hsr (marksIn_of h1.f.h.fr h1.f.defers.2.2)
              obtain ⟨q1, q2⟩ := h'.f.h.quiet (w' := w'.putObj D (.deferred none)) D rfl rfl rfl (by simp) (fun b hb _ => World.putObj_heap_other hb) (fun o v hc => by simp [World.cell?, hd] at hc)
                (fun b hb e => h'.f.h.owned_obj hb (by rw [e]; exact hd)) (fun hk' => absurd hk'.1 (Nat.not_lt.2 hD))
              exact ⟨⟨q1, fun t => q2 _ _ (h'.f.tm t), h'.f.size, Nat.le_refl _, fun _ => rfl, trivial⟩, h'.dom⟩
            cases e with
            | nm => exact leave hk
            | ex j => cases hk
            | rt => exact leave hk
        · cases hco
      · cases hco
    · cases hco
  · intro args C nb R K
    unfold mkCallB
    split
    · split
      · split
        · split
          · rfl
          · generalize F _ = q
            cases q <;> rfl
        · rfl
      · rfl
    · rfl
end

/-- A function that is handed blocks, over data. -/
noncomputable def runFnB (TT : Tab) (Δ : List (Nat × CallO)) (Λ : List (Nat × LoopO)) (f : Func) (psh rsh : Shape) (np : Nat) (x : psh.den) : Option rsh.den :=
  runFB TT (lookL Δ) (roundOk (upTo f.ntmps) (rangeN 0 np)) (lookL Λ) (bodyOf f) f.results.toList psh rsh np x |>.bind fun z => if keepsLen psh.bl rsh.bl x.2 z.2 np psh.sl rsh.sl = true then some z else none

theorem runFnB_ok {P : Program} {TT : Tab} (hm : P.follows .mixedOrders = true) (hP : TabOK P TT) {Δ : List (Nat × CallO)} (hΔ : AllCalls P Δ) {Λ : List (Nat × LoopO)} {f : Nat} {fn : Func} {psh rsh : Shape} {m : List Nat} {np : Nat} {c : Code} (hF : FnOKB P f fn c psh rsh m np) (hc : bodyOf fn = c)
    (hL : LoopsAt P (roundOk (upTo fn.ntmps) (rangeN 0 np)) false Λ c) : CallOK P f (mkCallB psh rsh m np (runFnB TT Δ Λ fn psh rsh np)) := by
  subst hc
  exact mkCallB_ok hm hP (callsOK_of hΔ) hF (fun n hn hk => hL n hn none (.inr ⟨rfl, hk⟩)) fun x y h => by
    obtain ⟨z, h1, h2⟩ := bind_some' h
    split at h2
    · rename_i hk
      injection h2 with h2
      subst h2
      exact ⟨h1, hk⟩
    · cases h2
end Go.Proofs.Rf
/- Rf, part C: putting together: loops by whatever stands for them. -/
namespace Go.Proofs.Rf
open Go Go.RowKit

/-- What stands for a loop comes to what some number of rounds comes to. -/
def Lim {A B : Type} (f : A → Option (A ⊕ B)) (g : A → Option B) : Prop := ∀ x y, g x = some y → ∃ k, iterL f k x = some y

theorem lim_limL {A B : Type} (f : A → Option (A ⊕ B)) : Lim f (limL f) := fun _ _ h => limL_inv h
theorem lim_iterL {A B : Type} (f : A → Option (A ⊕ B)) (k : Nat) : Lim f (iterL f k) := fun _ _ h => ⟨k, h⟩

theorem stepLim_ok {P : Program} {TT : Tab} (hm : P.follows .mixedOrders = true) (hP : TabOK P TT) {Δ : List (Nat × CallO)} (hΔ : AllCalls P Δ) {Λ : List (Nat × LoopO)} {fn : Func} {r : Nat} {head : Shape} {ways : List Way} {ok : Nat → Bool} {inn : Bool}
    {g : head.den → Option (denX ways)} (hg : Lim (stepFn TT Δ Λ ok fn r head ways) g) (hL : LoopsAt P ok inn Λ (loopOf fn r)) : LoopAt P ok inn (lp head ways g) (.loop (loopOf fn r)) := by
  intro n hn ρ hi
  subst hn
  exact lp_ok hm hP (callsOK_of hΔ) (hL n rfl ρ hi) fun x y h => hg x y h

/-- The loop over a function whose first region is r. -/
def findG (r : Nat) : Code → Option Code
  | .seq a b => match findG r a with
    | some c => some c
    | none => findG r b
  | .cond _ a b => match findG r a with
    | some c => some c
    | none => findG r b
  | .block _ c => findG r c
  | .scope c => findG r c
  | .loop c => findG r c
  | .rangeFunc g ps a b => if Nat.beq (firstReg a) r = true then some (.rangeFunc g ps a b) else findG r b
  | _ => none

def rgG (f : Func) (r : Nat) : Operand := match findG r (bodyOf f) with
  | some (.rangeFunc g _ _ _) => g
  | _ => .tmp 0
def rgP (f : Func) (r : Nat) : Array Nat := match findG r (bodyOf f) with
  | some (.rangeFunc _ ps _ _) => ps
  | _ => #[]
def rgA (f : Func) (r : Nat) : Code := match findG r (bodyOf f) with
  | some (.rangeFunc _ _ a _) => a
  | _ => .skip
def rgB (f : Func) (r : Nat) : Code := match findG r (bodyOf f) with
  | some (.rangeFunc _ _ _ b) => b
  | _ => .skip

/-- A round of a loop over a function. -/
noncomputable def roundFn (TT : Tab) (Δ : List (Nat × CallO)) (Λ : List (Nat × LoopO)) (ok : Nat → Bool) (f : Func) (r : Nat) {El : Type} (avs : El → List AV) (asl : List (Nat × Nat)) (head : Shape) (ways : List Way) (e : El) (x : head.den) : Option (head.den ⊕ denX ways) :=
  stepR TT (lookL Δ) (roundOk ok (slotsOf head.sl ++ slotsX ways)) (lookL Λ) avs (rgP f r).toList asl head ways (rgB f r) e x

theorem roundFn_ok {P : Program} {TT : Tab} (hm : P.follows .mixedOrders = true) (hP : TabOK P TT) {Δ : List (Nat × CallO)} (hΔ : AllCalls P Δ) {Λ : List (Nat × LoopO)} {fn : Func} {r : Nat} {El : Type} {avs : El → List AV} {encs : El → List Value} {gf : Nat} {cap : (Nat → Blk) → List AV → Option (List El)}
    {asl : List (Nat × Nat)} {head : Shape} {ways : List Way} {ok : Nat → Bool} (hI : IterOK P gf encs cap) (hT : RangeText ok avs encs (rgP fn r) (rgA fn r) asl head ways) (hL : LoopsAt P (roundOk ok (slotsOf head.sl ++ slotsX ways)) true Λ (rgB fn r)) :
    LoopAt P ok false (rangeO (rgG fn r) gf cap head ways (foldR (roundFn TT Δ Λ ok fn r avs asl head ways))) (.rangeFunc (rgG fn r) (rgP fn r) (rgA fn r) (rgB fn r)) :=
  rangeO_ok hm hP (callsOK_of hΔ) hI hT hL fun _ _ _ h => h
end Go.Proofs.Rf
/- Rf, part E: functions that hand over elements (iterators), from the evaluation of one round of their loop. -/
namespace Go.Proofs.Rf
open Go Go.RowKit

theorem Oper.uponIn_then {F : Fence} {n : Nat} {P : Program} {o : Oper} {a : Act} {K K' L : Act → World → Prop} {Q : Exit → Act → World → Prop} (h : ∀ a w, K a w → K' a w) : ∀ r : Result Next, o.uponIn F n P a K (Exit.then L Q) r → o.uponIn F n P a K' Q r
  | .ok (.value v) w', hh => h _ _ hh
  | .ok .skip w', hh => h _ _ hh
  | .ok (.defer d) w', hh => h _ _ hh
  | .ok (.enter f args) w', hh => ⟨hh.1, hh.2.mono fun e w'' he => by cases e <;> first | exact h _ _ he | exact he⟩
  | .ok (.row row args) w', hh => ⟨hh.1, hh.2.mono fun v w'' he => h _ _ he⟩
  | .ok (.round l f tmps assign body) w', hh => ⟨hh.1, hh.2.mono fun e w'' he => by cases e <;> first | exact h _ _ he | exact he⟩
  | .halt (.panic v) w', hh => hh

theorem wpOpsIn_append {F : Fence} {n : Nat} {P : Program} {ops : Array Oper} {Q : Exit → Act → World → Prop} : ∀ (l1 l2 : List Nat) (a : Act) (w : World), wpOpsIn F n P ops (Exit.then (wpOpsIn F n P ops Q l2) Q) l1 a w → wpOpsIn F n P ops Q (l1 ++ l2) a w
  | [], l2, a, w, h => h
  | i :: r, l2, a, w, h => by
    rw [List.cons_append, wpOpsIn_cons]
    rw [wpOpsIn_cons] at h
    unfold wpOpIn at h ⊢
    split
    · rename_i ho
      rw [ho] at h
      exact wpOpsIn_append r l2 a w h
    · rename_i o ho
      rw [ho] at h
      simp only at h
      split
      · rename_i hw
        rw [if_pos hw] at h
        exact ⟨h.1, Oper.uponIn_then (fun a w q => wpOpsIn_append r l2 a w q) _ h.2⟩
      · rename_i hw
        rw [if_neg hw] at h
        exact ⟨h.1, wpOpsIn_append r l2 _ w h.2⟩

inductive RY (A El : Type) where
  | go (y : A)
  | done
  | yl (e : El) (y : A)

def isMove0 (o : Oper) : Option Nat := match o.dst, o.op, o.guard with
  | some t, .move (.tmp 0), none => some t
  | _, _, _ => none

def isYield (t : Nat) (o : Oper) : Option (Nat × List Operand) := match o.dst, o.op, o.guard with
  | some d, .call c, none => (match c.callee with
    | .value (.tmp t') => if Nat.beq t' t = true then some (d, c.args.toList) else none
    | _ => none)
  | _, _, _ => none

section
variable (TT : Tab) (Δ : Nat → Option CallO) (ok : Nat → Bool) (Λ : Nat → Option LoopO) (rid j : Nat) (mid : Shape)

/-- The region in which the element is handed over: first the function is moved, at place j it is called. -/
def yReg {R : Type} (ops : Array Oper) (s : St) (KP : Ex → St → Option R) (Y : List AV → (Bool → Option R) → Option R) : Option R :=
  match (ops[0]?).bind isMove0 with
  | some t => match (ops[j]?).bind (isYield t) with
    | some (d, args) => if (ok t && ok d && Nat.blt 0 j) = true then
        evOps TT Δ (roundOk ok [t]) ops false (((zipN 0 ops.toList).take j).drop 1) ⟨(t, .un) :: s.tm, s.bl⟩ [] fun s1 _ => match mid.take s1 with
          | some z => Y (args.map (ev (getT s1.tm))) fun b => evOps TT Δ ok ops false ((zipN 0 ops.toList).drop (j + 1)) ⟨(d, .d .bool b) :: (mid.put z).tm, (mid.put z).bl⟩ [] fun s2 _ => KP .nm s2
          | none => none
      else none
    | none => none
  | none => none

/-- A round in which an element is handed over: K ahead of that, KP behind it. -/
noncomputable def evY {R : Type} : Code → St → (Ex → St → Option R) → (Ex → St → Option R) → (List AV → (Bool → Option R) → Option R) → Option R
  | .region id ops draw, s, K, KP, Y => if Nat.beq id rid = true then (if draw = true then none else yReg TT Δ ok j mid ops s KP Y) else evC TT Δ ok Λ (.region id ops draw) s K
  | .seq a b, s, K, KP, Y => evY a s (fun e s' => match e with
      | .nm => evY b s' K KP Y
      | .ex i => K (.ex i) s'
      | .rt => K .rt s') (fun e s' => match e with
      | .nm => evC TT Δ ok Λ b s' KP
      | .ex i => KP (.ex i) s'
      | .rt => KP .rt s') Y
  | .cond c a b, s, K, KP, Y => match ev (getT s.tm) c with
      | .d .bool g => if g = true then evY a s K KP Y else evY b s K KP Y
      | _ => none
  | .block id c, s, K, KP, Y => evY c s (fun e s' => match e with
      | .nm => K .nm s'
      | .ex i => if Nat.beq i id = true then K .nm s' else K (.ex i) s'
      | .rt => K .rt s') (fun e s' => match e with
      | .nm => KP .nm s'
      | .ex i => if Nat.beq i id = true then KP .nm s' else KP (.ex i) s'
      | .rt => KP .rt s') Y
  | .skip, s, K, _, _ => K .nm s
  | .exit id, s, K, _, _ => K (.ex id) s
  | .ret, s, K, _, _ => K .rt s
  | .loop c, s, K, _, _ => evC TT Δ ok Λ (.loop c) s K
  | _, _, _, _, _ => none
end

section
variable {P : Program} {TT : Tab} {Δ : Nat → Option CallO} {n : Slots} {Λ : Nat → Option LoopO} {rid j : Nat} {mid : Shape} {l : Nat}

theorem isMove0_iff {o : Oper} {t : Nat} (h : isMove0 o = some t) : o.dst = some t ∧ o.op = .move (.tmp 0) ∧ o.guard = none := by
  unfold isMove0 at h
  split at h
  · rename_i t' h1 h2 h3
    injection h with h
    subst h
    exact ⟨h1, h2, h3⟩
  · cases h

theorem isYield_iff {t : Nat} {o : Oper} {d : Nat} {args : List Operand} (h : isYield t o = some (d, args)) : ∃ c, o.dst = some d ∧ o.op = .call c ∧ o.guard = none ∧ c.callee = .value (.tmp t) ∧ c.args.toList = args := by
  unfold isYield at h
  split at h
  · rename_i d' c h1 h2 h3
    split at h
    · rename_i t' h4
      split at h
      · rename_i h5
        have h5 := Nat.eq_of_beq_eq_true h5
        subst h5
        injection h with h
        injection h with e1 e2
        subst e1; subst e2
        exact ⟨c, h1, h2, h3, h4, rfl⟩
      · cases h
    · cases h
  · cases h

theorem zipN_fst : ∀ (l : List Oper) (i : Nat), (zipN i l).map (·.1) = List.range' i l.length
  | [], i => rfl
  | o :: l, i => by simp [zipN, zipN_fst l (i + 1), List.range'_succ]

theorem zipN_get : ∀ (l : List Oper) (i : Nat), ∀ p ∈ zipN i l, ∃ k, p.1 = i + k ∧ l[k]? = some p.2
  | [], _, p, h => by cases h
  | o :: l, i, p, h => by
    rcases List.mem_cons.1 h with rfl | h
    · exact ⟨0, rfl, rfl⟩
    · obtain ⟨k, h1, h2⟩ := zipN_get l (i + 1) p h
      exact ⟨k + 1, by omega, by simpa using h2⟩

theorem yReg_sound (hP : TabOK P TT) (hΔ : CallsOK P Δ) (hn0 : ∀ tm, n.G tm → tm.getD 0 undef = .func (.yield l) #[] #[]) {R : Type} {ops : Array Oper} {s : St} {KP : Ex → St → Option R} {Y : List AV → (Bool → Option R) → Option R} {r : R} {Q : Exit → Act → World → Prop}
    {X keep : Nat → Prop} {w0 w : World} {ι : Nat → Option Value} {a : Act} (h : SRel X keep w0 n ι s a w) (hev : yReg TT Δ n.ok j mid ops s KP Y = some r)
    (hY : ∀ args vals res z a' w' ι', SRel X keep w0 n ι' (mid.put z) a' w' → (∃ ok ι, RelL w' ok ι args vals) → Y args res = some r → YieldAt (WF none) 1 P l vals.toArray w' fun e w'' => ∃ b, e = .returned (.bool b) ∧ ∃ X' keep' w0' rb, res b = some rb ∧ SRel X' keep' w0' n ι' (mid.put z) a' w'' ∧
      ∀ s3 a3 w3 ι3, KP .nm s3 = some rb → SRel X' keep' w0' n ι3 s3 a3 w3 → Q .normal a3 w3) : wpOpsIn (WF none) 2 P ops Q (List.range ops.size) a w := by
  unfold yReg at hev
  split at hev
  · rename_i t ht
    split at hev
    · rename_i d args hd
      split at hev
      · rename_i hc
        simp only [Bool.and_eq_true] at hc
        obtain ⟨⟨c1, c2⟩, c3⟩ := hc
        have c3 : 0 < j := Nat.le_of_ble_eq_true c3
        obtain ⟨o0, g0, g1⟩ := bind_some' ht
        obtain ⟨oj, k0, k1⟩ := bind_some' hd
        obtain ⟨m1, m2, m3⟩ := isMove0_iff g1
        obtain ⟨c, y1, y2, y3, y4, y5⟩ := isYield_iff k1
        have hj : j < ops.size := (Array.getElem?_eq_some_iff.1 k0).1
        let yv : Value := .func (.yield l) #[] #[]
        have hL : List.range ops.size = [0] ++ ((((zipN 0 ops.toList).take j).drop 1).map (·.1) ++ ([j] ++ ((zipN 0 ops.toList).drop (j + 1)).map (·.1))) := by
          have e1 : List.range ops.size = (zipN 0 ops.toList).map (·.1) := by rw [zipN_fst, Array.length_toList, List.range_eq_range']
          have e2 : (zipN 0 ops.toList).map (·.1) = ((zipN 0 ops.toList).take j).map (·.1) ++ ((zipN 0 ops.toList).drop j).map (·.1) := by rw [← List.map_append, List.take_append_drop]
          have hz : (zipN 0 ops.toList).length = ops.size := by
            have := congrArg List.length (zipN_fst ops.toList 0)
            simpa using this
          have e3 : ((zipN 0 ops.toList).drop j).map (·.1) = [j] ++ ((zipN 0 ops.toList).drop (j + 1)).map (·.1) := by
            rw [List.map_drop, List.map_drop, zipN_fst, Array.length_toList]
            rw [List.drop_eq_getElem_cons (by simpa using hj)]
            simp
          have e4 : ((zipN 0 ops.toList).take j).map (·.1) = [0] ++ (((zipN 0 ops.toList).take j).drop 1).map (·.1) := by
            rw [List.map_drop, List.map_take, zipN_fst, Array.length_toList]
            have : 0 < ((List.range' 0 ops.size).take j).length := by
              simp only [List.length_take, List.length_range']
              omega
            conv => lhs; rw [← List.drop_zero (l := (List.range' 0 ops.size).take j)]
            rw [List.drop_eq_getElem_cons this]
            simp
          rw [e1, e2, e3, e4, List.append_assoc]
        rw [hL]
        -- the function is moved
        refine wpOpsIn_append [0] _ a w ?_
        rw [wpOpsIn_cons]
        unfold wpOpIn
        rw [g0]
        have hw : Region.wanted o0 (yielded ops a.tmps) = true := by simp [Region.wanted, m3]
        simp only [hw, if_true]
        refine wpIn_of_wp (fun c hc => by rw [m2] at hc; cases hc) ?_
        unfold Oper.wp
        have hr : (execOp a.eval o0).run P w = .ok (.value (a.eval (.tmp 0))) w := by
          unfold execOp
          rw [m2]
          rfl
        rw [hr]
        have hv0 : a.eval (.tmp 0) = yv := hn0 a.tmps h.f.size
        show wpOpsIn (WF none) 2 P ops Q _ (a.put o0.dst (a.eval (.tmp 0))) w
        rw [hv0, m1]
        let a1 : Act := a.put (some t) yv
        let n' := roundSlots n [t] a1
        have ht1 : t < a.tmps.size := n.lt _ _ h.f.size c1
        have hG1 : n.G a1.tmps := n.set _ _ _ h.f.size c1
        have S1 : SRel X keep w0 n' ι ⟨(t, .un) :: s.tm, s.bl⟩ a1 w := by
          have F1 : FRel X keep w0 n ι (getT ((t, .un) :: s.tm)) (getB s.bl) a1 w := h.f.put1 c1 (by simp only [RelV])
          exact ⟨⟨F1.h, F1.tm, ⟨hG1, fun _ _ => rfl⟩, F1.defers⟩, h.dom⟩
        refine wpOpsIn_append _ _ a1 w ?_
        refine evOps_seq (n := n') (Q := Exit.then _ Q) hP hΔ _ _ _ a1 w ι (fun p hp => ?_) hev S1 fun s1 lg a2 w2 ι2 hk S2 => ?_
        · obtain ⟨k, q1, q2⟩ := zipN_get ops.toList 0 p (List.mem_of_mem_take (List.mem_of_mem_drop hp))
          rw [q1, Nat.zero_add, ← Array.getElem?_toList]
          exact q2
        split at hk
        · rename_i z hz
          have hyv : a2.tmps.getD t undef = yv := by
            rw [S2.f.size.2 t (List.mem_singleton.2 rfl)]
            show (a.tmps.setIfInBounds t yv).getD t undef = yv
            rw [Array.getD_eq_getD_getElem?, Array.getElem?_setIfInBounds_self_of_lt ht1]
            rfl
          have S2n : SRel X keep w0 n ι2 s1 a2 w2 := ⟨⟨S2.f.h, S2.f.tm, S2.f.size.1, S2.f.defers⟩, S2.dom⟩
          obtain ⟨ι3, S3⟩ := Shape.take_sound S2n hz
          have hargs : RelL w2 (okb X w2 ι2 (getB s1.bl)) ι2 (args.map (ev (getT s1.tm))) (args.map a2.eval) := RelL_map S2.f.tm args
          obtain ⟨fn, tmps, assign, body, hyr, hR⟩ := hY _ _ _ z a2 w2 ι3 S3 ⟨_, _, hargs⟩ hk
          refine wpOpsIn_append [j] _ a2 w2 ?_
          rw [wpOpsIn_cons]
          unfold wpOpIn
          rw [k0]
          have hw : Region.wanted oj (yielded ops a2.tmps) = true := by simp [Region.wanted, y3]
          simp only [hw, if_true]
          refine ⟨fun _ _ => trivial, ?_⟩
          have hex : (execOp a2.eval oj).run P w2 = .ok (.round l fn tmps assign body) w2 := by
            unfold execOp
            rw [y2]
            have he : a2.eval (.tmp t) = yv := hyv
            have harr : Array.map a2.eval c.args = (args.map a2.eval).toArray := by rw [← y5]; apply Array.ext'; simp
            simp only [resolve, y4, he, harr]
            simp [yv, Deferred.ofValue, invoke, callFunc, hyr]
          have hsem : ((oj.semAt (WF none).round a2.eval).run P w2) = .ok (.round l fn tmps assign body) w2 := by
            rw [Oper.semAt_eq _ _ _ (fun c hc => by rw [y2] at hc; cases hc)]
            exact hex
          rw [hsem, Oper.uponIn_round]
          refine ⟨fun q => (by cases q), hR.mono ?_⟩
          rintro e w3 ⟨b, rfl, X', keep', w0', rb, hrb, S4, hend⟩
          show wpOpsIn (WF none) 2 P ops Q _ (a2.put oj.dst (.bool b)) w3
          rw [y1]
          have F5 : FRel X' keep' w0' n ι3 (getT ((d, .d .bool b) :: (mid.put z).tm)) (getB (mid.put z).bl) (a2.put (some d) (.bool b)) w3 := S4.f.put1 c2 (rel_bool.2 rfl)
          refine evOps_seq (n := n) hP hΔ _ _ _ _ w3 ι3 (fun p hp => ?_) hrb ⟨F5, S4.dom⟩ fun s3 lg a3 w4 ι4 hk3 S6 => hend s3 a3 w4 ι4 hk3 S6
          obtain ⟨k, q1, q2⟩ := zipN_get ops.toList 0 p (List.mem_of_mem_drop hp)
          rw [q1, Nat.zero_add, ← Array.getElem?_toList]
          exact q2
        · cases hk
      · cases hev
    · cases hev
  · cases hev

theorem evY_sound (hm : P.follows .mixedOrders = true) (hP : TabOK P TT) (hΔ : CallsOK P Δ) (hn0 : ∀ tm, n.G tm → tm.getD 0 undef = .func (.yield l) #[] #[]) {X : Nat → Prop} : ∀ (c : Code), LoopsIn P n none Λ c → ∀ {R : Type} {r : R} (s : St) (K KP : Ex → St → Option R) (Y : List AV → (Bool → Option R) → Option R) (Q : Exit → Act → World → Prop) (a : Act) (w : World) (ι : Nat → Option Value) (keep : Nat → Prop) (w0 : World),
    SRel X keep w0 n ι s a w → evY TT Δ n.ok Λ rid j mid c s K KP Y = some r →
    (∀ e s' a' w' ι' keep' w0', Later keep w0 keep' w0' → K e s' = some r → SRel X keep' w0' n ι' s' a' w' → Q e.out a' w') →
    (∀ args vals res z a' w' ι' keep1 w01, Later keep w0 keep1 w01 → SRel X keep1 w01 n ι' (mid.put z) a' w' → (∃ ok ι, RelL w' ok ι args vals) → Y args res = some r → YieldAt (WF none) 1 P l vals.toArray w' fun e w'' => ∃ b, e = .returned (.bool b) ∧ ∃ X' keep' w0' rb, res b = some rb ∧ SRel X' keep' w0' n ι' (mid.put z) a' w'' ∧
      ∀ e3 s3 a3 w3 ι3 keep3 w03, Later keep' w0' keep3 w03 → KP e3 s3 = some rb → SRel X' keep3 w03 n ι3 s3 a3 w3 → Q e3.out a3 w3) →
    c.wpIn (WF none) 2 P Q a w
  | .region id ops draw, hL, R, r, s, K, KP, Y, Q, a, w, ι, keep, w0, h, hev, hK, hY => by
    simp only [evY] at hev
    split at hev
    · split at hev
      · cases hev
      · rename_i hd
        have hd : draw = false := by simpa using hd
        subst hd
        refine wpIn_region ?_
        refine yReg_sound hP hΔ hn0 h hev fun args vals res z a' w' ι' S hr hy => ?_
        obtain ⟨fn, tmps, assign, body, q1, q2⟩ := hY args vals res z a' w' ι' keep w0 (Later.refl _ _) S hr hy
        refine ⟨fn, tmps, assign, body, q1, q2.mono ?_⟩
        rintro e w'' ⟨b, he, X', keep', w0', rb, hrb, S4, hend⟩
        exact ⟨b, he, X', keep', w0', rb, hrb, S4, fun s3 a3 w3 ι3 hk S6 => hend .nm s3 a3 w3 ι3 keep' w0' (Later.refl _ _) hk S6⟩
    · exact evC_sound hm hP hΔ (.region id ops draw) hL s K Q a w ι keep w0 h hev hK
  | .seq x y, hL, R, r, s, K, KP, Y, Q, a, w, ι, keep, w0, h, hev, hK, hY => by
    simp only [evY] at hev
    refine wpIn_seq (evY_sound hm hP hΔ hn0 x hL.1 s _ _ Y _ a w ι keep w0 h hev (fun e s' a' w' ι' k1 v1 hl hk h' => ?_) fun args vals res z a' w' ι' k1 v1 hl S hr hy => ?_)
    · cases e with
      | nm => exact evY_sound hm hP hΔ hn0 y hL.2 s' K KP Y Q a' w' ι' k1 v1 h' hk (fun e s2 a2 w2 ι2 k2 v2 hl2 => hK e s2 a2 w2 ι2 k2 v2 (hl.trans hl2)) fun args vals res z a2 w2 ι2 k2 v2 hl2 => hY args vals res z a2 w2 ι2 k2 v2 (hl.trans hl2)
      | ex i => exact hK (.ex i) s' a' w' ι' k1 v1 hl hk h'
      | rt => exact hK .rt s' a' w' ι' k1 v1 hl hk h'
    · obtain ⟨fn, tmps, assign, body, q1, q2⟩ := hY args vals res z a' w' ι' k1 v1 hl S hr hy
      refine ⟨fn, tmps, assign, body, q1, q2.mono ?_⟩
      rintro e w'' ⟨b, he, X', keep', w0', rb, hrb, S4, hend⟩
      refine ⟨b, he, X', keep', w0', rb, hrb, S4, fun e3 s3 a3 w3 ι3 k3 v3 hl3 hk S6 => ?_⟩
      cases e3 with
      | nm => exact evC_sound hm hP hΔ y hL.2 s3 KP Q a3 w3 ι3 k3 v3 S6 hk fun e s2 a2 w2 ι2 k2 v2 hl2 hk2 S7 => hend e s2 a2 w2 ι2 k2 v2 (hl3.trans hl2) hk2 S7
      | ex i => exact hend (.ex i) s3 a3 w3 ι3 k3 v3 hl3 hk S6
      | rt => exact hend .rt s3 a3 w3 ι3 k3 v3 hl3 hk S6
  | .cond c x y, hL, R, r, s, K, KP, Y, Q, a, w, ι, keep, w0, h, hev, hK, hY => by
    simp only [evY] at hev
    have hc := ev_rel h.f.tm c
    split at hev
    · rename_i g hg
      rw [hg, rel_bool] at hc
      refine wpIn_cond hc ?_
      split at hev
      · rename_i ht
        subst ht
        exact evY_sound hm hP hΔ hn0 x hL.1 s K KP Y Q a w ι keep w0 h hev hK hY
      · rename_i ht
        have ht : g = false := by simpa using ht
        subst ht
        exact evY_sound hm hP hΔ hn0 y hL.2 s K KP Y Q a w ι keep w0 h hev hK hY
    · cases hev
  | .block id c, hL, R, r, s, K, KP, Y, Q, a, w, ι, keep, w0, h, hev, hK, hY => by
    simp only [evY] at hev
    refine wpIn_block (evY_sound hm hP hΔ hn0 c hL s _ _ Y _ a w ι keep w0 h hev (fun e s' a' w' ι' k1 v1 hl hk h' => ?_) fun args vals res z a' w' ι' k1 v1 hl S hr hy => ?_)
    · cases e with
      | nm => exact hK .nm s' a' w' ι' k1 v1 hl hk h'
      | ex i =>
        simp only at hk
        show (Exit.inBlock id Q) (.exit i) a' w'
        simp only [Exit.inBlock]
        split at hk
        · rename_i hi
          rw [if_pos (Nat.eq_of_beq_eq_true hi)]
          exact hK .nm s' a' w' ι' k1 v1 hl hk h'
        · rename_i hi
          rw [if_neg (fun q => hi (by rw [q]; exact Nat.beq_refl _))]
          exact hK (.ex i) s' a' w' ι' k1 v1 hl hk h'
      | rt => exact hK .rt s' a' w' ι' k1 v1 hl hk h'
    · obtain ⟨fn, tmps, assign, body, q1, q2⟩ := hY args vals res z a' w' ι' k1 v1 hl S hr hy
      refine ⟨fn, tmps, assign, body, q1, q2.mono ?_⟩
      rintro e w'' ⟨b, he, X', keep', w0', rb, hrb, S4, hend⟩
      refine ⟨b, he, X', keep', w0', rb, hrb, S4, fun e3 s3 a3 w3 ι3 k3 v3 hl3 hk S6 => ?_⟩
      cases e3 with
      | nm => exact hend .nm s3 a3 w3 ι3 k3 v3 hl3 hk S6
      | ex i =>
        simp only at hk
        show (Exit.inBlock id Q) (.exit i) a3 w3
        simp only [Exit.inBlock]
        split at hk
        · rename_i hi
          rw [if_pos (Nat.eq_of_beq_eq_true hi)]
          exact hend .nm s3 a3 w3 ι3 k3 v3 hl3 hk S6
        · rename_i hi
          rw [if_neg (fun q => hi (by rw [q]; exact Nat.beq_refl _))]
          exact hend (.ex i) s3 a3 w3 ι3 k3 v3 hl3 hk S6
      | rt => exact hend .rt s3 a3 w3 ι3 k3 v3 hl3 hk S6
  | .skip, hL, R, r, s, K, KP, Y, Q, a, w, ι, keep, w0, h, hev, hK, hY => wpIn_skip (hK .nm s a w ι keep w0 (Later.refl _ _) hev h)
  | .exit id, hL, R, r, s, K, KP, Y, Q, a, w, ι, keep, w0, h, hev, hK, hY => wpIn_exit (hK (.ex id) s a w ι keep w0 (Later.refl _ _) hev h)
  | .ret, hL, R, r, s, K, KP, Y, Q, a, w, ι, keep, w0, h, hev, hK, hY => wpIn_ret (hK .rt s a w ι keep w0 (Later.refl _ _) hev h)
  | .loop c, hL, R, r, s, K, KP, Y, Q, a, w, ι, keep, w0, h, hev, hK, hY => evC_sound hm hP hΔ (.loop c) hL s K Q a w ι keep w0 h hev hK
  | .rangeFunc .., _, _, _, _, _, _, _, _, _, _, _, _, _, _, hev, _, _ => by cases hev
  | .scope _, _, _, _, _, _, _, _, _, _, _, _, _, _, _, hev, _, _ => by cases hev
  | .label _, _, _, _, _, _, _, _, _, _, _, _, _, _, _, hev, _, _ => by cases hev
  | .goto _, _, _, _, _, _, _, _, _, _, _, _, _, _, _, hev, _, _ => by cases hev
  | .refuse _, _, _, _, _, _, _, _, _, _, _, _, _, _, _, hev, _, _ => by cases hev
end
end Go.Proofs.Rf
/- Rf, part F: the contract of a function that hands over elements. -/
namespace Go.Proofs.Rf
open Go Go.RowKit

section
variable {X keep : Nat → Prop} {w0 w : World} {ι : Nat → Option Value} {C : Nat → Blk}

/-- From one world to another in which all that is told of is as it was. -/
theorem HRel.jump (h : HRel X keep w0 ι C w) {W : World} (hs : w.heap.size ≤ W.heap.size) (hsame : ∀ b, b < w.heap.size → okb X w ι C b ∨ owned ι C b → W.heap[b]? = w.heap[b]?) (keep' : Nat → Prop) (hk : ∀ b, keep' b → b < W.heap.size ∧ ¬ owned ι C b) :
    HRel (fun b => b < W.heap.size ∧ ¬ okb X w ι C b ∧ ¬ owned ι C b) keep' W ι C W ∧ ∀ v u, RelV w (okb X w ι C) ι v u → RelV W (okb (fun b => b < W.heap.size ∧ ¬ okb X w ι C b ∧ ¬ owned ι C b) W ι C) ι v u := by
  have hok : ∀ g, okb X w ι C g → okb (fun b => b < W.heap.size ∧ ¬ okb X w ι C b ∧ ¬ owned ι C b) W ι C g := fun g hg => ⟨Nat.lt_of_lt_of_le hg.1 hs, hg.2.1, fun hx => hx.2.1 hg⟩
  have hcell : ∀ g o v, okb X w ι C g → w.cell? ⟨g, o, none⟩ = some v → W.cell? ⟨g, o, none⟩ = some v := by
    intro g o v hg hv
    rw [← hv]; exact World.cell?_of_block (hsame g hg.1 (.inl hg))
  have hown : ∀ b, owned ι C b → W.heap[b]? = w.heap[b]? := fun b ho => hsame b (h.lt ho) (.inr ho)
  refine ⟨⟨fun k => ?_, h.inj, Kept.refl _ _, fun b hb hkb => (hk b hkb).2 hb, fun b hb => (hk b hb).1, fun b hb hx => hx.2.2 hb, fun b hb => hb.1, h.gl.mono fun g hg => ⟨hok g hg, hsame g hg.1 (.inl hg)⟩⟩, fun v u hv => RelV_mono hcell hok (fun _ _ e => e) v u hv⟩
  have hB := h.bl k
  cases hC : C k with
  | row t e xs rw =>
    rw [hC] at hB
    cases rw with
    | true =>
      obtain ⟨v, cs, h1, h2, h3⟩ := hB
      refine ⟨v, cs, h1, ⟨h2.1, ?_⟩, RzL_mono (Rz_mono hcell hok t) h3⟩
      rcases h2.2 with h4 | ⟨g, cap, cur, hv, h5, h6, h7⟩
      · exact .inl h4
      · refine .inr ⟨g, cap, cur, hv, h5, ?_, h7⟩
        rw [hown g ⟨k, by unfold bk; rw [hC, h1, hv]; rfl⟩]
        exact h6
    | false =>
      obtain ⟨v, h1, h0, h2⟩ := hB
      exact ⟨v, h1, h0, Rz_mono hcell hok _ _ _ h2⟩
  | box e cs =>
    rw [hC] at hB
    obtain ⟨g, us, h1, h2, h3⟩ := hB
    refine ⟨g, us, h1, ?_, RelL_mono hcell hok (fun _ _ e => e) cs us h3⟩
    rw [hown g ⟨k, by unfold bk; rw [hC, h1]⟩]
    exact h2
  | it s pos =>
    rw [hC] at hB
    obtain ⟨g, h1, h2⟩ := hB
    refine ⟨g, h1, ?_⟩
    rw [hown g ⟨k, by unfold bk; rw [hC, h1]⟩]
    exact h2
  | map kt va vt l =>
    rw [hC] at hB
    obtain ⟨g, es, ck, l', h1, h2, h3, h4, h5, h6⟩ := hB
    refine ⟨g, es, ck, l', h1, ?_, h3, h4, h5, RzM_dat hcell hok h6⟩
    rw [hown g ⟨k, by unfold bk; rw [hC, h1]⟩]
    exact h2
  | dead => trivial
end

/-! ### Shapes whose boxes all hang on kept slots -/
def rootIn (pins : List Nat) (j : Nat) : List (Nat × SV) → Bool
  | [] => false
  | (t, .pt b _) :: r => (Nat.beq b j && memN t pins) || rootIn pins j r
  | _ :: r => rootIn pins j r

def rooted (pins : List Nat) (sl : List (Nat × SV)) : Nat → List SB → Bool
  | _, [] => true
  | j, .box _ _ :: r => rootIn pins j sl && rooted pins sl (j + 1) r
  | _, _ => false

def nodupS : List (Nat × SV) → Bool
  | [] => true
  | p :: r => !(memN p.1 (slotsOf r)) && nodupS r

theorem getT_putS : ∀ (sl : List (Nat × SV)) (x : denS sl) (t : Nat) (sv : SV), nodupS sl = true → (t, sv) ∈ sl → ∃ y : sv.den, getT (putS sl x) t = sv.put y
  | p :: r, x, t, sv, hn, h => by
    simp only [nodupS, Bool.and_eq_true, Bool.not_eq_true'] at hn
    rcases List.mem_cons.1 h with rfl | h
    · refine ⟨x.1, ?_⟩
      simp only [putS, getT]
      rw [if_pos (Nat.beq_refl _)]
    · obtain ⟨y, hy⟩ := getT_putS r x.2 t sv hn.2 h
      refine ⟨y, ?_⟩
      simp only [putS, getT]
      rw [if_neg (fun q => ?_)]
      · exact hy
      · have q := Nat.eq_of_beq_eq_true q
        have hm : ∀ {l : List (Nat × SV)}, (t, sv) ∈ l → t ∈ slotsOf l := by
          intro l
          induction l with
          | nil => intro h; cases h
          | cons a l ih =>
            intro h
            simp only [slotsOf, List.mem_cons]
            rcases List.mem_cons.1 h with rfl | h
            · exact .inl rfl
            · exact .inr (ih h)
        have := hm h
        rw [q, memN_iff.2 this] at hn
        cases hn.1

theorem rootIn_iff {pins : List Nat} {j : Nat} : ∀ {sl : List (Nat × SV)}, rootIn pins j sl = true → ∃ t o, (t, SV.pt j o) ∈ sl ∧ t ∈ pins
  | [], h => by cases h
  | (t, .pt b o) :: r, h => by
    simp only [rootIn, Bool.or_eq_true, Bool.and_eq_true] at h
    rcases h with ⟨h1, h2⟩ | h
    · rw [Nat.eq_of_beq_eq_true h1]
      exact ⟨t, o, List.mem_cons_self .., memN_iff.1 h2⟩
    · obtain ⟨t', o', h1, h2⟩ := rootIn_iff h
      exact ⟨t', o', List.mem_cons_of_mem _ h1, h2⟩
  | (t, .d _ _) :: r, h | (t, .rf _) :: r, h | (t, .rs _ _) :: r, h | (t, .rz _ _) :: r, h | (t, .ud) :: r, h | (t, .fn _ _) :: r, h | (t, .mp _) :: r, h | (t, .np) :: r, h | (t, .mnil) :: r, h | (t, .nl) :: r, h => by
    simp only [rootIn] at h
    obtain ⟨t', o', h1, h2⟩ := rootIn_iff h
    exact ⟨t', o', List.mem_cons_of_mem _ h1, h2⟩

theorem rooted_iff {pins : List Nat} {sl : List (Nat × SV)} : ∀ {bl : List SB} {j0 : Nat}, rooted pins sl j0 bl = true → ∀ j, j < bl.length → (∃ e cs, bl[j]? = some (.box e cs)) ∧ rootIn pins (j0 + j) sl = true
  | [], _, _, j, hj => by simp at hj
  | .box _ cs :: r, j0, h, 0, _ => by
    simp only [rooted, Bool.and_eq_true] at h
    exact ⟨⟨_, cs, rfl⟩, h.1⟩
  | .box _ cs :: r, j0, h, j + 1, hj => by
    simp only [rooted, Bool.and_eq_true] at h
    obtain ⟨h1, h2⟩ := rooted_iff h.2 j (by simpa using hj)
    refine ⟨by simpa using h1, ?_⟩
    rwa [show j0 + 1 + j = j0 + (j + 1) by omega] at h2
  | .row _ _ :: r, _, h, _, _ => by cases h
  | .it :: r, _, h, _, _ => by cases h
  | .map _ _ _ :: r, _, h, _, _ => by cases h

theorem putB_box : ∀ (l : List SB) (x : denB l) (j e : Nat) (cs : List SV), l[j]? = some (.box e cs) → ∃ vs, getB (putB l x) j = .box e vs
  | [], _, _, _, _, h => by simp at h
  | a :: r, x, 0, e, cs, h => by
    simp only [List.getElem?_cons_zero, Option.some.injEq] at h
    subst h
    exact ⟨_, rfl⟩
  | a :: r, x, j + 1, e, cs, h => putB_box r x.2 j e cs (by simpa using h)

/-- What is owned is what the kept slots point to. -/
theorem rooted_owned {X keep : Nat → Prop} {w0 w : World} {n : Slots} {ι : Nat → Option Value} {sh : Shape} {x : sh.den} {a : Act} (h : SRel X keep w0 n ι (sh.put x) a w) {pins : List Nat} (hr : rooted pins sh.sl 0 sh.bl = true) (hn : nodupS sh.sl = true) {b : Nat} (hb : owned ι (getB (sh.put x).bl) b) :
    ∃ t ∈ pins, ∃ o, a.tmps.getD t undef = .pointer (some ⟨b, o, none⟩) := by
  obtain ⟨j, hj⟩ := hb
  have hl : j < sh.bl.length := by
    rcases Nat.lt_or_ge j sh.bl.length with q | q
    · exact q
    · have : getB (sh.put x).bl j = .dead := getB_out _ _ (by rw [show (sh.put x).bl.length = sh.bl.length from putB_length _ _]; exact q)
      rw [bk_dead this] at hj
      cases hj
  obtain ⟨⟨e, cs, h1⟩, h2⟩ := rooted_iff hr j hl
  rw [Nat.zero_add] at h2
  obtain ⟨t, o, h3, h4⟩ := rootIn_iff h2
  obtain ⟨y, hy⟩ := getT_putS sh.sl x.1 t _ hn h3
  have ht := h.f.tm t
  rw [show getT (sh.put x).tm t = _ from hy] at ht
  simp only [SV.put, RelV] at ht
  obtain ⟨g, g1, g2⟩ := ht
  obtain ⟨vs, hvs⟩ := putB_box sh.bl x.2 j e cs h1
  unfold bk at hj
  rw [show getB (sh.put x).bl j = _ from hvs, g1] at hj
  injection hj with hj
  have hj : g = b := hj
  subst hj
  exact ⟨t, h4, o, g2⟩

/-! ### The contract -/
/-- What is captured, as data: boxes, of which no row is read from here on alone. -/
def capG {El : Type} (psh : Shape) (D : psh.den → Option (List El)) (C : Nat → Blk) (cs : List AV) : Option (List El) :=
  if (nodupN (blkB C psh.bl 0 (blkS (getT (numT 1 cs)) psh.sl [])) && Nat.beq cs.length psh.sl.length) = true then
    (match takeS C (getT (numT 1 cs)) (blkB C psh.bl 0 (blkS (getT (numT 1 cs)) psh.sl [])) psh.sl with
    | some (x, []) => match takeB C (blkB C psh.bl 0 (blkS (getT (numT 1 cs)) psh.sl [])) psh.bl (blkB C psh.bl 0 (blkS (getT (numT 1 cs)) psh.sl [])) with
      | some (y, []) => D (x, y)
      | _ => none
    | _ => none)
  else none

section
variable (TT : Tab) (Δ : Nat → Option CallO) (ok : Nat → Bool) (Λ : Nat → Option LoopO) {El : Type}

/-- One round, over data. -/
noncomputable def stepY (rid j : Nat) (mid head : Shape) (elOf : List AV → Option El) (id : Nat) (c : Code) (x : head.den) : Option (RY head.den El) :=
  evY TT Δ ok Λ rid j mid c (head.put x)
    (fun e s => match e with
      | .nm => (match head.take s with
        | some y => some (.go y)
        | none => none)
      | .ex i => if Nat.beq i id = true then some .done else none
      | .rt => some .done)
    (fun e s => match e with
      | .nm => (match head.take s with
        | some y => some (.go y)
        | none => none)
      | .ex i => if Nat.beq i id = true then some .done else none
      | .rt => some .done)
    fun args res => match elOf args with
      | some e => match res true, res false with
        | some (.go y), some .done => some (.yl e y)
        | _, _ => none
      | none => none
end

/-- All elements. -/
def colY {A El : Type} (f : A → Option (RY A El)) : Nat → A → Option (List El)
  | 0, _ => none
  | k + 1, x => match f x with
    | some (.go y) => colY f k y
    | some .done => some []
    | some (.yl e y) => match colY f k y with
      | some r => some (e :: r)
      | none => none
    | none => none

def allPt : List (Nat × SV) → Bool
  | [] => true
  | (_, .pt _ _) :: r => allPt r
  | _ => false

theorem takeS_pt {C : Nat → Blk} {T : Nat → AV} {ρ : List Nat} : ∀ {sl : List (Nat × SV)} {x : denS sl} {f : List (Nat × Blk)}, takeS C T ρ sl = some (x, f) → allPt sl = true → ∀ t, t ∈ slotsOf sl → ∃ j o i, (t, SV.pt j o) ∈ sl ∧ T t = .pt i o ∧ ρ[j]? = some i
  | [], _, _, _, _, t, ht => by cases ht
  | (u, .pt b o) :: r, x, f, h, ha, t, ht => by
    simp only [takeS] at h
    split at h
    · rename_i x1 f1 e1
      split at h
      · rename_i x2 f2 e2
        rcases List.mem_cons.1 ht with rfl | ht
        · cases hT : T t <;> rw [hT] at e1 <;> simp only [SV.take] at e1 <;> (try (cases e1; done))
          rename_i i o'
          split at e1
          · rename_i hi
            simp only [Bool.and_eq_true] at hi
            rw [Nat.eq_of_beq_eq_true hi.2] at hT ⊢
            exact ⟨b, o, i, List.mem_cons_self .., rfl, atN_iff hi.1⟩
          · cases e1
        · obtain ⟨j, o', i, q1, q2, q3⟩ := takeS_pt e2 ha t ht
          exact ⟨j, o', i, List.mem_cons_of_mem _ q1, q2, q3⟩
      · cases h
    · cases h
  | (_, .d _ _) :: _, _, _, _, ha, _, _ | (_, .rf _) :: _, _, _, _, ha, _, _ | (_, .rs _ _) :: _, _, _, _, ha, _, _ | (_, .rz _ _) :: _, _, _, _, ha, _, _ | (_, .ud) :: _, _, _, _, ha, _, _ | (_, .fn _ _) :: _, _, _, _, ha, _, _ => by cases ha

theorem takeB_box {C : Nat → Blk} {ρ : List Nat} : ∀ {l : List SB} {is : List Nat} {y : denB l} {f : List (Nat × Blk)}, takeB C ρ l is = some (y, f) → ∀ (j i e : Nat) (cs : List SV), l[j]? = some (SB.box e cs) → is[j]? = some i → ∃ e' vs, C i = Blk.box e' vs
  | [], _, _, _, _, j, i, e, cs, hj, _ => by simp at hj
  | a :: r, [], _, _, h, _, _, _, _, _, _ => by simp only [takeB] at h; cases h
  | a :: r, k :: is, y, f, h, j, i, e, cs, hj, hi => by
    simp only [takeB] at h
    split at h
    · rename_i x1 f1 e1
      split at h
      · rename_i x2 f2 e2
        cases j with
        | zero =>
          simp only [List.getElem?_cons_zero, Option.some.injEq] at hj hi
          subst hj; subst hi
          cases hC : C k with
          | box e' vs => exact ⟨e', vs, rfl⟩
          | row t e xs rw => rw [hC] at e1; cases rw <;> simp only [SB.take] at e1 <;> cases e1
          | it s p => rw [hC] at e1; simp only [SB.take] at e1; cases e1
          | map kt va vt l => rw [hC] at e1; simp only [SB.take] at e1; cases e1
          | dead => rw [hC] at e1; simp only [SB.take] at e1; cases e1
        | succ j => exact takeB_box e2 j i e cs (by simpa using hj) (by simpa using hi)
      · cases h
    · cases h

theorem getT_numT_mem : ∀ {vs : List AV} {i t : Nat} {k o : Nat}, getT (numT i vs) t = .pt k o → k ∈ AV.idsL vs
  | [], _, _, _, _, h => by simp only [numT, getT] at h; cases h
  | v :: r, i, t, k, o, h => by
    simp only [numT, getT] at h
    split at h
    · rw [h]
      simp [AV.idsL, AV.ids]
    · have := getT_numT_mem h
      simp [AV.idsL, this]

theorem slotsFrom_mem : ∀ {sl : List (Nat × SV)} {i t : Nat}, slotsFrom i sl = true → i ≤ t → t < i + sl.length → t ∈ slotsOf sl
  | [], i, t, _, h1, h2 => by simp at h2; omega
  | p :: r, i, t, h, h1, h2 => by
    simp only [slotsFrom, Bool.and_eq_true] at h
    have e := Nat.eq_of_beq_eq_true h.1
    simp only [slotsOf, List.mem_cons]
    rcases Nat.eq_or_lt_of_le h1 with q | q
    · exact .inl (by omega)
    · exact .inr (slotsFrom_mem h.2 (by omega) (by simp only [List.length_cons] at h2; omega))

theorem meetN_nil : ∀ l : List Nat, meetN l [] = false
  | [] => rfl
  | k :: r => by simp [meetN, memN, meetN_nil r]

/-- What such a contract wants of the text. -/
structure IterText (P : Program) (f : Nat) (fn : Func) (m : Nat) (pre : Option Code) (id : Nat) (c : Code) (psh head mid : Shape) : Prop where
  at_ : P.funcs[f]? = some fn
  body : fn.body = some (match pre with
    | some p => .seq p (.block id (.loop c))
    | none => .block id (.loop c))
  name : (fn.name == "runtime.NumGoroutine") = false
  res : fn.results = #[]
  len : Nat.blt m fn.ntmps = true
  slots : slotsFrom 1 psh.sl = true
  lenm : Nat.beq psh.sl.length m = true
  rootp : rooted (rangeN 1 m) psh.sl 0 psh.bl = true
  ptp : allPt psh.sl = true
  ndp : nodupS psh.sl = true
  rooth : rooted (rangeN 1 m) head.sl 0 head.bl = true
  rootm : rooted (rangeN 1 m) mid.sl 0 mid.bl = true
  ndh : nodupS head.sl = true
  ndm : nodupS mid.sl = true

def iterSlots (base k : Nat) : Slots := ⟨false, base, upTo k, fun tm => tm.size = k, (frameSlots base k).lt, (frameSlots base k).set⟩

/-- What stands ahead of the loop. -/
noncomputable def startY (TT : Tab) (Δ : Nat → Option CallO) (ok : Nat → Bool) (Λ : Nat → Option LoopO) (pre : Option Code) (head psh : Shape) (x : psh.den) : Option head.den :=
  match pre with
  | none => head.take (psh.put x)
  | some p => evC TT Δ ok Λ p (psh.put x) fun e s => match e with
    | .nm => head.take s
    | _ => none

section
variable {P : Program} {TT : Tab} {Δ : Nat → Option CallO} {Λ : Nat → Option LoopO} {El : Type}

theorem iterOK_of (hm : P.follows .mixedOrders = true) (hP : TabOK P TT) (hΔ : CallsOK P Δ) {f : Nat} {fn : Func} {m : Nat} {pre : Option Code} {id : Nat} {c : Code} {psh head mid : Shape} {encs : El → List Value} {elOf : List AV → Option El} {rid j : Nat}
    (hT : IterText P f fn m pre id c psh head mid) (hel : ∀ args e w ok ι vals, elOf args = some e → RelL w ok ι args vals → vals = encs e)
    (hL : ∀ n : Slots, n.ok = roundOk (upTo fn.ntmps) (rangeN 0 (m + 1)) → LoopsIn P n none Λ c ∧ ∀ p, pre = some p → LoopsIn P n none Λ p) {D : psh.den → Option (List El)}
    (hD : ∀ x xs, D x = some xs → ∃ x0 k, startY TT Δ (roundOk (upTo fn.ntmps) (rangeN 0 (m + 1))) Λ pre head psh x = some x0 ∧ colY (stepY TT Δ (roundOk (upTo fn.ntmps) (rangeN 0 (m + 1))) Λ rid j mid head elOf id c) k x0 = some xs) : IterOK P f encs (capG psh D) := by
  refine ⟨⟨fn, hT.at_, hT.name, by rw [hT.body]; rfl⟩, ?_⟩
  intro X keep w0 w ι C cs us xs O h hv hcap hokO hcO l J Jx W hwl hlW hwW hsame hJ hJl hJm hJxm hyield
  unfold capG at hcap
  generalize hρ : blkB C psh.bl 0 (blkS (getT (numT 1 cs)) psh.sl []) = ρ at hcap
  split at hcap
  · rename_i hc1
    simp only [Bool.and_eq_true] at hc1
    have hnd := nodupN_iff hc1.1
    have hal := Nat.eq_of_beq_eq_true hc1.2
    split at hcap
    · rename_i x e1
      split at hcap
      · rename_i y e2
        obtain ⟨x0, k0, hst, hcol⟩ := hD (x, y) xs hcap
        let yv : Value := .func (.yield l) #[] #[]
        let V : Nat → Value := fun t => (yv :: us).getD t undef
        have hlm : psh.sl.length = m := Nat.eq_of_beq_eq_true hT.lenm
        have hul : us.length = m := (RelL_length hv).trans (hal.trans hlm)
        have hmk : m < fn.ntmps := Nat.le_of_ble_eq_true hT.len
        have hTV : ∀ t, RelV w (okb X w ι C) ι (getT (numT 1 cs) t) (V t) := by
          intro t
          cases t with
          | zero =>
            rw [(getT_numT cs us 1 0 hv).2 0 (by omega)]
            simp only [RelV]
          | succ t =>
            have := (getT_numT cs us 1 t hv).1
            rw [Nat.add_comm] at this
            simpa [V] using this
        obtain ⟨_, _, _, hbl, hbk, hbk', hrel⟩ := takeC_sound h hTV e1 e2 (by show meetN ρ [] = false; exact meetN_nil ρ)
        have hbk : ∀ j b, bk (fun j => (ρ[j]?).bind ι) (getB (putB psh.bl y)) j = some b → ∃ i, ρ[j]? = some i ∧ bk ι C i = some b := hbk
        have hrel : ∀ ok' : Nat → Prop, (∀ g, okb X w ι C g → ok' g) → (∀ j, RelB w ok' (fun j => (ρ[j]?).bind ι) j (getB (putB psh.bl y) j)) ∧ ∀ t, RelV w ok' (fun j => (ρ[j]?).bind ι) (getT (putS psh.sl x) t) (V t) := hrel
        let Cp := Capt ι C cs
        -- what the kept slots point to is captured
        have hCp : ∀ t ∈ rangeN 1 m, ∀ b o, V t = .pointer (some ⟨b, o, none⟩) → Cp b := by
          intro t ht b o hvt
          have ht' := mem_rangeN.1 ht
          have hts : t ∈ slotsOf psh.sl := slotsFrom_mem hT.slots ht'.1 (by omega)
          obtain ⟨j', o', i, q1, q2, q3⟩ := takeS_pt e1 hT.ptp t hts
          have hl : j' < psh.bl.length := by rw [hbl]; exact (List.getElem?_eq_some_iff.1 q3).1
          obtain ⟨⟨ee, cs', q4⟩, _⟩ := rooted_iff hT.rootp j' hl
          obtain ⟨_, vs, q5⟩ := takeB_box e2 j' i ee cs' q4 q3
          have q6 := hTV t
          rw [q2, hvt] at q6
          simp only [RelV] at q6
          obtain ⟨g, g1, g2⟩ := q6
          injection g2 with g2
          injection g2 with g2
          injection g2 with g2 _
          refine ⟨i, getT_numT_mem q2, ?_⟩
          unfold bk
          rw [q5, g1, g2]
        -- the frame
        let ι' : Nat → Option Value := fun j => (ρ[j]?).bind ι
        let C' := getB (putB psh.bl y)
        have hown : ∀ b, owned ι' C' b → owned ι C b := by
          rintro b ⟨j', hj⟩
          obtain ⟨i, _, hi⟩ := hbk j' b hj
          exact ⟨i, hi⟩
        let X0 : Nat → Prop := fun b => b < w.heap.size ∧ ¬ okb X w ι C b ∧ ¬ owned ι' C' b
        have hokc : ∀ b, okb X w ι C b → okb X0 w ι' C' b := fun b hb => ⟨hb.1, fun ho => hb.2.1 (hown b ho), fun hx => hx.2.1 hb⟩
        obtain ⟨hB, hTt⟩ := hrel (okb X0 w ι' C') hokc
        have Hc : HRel X0 (fun b => b < w.heap.size ∧ ¬ owned ι' C' b) w ι' C' w := ⟨hB, fun j j' b h1 h2 => by
            obtain ⟨i, hi, hb⟩ := hbk j b h1
            obtain ⟨i', hi', hb'⟩ := hbk j' b h2
            have e := h.inj i i' b hb hb'
            subst e
            have hlt := (List.getElem?_eq_some_iff.1 hi).1
            exact (List.getElem?_inj hlt hnd).1 (hi.trans hi'.symm), Kept.refl _ _, fun b hb hk => hk.2 hb, fun b hb => hb.1, fun b hb hx => hx.2.2 hb, fun b hb => hb.1, h.gl.mono fun g hg => ⟨hokc g hg, rfl⟩⟩
        let args : Array Value := #[yv] ++ us.toArray
        let a0 : Act := { tmps := args ++ Array.replicate (fn.ntmps - args.size) undef, defers := [] }
        have hasz : args.size = m + 1 := by simp only [args, Array.size_append, List.size_toArray, hul]; simp; omega
        have ha0 : ∀ t, a0.tmps.getD t undef = V t := by
          intro t
          have hargs : args = (yv :: us).toArray := by simp [args]
          show (args ++ Array.replicate (fn.ntmps - args.size) undef).getD t undef = (yv :: us).getD t undef
          rw [hargs, Array.getD_eq_getD_getElem?, List.getD_eq_getElem?_getD]
          rcases Nat.lt_or_ge t (yv :: us).length with ht | ht
          · rw [Array.getElem?_append_left (by simpa using ht)]
            simp
          · rw [Array.getElem?_append_right (by simpa using ht), List.getElem?_eq_none ht, Array.getElem?_replicate]
            split <;> rfl
        let n : Slots := roundSlots (iterSlots W.heap.size fn.ntmps) (rangeN 0 (m + 1)) a0
        have hsz0 : a0.tmps.size = fn.ntmps := by
          simp only [a0, Array.size_append, Array.size_replicate]
          omega
        have hn0 : ∀ tm, n.G tm → tm.getD 0 undef = .func (.yield l) #[] #[] := fun tm hg => by
          rw [hg.2 0 (mem_rangeN.2 ⟨Nat.le_refl _, by omega⟩), ha0]
          rfl
        have hpin : ∀ tm, n.G tm → ∀ t ∈ rangeN 1 m, tm.getD t undef = V t := fun tm hg t ht => by
          have := mem_rangeN.1 ht
          rw [hg.2 t (mem_rangeN.2 ⟨by omega, by omega⟩), ha0]
        have hcapt : ∀ {X' keep' w0' w' ι'' sh} {z : Shape.den sh} {a'}, SRel X' keep' w0' n ι'' (sh.put z) a' w' → rooted (rangeN 1 m) sh.sl 0 sh.bl = true → nodupS sh.sl = true → ∀ b, owned ι'' (getB (sh.put z).bl) b → Cp b := by
          intro X' keep' w0' w' ι'' sh z a' S hr hn b hb
          obtain ⟨t, ht, o, hv⟩ := rooted_owned S hr hn hb
          exact hCp t ht b o ((hpin _ S.f.size t ht).symm.trans hv)
        have hCpw : ∀ b, Cp b → b < w.heap.size := by rintro b ⟨k, _, hb⟩; exact h.lt ⟨k, hb⟩
        have hCpO : ∀ b, Cp b → ¬ O b := hcO
        -- the state at the start
        have hownCp : ∀ b, owned ι' C' b → Cp b := by
          rintro b ⟨j', hj⟩
          have hl : j' < psh.bl.length := by
            rcases Nat.lt_or_ge j' psh.bl.length with q | q
            · exact q
            · have : C' j' = .dead := getB_out _ _ (by rw [putB_length]; exact q)
              rw [bk_dead this] at hj
              cases hj
          obtain ⟨i, hi, hb⟩ := hbk j' b hj
          obtain ⟨⟨ee, cs', q4⟩, q5⟩ := rooted_iff hT.rootp j' hl
          rw [Nat.zero_add] at q5
          obtain ⟨t, o, q6, q7⟩ := rootIn_iff q5
          have ht' := mem_rangeN.1 q7
          have hts : t ∈ slotsOf psh.sl := slotsFrom_mem hT.slots ht'.1 (by omega)
          have q8 : getT (putS psh.sl x) t = .pt j' o := by
            obtain ⟨yy, hyy⟩ := getT_putS psh.sl x t _ hT.ndp q6
            exact hyy
          have q9 := (hrel (okb X0 w ι' C') hokc).2 t
          rw [q8] at q9
          simp only [RelV] at q9
          obtain ⟨g, g1, g2⟩ := q9
          have g3 : (ρ[j']?).bind ι = some (.pointer (some ⟨g, 0, none⟩)) := g1
          rw [hi] at g3
          have g3 : ι i = some (.pointer (some ⟨g, 0, none⟩)) := g3
          obtain ⟨_, vs, q10⟩ := takeB_box e2 j' i ee cs' q4 hi
          unfold bk at hb
          rw [q10, g3] at hb
          injection hb with hb
          have hb : g = b := hb
          subst hb
          exact hCp t q7 g o g2
        let keepV : World → Nat → Prop := fun V b => b < V.heap.size ∧ ¬ Cp b
        obtain ⟨HW, HWv⟩ := Hc.jump hwW (fun b hb _ => hsame b hb) (keepV W) (fun b hb => ⟨hb.1, fun ho => hb.2 (hownCp b ho)⟩)
        obtain ⟨XW, hXW⟩ : ∃ XW : Nat → Prop, XW = fun b => b < W.heap.size ∧ ¬ okb X0 w ι' C' b ∧ ¬ owned ι' C' b := ⟨_, rfl⟩
        rw [← hXW] at HW HWv
        have hjl : (psh.put (x, y)).bl.length = ρ.length := by rw [← hbl]; exact putB_length _ _
        have SW : SRel XW (keepV W) W n ι' (psh.put (x, y)) a0 W := by
          refine ⟨⟨HW, fun t => ?_, ⟨hsz0, fun _ _ => rfl⟩, Nat.le_refl _, fun _ => rfl, trivial⟩, fun j' hj => ?_⟩
          · rw [ha0 t]; exact HWv _ _ (hTt t)
          · show (ρ[j']?).bind ι = none
            rw [List.getElem?_eq_none (by omega)]
            rfl
        have hXWO : ∀ b, b < W.heap.size → ¬ XW b → ¬ O b ∧ b ≠ l := by
          intro b hb hx
          have hcase : okb X0 w ι' C' b ∨ owned ι' C' b := Classical.byContradiction fun q => hx (by rw [hXW]; exact ⟨hb, fun q1 => q (.inl q1), fun q1 => q (.inr q1)⟩)
          rcases hcase with q | q
          · have hbw := q.1
            have hq2 : okb X w ι C b ∨ owned ι' C' b := Classical.byContradiction fun q1 => q.2.2 ⟨hbw, fun q2 => q1 (.inl q2), fun q2 => q1 (.inr q2)⟩
            refine ⟨?_, by omega⟩
            rcases hq2 with q1 | q1
            · exact hokO b q1
            · exact hcO b (hownCp b q1)
          · have := hownCp b q
            exact ⟨hcO b this, by have := hCpw b this; omega⟩
        let R : Ending → World → Prop := fun e W' => (∃ v, e = .returned v) ∧ ((∃ O', J xs O' W') ∨ Jx W')
        have fin : ∀ {X' keep' w0' w' ι'' s' a'}, SRel X' keep' w0' n ι'' s' a' w' → ((∃ O', J xs O' w') ∨ Jx w') → a'.defers = [] ∧ ∃ v, (results fn a'.tmps).run P w' = .ok v w' ∧ R (.returned v) w' := by
          intro X' keep' w0' w' ι'' s' a' S hR
          obtain ⟨_, v, r1, _⟩ := results_sound (fn := fn) (vs := []) hP S (by rw [hT.res]; rfl)
          exact ⟨S.f.defers.2.1 rfl, v, r1, ⟨v, rfl⟩, hR⟩
        -- ahead of a round
        let step := stepY TT Δ (roundOk (upTo fn.ntmps) (rangeN 0 (m + 1))) Λ rid j mid head elOf id c
        let Inv : Nat → Act → World → Prop := fun k a w => ∃ pre rest x ι X V O, SRel X (keepV V) V n ι (head.put x) a w ∧ xs = pre ++ rest ∧ colY step k x = some rest ∧ J pre O V ∧ W.heap.size ≤ V.heap.size ∧ l < V.heap.size ∧ (∀ b, b < V.heap.size → ¬ X b → ¬ O b ∧ b ≠ l) ∧ ∀ b, Cp b → ¬ O b
        have turned : ∀ {X' keep' w0' w' ι'' s' a' V}, SRel X' keep' w0' n ι'' s' a' w' → Later (keepV V) V keep' w0' → Turned Cp V w' := by
          intro X' keep' w0' w' ι'' s' a' V S hlat
          refine ⟨S.f.h.fr.os.trans hlat.kept.os, S.f.h.fr.tape.trans hlat.kept.tape, S.f.h.fr.output.trans hlat.kept.output, Nat.le_trans hlat.kept.size S.f.h.fr.size, fun b hb hc => ?_⟩
          exact (S.f.h.fr.block b (hlat.mono b ⟨hb, hc⟩) (Nat.lt_of_lt_of_le hb hlat.kept.size)).trans (hlat.kept.block b ⟨hb, hc⟩ hb)
        have back : ∀ {X' keep' w0' w' ι'' s' a' V}, SRel X' keep' w0' n ι'' s' a' w' → Later (keepV V) V keep' w0' → (∀ b, X' b → b < V.heap.size) → W.heap.size ≤ V.heap.size → SRel X' (keepV V) V n ι'' s' a' w' := by
          intro X' keep' w0' w' ι'' s' a' V S hlat hXl hWV
          have hd := S.f.defers.2.1 rfl
          exact ⟨⟨S.f.h.weaken hlat.mono hlat.kept (fun b hb => hb.1) hXl, S.f.tm, S.f.size, hWV, fun _ => hd, by rw [hd]; trivial⟩, S.dom⟩
        obtain ⟨hLc, hLp⟩ := hL n rfl
        have loop : ∀ k a w', Inv k a w' → (Code.loop c).wpIn (WF none) 2 P (Exit.inBlock id (bodyPost P fn R)) a w' := by
          intro k a w' hI
          refine wp_loop_ix Inv ?_ ?_ hI
          · rintro a w ⟨pre, rest, x, ι, X, V, O, _, _, hc, _⟩
            cases hc
          · rintro k a w ⟨pre, rest, x, ι1, X1, V1, O1, S1, hxs, hc, hJ1, hWV, hlV, hX1, hC1⟩
            simp only [colY] at hc
            have hXl : ∀ b, X1 b → b < V1.heap.size := fun b hb => S1.f.h.xl b hb
            have hJl1 : ∀ b, O1 b → b < V1.heap.size := hJl _ _ _ hJ1
            cases hsx : step x with
            | none => rw [hsx] at hc; cases hc
            | some r =>
              rw [hsx] at hc
              have hst' := hsx
              refine evY_sound (n := n) (rid := rid) (j := j) (mid := mid) (l := l) hm hP hΔ hn0 c hLc _ _ _ _ _ a w ι1 (keepV V1) V1 S1 hst' (fun e s' a' w' ι2 k2 v2 hlat hk S2 => ?_) fun args vals res z a' w' ι2 k2 v2 hlat S2 hargs hY => ?_
              · -- no element is handed over
                have ht := turned S2 hlat
                cases e with
                | nm =>
                  simp only at hk
                  split at hk
                  · rename_i y hy
                    injection hk with hk
                    subst hk
                    obtain ⟨ι3, S3⟩ := Shape.take_sound S2 hy
                    exact ⟨pre, rest, y, ι3, X1, V1, O1, back S3 hlat hXl hWV, hxs, hc, hJ1, hWV, hlV, hX1, hC1⟩
                  · cases hk
                | ex i =>
                  simp only at hk
                  split at hk
                  · rename_i hi
                    injection hk with hk
                    subst hk
                    injection hc with hc
                    subst hc
                    rw [List.append_nil] at hxs
                    show (Exit.inBlock id (bodyPost P fn R)) (.exit i) a' w'
                    simp only [Exit.inBlock]
                    rw [if_pos (Nat.eq_of_beq_eq_true hi)]
                    exact fin S2 (.inl ⟨O1, by rw [hxs]; exact hJm _ _ _ _ hJ1 ht⟩)
                  · cases hk
                | rt =>
                  simp only at hk
                  injection hk with hk
                  subst hk
                  injection hc with hc
                  subst hc
                  rw [List.append_nil] at hxs
                  exact fin S2 (.inl ⟨O1, by rw [hxs]; exact hJm _ _ _ _ hJ1 ht⟩)
              · -- an element is handed over
                split at hY
                · rename_i e he
                  split at hY
                  · rename_i y hrt hrf
                    injection hY with hY
                    subst hY
                    simp only at hc
                    split at hc
                    · rename_i rest' hrest
                      injection hc with hc
                      subst hc
                      have ht := turned S2 hlat
                      have hJ2 := hJm _ _ _ _ hJ1 ht
                      obtain ⟨ok3, ι3, hr3⟩ := hargs
                      rw [hel args e w' ok3 ι3 vals he hr3]
                      obtain ⟨fy, tmps, assign, body, q1, q2⟩ := hyield pre e ⟨rest', by rw [hxs]; simp⟩ O1 w' hJ2
                      refine ⟨fy, tmps, assign, body, q1, q2.mono ?_⟩
                      have hcm : ∀ b, owned ι2 (getB (mid.put z).bl) b → Cp b := hcapt S2 hT.rootm hT.ndm
                      have hV1w : V1.heap.size ≤ w'.heap.size := ht.size
                      have hokm : ∀ b, b < w'.heap.size → okb X1 w' ι2 (getB (mid.put z).bl) b ∨ owned ι2 (getB (mid.put z).bl) b → ¬ O1 b ∧ b ≠ l := by
                        intro b hb hor
                        rcases hor with q | q
                        · rcases Nat.lt_or_ge b V1.heap.size with q3 | q3
                          · exact hX1 b q3 q.2.2
                          · exact ⟨fun ho => absurd (hJl1 b ho) (by omega), by omega⟩
                        · have := hcm b q
                          exact ⟨hC1 b this, by have := hCpw b this; omega⟩
                      have hW2 : W.heap.size ≤ w'.heap.size := Nat.le_trans hWV hV1w
                      have hd2 := S2.f.defers.2.1 rfl
                      -- behind it
                      have after : ∀ W'', w'.heap.size ≤ W''.heap.size → (∀ b, b < w'.heap.size → okb X1 w' ι2 (getB (mid.put z).bl) b ∨ owned ι2 (getB (mid.put z).bl) b → W''.heap[b]? = w'.heap[b]?) →
                          ∃ X2 : Nat → Prop, SRel X2 (keepV W'') W'' n ι2 (mid.put z) a' W'' ∧ ∀ b, b < W''.heap.size → ¬ X2 b → okb X1 w' ι2 (getB (mid.put z).bl) b ∨ owned ι2 (getB (mid.put z).bl) b := by
                        intro W'' hs hsm
                        obtain ⟨H3, H3v⟩ := S2.f.h.jump hs hsm (keepV W'') (fun b hb => ⟨hb.1, fun ho => hb.2 (hcm b ho)⟩)
                        refine ⟨_, ⟨⟨H3, fun t => H3v _ _ (S2.f.tm t), S2.f.size, Nat.le_trans hW2 hs, fun _ => hd2, by rw [hd2]; trivial⟩, S2.dom⟩, fun b hb hx => ?_⟩
                        exact Classical.byContradiction fun q => hx ⟨hb, fun q1 => q (.inl q1), fun q1 => q (.inr q1)⟩
                      rintro e' W'' (⟨rfl, O2, hJ3, hys⟩ | ⟨rfl, hJx3, hys⟩)
                      · obtain ⟨X2, S3, hX2⟩ := after W'' hys.size (fun b hb hor => by
                          obtain ⟨q3, q4⟩ := hokm b hb hor
                          exact hys.block b hb q3 q4)
                        refine ⟨true, rfl, X2, keepV W'', W'', .go y, hrt, S3, fun e3 s3 a3 w3 ι3 k3 v3 hl3 hk3 S4 => ?_⟩
                        cases e3 with
                        | nm =>
                          simp only at hk3
                          split at hk3
                          · rename_i y' hy'
                            injection hk3 with hk3
                            injection hk3 with hk3
                            subst hk3
                            obtain ⟨ι4, S5⟩ := Shape.take_sound S4 hy'
                            have hlW2 : l < W''.heap.size := Nat.lt_of_lt_of_le (Nat.lt_of_lt_of_le hlV hV1w) hys.size
                            refine ⟨pre ++ [e], rest', y', ι4, X2, W'', O2, back S5 hl3 (fun b hb => S3.f.h.xl b hb) (Nat.le_trans hW2 hys.size), by rw [hxs]; simp, hrest, hJ3, Nat.le_trans hW2 hys.size, hlW2, fun b hb hx => ?_, fun b hb ho => ?_⟩
                            · have q3 := hX2 b hb hx
                              have hbw : b < w'.heap.size := by
                                rcases q3 with q3 | q3
                                · exact q3.1
                                · exact Nat.lt_of_lt_of_le (hCpw b (hcm b q3)) (Nat.le_trans hwW hW2)
                              obtain ⟨q4, q5⟩ := hokm b hbw q3
                              exact ⟨fun ho => q4 (hys.own b hbw ho), q5⟩
                            · exact hC1 b hb (hys.own b (Nat.lt_of_lt_of_le (hCpw b hb) (Nat.le_trans hwW hW2)) ho)
                          · cases hk3
                        | ex i =>
                          simp only at hk3
                          split at hk3
                          · cases hk3
                          · cases hk3
                        | rt => cases hk3
                      · obtain ⟨X2, S3, hX2⟩ := after W'' hys.size (fun b hb hor => by
                          obtain ⟨q3, q4⟩ := hokm b hb hor
                          exact hys.block b hb q3 q4)
                        refine ⟨false, rfl, X2, keepV W'', W'', .done, hrf, S3, fun e3 s3 a3 w3 ι3 k3 v3 hl3 hk3 S4 => ?_⟩
                        have hJx4 : Jx w3 := hJxm _ _ hJx3 (turned S4 hl3)
                        cases e3 with
                        | nm =>
                          simp only at hk3
                          split at hk3
                          · cases hk3
                          · cases hk3
                        | ex i =>
                          simp only at hk3
                          split at hk3
                          · rename_i hi
                            show (Exit.inBlock id (bodyPost P fn R)) (.exit i) a3 w3
                            simp only [Exit.inBlock]
                            rw [if_pos (Nat.eq_of_beq_eq_true hi)]
                            exact fin S4 (.inr hJx4)
                          · cases hk3
                        | rt => exact fin S4 (.inr hJx4)
                    · cases hc
                  · cases hY
                · cases hY
        have start : ∀ {X' keep' w0' w' ι'' a'}, SRel X' keep' w0' n ι'' (head.put x0) a' w' → Later (keepV W) W keep' w0' → (∀ b, X' b → XW b) → (∀ b, XW b → X' b) → (Code.loop c).wpIn (WF none) 2 P (Exit.inBlock id (bodyPost P fn R)) a' w' := by
          intro X' keep' w0' w' ι'' a' S hlat hX1 hX2
          refine loop k0 a' w' ⟨[], xs, x0, ι'', X', W, O, back S hlat (fun b hb => by have := hX1 b hb; rw [hXW] at this; exact this.1) (Nat.le_refl _), rfl, hcol, hJ, Nat.le_refl _, hlW, fun b hb hx => hXWO b hb (fun q => hx (hX2 b q)), hCpO⟩
        refine callsIn_of_wp (F := WF none) (n := 2) hT.at_ hT.body trivial ?_ rfl
        cases hpre : pre with
        | none =>
          rw [hpre] at hst
          simp only [startY] at hst
          obtain ⟨ι3, S3⟩ := Shape.take_sound SW hst
          exact wpIn_block (start S3 (Later.refl _ _) (fun _ q => q) (fun _ q => q))
        | some p =>
          rw [hpre] at hst
          simp only [startY] at hst
          refine wpIn_seq (evC_sound (n := n) hm hP hΔ p (hLp p hpre) _ _ _ a0 W ι' (keepV W) W SW hst fun e s' a' w1 ι1 k1 v1 hlat hk S1 => ?_)
          cases e with
          | nm =>
            obtain ⟨ι3, S3⟩ := Shape.take_sound S1 hk
            exact wpIn_block (start S3 hlat (fun _ q => q) (fun _ q => q))
          | ex i => cases hk
          | rt => cases hk
      · cases hcap
    · cases hcap
  · cases hcap
end
end Go.Proofs.Rf
/- Rf, part G: putting together: iterators by whatever stands for their elements. -/
namespace Go.Proofs.Rf
open Go Go.RowKit

/-- What stands for the elements comes to what some number of rounds comes to. -/
def Coll {A B El : Type} (start : A → Option B) (f : B → Option (RY B El)) (D : A → Option (List El)) : Prop := ∀ x xs, D x = some xs → ∃ x0 k, start x = some x0 ∧ colY f k x0 = some xs

/-- So many rounds at most. -/
def colK {A B El : Type} (start : A → Option B) (f : B → Option (RY B El)) (k : Nat) (x : A) : Option (List El) := (start x).bind (colY f k)

theorem coll_colK {A B El : Type} (start : A → Option B) (f : B → Option (RY B El)) (k : Nat) : Coll start f (colK start f k) := by
  intro x xs h
  obtain ⟨x0, h1, h2⟩ := bind_some' h
  exact ⟨x0, k, h1, h2⟩

def preOf (f : Func) : Code := match bodyOf f with
  | .seq p _ => p
  | _ => .skip

theorem iterOK_at {P : Program} {TT : Tab} {El : Type} (hm : P.follows .mixedOrders = true) (hP : TabOK P TT) {Δ : List (Nat × CallO)} (hΔ : AllCalls P Δ) {Λ : List (Nat × LoopO)} {f : Nat} {fn : Func} {m : Nat} {pre : Option Code} {id : Nat} {c : Code} {psh head mid : Shape} {encs : El → List Value} {elOf : List AV → Option El} {rid j : Nat}
    (hT : IterText P f fn m pre id c psh head mid) (hel : ∀ args e w ok ι vals, elOf args = some e → RelL w ok ι args vals → vals = encs e)
    (hL : LoopsAt P (roundOk (upTo fn.ntmps) (rangeN 0 (m + 1))) true Λ c) (hLp : ∀ p, pre = some p → LoopsAt P (roundOk (upTo fn.ntmps) (rangeN 0 (m + 1))) true Λ p) {D : psh.den → Option (List El)}
    (hD : Coll (startY TT (lookL Δ) (roundOk (upTo fn.ntmps) (rangeN 0 (m + 1))) (lookL Λ) pre head psh) (stepY TT (lookL Δ) (roundOk (upTo fn.ntmps) (rangeN 0 (m + 1))) (lookL Λ) rid j mid head elOf id c) D) : IterOK P f encs (capG psh D) :=
  iterOK_of hm hP (callsOK_of hΔ) hT hel (fun n hn => ⟨hL n hn none (.inl rfl), fun p hp => hLp p hp n hn none (.inl rfl)⟩) hD
end Go.Proofs.Rf
/- Rf, part J: contracts of functions that call themselves; contracts and loops of more than one shape. -/
namespace Go.Proofs.Rf
open Go Go.RowKit

/-! ### Functions that call themselves -/
/-- So many calls deep at most. -/
def iterF {A B : Type} (Φ : (A → Option B) → A → Option B) : Nat → A → Option B
  | 0 => fun _ => none
  | n + 1 => Φ (iterF Φ n)

/-- There is such a function. -/
def HasFn (P : Program) (f : Nat) : Prop := ∃ fn, P.funcs[f]? = some fn ∧ (fn.name == "runtime.NumGoroutine") = false ∧ fn.body.isNone = false

theorem callOK_none {P : Program} {f : Nat} (hf : HasFn P f) (ps : List SV) (rsh : Shape) : CallOK P f (mkCall ps rsh fun _ => none) := by
  refine ⟨hf, ?_, ?_⟩
  · intro X keep w0 w ι C nb args vs e h hv hco hn
    unfold mkCall at hco
    split at hco
    · cases hco
    · cases hco
  · intro args C nb R K
    unfold mkCall
    split <;> rfl

theorem callOK_iter {P : Program} {f : Nat} (hf : HasFn P f) {ps : List SV} {rsh : Shape} {Φ : (SV.denL ps → Option rsh.den) → SV.denL ps → Option rsh.den} (h : ∀ F, CallOK P f (mkCall ps rsh F) → CallOK P f (mkCall ps rsh (Φ F))) : ∀ n, CallOK P f (mkCall ps rsh (iterF Φ n))
  | 0 => callOK_none hf ps rsh
  | n + 1 => h _ (callOK_iter hf h n)

end Go.Proofs.Rf
/- Rf, part K: contracts that are given: a function that makes a string of data, and keeps what there was. -/
namespace Go.Proofs.Rf
open Go Go.RowKit

abbrev rsStr : Shape := ⟨[(0, .d false .str)], []⟩

theorem mkCall_given {P : Program} {f : Nat} {fn : Func} (hf : P.funcs[f]? = some fn) (hname : (fn.name == "runtime.NumGoroutine") = false) (hbody : fn.body.isNone = false) {ps : List SV} {F : SV.denL ps → Option rsStr.den}
    (hrun : ∀ (w : World) (ok : Nat → Prop) (x : SV.denL ps) (vs : List Value) (s : List UInt8), (∀ b, ok b → b < w.heap.size) → GlOK w ok → RelL w ok (fun _ => none) (SV.putL ps x) vs → F x = some ((s, ()), ()) →
      Calls P f vs.toArray w fun e w' => e = .returned (.string ⟨s.toArray⟩) ∧ Below w.heap.size w w') : CallOK P f (mkCall ps rsStr F) := by
  refine ⟨⟨fn, hf, hname, hbody⟩, ?_, ?_⟩
  · intro X keep w0 w ι C nb args vs e h hv hco hn
    unfold mkCall at hco
    split at hco
    · rename_i x fz hx
      obtain ⟨y, hy, hco⟩ := bind_some' hco
      injection hco with hco
      subst hco
      obtain ⟨⟨H1, hFr, E1⟩, hrel⟩ := SV.takeL_sound ps C args vs h (FrozenOf.refl C) hv x fz hx
      have hargs : RelL w (okb X w ι (updC C fz)) (fun _ => none) (SV.putL ps x) vs := hrel _ _ (fun b hb => hb) (fun b i hb => by simp at hb)
      obtain ⟨⟨s, ⟨⟩⟩, ⟨⟩⟩ := y
      refine (hrun w _ x vs s (fun b hb => hb.1) H1.gl hargs hy).mono ?_
      rintro en w' ⟨rfl, hb⟩
      refine ⟨_, rfl, ?_⟩
      show Out X keep w0 ι C w nb ⟨.d .str s, [], []⟩ _ w'
      obtain ⟨g1, g2⟩ := h.step (C' := C) (ι' := ι) (w' := w') (fun _ => False) hb.os hb.tape hb.output hb.size (fun _ _ => rfl) (fun _ _ hk => hk) (fun _ _ => rfl) (fun _ _ hk => hk.elim) (fun _ _ _ hk => hk.elim) (fun b hb' _ => hb.block b hb') (fun _ _ hk => hk.elim)
      exact ⟨ι, g1, g2, rel_str.2 rfl, fun _ _ => rfl⟩
    · cases hco
  · intro args C nb R K
    unfold mkCall
    split
    · rename_i x fz hx
      cases F x <;> rfl
    · rfl
abbrev rsInt (k : IntKind) : Shape := ⟨[(0, .d false (.int k))], []⟩

theorem mkCall_givenI {P : Program} {f : Nat} {fn : Func} (hf : P.funcs[f]? = some fn) (hname : (fn.name == "runtime.NumGoroutine") = false) (hbody : fn.body.isNone = false) {k : IntKind} {ps : List SV} {F : SV.denL ps → Option (rsInt k).den}
    (hrun : ∀ (w : World) (ok : Nat → Prop) (x : SV.denL ps) (vs : List Value) (s : Int), (∀ b, ok b → b < w.heap.size) → GlOK w ok → RelL w ok (fun _ => none) (SV.putL ps x) vs → F x = some ((s, ()), ()) →
      Calls P f vs.toArray w fun e w' => e = .returned (.int k s) ∧ Below w.heap.size w w') : CallOK P f (mkCall ps (rsInt k) F) := by
  refine ⟨⟨fn, hf, hname, hbody⟩, ?_, ?_⟩
  · intro X keep w0 w ι C nb args vs e h hv hco hn
    unfold mkCall at hco
    split at hco
    · rename_i x fz hx
      obtain ⟨y, hy, hco⟩ := bind_some' hco
      injection hco with hco
      subst hco
      obtain ⟨⟨H1, hFr, E1⟩, hrel⟩ := SV.takeL_sound ps C args vs h (FrozenOf.refl C) hv x fz hx
      have hargs : RelL w (okb X w ι (updC C fz)) (fun _ => none) (SV.putL ps x) vs := hrel _ _ (fun b hb => hb) (fun b i hb => by simp at hb)
      obtain ⟨⟨s, ⟨⟩⟩, ⟨⟩⟩ := y
      refine (hrun w _ x vs s (fun b hb => hb.1) H1.gl hargs hy).mono ?_
      rintro en w' ⟨rfl, hb⟩
      refine ⟨_, rfl, ?_⟩
      show Out X keep w0 ι C w nb ⟨.d (.int k) s, [], []⟩ _ w'
      obtain ⟨g1, g2⟩ := h.step (C' := C) (ι' := ι) (w' := w') (fun _ => False) hb.os hb.tape hb.output hb.size (fun _ _ => rfl) (fun _ _ hk => hk) (fun _ _ => rfl) (fun _ _ hk => hk.elim) (fun _ _ _ hk => hk.elim) (fun b hb' _ => hb.block b hb') (fun _ _ hk => hk.elim)
      exact ⟨ι, g1, g2, rel_int.2 rfl, fun _ _ => rfl⟩
    · cases hco
  · intro args C nb R K
    unfold mkCall
    split
    · rename_i x fz hx
      cases F x <;> rfl
    · rfl
end Go.Proofs.Rf
/-
  DERIVED: THE SHELF's CONTRACTS AT THIS DUMP, IN PLAIN WORDS (tools/lay-plain.mjs out of 'TryzShelf.lean', which tools/lay-shelf.mjs wrote): THE SAME DECLARATIONS UNDER THE SAME NAMES: 'import', 'namespace', 'open', 'def', 'theorem' AND NOTHING ELSE: no command of the shelf's: FOR A HAND-IN. Each laying: the table of numbers ('.._ren') and one theorem, a field a fact of the dump's own or the kernel's comparison; each contract: ONE APPLICATION.
-/
namespace Go.Proofs
open Go.Shelf
def Tryz.lays156_ren : Go.Shelf.Ren := ⟨fun | 156 => 108 | 165 => 132 | 166 => 133 | 169 => 135 | 240 => 157 | 241 => 158 | 276 => 167 | 277 => 168 | n => n, fun | 31 => 66 | 9 => 9 | 3 => 3 | 4 => 4 | 0 => 0 | 20 => 20 | 72 => 181 | 76 => 136 | 70 => 179 | 37 => 142 | 75 => 135 | 127 => 210 | 164 => 221 | 5 => 5 | 80 => 184 | n => n, fun | n => n⟩
theorem Tryz.lays156 : Go.Proofs.Lays.n156 Tryz.prog Tryz.lays156_ren := {
  mixed := by kernel_rfl
  f156 := Tryz.func108.trans (congrArg some (by kernel_rfl))
  f165 := Tryz.func132.trans (congrArg some (by kernel_rfl))
  f166 := Tryz.func133.trans (congrArg some (by kernel_rfl))
  f169 := Tryz.func135.trans (congrArg some (by kernel_rfl))
  f240 := Tryz.func157.trans (congrArg some (by kernel_rfl))
  f241 := Tryz.func158.trans (congrArg some (by kernel_rfl))
  f276 := Tryz.func167.trans (congrArg some (by kernel_rfl))
  f277 := Tryz.func168.trans (congrArg some (by kernel_rfl))
  t0 := Tryz.underlying0
  a0 := Tryz.isAgg0
  z0 := Tryz.sizeOf0
  v0 := Tryz.zeroValue0
  t3 := Tryz.underlying3
  a3 := Tryz.isAgg3
  z3 := Tryz.sizeOf3
  v3 := Tryz.zeroValue3
  t4 := Tryz.underlying4
  a4 := Tryz.isAgg4
  z4 := Tryz.sizeOf4
  v4 := Tryz.zeroValue4
  t9 := Tryz.underlying9
  a9 := Tryz.isAgg9
  z9 := Tryz.sizeOf9
  v9 := Tryz.zeroValue9
  t20 := Tryz.underlying20
  a20 := Tryz.isAgg20
  z20 := Tryz.sizeOf20
  v20 := Tryz.zeroValue20
  t31 := Tryz.underlying66
  a31 := Tryz.isAgg66
  z31 := Tryz.sizeOf66
  v31 := Tryz.zeroValue66
  t37 := Tryz.underlying142
  a37 := Tryz.isAgg142
  z37 := Tryz.sizeOf142
  v37 := Tryz.zeroValue142
  t70 := Tryz.underlying179
  a70 := Tryz.isAgg179
  z70 := Tryz.sizeOf179
  v70 := Tryz.zeroValue179
  t72 := Tryz.underlying181
  a72 := Tryz.isAgg181
  z72 := Tryz.sizeOf181
  v72 := Tryz.zeroValue181
  t75 := Tryz.underlying135
  a75 := Tryz.isAgg135
  z75 := Tryz.sizeOf135
  v75 := Tryz.zeroValue135
  t76 := Tryz.underlying136
  a76 := Tryz.isAgg136
  z76 := Tryz.sizeOf136
  v76 := Tryz.zeroValue136
  t127 := Tryz.underlying210
  a127 := Tryz.isAgg210
  z127 := Tryz.sizeOf210
  v127 := Tryz.zeroValue210
  t164 := Tryz.underlying221
  a164 := Tryz.isAgg221
  z164 := Tryz.sizeOf221
  v164 := Tryz.zeroValue221 }
theorem Tryz.Builder_Extra_156 : Builder.Extra Tryz.prog Tryz.lays156_ren := {
  sizeBuilder := by kernel_rfl
  liesBuilder := by kernel_rfl
  t5 := Tryz.underlying5
  a5 := Tryz.isAgg5
  z5 := Tryz.sizeOf5
  v5 := Tryz.zeroValue5
  infoByte := by kernel_rfl
  cellsByte := by kernel_rfl
  sizeByte := by kernel_rfl
  neB5 := by decide }
open Go.RowKit in
/-- No element: the empty string; the world is as it was. (Whatever the slice's address and capacity: a nil slice too.) (LAID: no walk: one application.) -/
theorem Tryz.strings_Join_none (a : Option Addr) (c : Nat) (sep : ByteArray) (w : World) :
    Calls Tryz.prog 108 #[.slice a 0 c, .string sep] w fun e w' => e = .returned (.string ⟨#[]⟩) ∧ w' = w := Any.strings_Join_none Tryz.lays156 Tryz.Builder_Extra_156 a c sep w
open Go.RowKit in
/-- strings.Join: "Join concatenates the elements of its first argument to create a single string. The separator string sep is placed between elements in the resulting string.": HOWEVER MANY ELEMENTS. Below the heap's end the world is as it was. (LAID: no walk: one application.) -/
theorem Tryz.strings_Join (bk o c : Nat) (xs : List ByteArray) (sep : ByteArray) (w : World) (hcells : ∀ (j : Nat) x, xs[j]? = some x → w.cell? ⟨bk, o + j, none⟩ = some (.string x)) (hbk : bk < w.heap.size) (hN : xs.length ≤ 140737488355328) (hcap : xs.length ≤ c) (hlen : (Lib.join (xs.map (·.data.toList)) sep.data.toList).length ≤ 140737488355328) :
    Calls Tryz.prog 108 #[.slice (some ⟨bk, o, none⟩) xs.length c, .string sep] w fun e w' => e = .returned (.string ⟨(Lib.join (xs.map (·.data.toList)) sep.data.toList).toArray⟩) ∧ Below w.heap.size w w' := Any.strings_Join Tryz.lays156 Tryz.Builder_Extra_156 bk o c xs sep w hcells hbk hN hcap hlen
def Tryz.laysM171_ren : Go.Shelf.Ren := ⟨fun | 171 => 104 | 243 => 130 | 246 => 155 | 283 => 126 | 284 => 127 | 285 => 128 | 286 => 129 | 129 => 151 | 317 => 150 | 318 => 152 | 319 => 153 | 320 => 154 | 337 => 165 | 338 => 166 | n => n, fun | 3 => 3 | 9 => 9 | 2 => 2 | 4 => 4 | 171 => 172 | 0 => 0 | 53 => 36 | 37 => 142 | 5 => 5 | 173 => 175 | 212 => 204 | 51 => 102 | 20 => 20 | 213 => 205 | 46 => 116 | 232 => 229 | 233 => 230 | n => n, fun | 17 => 1 | 18 => 4 | 19 => 5 | n => n⟩
theorem Tryz.laysM171 : Go.Proofs.LaysM.n171 Tryz.prog Tryz.laysM171_ren := {
  mixed := by kernel_rfl
  f129 := Tryz.func151.trans (congrArg some (by kernel_rfl))
  f171 := Tryz.func104.trans (congrArg some (by kernel_rfl))
  f243 := Tryz.func130.trans (congrArg some (by kernel_rfl))
  f246 := Tryz.func155.trans (congrArg some (by kernel_rfl))
  f283 := Tryz.func126.trans (congrArg some (by kernel_rfl))
  f284 := Tryz.func127.trans (congrArg some (by kernel_rfl))
  f285 := Tryz.func128.trans (congrArg some (by kernel_rfl))
  f286 := Tryz.func129.trans (congrArg some (by kernel_rfl))
  f317 := Tryz.func150.trans (congrArg some (by kernel_rfl))
  f318 := Tryz.func152.trans (congrArg some (by kernel_rfl))
  f319 := Tryz.func153.trans (congrArg some (by kernel_rfl))
  f320 := Tryz.func154.trans (congrArg some (by kernel_rfl))
  f337 := Tryz.func165.trans (congrArg some (by kernel_rfl))
  f338 := Tryz.func166.trans (congrArg some (by kernel_rfl))
  t0 := Tryz.underlying0
  a0 := Tryz.isAgg0
  z0 := Tryz.sizeOf0
  v0 := Tryz.zeroValue0
  t2 := Tryz.underlying2
  a2 := Tryz.isAgg2
  z2 := Tryz.sizeOf2
  v2 := Tryz.zeroValue2
  t3 := Tryz.underlying3
  a3 := Tryz.isAgg3
  z3 := Tryz.sizeOf3
  v3 := Tryz.zeroValue3
  t4 := Tryz.underlying4
  a4 := Tryz.isAgg4
  z4 := Tryz.sizeOf4
  v4 := Tryz.zeroValue4
  t5 := Tryz.underlying5
  a5 := Tryz.isAgg5
  z5 := Tryz.sizeOf5
  v5 := Tryz.zeroValue5
  t9 := Tryz.underlying9
  a9 := Tryz.isAgg9
  z9 := Tryz.sizeOf9
  v9 := Tryz.zeroValue9
  t20 := Tryz.underlying20
  a20 := Tryz.isAgg20
  z20 := Tryz.sizeOf20
  v20 := Tryz.zeroValue20
  t37 := Tryz.underlying142
  a37 := Tryz.isAgg142
  z37 := Tryz.sizeOf142
  v37 := Tryz.zeroValue142
  t46 := Tryz.underlying116
  a46 := Tryz.isAgg116
  z46 := Tryz.sizeOf116
  v46 := Tryz.zeroValue116
  t51 := Tryz.underlying102
  a51 := Tryz.isAgg102
  z51 := Tryz.sizeOf102
  v51 := Tryz.zeroValue102
  t53 := Tryz.underlying36
  a53 := Tryz.isAgg36
  z53 := Tryz.sizeOf36
  v53 := Tryz.zeroValue36
  t171 := Tryz.underlying172
  a171 := Tryz.isAgg172
  z171 := Tryz.sizeOf172
  v171 := Tryz.zeroValue172
  t173 := Tryz.underlying175
  a173 := Tryz.isAgg175
  z173 := Tryz.sizeOf175
  v173 := Tryz.zeroValue175
  t212 := Tryz.underlying204
  a212 := Tryz.isAgg204
  z212 := Tryz.sizeOf204
  v212 := Tryz.zeroValue204
  t213 := Tryz.underlying205
  a213 := Tryz.isAgg205
  z213 := Tryz.sizeOf205
  t232 := Tryz.underlying229
  a232 := Tryz.isAgg229
  z232 := Tryz.sizeOf229
  v232 := Tryz.zeroValue229
  t233 := Tryz.underlying230
  a233 := Tryz.isAgg230
  z233 := Tryz.sizeOf230
  v233 := Tryz.zeroValue230
  g17 := by kernel_rfl
  g18 := by kernel_rfl
  g19 := by kernel_rfl
  i0 := by kernel_rfl
  i2 := by kernel_rfl
  i3 := by kernel_rfl
  i4 := by kernel_rfl
  i5 := by kernel_rfl
  i9 := by kernel_rfl
  i20 := by kernel_rfl
  i37 := by kernel_rfl
  i46 := by kernel_rfl
  i51 := by kernel_rfl
  i53 := by kernel_rfl
  i171 := by kernel_rfl
  i173 := by kernel_rfl
  i212 := by kernel_rfl
  i232 := by kernel_rfl
  i233 := by kernel_rfl
  m17 := by kernel_rfl
  m18 := by kernel_rfl
  m19 := by kernel_rfl }
open Go.RowKit Go.Sort Go.Lib in
/-- strconv.Itoa: "Itoa is equivalent to FormatInt(int64(i), 10).": i's DECIMAL NUMERAL ('Lib.itoa': a '-' where i is negative, then the digits), FOR EVERY int. The world behind the call: the world before it, new blocks behind the heap (the library's 'var a [24]byte'), draws. (LAID: no walk: one application.) -/
theorem Tryz.strconv_Itoa (n : Int) (h0 : -9223372036854775808 ≤ n) (h1 : n ≤ 9223372036854775807) (w : World) (htab : Lib.TabIs Tryz.prog w "internal/strconv.uint64pow10" .u64 Lib.pow10Tab) :
    Calls Tryz.prog 104 #[.int .i64 n] w fun e w' => e = .returned (.string ⟨(Lib.itoa n).toArray⟩) ∧ ∃ k os, w' = grow (w.drewN k) os := Any.strconv_Itoa Tryz.laysM171 n h0 h1 w htab
def Tryz.laysM284_ren : Go.Shelf.Ren := ⟨fun | 284 => 127 | 129 => 151 | 317 => 150 | 318 => 152 | n => n, fun | 53 => 36 | 3 => 3 | 212 => 204 | 0 => 0 | 4 => 4 | 46 => 116 | 5 => 5 | 9 => 9 | n => n, fun | 17 => 1 | n => n⟩
theorem Tryz.laysM284 : Go.Proofs.LaysM.n284 Tryz.prog Tryz.laysM284_ren := {
  mixed := by kernel_rfl
  f129 := Tryz.func151.trans (congrArg some (by kernel_rfl))
  f284 := Tryz.func127.trans (congrArg some (by kernel_rfl))
  f317 := Tryz.func150.trans (congrArg some (by kernel_rfl))
  f318 := Tryz.func152.trans (congrArg some (by kernel_rfl))
  t0 := Tryz.underlying0
  a0 := Tryz.isAgg0
  z0 := Tryz.sizeOf0
  v0 := Tryz.zeroValue0
  t3 := Tryz.underlying3
  a3 := Tryz.isAgg3
  z3 := Tryz.sizeOf3
  v3 := Tryz.zeroValue3
  t4 := Tryz.underlying4
  a4 := Tryz.isAgg4
  z4 := Tryz.sizeOf4
  v4 := Tryz.zeroValue4
  t5 := Tryz.underlying5
  a5 := Tryz.isAgg5
  z5 := Tryz.sizeOf5
  v5 := Tryz.zeroValue5
  t9 := Tryz.underlying9
  a9 := Tryz.isAgg9
  z9 := Tryz.sizeOf9
  v9 := Tryz.zeroValue9
  t46 := Tryz.underlying116
  a46 := Tryz.isAgg116
  z46 := Tryz.sizeOf116
  v46 := Tryz.zeroValue116
  t53 := Tryz.underlying36
  a53 := Tryz.isAgg36
  z53 := Tryz.sizeOf36
  v53 := Tryz.zeroValue36
  t212 := Tryz.underlying204
  a212 := Tryz.isAgg204
  z212 := Tryz.sizeOf204
  v212 := Tryz.zeroValue204
  g17 := by kernel_rfl
  i0 := by kernel_rfl
  i3 := by kernel_rfl
  i4 := by kernel_rfl
  i5 := by kernel_rfl
  i9 := by kernel_rfl
  i46 := by kernel_rfl
  i53 := by kernel_rfl
  i212 := by kernel_rfl
  m17 := by kernel_rfl }
open Go.Lib in
/-- internal/strconv.numDigits, at a d that is not 0: THE NUMBER OF d's DECIMAL DIGITS. The world is as it was. (LAID: no walk: one application.) -/
theorem Tryz.internal_strconv_numDigits (u : Nat) (h1 : 1 ≤ u) (h2 : u < 18446744073709551616) (w : World) (htab : Lib.TabIs Tryz.prog w "internal/strconv.uint64pow10" .u64 Lib.pow10Tab) :
    Calls Tryz.prog 127 #[.int .u64 u] w fun e w' => e = .returned (.int .i64 (Lib.nDigits u)) ∧ w' = w := Any.internal_strconv_numDigits Tryz.laysM284 u h1 h2 w htab
def Tryz.lays105_ren : Go.Shelf.Ren := ⟨fun | 105 => 105 | 212 => 131 | 99 => 63 | 165 => 132 | 166 => 133 | 170 => 134 | 169 => 135 | 263 => 156 | 264 => 28 | 206 => 100 | 240 => 157 | 241 => 158 | 276 => 167 | 277 => 168 | n => n, fun | 9 => 9 | 3 => 3 | 4 => 4 | 20 => 20 | 0 => 0 | 46 => 116 | 109 => 177 | 5 => 5 | 72 => 181 | 76 => 136 | 51 => 102 | 146 => 208 | 53 => 36 | 148 => 49 | 70 => 179 | 37 => 142 | 75 => 135 | 127 => 210 | 164 => 221 | 80 => 184 | n => n, fun | n => n⟩
theorem Tryz.lays105 : Go.Proofs.Lays.n105 Tryz.prog Tryz.lays105_ren := {
  mixed := by kernel_rfl
  f99 := Tryz.func63.trans (congrArg some (by kernel_rfl))
  f105 := Tryz.func105.trans (congrArg some (by kernel_rfl))
  f165 := Tryz.func132.trans (congrArg some (by kernel_rfl))
  f166 := Tryz.func133.trans (congrArg some (by kernel_rfl))
  f169 := Tryz.func135.trans (congrArg some (by kernel_rfl))
  f170 := Tryz.func134.trans (congrArg some (by kernel_rfl))
  f206 := Tryz.func100.trans (congrArg some (by kernel_rfl))
  f212 := Tryz.func131.trans (congrArg some (by kernel_rfl))
  f240 := Tryz.func157.trans (congrArg some (by kernel_rfl))
  f241 := Tryz.func158.trans (congrArg some (by kernel_rfl))
  f263 := Tryz.func156.trans (congrArg some (by kernel_rfl))
  f264 := Tryz.func28.trans (congrArg some (by kernel_rfl))
  f276 := Tryz.func167.trans (congrArg some (by kernel_rfl))
  f277 := Tryz.func168.trans (congrArg some (by kernel_rfl))
  t0 := Tryz.underlying0
  a0 := Tryz.isAgg0
  z0 := Tryz.sizeOf0
  v0 := Tryz.zeroValue0
  t3 := Tryz.underlying3
  a3 := Tryz.isAgg3
  z3 := Tryz.sizeOf3
  v3 := Tryz.zeroValue3
  t4 := Tryz.underlying4
  a4 := Tryz.isAgg4
  z4 := Tryz.sizeOf4
  v4 := Tryz.zeroValue4
  t5 := Tryz.underlying5
  a5 := Tryz.isAgg5
  z5 := Tryz.sizeOf5
  v5 := Tryz.zeroValue5
  t9 := Tryz.underlying9
  a9 := Tryz.isAgg9
  z9 := Tryz.sizeOf9
  v9 := Tryz.zeroValue9
  t20 := Tryz.underlying20
  a20 := Tryz.isAgg20
  z20 := Tryz.sizeOf20
  v20 := Tryz.zeroValue20
  t37 := Tryz.underlying142
  a37 := Tryz.isAgg142
  z37 := Tryz.sizeOf142
  v37 := Tryz.zeroValue142
  t46 := Tryz.underlying116
  a46 := Tryz.isAgg116
  z46 := Tryz.sizeOf116
  v46 := Tryz.zeroValue116
  t51 := Tryz.underlying102
  a51 := Tryz.isAgg102
  z51 := Tryz.sizeOf102
  v51 := Tryz.zeroValue102
  t53 := Tryz.underlying36
  a53 := Tryz.isAgg36
  z53 := Tryz.sizeOf36
  v53 := Tryz.zeroValue36
  t70 := Tryz.underlying179
  a70 := Tryz.isAgg179
  z70 := Tryz.sizeOf179
  v70 := Tryz.zeroValue179
  t72 := Tryz.underlying181
  a72 := Tryz.isAgg181
  z72 := Tryz.sizeOf181
  v72 := Tryz.zeroValue181
  t75 := Tryz.underlying135
  a75 := Tryz.isAgg135
  z75 := Tryz.sizeOf135
  v75 := Tryz.zeroValue135
  t76 := Tryz.underlying136
  a76 := Tryz.isAgg136
  z76 := Tryz.sizeOf136
  v76 := Tryz.zeroValue136
  t109 := Tryz.underlying177
  a109 := Tryz.isAgg177
  z109 := Tryz.sizeOf177
  v109 := Tryz.zeroValue177
  t127 := Tryz.underlying210
  a127 := Tryz.isAgg210
  z127 := Tryz.sizeOf210
  v127 := Tryz.zeroValue210
  t146 := Tryz.underlying208
  a146 := Tryz.isAgg208
  z146 := Tryz.sizeOf208
  v146 := Tryz.zeroValue208
  t148 := Tryz.underlying49
  a148 := Tryz.isAgg49
  z148 := Tryz.sizeOf49
  v148 := Tryz.zeroValue49
  t164 := Tryz.underlying221
  a164 := Tryz.isAgg221
  z164 := Tryz.sizeOf221
  v164 := Tryz.zeroValue221 }
theorem Tryz.Builder_Extra_105 : Builder.Extra Tryz.prog Tryz.lays105_ren := {
  sizeBuilder := by kernel_rfl
  liesBuilder := by kernel_rfl
  t5 := Tryz.underlying5
  a5 := Tryz.isAgg5
  z5 := Tryz.sizeOf5
  v5 := Tryz.zeroValue5
  infoByte := by kernel_rfl
  cellsByte := by kernel_rfl
  sizeByte := by kernel_rfl
  neB5 := by decide }
open Go.RowKit Go.Lib in
/-- **strings.Repeat: count ≥ 0, the result within one allocation: count copies of s.** (LAID: no walk: one application.) -/
theorem Tryz.strings_Repeat (s : ByteArray) (c : Nat) (w : World) (hc : c ≤ 9223372036854775807) (hlen : s.size * c ≤ 140737488355328) :
    Calls Tryz.prog 105 #[.string s, .int .i64 c] w fun e w' => e = .returned (.string ⟨(Lib.repeatL s.data.toList c).toArray⟩) ∧ Below w.heap.size w w' := Any.strings_Repeat Tryz.lays105 Tryz.Builder_Extra_105 s c w hc hlen
end Go.Proofs
