/- Rf, part z: the law of loops over a function. -/
import Derived.Test.YtgkgjgcoalmldaaFy
import Derived.RangeFuncIn
import Derived.RangeFuncRecord
namespace Go.Proofs.Rf
open Go Go.RowKit

/-- What is turned while a function is handed an element: what the loop's body owns (O: ahead of it, O': behind it), the loop's record. -/
structure Yields (O O' : Nat → Prop) (l : Nat) (A B : World) : Prop where
  size : A.heap.size ≤ B.heap.size
  block : ∀ b, b < A.heap.size → ¬ O b → b ≠ l → B.heap[b]? = A.heap[b]?
  own : ∀ b, b < A.heap.size → O' b → O b

/-- The memory of what is captured. -/
def Capt (ι : Nat → Option Value) (C : Nat → Blk) (cs : List AV) (b : Nat) : Prop := ∃ k ∈ AV.idsL cs, bk ι C k = some b

/-- A function that hands over the elements xs, one by one, of what it has captured (boxes, which it may write): what is not the loop's body's is kept while that runs; the body is asked for the next element alone. -/
structure IterOK (P : Program) (gf : Nat) {El : Type} (encs : El → List Value) (cap : (Nat → Blk) → List AV → Option (List El)) : Prop where
  fn : ∃ fn, P.funcs[gf]? = some fn ∧ (fn.name == "runtime.NumGoroutine") = false ∧ fn.body.isNone = false
  run : ∀ (X keep : Nat → Prop) (w0 w : World) (ι : Nat → Option Value) (C : Nat → Blk) (cs : List AV) (us : List Value) (xs : List El) (O : Nat → Prop), HRel X keep w0 ι C w → RelL w (okb X w ι C) ι cs us → cap C cs = some xs →
    (∀ b, okb X w ι C b → ¬ O b) → (∀ b, Capt ι C cs b → ¬ O b) →
    ∀ (l : Nat) (J : List El → (Nat → Prop) → World → Prop) (Jx : World → Prop) (W : World), w.heap.size ≤ l → l < W.heap.size → w.heap.size ≤ W.heap.size → (∀ b, b < w.heap.size → W.heap[b]? = w.heap[b]?) → J [] O W →
      (∀ pre O A, J pre O A → ∀ b, O b → b < A.heap.size) → (∀ pre O A B, J pre O A → Turned (Capt ι C cs) A B → J pre O B) → (∀ A B, Jx A → Turned (Capt ι C cs) A B → Jx B) →
      (∀ pre x, pre ++ [x] <+: xs → ∀ O W1, J pre O W1 → YieldAt (WF none) 1 P l (encs x).toArray W1 fun e W' => (e = .returned (.bool true) ∧ ∃ O', J (pre ++ [x]) O' W' ∧ Yields O O' l W1 W') ∨ (e = .returned (.bool false) ∧ Jx W' ∧ Yields O (fun _ => False) l W1 W')) →
      CallsIn (WF none) 2 P gf (#[.func (.yield l) #[] #[]] ++ us.toArray) W fun e W' => (∃ v, e = .returned v) ∧ ((∃ O', J xs O' W') ∨ Jx W')

def allBox (C : Nat → Blk) : List Nat → Bool
  | [] => true
  | k :: r => (match C k with
    | .box _ => true
    | _ => false) && allBox C r

theorem allBox_iff {C : Nat → Blk} : ∀ {l : List Nat}, allBox C l = true → ∀ k ∈ l, ∃ vs, C k = .box vs
  | [], _, k, h => by cases h
  | j :: r, ha, k, h => by
    simp only [allBox, Bool.and_eq_true] at ha
    rcases List.mem_cons.1 h with rfl | h
    · have := ha.1
      split at this
      · rename_i vs hv; exact ⟨vs, hv⟩
      · cases this
    · exact allBox_iff ha.2 k h

def foldR {El A B : Type} (f : El → A → Option (A ⊕ B)) : List El → A → Option (A ⊕ B)
  | [], x => some (.inl x)
  | e :: r, x => match f e x with
    | some (.inl y) => foldR f r y
    | some (.inr z) => some (.inr z)
    | none => none

section
variable (TT : Tab) (Δ : Nat → Option CallO) (ok : Nat → Bool) (Λ : Nat → Option LoopO)

/-- One round, over data. -/
noncomputable def stepR {El : Type} (avs : El → List AV) (ps : List Nat) (asl : List (Nat × Nat)) (head : Shape) (ways : List Way) (body : Code) (e : El) (x : head.den) : Option (head.den ⊕ denX ways) :=
  evC TT Δ ok Λ body ⟨asgT asl (putsT ps (avs e) (head.put x).tm), (head.put x).bl⟩ fun e s => match e with
    | .nm => (match head.take s with
      | some y => some (.inl y)
      | none => none)
    | .ex j => toX ways (.ex j) s fun y => some (.inr y)
    | .rt => toX ways .rt s fun y => some (.inr y)
end

/-- A loop over a function, over data. -/
def rangeO {El : Type} (g : Operand) (gf : Nat) (cap : (Nat → Blk) → List AV → Option (List El)) (head : Shape) (ways : List Way) (st : List El → head.den → Option (head.den ⊕ denX ways)) : LoopO := fun s _ K =>
  match ev (getT s.tm) g with
  | .fn f cs => if Nat.beq f gf = true then (cap (getB s.bl) cs).bind fun xs => (if (allBox (getB s.bl) (AV.idsL cs) && !(meetN (AV.idsL cs) (head.ids (head.fixd s) ++ nlsrc head.bl head.sl s))) = true then (match head.take s with
        | some x => (st xs x).bind fun y => Sum.elim (fun x' => K .nm (head.put x')) (fun z => onX ways z K) y
        | none => none) else none) else none
  | _ => none

theorem wpIn_depth {ρ : Option Nat} {d d' : Nat} {P : Program} {c : Code} {Q : Exit → Act → World → Prop} {a : Act} {w : World} (h : c.wpIn (WF ρ) d P Q a w) : c.wpIn (WF ρ) d' P Q a w :=
  fun b k cs h1 h2 _ => h b k cs h1 h2 (fun _ hd => by cases hd)

theorem marksOK_later {base : Nat} {k1 k2 : Nat → Prop} {w1 w2 : World} (hl : Later k1 w1 k2 w2) : ∀ {ds : List Deferred}, MarksOK base k1 w1 ds → MarksOK base k2 w2 ds
  | [], _ => trivial
  | d :: ds, ⟨⟨D, h1, h2, h3, h4, h5⟩, h6⟩ => ⟨⟨D, h1, h2, hl.mono D h3, by rw [hl.kept.block D h3 (Array.getElem?_eq_some_iff.1 h4).1]; exact h4, h5⟩, marksOK_later hl h6⟩

theorem marks_lt {base : Nat} {k1 : Nat → Prop} {w1 : World} : ∀ {ds : List Deferred}, MarksOK base k1 w1 ds → ∀ e ∈ ds, ∃ D, e.target = .collected D ∧ D < w1.heap.size
  | [], _, e, he => by cases he
  | d :: ds, ⟨⟨D, h1, h2, h3, h4, h5⟩, h6⟩, e, he => by
    rcases List.mem_cons.1 he with rfl | he
    · exact ⟨D, h1, (Array.getElem?_eq_some_iff.1 h4).1⟩
    · exact marks_lt h6 e he

section
variable {P : Program} {TT : Tab} {Δ : Nat → Option CallO}

theorem FRel.put1 {X keep : Nat → Prop} {w0 w : World} {n : Slots} {ι : Nat → Option Value} {tm : List (Nat × AV)} {C : Nat → Blk} {a : Act} (h : FRel X keep w0 n ι (getT tm) C a w) {d : Nat} (hd : n.ok d = true) {x : AV} {v : Value} (hv : RelV w (okb X w ι C) ι x v) :
    FRel X keep w0 n ι (getT ((d, x) :: tm)) C (a.put (some d) v) w := by
  rw [getT_cons]
  exact h.step (fun d' hd' => by injection hd' with hd'; subst hd'; exact hd) h.h (Ext.refl _ _ _ _) hv

theorem FRel.puts {X keep : Nat → Prop} {w0 w : World} {n : Slots} {ι : Nat → Option Value} {C : Nat → Blk} : ∀ (ps : List Nat) (vs : List AV) (us : List Value) (tm : List (Nat × AV)) (a : Act), FRel X keep w0 n ι (getT tm) C a w → (∀ p ∈ ps, n.ok p = true) → RelL w (okb X w ι C) ι vs us → ps.length = us.length →
    FRel X keep w0 n ι (getT (putsT ps vs tm)) C (putsA (ps.zip us) a) w
  | [], vs, us, tm, a, h, _, _, hl => by
    cases us with
    | nil => exact h
    | cons u ur => simp at hl
  | p :: ps, vs, us, tm, a, h, hp, hv, hl => by
    cases us with
    | nil => simp at hl
    | cons u ur =>
      cases vs with
      | nil => simp only [RelL] at hv; cases hv
      | cons v vr =>
        obtain ⟨u', ur', e, h1, h2⟩ := RelL_cons.1 hv
        injection e with e1 e2
        subst e1; subst e2
        exact FRel.puts ps vr ur _ _ (h.put1 (hp p (List.mem_cons_self ..)) h1) (fun q hq => hp q (List.mem_cons_of_mem _ hq)) h2 (by simpa using hl)

theorem FRel.asg {X keep : Nat → Prop} {w0 w : World} {n : Slots} {ι : Nat → Option Value} {C : Nat → Blk} : ∀ (l : List (Nat × Nat)) (tm : List (Nat × AV)) (a : Act), FRel X keep w0 n ι (getT tm) C a w → (∀ p ∈ l, n.ok p.1 = true) → FRel X keep w0 n ι (getT (asgT l tm)) C (asgA l a) w
  | [], _, _, h, _ => h
  | p :: r, _, _, h, hp => FRel.asg r _ _ (h.put1 (hp p (List.mem_cons_self ..)) (h.tm p.2)) fun q hq => hp q (List.mem_cons_of_mem _ hq)

def allOk (ok : Nat → Bool) : List Nat → Bool
  | [] => true
  | p :: r => ok p && allOk ok r

theorem allOk_iff {ok : Nat → Bool} : ∀ {l : List Nat}, allOk ok l = true → ∀ p ∈ l, ok p = true
  | [], _, p, h => by cases h
  | q :: r, hl, p, h => by
    simp only [allOk, Bool.and_eq_true] at hl
    rcases List.mem_cons.1 h with rfl | h
    · exact hl.1
    · exact allOk_iff hl.2 p h

/-- What the law asks of the text. -/
structure RangeText (ok : Nat → Bool) {El : Type} (avs : El → List AV) (encs : El → List Value) (ps : Array Nat) (asg : Code) (asl : List (Nat × Nat)) (head : Shape) (ways : List Way) : Prop where
  asg : asgs asg = some asl
  rel : ∀ (w : World) (ok : Nat → Prop) (ι : Nat → Option Value) (e : El), RelL w ok ι (avs e) (encs e)
  len : ∀ e : El, (encs e).length = ps.toList.length
  ps : allOk (roundOk ok (slotsOf head.sl ++ slotsX ways)) ps.toList = true
  as : allOk (roundOk ok (slotsOf head.sl ++ slotsX ways)) (asl.map (fun p => p.1)) = true
  no1 : noItB head.bl = true
  no2 : noItX ways = true

theorem rangeO_ok (hm : P.follows .mixedOrders = true) (hP : TabOK P TT) (hΔ : CallsOK P Δ) {Λ : List (Nat × LoopO)} {El : Type} {avs : El → List AV} {encs : El → List Value} {g : Operand} {gf : Nat} {cap : (Nat → Blk) → List AV → Option (List El)} {ps : Array Nat} {asg body : Code} {asl : List (Nat × Nat)}
    {head : Shape} {ways : List Way} {ok : Nat → Bool} (hI : IterOK P gf encs cap) (hT : RangeText ok avs encs ps asg asl head ways) (hL : LoopsAt P (roundOk ok (slotsOf head.sl ++ slotsX ways)) true Λ body)
    {st : List El → head.den → Option (head.den ⊕ denX ways)} (hst : ∀ xs x y, st xs x = some y → foldR (stepR TT Δ (roundOk ok (slotsOf head.sl ++ slotsX ways)) (lookL Λ) avs ps.toList asl head ways body) xs x = some y) :
    LoopAt P ok false (rangeO g gf cap head ways st) (.rangeFunc g ps asg body) := by
  intro n hn ρ hρ
  obtain ⟨hρ, hmk⟩ : ρ = none ∧ n.marks = true := hρ.resolve_left (by simp)
  subst hρ
  subst hn
  intro dp X keep w0 w ι s a R K r Q h hev hQ
  unfold rangeO at hev
  have hgv := ev_rel h.f.tm g
  split at hev
  · rename_i f cs hg
    split at hev
    · rename_i hf
      have hf := Nat.eq_of_beq_eq_true hf
      subst hf
      obtain ⟨xs, hcap, hev⟩ := bind_some' hev
      · split at hev
        · rename_i hck
          simp only [Bool.and_eq_true, Bool.not_eq_true'] at hck
          obtain ⟨hbox, hmt⟩ := hck
          split at hev
          · rename_i x0 hx0
            obtain ⟨out, hout, hev⟩ := bind_some' hev
            have hfold := hst xs x0 out hout
            rw [hg] at hgv
            simp only [RelV] at hgv
            obtain ⟨us, hgval, hcs⟩ := hgv
            let a0 : Act := { tmps := a.tmps, defers := [] }
            have hbase : n.base ≤ w.heap.size := Nat.le_trans h.f.defers.1 h.f.h.fr.size
            let Cp := Capt ι (getB s.bl) cs
            have hCo : ∀ b, Cp b → owned ι (getB s.bl) b := by rintro b ⟨k, _, hb⟩; exact ⟨k, hb⟩
            have hr0 : SRel X (fun b => b < w.heap.size ∧ ¬ owned ι (getB s.bl) b) w n ι s a0 w := ⟨⟨h.f.h.rebase, h.f.tm, h.f.size, hbase, fun _ => rfl, trivial⟩, h.dom⟩
            obtain ⟨ι1, S1, hown1⟩ := Shape.take_own hr0 hx0 Cp (by
              rintro b ⟨k, hk, hb⟩
              obtain ⟨vs, hvs⟩ := allBox_iff hbox k hk
              refine ⟨⟨k, vs, hvs, hb⟩, h.f.h.lt ⟨k, hb⟩, fun i hi hbi => ?_⟩
              have e := h.f.h.inj k i b hb hbi
              subst e
              exact meetN_false hmt k hk hi)
            -- what is kept from here on
            let C1 := getB (head.put x0).bl
            let XX : Nat → Prop := fun b => X b ∨ Cp b
            let kp : Nat → Prop := fun b => b < w.heap.size ∧ ¬ owned ι1 C1 b ∧ ¬ Cp b
            let pins := slotsOf head.sl ++ slotsX ways
            have hown2 : ∀ b, owned ι1 C1 b → owned ι (getB s.bl) b := fun b ho => by obtain ⟨i, _, hi⟩ := hown1 b ho; exact ⟨i, hi⟩
            have hokp : ∀ b, okb X w ι (getB s.bl) b → ¬ owned ι1 C1 b := fun b hb ho => hb.2.1 (hown2 b ho)
            have hcsp : ∀ b, Cp b → ¬ owned ι1 C1 b := fun b hb ho => S1.f.h.ox b ho (.inr hb)
            have hseq := hI.run X keep w0 w ι (getB s.bl) cs us xs (owned ι1 C1) h.f.h hcs hcap hokp hcsp
            have hkeep : ∀ b, keep b → kp b := fun b hb => ⟨Nat.lt_of_lt_of_le (h.f.h.kl b hb) h.f.h.fr.size, fun ho => h.f.h.own b (hown2 b ho) hb, fun hc => h.f.h.own b (hCo b hc) hb⟩
            have hXl0 : ∀ b, X b → b < w.heap.size := fun b hb => Nat.lt_of_lt_of_le (h.f.h.xl b hb) h.f.h.fr.size
            have hXl : ∀ b, XX b → b < w.heap.size := fun b hb => hb.elim (hXl0 b) fun hc => h.f.h.lt (hCo b hc)
            have S2 : SRel XX kp w n ι1 (head.put x0) a0 w := ⟨⟨⟨S1.f.h.bl, S1.f.h.inj, Kept.refl _ _, fun b hb hk => hk.2.1 hb, fun b hb => hb.1, S1.f.h.ox, S1.f.h.xl⟩, S1.f.tm, S1.f.size, hbase, fun _ => rfl, trivial⟩, S1.dom⟩
            let step := stepR TT Δ (roundOk n.ok (slotsOf head.sl ++ slotsX ways)) (lookL Λ) avs ps.toList asl head ways body
            let nR := roundSlots n pins a0
            -- what holds ahead of a round, and where the loop is left
            let I : List El → (Nat → Prop) → World → Prop := fun pre O W => ∃ rest x ι, xs = pre ++ rest ∧ foldR step rest x = some out ∧ SRel XX kp w n ι (head.put x) a0 W ∧ O = owned ι (getB (head.put x).bl)
            let Ix : Code → World → Prop := fun c W => ∃ z e, out = .inr z ∧ ((c = .ret ∧ e = Ex.rt) ∨ ∃ j, c = .exit j ∧ e = Ex.ex j) ∧ ∀ (R' : Type) (K' : Ex → St → Option R') (r' : R'), onX ways z K' = some r' → ∃ s' ι', SRel XX kp w n ι' s' a0 W ∧ NoIt s' ∧ K' e s' = some r'
            have hIg : ∀ {pre O A B row}, I pre O A → A.grownBy B row → (∀ r, row = some r → w.heap.size ≤ r ∧ ∃ o : Obj, A.heap[r]? = some o ∧ o.isCells = false) → I pre O B := by
              rintro pre O A B row ⟨rest, x, ι, e1, e2, e3, e4⟩ hg hr
              exact ⟨rest, x, ι, e1, e2, e3.grown (putB_noIt _ hT.no1 _) hg hr, e4⟩
            have hIxg : ∀ {c A B row}, Ix c A → A.grownBy B row → (∀ r, row = some r → w.heap.size ≤ r ∧ ∃ o : Obj, A.heap[r]? = some o ∧ o.isCells = false) → Ix c B := by
              rintro c A B row ⟨z, e, e1, e2, e3⟩ hg hr
              refine ⟨z, e, e1, e2, fun R' K' r' hk => ?_⟩
              obtain ⟨s', ι', q1, q2, q3⟩ := e3 R' K' r' hk
              exact ⟨s', ι', q1.grown q2 hg hr, q2, q3⟩
            have hCS : ∀ {ι' s' a' A}, SRel XX kp w n ι' s' a' A → ∀ b, Cp b → ¬ kp b ∧ ¬ owned ι' (getB s'.bl) b ∧ (XX b ∨ ∀ o v, A.cell? ⟨b, o, none⟩ = some v → False) :=
              fun h' b hb => ⟨fun hk => hk.2.2 hb, fun ho => h'.f.h.ox b ho (.inr hb), .inl (.inr hb)⟩
            have hIm : ∀ {pre O A B}, I pre O A → Turned Cp A B → I pre O B := by
              rintro pre O A B ⟨rest, x, ι, e1, e2, e3, e4⟩ hm
              exact ⟨rest, x, ι, e1, e2, e3.mod hm (hCS e3), e4⟩
            have hIxm : ∀ {c A B}, Ix c A → Turned Cp A B → Ix c B := by
              rintro c A B ⟨z, e, e1, e2, e3⟩ hm
              refine ⟨z, e, e1, e2, fun R' K' r' hk => ?_⟩
              obtain ⟨s', ι', q1, q2, q3⟩ := e3 R' K' r' hk
              exact ⟨s', ι', q1.mod hm (hCS q1), q2, q3⟩
            obtain ⟨fg, hg1, hg2, hg3⟩ := hI.fn
            have eg : ∀ (args : Array Value) (w : World), (callFunc f args).run P w = .ok (.enter f args) w := by
              intro args w
              have hname : ¬ fg.name = "runtime.NumGoroutine" := by simpa using hg2
              have hb : ¬ fg.body = none := by
                intro hb
                rw [hb] at hg3
                cases hg3
              simp [callFunc, hg1, hname, hb]
            refine wpIn_depth (d := 3) (wpIn_rangeFunc fun fn hfn => ?_)
            obtain ⟨rec, hrec⟩ : ∃ rec : LoopState → Option Code → Loop, rec = fun st pe => { state := st, pending := pe, fn, tmps := a.tmps, params := ps, assign := asg, body, defers := w.heap.size } := ⟨_, rfl⟩
            obtain ⟨L, hLe⟩ : ∃ L, L = w.heap.size + 1 := ⟨_, rfl⟩
            obtain ⟨V1, hV1⟩ : ∃ V1, V1 = (w.alloc (.deferred (some []))).alloc (.loop (rec .ready none)) := ⟨_, rfl⟩
            have g1 : w.grownBy (w.alloc (.deferred (some []))) none := World.grownBy_alloc w _ none
            have g2 : (w.alloc (.deferred (some []))).grownBy V1 none := by rw [hV1]; exact World.grownBy_alloc _ _ none
            have hL1 : V1.heap[L]? = some (.loop (rec .ready none)) := by
              have := World.alloc_heap_new (w.alloc (.deferred (some []))) (.loop (rec .ready none))
              rw [World.size_alloc] at this
              rw [hV1, hLe]; exact this
            have hK1 : V1.heap[w.heap.size]? = some (.deferred (some [])) := by
              rw [g2.block _ (by rw [World.size_alloc]; omega) (by simp)]
              exact World.alloc_heap_new w _
            have hkV : ∀ b, b < w.heap.size → V1.heap[b]? = w.heap[b]? := fun b hb => by
              rw [g2.block b (by rw [World.size_alloc]; omega) (by simp), g1.block b hb (by simp)]
            have hI1 : I [] (owned ι1 C1) V1 := hIg (hIg ⟨xs, x0, ι1, rfl, hfold, S2, rfl⟩ g1 (fun r e => by cases e)) g2 (fun r e => by cases e)
            refine ⟨L, [{ target := .collected w.heap.size, args := #[] }], V1, { target := .fn (.func f) us.toArray, args := #[.func (.yield L) #[] #[]] }, V1, f,
              #[.func (.yield L) #[] #[]] ++ us.toArray, V1, ?_, ?_, ?_, ?_, (fun e => by cases e), ?_⟩
            · rw [hV1, hLe, hrec]; exact run_enterLoop_outer _ _ _ _ _
            · simp only [resolve, hgval]
              simp [go_sem]
            · intro f' _; trivial
            · simp [invoke, go_sem, eg]
            · let J : List El → (Nat → Prop) → World → Prop := fun pre O W => I pre O W ∧ W.heap[L]? = some (.loop (rec .ready none)) ∧ W.heap[w.heap.size]? = some (.deferred (some []))
              let Jx : World → Prop := fun W => ∃ c, Ix c W ∧ W.heap[L]? = some (.loop (rec .done (some c))) ∧ W.heap[w.heap.size]? = some (.deferred (some []))
              have hCl : ∀ b, Cp b → b < w.heap.size := fun b hb => h.f.h.lt (hCo b hb)
              have keepM : ∀ {A B : World} {k : Nat} {o : Obj}, w.heap.size ≤ k → Turned Cp A B → A.heap[k]? = some o → B.heap[k]? = some o := fun hw hm hk => (hm.block _ (Array.getElem?_eq_some_iff.1 hk).1 (fun hc => absurd (hCl _ hc) (Nat.not_lt.2 hw))).trans hk
              have hLw : w.heap.size ≤ L := by omega
              have hV1s : w.heap.size ≤ V1.heap.size := Nat.le_trans g1.size g2.size
              refine (hseq L J Jx V1 hLw (Array.getElem?_eq_some_iff.1 hL1).1 hV1s hkV ⟨hI1, hL1, hK1⟩ (by
                rintro pre O A ⟨⟨rest, x, ι, e1, e2, e3, rfl⟩, _, _⟩ b hb
                exact e3.f.h.lt hb) (fun pre O A B hJ hm => ⟨hIm hJ.1 hm, keepM hLw hm hJ.2.1, keepM (Nat.le_refl _) hm hJ.2.2⟩)
                (fun A B ⟨c, h1, h2, h3⟩ hm => ⟨c, hIxm h1 hm, keepM hLw hm h2, keepM (Nat.le_refl _) hm h3⟩) ?_).mono ?_
              · -- one round
                rintro pre x ⟨t, ht⟩ O W ⟨⟨rest, x1, ι2, hxs, hfo, S3, hO⟩, hl, hk⟩
                have hrest : rest = x :: t := by
                  rw [hxs, List.append_assoc] at ht
                  exact (List.append_cancel_left ht).symm
                subst hrest
                have hlt : L < W.heap.size := (Array.getElem?_eq_some_iff.1 hl).1
                have hy := run_yield (P := P) (args := (encs x).toArray) hl (by rw [hrec]; simp [hT.len x])
                rw [hrec] at hy
                refine ⟨fn, _, asg, body, hy, roundIn_of_wpIn hfn (asgs_wp asg asl _ W _ _ hT.asg ⟨_, run_beginRound hl (by rw [hrec]), ?_⟩)⟩
                have hwL : w.heap.size < L := by omega
                obtain ⟨W2, hW2⟩ : ∃ W2, W2 = W.putObj L (.loop { rec .ready none with state := .busy }) := ⟨_, rfl⟩
                rw [← hW2]
                have hl2 : W2.heap[L]? = some (.loop { rec .ready none with state := .busy }) := by rw [hW2]; exact World.putObj_heap_same hlt
                have ho2 : ∀ b, b ≠ L → W2.heap[b]? = W.heap[b]? := fun b hb => by rw [hW2]; exact World.putObj_heap_other hb
                have hk2 : W2.heap[w.heap.size]? = some (.deferred (some [])) := by rw [ho2 _ (by omega)]; exact hk
                have S4 : SRel XX kp w n ι2 (head.put x1) a0 W2 := by
                  rw [hW2]
                  exact S3.grown (putB_noIt _ hT.no1 _) (grownBy_putObj' W L _) (fun r e => by injection e with e; subst e; exact ⟨by omega, _, hl, rfl⟩)
                have hno4 : NoIt (head.put x1) := putB_noIt _ hT.no1 _
                let kp2 : Nat → Prop := fun b => b < W2.heap.size ∧ ¬ owned ι2 (getB (head.put x1).bl) b
                have hkp2 : ∀ b, kp b → kp2 b := fun b hb => ⟨Nat.lt_of_lt_of_le hb.1 S4.f.h.fr.size, fun ho => S4.f.h.own b ho hb⟩
                have hbase2 : n.base ≤ W2.heap.size := Nat.le_trans hbase S4.f.h.fr.size
                have F0 : FRel XX kp2 W2 nR ι2 (getT (head.put x1).tm) (getB (head.put x1).bl) a0 W2 := ⟨S4.f.h.rebase, S4.f.tm, ⟨S4.f.size, fun _ _ => rfl⟩, hbase2, fun _ => rfl, trivial⟩
                have F1 := F0.puts ps.toList (avs x) (encs x) (head.put x1).tm a0 (fun p hp => allOk_iff hT.ps p hp) (hT.rel _ _ _ x) (hT.len x).symm
                have F2 := F1.asg asl _ _ (fun p hp => allOk_iff hT.as p.1 (List.mem_map_of_mem hp))
                have hact : ({ tmps := (ps.zip (encs x).toArray).foldl (fun t (p, v) => t.setIfInBounds p v) a.tmps, defers := [] } : Act) = putsA (ps.toList.zip (encs x)) a0 := by
                  obtain ⟨q1, q2⟩ := putsA_tmps (ps.toList.zip (encs x)) a0
                  have e : putsA (ps.toList.zip (encs x)) a0 = ⟨(putsA (ps.toList.zip (encs x)) a0).tmps, (putsA (ps.toList.zip (encs x)) a0).defers⟩ := rfl
                  rw [e, q1, q2]
                  congr 1
                  rw [← Array.foldl_toList, Array.toList_zip]
                rw [hact]
                simp only [foldR] at hfo
                cases hst' : step x x1 with
                | none => rw [hst'] at hfo; cases hfo
                | some v =>
                  rw [hst'] at hfo
                  refine evC_sound (n := nR) (ρ := some L) hm hP hΔ body (hL nR rfl (some L) (.inl rfl)) ⟨asgT asl (putsT ps.toList (avs x) (head.put x1).tm), (head.put x1).bl⟩ _ _ _ W2 ι2 kp2 W2 ⟨F2, S4.dom⟩ hst' (fun e s3 a3 W3 ι3 k3 v3 hlat hk3 S5 => ?_)
                  have keepW : ∀ b, kp2 b → W3.heap[b]? = W2.heap[b]? := fun b hb => (S5.f.h.fr.block b (hlat.mono b hb) (Nat.lt_of_lt_of_le hb.1 hlat.kept.size)).trans (hlat.kept.block b hb hb.1)
                  have keepN : ∀ (b : Nat) (o : Obj), W2.heap[b]? = some o → o.isCells = false → W3.heap[b]? = some o := fun b o hb ho => by
                    rw [keepW b ⟨(Array.getElem?_eq_some_iff.1 hb).1, fun hw => by
                      obtain ⟨o', q1, q2⟩ := S4.owned_cells hno4 hw
                      rw [hb] at q1
                      injection q1 with q1
                      subst q1
                      rw [ho] at q2
                      cases q2⟩]
                    exact hb
                  have hl3 := keepN _ _ hl2 rfl
                  have hk3' := keepN _ _ hk2 rfl
                  have back : ∀ s4 ι4, SRel XX k3 v3 nR ι4 s4 a3 W3 → (∀ t, t ∉ pins → getT s4.tm t = .un) → SRel XX kp w n ι4 s4 a0 W3 := by
                    intro s4 ι4 h4 hun
                    refine ⟨⟨h4.f.h.weaken (fun b hb => hlat.mono b (hkp2 b hb)) (S4.f.h.fr.trans (hlat.kept.weak hkp2)) (fun b hb => hb.1) hXl, fun t => ?_, S4.f.size, hbase, fun _ => rfl, trivial⟩, h4.dom⟩
                    by_cases hp : t ∈ pins
                    · have e1 := h4.f.size.2 t hp
                      rw [← e1]
                      exact h4.f.tm t
                    · rw [hun t hp]
                      simp only [RelV]
                  have hend : ∀ jump : Option Code, (Instr.endRound L jump).run P W3 = .ok (.bool jump.isNone) (W3.putObj L (.loop (rec (if jump.isNone then .ready else .done) jump))) := fun jump => by
                    have := run_endRound (P := P) jump hl3
                    rw [hrec] at this ⊢
                    exact this
                  have hlt3 : L < W3.heap.size := (Array.getElem?_eq_some_iff.1 hl3).1
                  have gP : ∀ o, W3.grownBy (W3.putObj L o) (some L) := fun o => grownBy_putObj' W3 L o
                  have gR : ∀ r, some L = some r → w.heap.size ≤ r ∧ ∃ o : Obj, W3.heap[r]? = some o ∧ o.isCells = false := fun r e => by injection e with e; subst e; exact ⟨by omega, _, hl3, rfl⟩
                  have hkD : ∀ o, (W3.putObj L o).heap[w.heap.size]? = some (.deferred (some [])) := fun o => (World.putObj_heap_other (by omega)).trans hk3'
                  have leave : ∀ (e : Ex) (c : Code), ((c = .ret ∧ e = Ex.rt) ∨ ∃ j, c = .exit j ∧ e = Ex.ex j) → (toX ways e s3 fun y => some (Sum.inr y : head.den ⊕ denX ways)) = some v → Jx (W3.putObj L (.loop (rec .done (some c)))) := by
                    intro e c hce hto
                    obtain ⟨z, hz1, hz2⟩ := toX_sound2 S5 ways _ hT.no2 hto
                    injection hz1 with hz1
                    subst hz1
                    have hout' : Sum.inr z = out := by injection hfo
                    refine ⟨c, hIxg (c := c) ⟨z, e, hout'.symm, hce, fun R' K' r' hk' => ?_⟩ (gP _) gR, World.putObj_heap_same hlt3, hkD _⟩
                    obtain ⟨s4, ι4, q1, q2, q3, q4⟩ := hz2 K' r' hk'
                    exact ⟨s4, ι4, back s4 ι4 q1 (fun t ht => q3 t (fun q => ht (List.mem_append_right _ q))), q2, q4⟩
                  have hyS : ∀ o, W.heap.size ≤ (W3.putObj L o).heap.size := fun o => by
                    have q1 : W.heap.size = W2.heap.size := by rw [hW2]; simp
                    have q2 : W2.heap.size ≤ W3.heap.size := Nat.le_trans hlat.kept.size S5.f.h.fr.size
                    rw [q1]
                    simpa using q2
                  have hyB : ∀ o b, b < W.heap.size → ¬ O b → b ≠ L → (W3.putObj L o).heap[b]? = W.heap[b]? := fun o b hb hno hbl => by
                    rw [World.putObj_heap_other hbl, keepW b ⟨by rw [hW2]; simpa using hb, by rw [← hO]; exact hno⟩, ho2 b hbl]
                  cases e with
                  | nm =>
                    simp only at hk3
                    split at hk3
                    · rename_i y hy'
                      injection hk3 with hk3
                      subst hk3
                      obtain ⟨ι4, h4, h4o⟩ := Shape.take_own S5 hy' (fun _ => False) (fun _ q => q.elim)
                      have h4 := h4.noY
                      refine ⟨_, _, hend none, .inl ⟨rfl, _, ⟨hIg ⟨t, y, ι4, by rw [hxs, List.append_assoc]; rfl, hfo, back _ _ h4 (fun u hu => putS_out _ _ _ (fun q => hu (List.mem_append_left _ q))), rfl⟩ (gP _) gR, World.putObj_heap_same hlt3, hkD _⟩, ?_, ?_, ?_⟩⟩
                      · exact hyS _
                      · exact hyB _
                      · intro b hb hob
                        have q1 : owned ι3 (getB s3.bl) b := by obtain ⟨i, _, hi⟩ := h4o b hob; exact ⟨i, hi⟩
                        have q2 := S5.f.h.own b q1
                        have hb2 : b < W2.heap.size := by rw [hW2]; simpa using hb
                        rw [hO]
                        exact Classical.byContradiction fun q => q2 (hlat.mono b ⟨hb2, q⟩)
                    · cases hk3
                  | ex j => exact ⟨_, _, hend (some (.exit j)), .inr ⟨rfl, leave (.ex j) (.exit j) (.inr ⟨j, rfl, rfl⟩) hk3, hyS _, hyB _, fun _ _ q => q.elim⟩⟩
                  | rt => exact ⟨_, _, hend (some .ret), .inr ⟨rfl, leave .rt .ret (.inl ⟨rfl, rfl⟩) hk3, hyS _, hyB _, fun _ _ q => q.elim⟩⟩
              · -- behind the iterator
                have fin : ∀ s' ι' W', SRel XX kp w n ι' s' a0 W' → NoIt s' → W'.heap[w.heap.size]? = some (.deferred (some [])) →
                    Later keep w0 (fun b => keep b ∨ b = w.heap.size) W' ∧ SRel X (fun b => keep b ∨ b = w.heap.size) W' n ι' s' { a with defers := { target := .collected w.heap.size, args := #[] } :: a.defers } W' := by
                  intro s' ι' W' h' hno hD
                  have h' := h'.lessX (X := X) fun b hb => .inl hb
                  have hlat : Later keep w0 (fun b => keep b ∨ b = w.heap.size) W' := ⟨fun b hb => .inl hb, h.f.h.fr.trans (h'.f.h.fr.weak hkeep)⟩
                  refine ⟨hlat, ⟨⟨⟨h'.f.h.bl, h'.f.h.inj, Kept.refl _ _, fun b hb hk => ?_, fun b hk => ?_, h'.f.h.ox, fun b hb => Nat.lt_of_lt_of_le (hXl0 b hb) h'.f.h.fr.size⟩, h'.f.tm, h'.f.size, Nat.le_trans hbase h'.f.h.fr.size, (fun hm => by rw [hmk] at hm; cases hm), ⟨_, rfl, hbase, .inr rfl, hD, fun e he ht => ?_⟩, marksOK_later hlat h.f.defers.2.2⟩, h'.dom⟩⟩
                  · rcases hk with hk | hk
                    · exact h'.f.h.own b hb (hkeep b hk)
                    · subst hk
                      exact h'.f.h.owned_obj hb hD
                  · rcases hk with hk | hk
                    · exact Nat.lt_of_lt_of_le (hkeep b hk).1 h'.f.h.fr.size
                    · subst hk
                      exact (Array.getElem?_eq_some_iff.1 hD).1
                  · obtain ⟨D', q1, q2⟩ := marks_lt h.f.defers.2.2 e he
                    rw [ht] at q1
                    injection q1 with q1
                    have := h.f.h.fr.size
                    omega
                rintro e V2 ⟨⟨v, rfl⟩, (⟨O', ⟨rest, x, ι2, hxs, hfo, S3, _⟩, hl, hk⟩ | ⟨c, ⟨z, e, hz, hce, hK⟩, hl, hk⟩)⟩
                · have hrest : rest = [] := by simpa using hxs.symm
                  subst hrest
                  simp only [foldR] at hfo
                  injection hfo with hfo
                  subst hfo
                  obtain ⟨V3, hE, hgr, hD3⟩ : ∃ V3, (Instr.endLoop L).run P V2 = .ok (none) V3 ∧ V2.grownBy V3 (some L) ∧ V3.heap[w.heap.size]? = some (.deferred (some [])) :=
                    ⟨V2.putObj L (.loop { rec .ready none with state := .exhausted }), by have := run_endLoop (P := P) hl (by rw [hrec]; simp); rw [hrec] at this ⊢; exact this, grownBy_putObj' V2 L _, (World.putObj_heap_other (by omega)).trans hk⟩
                  have S4 := S3.grown (putB_noIt _ hT.no1 _) hgr (fun r e => by injection e with e; subst e; exact ⟨by omega, _, hl, rfl⟩)
                  obtain ⟨q1, q2⟩ := fin _ _ _ S4 (putB_noIt _ hT.no1 _) hD3
                  refine ⟨none, _, hE, ?_⟩
                  exact hQ .nm _ _ _ _ _ _ q1 hev q2
                · subst hz
                  obtain ⟨s', ι', S3, hno, hk3⟩ := hK R K r hev
                  obtain ⟨V3, hE, hgr, hD3⟩ : ∃ V3, (Instr.endLoop L).run P V2 = .ok (some c) V3 ∧ V2.grownBy V3 (some L) ∧ V3.heap[w.heap.size]? = some (.deferred (some [])) :=
                    ⟨V2.putObj L (.loop { rec .done (some c) with state := .exhausted }), by have := run_endLoop (P := P) hl (by rw [hrec]; simp); rw [hrec] at this ⊢; exact this, grownBy_putObj' V2 L _, (World.putObj_heap_other (by omega)).trans hk⟩
                  have S4 := S3.grown hno hgr (fun r e => by injection e with e; subst e; exact ⟨by omega, _, hl, rfl⟩)
                  obtain ⟨q1, q2⟩ := fin _ _ _ S4 hno hD3
                  refine ⟨some c, _, hE, ?_⟩
                  rcases hce with ⟨rfl, rfl⟩ | ⟨j, rfl, rfl⟩
                  · exact wpIn_ret (hQ .rt _ _ _ _ _ _ q1 hk3 q2)
                  · exact wpIn_exit (hQ (.ex j) _ _ _ _ _ _ q1 hk3 q2)
          · cases hev
        · cases hev
    · cases hev
  · cases hev
end
end Go.Proofs.Rf
