/- Texts put together: Fl, Fm, Fn, Fo, Fp, Fq, Fr, Fs, Ft, Fu, Fv, Fw, Fx. -/
import Derived.Test.YtdecfjlhidgceaaGreatDoorKe1
import Derived.CallsIn
import Derived.OrdersIn
import Derived.RangeFuncLeaves
import Derived.RangeFuncWrites
import Derived.RangeFuncNested
namespace Go.Proofs.Rf
open Go Go.RowKit
def WF (ρ : Option Nat) : Fence := { fn := fun _ => True, depth := none, alive := false, round := ρ }
theorem z5h {P : Program} {ρ : Option Nat} {d : Nat} {o : Oper} {a : Act} {w : World} {K : Act → World → Prop} {Q : Exit → Act → World → Prop} (hd : ∀ c, o.op ≠ .defer c) (h : o.wp P a w K Q) : o.wpIn (WF ρ) d P a w K Q := by
 refine ⟨fun _ _ => trivial, ?_⟩
 rw [Oper.semAt_eq _ _ _ hd]
 unfold Oper.wp at h
 have hn : (WF ρ).depth.isSome = true → 1 ≤ d := fun h => by cases h
 generalize (execOp a.eval o).run P w = r at *
 cases r with
 | ok x w' =>
  cases x <;> simp only [Oper.upon, Oper.uponIn] at h ⊢
  case value v => exact h
  case skip => exact h
  case defer q => exact h
  case enter f args => exact ⟨hn, callsIn_wide.2 h⟩
  case row row args =>
   refine ⟨hn, fun c cs _ => ?_⟩
   obtain ⟨v, w'', h1, h2⟩ := h c cs
   exact ⟨v, w'', h1, stepsIn_wide.2 h2⟩
 | halt x w' => cases x <;> simp only [Oper.upon, Oper.uponIn] at h ⊢ <;> exact h
structure z0N where
 marks : Bool
 base : Nat
 ok : Nat → Bool
 G : Array Value → Prop
 lt : ∀ tm d, G tm → ok d = true → d < tm.size
 set : ∀ tm d v, G tm → ok d = true → G (tm.setIfInBounds d v)
def z5B (base : Nat) (keep : Nat → Prop) (w0 : World) : List Deferred → Prop
 | [] => True
 | d :: ds => (∃ D, d.target = .collected D ∧ base ≤ D ∧ keep D ∧ w0.heap[D]? = some (.deferred (some [])) ∧ ∀ e ∈ ds, e.target ≠ .collected D) ∧ z5B base keep w0 ds
section
variable {X keep : Nat → Prop} {w0 w : World} {ι : Nat → Option Value} {C : Nat → Blk} {P : Program} {TT : Tab} {Δ : Nat → Option z0K} {n : z0N}
theorem evOp_nat (hΔ : z0O P Δ) {R : Type} (o : Oper) (T : Nat → AV) (C : Nat → Blk) (nb : Nat) (K : Eff → Option R) : evOp TT Δ o T C nb K = (evOp TT Δ o T C nb some).bind K := by
 have hb : ∀ {x : Option AV} {L : Option R} {M : Option Eff}, L = x.bind (fun a => K ⟨a, [], []⟩) → M = x.bind (fun a => some ⟨a, [], []⟩) → L = M.bind K := by
  rintro x L M rfl rfl
  cases x <;> rfl
 unfold evOp
 split
 case h_5 e0 x hop =>
  split
  ·split
   ·split <;> rfl
   ·rfl
  ·split <;> rfl
 case h_10 x hop =>
  split <;> first | rfl | (split <;> rfl)
 case h_11 op tt x y yt hop =>
  split
  ·rfl
  split
  ·rfl
  ·exact hb (bin_nat ..) (bin_nat ..)
 case h_12 op xt x hop =>
  exact hb (uny_nat ..) (uny_nat ..)
 case h_13 src dst x hop =>
  split
  ·split <;> rfl
  ·split
   ·split
    ·split <;> rfl
    ·rfl
   ·rfl
  ·split
   ·split <;> rfl
   ·exact hb (unsf_nat ..) (unsf_nat ..)
  ·rfl
 case h_15 tt x lo hi hop =>
  split
  ·exact hb (z3m ..) (z3m ..)
  ·exact hb (z4e ..) (z4e ..)
 case h_16 tt x lo hi mx hop =>
  exact hb (z5k ..) (z5k ..)
 case h_19 tt x ix hop =>
  repeat' split
  all_goals first
   | rfl
   | exact hb (z6R ..) (z6R ..)
   | exact hb (z7h ..) (z7h ..)
   | exact hb (z5v ..) (z5v ..)
   | exact hb (z7k ..) (z7k ..)
 case h_20 tt x ix hop =>
  repeat' split
  all_goals first
   | rfl
   | exact hb (z5w ..) (z5w ..)
 case h_25 c hop =>
  split
  ·repeat' split
   all_goals rfl
  ·repeat' split
   all_goals first | rfl | exact appStr_nat ..
  ·split
   ·split
    ·rfl
    ·exact copyOp_nat ..
   ·rfl
  ·repeat' split
   all_goals rfl
  ·repeat' split
   all_goals rfl
  ·split
   ·split
    ·rename_i co hco
     exact (hΔ _ co hco).nat ..
    ·rfl
   ·split
    ·rename_i co hco
     exact (hΔ _ co hco).nat ..
    ·rfl
   ·exact z8k hΔ ..
   ·rfl
  ·split
   ·exact mapDel_nat ..
   ·rfl
  ·split
   ·exact hb (z6s ..) (z6s ..)
   ·rfl
  ·split
   ·exact ustr_nat ..
   ·rfl
  ·rfl
 case h_27 tt x ix comma hop =>
  exact hb (z4j ..) (z4j ..)
 case h_28 tt m k x hop =>
  exact z7Z ..
 case h_29 tt m k x hop =>
  exact z7Z ..
 all_goals ((repeat' split) <;> rfl)
theorem z1z : ∀ (bl : List Blk) (k : Nat) (b : Blk), (setB bl k b).length = bl.length
 | [], _, _ => rfl
 | _ :: _, 0, _ => rfl
 | _ :: r, k + 1, b => by simp [setB, z1z r k b]
theorem z4Q : ∀ (bl : List Blk) (k : Nat) (b : Blk), k < bl.length → getB (setB bl k b) = setC (getB bl) k b
 | [], k, _, h => by simp at h
 | c :: r, 0, b, _ => by
  funext j
  cases j with
  | zero => simp [setB, getB, setC]
  | succ j => simp [setB, getB, setC]
 | c :: r, k + 1, b, h => by
  funext j
  have ih := z4Q r k b (by simpa using h)
  cases j with
  | zero => simp [setB, getB, setC]
  | succ j =>
   have := congrFun ih j
   simp only [setB, getB, setC, Nat.add_right_cancel_iff] at this ⊢
   exact this
theorem z2X : ∀ (u : List (Nat × Blk)) (bl : List Blk), (updB bl u).length = bl.length
 | [], _ => rfl
 | (k, b) :: r, bl => by
  show (updB (setB bl k b) r).length = _
  rw [z2X r, z1z]
theorem getB_updB : ∀ (u : List (Nat × Blk)) (bl : List Blk), updLt bl.length u = true → getB (updB bl u) = updC (getB bl) u
 | [], _, _ => rfl
 | (k, b) :: r, bl, h => by
  simp only [updLt, Bool.and_eq_true] at h
  have hk : k < bl.length := Nat.le_of_ble_eq_true h.1
  show getB (updB (setB bl k b) r) = updC (setC (getB bl) k b) r
  rw [getB_updB r _ (by rw [z1z]; exact h.2), z4Q _ _ _ hk]
theorem z2E : ∀ (bl : List Blk) (k : Nat), bl.length ≤ k → getB bl k = .dead
 | [], _, _ => rfl
 | _ :: r, 0, h => by simp at h
 | _ :: r, k + 1, h => z2E r k (by simpa using h)
theorem z1j : ∀ (bl : List Blk) (b : Blk), getB (bl ++ [b]) = setC (getB bl) bl.length b
 | [], b => by
  funext j
  cases j with
  | zero => rfl
  | succ j => simp [getB, setC]
 | c :: r, b => by
  funext j
  have ih := z1j r b
  cases j with
  | zero => simp [getB, setC]
  | succ j =>
   have := congrFun ih j
   simp only [List.cons_append, getB, setC, List.length_cons, Nat.add_right_cancel_iff] at this ⊢
   exact this
theorem z6W : ∀ (new bl : List Blk), getB (bl ++ new) = addC (getB bl) bl.length new
 | [], bl => by rw [List.append_nil]; rfl
 | b :: r, bl => by
  show getB (bl ++ b :: r) = addC (setC (getB bl) bl.length b) (bl.length + 1) r
  rw [← z1j, show bl ++ b :: r = (bl ++ [b]) ++ r by simp, z6W r, List.length_append]
  rfl
theorem getB_eff {bl : List Blk} {e : Eff} (h : updLt bl.length e.upd = true) : getB (updB bl e.upd ++ e.new) = effC (getB bl) bl.length e := by
 rw [z6W, z2X, getB_updB _ _ h]; rfl
def effT (T : Nat → AV) (dst : Option Nat) (x : AV) : Nat → AV := fun t => if dst = some t then x else T t
structure FRel (X keep : Nat → Prop) (w0 : World) (n : z0N) (ι : Nat → Option Value) (T : Nat → AV) (C : Nat → Blk) (a : Act) (w : World) : Prop where
 h : HRel X keep w0 ι C w
 tm : ∀ t, RelV w (okb X w ι C) ι (T t) (a.tmps.getD t undef)
 size : n.G a.tmps
 defers : n.base ≤ w0.heap.size ∧ (n.marks = false → a.defers = []) ∧ z5B n.base keep w0 a.defers
theorem put_getD {a : Act} {dst : Option Nat} {v : Value} (h : ∀ d, dst = some d → d < a.tmps.size) (t : Nat) : (a.put dst v).tmps.getD t undef = if dst = some t then v else a.tmps.getD t undef := by
 cases dst with
 | none => simp [Act.put]
 | some d =>
  have hd := h d rfl
  by_cases ht : d = t
  ·subst ht
   simp [Act.put, hd]
  ·have : ¬ (some d = some t) := fun e => ht (by injection e)
   rw [if_neg this]
   simp [Act.put, Array.getD_eq_getD_getElem?, Array.getElem?_setIfInBounds_ne ht]
theorem put_defers (a : Act) (dst : Option Nat) (v : Value) : (a.put dst v).defers = a.defers := by cases dst <;> rfl
theorem FRel.step {T : Nat → AV} {a : Act} {ι' : Nat → Option Value} {C' : Nat → Blk} {w' : World} (h : FRel X keep w0 n ι T C a w) {dst : Option Nat} (hd : ∀ d, dst = some d → n.ok d = true) {x : AV} {v : Value}
  (h1 : HRel X keep w0 ι' C' w') (h2 : Ext X ι C w ι' C' w') (h3 : RelV w' (okb X w' ι' C') ι' x v) : FRel X keep w0 n ι' (effT T dst x) C' (a.put dst v) w' := by
 have hG : n.G (a.put dst v).tmps := by
  cases dst with
  | none => exact h.size
  | some d => exact n.set _ _ _ h.size (hd d rfl)
 refine ⟨h1, fun t => ?_, hG, by rw [put_defers]; exact h.defers⟩
 rw [put_getD (fun d hdd => n.lt _ _ h.size (hd d hdd))]
 unfold effT
 split
 ·exact h3
 ·exact h2.val (h.tm t)
theorem FRel.drawn {T : Nat → AV} {a : Act} (h : FRel X keep w0 n ι T C a w) (k : Nat) : FRel X keep w0 n ι T C a { w with drawn := k } := by
 have hc : ∀ p, ({ w with drawn := k } : World).cell? p = w.cell? p := fun _ => rfl
 have hext : Ext X ι C w ι C { w with drawn := k } := ⟨fun _ _ e => e, fun _ e => e, fun _ _ => rfl⟩
 refine ⟨⟨fun j => z7s hext j (h.h.bl j) rfl (fun _ _ => rfl), h.h.inj, ⟨h.h.fr.os, h.h.fr.tape, h.h.fr.output, h.h.fr.size, h.h.fr.block⟩, h.h.own, h.h.kl, h.h.ox, h.h.xl, h.h.gl.ext hext⟩, fun t => hext.val (h.tm t), h.size, h.defers⟩
structure SRel (X keep : Nat → Prop) (w0 : World) (n : z0N) (ι : Nat → Option Value) (s : St) (a : Act) (w : World) : Prop where
 f : FRel X keep w0 n ι (getT s.tm) (getB s.bl) a w
 dom : ∀ k, s.bl.length ≤ k → ι k = none
theorem z3x (d : Nat) (x : AV) (tm : List (Nat × AV)) : getT ((d, x) :: tm) = effT (getT tm) (some d) x := by
 funext t
 show (if Nat.beq d t = true then x else getT tm t) = if some d = some t then x else getT tm t
 by_cases h : d = t
 ·subst h
  rw [if_pos rfl, if_pos (Nat.beq_refl d)]
 ·rw [if_neg (fun e => h (Nat.eq_of_beq_eq_true e)), if_neg (fun e => h (by injection e))]
theorem z6e {o : Oper} (h : dstOk n.ok o = true) : ∀ d, o.dst = some d → n.ok d = true := by
 intro d hd
 unfold dstOk at h
 rw [hd] at h
 exact h
theorem stepE_tm (o : Oper) (s : St) (e : Eff) : getT (z7B o s e).tm = effT (getT s.tm) o.dst e.dst := by
 unfold z7B
 cases o.dst with
 | none => funext t; simp [effT]
 | some d => exact z3x d e.dst s.tm
theorem stepE_bl (o : Oper) (s : St) (e : Eff) : (z7B o s e).bl = updB s.bl e.upd ++ e.new := by unfold z7B; cases o.dst <;> rfl
theorem stepS_tm (o : Oper) (s : St) : getT (z7z o s).tm = effT (getT s.tm) o.dst .ud := by
 unfold z7z
 cases o.dst with
 | none => funext t; simp [effT]
 | some d => exact z3x d .ud s.tm
theorem stepS_bl (o : Oper) (s : St) : (z7z o s).bl = s.bl := by unfold z7z; cases o.dst <;> rfl
def Lk (ι0 ι : Nat → Option Value) : Prop := ∀ k v, ι0 k = some v → ι k = some v
theorem SRel.run (hP : z0q P TT) (hΔ : z0O P Δ) {s : St} {a : Act} (h : SRel X keep w0 n ι s a w) {o : Oper} (hd : dstOk n.ok o = true) {e : Eff}
  (hev : evOp TT Δ o (getT s.tm) (getB s.bl) s.bl.length some = some e) (hu : updLt s.bl.length e.upd = true) {K : Act → World → Prop} {Q : Exit → Act → World → Prop}
  (hK : ∀ ι' a' w', SRel X keep w0 n ι' (z7B o s e) a' w' → Lk ι ι' → K a' w') : o.wp P a w K Q := by
 refine Oper.wp_mono ?_ (z8f hP hΔ h.f.h h.f.tm hev (fun k hk _ => h.dom k hk) (Q := Q))
 rintro a' w' ⟨v, rfl, ι', h1, h2, h3, h4⟩
 refine hK ι' _ w' ⟨?_, fun k hk => ?_⟩ h2.io
 ·have := h.f.step (z6e hd) h1 h2 h3
  rw [stepE_tm, stepE_bl, getB_eff hu]
  exact this
 ·rw [stepE_bl, List.length_append, z2X] at hk
  rw [h4 k (by omega)]
  exact h.dom k (by omega)
theorem SRel.skip {s : St} {a : Act} (h : SRel X keep w0 n ι s a w) {o : Oper} (hd : dstOk n.ok o = true) : SRel X keep w0 n ι (z7z o s) (a.put o.dst undef) w := by
 refine ⟨?_, fun k hk => ?_⟩
 ·rw [stepS_tm, stepS_bl]
  exact h.f.step (z6e hd) h.f.h (Ext.refl _ _ _ _) (by simp only [RelV])
 ·rw [stepS_bl] at hk
  exact h.dom k hk
theorem z3k {ops : Array Oper} {a : Act} {j g : Nat} (hg : (ops[j]?).bind (·.dst) = some g) {b : Bool} (hv : a.tmps.getD g undef = .bool b) : yielded ops a.tmps j = some b := by
 unfold yielded
 rw [hg]
 have : a.tmps[g]? = some (.bool b) := by
  rw [Array.getD_eq_getD_getElem?] at hv
  cases hq : a.tmps[g]? with
  | none => rw [hq] at hv; cases hv
  | some u => rw [hq] at hv; rw [← hv]; rfl
 simp [this]
theorem z7L {ops : Array Oper} {a : Act} {j g : Nat} (hg : (ops[j]?).bind (·.dst) = some g) (hv : a.tmps.getD g undef = undef) : yielded ops a.tmps j = none := by
 unfold yielded
 rw [hg]
 show (match a.tmps[g]? with | some (.bool b) => some b | _ => none) = none
 rw [Array.getD_eq_getD_getElem?] at hv
 cases hq : a.tmps[g]? with
 | none => rfl
 | some u => rw [hq] at hv; rw [show u = undef from hv]; rfl
theorem SRel.known {s : St} {a : Act} (h : SRel X keep w0 n ι s a w) {g : Nat} {b : Bool} (hg : getT s.tm g = .d .bool b) : SRel X keep w0 n ι ⟨(g, .d .bool b) :: s.tm, s.bl⟩ a w := by
 refine ⟨?_, h.dom⟩
 have : getT ((g, .d .bool b) :: s.tm) = getT s.tm := by
  rw [z3x]
  funext t
  unfold effT
  split
  ·rename_i e
   injection e with e
   subst e
   exact hg.symm
  ·rfl
 rw [this]
 exact h.f
theorem evOpD_false {R : Type} (o : Oper) (s : St) (K : Eff → Option R) : evOpD TT Δ false o s K = evOp TT Δ o (getT s.tm) (getB s.bl) s.bl.length K := rfl
theorem z0H {α β : Type} {x : Option α} {f : α → Option β} {r : β} (h : x.bind f = some r) : ∃ y, x = some y ∧ f y = some r := by
 cases x with
 | none => cases h
 | some y => exact ⟨y, rfl, h⟩
theorem z4V {R : Type} {o : Oper} {T : Nat → AV} {C : Nat → Blk} {nb : Nat} {K : Eff → Option R} {r : R} (h : evOp TT Δ o T C nb K = some r) : ∀ c, o.op ≠ .defer c := by
 intro c hc
 unfold evOp at h
 rw [hc] at h
 cases h
theorem z3K (hP : z0q P TT) (hΔ : z0O P Δ) {ρ : Option Nat} {dp : Nat} {R : Type} {ops : Array Oper} {Q : Exit → Act → World → Prop} {r : R} {K : St → List LogE → Option R} : ∀ (l : List (Nat × Oper)) (s : St) (lg : List LogE) (a : Act) (w : World) (ι : Nat → Option Value),
  (∀ p ∈ l, ops[p.1]? = some p.2) → evOps TT Δ n.ok ops false l s lg K = some r → SRel X keep w0 n ι s a w → (∀ s' lg' a' w' ι', K s' lg' = some r → SRel X keep w0 n ι' s' a' w' → Lk ι ι' → Q .normal a' w') → wpOpsIn (WF ρ) dp P ops Q (l.map (·.1)) a w
 | [], s, lg, a, w, ι, _, hev, h, hQ => hQ s lg a w ι hev h (fun _ _ e => e)
 | (i, o) :: rest, s, lg, a, w, ι, hl, hev, h, hQ => by
  have hi : ops[i]? = some o := hl (i, o) (List.mem_cons_self ..)
  have hrest := fun p hp => hl p (List.mem_cons_of_mem _ hp)
  simp only [evOps] at hev
  split at hev
  ·rename_i hd
   have hrun : ∀ (s : St), SRel X keep w0 n ι s a w → (evOpD TT Δ false o s fun e => if updLt s.bl.length e.upd = true then evOps TT Δ n.ok ops false rest (z7B o s e) (logOf i o s e :: lg) K else none) = some r →
     Region.wanted o (yielded ops a.tmps) = true → wpOpsIn (WF ρ) dp P ops Q (((i, o) :: rest).map (·.1)) a w := by
    intro s h hev hw
    rw [evOpD_false, evOp_nat hΔ] at hev
    obtain ⟨e, he, hev⟩ := z0H hev
    split at hev
    ·rename_i hu
     rw [List.map_cons, wpOpsIn_cons]
     unfold wpOpIn
     rw [hi]
     simp only [hw, if_true]
     refine z5h (z4V he) (h.run hP hΔ hd he hu fun ι' a' w' h' hlk => ?_)
     exact z3K hP hΔ rest _ _ a' w' ι' hrest hev h' (fun s2 lg2 a2 w2 ι2 q1 q2 q3 => hQ s2 lg2 a2 w2 ι2 q1 q2 fun k v e => q3 k v (hlk k v e))
    ·cases hev
   have hskip : ∀ (s : St), SRel X keep w0 n ι s a w → evOps TT Δ n.ok ops false rest (z7z o s) lg K = some r → Region.wanted o (yielded ops a.tmps) = false → wpOpsIn (WF ρ) dp P ops Q (((i, o) :: rest).map (·.1)) a w := by
    intro s h hev hw
    rw [List.map_cons, wpOpsIn_cons]
    unfold wpOpIn
    rw [hi]
    simp only [hw]
    exact ⟨fun _ _ => trivial, z3K hP hΔ rest _ _ _ w ι hrest hev (h.skip hd) hQ⟩
   split at hev
   ·rename_i hg
    exact hrun s h hev (by simp [Region.wanted, hg])
   ·rename_i j want hg
    split at hev
    ·cases hev
    ·rename_i g hgd
     have htm := h.f.tm g
     split at hev
     ·rename_i b hb
      rw [hb, z0s] at htm
      have hy := z3k hgd htm
      have hw : Region.wanted o (yielded ops a.tmps) = (b == want) := by
       unfold Region.wanted
       rw [hg]
       simp only [hy]
       cases b <;> cases want <;> rfl
      have hk := h.known hb
      split at hev
      ·rename_i hbt
       subst hbt
       split at hev
       ·rename_i hwt
        subst hwt
        exact hrun _ hk hev (by rw [hw]; rfl)
       ·rename_i hwt
        have hwt : want = false := by simpa using hwt
        subst hwt
        exact hskip _ hk hev (by rw [hw]; rfl)
      ·rename_i hbt
       have hbt : b = false := by simpa using hbt
       subst hbt
       split at hev
       ·rename_i hwt
        subst hwt
        exact hskip _ hk hev (by rw [hw]; rfl)
       ·rename_i hwt
        have hwt : want = false := by simpa using hwt
        subst hwt
        exact hrun _ hk hev (by rw [hw]; rfl)
     ·rename_i hb
      rw [hb] at htm
      simp only [RelV] at htm
      have hy := z7L hgd htm
      exact hskip s h hev (by unfold Region.wanted; rw [hg]; simp [hy])
     ·cases hev
  ·cases hev
theorem z6Z (hP : z0q P TT) (hΔ : z0O P Δ) {ρ : Option Nat} {dp : Nat} {R : Type} {ops : Array Oper} {Q : Exit → Act → World → Prop} {r : R} {K : St → List LogE → Option R} (l : List (Nat × Oper)) (s : St) (lg : List LogE) (a : Act) (w : World) (ι : Nat → Option Value)
  (hl : ∀ p ∈ l, ops[p.1]? = some p.2) (hev : evOps TT Δ n.ok ops false l s lg K = some r) (h : SRel X keep w0 n ι s a w) (hQ : ∀ s' lg' a' w' ι', K s' lg' = some r → SRel X keep w0 n ι' s' a' w' → Q .normal a' w') : wpOpsIn (WF ρ) dp P ops Q (l.map (·.1)) a w :=
 z3K hP hΔ l s lg a w ι hl hev h fun s' lg' a' w' ι' h1 h2 _ => hQ s' lg' a' w' ι' h1 h2
end
end Go.Proofs.Rf
namespace Go.Proofs.Rf
open Go Go.RowKit
theorem z1y {k : Nat} : ∀ {l : List Nat}, memN k l = true ↔ k ∈ l
 | [] => by simp [memN]
 | j :: r => by
  simp only [memN, Bool.or_eq_true, List.mem_cons, z1y (l := r)]
  constructor
  ·rintro (h | h)
   ·exact .inl (Nat.eq_of_beq_eq_true h).symm
   ·exact .inr h
  ·rintro (h | h)
   ·subst h; exact .inl (Nat.beq_refl _)
   ·exact .inr h
theorem z1O : ∀ (u : List (Nat × Blk)) (C : Nat → Blk) (k : Nat), k ∉ z0U u → updC C u k = C k
 | [], _, _, _ => rfl
 | (j, b) :: r, C, k, h => by
  simp only [z0U, List.mem_cons, not_or] at h
  show updC (setC C j b) r k = C k
  rw [z1O r _ k h.2, z0f h.1]
theorem z5i : ∀ (u : List (Nat × Blk)) (C C' : Nat → Blk) (k : Nat), (C k = C' k ∨ k ∈ z0U u) → updC C u k = updC C' u k
 | [], _, _, _, h => h.resolve_right (by simp [z0U])
 | (j, b) :: r, C, C', k, h => by
  show updC (setC C j b) r k = updC (setC C' j b) r k
  apply z5i
  by_cases hk : k = j
  ·subst hk; left; rw [z0e, z0e]
  ·rw [z0f hk, z0f hk]
   refine h.imp id fun h => ?_
   simp only [z0U, List.mem_cons] at h
   exact h.resolve_left hk
theorem z1F : ∀ (new : List Blk) (C : Nat → Blk) (nb k : Nat), ¬ (nb ≤ k ∧ k < nb + new.length) → addC C nb new k = C k
 | [], _, _, _, _ => rfl
 | b :: r, C, nb, k, h => by
  show addC (setC C nb b) (nb + 1) r k = C k
  simp only [List.length_cons] at h
  rw [z1F r _ _ k (by omega), z0f (by omega)]
theorem z8m : ∀ (new : List Blk) (C C' : Nat → Blk) (nb k : Nat), (C k = C' k ∨ (nb ≤ k ∧ k < nb + new.length)) → addC C nb new k = addC C' nb new k
 | [], _, _, nb, k, h => h.resolve_right (by simp)
 | b :: r, C, C', nb, k, h => by
  show addC (setC C nb b) (nb + 1) r k = addC (setC C' nb b) (nb + 1) r k
  apply z8m
  by_cases hk : k = nb
  ·subst hk; left; rw [z0e, z0e]
  ·rw [z0f hk, z0f hk]
   simp only [List.length_cons] at h
   exact h.imp id fun h => by omega
def wrote (nb : Nat) (e : Eff) (k : Nat) : Prop := k ∈ z0U e.upd ∨ (nb ≤ k ∧ k < nb + e.new.length)
theorem z2T {C : Nat → Blk} {nb : Nat} {e : Eff} {k : Nat} (h : ¬ wrote nb e k) : effC C nb e k = C k := by
 unfold effC
 rw [z1F _ _ _ _ (fun q => h (.inr q)), z1O _ _ _ (fun q => h (.inl q))]
theorem z5u {C C' : Nat → Blk} {nb : Nat} {e : Eff} {k : Nat} (h : C k = C' k ∨ wrote nb e k) : effC C nb e k = effC C' nb e k := by
 unfold effC
 apply z8m
 rcases h with h | h | h
 ·exact .inl (z5i _ _ _ _ (.inl h))
 ·exact .inl (z5i _ _ _ _ (.inr h))
 ·exact .inr h
section
variable {X keep : Nat → Prop} {w0 w : World} {ι : Nat → Option Value} {C : Nat → Blk} {P : Program} {TT : Tab} {Δ : Nat → Option z0K} {n : z0N}
theorem z0S {ι : Nat → Option Value} {C : Nat → Blk} {k : Nat} (h : C k = .dead) : bk ι C k = [] := by unfold bk; rw [h]
def z3E (X : Nat → Prop) (ι : Nat → Option Value) (C : Nat → Blk) (m : List Nat) (b : Nat) : Prop := X b ∨ ∃ k, k ∉ m ∧ b ∈ bk ι C k
theorem z5l {m : List Nat} {C : Nat → Blk} {k : Nat} (h : k ∈ m) : resC m C k = C k := by unfold resC; rw [if_pos (z1y.2 h)]
theorem z4F {m : List Nat} {C : Nat → Blk} {k : Nat} (h : k ∉ m) : resC m C k = .dead := by unfold resC; rw [if_neg (fun q => h (z1y.1 q))]
theorem z2M {m : List Nat} {b : Nat} : owned ι (resC m C) b ↔ ∃ k, k ∈ m ∧ b ∈ bk ι C k := by
 constructor
 ·rintro ⟨k, hk⟩
  by_cases hm : k ∈ m
  ·exact ⟨k, hm, by rw [z0D (ι := ι) (C := C) (z5l hm) rfl] at hk; exact hk⟩
  ·rw [z0S (z4F hm)] at hk; cases hk
 ·rintro ⟨k, hm, hk⟩
  exact ⟨k, by rw [z0D (ι := ι) (C := C) (z5l hm) rfl]; exact hk⟩
theorem okb_res (m : List Nat) (b : Nat) : okb (z3E X ι C m) w ι (resC m C) b ↔ okb X w ι C b := by
 constructor
 ·rintro ⟨h1, h2, h3⟩
  refine ⟨h1, fun ⟨k, hk⟩ => ?_, fun hx => h3 (.inl hx)⟩
  by_cases hm : k ∈ m
  ·exact h2 (z2M.2 ⟨k, hm, hk⟩)
  ·exact h3 (.inr ⟨k, hm, hk⟩)
 ·rintro ⟨h1, h2, h3⟩
  refine ⟨h1, fun ho => ?_, ?_⟩
  ·obtain ⟨k, _, hk⟩ := z2M.1 ho
   exact h2 ⟨k, hk⟩
  ·rintro (hx | ⟨k, _, hk⟩)
   ·exact h3 hx
   ·exact h2 ⟨k, hk⟩
theorem HRel.res (h : HRel X keep w0 ι C w) (m : List Nat) : HRel (z3E X ι C m) (fun b => b < w.heap.size ∧ ¬ owned ι (resC m C) b) w ι (resC m C) w := by
 have hok : okb (z3E X ι C m) w ι (resC m C) = okb X w ι C := funext fun b => propext (okb_res m b)
 refine ⟨fun k => ?_, fun k k' b h1 h2 => ?_, Kept.refl _ _, fun b hb hk => hk.2 hb, fun b hb => hb.1, fun b hb hx => ?_, fun b hx => ?_, by rw [hok]; exact h.gl⟩
 ·rw [hok]
  by_cases hm : k ∈ m
  ·rw [z5l hm]; exact h.bl k
  ·rw [z4F hm]; trivial
 ·by_cases hm : k ∈ m
  ·by_cases hm' : k' ∈ m
   ·rw [z0D (z5l hm) rfl] at h1
    rw [z0D (z5l hm') rfl] at h2
    exact h.inj k k' b h1 h2
   ·rw [z0S (z4F hm')] at h2; cases h2
  ·rw [z0S (z4F hm)] at h1; cases h1
 ·obtain ⟨k, hm, hk⟩ := z2M.1 hb
  rcases hx with hx | ⟨k', hm', hk'⟩
  ·exact h.ox b ⟨k, hk⟩ hx
  ·exact hm' (h.inj k k' b hk hk' ▸ hm)
 ·rcases hx with hx | ⟨k', _, hk'⟩
  ·exact Nat.lt_of_lt_of_le (h.xl b hx) h.fr.size
  ·exact h.lt ⟨k', hk'⟩
theorem Out.back (h : HRel X keep w0 ι C w) {m : List Nat} {nb : Nat} {e : Eff} {v : Value} {w' : World} (hsub : ∀ k ∈ z0U e.upd, k ∈ m) (hnew : ∀ k, nb ≤ k → k < nb + e.new.length → ι k = none)
  (ho : Out (z3E X ι C m) (fun b => b < w.heap.size ∧ ¬ owned ι (resC m C) b) w ι (resC m C) w nb e v w') : Out X keep w0 ι C w nb e v w' := by
 obtain ⟨ι', H, E, V, I⟩ := ho
 have hokw : okb (z3E X ι C m) w ι (resC m C) = okb X w ι C := funext fun b => propext (okb_res m b)
 have hin : ∀ k, k ∈ m ∨ wrote nb e k → effC C nb e k = effC (resC m C) nb e k := fun k hk => z5u (hk.imp (fun q => (z5l q).symm) id)
 have hout : ∀ k, k ∉ m → ¬ wrote nb e k → effC C nb e k = C k ∧ effC (resC m C) nb e k = .dead := fun k h1 h2 => ⟨z2T h2, by rw [z2T h2, z4F h1]⟩
 have hιo : ∀ k, ¬ wrote nb e k → ι' k = ι k := fun k hk => I k (fun q => hk (.inr q))
 have hbn : ∀ k, k ∉ m → wrote nb e k → bk ι C k = [] := by
  rintro k h1 (h2 | h2)
  ·exact absurd (hsub k h2) h1
  ·unfold bk
   rw [hnew k h2.1 h2.2]
   cases C k <;> (try rfl)
   rename_i rw; cases rw <;> rfl
 have hbk : ∀ k, k ∉ m → ¬ wrote nb e k → bk ι' (effC C nb e) k = bk ι C k := fun k h1 h2 => z0D (hout k h1 h2).1 (hιo k h2)
 have hbi : ∀ k, k ∈ m ∨ wrote nb e k → bk ι' (effC C nb e) k = bk ι' (effC (resC m C) nb e) k := fun k hk => z0D (hin k hk) rfl
 have hown : ∀ b, owned ι' (effC C nb e) b ↔ owned ι' (effC (resC m C) nb e) b ∨ ∃ k, k ∉ m ∧ b ∈ bk ι C k := by
  intro b
  constructor
  ·rintro ⟨k, hk⟩
   by_cases hc : k ∈ m ∨ wrote nb e k
   ·exact .inl ⟨k, by rw [← hbi k hc]; exact hk⟩
   ·simp only [not_or] at hc
    exact .inr ⟨k, hc.1, by rw [← hbk k hc.1 hc.2]; exact hk⟩
  ·rintro (⟨k, hk⟩ | ⟨k, hm, hk⟩)
   ·by_cases hc : k ∈ m ∨ wrote nb e k
    ·exact ⟨k, by rw [hbi k hc]; exact hk⟩
    ·simp only [not_or] at hc
     rw [z0S (hout k hc.1 hc.2).2] at hk; cases hk
   ·by_cases hwr : wrote nb e k
    ·rw [hbn k hm hwr] at hk; cases hk
    ·exact ⟨k, by rw [hbk k hm hwr]; exact hk⟩
 have hok : okb (z3E X ι C m) w' ι' (effC (resC m C) nb e) = okb X w' ι' (effC C nb e) := by
  funext b
  apply propext
  constructor
  ·rintro ⟨h1, h2, h3⟩
   refine ⟨h1, fun ho => ?_, fun hx => h3 (.inl hx)⟩
   rcases (hown b).1 ho with q | q
   ·exact h2 q
   ·exact h3 (.inr q)
  ·rintro ⟨h1, h2, h3⟩
   refine ⟨h1, fun ho => h2 ((hown b).2 (.inl ho)), ?_⟩
   rintro (hx | q)
   ·exact h3 hx
   ·exact h2 ((hown b).2 (.inr q))
 have hext : Ext X ι C w ι' (effC C nb e) w' := by
  refine ⟨E.io, fun b hb => ?_, fun b hb => ?_⟩
  ·rw [← hok]; exact E.ok b (by rw [hokw]; exact hb)
  ·exact E.ce b (by rw [hokw]; exact hb)
 refine ⟨ι', ⟨fun k => ?_, fun k k' b h1 h2 => ?_, ?_, fun b hb hk => ?_, h.kl, fun b hb hx => ?_, h.xl, h.gl.ext hext⟩, hext, by rw [← hok]; exact V, I⟩
 ·by_cases hc : k ∈ m ∨ wrote nb e k
  ·rw [← hok, hin k hc]; exact H.bl k
  ·simp only [not_or] at hc
   refine z7s hext k (h.bl k) (hout k hc.1 hc.2).1 fun b hb => ?_
   refine H.fr.block b ⟨h.lt ⟨k, hb⟩, fun ho => ?_⟩ (h.lt ⟨k, hb⟩)
   obtain ⟨k', hm', hk'⟩ := z2M.1 ho
   exact hc.1 (h.inj k' k b hk' hb ▸ hm')
 ·have cross : ∀ k k', (k ∈ m ∨ wrote nb e k) → ¬ (k' ∈ m ∨ wrote nb e k') → b ∈ bk ι' (effC C nb e) k → b ∈ bk ι' (effC C nb e) k' → False := by
   intro k k' hc hc' h1 h2
   simp only [not_or] at hc'
   rw [hbi k hc] at h1
   rw [hbk k' hc'.1 hc'.2] at h2
   exact H.ox b ⟨k, h1⟩ (.inr ⟨k', hc'.1, h2⟩)
  by_cases hc : k ∈ m ∨ wrote nb e k <;> by_cases hc' : k' ∈ m ∨ wrote nb e k'
  ·exact H.inj k k' b (by rw [← hbi k hc]; exact h1) (by rw [← hbi k' hc']; exact h2)
  ·exact (cross k k' hc hc' h1 h2).elim
  ·exact (cross k' k hc' hc h2 h1).elim
  ·simp only [not_or] at hc hc'
   exact h.inj k k' b (by rw [← hbk k hc.1 hc.2]; exact h1) (by rw [← hbk k' hc'.1 hc'.2]; exact h2)
 ·refine h.fr.trans ⟨H.fr.os, H.fr.tape, H.fr.output, H.fr.size, fun b hb hl => H.fr.block b ⟨hl, fun ho => ?_⟩ hl⟩
  obtain ⟨k, _, hk'⟩ := z2M.1 ho
  exact h.own b ⟨k, hk'⟩ hb
 ·rcases (hown b).1 hb with q | ⟨k, _, hk'⟩
  ·refine H.own b q ⟨Nat.lt_of_lt_of_le (h.kl b hk) h.fr.size, fun ho => ?_⟩
   obtain ⟨k, _, hk'⟩ := z2M.1 ho
   exact h.own b ⟨k, hk'⟩ hk
  ·exact h.own b ⟨k, hk'⟩ hk
 ·rcases (hown b).1 hb with q | ⟨k, _, hk'⟩
  ·exact H.ox b q (.inl hx)
  ·exact h.ox b ⟨k, hk'⟩ hx
theorem evOp_local (hP : z0q P TT) (hΔ : z0O P Δ) {T : Nat → AV} {a : Act} (h : FRel X keep w0 n ι T C a w) {o : Oper} {l m : List Nat} {nb : Nat} {e : Eff}
  (hev : evOp TT Δ o (resT l T) (resC m C) nb (R := Eff) some = some e) (hsub : ∀ k ∈ z0U e.upd, k ∈ m) (hn : ∀ k, nb ≤ k → k < nb + e.new.length → ι k = none) {Q : Exit → Act → World → Prop} :
  o.wp P a w (fun a' w' => ∃ v, a' = a.put o.dst v ∧ Out X keep w0 ι C w nb e v w') Q := by
 have hH := h.h.res m
 have hokw : okb (z3E X ι C m) w ι (resC m C) = okb X w ι C := funext fun b => propext (okb_res m b)
 have hT : ∀ t, RelV w (okb (z3E X ι C m) w ι (resC m C)) ι (resT l T t) (a.tmps.getD t undef) := by
  intro t
  rw [hokw]
  unfold resT
  split
  ·exact h.tm t
  ·simp only [RelV]
 refine Oper.wp_mono ?_ (z8f hP hΔ hH hT hev hn (Q := Q))
 rintro a' w' ⟨v, e1, ho⟩
 exact ⟨v, e1, ho.back h.h hsub hn⟩
end
end Go.Proofs.Rf
namespace Go.Proofs.Rf
open Go Go.RowKit
structure Ent where
 i : Nat
 o : Oper
 T : Nat → AV
 C : Nat → Blk
 nb : Nat
 skip : Bool
 e : Eff
def Ent.dv (x : Ent) : AV := if x.skip = true then .ud else x.e.dst
def Ent.C' (x : Ent) : Nat → Blk := if x.skip = true then x.C else effC x.C x.nb x.e
def Ent.nb' (x : Ent) : Nat := if x.skip = true then x.nb else x.nb + x.e.new.length
def Ent.ids (x : Ent) : List Nat := touchOf x.o x.T x.C
def Ent.log (x : Ent) : LogE := ⟨x.i, x.ids, z0U x.e.upd, z0u x.nb x.e.new.length⟩
def z7x (ops : Array Oper) (T : Nat → AV) (o : Oper) : Prop := o.guard = none ∨ ∃ j want g, o.guard = some (j, want) ∧ (ops[j]?).bind (·.dst) = some g ∧ T g = .d .bool want
def z5g (ops : Array Oper) (T : Nat → AV) (o : Oper) : Prop := ∃ j want g, o.guard = some (j, want) ∧ (ops[j]?).bind (·.dst) = some g ∧ (T g = .d .bool (!want) ∨ T g = .ud)
section
variable {X keep : Nat → Prop} {w0 w : World} {ι : Nat → Option Value} {C : Nat → Blk} {P : Program} {TT : Tab} {Δ : Nat → Option z0K} {n : Nat → Bool}
def Tr (TT : Tab) (Δ : Nat → Option z0K) (n : Nat → Bool) (ops : Array Oper) : List (Nat × Oper) → (Nat → AV) → (Nat → Blk) → Nat → List Ent → (Nat → AV) → (Nat → Blk) → Nat → Prop
 | [], T, C, nb, es, T', C', nb' => es = [] ∧ T' = T ∧ C' = C ∧ nb' = nb
 | p :: r, T, C, nb, es, T', C', nb' => ∃ x xs, es = x :: xs ∧ x.i = p.1 ∧ x.o = p.2 ∧ x.T = T ∧ x.C = C ∧ x.nb = nb ∧ dstOk n x.o = true ∧
   (if x.skip = true then z5g ops T x.o else z7x ops T x.o ∧ evOp TT Δ x.o (resT (z2N x.o.op.operands.toList) T) (resC x.ids C) nb (R := Eff) some = some x.e) ∧
   Tr TT Δ n ops r (effT T x.o.dst x.dv) x.C' x.nb' xs T' C' nb'
def logsOf : List Ent → List LogE
 | [] => []
 | x :: r => if x.skip = true then logsOf r else logsOf r ++ [x.log]
theorem trace (hΔ : z0O P Δ) {R : Type} {ops : Array Oper} {r : R} {K : St → List LogE → Option R} : ∀ (l : List (Nat × Oper)) (s : St) (lg : List LogE), evOps TT Δ n ops true l s lg K = some r →
  ∃ es s' , Tr TT Δ n ops l (getT s.tm) (getB s.bl) s.bl.length es (getT s'.tm) (getB s'.bl) s'.bl.length ∧ K s' (logsOf es ++ lg) = some r
 | [], s, lg, h => ⟨[], s, ⟨rfl, rfl, rfl, rfl⟩, h⟩
 | (i, o) :: rest, s, lg, hev => by
  simp only [evOps] at hev
  split at hev
  ·rename_i hd
   have hrun : ∀ (s0 : St), getT s0.tm = getT s.tm → s0.bl = s.bl → z7x ops (getT s.tm) o → (evOpD TT Δ true o s0 fun e => if updLt s0.bl.length e.upd = true then evOps TT Δ n ops true rest (z7B o s0 e) (logOf i o s0 e :: lg) K else none) = some r →
     ∃ es s' , Tr TT Δ n ops ((i, o) :: rest) (getT s.tm) (getB s.bl) s.bl.length es (getT s'.tm) (getB s'.bl) s'.bl.length ∧ K s' (logsOf es ++ lg) = some r := by
    intro s0 h1 h2 hg hev
    unfold evOpD at hev
    rw [if_pos rfl, evOp_nat hΔ] at hev
    obtain ⟨e, he, hev⟩ := z0H hev
    split at hev
    ·rename_i hu
     obtain ⟨es, s', ht, hk⟩ := trace hΔ rest _ _ hev
     rw [stepE_tm, stepE_bl, getB_eff hu, h1] at ht
     rw [h1, h2] at he
     refine ⟨⟨i, o, getT s.tm, getB s.bl, s.bl.length, false, e⟩ :: es, s', ⟨_, _, rfl, rfl, rfl, rfl, rfl, rfl, hd, ?_, ?_⟩, ?_⟩
     ·simp only [Bool.false_eq_true, if_false]
      exact ⟨hg, he⟩
     ·rw [h2, List.length_append, z2X] at ht
      exact ht
     ·show K s' ((logsOf es ++ [_]) ++ lg) = some r
      rw [List.append_assoc]
      unfold logOf at hk
      rw [h1, h2] at hk
      exact hk
    ·cases hev
   have hskip : ∀ (s0 : St), getT s0.tm = getT s.tm → s0.bl = s.bl → z5g ops (getT s.tm) o → evOps TT Δ n ops true rest (z7z o s0) lg K = some r →
     ∃ es s' , Tr TT Δ n ops ((i, o) :: rest) (getT s.tm) (getB s.bl) s.bl.length es (getT s'.tm) (getB s'.bl) s'.bl.length ∧ K s' (logsOf es ++ lg) = some r := by
    intro s0 h1 h2 hg hev
    obtain ⟨es, s', ht, hk⟩ := trace hΔ rest _ _ hev
    rw [stepS_tm, stepS_bl, h1, h2] at ht
    exact ⟨⟨i, o, getT s.tm, getB s.bl, s.bl.length, true, ⟨.un, [], []⟩⟩ :: es, s', ⟨_, _, rfl, rfl, rfl, rfl, rfl, rfl, hd, by simp only [if_true]; exact hg, ht⟩, hk⟩
   have hknown : ∀ g b, getT s.tm g = .d .bool b → getT ((g, .d .bool b) :: s.tm) = getT s.tm := by
    intro g b hg
    rw [z3x]
    funext t
    unfold effT
    split
    ·rename_i e
     injection e with e
     subst e
     exact hg.symm
    ·rfl
   split at hev
   ·rename_i hg
    exact hrun s rfl rfl (.inl hg) hev
   ·rename_i j want hg
    split at hev
    ·cases hev
    ·rename_i g hgd
     split at hev
     ·rename_i b hb
      split at hev
      ·rename_i hbt
       subst hbt
       split at hev
       ·rename_i hwt
        subst hwt
        exact hrun ⟨(g, .d .bool true) :: s.tm, s.bl⟩ (hknown g _ hb) rfl (.inr ⟨j, true, g, hg, hgd, hb⟩) hev
       ·rename_i hwt
        have hwt : want = false := by simpa using hwt
        subst hwt
        exact hskip ⟨(g, .d .bool true) :: s.tm, s.bl⟩ (hknown g _ hb) rfl ⟨j, false, g, hg, hgd, .inl hb⟩ hev
      ·rename_i hbt
       have hbt : b = false := by simpa using hbt
       subst hbt
       split at hev
       ·rename_i hwt
        subst hwt
        exact hskip ⟨(g, .d .bool false) :: s.tm, s.bl⟩ (hknown g _ hb) rfl ⟨j, true, g, hg, hgd, .inl hb⟩ hev
       ·rename_i hwt
        have hwt : want = false := by simpa using hwt
        subst hwt
        exact hrun ⟨(g, .d .bool false) :: s.tm, s.bl⟩ (hknown g _ hb) rfl (.inr ⟨j, false, g, hg, hgd, hb⟩) hev
     ·rename_i hb
      exact hskip s rfl rfl ⟨j, want, g, hg, hgd, .inr hb⟩ hev
     ·cases hev
  ·cases hev
def selT (S : Nat → Bool) : List Ent → (Nat → AV) → Nat → AV
 | [], T => T
 | x :: r, T => selT S r (if S x.i = true then effT T x.o.dst x.dv else T)
def selC (S : Nat → Bool) : List Ent → (Nat → Blk) → Nat → Blk
 | [], C => C
 | x :: r, C => selC S r (if S x.i = true ∧ x.skip = false then effC C x.nb x.e else C)
theorem z2J {S S' : Nat → Bool} {t : Nat} : ∀ (es : List Ent) (T T' : Nat → AV), T t = T' t → (∀ x ∈ es, x.o.dst = some t → S x.i = S' x.i) → selT S es T t = selT S' es T' t
 | [], _, _, h, _ => h
 | x :: r, T, T', h, hs => by
  refine z2J r _ _ ?_ (fun y hy => hs y (List.mem_cons_of_mem _ hy))
  have h1 := hs x (List.mem_cons_self ..)
  by_cases hd : x.o.dst = some t
  ·rw [h1 hd]
   split
   ·simp only [effT, hd, if_true]
   ·exact h
  ·have e1 : ∀ T : Nat → AV, effT T x.o.dst x.dv t = T t := fun T => by simp only [effT, hd, if_false]
   split <;> split <;> simp only [e1, h]
theorem z2k {S S' : Nat → Bool} {k : Nat} : ∀ (es : List Ent) (C C' : Nat → Blk), C k = C' k → (∀ x ∈ es, x.skip = false → wrote x.nb x.e k → S x.i = S' x.i) → selC S es C k = selC S' es C' k
 | [], _, _, h, _ => h
 | x :: r, C, C', h, hs => by
  refine z2k r _ _ ?_ (fun y hy => hs y (List.mem_cons_of_mem _ hy))
  have h1 := hs x (List.mem_cons_self ..)
  by_cases hk : x.skip = false
  ·by_cases hd : wrote x.nb x.e k
   ·rw [h1 hk hd]
    split
    ·exact z5u (.inr hd)
    ·exact h
   ·have e1 : ∀ C : Nat → Blk, effC C x.nb x.e k = C k := fun C => z2T hd
    split <;> split <;> simp only [e1, h]
  ·rw [if_neg (fun q => hk q.2), if_neg (fun q => hk q.2)]
   exact h
theorem z4A {S : Nat → Bool} {t : Nat} : ∀ (es : List Ent) (T : Nat → AV), (∀ x ∈ es, x.o.dst = some t → S x.i = false) → selT S es T t = T t
 | [], _, _ => rfl
 | x :: r, T, h => by
  show selT S r _ t = T t
  rw [z4A r _ (fun y hy => h y (List.mem_cons_of_mem _ hy))]
  split
  ·rename_i hs
   by_cases hd : x.o.dst = some t
   ·rw [h x (List.mem_cons_self ..) hd] at hs; cases hs
   ·simp only [effT, hd, if_false]
  ·rfl
theorem z4B {S : Nat → Bool} {k : Nat} : ∀ (es : List Ent) (C : Nat → Blk), (∀ x ∈ es, x.skip = false → wrote x.nb x.e k → S x.i = false) → selC S es C k = C k
 | [], _, _ => rfl
 | x :: r, C, h => by
  show selC S r _ k = C k
  rw [z4B r _ (fun y hy => h y (List.mem_cons_of_mem _ hy))]
  split
  ·rename_i hs
   by_cases hd : wrote x.nb x.e k
   ·rw [h x (List.mem_cons_self ..) hs.2 hd] at hs; cases hs.1
   ·exact z2T hd
  ·rfl
theorem z4h (S : Nat → Bool) : ∀ (es fs : List Ent) (T : Nat → AV), selT S (es ++ fs) T = selT S fs (selT S es T)
 | [], _, _ => rfl
 | _ :: r, fs, _ => z4h S r fs _
theorem z4i (S : Nat → Bool) : ∀ (es fs : List Ent) (C : Nat → Blk), selC S (es ++ fs) C = selC S fs (selC S es C)
 | [], _, _ => rfl
 | _ :: r, fs, _ => z4i S r fs _
structure EntsOK (TT : Tab) (Δ : Nat → Option z0K) (n : Nat → Bool) (ops : Array Oper) (i0 : Nat) (T : Nat → AV) (C : Nat → Blk) (nb : Nat) (es : List Ent) : Prop where
 split : ∀ x es1 es2, es = es1 ++ x :: es2 → x.T = selT (fun _ => true) es1 T ∧ x.C = selC (fun _ => true) es1 C ∧ x.i = i0 + es1.length ∧ nb ≤ x.nb ∧ dstOk n x.o = true ∧
  (∀ y ∈ es1, y.i < x.i ∧ y.nb' ≤ x.nb) ∧ (∀ y ∈ es2, x.i < y.i ∧ x.nb' ≤ y.nb) ∧
  (if x.skip = true then z5g ops x.T x.o else z7x ops x.T x.o ∧ evOp TT Δ x.o (resT (z2N x.o.op.operands.toList) x.T) (resC x.ids x.C) x.nb (R := Eff) some = some x.e)
theorem Ent.nb_le (x : Ent) : x.nb ≤ x.nb' := by unfold Ent.nb'; split <;> omega
theorem Tr.ents {ops : Array Oper} : ∀ (l : List Oper) (i0 : Nat) (T : Nat → AV) (C : Nat → Blk) (nb : Nat) (es : List Ent) (T' : Nat → AV) (C' : Nat → Blk) (nb' : Nat), Tr TT Δ n ops (zipN i0 l) T C nb es T' C' nb' →
  EntsOK TT Δ n ops i0 T C nb es ∧ es.map (·.o) = l ∧ T' = selT (fun _ => true) es T ∧ C' = selC (fun _ => true) es C ∧ nb ≤ nb' ∧ ∀ y ∈ es, i0 ≤ y.i ∧ nb ≤ y.nb ∧ y.nb' ≤ nb'
 | [], i0, T, C, nb, es, T', C', nb', h => by
  obtain ⟨rfl, rfl, rfl, rfl⟩ := h
  exact ⟨⟨fun x es1 es2 h => by simp at h⟩, rfl, rfl, rfl, Nat.le_refl _, by simp⟩
 | o :: r, i0, T, C, nb, es, T', C', nb', h => by
  obtain ⟨x, xs, rfl, h1, h2, h3, h4, h5, h6, h7, h8⟩ := h
  obtain ⟨k1, k2, k3, k4, k5, k6⟩ := Tr.ents r (i0 + 1) _ _ _ xs T' C' nb' h8
  have hx := x.nb_le
  have eT : (if (fun _ => true) x.i = true then effT T x.o.dst x.dv else T) = effT T x.o.dst x.dv := by simp
  have eC : (if (fun _ => true) x.i = true ∧ x.skip = false then effC C x.nb x.e else C) = x.C' := by
   unfold Ent.C'
   cases hsk : x.skip
   ·simp [h4]
   ·simp [h4]
  refine ⟨⟨fun y es1 es2 he => ?_⟩, by rw [List.map_cons, k2, h2], ?_, ?_, by omega, ?_⟩
  ·cases es1 with
   | nil =>
    simp only [List.nil_append, List.cons.injEq] at he
    obtain ⟨rfl, rfl⟩ := he
    refine ⟨h3, h4, h1, by omega, h6, by simp, fun y hy => ?_, ?_⟩
    ·obtain ⟨q1, q2, _⟩ := k6 y hy
     rw [h1]
     exact ⟨q1, q2⟩
    ·rw [h3, h4, h5]; exact h7
   | cons z es1 =>
    simp only [List.cons_append, List.cons.injEq] at he
    obtain ⟨rfl, rfl⟩ := he
    obtain ⟨q1, q2, q3, q4, q5, q6, q7, q8⟩ := k1.split y es1 es2 rfl
    refine ⟨?_, ?_, by rw [q3, List.length_cons]; omega, by omega, q5, fun u hu => ?_, q7, q8⟩
    ·rw [q1]; show _ = selT _ es1 _; rw [eT]
    ·rw [q2]; show _ = selC _ es1 _; rw [eC]
    ·rcases List.mem_cons.1 hu with rfl | hu
     ·rw [h1, q3]; exact ⟨by omega, q4⟩
     ·exact q6 u hu
  ·rw [k3]; show _ = selT _ xs _; rw [eT]
  ·rw [k4]; show _ = selC _ xs _; rw [eC]
  ·intro y hy
   rcases List.mem_cons.1 hy with rfl | hy
   ·exact ⟨by rw [h1]; exact Nat.le_refl _, by omega, k5⟩
   ·obtain ⟨q1, q2, q3⟩ := k6 y hy
    exact ⟨by omega, by omega, q3⟩
end
end Go.Proofs.Rf
namespace Go.Proofs.Rf
open Go Go.RowKit
theorem z6G {acc : List Nat} {j : Nat} : ∀ (es : List Edge), (predsOf acc es).testBit j = true ↔ ∃ e ∈ es, Region.binds .any e = true ∧ (e.on = j ∨ (acc.getD e.on 0).testBit j = true)
 | [] => by simp [predsOf]
 | e :: r => by
  have ih := z6G (acc := acc) (j := j) r
  unfold predsOf
  by_cases hb : Region.binds .any e = true
  ·rw [if_pos hb, Nat.testBit_or, Nat.testBit_or, Bool.or_eq_true, Bool.or_eq_true, ih, Nat.testBit_two_pow]
   constructor
   ·rintro ((⟨e', h1, h2⟩ | h) | h)
    ·exact ⟨e', List.mem_cons_of_mem _ h1, h2⟩
    ·exact ⟨e, List.mem_cons_self .., hb, .inl (by simpa using h)⟩
    ·exact ⟨e, List.mem_cons_self .., hb, .inr h⟩
   ·rintro ⟨e', h1, h2, h3⟩
    rcases List.mem_cons.1 h1 with rfl | h1
    ·rcases h3 with h3 | h3
     ·exact .inl (.inr (by simpa using h3))
     ·exact .inr h3
    ·exact .inl (.inl ⟨e', h1, h2, h3⟩)
  ·rw [if_neg hb, ih]
   constructor
   ·rintro ⟨e', h1, h2⟩
    exact ⟨e', List.mem_cons_of_mem _ h1, h2⟩
   ·rintro ⟨e', h1, h2, h3⟩
    rcases List.mem_cons.1 h1 with rfl | h1
    ·exact absurd h2 hb
    ·exact ⟨e', h1, h2, h3⟩
theorem z3v : ∀ (l : List Oper) (acc : List Nat), ∃ r, masks l acc = acc ++ r ∧ r.length = l.length
 | [], acc => ⟨[], by simp [masks], rfl⟩
 | o :: l, acc => by
  obtain ⟨r, h1, h2⟩ := z3v l (acc ++ [predsOf acc o.after.toList])
  exact ⟨predsOf acc o.after.toList :: r, by rw [masks, h1]; simp, by simp [h2]⟩
theorem masks_at : ∀ (l : List Oper) (acc : List Nat) (k : Nat) (o : Oper), l[k]? = some o → (masks l acc).getD (acc.length + k) 0 = predsOf ((masks l acc).take (acc.length + k)) o.after.toList
 | [], _, k, _, h => by simp at h
 | o' :: l, acc, 0, o, h => by
  simp only [List.getElem?_cons_zero, Option.some.injEq] at h
  subst h
  obtain ⟨r, h1, _⟩ := z3v l (acc ++ [predsOf acc o'.after.toList])
  rw [masks, h1, Nat.add_zero, List.append_assoc]
  simp
 | o' :: l, acc, k + 1, o, h => by
  have := masks_at l (acc ++ [predsOf acc o'.after.toList]) k o (by simpa using h)
  rw [List.length_append, List.length_singleton, Nat.add_assoc, Nat.add_comm 1 k] at this
  exact this
def PB (ops : Array Oper) (d j : Nat) : Prop := ((masks ops.toList []).getD d 0).testBit j = true
theorem z2U : ∀ (l : List Oper) (i k : Nat) (o : Oper), edgesOk i l = true → l[k]? = some o → ∀ e ∈ o.after.toList, Region.binds .any e = true → e.on < i + k
 | [], _, _, _, _, h, _, _, _ => by simp at h
 | o' :: l, i, 0, o, he, h, e, hm, hb => by
  simp only [List.getElem?_cons_zero, Option.some.injEq] at h
  subst h
  simp only [edgesOk, Bool.and_eq_true, List.all_eq_true] at he
  have := he.1 e hm
  simp only [hb, Bool.not_true, Bool.false_or] at this
  exact Nat.le_of_ble_eq_true this
 | o' :: l, i, k + 1, o, he, h, e, hm, hb => by
  simp only [edgesOk, Bool.and_eq_true] at he
  have := z2U l (i + 1) k o he.2 (by simpa using h) e hm hb
  omega
section
variable {ops : Array Oper} (hE : edgesOk 0 ops.toList = true)
include hE
theorem PB_iff {d : Nat} {o : Oper} (ho : ops[d]? = some o) (j : Nat) : PB ops d j ↔ ∃ e ∈ o.after.toList, Region.binds .any e = true ∧ (e.on = j ∨ PB ops e.on j) := by
 have ho' : ops.toList[d]? = some o := by rw [Array.getElem?_toList]; exact ho
 unfold PB
 have h1 := masks_at ops.toList [] d o ho'
 simp only [List.length_nil, Nat.zero_add] at h1
 rw [h1, z6G]
 constructor
 ·rintro ⟨e, h2, h3, h4⟩
  have hlt := z2U ops.toList 0 d o hE ho' e h2 h3
  refine ⟨e, h2, h3, h4.imp id fun h => ?_⟩
  rwa [List.getD_eq_getElem?_getD, List.getElem?_take, if_pos (by omega), ← List.getD_eq_getElem?_getD] at h
 ·rintro ⟨e, h2, h3, h4⟩
  have hlt := z2U ops.toList 0 d o hE ho' e h2 h3
  refine ⟨e, h2, h3, h4.imp id fun h => ?_⟩
  rwa [List.getD_eq_getElem?_getD, List.getElem?_take, if_pos (by omega), ← List.getD_eq_getElem?_getD]
theorem PB_lt : ∀ (m d j : Nat), d ≤ m → PB ops d j → j < d
 | m, d, j, hm, h => by
  by_cases hd : d < ops.size
  ·obtain ⟨o, ho⟩ : ∃ o, ops[d]? = some o := ⟨ops[d], Array.getElem?_eq_getElem hd⟩
   obtain ⟨e, h1, h2, h3⟩ := (PB_iff hE ho j).1 h
   have hlt := z2U ops.toList 0 d o hE (by rw [Array.getElem?_toList]; exact ho) e h1 h2
   rcases h3 with rfl | h3
   ·omega
   ·cases m with
    | zero => omega
    | succ m =>
     have := PB_lt m e.on j (by omega) h3
     omega
  ·unfold PB at h
   obtain ⟨r, h1, h2⟩ := z3v ops.toList []
   rw [List.getD_eq_getElem?_getD, List.getElem?_eq_none (by rw [h1]; simp [h2]; omega)] at h
   simp at h
end
def Shut (ops : Array Oper) (S : Nat → Bool) : Prop := ∀ d j, S d = true → PB ops d j → S j = true
theorem z6P {B : List Nat} {a : LogE} : ∀ {l : List LogE}, logOk1 B a l = true → ∀ b ∈ l, z5a a b = true ∨ waits B a.i b.i = true
 | [], _, b, h => by simp at h
 | c :: r, hl, b, h => by
  simp only [logOk1, Bool.and_eq_true, Bool.or_eq_true] at hl
  rcases List.mem_cons.1 h with rfl | h
  ·exact hl.1
  ·exact z6P hl.2 b h
theorem z2w {l m : List Nat} (h : meetN l m = false) : ∀ k ∈ l, k ∉ m := by
 induction l with
 | nil => simp
 | cons j r ih =>
  simp only [meetN, Bool.or_eq_false_iff] at h
  intro k hk
  rcases List.mem_cons.1 hk with rfl | hk
  ·intro hm
   rw [z1y.2 hm] at h
   cases h.1
  ·exact ih h.2 k hk
theorem apartL_symm {a b : LogE} (h : z5a a b = true) : z5a b a = true := by
 unfold z5a at h ⊢
 rw [Bool.and_comm]
 exact h
theorem z7N {B : List Nat} {i j : Nat} (h : waits B i j = true) : waits B j i = true := by
 unfold waits at h ⊢
 rw [Bool.or_comm]
 exact h
theorem logOk_at {B : List Nat} : ∀ {l : List LogE}, logOk B l = true → (∀ a ∈ l, subN a.wr a.touch = true) ∧ ∀ a ∈ l, ∀ b ∈ l, a = b ∨ z5a a b = true ∨ waits B a.i b.i = true
 | [], _ => by simp
 | c :: r, h => by
  simp only [logOk, Bool.and_eq_true] at h
  obtain ⟨h1, h2⟩ := logOk_at h.2
  refine ⟨fun a ha => ?_, fun a ha b hb => ?_⟩
  ·rcases List.mem_cons.1 ha with rfl | ha
   ·exact h.1.1
   ·exact h1 a ha
  ·rcases List.mem_cons.1 ha with rfl | ha' <;> rcases List.mem_cons.1 hb with rfl | hb'
   ·exact .inl rfl
   ·exact .inr (z6P h.1.2 b hb')
   ·exact .inr ((z6P h.1.2 a ha').imp apartL_symm z7N)
   ·exact h2 a ha' b hb'
theorem subN_iff : ∀ {l m : List Nat}, subN l m = true → ∀ k ∈ l, k ∈ m
 | [], _, _, k, h => by simp at h
 | j :: r, m, hs, k, h => by
  simp only [subN, Bool.and_eq_true] at hs
  rcases List.mem_cons.1 h with rfl | h
  ·exact z1y.1 hs.1
  ·exact subN_iff hs.2 k h
theorem z1D : ∀ {m a k : Nat}, k ∈ z0u a m ↔ a ≤ k ∧ k < a + m
 | 0, a, k => by simp [z0u]
 | m + 1, a, k => by
  simp only [z0u, List.mem_cons, z1D (m := m)]
  omega
theorem z2Q {x : Ent} : ∀ {es : List Ent}, x ∈ es → x.skip = false → x.log ∈ logsOf es
 | [], h, _ => by simp at h
 | y :: r, h, hs => by
  unfold logsOf
  rcases List.mem_cons.1 h with rfl | h
  ·rw [if_neg (by simp [hs])]
   exact List.mem_append_right _ (List.mem_singleton.2 rfl)
  ·split
   ·exact z2Q h hs
   ·exact List.mem_append_left _ (z2Q h hs)
theorem z7Q {ops : Array Oper} {B : List Nat} {i : Nat} {x : Oper} : ∀ (l : List Oper) (j k : Nat) (y : Oper), z6p ops B i x j l = true → l[k]? = some y → waits B i (j + k) = true ∨ x.apart ops y = true
 | [], _, _, _, _, h => by simp at h
 | y' :: l, j, 0, y, ht, h => by
  simp only [List.getElem?_cons_zero, Option.some.injEq] at h
  subst h
  simp only [z6p, Bool.and_eq_true, Bool.or_eq_true] at ht
  exact ht.1
 | y' :: l, j, k + 1, y, ht, h => by
  simp only [z6p, Bool.and_eq_true] at ht
  have := z7Q l (j + 1) k y ht.2 (by simpa using h)
  rwa [show j + (k + 1) = j + 1 + k by omega]
theorem z6o {ops : Array Oper} {B : List Nat} : ∀ (l : List Oper) (i k k' : Nat) (x y : Oper), z7R ops B i l = true → k < k' → l[k]? = some x → l[k']? = some y → waits B (i + k) (i + k') = true ∨ x.apart ops y = true
 | [], _, _, _, _, _, _, _, h, _ => by simp at h
 | x' :: l, i, 0, k', x, y, ht, hlt, hx, hy => by
  simp only [List.getElem?_cons_zero, Option.some.injEq] at hx
  subst hx
  simp only [z7R, Bool.and_eq_true] at ht
  obtain ⟨m, rfl⟩ : ∃ m, k' = m + 1 := ⟨k' - 1, by omega⟩
  have := z7Q l (i + 1) m y ht.1 (by simpa using hy)
  rwa [Nat.add_zero, show i + (m + 1) = i + 1 + m by omega]
 | x' :: l, i, k + 1, k', x, y, ht, hlt, hx, hy => by
  simp only [z7R, Bool.and_eq_true] at ht
  obtain ⟨m, rfl⟩ : ∃ m, k' = m + 1 := ⟨k' - 1, by omega⟩
  have := z6o l (i + 1) k m x y ht.2 (by omega) (by simpa using hx) (by simpa using hy)
  rwa [show i + (k + 1) = i + 1 + k by omega, show i + (m + 1) = i + 1 + m by omega]
theorem z8i {ops : Array Oper} {x y : Oper} (h : x.apart ops y = true ∨ y.apart ops x = true) : ∀ d, x.dst = some d → d ∉ y.looksAt ops ∧ y.dst ≠ some d := by
 intro d hd
 rcases h with h | h
 ·obtain ⟨h1, h2, h3⟩ := Oper.apart_spec h
  exact ⟨h1 d hd, h2 d hd⟩
 ·obtain ⟨h1, h2, h3⟩ := Oper.apart_spec h
  exact ⟨h3 d hd, fun e => h2 d e hd⟩
theorem z2P {t : Nat} : ∀ {l : List Operand}, t ∈ z2N l → Operand.tmp t ∈ l
 | [], h => by simp [z2N] at h
 | .tmp u :: r, h => by
  simp only [z2N, List.mem_cons] at h
  rcases h with rfl | h
  ·exact List.mem_cons_self ..
  ·exact List.mem_cons_of_mem _ (z2P h)
 | .const _ :: r, h => List.mem_cons_of_mem _ (z2P (l := r) h)
 | .global _ :: r, h => List.mem_cons_of_mem _ (z2P (l := r) h)
 | .func _ :: r, h => List.mem_cons_of_mem _ (z2P (l := r) h)
theorem looks_op {ops : Array Oper} {o : Oper} {t : Nat} (h : t ∈ z2N o.op.operands.toList) : t ∈ o.looksAt ops := by
 unfold Oper.looksAt
 exact List.mem_append_left _ (List.mem_filterMap.2 ⟨.tmp t, z2P h, rfl⟩)
theorem looks_guard {ops : Array Oper} {o : Oper} {j g : Nat} {want : Bool} (h : o.guard = some (j, want)) (hg : (ops[j]?).bind (·.dst) = some g) : g ∈ o.looksAt ops := by
 unfold Oper.looksAt
 rw [h]
 exact List.mem_append_right _ (by simp [hg])
end Go.Proofs.Rf
namespace Go.Proofs.Rf
open Go Go.RowKit
section
variable {X keep : Nat → Prop} {w0 w : World} {ι : Nat → Option Value} {C : Nat → Blk} {P : Program} {TT : Tab} {Δ : Nat → Option z0K} {n : z0N} {no : Nat → Bool}
theorem wanted_on {ops : Array Oper} {T : Nat → AV} {a : Act} {okb : Nat → Prop} {o : Oper} (hT : ∀ t, RelV w okb ι (T t) (a.tmps.getD t undef)) (h : z7x ops T o) : Region.wanted o (yielded ops a.tmps) = true := by
 rcases h with h | ⟨j, want, g, hg, hgd, hb⟩
 ·simp [Region.wanted, h]
 ·have htm := hT g
  rw [hb, z0s] at htm
  have hy := z3k hgd htm
  unfold Region.wanted
  rw [hg]
  simp only [hy]
  cases want <;> rfl
theorem wanted_off {ops : Array Oper} {T : Nat → AV} {a : Act} {okb : Nat → Prop} {o : Oper} (hT : ∀ t, RelV w okb ι (T t) (a.tmps.getD t undef)) (h : z5g ops T o) : Region.wanted o (yielded ops a.tmps) = false := by
 obtain ⟨j, want, g, hg, hgd, hb⟩ := h
 have htm := hT g
 rcases hb with hb | hb
 ·rw [hb, z0s] at htm
  have hy := z3k hgd htm
  unfold Region.wanted
  rw [hg]
  simp only [hy]
  cases want <;> rfl
 ·rw [hb] at htm
  simp only [RelV] at htm
  have hy := z7L hgd htm
  unfold Region.wanted
  rw [hg]
  simp [hy]
structure z1B (TT : Tab) (Δ : Nat → Option z0K) (n : Nat → Bool) (ops : Array Oper) (T0 : Nat → AV) (C0 : Nat → Blk) (nb0 : Nat) (es : List Ent) : Prop where
 ents : EntsOK TT Δ n ops 0 T0 C0 nb0 es
 map : es.map (·.o) = ops.toList
 hE : edgesOk 0 ops.toList = true
 hT : z7R ops (masks ops.toList []) 0 ops.toList = true
 hL : logOk (masks ops.toList []) (logsOf es) = true
theorem waits_iff {ops : Array Oper} {i j : Nat} : waits (masks ops.toList []) i j = true ↔ PB ops j i ∨ PB ops i j := by
 unfold waits PB
 rw [Bool.or_eq_true]
namespace z1B
variable {ops : Array Oper} {T0 : Nat → AV} {C0 : Nat → Blk} {nb0 : Nat} {es : List Ent}
theorem len (D : z1B TT Δ no ops T0 C0 nb0 es) : es.length = ops.size := by
 rw [← Array.length_toList, ← D.map, List.length_map]
theorem idx (D : z1B TT Δ no ops T0 C0 nb0 es) {y : Ent} (hy : y ∈ es) : ops[y.i]? = some y.o ∧ y.i < ops.size := by
 obtain ⟨es1, es2, rfl⟩ := List.append_of_mem hy
 obtain ⟨_, _, hi, _⟩ := D.ents.split y es1 es2 rfl
 rw [Nat.zero_add] at hi
 have h1 : ops.toList[y.i]? = some y.o := by
  rw [← D.map, hi]
  simp
 rw [Array.getElem?_toList] at h1
 exact ⟨h1, (Array.getElem?_eq_some_iff.1 h1).1⟩
theorem other (D : z1B TT Δ no ops T0 C0 nb0 es) {S : Nat → Bool} (hS : Shut ops S) {x y : Ent} (hj : S x.i = false) (hr : ∀ k, PB ops x.i k → S k = true)
  (h : y.i = x.i ∨ waits (masks ops.toList []) x.i y.i = true) : S y.i = Nat.blt y.i x.i := by
 rcases h with h | h
 ·rw [h, hj]
  symm
  exact Bool.eq_false_iff.2 fun e => Nat.lt_irrefl _ (Nat.le_of_ble_eq_true e)
 ·rcases waits_iff.1 h with h | h
  ·have hlt := PB_lt D.hE _ _ _ (Nat.le_refl _) h
   have hs : S y.i = false := by
    cases hs : S y.i with
    | false => rfl
    | true => rw [hS _ _ hs h] at hj; cases hj
   rw [hs]
   symm
   exact Bool.eq_false_iff.2 fun e => by have := Nat.le_of_ble_eq_true e; omega
  ·have hlt := PB_lt D.hE _ _ _ (Nat.le_refl _) h
   rw [hr _ h]
   symm
   exact Nat.ble_eq_true_of_le hlt
theorem later (D : z1B TT Δ no ops T0 C0 nb0 es) {S : Nat → Bool} (hS : Shut ops S) {x y : Ent} (hlt : x.i < y.i) (hj : S x.i = false)
  (h : waits (masks ops.toList []) x.i y.i = true) : S y.i = false := by
 rcases waits_iff.1 h with h | h
 ·cases hs : S y.i with
  | false => rfl
  | true => rw [hS _ _ hs h] at hj; cases hj
 ·have := PB_lt D.hE _ _ _ (Nat.le_refl _) h
  omega
theorem tmp2 (D : z1B TT Δ no ops T0 C0 nb0 es) {x y : Ent} (hx : x ∈ es) (hy : y ∈ es) : y.i = x.i ∨ waits (masks ops.toList []) x.i y.i = true ∨ (x.o.apart ops y.o = true ∨ y.o.apart ops x.o = true) := by
 have h1 := (D.idx hx).1
 have h2 := (D.idx hy).1
 rw [← Array.getElem?_toList] at h1 h2
 rcases Nat.lt_trichotomy y.i x.i with h | h | h
 ·have := z6o ops.toList 0 y.i x.i _ _ D.hT h h2 h1
  rw [Nat.zero_add, Nat.zero_add] at this
  exact .inr (this.imp z7N .inr)
 ·exact .inl h
 ·have := z6o ops.toList 0 x.i y.i _ _ D.hT h h1 h2
  rw [Nat.zero_add, Nat.zero_add] at this
  exact .inr (this.imp id .inl)
theorem selTb (D : z1B TT Δ no ops T0 C0 nb0 es) {x : Ent} (hx : x ∈ es) : x.T = selT (fun i => Nat.blt i x.i) es T0 ∧ x.C = selC (fun i => Nat.blt i x.i) es C0 := by
 obtain ⟨es1, es2, rfl⟩ := List.append_of_mem hx
 obtain ⟨h1, h2, h3, _, _, h6, h7, _⟩ := D.ents.split x es1 es2 rfl
 have hb : ∀ y ∈ es1, Nat.blt y.i x.i = true := fun y hy => Nat.ble_eq_true_of_le (h6 y hy).1
 have ha : ∀ y ∈ x :: es2, Nat.blt y.i x.i = false := by
  intro y hy
  refine Bool.eq_false_iff.2 fun e => ?_
  have e := Nat.le_of_ble_eq_true e
  rcases List.mem_cons.1 hy with rfl | hy
  ·omega
  ·have := (h7 y hy).1; omega
 constructor
 ·funext t
  rw [h1, z4h, z4A (x :: es2) _ (fun y hy _ => ha y hy)]
  exact z2J es1 _ _ rfl (fun y hy _ => (hb y hy).symm)
 ·funext k
  rw [h2, z4i, z4B (x :: es2) _ (fun y hy _ _ => ha y hy)]
  exact z2k es1 _ _ rfl (fun y hy _ _ => (hb y hy).symm)
theorem lookT (D : z1B TT Δ no ops T0 C0 nb0 es) {S : Nat → Bool} (hS : Shut ops S) {x : Ent} (hx : x ∈ es) (hj : S x.i = false) (hr : ∀ k, PB ops x.i k → S k = true) {t : Nat} (ht : t ∈ x.o.looksAt ops) : selT S es T0 t = x.T t := by
 rw [(D.selTb hx).1]
 refine z2J es _ _ rfl fun y hy hd => D.other hS hj hr ?_
 rcases D.tmp2 hx hy with h | h | h
 ·exact .inl h
 ·exact .inr h
 ·exact absurd ht (z8i h.symm t hd).1
theorem log2 (D : z1B TT Δ no ops T0 C0 nb0 es) {x y : Ent} (hx : x ∈ es) (hy : y ∈ es) (hsx : x.skip = false) (hsy : y.skip = false) : y.i = x.i ∨ waits (masks ops.toList []) x.i y.i = true ∨ z5a x.log y.log = true := by
 rcases (logOk_at D.hL).2 _ (z2Q hx hsx) _ (z2Q hy hsy) with h | h | h
 ·left
  exact (congrArg LogE.i h).symm
 ·exact .inr (.inr h)
 ·exact .inr (.inl h)
theorem sub (D : z1B TT Δ no ops T0 C0 nb0 es) {x : Ent} (hx : x ∈ es) (hsx : x.skip = false) : ∀ k ∈ z0U x.e.upd, k ∈ x.ids := subN_iff ((logOk_at D.hL).1 _ (z2Q hx hsx))
theorem wrote_mem {y : Ent} {k : Nat} (h : wrote y.nb y.e k) : k ∈ y.log.wr ++ y.log.new := by
 rw [List.mem_append]
 exact h.imp id fun h => z1D.2 h
theorem z8j {x y : Ent} (h : z5a x.log y.log = true) : (∀ k, wrote x.nb x.e k → k ∉ y.log.touch ++ y.log.new) ∧ ∀ k, wrote y.nb y.e k → k ∉ x.log.touch ++ x.log.new := by
 unfold z5a at h
 rw [Bool.and_eq_true, Bool.not_eq_true', Bool.not_eq_true'] at h
 exact ⟨fun k hk => z2w h.1 k (wrote_mem hk), fun k hk => z2w h.2 k (wrote_mem hk)⟩
theorem lookC (D : z1B TT Δ no ops T0 C0 nb0 es) {S : Nat → Bool} (hS : Shut ops S) {x : Ent} (hx : x ∈ es) (hsx : x.skip = false) (hj : S x.i = false) (hr : ∀ k, PB ops x.i k → S k = true) {k : Nat} (hk : k ∈ x.ids) : selC S es C0 k = x.C k := by
 rw [(D.selTb hx).2]
 refine z2k es _ _ rfl fun y hy hsy hw => D.other hS hj hr ?_
 rcases D.log2 hx hy hsx hsy with h | h | h
 ·exact .inl h
 ·exact .inr h
 ·exact absurd (List.mem_append_left _ hk) ((z8j h).2 k hw)
def add (S : Nat → Bool) (j : Nat) : Nat → Bool := fun i => if i = j then true else S i
theorem z5b (S : Nat → Bool) (j : Nat) : add S j j = true := by simp [add]
theorem z7m {S : Nat → Bool} {i j : Nat} (h : i ≠ j) : add S j i = S i := by simp [add, h]
theorem stepT (D : z1B TT Δ no ops T0 C0 nb0 es) {S : Nat → Bool} (hS : Shut ops S) {x : Ent} (hx : x ∈ es) (hj : S x.i = false) : selT (add S x.i) es T0 = effT (selT S es T0) x.o.dst x.dv := by
 funext t
 by_cases hd : x.o.dst = some t
 ·have hd' : effT (selT S es T0) x.o.dst x.dv t = x.dv := by simp only [effT, hd, if_true]
  rw [hd']
  obtain ⟨es1, es2, e⟩ := List.append_of_mem hx
  obtain ⟨_, _, h3, _, _, h6, h7, _⟩ := D.ents.split x es1 es2 e
  rw [e, z4h]
  show selT (add S x.i) es2 _ t = _
  rw [if_pos (z5b S x.i), z4A es2 _ fun y hy hyd => ?_]
  ·simp only [effT, hd, if_true]
  ·have hlt := (h7 y hy).1
   rw [z7m (by omega)]
   rcases D.tmp2 hx (y := y) (by rw [e]; exact List.mem_append_right _ (List.mem_cons_of_mem _ hy)) with h | h | h
   ·omega
   ·exact D.later hS hlt hj h
   ·exact absurd hyd (z8i h t hd).2
 ·have hd' : effT (selT S es T0) x.o.dst x.dv t = selT S es T0 t := by simp only [effT, hd, if_false]
  rw [hd']
  refine z2J es _ _ rfl fun y hy hyd => z7m fun e => hd ?_
  have h1 := (D.idx hx).1
  have h2 := (D.idx hy).1
  rw [e, h1] at h2
  injection h2 with h2
  rw [h2]; exact hyd
theorem same (D : z1B TT Δ no ops T0 C0 nb0 es) {x y : Ent} (hx : x ∈ es) (hy : y ∈ es) (h : y.i = x.i) : y = x := by
 have h2 : ∀ {z : Ent}, z ∈ es → es[z.i]? = some z := by
  intro z hz
  obtain ⟨es1, es2, e⟩ := List.append_of_mem hz
  obtain ⟨_, _, h3, _⟩ := D.ents.split z es1 es2 e
  rw [e, h3, Nat.zero_add]
  simp
 have a1 := h2 hx
 have a2 := h2 hy
 rw [h, a1] at a2
 injection a2 with a2
 exact a2.symm
theorem stepC (D : z1B TT Δ no ops T0 C0 nb0 es) {S : Nat → Bool} (hS : Shut ops S) {x : Ent} (hx : x ∈ es) (hsx : x.skip = false) (hj : S x.i = false) : selC (add S x.i) es C0 = effC (selC S es C0) x.nb x.e := by
 funext k
 by_cases hw : wrote x.nb x.e k
 ·have hsub := fun (y : Ent) (hy : y ∈ es) (h : y.skip = false) => D.sub hy h
  obtain ⟨es1, es2, e⟩ := List.append_of_mem hx
  obtain ⟨_, _, h3, _, _, h6, h7, _⟩ := D.ents.split x es1 es2 e
  have hl : selC (add S x.i) es C0 k = effC (selC (add S x.i) es1 C0) x.nb x.e k := by
   rw [e, z4i]
   show selC (add S x.i) es2 _ k = _
   rw [if_pos ⟨z5b S x.i, hsx⟩, z4B es2 _ fun y hy hsy hyw => ?_]
   have hlt := (h7 y hy).1
   have hy' : y ∈ es := by rw [e]; exact List.mem_append_right _ (List.mem_cons_of_mem _ hy)
   rw [z7m (by omega)]
   rcases D.log2 hx hy' hsx hsy with h | h | h
   ·omega
   ·exact D.later hS hlt hj h
   ·exfalso
    refine (z8j h).1 k hw ?_
    rcases hyw with hyw | hyw
    ·exact List.mem_append_left _ (hsub y hy' hsy k hyw)
    ·exact List.mem_append_right _ (z1D.2 hyw)
  rw [hl]
  exact z5u (.inr hw)
 ·rw [z2T hw]
  refine z2k es _ _ rfl fun y hy hsy hyw => z7m fun e => hw ?_
  rw [← D.same hx hy e]; exact hyw
theorem stepCs (D : z1B TT Δ no ops T0 C0 nb0 es) {S : Nat → Bool} {x : Ent} (hx : x ∈ es) (hsx : x.skip = true) : selC (add S x.i) es C0 = selC S es C0 := by
 funext k
 refine z2k es _ _ rfl fun y hy hsy hyw => z7m fun e => ?_
 rw [D.same hx hy e, hsx] at hsy
 cases hsy
end z1B
structure Mid (X keep : Nat → Prop) (w0 : World) (n : z0N) (T0 : Nat → AV) (C0 : Nat → Blk) (nb0 : Nat) (es : List Ent) (S : Nat → Bool) (ι0 : Nat → Option Value) (ι : Nat → Option Value) (a : Act) (w : World) : Prop where
 lk : Lk ι0 ι
 f : FRel X keep w0 n ι (selT S es T0) (selC S es C0) a w
 dom : ∀ k, ι k ≠ none → k < nb0 ∨ ∃ y ∈ es, y.skip = false ∧ S y.i = true ∧ y.nb ≤ k ∧ k < y.nb + y.e.new.length
variable {ops : Array Oper} {T0 : Nat → AV} {C0 : Nat → Blk} {nb0 : Nat} {es : List Ent}
theorem Mid.step {ι0 : Nat → Option Value} (hP : z0q P TT) (hΔ : z0O P Δ) (D : z1B TT Δ n.ok ops T0 C0 nb0 es) {ρ : Option Nat} {dp : Nat} {S : Nat → Bool} (hS : Shut ops S) {a : Act} (M : Mid X keep w0 n T0 C0 nb0 es S ι0 ι a w) {x : Ent} (hx : x ∈ es) (hj : S x.i = false) (hr : ∀ k, PB ops x.i k → S k = true)
  {K : Act → World → Prop} {Q : Exit → Act → World → Prop} (hK : ∀ ι' a' w', Mid X keep w0 n T0 C0 nb0 es (z1B.add S x.i) ι0 ι' a' w' → K a' w') : wpOpIn (WF ρ) dp P ops Q x.i K a w := by
 unfold wpOpIn
 rw [(D.idx hx).1]
 have hlook := fun t ht => D.lookT hS hx hj hr (t := t) ht
 have hgT : ∀ {j want g}, x.o.guard = some (j, want) → (ops[j]?).bind (·.dst) = some g → selT S es T0 g = x.T g := fun h1 h2 => hlook _ (looks_guard h1 h2)
 have hse : ∃ es1 es2, es = es1 ++ x :: es2 := List.append_of_mem hx
 obtain ⟨es1, es2, e⟩ := hse
 obtain ⟨_, _, h3, hnb, hdst, h6, h7, hev⟩ := D.ents.split x es1 es2 e
 cases hsk : x.skip
 ·simp only [hsk, Bool.false_eq_true, if_false] at hev
  obtain ⟨hg, hev⟩ := hev
  have hg' : z7x ops (selT S es T0) x.o := by
   rcases hg with hg | ⟨j, want, g, h1, h2, h3⟩
   ·exact .inl hg
   ·exact .inr ⟨j, want, g, h1, h2, by rw [hgT h1 h2]; exact h3⟩
  have hw := wanted_on M.f.tm hg'
  simp only [hw, if_true]
  refine z5h (z4V hev) ?_
  have hT : resT (z2N x.o.op.operands.toList) (selT S es T0) = resT (z2N x.o.op.operands.toList) x.T := by
   funext t
   unfold resT
   split
   ·rename_i hm
    exact hlook t (looks_op (z1y.1 hm))
   ·rfl
  have hC : resC x.ids (selC S es C0) = resC x.ids x.C := by
   funext k
   unfold resC
   split
   ·rename_i hm
    exact D.lookC hS hx hsk hj hr (z1y.1 hm)
   ·rfl
  rw [← hT, ← hC] at hev
  refine Oper.wp_mono ?_ (evOp_local hP hΔ M.f hev (D.sub hx hsk) (fun k h1 h2 => ?_) (Q := Q))
  ·rintro a' w' ⟨v, rfl, ι', o1, o2, o3, o4⟩
   refine hK ι' _ w' ⟨fun k v e => o2.io k v (M.lk k v e), ?_, fun k hk => ?_⟩
   ·rw [D.stepT hS hx hj, D.stepC hS hx hsk hj]
    have hdv : x.dv = x.e.dst := by unfold Ent.dv; simp [hsk]
    rw [hdv]
    exact M.f.step (z6e hdst) o1 o2 o3
   ·by_cases hkn : x.nb ≤ k ∧ k < x.nb + x.e.new.length
    ·exact .inr ⟨x, hx, hsk, z1B.z5b .., hkn⟩
    ·rw [o4 k hkn] at hk
     rcases M.dom k hk with h | ⟨y, q1, q2, q3, q4⟩
     ·exact .inl h
     ·refine .inr ⟨y, q1, q2, ?_, q4⟩
      unfold z1B.add
      split
      ·rfl
      ·exact q3
  ·cases hι : ι k with
   | none => rfl
   | some v =>
    exfalso
    rcases M.dom k (by rw [hι]; simp) with h | ⟨y, q1, q2, q3, q4, q5⟩
    ·omega
    ·have hne : y.i ≠ x.i := fun e => by rw [e, hj] at q3; cases q3
     have hynb : y.nb' = y.nb + y.e.new.length := by unfold Ent.nb'; simp [q2]
     have hxnb : x.nb' = x.nb + x.e.new.length := by unfold Ent.nb'; simp [hsk]
     rw [e] at q1
     rcases List.mem_append.1 q1 with q1 | q1
     ·have := (h6 y q1).2
      omega
     ·rcases List.mem_cons.1 q1 with rfl | q1
      ·exact hne rfl
      ·have := (h7 y q1).2
       omega
 ·simp only [hsk, if_true] at hev
  have hg' : z5g ops (selT S es T0) x.o := by
   obtain ⟨j, want, g, h1, h2, h3⟩ := hev
   exact ⟨j, want, g, h1, h2, by rw [hgT h1 h2]; exact h3⟩
  have hw := wanted_off M.f.tm hg'
  simp only [hw]
  refine ⟨fun _ _ => trivial, hK ι _ w ⟨M.lk, ?_, fun k hk => ?_⟩⟩
  ·rw [D.stepT hS hx hj, D.stepCs hx hsk]
   have hdv : x.dv = .ud := by unfold Ent.dv; simp [hsk]
   rw [hdv]
   exact M.f.step (z6e hdst) M.f.h (Ext.refl _ _ _ _) (by simp only [RelV])
  ·rcases M.dom k hk with h | ⟨y, q1, q2, q3, q4⟩
   ·exact .inl h
   ·refine .inr ⟨y, q1, q2, ?_, q4⟩
    unfold z1B.add
    split
    ·rfl
    ·exact q3
theorem z1B.ent (D : z1B TT Δ n.ok ops T0 C0 nb0 es) {j : Nat} (h : j < ops.size) : ∃ x ∈ es, x.i = j := by
 have hl : j < es.length := by rw [D.len]; exact h
 refine ⟨es[j], List.getElem_mem hl, ?_⟩
 have e : es = es.take j ++ es[j] :: es.drop (j + 1) := by simp
 obtain ⟨_, _, h3, _⟩ := D.ents.split es[j] _ _ e
 rw [h3, List.length_take, Nat.min_eq_left (Nat.le_of_lt hl), Nat.zero_add]
theorem all_listed (hE : edgesOk 0 ops.toList = true) {listed : Array Bool} (hs : listed.size = ops.size) (hr : Region.ready .any ops listed = []) : ∀ j, j < ops.size → listed.getD j false = true := by
 intro j
 induction j using Nat.strongRecOn with
 | ind j ih =>
  intro hj
  cases hl : listed.getD j false with
  | true => rfl
  | false =>
   exfalso
   have : j ∈ Region.ready .any ops listed := by
    rw [mem_ready]
    refine ⟨?_, ops[j], Array.getElem?_eq_getElem hj, fun e he hb => ?_⟩
    ·rw [Array.getD_eq_getD_getElem?] at hl ⊢
     rw [Array.getElem?_eq_getElem (by omega)] at hl ⊢
     exact hl
    ·have hlt := z2U ops.toList 0 j ops[j] hE (by rw [Array.getElem?_toList]; exact Array.getElem?_eq_getElem hj) e (by simpa using he) hb
     exact ih e.on (by omega) (by omega)
   rw [hr] at this
   cases this
theorem walk_any {ι0 : Nat → Option Value} (hP : z0q P TT) (hΔ : z0O P Δ) (D : z1B TT Δ n.ok ops T0 C0 nb0 es) {ρ : Option Nat} {dp : Nat} {Q : Exit → Act → World → Prop} (hQ : ∀ ι' a' w', Mid X keep w0 n T0 C0 nb0 es (fun _ => true) ι0 ι' a' w' → Q .normal a' w') :
  ∀ (fuel : Nat) (U : List Nat) (listed : Array Bool) (a : Act) (w : World) (ι : Nat → Option Value), U.length ≤ fuel → (∀ j, j < ops.size → listed.getD j false = false → j ∈ U) → listed.size = ops.size → Shut ops (fun i => listed.getD i false) → Mid X keep w0 n T0 C0 nb0 es (fun i => listed.getD i false) ι0 ι a w →
   wpAnyIn (WF ρ) dp P .any ops Q fuel listed a w := by
 have hdone : ∀ (listed : Array Bool) (a : Act) (w : World) (ι : Nat → Option Value), listed.size = ops.size → Mid X keep w0 n T0 C0 nb0 es (fun i => listed.getD i false) ι0 ι a w → Region.ready .any ops listed = [] → Q .normal a w := by
  intro listed a w ι hs M hr
  have hall := all_listed D.hE hs hr
  have hy : ∀ y ∈ es, (fun i => listed.getD i false) y.i = (fun _ => true) y.i := fun y hy => hall y.i (D.idx hy).2
  refine hQ ι a w ⟨M.lk, ?_, fun k hk => ?_⟩
  ·have e1 : selT (fun _ => true) es T0 = selT (fun i => listed.getD i false) es T0 := funext fun t => (z2J es _ _ rfl fun y h _ => hy y h).symm
   have e2 : selC (fun _ => true) es C0 = selC (fun i => listed.getD i false) es C0 := funext fun t => (z2k es _ _ rfl fun y h _ _ => hy y h).symm
   rw [e1, e2]
   exact M.f
  ·rcases M.dom k hk with h | ⟨y, q1, q2, q3, q4⟩
   ·exact .inl h
   ·exact .inr ⟨y, q1, q2, rfl, q4⟩
 intro fuel
 induction fuel with
 | zero =>
  intro U listed a w ι hU hm hs _ M
  have hU : U = [] := List.length_eq_zero_iff.1 (by omega)
  subst hU
  have hr : Region.ready .any ops listed = [] := by
   cases hr : Region.ready .any ops listed with
   | nil => rfl
   | cons j r =>
    exfalso
    have hj : j ∈ Region.ready .any ops listed := by rw [hr]; exact List.mem_cons_self ..
    obtain ⟨h1, o, h2, _⟩ := mem_ready.1 hj
    have hlt := (Array.getElem?_eq_some_iff.1 h2).1
    refine absurd (hm j hlt ?_) (by simp)
    rw [Array.getD_eq_getD_getElem?] at h1 ⊢
    rw [Array.getElem?_eq_getElem (by omega)] at h1 ⊢
    exact h1
  exact ⟨hr, hdone listed a w ι hs M hr⟩
 | succ fuel ih =>
  intro U listed a w ι hU hm hs hS M
  refine ⟨hdone listed a w ι hs M, fun j hj => ?_⟩
  obtain ⟨h1, o, h2, h3⟩ := mem_ready.1 hj
  have hlt := (Array.getElem?_eq_some_iff.1 h2).1
  have hf : listed.getD j false = false := by
   rw [Array.getD_eq_getD_getElem?] at h1 ⊢
   rw [Array.getElem?_eq_getElem (by omega)] at h1 ⊢
   exact h1
  obtain ⟨x, hx, rfl⟩ := D.ent hlt
  have hpb : ∀ k, PB ops x.i k → listed.getD k false = true := by
   intro k hk
   obtain ⟨e, q1, q2, q3⟩ := (PB_iff D.hE h2 k).1 hk
   have hl := h3 e (by simpa using q1) q2
   rcases q3 with rfl | q3
   ·exact hl
   ·exact hS _ _ hl q3
  have hadd : (fun i => (listed.setIfInBounds x.i true).getD i false) = z1B.add (fun i => listed.getD i false) x.i := by
   funext i
   unfold z1B.add
   split
   ·rename_i h
    subst h
    simp [hs, hlt]
   ·rename_i h
    exact getD_set_ne false (Ne.symm h)
  refine Mid.step hP hΔ D hS M hx hf hpb fun ι' a' w' M' => ih (U.erase x.i) _ a' w' ι' ?_ (fun k hk hkf => ?_) (by simp [hs]) ?_ (by rw [hadd]; exact M')
  ·have hmem := hm x.i hlt hf
   rw [List.length_erase_of_mem hmem]
   omega
  ·have hne : k ≠ x.i := by
    intro e
    subst e
    rw [congrFun hadd, z1B.z5b] at hkf
    cases hkf
   rw [getD_set_ne false (Ne.symm hne)] at hkf
   exact (List.mem_erase_of_ne hne).2 (hm k hk hkf)
  ·rw [hadd]
   intro d k hd hk
   by_cases hkx : k = x.i
   ·subst hkx; exact z1B.z5b ..
   ·rw [z1B.z7m hkx]
    by_cases hdx : d = x.i
    ·subst hdx; exact hpb k hk
    ·rw [z1B.z7m hdx] at hd
     exact hS d k hd hk
theorem z7a (hm : P.follows .mixedOrders = true) (hP : z0q P TT) (hΔ : z0O P Δ) {ρ : Option Nat} {dp : Nat} {R : Type} {Q : Exit → Act → World → Prop} {r : R} {K : St → Option R} {id : Nat} {s : St} {a : Act}
  (hev : evOps TT Δ n.ok ops true (zipN 0 ops.toList) s [] (fun s' lg => if drawOk ops lg = true then K s' else none) = some r) (h : SRel X keep w0 n ι s a w)
  (hQ : ∀ s' a' w' ι', K s' = some r → SRel X keep w0 n ι' s' a' w' → Lk ι ι' → Q .normal a' w') : (Code.region id ops true).wpIn (WF ρ) dp P Q a w := by
 obtain ⟨es, s', ht, hk⟩ := trace hΔ _ _ _ hev
 rw [List.append_nil] at hk
 split at hk
 ·rename_i hd
  obtain ⟨k1, k2, k3, k4, k5, k6⟩ := Tr.ents ops.toList 0 _ _ _ es _ _ _ ht
  simp only [drawOk, Bool.and_eq_true] at hd
  have D : z1B TT Δ n.ok ops (getT s.tm) (getB s.bl) s.bl.length es := ⟨k1, k2, hd.1.1, hd.1.2, hd.2⟩
  refine wpIn_region_any hm (walk_any (X := X) (keep := keep) (w0 := w0) (ι0 := ι) hP hΔ D (fun ι' a' w' M => hQ s' a' w' ι' hk ⟨?_, fun k hk => ?_⟩ M.lk) ops.size (List.range ops.size) _ a _ ι (by simp) (fun j hj _ => by simpa using hj) (by simp) ?_ ?_)
  ·rw [k3, k4]; exact M.f
  ·cases hι : ι' k with
   | none => rfl
   | some v =>
    exfalso
    rcases M.dom k (by rw [hι]; simp) with h | ⟨y, q1, q2, q3, q4, q5⟩
    ·omega
    ·have := (k6 y q1).2.2
     have hynb : y.nb' = y.nb + y.e.new.length := by unfold Ent.nb'; simp [q2]
     omega
  ·intro d j hd _
   exfalso
   revert hd
   simp only [Array.getD_eq_getD_getElem?, Array.getElem?_replicate]
   split <;> simp
  ·have hz : (fun i => (Array.replicate ops.size false).getD i false) = fun _ => false := by
    funext i
    simp only [Array.getD_eq_getD_getElem?, Array.getElem?_replicate]
    split <;> rfl
   rw [hz]
   refine ⟨fun _ _ e => e, ?_, fun k hk => ?_⟩
   ·have e1 : selT (fun _ => false) es (getT s.tm) = getT s.tm := funext fun t => z4A es _ fun _ _ _ => rfl
    have e2 : selC (fun _ => false) es (getB s.bl) = getB s.bl := funext fun t => z4B es _ fun _ _ _ _ => rfl
    rw [e1, e2]
    exact h.f.drawn _
   ·left
    rcases Nat.lt_or_ge k s.bl.length with q | q
    ·exact q
    ·exact absurd (h.dom k q) hk
 ·cases hk
theorem evOps_draw (hm : P.follows .mixedOrders = true) (hP : z0q P TT) (hΔ : z0O P Δ) {ρ : Option Nat} {dp : Nat} {R : Type} {Q : Exit → Act → World → Prop} {r : R} {K : St → Option R} {id : Nat} {s : St} {a : Act}
  (hev : evOps TT Δ n.ok ops true (zipN 0 ops.toList) s [] (fun s' lg => if drawOk ops lg = true then K s' else none) = some r) (h : SRel X keep w0 n ι s a w)
  (hQ : ∀ s' a' w' ι', K s' = some r → SRel X keep w0 n ι' s' a' w' → Q .normal a' w') : (Code.region id ops true).wpIn (WF ρ) dp P Q a w :=
 z7a hm hP hΔ hev h fun s' a' w' ι' h1 h2 _ => hQ s' a' w' ι' h1 h2
end
end Go.Proofs.Rf
namespace Go.Proofs.Rf
open Go Go.RowKit
def posN (k : Nat) : List Nat → Option Nat
 | [] => none
 | j :: r => if Nat.beq j k = true then some 0 else match posN k r with
  | some i => some (i + 1)
  | none => none
mutual
def AV.ren (C : Nat → Blk) (f : Nat → Option Nat) : AV → AV
 | .d t x => .d t x
 | .un => .un
 | .ud => .ud
 | .nl => .nl
 | .ub => .ub
 | .np => .np
 | .rf b => match C b with
  | .row t _ xs false => .d (.sl t) xs
  | _ => match f b with
   | some j => .rf j
   | none => .un
 | .rs b sz off len => match f b with
  | some j => .rs j sz off len
  | none => .un
 | .pt b o => match f b with
  | some j => .pt j o
  | none => .un
 | .pe b sz i o => match f b with
  | some j => .pe j sz i o
  | none => .un
 | .ve cs => .ve (AV.renL C f cs)
 | .ag cs => .ag (AV.renL C f cs)
 | .tp cs => .tp (AV.renL C f cs)
 | .fn g cs => .fn g (AV.renL C f cs)
 | .fm g cs => .fm g (AV.renL C f cs)
 | .mp b => match f b with
  | some j => .mp j
  | none => .un
 | .mnil => .mnil
 | .pa b => match f b with
  | some j => .pa j
  | none => .un
 | .ro b => match f b with
  | some j => .ro j
  | none => .un
 | .oe b sz i o => match f b with
  | some j => .oe j sz i o
  | none => .un
 | .fs b k sz off len => match f b with
  | some j => .fs j k sz off len
  | none => .un
 | .fe b k sz i o => match f b with
  | some j => .fe j k sz i o
  | none => .un
def AV.renL (C : Nat → Blk) (f : Nat → Option Nat) : List AV → List AV
 | [] => []
 | a :: r => a.ren C f :: AV.renL C f r
end
def Blk.ren (C : Nat → Blk) (f : Nat → Option Nat) : Blk → Blk
 | .box e cs => .box e (AV.renL C f cs)
 | .bz cs => .bz (AV.renL C f cs)
 | b => b
def Blk.ids : Blk → List Nat
 | .box _ cs => AV.idsL cs
 | .bz cs => AV.idsL cs
 | _ => []
def Blk.frozen : Blk → Bool
 | .row _ _ _ false => true
 | _ => false
def reachN (C : Nat → Blk) : Nat → List Nat → List Nat → List Nat
 | 0, _, done => done
 | _ + 1, [], done => done
 | k + 1, i :: todo, done => if memN i done = true then reachN C k todo done else reachN C k ((C i).ids ++ todo) (done ++ [i])
def unfrozen (C : Nat → Blk) (T : Nat → AV) : List Nat → List Nat
 | [] => []
 | t :: r => (match T t with
  | .rf b => if (C b).frozen = true then [] else [b]
  | v => v.ids) ++ unfrozen C T r
def cutIds (live : List Nat) (s : St) : List Nat := reachN (getB s.bl) 64 (unfrozen (getB s.bl) (getT s.tm) live) []
def cutT (C : Nat → Blk) (f : Nat → Option Nat) (T : Nat → AV) : List Nat → List (Nat × AV)
 | [] => []
 | t :: r => (t, (T t).ren C f) :: cutT C f T r
def cutB (C : Nat → Blk) (f : Nat → Option Nat) : List Nat → List Blk
 | [] => []
 | i :: r => (C i).ren C f :: cutB C f r
def cut (live : List Nat) (s : St) : St :=
 ⟨cutT (getB s.bl) (fun k => posN k (cutIds live s)) (getT s.tm) live, cutB (getB s.bl) (fun k => posN k (cutIds live s)) (cutIds live s)⟩
theorem posN_get {k : Nat} : ∀ {l : List Nat} {i : Nat}, posN k l = some i → l[i]? = some k
 | [], _, h => by cases h
 | j :: r, i, h => by
  unfold posN at h
  split at h
  ·rename_i hj
   injection h with h
   subst h
   rw [Nat.eq_of_beq_eq_true hj]
   rfl
  ·cases hp : posN k r with
   | none => rw [hp] at h; cases h
   | some m =>
    rw [hp] at h
    injection h with h
    subst h
    simpa using posN_get hp
theorem z3u (C : Nat → Blk) : ∀ (n : Nat) (todo done : List Nat), done.Nodup → (reachN C n todo done).Nodup
 | 0, _, _, h => h
 | _ + 1, [], _, h => h
 | n + 1, i :: todo, done, h => by
  unfold reachN
  split
  ·exact z3u C n _ _ h
  ·rename_i hm
   refine z3u C n _ _ ?_
   rw [List.nodup_append]
   refine ⟨h, by simp, fun a ha b hb => ?_⟩
   rw [List.mem_singleton] at hb
   subst hb
   intro e
   subst e
   exact hm (z1y.2 ha)
theorem cutB_get (C : Nat → Blk) (f : Nat → Option Nat) : ∀ (l : List Nat) (j : Nat), getB (cutB C f l) j = match l[j]? with
  | some i => (C i).ren C f
  | none => .dead
 | [], j => by simp [cutB, getB]
 | i :: r, 0 => rfl
 | i :: r, j + 1 => by
  show getB (cutB C f r) j = _
  rw [cutB_get C f r j]
  simp
theorem z7f (C : Nat → Blk) (f : Nat → Option Nat) : ∀ (l : List Nat), (cutB C f l).length = l.length
 | [] => rfl
 | _ :: r => by simp [cutB, z7f C f r]
section
variable {X keep : Nat → Prop} {w0 w : World} {ι ι' : Nat → Option Value} {C : Nat → Blk} {ok ok' : Nat → Prop} {f : Nat → Option Nat}
mutual
theorem AV.z6y (hok : ∀ g, ok g → ok' g) (hB : ∀ k, RelB w ok ι k (C k)) (hf : ∀ k j, f k = some j → ι' j = ι k) : ∀ (v : AV) (u : Value), RelV w ok ι v u → RelV w ok' ι' (v.ren C f) u
 | .d t x, u, h => by
  simp only [RelV, AV.ren] at h ⊢
  exact z0m (fun _ _ _ _ e => e) hok t x _ h
 | .un, _, _ => by simp only [RelV, AV.ren]
 | .ud, _, h => by simpa only [RelV, AV.ren] using h
 | .nl, _, h => by simpa only [RelV, AV.ren] using h
 | .ub, _, h => by simpa only [RelV, AV.ren] using h
 | .np, _, h => by simpa only [RelV, AV.ren] using h
 | .rf b, u, h => by
  simp only [RelV] at h
  have hb := hB b
  simp only [AV.ren]
  split
  ·rename_i t e xs hC
   rw [hC] at hb
   obtain ⟨v, h1, _, h3⟩ := hb
   rw [h.1] at h1
   injection h1 with h1
   subst h1
   simp only [RelV]
   exact z0m (fun _ _ _ _ e => e) hok _ _ _ h3
  ·split
   ·rename_i j hj
    simp only [RelV]
    rw [hf b j hj]
    exact h
   ·simp only [RelV]
 | .rs b sz off len, u, h => by
  simp only [RelV] at h
  simp only [AV.ren]
  split
  ·rename_i j hj
   simp only [RelV]
   rw [hf b j hj]
   exact h
  ·simp only [RelV]
 | .pt b o, u, h => by
  simp only [RelV] at h
  simp only [AV.ren]
  split
  ·rename_i j hj
   simp only [RelV]
   rw [hf b j hj]
   exact h
  ·simp only [RelV]
 | .pe b sz i o, u, h => by
  simp only [RelV] at h
  simp only [AV.ren]
  split
  ·rename_i j hj
   simp only [RelV]
   rw [hf b j hj]
   exact h
  ·simp only [RelV]
 | .ve cs, u, h => by
  simp only [RelV, AV.ren] at h ⊢
  obtain ⟨g, o, us, h1, h2, h3, h4⟩ := h
  exact ⟨g, o, us, h1, hok _ h2, AV.z3b hok hB hf cs us h3, h4⟩
 | .ag cs, u, h => by
  simp only [RelV, AV.ren] at h ⊢
  obtain ⟨us, h1, h2⟩ := h
  exact ⟨us, h1, AV.z3b hok hB hf cs us h2⟩
 | .tp cs, u, h => by
  simp only [RelV, AV.ren] at h ⊢
  obtain ⟨us, h1, h2⟩ := h
  exact ⟨us, h1, AV.z3b hok hB hf cs us h2⟩
 | .fn g cs, u, h => by
  simp only [RelV, AV.ren] at h ⊢
  obtain ⟨us, h1, h2⟩ := h
  exact ⟨us, h1, AV.z3b hok hB hf cs us h2⟩
 | .fm g cs, u, h => by
  simp only [RelV, AV.ren] at h ⊢
  obtain ⟨us, h1, h2⟩ := h
  exact ⟨us, h1, AV.z3b hok hB hf cs us h2⟩
 | .mp b, u, h => by
  simp only [RelV] at h
  simp only [AV.ren]
  split
  ·rename_i j hj
   simp only [RelV]
   rw [hf b j hj]
   exact h
  ·simp only [RelV]
 | .mnil, _, h => by simpa only [RelV, AV.ren] using h
 | .pa b, _, h => by
  simp only [RelV] at h
  simp only [AV.ren]
  split
  ·rename_i j hj
   simp only [RelV]
   rw [hf b j hj]
   exact h
  ·simp only [RelV]
 | .ro b, _, h => by
  simp only [RelV] at h
  simp only [AV.ren]
  split
  ·rename_i j hj
   simp only [RelV]
   rw [hf b j hj]
   exact h
  ·simp only [RelV]
 | .oe b sz i o, _, h => by
  simp only [RelV] at h
  simp only [AV.ren]
  split
  ·rename_i j hj
   simp only [RelV]
   rw [hf b j hj]
   exact h
  ·simp only [RelV]
 | .fs b k sz off len, _, h => by
  simp only [RelV] at h
  simp only [AV.ren]
  split
  ·rename_i j hj
   simp only [RelV]
   rw [hf b j hj]
   exact h
  ·simp only [RelV]
 | .fe b k sz i o, _, h => by
  simp only [RelV] at h
  simp only [AV.ren]
  split
  ·rename_i j hj
   simp only [RelV]
   rw [hf b j hj]
   exact h
  ·simp only [RelV]
theorem AV.z3b (hok : ∀ g, ok g → ok' g) (hB : ∀ k, RelB w ok ι k (C k)) (hf : ∀ k j, f k = some j → ι' j = ι k) : ∀ (cs : List AV) (us : List Value), RelL w ok ι cs us → RelL w ok' ι' (AV.renL C f cs) us
 | [], us, h => by simpa only [RelL, AV.renL] using h
 | a :: r, us, h => by
  simp only [RelL, AV.renL] at h ⊢
  obtain ⟨v, vr, h1, h2, h3⟩ := h
  exact ⟨v, vr, h1, AV.z6y hok hB hf a v h2, AV.z3b hok hB hf r vr h3⟩
end
theorem Blk.z6y (hok : ∀ g, ok g → ok' g) (hB : ∀ k, RelB w ok ι k (C k)) (hf : ∀ k j, f k = some j → ι' j = ι k) {i j : Nat} (hi : ι' j = ι i) : RelB w ok' ι' j ((C i).ren C f) := by
 have hb := hB i
 cases hC : C i with
 | row t e xs rw =>
  rw [hC] at hb
  cases rw with
  | true =>
   obtain ⟨v, cs, h1, h2, h3⟩ := hb
   exact ⟨v, cs, by rw [hi]; exact h1, h2, z0w (z0m (fun _ _ _ _ e => e) hok t) h3⟩
  | false =>
   obtain ⟨v, h1, h0, h2⟩ := hb
   exact ⟨v, by rw [hi]; exact h1, h0, z0m (fun _ _ _ _ e => e) hok _ _ _ h2⟩
 | box e cs =>
  rw [hC] at hb
  obtain ⟨g, us, h1, h2, h3⟩ := hb
  exact ⟨g, us, by rw [hi]; exact h1, h2, AV.z3b hok hB hf cs us h3⟩
 | it s pos =>
  rw [hC] at hb
  obtain ⟨g, h1, h2⟩ := hb
  exact ⟨g, by rw [hi]; exact h1, h2⟩
 | map kt va vt l =>
  rw [hC] at hb
  obtain ⟨g, es, ck, l', h1, h2, h3, h4, h5, h6⟩ := hb
  exact ⟨g, es, ck, l', by rw [hi]; exact h1, h2, h3, h4, h5, z3h (fun _ _ _ _ e => e) hok h6⟩
 | nr t it e ie xs =>
  rw [hC] at hb
  obtain ⟨arr, u, vs, cs, h1, h2, h3, h4, h5⟩ := hb
  exact ⟨arr, u, vs, cs, by rw [hi]; exact h1, h2, h3, z1L (fun _ _ _ _ e => e) hok h4 (fun _ _ _ _ => rfl), h5⟩
 | nz t it xs =>
  rw [hC] at hb
  obtain ⟨arr, u, vs, h1, h2, h3, h4, h5⟩ := hb
  exact ⟨arr, u, vs, by rw [hi]; exact h1, h2, z3i (fun l us q => z0m (fun _ _ _ _ e => e) hok _ l us q) h3, h4, z0m (fun _ _ _ _ e => e) hok _ _ _ h5⟩
 | bz cs =>
  rw [hC] at hb
  obtain ⟨v, h1, h2⟩ := hb
  exact ⟨v, by rw [hi]; exact h1, by have := AV.z6y hok hB hf (.ve cs) v h2; simpa only [AV.ren] using this⟩
 | dead => trivial
theorem bk_ren {i j : Nat} {C' : Nat → Blk} (hC : C' j = (C i).ren C f) (hi : ι' j = ι i) : bk ι' C' j = bk ι C i := by
 unfold bk
 rw [hC, hi]
 cases C i with
 | box e cs =>
  show (match Blk.box e (AV.renL C f cs), ι i with
   | .row _ _ _ true, some v => v.ownBlock.toList
   | .box _ _, some (.pointer (some a)) => [a.block]
   | .it _ _, some (.pointer (some a)) => [a.block]
   | .map _ _ _ _, some (.map (some r)) => [r]
   | .nr _ _ _ _ _, some (.tuple arr) => arr.toList.filterMap Value.ownBlock
   | _, _ => []) = _
  cases ι i with
  | none => rfl
  | some v =>
   cases v <;> try rfl
   rename_i p
   cases p <;> rfl
 | row t e xs rw => rfl
 | it s pos => rfl
 | map kt va vt l => rfl
 | nr t it e ie xs => rfl
 | nz t it xs => rfl
 | bz cs => cases ι i <;> rfl
 | dead => rfl
theorem cutT_get (live : List Nat) (C : Nat → Blk) (f : Nat → Option Nat) (T : Nat → AV) (t : Nat) : getT (cutT C f T live) t = .un ∨ getT (cutT C f T live) t = (T t).ren C f := by
 induction live with
 | nil => exact .inl rfl
 | cons u r ih =>
  show (if Nat.beq u t = true then _ else _) = _ ∨ (if Nat.beq u t = true then _ else _) = _
  split
  ·rename_i h
   rw [Nat.eq_of_beq_eq_true h]
   exact .inr rfl
  ·exact ih
theorem SRel.cut {n : z0N} {s : St} {a : Act} (h : SRel X keep w0 n ι s a w) (live : List Nat) : ∃ ι', SRel X keep w0 n ι' (cut live s) a w := by
 let ids := cutIds live s
 let f : Nat → Option Nat := fun k => posN k ids
 have hnd : ids.Nodup := z3u _ _ _ _ List.nodup_nil
 let ι' : Nat → Option Value := fun j => (ids[j]?).bind ι
 let C' := getB (Rf.cut live s).bl
 have hC' : ∀ j, C' j = match ids[j]? with
   | some i => (getB s.bl i).ren (getB s.bl) f
   | none => .dead := fun j => cutB_get _ f ids j
 have hι' : ∀ j i, ids[j]? = some i → ι' j = ι i := fun j i e => by show (ids[j]?).bind ι = _; rw [e]; rfl
 have hf : ∀ k j, f k = some j → ι' j = ι k := fun k j e => hι' j k (posN_get e)
 have hbk : ∀ j b, b ∈ bk ι' C' j → ∃ i, ids[j]? = some i ∧ b ∈ bk ι (getB s.bl) i := by
  intro j b hb
  cases hi : ids[j]? with
  | none =>
   have h1 : C' j = .dead := by rw [hC' j, hi]
   rw [z0S h1] at hb
   cases hb
  | some i =>
   refine ⟨i, rfl, ?_⟩
   rw [bk_ren (C := getB s.bl) (f := f) (i := i) (by rw [hC' j, hi]) (hι' j i hi)] at hb
   exact hb
 have hown : ∀ b, owned ι' C' b → owned ι (getB s.bl) b := by
  rintro b ⟨j, hj⟩
  obtain ⟨i, _, hi⟩ := hbk j b hj
  exact ⟨i, hi⟩
 have hok : ∀ b, okb X w ι (getB s.bl) b → okb X w ι' C' b := fun b hb => ⟨hb.1, fun ho => hb.2.1 (hown b ho), hb.2.2⟩
 refine ⟨ι', ⟨⟨fun j => ?_, fun j j' b h1 h2 => ?_, h.f.h.fr, fun b hb => h.f.h.own b (hown b hb), h.f.h.kl, fun b hb => h.f.h.ox b (hown b hb), h.f.h.xl, h.f.h.gl.mono fun g hg => ⟨hok g hg, rfl⟩⟩, fun t => ?_, h.f.size, h.f.defers⟩, fun j hj => ?_⟩
 ·show RelB w (okb X w ι' C') ι' j (C' j)
  rw [hC' j]
  cases hi : ids[j]? with
  | none => trivial
  | some i => exact Blk.z6y hok h.f.h.bl hf (hι' j i hi)
 ·obtain ⟨i, hi, hb⟩ := hbk j b h1
  obtain ⟨i', hi', hb'⟩ := hbk j' b h2
  have e := h.f.h.inj i i' b hb hb'
  subst e
  have hlt := (List.getElem?_eq_some_iff.1 hi).1
  exact (List.getElem?_inj hlt hnd).1 (hi.trans hi'.symm)
 ·rcases cutT_get live (getB s.bl) f (getT s.tm) t with e | e
  ·show RelV w (okb X w ι' C') ι' (getT (cutT (getB s.bl) f (getT s.tm) live) t) _
   rw [e]
   simp only [RelV]
  ·show RelV w (okb X w ι' C') ι' (getT (cutT (getB s.bl) f (getT s.tm) live) t) _
   rw [e]
   exact AV.z6y hok h.f.h.bl hf _ _ (h.f.tm t)
 ·have hl : (Rf.cut live s).bl.length = ids.length := z7f _ _ _
  show (ids[j]?).bind ι = none
  rw [List.getElem?_eq_none (by omega)]
  rfl
theorem HRel.quiet (h : HRel X keep w0 ι C w) {w' : World} (r : Nat) (hos : w'.os = w.os) (htape : w'.tape = w.tape) (hout : w'.output = w.output) (hsz : w.heap.size ≤ w'.heap.size)
  (hh : ∀ b, b ≠ r → b < w.heap.size → w'.heap[b]? = w.heap[b]?) (hc : ∀ o v, w.cell? ⟨r, o, none⟩ = some v → False) (hb : ∀ b, owned ι C b → b ≠ r) (hk : ¬ keep r) :
  HRel X keep w0 ι C w' ∧ ∀ v u, RelV w (okb X w ι C) ι v u → RelV w' (okb X w' ι C) ι v u := by
 have hok : ∀ g, okb X w ι C g → okb X w' ι C g := fun g hg => ⟨Nat.lt_of_lt_of_le hg.1 hsz, hg.2⟩
 have hcell : ∀ g o v, okb X w ι C g → w.cell? ⟨g, o, none⟩ = some v → w'.cell? ⟨g, o, none⟩ = some v := by
  intro g o v hg hv
  by_cases e : g = r
  ·subst e; exact (hc o v hv).elim
  ·rw [← hv]; exact World.cell?_of_block (hh g e hg.1)
 have hown : ∀ b, owned ι C b → w'.heap[b]? = w.heap[b]? := fun b ho => hh b (hb b ho) (h.lt ho)
 refine ⟨⟨fun k => ?_, h.inj, ⟨hos.trans h.fr.os, htape.trans h.fr.tape, hout.trans h.fr.output, Nat.le_trans h.fr.size hsz, fun b hb' hl => ?_⟩, h.own, h.kl, h.ox, h.xl, ⟨fun g us hg => ?_, fun g hg => ?_⟩⟩, fun v u hv => z1w hcell hok (fun _ _ e => e) v u hv⟩
 ·have hB := h.bl k
  cases hC : C k with
  | row t e xs rw =>
   rw [hC] at hB
   cases rw with
   | true =>
    obtain ⟨v, cs, h1, h2, h3⟩ := hB
    refine ⟨v, cs, h1, ⟨h2.1, ?_⟩, z0w (z0m hcell hok t) h3⟩
    rcases h2.2 with h4 | ⟨g, cap, cur, hv, h5, h6, h7⟩
    ·exact .inl h4
    ·refine .inr ⟨g, cap, cur, hv, h5, ?_, h7⟩
     rw [hown g ⟨k, by unfold bk; rw [hC, h1, hv]; exact List.mem_singleton_self _⟩]
     exact h6
   | false =>
    obtain ⟨v, h1, h0, h2⟩ := hB
    exact ⟨v, h1, h0, z0m hcell hok _ _ _ h2⟩
  | box e cs =>
   rw [hC] at hB
   obtain ⟨g, us, h1, h2, h3⟩ := hB
   refine ⟨g, us, h1, ?_, z1l hcell hok (fun _ _ e => e) cs us h3⟩
   rw [hown g ⟨k, by unfold bk; rw [hC, h1]; exact List.mem_singleton_self _⟩]
   exact h2
  | it s pos =>
   rw [hC] at hB
   obtain ⟨g, h1, h2⟩ := hB
   refine ⟨g, h1, ?_⟩
   rw [hown g ⟨k, by unfold bk; rw [hC, h1]; exact List.mem_singleton_self _⟩]
   exact h2
  | map kt va vt l =>
   rw [hC] at hB
   obtain ⟨g, es, ck, l', h1, h2, h3, h4, h5, h6⟩ := hB
   refine ⟨g, es, ck, l', h1, ?_, h3, h4, h5, z3h hcell hok h6⟩
   rw [hown g ⟨k, by unfold bk; rw [hC, h1]; exact List.mem_singleton_self _⟩]
   exact h2
  | nr t it e ie xs =>
   rw [hC] at hB
   obtain ⟨arr, u, vs, cs, h1, h2, h3, h4, h5⟩ := hB
   have hin : ∀ v ∈ u :: vs, ∀ b, v.ownBlock = some b → w'.heap[b]? = w.heap[b]? := fun v hv b hb => hown b ⟨k, by
    unfold bk
    rw [hC, h1]
    exact List.mem_filterMap.2 ⟨v, by rw [h2]; exact hv, hb⟩⟩
   exact ⟨arr, u, vs, cs, h1, h2, z0R h3 (hin u (List.mem_cons_self ..)), z1L hcell hok h4 (fun v hv => hin v (List.mem_cons_of_mem _ hv)), h5⟩
  | nz t it xs =>
   rw [hC] at hB
   obtain ⟨arr, u, vs, h1, h2, h3, h4, h5⟩ := hB
   exact ⟨arr, u, vs, h1, h2, z3i (fun l us q => z0m hcell hok _ l us q) h3, h4, z0m hcell hok _ _ _ h5⟩
  | bz cs =>
   rw [hC] at hB
   obtain ⟨v, h1, h2⟩ := hB
   exact ⟨v, h1, z1w hcell hok (fun _ _ e => e) _ _ h2⟩
  | dead => trivial
 ·have hne : b ≠ r := by rintro rfl; exact hk hb'
  rw [hh b hne (Nat.lt_of_lt_of_le hl h.fr.size)]
  exact h.fr.block b hb' hl
 ·obtain ⟨h1, h0, e, fz, h2⟩ := h.gl.1 g us hg
  refine ⟨hok g h1, h0, e, fz, ?_⟩
  rw [hh g ?_ h1.1]
  ·exact h2
  ·rintro rfl
   exact hc 0 us[0] (by simp [World.cell?, h2, h0])
 ·obtain ⟨h1, v, e, fz, h0, h2⟩ := h.gl.2 g hg
  refine ⟨hok g h1, v, e, fz, h0, ?_⟩
  rw [hh g ?_ h1.1]
  ·exact h2
  ·rintro rfl
   exact hc 0 v (by simp [World.cell?, h2])
theorem HRel.weaken (h : HRel X keep w0 ι C w) {keep1 : Nat → Prop} {w1 : World} (hk : ∀ b, keep1 b → keep b) (hw : Kept keep1 w1 w0) (hl : ∀ b, keep1 b → b < w1.heap.size) (hx : ∀ b, X b → b < w1.heap.size) : HRel X keep1 w1 ι C w :=
 ⟨h.bl, h.inj, hw.trans (h.fr.weak hk), fun b hb hb' => h.own b hb (hk b hb'), hl, h.ox, hx, h.gl⟩
theorem HRel.rebase (h : HRel X keep w0 ι C w) : HRel X (fun b => b < w.heap.size ∧ ¬ owned ι C b) w ι C w :=
 ⟨h.bl, h.inj, Kept.refl _ _, fun _ hb hb' => hb'.2 hb, fun _ hb => hb.1, h.ox, fun b hb => Nat.lt_of_lt_of_le (h.xl b hb) h.fr.size, h.gl⟩
end
end Go.Proofs.Rf
namespace Go.Proofs.Rf
open Go Go.RowKit
section
variable {P : Program} {TT : Tab} {Δ : Nat → Option z0K} {n : Nat → Bool}
end
def Ex.out : Ex → Exit
 | .nm => .normal
 | .ex j => .exit j
 | .rt => .ret
theorem z7M {P : Program} {F : Fence} {dp : Nat} {c : Code} {Q : Exit → Act → World → Prop} (I : Nat → Act → World → Prop) (h0 : ∀ a w, ¬ I 0 a w)
  (round : ∀ k a w, I (k + 1) a w → c.wpIn F dp P (Exit.then (fun a' w' => I k a' w') Q) a w) {k : Nat} {a : Act} {w : World} (h : I k a w) : (Code.loop c).wpIn F dp P Q a w := by
 intro b t cs hro hb hr
 have key : ∀ k a w, I k a w → ∃ e a' w', Q e a' w' ∧ ArrivesIn (Machine.fenced P F) P (lone (b.atR a (.code c :: .inLoop c :: t)) cs w) b t cs e a' w' := by
  intro k
  induction k with
  | zero => exact fun a w hI => (h0 a w hI).elim
  | succ k ih =>
   intro a w hI
   obtain ⟨e, a₁, w₁, hq, harr⟩ := round k a w hI b (.inLoop c :: t) cs hro hb hr
   cases e with
   | normal =>
    obtain ⟨e₂, a₂, w₂, hq₂, harr₂⟩ := ih a₁ w₁ hq
    exact ⟨e₂, a₂, w₂, hq₂, .of_steps (StepsIn.trans harr (.one (fenced_calm hb hr rfl) stepR_inLoop)) harr₂⟩
   | exit id => exact ⟨_, a₁, w₁, hq, .pass (x := .inLoop c) rfl (fun _ _ => .inl (by simp)) harr⟩
   | goto l => exact ⟨_, a₁, w₁, hq, .pass (x := .inLoop c) rfl (fun _ _ => .inl (by simp)) harr⟩
   | ret => exact ⟨_, a₁, w₁, hq, .pass (x := .inLoop c) rfl (fun _ _ => .inl (by simp)) harr⟩
   | panic ch => exact ⟨_, a₁, w₁, hq, .pass (x := .inLoop c) rfl (fun _ _ => .inl (by simp)) harr⟩
   | outgrown => exact ⟨_, a₁, w₁, hq, .pass (x := .inLoop c) rfl (fun _ _ => .inl (by simp)) harr⟩
 obtain ⟨e, a', w', hq, harr⟩ := key k a w h
 exact ⟨e, a', w', hq, .of_steps (.one (fenced_calm hb hr rfl) stepR_loop) harr⟩
structure z1x (keep : Nat → Prop) (w0 : World) (keep' : Nat → Prop) (w0' : World) : Prop where
 mono : ∀ b, keep b → keep' b
 kept : Kept keep w0 w0'
theorem z1x.refl (keep : Nat → Prop) (w0 : World) : z1x keep w0 keep w0 := ⟨fun _ h => h, Kept.refl _ _⟩
theorem z1x.trans {k1 k2 k3 : Nat → Prop} {w1 w2 w3 : World} (h : z1x k1 w1 k2 w2) (k : z1x k2 w2 k3 w3) : z1x k1 w1 k3 w3 :=
 ⟨fun b hb => k.mono b (h.mono b hb), h.kept.trans (k.kept.weak h.mono)⟩
section
variable {P : Program} {TT : Tab} {Δ : Nat → Option z0K} {n : z0N}
def CodeOK (P : Program) (n : z0N) (ρ : Option Nat) (l : z0Y) (c : Code) : Prop :=
 ∀ (dp : Nat) (X keep : Nat → Prop) (w0 w : World) (ι : Nat → Option Value) (s : St) (a : Act) (R : Type) (K : Ex → St → Option R) (r : R) (Q : Exit → Act → World → Prop),
  SRel X keep w0 n ι s a w → l s R K = some r → (∀ e s' a' w' ι' keep' w0', z1x keep w0 keep' w0' → K e s' = some r → SRel X keep' w0' n ι' s' a' w' → Q e.out a' w') → c.wpIn (WF ρ) dp P Q a w
def LoopOK (P : Program) (n : z0N) (ρ : Option Nat) (l : z0Y) (c : Code) : Prop := CodeOK P n ρ l (.loop c)
def LoopsIn (P : Program) (n : z0N) (ρ : Option Nat) (Λ : Nat → Option z0Y) : Code → Prop
 | .seq a b => LoopsIn P n ρ Λ a ∧ LoopsIn P n ρ Λ b
 | .cond _ a b => LoopsIn P n ρ Λ a ∧ LoopsIn P n ρ Λ b
 | .block _ c => LoopsIn P n ρ Λ c
 | .scope c => LoopsIn P n ρ Λ c
 | .loop c => ∀ l, Λ (z1Z c) = some l → LoopOK P n ρ l c
 | .rangeFunc g ps asg body => ∀ l, Λ (z1Z asg) = some l → CodeOK P n ρ l (.rangeFunc g ps asg body)
 | _ => True
theorem z1C {P : Program} {b : Frame} {a : Act} {k : List Item} {cs : List Frame} {w : World} {c : Code} : step P (lone (b.atR a (.code (.scope c) :: k)) cs w) = .next (lone (b.atR a (.code c :: .inScope c :: k)) cs w) :=
 step_lone_go (by simp [stepG, stepG.exec, Frame.atR])
theorem z7A {P : Program} {b : Frame} {a : Act} {k : List Item} {cs : List Frame} {w : World} {c : Code} : step P (lone (b.atR a (.inScope c :: k)) cs w) = .next (lone (b.atR a k) cs w) :=
 step_lone_go (by simp [stepG, stepG.exec, Frame.atR])
def noJump (Q : Exit → Act → World → Prop) : Exit → Act → World → Prop
 | .goto _, _, _ => False
 | e, a, w => Q e a w
theorem z6j {F : Fence} {d : Nat} {P : Program} {Q : Exit → Act → World → Prop} {a : Act} {w : World} {c : Code} (h : c.wpIn F d P (noJump Q) a w) : (Code.scope c).wpIn F d P Q a w := by
 intro b k cs hro hb hr
 have h0 : (lone (b.atR a (.code (.scope c) :: k)) cs w).fenced P F := fenced_calm hb hr rfl
 obtain ⟨e, a₁, w₁, hq, harr⟩ := h b (.inScope c :: k) cs hro hb hr
 cases e with
 | normal => exact ⟨.normal, a₁, w₁, hq, .head h0 z1C (StepsIn.trans harr (.one (fenced_calm hb hr rfl) z7A))⟩
 | exit id =>
  have hx : exitTo id (.inScope c :: k) = exitTo id k := by simp [exitTo]
  exact ⟨.exit id, a₁, w₁, hq, fun k' hk => .head h0 z1C (harr.1 k' (by rw [hx]; exact hk)),
   fun hr' hk => let ⟨k₁, h1, h2⟩ := harr.2 hr' (by rw [hx]; exact hk); ⟨k₁, h1, .head h0 z1C h2⟩⟩
 | goto l => exact hq.elim
 | ret => exact ⟨_, a₁, w₁, hq, .of_steps (.one h0 z1C) harr⟩
 | panic ch => exact ⟨_, a₁, w₁, hq, .of_steps (.one h0 z1C) harr⟩
 | outgrown => exact ⟨_, a₁, w₁, hq, .of_steps (.one h0 z1C) harr⟩
theorem z0L (hm : P.follows .mixedOrders = true) (hP : z0q P TT) (hΔ : z0O P Δ) {Λ : Nat → Option z0Y} {X : Nat → Prop} {ρ : Option Nat} {dp : Nat} : ∀ (c : Code), LoopsIn P n ρ Λ c → ∀ {R : Type} {r : R} (s : St) (K : Ex → St → Option R) (Q : Exit → Act → World → Prop) (a : Act) (w : World) (ι : Nat → Option Value) (keep : Nat → Prop) (w0 : World),
  SRel X keep w0 n ι s a w → evC TT Δ n.ok Λ c s K = some r → (∀ e s' a' w' ι' keep' w0', z1x keep w0 keep' w0' → K e s' = some r → SRel X keep' w0' n ι' s' a' w' → Q e.out a' w') → c.wpIn (WF ρ) dp P Q a w
 | .skip, _, _, _, s, K, Q, a, w, ι, keep, w0, h, hev, hQ => wpIn_skip (hQ .nm s a w ι keep w0 (z1x.refl _ _) hev h)
 | .region id ops draw, _, R, r, s, K, Q, a, w, ι, keep, w0, h, hev, hQ => by
  simp only [evC] at hev
  cases draw with
  | false =>
   refine wpIn_region ?_
   have hz : ∀ (l : List Oper) (i : Nat), (zipN i l).map (·.1) = List.range' i l.length := by
    intro l
    induction l with
    | nil => intro i; rfl
    | cons o l ih => intro i; simp [zipN, ih, List.range'_succ]
   have hg : ∀ (l : List Oper) (i : Nat), ∀ p ∈ zipN i l, ∃ k, p.1 = i + k ∧ l[k]? = some p.2 := by
    intro l
    induction l with
    | nil => intro i p hp; cases hp
    | cons o l ih =>
     intro i p hp
     rcases List.mem_cons.1 hp with rfl | hp
     ·exact ⟨0, rfl, rfl⟩
     ·obtain ⟨k, h1, h2⟩ := ih (i + 1) p hp
      exact ⟨k + 1, by omega, by simpa using h2⟩
   have := z6Z (ops := ops) (Q := Q) (ρ := ρ) (dp := dp) hP hΔ (zipN 0 ops.toList) s [] a w ι (fun p hp => by
    obtain ⟨k, h1, h2⟩ := hg _ _ p hp
    rw [h1, Nat.zero_add, ← Array.getElem?_toList]
    exact h2) hev h (fun s' lg' a' w' ι' hk h' => hQ .nm s' a' w' ι' keep w0 (z1x.refl _ _) (by simpa using hk) h')
   rw [hz, Array.length_toList, ← List.range_eq_range'] at this
   exact this
  | true =>
   simp only [if_true] at hev
   exact evOps_draw hm hP hΔ (K := fun s' => K .nm s') hev h fun s' a' w' ι' hk h' => hQ .nm s' a' w' ι' keep w0 (z1x.refl _ _) hk h'
 | .seq x y, hL, R, r, s, K, Q, a, w, ι, keep, w0, h, hev, hQ => by
  simp only [evC] at hev
  refine wpIn_seq (z0L hm hP hΔ x hL.1 s _ _ a w ι keep w0 h hev fun e s' a' w' ι' k1 v1 hl hk h' => ?_)
  cases e with
  | nm => exact z0L hm hP hΔ y hL.2 s' K Q a' w' ι' k1 v1 h' hk fun e s2 a2 w2 ι2 k2 v2 hl2 => hQ e s2 a2 w2 ι2 k2 v2 (hl.trans hl2)
  | ex j => exact hQ (.ex j) s' a' w' ι' k1 v1 hl hk h'
  | rt => exact hQ .rt s' a' w' ι' k1 v1 hl hk h'
 | .cond c x y, hL, R, r, s, K, Q, a, w, ι, keep, w0, h, hev, hQ => by
  simp only [evC] at hev
  have hc := z4U h.f.tm c
  split at hev
  ·rename_i g hg
   rw [hg, z0s] at hc
   refine wpIn_cond hc ?_
   split at hev
   ·rename_i ht
    subst ht
    exact z0L hm hP hΔ x hL.1 s K Q a w ι keep w0 h hev hQ
   ·rename_i ht
    have ht : g = false := by simpa using ht
    subst ht
    exact z0L hm hP hΔ y hL.2 s K Q a w ι keep w0 h hev hQ
  ·rename_i hg
   rw [hg] at hc
   simp only [RelV] at hc
   obtain ⟨g, hc⟩ := hc
   obtain ⟨h1, h2⟩ := meet_some hev
   refine wpIn_cond hc ?_
   cases g
   ·exact z0L hm hP hΔ y hL.2 s K Q a w ι keep w0 h h2 hQ
   ·exact z0L hm hP hΔ x hL.1 s K Q a w ι keep w0 h h1 hQ
  ·cases hev
 | .block id c, hL, R, r, s, K, Q, a, w, ι, keep, w0, h, hev, hQ => by
  simp only [evC] at hev
  refine wpIn_block (z0L hm hP hΔ c hL s _ _ a w ι keep w0 h hev fun e s' a' w' ι' k1 v1 hl hk h' => ?_)
  cases e with
  | nm => exact hQ .nm s' a' w' ι' k1 v1 hl hk h'
  | ex j =>
   show Exit.inBlock id Q (.exit j) a' w'
   simp only at hk
   split at hk
   ·rename_i hj
    have hj := Nat.eq_of_beq_eq_true hj
    subst hj
    have := hQ .nm s' a' w' ι' k1 v1 hl hk h'
    simpa [Exit.inBlock, Ex.out] using this
   ·rename_i hj
    have hj : j ≠ id := fun e => hj (by rw [e]; exact Nat.beq_refl id)
    have := hQ (.ex j) s' a' w' ι' k1 v1 hl hk h'
    simpa [Exit.inBlock, hj, Ex.out] using this
  | rt => exact hQ .rt s' a' w' ι' k1 v1 hl hk h'
 | .loop c, hL, R, r, s, K, Q, a, w, ι, keep, w0, h, hev, hQ => by
  simp only [evC] at hev
  split at hev
  ·rename_i l hl
   exact hL l hl dp X keep w0 w ι s a R K r Q h hev hQ
  ·cases hev
 | .rangeFunc g ps asg body, hL, R, r, s, K, Q, a, w, ι, keep, w0, h, hev, hQ => by
  simp only [evC] at hev
  split at hev
  ·rename_i l hl
   exact hL l hl dp X keep w0 w ι s a R K r Q h hev hQ
  ·cases hev
 | .exit id, _, _, _, s, K, Q, a, w, ι, keep, w0, h, hev, hQ => wpIn_exit (hQ (.ex id) s a w ι keep w0 (z1x.refl _ _) hev h)
 | .ret, _, _, _, s, K, Q, a, w, ι, keep, w0, h, hev, hQ => wpIn_ret (hQ .rt s a w ι keep w0 (z1x.refl _ _) hev h)
 | .scope c, hL, R, r, s, K, Q, a, w, ι, keep, w0, h, hev, hQ => by
  simp only [evC] at hev
  refine z6j (z0L hm hP hΔ c hL s K _ a w ι keep w0 h hev fun e s' a' w' ι' k1 v1 hl hk h' => ?_)
  have := hQ e s' a' w' ι' k1 v1 hl hk h'
  cases e <;> exact this
 | .label _, _, _, _, s, K, Q, a, w, ι, keep, w0, h, hev, hQ => wpIn_label (hQ .nm s a w ι keep w0 (z1x.refl _ _) hev h)
 | .goto _, _, _, _, _, _, _, _, _, _, _, _, _, hev, _ => by cases hev
 | .refuse _, _, _, _, _, _, _, _, _, _, _, _, _, hev, _ => by cases hev
def z2v : Code → Bool
 | .seq a b => z2v a && z2v b
 | .cond _ a b => z2v a && z2v b
 | .block _ c => z2v c
 | .scope c => z2v c
 | .loop _ => false
 | .rangeFunc _ _ _ _ => false
 | _ => true
theorem z1f (hm : P.follows .mixedOrders = true) (hP : z0q P TT) (hΔ : z0O P Δ) {Λ : Nat → Option z0Y} {X : Nat → Prop} {ρ : Option Nat} {dp : Nat} {keep : Nat → Prop} {w0 : World} : ∀ (c : Code), z2v c = true → ∀ {R : Type} {r : R} (s : St) (K : Ex → St → Option R) (Q : Exit → Act → World → Prop) (a : Act) (w : World) (ι : Nat → Option Value),
  SRel X keep w0 n ι s a w → evC TT Δ n.ok Λ c s K = some r → (∀ e s' a' w' ι', K e s' = some r → SRel X keep w0 n ι' s' a' w' → Lk ι ι' → Q e.out a' w') → c.wpIn (WF ρ) dp P Q a w
 | .skip, _, _, _, s, K, Q, a, w, ι, h, hev, hQ => wpIn_skip (hQ .nm s a w ι hev h fun _ _ e => e)
 | .region id ops draw, _, R, r, s, K, Q, a, w, ι, h, hev, hQ => by
  simp only [evC] at hev
  cases draw with
  | false =>
   refine wpIn_region ?_
   have hz : ∀ (l : List Oper) (i : Nat), (zipN i l).map (·.1) = List.range' i l.length := by
    intro l
    induction l with
    | nil => intro i; rfl
    | cons o l ih => intro i; simp [zipN, ih, List.range'_succ]
   have hg : ∀ (l : List Oper) (i : Nat), ∀ p ∈ zipN i l, ∃ k, p.1 = i + k ∧ l[k]? = some p.2 := by
    intro l
    induction l with
    | nil => intro i p hp; cases hp
    | cons o l ih =>
     intro i p hp
     rcases List.mem_cons.1 hp with rfl | hp
     ·exact ⟨0, rfl, rfl⟩
     ·obtain ⟨k, h1, h2⟩ := ih (i + 1) p hp
      exact ⟨k + 1, by omega, by simpa using h2⟩
   have := z3K (ops := ops) (Q := Q) (ρ := ρ) (dp := dp) hP hΔ (zipN 0 ops.toList) s [] a w ι (fun p hp => by
    obtain ⟨k, h1, h2⟩ := hg _ _ p hp
    rw [h1, Nat.zero_add, ← Array.getElem?_toList]
    exact h2) hev h (fun s' lg' a' w' ι' hk h' hlk => hQ .nm s' a' w' ι' (by simpa using hk) h' hlk)
   rw [hz, Array.length_toList, ← List.range_eq_range'] at this
   exact this
  | true =>
   simp only [if_true] at hev
   exact z7a hm hP hΔ (K := fun s' => K .nm s') hev h fun s' a' w' ι' hk h' hlk => hQ .nm s' a' w' ι' hk h' hlk
 | .seq x y, hL, R, r, s, K, Q, a, w, ι, h, hev, hQ => by
  simp only [evC] at hev
  simp only [z2v, Bool.and_eq_true] at hL
  refine wpIn_seq (z1f hm hP hΔ x hL.1 s _ _ a w ι h hev fun e s' a' w' ι' hk h' hl => ?_)
  cases e with
  | nm => exact z1f hm hP hΔ y hL.2 s' K Q a' w' ι' h' hk fun e s2 a2 w2 ι2 q1 q2 q3 => hQ e s2 a2 w2 ι2 q1 q2 fun k v e => q3 k v (hl k v e)
  | ex j => exact hQ (.ex j) s' a' w' ι' hk h' hl
  | rt => exact hQ .rt s' a' w' ι' hk h' hl
 | .cond c x y, hL, R, r, s, K, Q, a, w, ι, h, hev, hQ => by
  simp only [evC] at hev
  simp only [z2v, Bool.and_eq_true] at hL
  have hc := z4U h.f.tm c
  split at hev
  ·rename_i g hg
   rw [hg, z0s] at hc
   refine wpIn_cond hc ?_
   split at hev
   ·rename_i ht
    subst ht
    exact z1f hm hP hΔ x hL.1 s K Q a w ι h hev hQ
   ·rename_i ht
    have ht : g = false := by simpa using ht
    subst ht
    exact z1f hm hP hΔ y hL.2 s K Q a w ι h hev hQ
  ·rename_i hg
   rw [hg] at hc
   simp only [RelV] at hc
   obtain ⟨g, hc⟩ := hc
   obtain ⟨h1, h2⟩ := meet_some hev
   refine wpIn_cond hc ?_
   cases g
   ·exact z1f hm hP hΔ y hL.2 s K Q a w ι h h2 hQ
   ·exact z1f hm hP hΔ x hL.1 s K Q a w ι h h1 hQ
  ·cases hev
 | .block id c, hL, R, r, s, K, Q, a, w, ι, h, hev, hQ => by
  simp only [evC] at hev
  refine wpIn_block (z1f hm hP hΔ c hL s _ _ a w ι h hev fun e s' a' w' ι' hk h' hl => ?_)
  cases e with
  | nm => exact hQ .nm s' a' w' ι' hk h' hl
  | ex j =>
   show Exit.inBlock id Q (.exit j) a' w'
   simp only at hk
   split at hk
   ·rename_i hj
    have hj := Nat.eq_of_beq_eq_true hj
    subst hj
    have := hQ .nm s' a' w' ι' hk h' hl
    simpa [Exit.inBlock, Ex.out] using this
   ·rename_i hj
    have hj : j ≠ id := fun e => hj (by rw [e]; exact Nat.beq_refl id)
    have := hQ (.ex j) s' a' w' ι' hk h' hl
    simpa [Exit.inBlock, hj, Ex.out] using this
  | rt => exact hQ .rt s' a' w' ι' hk h' hl
 | .loop c, hL, _, _, _, _, _, _, _, _, _, _, _ => by cases hL
 | .rangeFunc g ps asg body, hL, _, _, _, _, _, _, _, _, _, _, _ => by cases hL
 | .exit id, _, _, _, s, K, Q, a, w, ι, h, hev, hQ => wpIn_exit (hQ (.ex id) s a w ι hev h fun _ _ e => e)
 | .ret, _, _, _, s, K, Q, a, w, ι, h, hev, hQ => wpIn_ret (hQ .rt s a w ι hev h fun _ _ e => e)
 | .scope c, hL, R, r, s, K, Q, a, w, ι, h, hev, hQ => by
  simp only [evC] at hev
  refine z6j (z1f hm hP hΔ c hL s K _ a w ι h hev fun e s' a' w' ι' hk h' hl => ?_)
  have := hQ e s' a' w' ι' hk h' hl
  cases e <;> exact this
 | .label _, _, _, _, s, K, Q, a, w, ι, h, hev, hQ => wpIn_label (hQ .nm s a w ι hev h fun _ _ e => e)
 | .goto _, _, _, _, _, _, _, _, _, _, _, hev, _ => by cases hev
 | .refuse _, _, _, _, _, _, _, _, _, _, _, hev, _ => by cases hev
end
end Go.Proofs.Rf
namespace Go.Proofs.Rf
open Go Go.RowKit
inductive SV where
 | d (agg : Bool) (t : Ty)
 | rf (b : Nat)
 | rs (b sz : Nat)
 | rz (b sz : Nat)
 | pt (b o : Nat)
 | ud
 | fn (f : Nat) (cs : List SV)
 | mp (b : Nat)
 | np
 | mnil
 | nl
 | ro (b : Nat)
 | fs (b sz : Nat)
 | ag (cs : List SV)
 | ve (cs : List SV)
inductive SB where
 | row (t : Ty) (e : Nat)
 | box (e : Nat) (cs : List SV)
 | it
 | map (kt : Ty) (va : Bool) (vt : Ty)
 | nr (t t2 : Ty) (e ie : Nat)
mutual
@[reducible] def SV.den : SV → Type
 | .d _ t => t.den
 | .rs _ _ => Nat × Nat
 | .rz _ _ => Nat
 | .fn _ cs => SV.denL cs
 | .rf _ => Unit
 | .pt _ _ => Unit
 | .ud => Unit
 | .mp _ => Unit
 | .np => Unit
 | .mnil => Unit
 | .nl => Unit
 | .ro _ => Unit
 | .fs _ _ => Nat × Nat × Nat
 | .ag cs => SV.denL cs
 | .ve cs => SV.denL cs
@[reducible] def SV.denL : List SV → Type
 | [] => Unit
 | a :: r => a.den × SV.denL r
end
@[reducible] def SB.den : SB → Type
 | .row t _ => List t.den
 | .box _ cs => SV.denL cs
 | .it => List UInt8 × Nat
 | .map kt _ vt => List (kt.den × vt.den)
 | .nr t t2 _ _ => List (t.den × List t2.den)
@[reducible] def denB : List SB → Type
 | [] => Unit
 | a :: r => a.den × denB r
@[reducible] def denS : List (Nat × SV) → Type
 | [] => Unit
 | p :: r => p.2.den × denS r
structure Shape where
 sl : List (Nat × SV)
 bl : List SB
@[reducible] def Shape.den (sh : Shape) : Type := denS sh.sl × denB sh.bl
mutual
def SV.put : (s : SV) → s.den → AV
 | .d agg t, x => avD agg t x
 | .rs b sz, p => .rs b sz p.1 p.2
 | .rz b sz, p => .rs b sz 0 p
 | .fn f cs, x => .fn f (SV.putL cs x)
 | .rf b, _ => .rf b
 | .pt b o, _ => .pt b o
 | .ud, _ => .ud
 | .mp b, _ => .mp b
 | .np, _ => .np
 | .mnil, _ => .mnil
 | .nl, _ => .nl
 | .ro b, _ => .ro b
 | .fs b sz, p => .fs b p.1 sz p.2.1 p.2.2
 | .ag cs, x => .ag (SV.putL cs x)
 | .ve cs, x => .ve (SV.putL cs x)
def SV.putL : (l : List SV) → SV.denL l → List AV
 | [], _ => []
 | a :: r, x => a.put x.1 :: SV.putL r x.2
end
def SB.put : (s : SB) → s.den → Blk
 | .row t e, xs => .row t e xs true
 | .box e cs, x => .box e (SV.putL cs x)
 | .it, p => .it p.1 p.2
 | .map kt va vt, l => .map kt va vt l
 | .nr t t2 e ie, l => .nr t t2 e ie l
def putB : (l : List SB) → denB l → List Blk
 | [], _ => []
 | a :: r, x => a.put x.1 :: putB r x.2
def putS : (l : List (Nat × SV)) → denS l → List (Nat × AV)
 | [], _ => []
 | p :: r, x => (p.1, p.2.put x.1) :: putS r x.2
def Shape.put (sh : Shape) (x : sh.den) : St := ⟨putS sh.sl x.1, putB sh.bl x.2⟩
def eqB : Bool → Bool → Bool
 | true, true | false, false => true
 | _, _ => false
theorem eqB_iff : ∀ {a b : Bool}, eqB a b = true → a = b := by decide
def atN (ρ : List Nat) (b i : Nat) : Bool := match ρ[b]? with
 | some j => Nat.beq j i
 | none => false
theorem z3A {ρ : List Nat} {b i : Nat} (h : atN ρ b i = true) : ρ[b]? = some i := by
 unfold atN at h
 split at h
 ·rename_i j hj
  rw [hj, Nat.eq_of_beq_eq_true h]
 ·cases h
mutual
def SV.take (C : Nat → Blk) (ρ : List Nat) : (s : SV) → AV → Option (s.den × List (Nat × Blk))
 | .d agg t, v => if eqB v.isAg agg = true then dat C t v else none
 | .rf b, .rf i => if atN ρ b i = true then some ((), []) else none
 | .rs b sz, .rs i sz' off len => if (atN ρ b i && Nat.beq sz' sz) = true then some ((off, len), []) else none
 | .rz b sz, .rs i sz' off len => if (atN ρ b i && Nat.beq sz' sz && Nat.beq off 0) = true then some (len, []) else none
 | .pt b o, .pt i o' => if (atN ρ b i && Nat.beq o' o) = true then some ((), []) else none
 | .ud, .ud => some ((), [])
 | .mp b, .mp i => if atN ρ b i = true then some ((), []) else none
 | .np, .np => some ((), [])
 | .mnil, .mnil => some ((), [])
 | .nl, .nl => some ((), [])
 | .fn f cs, .fn g vs => if Nat.beq g f = true then SV.takeL C ρ cs vs else none
 | .ro b, .ro i => if atN ρ b i = true then some ((), []) else none
 | .fs b sz, .fs i j sz' off len => if (atN ρ b i && Nat.beq sz' sz) = true then some ((j, off, len), []) else none
 | .fs _ _, .nl => some ((0, 0, 0), [])
 | .ag cs, .ag vs => SV.takeL C ρ cs vs
 | .ve cs, .ve vs => SV.takeL C ρ cs vs
 | .ve cs, .pt i o => match C i with
  | .box _ vs => if Nat.beq o 0 = true then (match SV.takeL C ρ cs vs with
   | some (x, f) => some (x, f ++ [(i, .bz vs)])
   | none => none) else none
  | _ => none
 | _, _ => none
def SV.takeL (C : Nat → Blk) (ρ : List Nat) : (l : List SV) → List AV → Option (SV.denL l × List (Nat × Blk))
 | [], [] => some ((), [])
 | a :: r, v :: vs => match a.take C ρ v with
  | some (x, f) => match SV.takeL C ρ r vs with
   | some (y, g) => some ((x, y), f ++ g)
   | none => none
  | none => none
 | _, _ => none
end
def oneMore (ρ : List Nat) (b i : Nat) : List Nat := if Nat.beq b ρ.length = true then ρ ++ [i] else ρ
mutual
def SV.blks : List Nat → SV → AV → List Nat
 | ρ, .rf b, .rf i => oneMore ρ b i
 | ρ, .rs b _, .rs i _ _ _ => oneMore ρ b i
 | ρ, .rz b _, .rs i _ _ _ => oneMore ρ b i
 | ρ, .pt b _, .pt i _ => oneMore ρ b i
 | ρ, .mp b, .mp i => oneMore ρ b i
 | ρ, .fn _ cs, .fn _ vs => SV.blksL ρ cs vs
 | ρ, .ag cs, .ag vs => SV.blksL ρ cs vs
 | ρ, .ro b, .ro i => oneMore ρ b i
 | ρ, .fs b _, .fs i _ _ _ _ => oneMore ρ b i
 | ρ, _, _ => ρ
def SV.blksL : List Nat → List SV → List AV → List Nat
 | ρ, a :: r, v :: vs => SV.blksL (SV.blks ρ a v) r vs
 | ρ, _, _ => ρ
end
def blkS (T : Nat → AV) : List (Nat × SV) → List Nat → List Nat
 | [], ρ => ρ
 | p :: r, ρ => blkS T r (SV.blks ρ p.2 (T p.1))
def blkB (C : Nat → Blk) : List SB → Nat → List Nat → List Nat
 | [], _, ρ => ρ
 | .box _ cs :: r, j, ρ => match ρ[j]? with
  | some i => match C i with
   | .box _ vs => blkB C r (j + 1) (SV.blksL ρ cs vs)
   | _ => blkB C r (j + 1) ρ
  | none => blkB C r (j + 1) ρ
 | _ :: r, j, ρ => blkB C r (j + 1) ρ
def takeS (C : Nat → Blk) (T : Nat → AV) (ρ : List Nat) : (l : List (Nat × SV)) → Option (denS l × List (Nat × Blk))
 | [] => some ((), [])
 | p :: r => match p.2.take C ρ (T p.1) with
  | some (x, f) => match takeS C T ρ r with
   | some (y, g) => some ((x, y), f ++ g)
   | none => none
  | none => none
def SB.take (C : Nat → Blk) (ρ : List Nat) : (s : SB) → Blk → Option (s.den × List (Nat × Blk))
 | .row t e, .row t' e' xs true => match t'.eqv t with
  | some h => if Nat.beq e' e = true then some (Ty.z3z h.down xs, []) else none
  | none => none
 | .box e cs, .box e' vs => if Nat.beq e' e = true then SV.takeL C ρ cs vs else none
 | .it, .it s p => some ((s, p), [])
 | .map kt va vt, .map kt' va' vt' l => match kt'.eqv kt, vt'.eqv vt with
  | some h, some k => if eqBB va' va = true then some (Ty.castM h.down k.down l, []) else none
  | _, _ => none
 | .nr t t2 e ie, .nr t' t2' e' ie' l => match t'.eqv t, t2'.eqv t2 with
  | some h, some k => if (Nat.beq e' e && Nat.beq ie' ie) = true then some (Ty.castN h.down k.down l, []) else none
  | _, _ => none
 | _, _ => none
def takeB (C : Nat → Blk) (ρ : List Nat) : (l : List SB) → List Nat → Option (denB l × List (Nat × Blk))
 | [], [] => some ((), [])
 | a :: r, i :: is => match a.take C ρ (C i) with
  | some (x, f) => match takeB C ρ r is with
   | some (y, g) => some ((x, y), f ++ g)
   | none => none
  | none => none
 | _, _ => none
def nodupN : List Nat → Bool
 | [] => true
 | k :: r => !(memN k r) && nodupN r
theorem z2n : ∀ {l : List Nat}, nodupN l = true → l.Nodup
 | [], _ => List.nodup_nil
 | k :: r, h => by
  simp only [nodupN, Bool.and_eq_true, Bool.not_eq_true'] at h
  exact List.nodup_cons.2 ⟨fun hm => (by rw [z1y.2 hm] at h; cases h.1), z2n h.2⟩
def nlfix1 (bl : List SB) (p : Nat × SV) (s : St) : St := match p.2 with
 | .rf b => match getT s.tm p.1, bl[b]? with
  | .nl, some (.row ty e) => ⟨(p.1, .rf s.bl.length) :: s.tm, s.bl ++ [.row ty e [] true]⟩
  | .rs i sz off len, some (.row _ _) => (match getB s.bl i with
   | .row ty' e' xs true => if (Nat.beq off 0 && Nat.beq sz ty'.size && Nat.blt i s.bl.length) = true then ⟨(p.1, .rf s.bl.length) :: s.tm, setB s.bl i .dead ++ [.row ty' e' (xs.take len) true]⟩ else s
   | _ => s)
  | _, _ => s
 | _ => s
def nlfix (bl : List SB) : List (Nat × SV) → St → St
 | [], s => s
 | p :: r, s => nlfix bl r (nlfix1 bl p s)
def rsOf : AV → List Nat
 | .rs i _ _ _ => [i]
 | _ => []
def nlsrc (bl : List SB) : List (Nat × SV) → St → List Nat
 | [], _ => []
 | p :: r, s => rsOf (getT s.tm p.1) ++ nlsrc bl r (nlfix1 bl p s)
def Shape.ids (sh : Shape) (s : St) : List Nat := blkB (getB s.bl) sh.bl 0 (blkS (getT s.tm) sh.sl [])
def hasBz : List (Nat × Blk) → Bool
 | [] => false
 | (_, .bz _) :: _ => true
 | _ :: r => hasBz r
theorem hasBz_upd : ∀ {f : List (Nat × Blk)} {C : Nat → Blk} {k : Nat} {cs : List AV}, hasBz f = false → updC C f k = .bz cs → C k = .bz cs
 | [], _, _, _, _, h => h
 | (j, b) :: r, C, k, cs, h, hu => by
  have hr : hasBz r = false := by cases b <;> first | exact h | cases h
  have h1 := hasBz_upd (C := setC C j b) hr hu
  by_cases e : k = j
  ·subst e
   rw [z0e] at h1
   subst h1
   cases h
  ·rwa [z0f e] at h1
def Shape.take1 (sh : Shape) (s : St) (ρ : List Nat) : Option sh.den :=
 if nodupN ρ = true then match takeS (getB s.bl) (getT s.tm) ρ sh.sl with
  | some (x, f) => match takeB (getB s.bl) ρ sh.bl ρ with
   | some (y, g) => if (meetN ρ (z0U (f ++ g)) || hasBz (f ++ g)) = true then none else some (x, y)
   | none => none
  | none => none
 else none
def nlcell1 (bl : List SB) (i k : Nat) (sv : SV) (s : St) : St := match sv with
 | .rf b => match bl[b]? with
  | some (.row ty e) => (match getB s.bl i with
   | .box be vs => (match vs[k]? with
    | some .nl => if Nat.blt i s.bl.length = true then ⟨s.tm, setB s.bl i (.box be (vs.set k (.rf s.bl.length))) ++ [.row ty e [] true]⟩ else s
    | _ => s)
   | _ => s)
  | _ => s
 | .ro b => match bl[b]? with
  | some (.nr t t2 e ie) => (match getB s.bl i with
   | .box be vs => (match vs[k]? with
    | some .nl => if Nat.blt i s.bl.length = true then ⟨s.tm, setB s.bl i (.box be (vs.set k (.ro s.bl.length))) ++ [.nr t t2 e ie []]⟩ else s
    | _ => s)
   | _ => s)
  | _ => s
 | _ => s
def z6N (bl : List SB) (i : Nat) : Nat → List SV → St → St
 | _, [], s => s
 | k, sv :: r, s => z6N bl i (k + 1) r (nlcell1 bl i k sv s)
def Shape.nlboxes (sh : Shape) : Nat → List SB → St → St
 | _, [], s => s
 | j, .box _ cs :: r, s => match (sh.ids s)[j]? with
  | some i => Shape.nlboxes sh (j + 1) r (z6N sh.bl i 0 cs s)
  | none => Shape.nlboxes sh (j + 1) r s
 | j, .row _ _ :: r, s => Shape.nlboxes sh (j + 1) r s
 | j, .it :: r, s => Shape.nlboxes sh (j + 1) r s
 | j, .map _ _ _ :: r, s => Shape.nlboxes sh (j + 1) r s
 | j, .nr _ _ _ _ :: r, s => Shape.nlboxes sh (j + 1) r s
def Shape.fixd (sh : Shape) (s : St) : St := sh.nlboxes 0 sh.bl (nlfix sh.bl sh.sl s)
def Shape.take (sh : Shape) (s : St) : Option sh.den := sh.take1 (sh.fixd s) (sh.ids (sh.fixd s))
section
variable {X keep : Nat → Prop} {w0 w : World} {ι ι' : Nat → Option Value} {C C0 : Nat → Blk}
def z3C (ρ : List Nat) (ι ι' : Nat → Option Value) : Prop := ∀ b i, ρ[b]? = some i → ι' b = ι i
mutual
theorem SV.z0A {ρ : List Nat} : ∀ (sv : SV) (C0 : Nat → Blk) (v : AV) (u : Value), HRel X keep w0 ι C0 w → z0v C C0 → RelV w (okb X w ι C0) ι v u → ∀ (x : sv.den) (f : List (Nat × Blk)), sv.take C ρ v = some (x, f) →
  Frz X keep w0 ι C C0 w f ∧ ∀ (ok' : Nat → Prop) (ι' : Nat → Option Value), (∀ g, okb X w ι (updC C0 f) g → ok' g) → z3C ρ ι ι' → RelV w ok' ι' (sv.put x) u
 | .d agg t, C0, v, u, h, hf, hv, x, f, ht => by
  simp only [SV.take] at ht
  split at ht
  ·rename_i hag
   obtain ⟨h1, h2⟩ := z7e h hf hv ht
   refine ⟨h1, fun ok' ι' ho hr => ?_⟩
   have hun : v ≠ .un := by rintro rfl; simp [dat] at ht
   have hud : v ≠ .ud := by rintro rfl; simp [dat] at ht
   exact avD_rel hv hun hud (eqB_iff hag) (z0m (fun _ _ _ _ e => e) ho _ _ _ h2)
  ·cases ht
 | .rf b, C0, v, u, h, hf, hv, x, f, ht => by
  cases v <;> simp only [SV.take] at ht <;> (try (cases ht; done))
  rename_i i
  split at ht
  ·rename_i hi
   injection ht with ht
   injection ht with q1 q2
   subst q2
   refine ⟨Frz.nil h hf, fun ok' ι' ho hr => ?_⟩
   simp only [SV.put, RelV] at hv ⊢
   rw [hr b i (z3A hi)]
   exact hv
  ·cases ht
 | .rs b sz, C0, v, u, h, hf, hv, x, f, ht => by
  cases v <;> simp only [SV.take] at ht <;> (try (cases ht; done))
  rename_i i sz' off len
  split at ht
  ·rename_i hi
   simp only [Bool.and_eq_true] at hi
   have hsz := Nat.eq_of_beq_eq_true hi.2
   subst hsz
   injection ht with ht
   injection ht with q1 q2
   subst q1; subst q2
   refine ⟨Frz.nil h hf, fun ok' ι' ho hr => ?_⟩
   simp only [SV.put, RelV] at hv ⊢
   rw [hr b i (z3A hi.1)]
   exact hv
  ·cases ht
 | .rz b sz, C0, v, u, h, hf, hv, x, f, ht => by
  cases v <;> simp only [SV.take] at ht <;> (try (cases ht; done))
  rename_i i sz' off len
  split at ht
  ·rename_i hi
   simp only [Bool.and_eq_true] at hi
   have hsz := Nat.eq_of_beq_eq_true hi.1.2
   subst hsz
   have hof := Nat.eq_of_beq_eq_true hi.2
   subst hof
   injection ht with ht
   injection ht with q1 q2
   subst q1; subst q2
   refine ⟨Frz.nil h hf, fun ok' ι' ho hr => ?_⟩
   simp only [SV.put, RelV] at hv ⊢
   rw [hr b i (z3A hi.1.1)]
   exact hv
  ·cases ht
 | .pt b o, C0, v, u, h, hf, hv, x, f, ht => by
  cases v <;> simp only [SV.take] at ht <;> (try (cases ht; done))
  rename_i i o'
  split at ht
  ·rename_i hi
   simp only [Bool.and_eq_true] at hi
   have hsz := Nat.eq_of_beq_eq_true hi.2
   subst hsz
   injection ht with ht
   injection ht with q1 q2
   subst q2
   refine ⟨Frz.nil h hf, fun ok' ι' ho hr => ?_⟩
   simp only [SV.put, RelV] at hv ⊢
   rw [hr b i (z3A hi.1)]
   exact hv
  ·cases ht
 | .ud, C0, v, u, h, hf, hv, x, f, ht => by
  cases v <;> simp only [SV.take] at ht <;> (try (cases ht; done))
  injection ht with ht
  injection ht with q1 q2
  subst q2
  refine ⟨Frz.nil h hf, fun ok' ι' ho hr => ?_⟩
  simp only [SV.put, RelV] at hv ⊢
  exact hv
 | .np, C0, v, u, h, hf, hv, x, f, ht => by
  cases v <;> simp only [SV.take] at ht <;> (try (cases ht; done))
  injection ht with ht
  injection ht with q1 q2
  subst q2
  refine ⟨Frz.nil h hf, fun ok' ι' ho hr => ?_⟩
  simp only [SV.put, RelV] at hv ⊢
  exact hv
 | .mnil, C0, v, u, h, hf, hv, x, f, ht => by
  cases v <;> simp only [SV.take] at ht <;> (try (cases ht; done))
  injection ht with ht
  injection ht with q1 q2
  subst q2
  refine ⟨Frz.nil h hf, fun ok' ι' ho hr => ?_⟩
  simp only [SV.put, RelV] at hv ⊢
  exact hv
 | .nl, C0, v, u, h, hf, hv, x, f, ht => by
  cases v <;> simp only [SV.take] at ht <;> (try (cases ht; done))
  injection ht with ht
  injection ht with q1 q2
  subst q2
  refine ⟨Frz.nil h hf, fun ok' ι' ho hr => ?_⟩
  simp only [SV.put, RelV] at hv ⊢
  exact hv
 | .mp b, C0, v, u, h, hf, hv, x, f, ht => by
  cases v <;> simp only [SV.take] at ht <;> (try (cases ht; done))
  rename_i i
  split at ht
  ·rename_i hi
   injection ht with ht
   injection ht with q1 q2
   subst q2
   refine ⟨Frz.nil h hf, fun ok' ι' ho hr => ?_⟩
   simp only [SV.put, RelV] at hv ⊢
   rw [hr b i (z3A hi)]
   exact hv
  ·cases ht
 | .fn g cs, C0, v, u, h, hf, hv, x, f, ht => by
  cases v <;> simp only [SV.take] at ht <;> (try (cases ht; done))
  rename_i g' vs
  split at ht
  ·rename_i hg
   have hg := Nat.eq_of_beq_eq_true hg
   subst hg
   simp only [RelV] at hv
   obtain ⟨us, e, h1⟩ := hv
   obtain ⟨k1, k2⟩ := SV.z0V cs C0 vs us h hf h1 x f ht
   refine ⟨k1, fun ok' ι' ho hr => ?_⟩
   simp only [SV.put, RelV]
   exact ⟨us, e, k2 ok' ι' ho hr⟩
  ·cases ht
 | .ro b, C0, v, u, h, hf, hv, x, f, ht => by
  cases v <;> simp only [SV.take] at ht <;> (try (cases ht; done))
  rename_i i
  split at ht
  ·rename_i hi
   injection ht with ht
   injection ht with q1 q2
   subst q2
   refine ⟨Frz.nil h hf, fun ok' ι' ho hr => ?_⟩
   simp only [SV.put, RelV] at hv ⊢
   rw [hr b i (z3A hi)]
   exact hv
  ·cases ht
 | .fs b sz, C0, v, u, h, hf, hv, x, f, ht => by
  cases v <;> simp only [SV.take] at ht <;> (try (cases ht; done))
  ·injection ht with ht
   injection ht with q1 q2
   subst q1; subst q2
   refine ⟨Frz.nil h hf, fun ok' ι' ho hr => ?_⟩
   simp only [SV.put, RelV] at hv ⊢
   exact ⟨none, 0, hv, Nat.le_refl _, fun q => absurd q (by omega)⟩
  ·rename_i i j sz' off len
   split at ht
   ·rename_i hi
    simp only [Bool.and_eq_true] at hi
    have hsz := Nat.eq_of_beq_eq_true hi.2
    subst hsz
    injection ht with ht
    injection ht with q1 q2
    subst q1; subst q2
    refine ⟨Frz.nil h hf, fun ok' ι' ho hr => ?_⟩
    simp only [SV.put, RelV] at hv ⊢
    rw [hr b i (z3A hi.1)]
    exact hv
   ·cases ht
 | .ag cs, C0, v, u, h, hf, hv, x, f, ht => by
  cases v <;> simp only [SV.take] at ht <;> (try (cases ht; done))
  rename_i vs
  simp only [RelV] at hv
  obtain ⟨us, e, h1⟩ := hv
  obtain ⟨k1, k2⟩ := SV.z0V cs C0 vs us h hf h1 x f ht
  refine ⟨k1, fun ok' ι' ho hr => ?_⟩
  simp only [SV.put, RelV]
  exact ⟨us, e, k2 ok' ι' ho hr⟩
 | .ve cs, C0, v, u, h, hf, hv, x, f, ht => by
  cases v <;> simp only [SV.take] at ht <;> (try (cases ht; done))
  ·rename_i i o
   split at ht
   ·rename_i e vs hC
    split at ht
    ·rename_i ho
     have ho := Nat.eq_of_beq_eq_true ho
     subst ho
     split at ht
     ·rename_i x1 f1 e1
      injection ht with ht
      injection ht with q1 q2
      subst q1; subst q2
      simp only [RelV] at hv
      obtain ⟨g, g1, g2⟩ := hv
      obtain ⟨-, v0, z1, z2⟩ := frz_box h hf hC
      rw [g1] at z1
      injection z1 with z1
      subst z1
      obtain ⟨us, w1⟩ : ∃ us, RelL w (okb X w ι C0) ι vs us := by
       have hB := h.bl i
       rcases hf i with h1 | ⟨_, _, _, h1, _⟩ | ⟨_, _, _, _, _, h1, _⟩ | ⟨e', cs', h1, h2⟩
       ·rw [h1, hC] at hB
        obtain ⟨_, us, _, _, b3⟩ := hB
        exact ⟨us, b3⟩
       ·rw [hC] at h1; cases h1
       ·rw [hC] at h1; cases h1
       ·rw [hC] at h1
        injection h1 with _ h1
        subst h1
        rw [h2] at hB
        obtain ⟨v1, _, b2⟩ := hB
        simp only [RelV] at b2
        obtain ⟨_, _, us, _, _, b3, _⟩ := b2
        exact ⟨us, b3⟩
      obtain ⟨k1, -⟩ := SV.z0V cs C0 vs us h hf w1 x1 f1 e1
      obtain ⟨l1, l2⟩ := frz_box k1.1 k1.2.1 hC
      obtain ⟨v2, m1, m2⟩ := l2
      rw [g1] at m1
      injection m1 with m1
      subst m1
      simp only [RelV] at m2
      obtain ⟨g3, o3, us3, m3, m4, m5, m6⟩ := m2
      refine ⟨k1.append l1, fun ok' ι' ho hr => ?_⟩
      rw [z0r] at ho
      obtain ⟨us4, n1, n2⟩ : ∃ us4, (∀ j u, us4[j]? = some u → w.cell? ⟨g3, o3 + j, none⟩ = some u) ∧ RelL w (okb X w ι C0) ι vs us4 := by
       have hB := h.bl i
       rcases hf i with h1 | ⟨_, _, _, h1, _⟩ | ⟨_, _, _, _, _, h1, _⟩ | ⟨e', cs', h1, h2⟩
       ·rw [h1, hC] at hB
        obtain ⟨g5, us5, b1, b2, b3⟩ := hB
        rw [g1] at b1
        injection b1 with b1
        rw [m3] at b1
        injection b1 with b1
        injection b1 with b1
        injection b1 with b1 b4 _
        subst b1; subst b4
        refine ⟨us5, fun j u hu => ?_, b3⟩
        rw [Nat.zero_add]
        simp only [World.cell?, b2]
        simpa using hu
       ·rw [hC] at h1; cases h1
       ·rw [hC] at h1; cases h1
       ·rw [hC] at h1
        injection h1 with _ h1
        subst h1
        rw [h2] at hB
        obtain ⟨v1, b1, b2⟩ := hB
        rw [g1] at b1
        injection b1 with b1
        subst b1
        simp only [RelV] at b2
        obtain ⟨g5, o5, us5, c1, c2, c3, c4⟩ := b2
        rw [m3] at c1
        injection c1 with c1
        injection c1 with c1
        injection c1 with c1 c5 _
        subst c1; subst c5
        exact ⟨us5, c4, c3⟩
      obtain ⟨_, k3⟩ := SV.z0V cs C0 vs us4 h hf n2 x1 f1 e1
      simp only [SV.put, RelV]
      rw [g2, m3]
      exact ⟨g3, o3, us4, rfl, ho g3 m4, k3 ok' ι' (fun g hg => ho g (l1.2.2.ok g hg)) hr, n1⟩
     ·cases ht
    ·cases ht
   ·cases ht
  ·rename_i vs
   simp only [RelV] at hv
   obtain ⟨g, o, us, e, h0, h1, h2⟩ := hv
   obtain ⟨k1, k2⟩ := SV.z0V cs C0 vs us h hf h1 x f ht
   refine ⟨k1, fun ok' ι' ho hr => ?_⟩
   simp only [SV.put, RelV]
   exact ⟨g, o, us, e, ho g (k1.2.2.ok g h0), k2 ok' ι' ho hr, h2⟩
theorem SV.z0V {ρ : List Nat} : ∀ (l : List SV) (C0 : Nat → Blk) (vs : List AV) (us : List Value), HRel X keep w0 ι C0 w → z0v C C0 → RelL w (okb X w ι C0) ι vs us → ∀ (x : SV.denL l) (f : List (Nat × Blk)), SV.takeL C ρ l vs = some (x, f) →
  Frz X keep w0 ι C C0 w f ∧ ∀ (ok' : Nat → Prop) (ι' : Nat → Option Value), (∀ g, okb X w ι (updC C0 f) g → ok' g) → z3C ρ ι ι' → RelL w ok' ι' (SV.putL l x) us
 | [], C0, vs, us, h, hf, hv, x, f, ht => by
  cases vs <;> simp only [SV.takeL] at ht <;> (try (cases ht; done))
  injection ht with ht
  injection ht with q1 q2
  subst q2
  refine ⟨Frz.nil h hf, fun ok' ι' ho hr => ?_⟩
  simp only [SV.putL]
  rw [z0d.1 hv]
  exact z0d.2 rfl
 | a :: r, C0, vs, us, h, hf, hv, x, f, ht => by
  cases vs <;> simp only [SV.takeL] at ht <;> (try (cases ht; done))
  rename_i v vs
  obtain ⟨u, ur, e, h1, h2⟩ := z0b.1 hv
  split at ht
  ·rename_i x1 f1 e1
   split at ht
   ·rename_i x2 f2 e2
    injection ht with ht
    injection ht with q1 q2
    subst q1; subst q2
    obtain ⟨k1, k2⟩ := SV.z0A a C0 v u h hf h1 x1 f1 e1
    obtain ⟨l1, l2⟩ := SV.z0V r (updC C0 f1) vs ur k1.1 k1.2.1 (k1.2.2.vals h2) x2 f2 e2
    refine ⟨k1.append l1, fun ok' ι' ho hr => ?_⟩
    rw [z0r] at ho
    simp only [SV.putL]
    exact z0b.2 ⟨u, ur, e, k2 ok' ι' (fun g hg => ho g (l1.2.2.ok g hg)) hr, l2 ok' ι' ho hr⟩
   ·cases ht
  ·cases ht
end
theorem z4a {ρ : List Nat} {T : Nat → AV} {V : Nat → Value} : ∀ (l : List (Nat × SV)) (C0 : Nat → Blk), HRel X keep w0 ι C0 w → z0v C C0 → (∀ t, RelV w (okb X w ι C0) ι (T t) (V t)) → ∀ (x : denS l) (f : List (Nat × Blk)), takeS C T ρ l = some (x, f) →
  Frz X keep w0 ι C C0 w f ∧ ∀ (ok' : Nat → Prop) (ι' : Nat → Option Value), (∀ g, okb X w ι (updC C0 f) g → ok' g) → z3C ρ ι ι' → ∀ t, RelV w ok' ι' (getT (putS l x) t) (V t)
 | [], C0, h, hf, hT, x, f, ht => by
  simp only [takeS] at ht
  injection ht with ht
  injection ht with q1 q2
  subst q2
  exact ⟨Frz.nil h hf, fun ok' ι' ho hr t => by simp only [putS, getT, RelV]⟩
 | p :: r, C0, h, hf, hT, x, f, ht => by
  simp only [takeS] at ht
  split at ht
  ·rename_i x1 f1 e1
   split at ht
   ·rename_i x2 f2 e2
    injection ht with ht
    injection ht with q1 q2
    subst q1; subst q2
    obtain ⟨k1, k2⟩ := SV.z0A p.2 C0 (T p.1) (V p.1) h hf (hT _) x1 f1 e1
    obtain ⟨l1, l2⟩ := z4a r (updC C0 f1) k1.1 k1.2.1 (fun t => k1.2.2.val (hT t)) x2 f2 e2
    refine ⟨k1.append l1, fun ok' ι' ho hr t => ?_⟩
    rw [z0r] at ho
    simp only [putS, getT]
    split
    ·rename_i hb
     rw [← Nat.eq_of_beq_eq_true hb]
     exact k2 ok' ι' (fun g hg => ho g (l1.2.2.ok g hg)) hr
    ·exact l2 ok' ι' ho hr t
   ·cases ht
  ·cases ht
theorem SB.z0A {ρ : List Nat} (sb : SB) (C0 : Nat → Blk) {i : Nat} (h : HRel X keep w0 ι C0 w) (hf : z0v C C0) (x : sb.den) (f : List (Nat × Blk)) (ht : sb.take C ρ (C i) = some (x, f)) :
  Frz X keep w0 ι C C0 w f ∧ ∀ (C1 : Nat → Blk) (ok' : Nat → Prop) (ι' : Nat → Option Value) (j : Nat), C1 i = C i → RelB w (okb X w ι C1) ι i (C1 i) → (∀ g, okb X w ι (updC C0 f) g → ok' g) → (∀ g, okb X w ι C1 g → ok' g) → z3C ρ ι ι' → ι' j = ι i →
   RelB w ok' ι' j (sb.put x) ∧ ∀ C' : Nat → Blk, C' j = sb.put x → bk ι' C' j = bk ι C1 i := by
 have hC0 := hf i
 cases sb with
 | row t e =>
  cases hC : C i with
  | row t' e' xs rw =>
   rw [hC] at ht
   cases rw with
   | true =>
    simp only [SB.take] at ht
    split at ht
    ·rename_i hty _
     have hty := hty.down
     subst hty
     split at ht
     ·rename_i he
      have he := Nat.eq_of_beq_eq_true he
      subst he
      injection ht with ht
      injection ht with q1 q2
      subst q1; subst q2
      refine ⟨Frz.nil h hf, fun C1 ok' ι' j h1 h2 ho ho1 hr hi => ?_⟩
      rw [h1] at h2
      obtain ⟨v, cs, k1, k2, k3⟩ := h2
      refine ⟨⟨v, cs, by rw [hi]; exact k1, k2, z0w (z0m (fun _ _ _ _ e => e) ho1 _) k3⟩, fun C' hC' => ?_⟩
      unfold bk
      rw [hC', h1, hi]
      rfl
     ·cases ht
    ·cases ht
   | false => cases ht
  | box e cs => rw [hC] at ht; cases ht
  | it s p => rw [hC] at ht; cases ht
  | map _ _ _ _ => rw [hC] at ht; cases ht
  | nr _ _ _ _ _ => rw [hC] at ht; cases ht
  | nz _ _ _ => rw [hC] at ht; cases ht
  | bz _ => rw [hC] at ht; cases ht
  | dead => rw [hC] at ht; cases ht
 | box be cs =>
  cases hC : C i with
  | row t' e' xs rw => rw [hC] at ht; cases rw <;> cases ht
  | box be' vs =>
   rw [hC] at ht
   simp only [SB.take] at ht
   split at ht
   ·rename_i hbe
    have hbe := Nat.eq_of_beq_eq_true hbe
    subst hbe
    have hcell : ∃ us, RelL w (okb X w ι C0) ι vs us ∧ ∀ (g : Nat) us', ι i = some (.pointer (some ⟨g, 0, none⟩)) → w.heap[g]? = some (.cells (List.toArray us') be') → us'.length = vs.length → us = us' := by
     have hb := h.bl i
     rcases hC0 with e | ⟨t, e, xs, e1, _⟩ | ⟨_, _, _, _, _, e1, _⟩ | ⟨e', cs', e1, e2⟩
     ·rw [e, hC] at hb
      obtain ⟨g, us, k1, k2, k3⟩ := hb
      refine ⟨us, k3, fun g' us' q1 q2 _ => ?_⟩
      rw [k1] at q1
      injection q1 with q1
      injection q1 with q1
      injection q1 with q1
      injection q1 with q1
      subst q1
      rw [k2] at q2
      injection q2 with q2
      injection q2 with q2
      simpa using q2
     ·rw [hC] at e1; cases e1
     ·rw [hC] at e1; cases e1
     ·rw [hC] at e1
      injection e1 with _ e1
      subst e1
      rw [e2] at hb
      obtain ⟨v1, b1, b2⟩ := hb
      simp only [RelV] at b2
      obtain ⟨g5, o5, us5, c1, c2, c3, c4⟩ := b2
      refine ⟨us5, c3, fun g' us' q1 q2 q3 => ?_⟩
      rw [b1] at q1
      injection q1 with q1
      rw [c1] at q1
      injection q1 with q1
      injection q1 with q1
      injection q1 with q1 c5 _
      subst q1; subst c5
      have hl := z0j c3
      refine List.ext_getElem? fun j => ?_
      rcases Nat.lt_or_ge j us5.length with hj | hj
      ·have := c4 j us5[j] (List.getElem?_eq_getElem hj)
       rw [Nat.zero_add] at this
       simp only [World.cell?, q2] at this
       rw [List.getElem?_eq_getElem hj]
       simpa using this.symm
      ·rw [List.getElem?_eq_none hj, List.getElem?_eq_none (by omega)]
    obtain ⟨us, k3, kk⟩ := hcell
    obtain ⟨l1, l2⟩ := SV.z0V cs C0 vs us h hf k3 x f ht
    refine ⟨l1, fun C1 ok' ι' j h1 h2 ho ho1 hr hi => ?_⟩
    rw [h1] at h2
    obtain ⟨g, us', q1, q2, q3⟩ := h2
    have := kk g us' q1 q2 (z0j q3)
    subst this
    refine ⟨⟨g, us, by rw [hi]; exact q1, q2, l2 ok' ι' ho hr⟩, fun C' hC' => ?_⟩
    unfold bk
    rw [hC', h1, hi, q1]
    rfl
   ·cases ht
  | it s p => rw [hC] at ht; cases ht
  | map _ _ _ _ => rw [hC] at ht; cases ht
  | nr _ _ _ _ _ => rw [hC] at ht; cases ht
  | nz _ _ _ => rw [hC] at ht; cases ht
  | bz _ => rw [hC] at ht; cases ht
  | dead => rw [hC] at ht; cases ht
 | it =>
  cases hC : C i with
  | row t' e' xs rw => rw [hC] at ht; cases rw <;> cases ht
  | box _ vs => rw [hC] at ht; cases ht
  | it s p =>
   rw [hC] at ht
   simp only [SB.take] at ht
   injection ht with ht
   injection ht with q1 q2
   subst q1; subst q2
   refine ⟨Frz.nil h hf, fun C1 ok' ι' j h1 h2 ho ho1 hr hi => ?_⟩
   rw [h1] at h2
   obtain ⟨g, k1, k2⟩ := h2
   refine ⟨⟨g, by rw [hi]; exact k1, k2⟩, fun C' hC' => ?_⟩
   unfold bk
   rw [hC', h1, hi]
   rfl
  | map _ _ _ _ => rw [hC] at ht; cases ht
  | nr _ _ _ _ _ => rw [hC] at ht; cases ht
  | nz _ _ _ => rw [hC] at ht; cases ht
  | bz _ => rw [hC] at ht; cases ht
  | dead => rw [hC] at ht; cases ht
 | map kt va vt =>
  cases hC : C i with
  | row t' e' xs rw => rw [hC] at ht; cases rw <;> cases ht
  | box _ vs => rw [hC] at ht; cases ht
  | it s p => rw [hC] at ht; cases ht
  | map kt' va' vt' l =>
   rw [hC] at ht
   simp only [SB.take] at ht
   split at ht
   ·rename_i h1 h2 _ _
    obtain ⟨h1⟩ := h1
    obtain ⟨h2⟩ := h2
    subst h1; subst h2
    split at ht
    ·rename_i hva
     have hva := z3L hva
     subst hva
     injection ht with ht
     injection ht with q1 q2
     subst q1; subst q2
     refine ⟨Frz.nil h hf, fun C1 ok' ι' j h1 h2 ho ho1 hr hi => ?_⟩
     rw [h1] at h2
     obtain ⟨g, es, ck, l', k1, k2, k3, k4, k5, k6⟩ := h2
     refine ⟨⟨g, es, ck, l', by rw [hi]; exact k1, k2, k3, k4, k5, z3h (fun _ _ _ _ e => e) ho1 k6⟩, fun C' hC' => ?_⟩
     unfold bk
     rw [hC', h1, hi]
     rfl
    ·cases ht
   ·cases ht
  | nr _ _ _ _ _ => rw [hC] at ht; cases ht
  | nz _ _ _ => rw [hC] at ht; cases ht
  | bz _ => rw [hC] at ht; cases ht
  | dead => rw [hC] at ht; cases ht
 | nr t it e ie =>
  cases hC : C i with
  | row t' e' xs rw => rw [hC] at ht; cases rw <;> cases ht
  | box _ vs => rw [hC] at ht; cases ht
  | it s p => rw [hC] at ht; cases ht
  | map _ _ _ _ => rw [hC] at ht; cases ht
  | nr t' it' e' ie' l =>
   rw [hC] at ht
   simp only [SB.take] at ht
   split at ht
   ·rename_i h1 h2 _ _
    obtain ⟨h1⟩ := h1
    obtain ⟨h2⟩ := h2
    subst h1; subst h2
    split at ht
    ·rename_i hva
     rw [Bool.and_eq_true] at hva
     have q1 := Nat.eq_of_beq_eq_true hva.1
     have q2 := Nat.eq_of_beq_eq_true hva.2
     subst q1; subst q2
     injection ht with ht
     injection ht with q1 q2
     subst q1; subst q2
     refine ⟨Frz.nil h hf, fun C1 ok' ι' j h1 h2 ho ho1 hr hi => ?_⟩
     rw [h1] at h2
     obtain ⟨arr, u, vs, cs, k1, k2, k3, k4, k5⟩ := h2
     refine ⟨⟨arr, u, vs, cs, by rw [hi]; exact k1, k2, k3, z1L (fun _ _ _ _ e => e) ho1 k4 (fun _ _ _ _ => rfl), k5⟩, fun C' hC' => ?_⟩
     unfold bk
     rw [hC', h1, hi]
     rfl
    ·cases ht
   ·cases ht
  | nz _ _ _ => rw [hC] at ht; cases ht
  | bz _ => rw [hC] at ht; cases ht
  | dead => rw [hC] at ht; cases ht
theorem z4c {ρ : List Nat} : ∀ (l : List SB) (is : List Nat) (j0 : Nat) (C0 : Nat → Blk), HRel X keep w0 ι C0 w → z0v C C0 → (∀ k i, is[k]? = some i → ρ[j0 + k]? = some i) → ∀ (x : denB l) (f : List (Nat × Blk)), takeB C ρ l is = some (x, f) →
  Frz X keep w0 ι C C0 w f ∧ l.length = is.length ∧ ∀ (C1 : Nat → Blk) (ok' : Nat → Prop) (ι' : Nat → Option Value), (∀ i ∈ is, C1 i = C i) → (∀ i, RelB w (okb X w ι C1) ι i (C1 i)) → (∀ g, okb X w ι (updC C0 f) g → ok' g) → (∀ g, okb X w ι C1 g → ok' g) → z3C ρ ι ι' →
   ∀ k i, is[k]? = some i → RelB w ok' ι' (j0 + k) (getB (putB l x) k) ∧ ∀ C' : Nat → Blk, C' (j0 + k) = getB (putB l x) k → bk ι' C' (j0 + k) = bk ι C1 i
 | [], is, j0, C0, h, hf, hi, x, f, ht => by
  cases is <;> simp only [takeB] at ht <;> (try (cases ht; done))
  injection ht with ht
  injection ht with q1 q2
  subst q2
  exact ⟨Frz.nil h hf, rfl, fun C1 ok' ι' _ _ _ _ _ k i hk => by simp at hk⟩
 | a :: r, is, j0, C0, h, hf, hi, x, f, ht => by
  cases is <;> simp only [takeB] at ht <;> (try (cases ht; done))
  rename_i i0 is
  split at ht
  ·rename_i x1 f1 e1
   split at ht
   ·rename_i x2 f2 e2
    injection ht with ht
    injection ht with q1 q2
    subst q1; subst q2
    obtain ⟨k1, k2⟩ := SB.z0A a C0 h hf x1 f1 e1
    obtain ⟨l1, l2, l3⟩ := z4c r is (j0 + 1) (updC C0 f1) k1.1 k1.2.1 (fun k i hk => by
     have := hi (k + 1) i (by simpa using hk)
     rwa [show j0 + 1 + k = j0 + (k + 1) by omega]) x2 f2 e2
    refine ⟨k1.append l1, by simp [l2], fun C1 ok' ι' hC1 hB ho ho1 hr k i hk => ?_⟩
    rw [z0r] at ho
    cases k with
    | zero =>
     simp only [List.getElem?_cons_zero, Option.some.injEq] at hk
     subst hk
     exact k2 C1 ok' ι' j0 (hC1 _ (List.mem_cons_self ..)) (hB _) (fun g hg => ho g (l1.2.2.ok g hg)) ho1 hr (hr _ _ (hi 0 _ rfl))
    | succ k =>
     have := l3 C1 ok' ι' (fun i hi => hC1 i (List.mem_cons_of_mem _ hi)) hB ho ho1 hr k i (by simpa using hk)
     rw [show j0 + 1 + k = j0 + (k + 1) by omega] at this
     exact this
   ·cases ht
  ·cases ht
theorem z0C : ∀ (l : List SB) (x : denB l), (putB l x).length = l.length
 | [], _ => rfl
 | _ :: r, x => by simp [putB, z0C r x.2]
def Bx (ι : Nat → Option Value) (C : Nat → Blk) (b : Nat) : Prop := ∃ k e vs, C k = .box e vs ∧ b ∈ bk ι C k
theorem Bx_of {ι ι' : Nat → Option Value} {C C' : Nat → Blk} (h : ∀ k e vs, C k = .box e vs → (∃ e' vs', C' k = .box e' vs') ∧ ι' k = ι k) {b : Nat} : Bx ι C b → Bx ι' C' b := by
 rintro ⟨k, e, vs, h1, h2⟩
 obtain ⟨⟨e', vs', h3⟩, h4⟩ := h k e vs h1
 refine ⟨k, e', vs', h3, ?_⟩
 have : bk ι' C' k = bk ι C k := by
  unfold bk
  rw [h3, h1, h4]
  cases ι k with
  | none => rfl
  | some v =>
   cases v <;> (try rfl)
   rename_i p
   cases p <;> rfl
 rw [this]
 exact h2
theorem Shape.z6r {n : z0N} {sh : Shape} {s : St} {a : Act} {ρ : List Nat} (h : SRel X keep w0 n ι s a w) {x : sh.den} (ht : sh.take1 s ρ = some x) (Y : Nat → Prop) (hY : ∀ b, Y b → Bx ι (getB s.bl) b ∧ b < w0.heap.size ∧ ∀ i ∈ ρ, b ∉ bk ι (getB s.bl) i) :
  ∃ ι', z3C ρ ι ι' ∧ SRel (fun b => X b ∨ Y b) keep w0 n ι' (sh.put x) a w ∧ ∀ b, owned ι' (getB (sh.put x).bl) b → ∃ i ∈ ρ, b ∈ bk ι (getB s.bl) i := by
 unfold Shape.take1 at ht
 split at ht
 ·rename_i hnd
  have hnd := z2n hnd
  split at ht
  ·rename_i x1 f1 e1
   split at ht
   ·rename_i x2 f2 e2
    split at ht
    ·cases ht
    ·rename_i hmt
     rw [Bool.or_eq_true, not_or] at hmt
     have hbz : hasBz (f1 ++ f2) = false := by simpa using hmt.2
     have hmt : meetN ρ (z0U (f1 ++ f2)) = false := by simpa using hmt.1
     injection ht with ht
     subst ht
     obtain ⟨a1, a2⟩ := z4a sh.sl _ h.f.h (z0v.refl _) h.f.tm x1 f1 e1
     obtain ⟨b1, b2, b3⟩ := z4c sh.bl ρ 0 _ a1.1 a1.2.1 (fun k i hk => by rw [Nat.zero_add]; exact hk) x2 f2 e2
     have hF := a1.append b1
     let C1 := updC (getB s.bl) (f1 ++ f2)
     have hC1 : C1 = updC (updC (getB s.bl) f1) f2 := z0r _ _ _
     let ι' : Nat → Option Value := fun j => (ρ[j]?).bind ι
     have hι' : z3C ρ ι ι' := fun j i e => by show (ρ[j]?).bind ι = _; rw [e]; rfl
     let C' := getB (putB sh.bl x2)
     have hHR : HRel X keep w0 ι C1 w := hF.1
     have same : ∀ i ∈ ρ, C1 i = getB s.bl i := fun i hi => z1O _ _ _ (z2w hmt i hi)
     have hbk : ∀ j b, b ∈ bk ι' C' j → ∃ i, ρ[j]? = some i ∧ b ∈ bk ι C1 i := by
      intro j b hb
      cases hi : ρ[j]? with
      | none =>
       have h1 : C' j = .dead := z2E _ _ (by rw [z0C, b2]; exact List.getElem?_eq_none_iff.1 hi)
       rw [z0S h1] at hb
       cases hb
      | some i =>
       refine ⟨i, rfl, ?_⟩
       have := (b3 C1 (fun _ => True) ι' same hHR.bl (fun _ _ => trivial) (fun _ _ => trivial) hι' j i hi).2 C' (by rw [Nat.zero_add])
       rw [Nat.zero_add] at this
       rw [← this]
       exact hb
     have hown : ∀ b, owned ι' C' b → owned ι C1 b := by
      rintro b ⟨j, hj⟩
      obtain ⟨i, _, hi⟩ := hbk j b hj
      exact ⟨i, hi⟩
     have hYo : ∀ b, Y b → owned ι C1 b := by
      intro b hb
      obtain ⟨⟨k, _, vs, q1, q2⟩, _, _⟩ := hY b hb
      refine ⟨k, ?_⟩
      have : bk ι C1 k = bk ι (getB s.bl) k := by
       refine z0D ?_ rfl
       rcases hF.2.1 k with q | ⟨t, e, xs, q, _⟩ | ⟨_, _, _, _, _, q, _⟩ | ⟨e, cs, q, q3⟩
       ·exact q
       ·rw [q1] at q; cases q
       ·rw [q1] at q; cases q
       ·have := hasBz_upd hbz q3
        rw [q] at this; cases this
      rw [this]
      exact q2
     have hok : ∀ b, okb X w ι C1 b → okb (fun b => X b ∨ Y b) w ι' C' b := fun b hb => ⟨hb.1, fun ho => hb.2.1 (hown b ho), fun hx => hx.elim hb.2.2 fun hy => hb.2.1 (hYo b hy)⟩
     have hfin : ∀ b, owned ι' (getB (sh.put (x1, x2)).bl) b → ∃ i ∈ ρ, b ∈ bk ι (getB s.bl) i := by
      rintro b ⟨j, hj⟩
      obtain ⟨i, hi, hb⟩ := hbk j b hj
      have hm : i ∈ ρ := List.mem_of_getElem? hi
      exact ⟨i, hm, by rw [← z0D (ι := ι) (ι' := ι) (same i hm) rfl]; exact hb⟩
     refine ⟨ι', hι', ⟨⟨⟨fun j => ?_, fun j j' b h1 h2 => ?_, hHR.fr, fun b hb => hHR.own b (hown b hb), hHR.kl, fun b hb hx => hx.elim (hHR.ox b (hown b hb)) fun hy => (by
      obtain ⟨j, hj⟩ := hb
      obtain ⟨i, hi, hb'⟩ := hbk j b hj
      have hm : i ∈ ρ := List.mem_of_getElem? hi
      exact (hY b hy).2.2 i hm (by rw [← z0D (ι := ι) (ι' := ι) (same i hm) rfl]; exact hb')), fun b hb => hb.elim (hHR.xl b) fun hy => (hY b hy).2.1, hHR.gl.mono fun g hg => ⟨hok g hg, rfl⟩⟩, fun t => ?_, h.f.size, h.f.defers⟩, fun j hj => ?_⟩, hfin⟩
     ·show RelB w (okb (fun b => X b ∨ Y b) w ι' C') ι' j (C' j)
      cases hi : ρ[j]? with
      | none =>
       have h1 : C' j = .dead := z2E _ _ (by rw [z0C, b2]; exact List.getElem?_eq_none_iff.1 hi)
       rw [h1]
       trivial
      | some i =>
       have := (b3 C1 (okb (fun b => X b ∨ Y b) w ι' C') ι' same hHR.bl (fun g hg => hok g (by rw [hC1]; exact hg)) hok hι' j i hi).1
       rw [Nat.zero_add] at this
       exact this
     ·obtain ⟨i, hi, hb⟩ := hbk j b h1
      obtain ⟨i', hi', hb'⟩ := hbk j' b h2
      have e := hHR.inj i i' b hb hb'
      subst e
      have hlt := (List.getElem?_eq_some_iff.1 hi).1
      exact (List.getElem?_inj hlt hnd).1 (hi.trans hi'.symm)
     ·exact a2 (okb (fun b => X b ∨ Y b) w ι' C') ι' (fun g hg => hok g (by rw [hC1]; exact b1.2.2.ok g hg)) hι' t
     ·have hl : (sh.put (x1, x2)).bl.length = ρ.length := by rw [← b2]; exact z0C _ _
      show (ρ[j]?).bind ι = none
      rw [List.getElem?_eq_none (by omega)]
      rfl
   ·cases ht
  ·cases ht
 ·cases ht
end
end Go.Proofs.Rf
namespace Go.Proofs.Rf
open Go Go.RowKit
section
variable {X keep : Nat → Prop} {w0 w : World} {ι : Nat → Option Value} {C : Nat → Blk}
theorem box_lt {bl : List Blk} {k : Nat} {e : Nat} {vs : List AV} (h : getB bl k = .box e vs) : k < bl.length := by
 rcases Nat.lt_or_ge k bl.length with q | q
 ·exact q
 ·rw [z2E _ _ q] at h; cases h
theorem SRel.nil_row {n : z0N} {s : St} {a : Act} (h : SRel X keep w0 n ι s a w) {t : Nat} (ht : getT s.tm t = .nl) (ty : Ty) (e : Nat) :
  ∃ ι', SRel X keep w0 n ι' ⟨(t, .rf s.bl.length) :: s.tm, s.bl ++ [.row ty e [] true]⟩ a w ∧ (∀ k b, b ∈ bk ι' (getB (s.bl ++ [.row ty e [] true])) k → b ∈ bk ι (getB s.bl) k) ∧ ∀ b, Bx ι (getB s.bl) b → Bx ι' (getB (s.bl ++ [.row ty e [] true])) b := by
 have hnone : ι s.bl.length = none := h.dom _ (Nat.le_refl _)
 have hbk : bk (setI ι s.bl.length (.slice none 0 0)) (setC (getB s.bl) s.bl.length (.row ty e [] true)) s.bl.length = [] := by
  unfold bk
  rw [z0e, z0i]
  rfl
 obtain ⟨h1, h2⟩ := h.f.h.step (C' := setC (getB s.bl) s.bl.length (.row ty e [] true)) (ι' := setI ι s.bl.length (.slice none 0 0)) (w' := w) (fun k => k = s.bl.length) rfl rfl rfl (Nat.le_refl _)
  (fun k hk => z0f hk) (fun k v hk => by
   have hne : k ≠ s.bl.length := by rintro rfl; rw [hnone] at hk; cases hk
   rw [z0x hne]; exact hk) (fun k hk => z0x hk)
  (by rintro k b rfl hb; rw [hbk] at hb; cases hb) (fun k k' b e1 e2 _ _ => e1.trans e2.symm) (fun _ _ _ => rfl)
  (by
   rintro _ k rfl
   rw [z0e]
   exact ⟨.slice none 0 0, [], z0i .., ⟨by simp, .inl ⟨rfl, rfl⟩⟩, rfl⟩)
 refine ⟨setI ι s.bl.length (.slice none 0 0), ⟨?_, fun k hk => ?_⟩, fun k b hb => ?_, fun b hb => Bx_of (fun k be' vs hk => ?_) hb⟩
 ·show FRel X keep w0 n _ (getT ((t, .rf s.bl.length) :: s.tm)) (getB (s.bl ++ [.row ty e [] true])) a w
  rw [z1j]
  refine ⟨h1, fun u => ?_, h.f.size, h.f.defers⟩
  have hu := h.f.tm u
  simp only [getT]
  split
  ·rename_i hb
   have hb := Nat.eq_of_beq_eq_true hb
   subst hb
   rw [ht] at hu
   simp only [RelV] at hu ⊢
   rw [hu]
   exact ⟨z0i .., _, _, _, rfl⟩
  ·exact h2.val hu
 ·simp only [List.length_append, List.length_singleton] at hk
  rw [z0x (by omega)]
  exact h.dom k (by omega)
 ·rw [z1j] at hb
  by_cases e : k = s.bl.length
  ·subst e
   rw [hbk] at hb
   cases hb
  ·rw [z0D (C := getB s.bl) (ι := ι) (z0f e) (z0x e)] at hb
   exact hb
 ·have := box_lt hk
  rw [z1j]
  exact ⟨⟨_, vs, (z0f (by omega)).trans hk⟩, z0x (by omega)⟩
theorem z2e (bl : List Blk) (i : Nat) (b : Blk) (hi : i < bl.length) : getB (setB bl i .dead ++ [b]) = setC (setC (getB bl) i .dead) bl.length b := by
 rw [z1j, z1z, z4Q bl i .dead hi]
theorem SRel.rs_row {n : z0N} {s : St} {a : Act} (h : SRel X keep w0 n ι s a w) {t i sz len : Nat} (ht : getT s.tm t = .rs i sz 0 len) {ty : Ty} {e : Nat} {xs : List ty.den} (hC : getB s.bl i = .row ty e xs true) (hi : i < s.bl.length) :
  ∃ ι', SRel X keep w0 n ι' ⟨(t, .rf s.bl.length) :: s.tm, setB s.bl i .dead ++ [.row ty e (xs.take len) true]⟩ a w ∧ (∀ k b, b ∈ bk ι' (getB (setB s.bl i .dead ++ [.row ty e (xs.take len) true])) k → b ∈ bk ι (getB s.bl) k ∨ b ∈ bk ι (getB s.bl) i) ∧ ∀ b, Bx ι (getB s.bl) b → Bx ι' (getB (setB s.bl i .dead ++ [.row ty e (xs.take len) true])) b := by
 have hnone : ι s.bl.length = none := h.dom _ (Nat.le_refl _)
 have hv := h.f.tm t
 rw [ht] at hv
 simp only [RelV] at hv
 obtain ⟨A, nn, c, A', c', v1, v2, v3, v4, v5, v6⟩ := hv
 obtain ⟨rfl, rfl⟩ := v6 trivial
 have hB := h.f.h.bl i
 rw [hC] at hB
 obtain ⟨v, cs, b1, b2, b3⟩ := hB
 rw [v1] at b1
 injection b1 with b1
 subst b1
 obtain ⟨u, hu⟩ : ∃ u, u = Value.slice A' len c' := ⟨_, rfl⟩
 have hne : i ≠ s.bl.length := by omega
 let C' := setC (setC (getB s.bl) i .dead) s.bl.length (.row ty e (xs.take len) true)
 let ι' := setI ι s.bl.length u
 have hlen : nn = xs.length := by
  rcases b2.2 with ⟨q, q'⟩ | ⟨g, cap, cur, q, _⟩
  ·injection q with _ q1 _
   omega
  ·injection q
 have hxl : (xs.take len).length = len := by rw [List.length_take]; omega
 have hbk : ∀ b, b ∈ bk ι' C' s.bl.length → b ∈ bk ι (getB s.bl) i := by
  intro b hb
  unfold bk at hb ⊢
  rw [show C' s.bl.length = .row ty e (xs.take len) true from z0e .., show ι' s.bl.length = some u from z0i .., hu] at hb
  rw [hC, v1]
  cases A' with
  | none => exact hb
  | some A => exact hb
 have hdead : bk ι' C' i = [] := z0S (by show setC (setC (getB s.bl) i .dead) s.bl.length _ i = .dead; rw [z0f hne, z0e])
 obtain ⟨h1, h2⟩ := h.f.h.step (C' := C') (ι' := ι') (w' := w) (fun k => k = i ∨ k = s.bl.length) rfl rfl rfl (Nat.le_refl _)
  (fun k hk => by
   have k1 : k ≠ i := fun q => hk (.inl q)
   have k2 : k ≠ s.bl.length := fun q => hk (.inr q)
   show setC (setC (getB s.bl) i .dead) s.bl.length _ k = _
   rw [z0f k2, z0f k1])
  (fun k v hk => by
   have hne : k ≠ s.bl.length := by rintro rfl; rw [hnone] at hk; cases hk
   show setI ι s.bl.length u k = _
   rw [z0x hne]; exact hk) (fun k hk => z0x (fun q => hk (.inr q)))
  (by
   rintro k b (rfl | rfl) hb
   ·rw [hdead] at hb; cases hb
   ·exact .inr ⟨i, .inl rfl, hbk b hb⟩)
  (by
   rintro k k' b (rfl | rfl) (rfl | rfl) e1 e2
   ·rfl
   ·rw [hdead] at e1; cases e1
   ·rw [hdead] at e2; cases e2
   ·rfl) (fun _ _ _ => rfl)
  (by
   rintro hext k (rfl | rfl)
   ·show RelB w _ ι' k (C' k)
    rw [show C' k = .dead from (show setC (setC (getB s.bl) k .dead) s.bl.length _ k = .dead by rw [z0f hne, z0e])]
    trivial
   ·show RelB w _ ι' _ (C' _)
    rw [show C' s.bl.length = .row ty e (xs.take len) true from z0e ..]
    refine ⟨u, cs.take (len * ty.size), z0i .., ⟨?_, ?_⟩, ?_⟩
    ·rw [List.length_take, b2.1, hxl]
     exact Nat.min_eq_left (Nat.mul_le_mul_right _ (by omega))
    ·rw [hxl, hu]
     rcases b2.2 with ⟨q, q'⟩ | ⟨g, cap, cur, q, q1, q2, q3, q4, q5, q6⟩
     ·left
      injection q with p1 p2 p3
      exact ⟨by rw [p1, p3, show len = 0 by omega], by omega⟩
     ·right
      injection q with p1 p2 p3
      refine ⟨g, cap, cur, by rw [p1, p3], q1, q2, by omega, q4, q5, ?_⟩
      rw [← q6, List.take_take, Nat.min_eq_left (Nat.mul_le_mul_right _ (by omega))]
    ·exact z1r (fun x us hx => z0h _ _ _ hx) len (z0w (z0m (fun _ _ _ _ e => e) hext.ok _) b3))
 refine ⟨ι', ⟨?_, fun k hk => ?_⟩, fun k b hb => ?_, fun b hb => Bx_of (fun k be' vs hk => ?_) hb⟩
 ·show FRel X keep w0 n _ (getT ((t, .rf s.bl.length) :: s.tm)) (getB (setB s.bl i .dead ++ [.row ty e (xs.take len) true])) a w
  rw [z2e _ _ _ hi]
  refine ⟨h1, fun x => ?_, h.f.size, h.f.defers⟩
  have hx := h.f.tm x
  simp only [getT]
  split
  ·rename_i hb
   have hb := Nat.eq_of_beq_eq_true hb
   subst hb
   simp only [RelV]
   rw [v3]
   exact ⟨(z0i ..).trans (congrArg some hu), _, _, _, rfl⟩
  ·exact h2.val hx
 ·simp only [List.length_append, List.length_singleton, z1z] at hk
  show setI ι s.bl.length u k = none
  rw [z0x (by omega)]
  exact h.dom k (by omega)
 ·rw [z2e _ _ _ hi] at hb
  by_cases e1 : k = s.bl.length
  ·subst e1
   exact .inr (hbk b hb)
  ·by_cases e2 : k = i
   ·subst e2
    rw [hdead] at hb
    cases hb
   ·left
    rw [z0D (C := getB s.bl) (ι := ι) (by show setC (setC (getB s.bl) i .dead) s.bl.length _ k = _; rw [z0f e1, z0f e2]) (z0x e1)] at hb
    exact hb
 ·have hl := box_lt hk
  have hki : k ≠ i := by rintro rfl; rw [hC] at hk; cases hk
  rw [z2e _ _ _ hi]
  refine ⟨⟨be', vs, ?_⟩, z0x (by omega)⟩
  rw [z0f (show k ≠ s.bl.length by omega), z0f hki, hk]
theorem nlfix1_sound {n : z0N} {bl : List SB} (p : Nat × SV) {s : St} {a : Act} (h : SRel X keep w0 n ι s a w) : ∃ ι', SRel X keep w0 n ι' (nlfix1 bl p s) a w ∧ (∀ k b, b ∈ bk ι' (getB (nlfix1 bl p s).bl) k → b ∈ bk ι (getB s.bl) k ∨ ∃ k' ∈ rsOf (getT s.tm p.1), b ∈ bk ι (getB s.bl) k') ∧ ∀ b, Bx ι (getB s.bl) b → Bx ι' (getB (nlfix1 bl p s).bl) b := by
 obtain ⟨t, sv⟩ := p
 have stay : ∃ ι', SRel X keep w0 n ι' s a w ∧ (∀ k b, b ∈ bk ι' (getB s.bl) k → b ∈ bk ι (getB s.bl) k ∨ ∃ k' ∈ rsOf (getT s.tm t), b ∈ bk ι (getB s.bl) k') ∧ ∀ b, Bx ι (getB s.bl) b → Bx ι' (getB s.bl) b := ⟨ι, h, fun _ _ e => .inl e, fun _ e => e⟩
 cases sv with
 | rf b =>
  simp only [nlfix1]
  split
  ·rename_i ty e ht _
   obtain ⟨ι', h', h2, h3⟩ := h.nil_row ht ty e
   exact ⟨ι', h', fun k b hb => .inl (h2 k b hb), h3⟩
  ·rename_i i sz off len _ _ ht _
   split
   ·rename_i ty' e' xs hC
    split
    ·rename_i hc
     simp only [Bool.and_eq_true] at hc
     have hof := Nat.eq_of_beq_eq_true hc.1.1
     subst hof
     obtain ⟨ι', h', h2, h3⟩ := h.rs_row ht hC (Nat.le_of_ble_eq_true hc.2)
     refine ⟨ι', h', fun k b hb => ?_, h3⟩
     rcases h2 k b hb with q | q
     ·exact .inl q
     ·exact .inr ⟨i, by rw [ht]; exact List.mem_singleton.2 rfl, q⟩
    ·exact stay
   ·exact stay
  ·exact stay
 | _ => exact stay
theorem z6M {n : z0N} {bl : List SB} : ∀ (sl : List (Nat × SV)) {s : St} {a : Act} {ι : Nat → Option Value}, SRel X keep w0 n ι s a w → ∃ ι', SRel X keep w0 n ι' (nlfix bl sl s) a w ∧ (∀ k b, b ∈ bk ι' (getB (nlfix bl sl s).bl) k → b ∈ bk ι (getB s.bl) k ∨ ∃ k' ∈ nlsrc bl sl s, b ∈ bk ι (getB s.bl) k') ∧ ∀ b, Bx ι (getB s.bl) b → Bx ι' (getB (nlfix bl sl s).bl) b
 | [], _, _, ι, h => ⟨ι, h, fun _ _ e => .inl e, fun _ e => e⟩
 | p :: r, s, a, ι, h => by
  obtain ⟨ι1, h1, e1, x1⟩ := nlfix1_sound (bl := bl) p h
  obtain ⟨ι2, h2, e2, x2⟩ := z6M (bl := bl) r h1
  refine ⟨ι2, h2, fun k b hb => ?_, fun b hb => x2 b (x1 b hb)⟩
  rcases e2 k b hb with q | ⟨k', q1, q2⟩
  ·rcases e1 k b q with q | ⟨k', q1, q2⟩
   ·exact .inl q
   ·exact .inr ⟨k', List.mem_append_left _ q1, q2⟩
  ·rcases e1 k' b q2 with q | ⟨k2, q3, q4⟩
   ·exact .inr ⟨k', List.mem_append_right _ q1, q⟩
   ·exact .inr ⟨k2, List.mem_append_left _ q3, q4⟩
theorem RelL_set {w : World} {ok : Nat → Prop} {ι : Nat → Option Value} {x : AV} : ∀ {vs : List AV} {us : List Value} (k : Nat) (u : Value), RelL w ok ι vs us → us[k]? = some u → RelV w ok ι x u → RelL w ok ι (vs.set k x) us
 | [], us, k, u, h, hu, hx => by
  have := z0d.1 h
  subst this
  simp at hu
 | v :: vs, us, 0, u, h, hu, hx => by
  obtain ⟨u', ur, e, h1, h2⟩ := z0b.1 h
  subst e
  simp only [List.getElem?_cons_zero, Option.some.injEq] at hu
  subst hu
  exact z0b.2 ⟨_, _, rfl, hx, h2⟩
 | v :: vs, us, k + 1, u, h, hu, hx => by
  obtain ⟨u', ur, e, h1, h2⟩ := z0b.1 h
  subst e
  exact z0b.2 ⟨_, _, rfl, h1, RelL_set k u h2 (by simpa using hu) hx⟩
theorem nlcell_at {n : z0N} {i k be : Nat} {vs : List AV} {s : St} {a : Act} (h : SRel X keep w0 n ι s a w) (hC : getB s.bl i = .box be vs) (hk : vs[k]? = some .nl) (hi : i < s.bl.length) (nv : AV) (nk : Blk) (nw : Value)
  (hbk : ∀ ι' C', C' s.bl.length = nk → ι' s.bl.length = some nw → bk ι' C' s.bl.length = []) (hrb : ∀ w ok ι' k, ι' k = some nw → RelB w ok ι' k nk)
  (hrv : ∀ w ok ι', ι' s.bl.length = some nw → RelV w ok ι' nv (.slice none 0 0)) :
  ∃ ι', SRel X keep w0 n ι' ⟨s.tm, setB s.bl i (.box be (vs.set k nv)) ++ [nk]⟩ a w ∧ (∀ j b, b ∈ bk ι' (getB (setB s.bl i (.box be (vs.set k nv)) ++ [nk])) j → b ∈ bk ι (getB s.bl) j) ∧ ∀ b, Bx ι (getB s.bl) b → Bx ι' (getB (setB s.bl i (.box be (vs.set k nv)) ++ [nk])) b := by
 have hne : i ≠ s.bl.length := by omega
 have hnone : ι s.bl.length = none := h.dom _ (Nat.le_refl _)
 have hB := h.f.h.bl i
 rw [hC] at hB
 obtain ⟨g, us, b1, b2, b3⟩ := hB
 obtain ⟨u, hu, hr⟩ := RelL_get k .nl b3 hk
 simp only [RelV] at hr
 subst hr
 let x : Blk := .box be (vs.set k (nv))
 let C' := setC (setC (getB s.bl) i x) s.bl.length (nk)
 let ι' := setI ι s.bl.length nw
 have e1 : C' s.bl.length = nk := z0e ..
 have e2 : C' i = x := (z0f hne).trans (z0e ..)
 have e3 : ι' s.bl.length = some nw := z0i ..
 have e4 : ι' i = ι i := z0x hne
 have k1 : bk ι' C' s.bl.length = [] := hbk _ _ e1 e3
 have k2 : bk ι' C' i = bk ι (getB s.bl) i := by unfold bk; rw [e2, e4, hC, b1]
 obtain ⟨h1, h2⟩ := h.f.h.step (C' := C') (ι' := ι') (w' := w) (fun k => k = i ∨ k = s.bl.length) rfl rfl rfl (Nat.le_refl _)
  (fun k hk => by
   have q1 : k ≠ i := fun q => hk (.inl q)
   have q2 : k ≠ s.bl.length := fun q => hk (.inr q)
   show setC (setC (getB s.bl) i x) s.bl.length _ k = _
   rw [z0f q2, z0f q1])
  (fun k v hk => by
   have hne : k ≠ s.bl.length := by rintro rfl; rw [hnone] at hk; cases hk
   show setI ι s.bl.length _ k = _
   rw [z0x hne]; exact hk) (fun k hk => z0x (fun q => hk (.inr q)))
  (by
   rintro k b (rfl | rfl) hb
   ·exact .inr ⟨k, .inl rfl, by rw [← k2]; exact hb⟩
   ·rw [k1] at hb; cases hb)
  (by
   rintro k k' b (rfl | rfl) (rfl | rfl) q1 q2
   ·rfl
   ·rw [k1] at q2; cases q2
   ·rw [k1] at q1; cases q1
   ·rfl) (fun _ _ _ => rfl)
  (by
   rintro hext k (rfl | rfl)
   ·show RelB w _ ι' k (C' k)
    rw [e2]
    refine ⟨g, us, e4.trans b1, b2, RelL_set _ _ (hext.vals b3) hu ?_⟩
    exact hrv _ _ _ e3
   ·show RelB w _ ι' _ (C' _)
    rw [e1]
    exact hrb _ _ _ _ e3)
 have hg : getB (setB s.bl i x ++ [nk]) = C' := by rw [z1j, z1z, z4Q s.bl i x hi]
 refine ⟨ι', ⟨?_, fun j hj => ?_⟩, fun j b hb => ?_, fun b hb => Bx_of (fun j be' ws hj => ?_) hb⟩
 ·show FRel X keep w0 n ι' (getT s.tm) (getB (setB s.bl i x ++ [nk])) a w
  rw [hg]
  exact ⟨h1, fun t => h2.val (h.f.tm t), h.f.size, h.f.defers⟩
 ·simp only [List.length_append, List.length_singleton, z1z] at hj
  show setI ι s.bl.length _ j = none
  rw [z0x (by omega)]
  exact h.dom j (by omega)
 ·have hb : b ∈ bk ι' (getB (setB s.bl i x ++ [nk])) j := hb
  rw [hg] at hb
  by_cases q1 : j = s.bl.length
  ·subst q1; rw [k1] at hb; cases hb
  ·by_cases q2 : j = i
   ·subst q2; rw [← k2]; exact hb
   ·rw [z0D (C := getB s.bl) (ι := ι) (by show setC (setC (getB s.bl) i x) s.bl.length _ j = _; rw [z0f q1, z0f q2]) (z0x q1)] at hb
    exact hb
 ·have hl := box_lt hj
  show (∃ e' vs', getB (setB s.bl i x ++ [nk]) j = .box e' vs') ∧ ι' j = ι j
  rw [hg]
  by_cases q2 : j = i
  ·subst q2; exact ⟨⟨_, _, e2⟩, e4⟩
  ·refine ⟨⟨be', ws, ?_⟩, z0x (by omega)⟩
   show setC (setC (getB s.bl) i x) s.bl.length _ j = _
   rw [z0f (show j ≠ s.bl.length by omega), z0f q2, hj]
theorem nlcell1_sound {n : z0N} {bl : List SB} {i k : Nat} (sv : SV) {s : St} {a : Act} (h : SRel X keep w0 n ι s a w) : ∃ ι', SRel X keep w0 n ι' (nlcell1 bl i k sv s) a w ∧ (∀ j b, b ∈ bk ι' (getB (nlcell1 bl i k sv s).bl) j → b ∈ bk ι (getB s.bl) j) ∧ ∀ b, Bx ι (getB s.bl) b → Bx ι' (getB (nlcell1 bl i k sv s).bl) b := by
 have stay : ∃ ι', SRel X keep w0 n ι' s a w ∧ (∀ j b, b ∈ bk ι' (getB s.bl) j → b ∈ bk ι (getB s.bl) j) ∧ ∀ b, Bx ι (getB s.bl) b → Bx ι' (getB s.bl) b := ⟨ι, h, fun _ _ e => e, fun _ e => e⟩
 unfold nlcell1
 split
 ·split
  ·rename_i ty e _
   split
   ·rename_i be vs hC
    split
    ·rename_i hk
     split
     ·rename_i hi
      exact nlcell_at h hC hk (Nat.le_of_ble_eq_true hi) _ _ (.slice none 0 0) (fun ι' C' e1 e3 => by unfold bk; rw [e1, e3]; rfl) (fun w ok ι' k e3 => ⟨.slice none 0 0, [], e3, ⟨by simp, .inl ⟨rfl, rfl⟩⟩, rfl⟩)
       (fun w ok ι' e3 => by
        simp only [RelV]
        exact ⟨e3, _, _, _, rfl⟩)
     ·exact stay
    ·exact stay
   ·exact stay
  ·exact stay
 ·split
  ·rename_i ty t2 e ie _
   split
   ·rename_i be vs hC
    split
    ·rename_i hk
     split
     ·rename_i hi
      exact nlcell_at h hC hk (Nat.le_of_ble_eq_true hi) _ _ (.tuple #[.slice none 0 0]) (fun ι' C' e1 e3 => by unfold bk; rw [e1, e3]; rfl) (fun w ok ι' k e3 => ⟨_, .slice none 0 0, [], [], e3, rfl, ⟨by simp, .inl ⟨rfl, rfl⟩⟩, ⟨rfl, rfl⟩, List.nodup_nil⟩)
       (fun w ok ι' e3 => by
        simp only [RelV]
        exact ⟨_, e3, rfl, _, _, _, rfl⟩)
     ·exact stay
    ·exact stay
   ·exact stay
  ·exact stay
 ·exact stay
theorem z4M {n : z0N} {bl : List SB} {i : Nat} : ∀ (l : List SV) (k : Nat) {s : St} {a : Act} {ι : Nat → Option Value}, SRel X keep w0 n ι s a w → ∃ ι', SRel X keep w0 n ι' (z6N bl i k l s) a w ∧ (∀ j b, b ∈ bk ι' (getB (z6N bl i k l s).bl) j → b ∈ bk ι (getB s.bl) j) ∧ ∀ b, Bx ι (getB s.bl) b → Bx ι' (getB (z6N bl i k l s).bl) b
 | [], _, _, _, ι, h => ⟨ι, h, fun _ _ e => e, fun _ e => e⟩
 | sv :: r, k, s, a, ι, h => by
  obtain ⟨ι1, h1, e1, x1⟩ := nlcell1_sound (bl := bl) (i := i) (k := k) sv h
  obtain ⟨ι2, h2, e2, x2⟩ := z4M (bl := bl) (i := i) r (k + 1) h1
  exact ⟨ι2, h2, fun j b hb => e1 j b (e2 j b hb), fun b hb => x2 b (x1 b hb)⟩
theorem z0W {n : z0N} {sh : Shape} : ∀ (l : List SB) (j : Nat) {s : St} {a : Act} {ι : Nat → Option Value}, SRel X keep w0 n ι s a w → ∃ ι', SRel X keep w0 n ι' (sh.nlboxes j l s) a w ∧ (∀ k b, b ∈ bk ι' (getB (sh.nlboxes j l s).bl) k → b ∈ bk ι (getB s.bl) k) ∧ ∀ b, Bx ι (getB s.bl) b → Bx ι' (getB (sh.nlboxes j l s).bl) b
 | [], _, _, _, ι, h => ⟨ι, h, fun _ _ e => e, fun _ e => e⟩
 | .row _ _ :: r, j, s, a, ι, h => z0W r (j + 1) h
 | .it :: r, j, s, a, ι, h => z0W r (j + 1) h
 | .map _ _ _ :: r, j, s, a, ι, h => z0W r (j + 1) h
 | .nr _ _ _ _ :: r, j, s, a, ι, h => z0W r (j + 1) h
 | .box _ cs :: r, j, s, a, ι, h => by
  simp only [Shape.nlboxes]
  split
  ·rename_i i _
   obtain ⟨ι1, h1, e1, x1⟩ := z4M (bl := sh.bl) (i := i) cs 0 h
   obtain ⟨ι2, h2, e2, x2⟩ := z0W (sh := sh) r (j + 1) h1
   exact ⟨ι2, h2, fun k b hb => e1 k b (e2 k b hb), fun b hb => x2 b (x1 b hb)⟩
  ·exact z0W r (j + 1) h
theorem Shape.fixd_sound {n : z0N} {sh : Shape} {s : St} {a : Act} (h : SRel X keep w0 n ι s a w) : ∃ ι', SRel X keep w0 n ι' (sh.fixd s) a w ∧ (∀ k b, b ∈ bk ι' (getB (sh.fixd s).bl) k → b ∈ bk ι (getB s.bl) k ∨ ∃ k' ∈ nlsrc sh.bl sh.sl s, b ∈ bk ι (getB s.bl) k') ∧ ∀ b, Bx ι (getB s.bl) b → Bx ι' (getB (sh.fixd s).bl) b := by
 obtain ⟨ι1, h1, e1, x1⟩ := z6M (bl := sh.bl) sh.sl h
 obtain ⟨ι2, h2, e2, x2⟩ := z0W (sh := sh) sh.bl 0 h1
 exact ⟨ι2, h2, fun k b hb => e1 k b (e2 k b hb), fun b hb => x2 b (x1 b hb)⟩
theorem Shape.take_own {n : z0N} {sh : Shape} {s : St} {a : Act} (h : SRel X keep w0 n ι s a w) {x : sh.den} (ht : sh.take s = some x) (Y : Nat → Prop) (hY : ∀ b, Y b → Bx ι (getB s.bl) b ∧ b < w0.heap.size ∧ ∀ i ∈ sh.ids (sh.fixd s) ++ nlsrc sh.bl sh.sl s, b ∉ bk ι (getB s.bl) i) :
  ∃ ι', SRel (fun b => X b ∨ Y b) keep w0 n ι' (sh.put x) a w ∧ ∀ b, owned ι' (getB (sh.put x).bl) b → ∃ i ∈ sh.ids (sh.fixd s) ++ nlsrc sh.bl sh.sl s, b ∈ bk ι (getB s.bl) i := by
 unfold Shape.take at ht
 obtain ⟨ι', h', h2, h3⟩ := Shape.fixd_sound (sh := sh) h
 obtain ⟨ι2, _, h4, h5⟩ := Shape.z6r h' ht Y (fun b hb => by
  obtain ⟨q1, q2, q3⟩ := hY b hb
  refine ⟨h3 b q1, q2, fun i hi hbi => ?_⟩
  rcases h2 i b hbi with q | ⟨k, q4, q5⟩
  ·exact q3 i (List.mem_append_left _ hi) q
  ·exact q3 k (List.mem_append_right _ q4) q5)
 refine ⟨ι2, h4, fun b hb => ?_⟩
 obtain ⟨i, hi, hb⟩ := h5 b hb
 rcases h2 i b hb with q | ⟨k, q1, q2⟩
 ·exact ⟨i, List.mem_append_left _ hi, q⟩
 ·exact ⟨k, List.mem_append_right _ q1, q2⟩
theorem SRel.noY {n : z0N} {s : St} {a : Act} (h : SRel (fun b => X b ∨ False) keep w0 n ι s a w) : SRel X keep w0 n ι s a w := by
 have e : (fun b => X b ∨ False) = X := funext fun b => propext (iff_of_eq (or_false _))
 rw [e] at h
 exact h
theorem Shape.z0A {n : z0N} {sh : Shape} {s : St} {a : Act} (h : SRel X keep w0 n ι s a w) {x : sh.den} (ht : sh.take s = some x) : ∃ ι', SRel X keep w0 n ι' (sh.put x) a w := by
 obtain ⟨ι', h', _⟩ := Shape.take_own h ht (fun _ => False) (fun _ q => q.elim)
 exact ⟨ι', h'.noY⟩
end
abbrev Way := Option Nat × Shape
def exIs : Option Nat → Ex → Bool
 | none, .rt => true
 | some i, .ex j => Nat.beq i j
 | _, _ => false
def exOf : Option Nat → Ex
 | none => .rt
 | some i => .ex i
theorem exIs_eq : ∀ {i : Option Nat} {e : Ex}, exIs i e = true → e = exOf i
 | none, .rt, _ => rfl
 | some i, .ex j, h => by rw [Nat.eq_of_beq_eq_true h]; rfl
 | none, .nm, h => by cases h
 | none, .ex _, h => by cases h
 | some _, .nm, h => by cases h
 | some _, .rt, h => by cases h
@[reducible] def denX : List Way → Type
 | [] => Empty
 | [p] => p.2.den
 | p :: q :: r => p.2.den ⊕ denX (q :: r)
def toX {R : Type} : (l : List Way) → Ex → St → (denX l → Option R) → Option R
 | [], _, _, _ => none
 | [p], e, s, K => if exIs p.1 e = true then (match p.2.take s with
   | some x => K x
   | none => none) else none
 | p :: q :: r, e, s, K => if exIs p.1 e = true then (match p.2.take s with
   | some x => K (.inl x)
   | none => toX (q :: r) e s fun y => K (.inr y)) else toX (q :: r) e s fun y => K (.inr y)
def onX {R : Type} : (l : List Way) → denX l → (Ex → St → Option R) → Option R
 | [], _, _ => none
 | [p], x, K => K (exOf p.1) (p.2.put x)
 | p :: q :: r, x, K => Sum.elim (fun y => K (exOf p.1) (p.2.put y)) (fun z => onX (q :: r) z K) x
theorem toX_sound {R : Type} {X keep : Nat → Prop} {w0 w : World} {ι : Nat → Option Value} {n : z0N} {s : St} {a : Act} (h : SRel X keep w0 n ι s a w) {e : Ex} {r : R} : ∀ (l : List Way) (K : denX l → Option R), toX l e s K = some r →
  ∃ y, K y = some r ∧ ∀ {R' : Type} (K' : Ex → St → Option R') (r' : R'), onX l y K' = some r' → ∃ s' ι', SRel X keep w0 n ι' s' a w ∧ K' e s' = some r'
 | [], _, h => by cases h
 | [p], K, ht => by
  simp only [toX] at ht
  split at ht
  ·rename_i he
   split at ht
   ·rename_i x hx
    obtain ⟨ι', h'⟩ := Shape.z0A h hx
    refine ⟨x, ht, fun K' r' hk => ⟨_, ι', h', ?_⟩⟩
    rw [exIs_eq he]
    exact hk
   ·cases ht
  ·cases ht
 | p :: q :: t, K, ht => by
  have hrest : (toX (q :: t) e s fun y => K (.inr y)) = some r → ∃ y, K y = some r ∧ ∀ {R' : Type} (K' : Ex → St → Option R') (r' : R'), onX (p :: q :: t) y K' = some r' → ∃ s' ι', SRel X keep w0 n ι' s' a w ∧ K' e s' = some r' := by
   intro ht
   obtain ⟨y, h1, h2⟩ := toX_sound h (q :: t) (fun y => K (.inr y)) ht
   exact ⟨.inr y, h1, fun K' r' hk => h2 K' r' hk⟩
  simp only [toX] at ht
  split at ht
  ·rename_i he
   split at ht
   ·rename_i x hx
    obtain ⟨ι', h'⟩ := Shape.z0A h hx
    refine ⟨.inl x, ht, fun K' r' hk => ⟨_, ι', h', ?_⟩⟩
    rw [exIs_eq he]
    exact hk
   ·exact hrest ht
  ·exact hrest ht
section
variable (TT : Tab) (Δ : Nat → Option z0K) (n : Nat → Bool) (Λ : Nat → Option z0Y)
noncomputable def stepL (head : Shape) (ways : List Way) (c : Code) (x : head.den) : Option (head.den ⊕ denX ways) :=
 evC TT Δ n Λ c (head.put x) fun e s => match e with
  | .nm => (match head.take s with
   | some y => some (.inl y)
   | none => none)
  | .ex j => toX ways (.ex j) s fun y => some (.inr y)
  | .rt => toX ways .rt s fun y => some (.inr y)
end
def iterL {A B : Type} (f : A → Option (A ⊕ B)) : Nat → A → Option B
 | 0, _ => none
 | k + 1, x => match f x with
  | some (.inl y) => iterL f k y
  | some (.inr z) => some z
  | none => none
theorem z5r {A B : Type} {f : A → Option (A ⊕ B)} : ∀ (k m : Nat) (x : A) (y : B), k ≤ m → iterL f k x = some y → iterL f m x = some y
 | 0, _, _, _, _, h => by cases h
 | k + 1, 0, _, _, hm, _ => by omega
 | k + 1, m + 1, x, y, hm, h => by
  simp only [iterL] at h ⊢
  split at h
  ·rename_i z hz
   exact z5r k m z y (by omega) h
  ·exact h
  ·cases h
open Classical in
noncomputable def limL {A B : Type} (f : A → Option (A ⊕ B)) (x : A) : Option B := if h : ∃ y k, iterL f k x = some y then some h.choose else none
theorem z0z {A B : Type} {f : A → Option (A ⊕ B)} {x : A} {y : B} (k : Nat) (h : iterL f k x = some y) : limL f x = some y := by
 unfold limL
 have hex : ∃ y k, iterL f k x = some y := ⟨y, k, h⟩
 rw [dif_pos hex]
 obtain ⟨m, hm⟩ := hex.choose_spec
 have h1 := z5r k (max k m) x y (Nat.le_max_left ..) h
 have h2 := z5r m (max k m) x _ (Nat.le_max_right ..) hm
 rw [h1] at h2
 exact h2.symm
theorem z6c {A B : Type} {f : A → Option (A ⊕ B)} {x : A} {y : B} (h : limL f x = some y) : ∃ k, iterL f k x = some y := by
 unfold limL at h
 split at h
 ·rename_i hex
  injection h with h
  rw [← h]
  exact hex.choose_spec
 ·cases h
theorem limL_eq {A B : Type} (f : A → Option (A ⊕ B)) (x : A) : limL f x = match f x with
  | some (.inl y) => limL f y
  | some (.inr z) => some z
  | none => none := by
 cases hf : f x with
 | none =>
  show limL f x = none
  cases h : limL f x with
  | none => rfl
  | some y =>
   obtain ⟨k, hk⟩ := z6c h
   cases k with
   | zero => cases hk
   | succ k => simp [iterL, hf] at hk
 | some z =>
  cases z with
  | inr z => exact z0z 1 (by simp [iterL, hf])
  | inl y =>
   show limL f x = limL f y
   cases h : limL f y with
   | some z =>
    obtain ⟨k, hk⟩ := z6c h
    exact z0z (k + 1) (by simp [iterL, hf, hk])
   | none =>
    cases h' : limL f x with
    | none => rfl
    | some z =>
     obtain ⟨k, hk⟩ := z6c h'
     cases k with
     | zero => cases hk
     | succ k =>
      simp only [iterL, hf] at hk
      rw [z0z k hk] at h
      cases h
def lp (head : Shape) (ways : List Way) (g : head.den → Option (denX ways)) : z0Y := fun s _ K =>
 match head.take s with
 | some x => (g x).bind fun y => onX ways y K
 | none => none
section
variable {P : Program} {TT : Tab} {Δ : Nat → Option z0K} {n : z0N}
theorem lp_ok (hm : P.follows .mixedOrders = true) (hP : z0q P TT) (hΔ : z0O P Δ) {ρ : Option Nat} {Λ : Nat → Option z0Y} {head : Shape} {ways : List Way} {c : Code} (hL : LoopsIn P n ρ Λ c) {g : head.den → Option (denX ways)}
  (hg : ∀ x y, g x = some y → ∃ k, iterL (stepL TT Δ n.ok Λ head ways c) k x = some y) : LoopOK P n ρ (lp head ways g) c := by
 intro dp X keep w0 w ι s a R K r Q h hev hQ
 unfold lp at hev
 split at hev
 ·rename_i x hx
  obtain ⟨y, hy, hk⟩ := z0H hev
  obtain ⟨k, hit⟩ := hg x y hy
  obtain ⟨ι', h'⟩ := Shape.z0A h hx
  refine z7M (fun k a w => ∃ x ι k1 v1, z1x keep w0 k1 v1 ∧ SRel X k1 v1 n ι (head.put x) a w ∧ iterL (stepL TT Δ n.ok Λ head ways c) k x = some y) ?_ ?_ (k := k) ⟨x, ι', keep, w0, z1x.refl _ _, h', hit⟩
  ·rintro a w ⟨x, ι, _, _, _, _, h⟩
   cases h
  ·rintro k a w ⟨x, ι, k1, v1, hl, h, hit⟩
   simp only [iterL] at hit
   have hwp : ∀ (v : head.den ⊕ denX ways), stepL TT Δ n.ok Λ head ways c x = some v → (∀ x', v = .inl x' → iterL (stepL TT Δ n.ok Λ head ways c) k x' = some y) → (∀ z, v = .inr z → z = y) →
     c.wpIn (WF ρ) dp P (Exit.then (fun a' w' => ∃ x ι k1 v1, z1x keep w0 k1 v1 ∧ SRel X k1 v1 n ι (head.put x) a' w' ∧ iterL (stepL TT Δ n.ok Λ head ways c) k x = some y) Q) a w := by
    intro v hv h1 h2
    refine z0L hm hP hΔ c hL _ _ _ a w ι k1 v1 h hv fun e s' a' w' ι'' k2 v2 hl2 hk' h'' => ?_
    have hout : ∀ e : Ex, (toX ways e s' fun y => some (Sum.inr y : head.den ⊕ denX ways)) = some v → Q e.out a' w' := by
     intro e hk'
     obtain ⟨z, hz1, hz2⟩ := toX_sound h'' ways _ hk'
     injection hz1 with hz1
     have hz := h2 z hz1.symm
     subst hz
     obtain ⟨s2, ι2, q1, q2⟩ := hz2 K r hk
     exact hQ e s2 a' w' ι2 k2 v2 (hl.trans hl2) q2 q1
    cases e with
    | nm =>
     simp only at hk'
     split at hk'
     ·rename_i x' hx'
      injection hk' with hk'
      obtain ⟨ι3, h3⟩ := Shape.z0A h'' hx'
      exact ⟨x', ι3, k2, v2, hl.trans hl2, h3, h1 x' hk'.symm⟩
     ·cases hk'
    | ex j => exact hout (.ex j) hk'
    | rt => exact hout .rt hk'
   cases hst : stepL TT Δ n.ok Λ head ways c x with
   | none => rw [hst] at hit; cases hit
   | some v =>
    rw [hst] at hit
    cases v with
    | inl x' => exact hwp _ hst (fun x'' e => by injection e with e; subst e; exact hit) (fun z e => by cases e)
    | inr z => exact hwp _ hst (fun x'' e => by cases e) (fun z' e => by injection e with e; subst e; injection hit)
 ·cases hev
end
end Go.Proofs.Rf
namespace Go.Proofs.Rf
open Go Go.RowKit
def numT (i : Nat) : List AV → List (Nat × AV)
 | [] => []
 | v :: r => (i, v) :: numT (i + 1) r
mutual
def SV.ret (nb : Nat) : (s : SV) → s.den → AV
 | .d agg t, x => avD agg t x
 | .rs b sz, p => .rs (nb + b) sz p.1 p.2
 | .rz b sz, p => .rs (nb + b) sz 0 p
 | .fn f cs, x => .fn f (SV.retL nb cs x)
 | .rf b, _ => .rf (nb + b)
 | .pt b o, _ => .pt (nb + b) o
 | .ud, _ => .ud
 | .mp b, _ => .mp (nb + b)
 | .np, _ => .np
 | .mnil, _ => .mnil
 | .nl, _ => .nl
 | .ro b, _ => .ro (nb + b)
 | .fs b sz, p => .fs (nb + b) p.1 sz p.2.1 p.2.2
 | .ag cs, x => .ag (SV.retL nb cs x)
 | .ve cs, x => .ve (SV.retL nb cs x)
def SV.retL (nb : Nat) : (l : List SV) → SV.denL l → List AV
 | [], _ => []
 | a :: r, x => a.ret nb x.1 :: SV.retL nb r x.2
end
def retS (nb : Nat) : (l : List (Nat × SV)) → denS l → List AV
 | [], _ => []
 | p :: r, x => p.2.ret nb x.1 :: retS nb r x.2
def retV : List AV → AV
 | [v] => v
 | vs => .tp vs
def SB.ret (nb : Nat) : (s : SB) → s.den → Blk
 | .row t e, xs => .row t e xs true
 | .box e cs, x => .box e (SV.retL nb cs x)
 | .it, _ => .dead
 | .map kt va vt, l => .map kt va vt l
 | .nr t t2 e ie, l => .nr t t2 e ie l
def retB (nb : Nat) : (l : List SB) → denB l → List Blk
 | [], _ => []
 | a :: r, x => a.ret nb x.1 :: retB nb r x.2
def Ty.flat : Ty → Bool
 | .sl _ => false
 | .tr _ _ => false
 | .pr a b => a.flat && b.flat
 | _ => true
mutual
def SV.flat : SV → Bool
 | .d _ t => t.flat
 | .fn _ cs => SV.flatL cs
 | .ag cs => SV.flatL cs
 | .ve _ => false
 | _ => true
def SV.flatL : List SV → Bool
 | [] => true
 | a :: r => a.flat && SV.flatL r
end
def SB.flat : SB → Bool
 | .row t _ => t.flat
 | .box _ cs => SV.flatL cs
 | .it => true
 | .map kt _ vt => kt.flat && vt.flat
 | .nr t t2 _ _ => t.flat && t2.flat
def flatS : List (Nat × SV) → Bool
 | [] => true
 | p :: r => p.2.flat && flatS r
def flatB : List SB → Bool
 | [] => true
 | a :: r => a.flat && flatB r
def Shape.flat (sh : Shape) : Bool := flatS sh.sl && flatB sh.bl
def mkCall (ps : List SV) (rsh : Shape) (F : SV.denL ps → Option rsh.den) : z0K := fun args C nb _ K =>
 match SV.takeL C [] ps args with
 | some (x, f) => (F x).bind fun y => K ⟨retV (retS nb rsh.sl y.1), if rsh.flat = true then [] else f, retB nb rsh.bl y.2⟩
 | none => none
section
variable (TT : Tab)
def retOf (s : St) : ResultVar → Option AV
 | .tmp t => some (getT s.tm t)
 | .cell a tt => match getT s.tm a with
  | .pt b o => match getB s.bl b with
   | .box _ cs => loadC TT tt (cs.drop o)
   | _ => none
  | _ => none
def retsOf (s : St) : List ResultVar → Option (List AV)
 | [] => some []
 | r :: rs => match retOf TT s r with
  | some v => match retsOf s rs with
   | some vs => some (v :: vs)
   | none => none
  | none => none
noncomputable def runF (Δ : Nat → Option z0K) (n : Nat → Bool) (Λ : Nat → Option z0Y) (c : Code) (rvs : List ResultVar) (ps : List SV) (rsh : Shape) (x : SV.denL ps) : Option rsh.den :=
 evC TT Δ n Λ c ⟨numT 0 (SV.putL ps x), []⟩ fun e s => match e with
  | .ex _ => none
  | .nm => (match retsOf TT s rvs with
   | some vs => rsh.take ⟨numT 0 vs, s.bl⟩
   | none => none)
  | .rt => (match retsOf TT s rvs with
   | some vs => rsh.take ⟨numT 0 vs, s.bl⟩
   | none => none)
end
section
variable {X keep : Nat → Prop} {w0 w : World} {ι : Nat → Option Value} {C : Nat → Blk} {P : Program} {TT : Tab} {Δ : Nat → Option z0K} {n : z0N}
theorem z1u {ok : Nat → Prop} : ∀ (vs : List AV) (us : List Value) (i t : Nat), RelL w ok ι vs us → RelV w ok ι (getT (numT i vs) (i + t)) (us.getD t undef) ∧ ∀ j, j < i → getT (numT i vs) j = .un
 | [], us, i, t, h => ⟨by simp only [numT, getT, RelV], fun _ _ => rfl⟩
 | v :: r, us, i, t, h => by
  obtain ⟨u, ur, e, h1, h2⟩ := z0b.1 h
  subst e
  constructor
  ·simp only [numT, getT]
   cases t with
   | zero =>
    rw [if_pos (by rw [Nat.add_zero]; exact Nat.beq_refl i)]
    exact h1
   | succ t =>
    rw [if_neg (fun q => by have := Nat.eq_of_beq_eq_true q; omega)]
    have := (z1u r ur (i + 1) t h2).1
    rw [show i + 1 + t = i + (t + 1) by omega] at this
    simpa using this
  ·intro j hj
   simp only [numT, getT]
   rw [if_neg (fun q => by have := Nat.eq_of_beq_eq_true q; omega)]
   exact (z1u r ur (i + 1) t h2).2 j (by omega)
theorem retOf_sound (hP : z0q P TT) {s : St} {a : Act} (h : SRel X keep w0 n ι s a w) {rv : ResultVar} {v : AV} (hr : retOf TT s rv = some v) :
  ∃ u, ((match rv with
   | .tmp t => pure (a.tmps.getD t undef)
   | .cell b t => do loadVar t (← asAddr (a.tmps.getD b undef))) : Sem Value).run P w = .ok u w ∧ RelV w (okb X w ι (getB s.bl)) ι v u := by
 cases rv with
 | tmp t =>
  simp only [retOf] at hr
  injection hr with hr
  subst hr
  exact ⟨a.tmps.getD t undef, rfl, h.f.tm t⟩
 | cell b tt =>
  simp only [retOf] at hr
  split at hr
  ·rename_i k o hk
   split at hr
   ·rename_i cs hcs
    have h1 := h.f.tm b
    rw [hk] at h1
    simp only [RelV] at h1
    obtain ⟨g, g1, g2⟩ := h1
    have hb := h.f.h.bl k
    rw [hcs] at hb
    obtain ⟨g', us, k1, k2, k3⟩ := hb
    rw [g1] at k1
    injection k1 with k1
    injection k1 with k1
    injection k1 with k1
    injection k1 with k1 _
    subst k1
    obtain ⟨u, r1, r2⟩ := z2o (w := w) (P := P) hP (g := g) (o := o) (us := us.drop o) (fun j u hu => by
     rw [List.getElem?_drop] at hu
     simp only [World.cell?, k2]
     simpa using hu) (z1c k3 o) hr
    refine ⟨u, ?_, r2⟩
    show ((do loadVar tt (← asAddr (a.tmps.getD b undef))) : Sem Value).run P w = _
    rw [g2]
    simp [asAddr, r1]
   ·cases hr
  ·cases hr
theorem z5L (hP : z0q P TT) {s : St} {a : Act} (h : SRel X keep w0 n ι s a w) : ∀ {rvs : List ResultVar} {vs : List AV}, retsOf TT s rvs = some vs →
  ∃ us, (rvs.mapM (fun rv => ((match rv with
   | .tmp t => pure (a.tmps.getD t undef)
   | .cell b t => do loadVar t (← asAddr (a.tmps.getD b undef))) : Sem Value)) : Sem (List Value)).run P w = .ok us w ∧ RelL w (okb X w ι (getB s.bl)) ι vs us
 | [], vs, hr => by
  simp only [retsOf] at hr
  injection hr with hr
  subst hr
  exact ⟨[], rfl, z0d.2 rfl⟩
 | rv :: rvs, vs, hr => by
  simp only [retsOf] at hr
  split at hr
  ·rename_i v hv
   split at hr
   ·rename_i vr hvr
    injection hr with hr
    subst hr
    obtain ⟨u, r1, r2⟩ := retOf_sound hP h hv
    obtain ⟨ur, s1, s2⟩ := z5L hP h hvr
    refine ⟨u :: ur, ?_, z0b.2 ⟨u, ur, rfl, r2, s2⟩⟩
    rw [List.mapM_cons]
    simp only [Sem.run_bind, r1, s1, Result.andThen_ok]
    rfl
   ·cases hr
  ·cases hr
theorem z2i (hP : z0q P TT) {s : St} {a : Act} (h : SRel X keep w0 n ι s a w) {fn : Func} {vs : List AV} (hr : retsOf TT s fn.results.toList = some vs) :
  ∃ us v, (results fn a.tmps).run P w = .ok v w ∧ RelL w (okb X w ι (getB s.bl)) ι vs us ∧ v = (if h : us.toArray.size = 1 then us.toArray[0] else .tuple us.toArray) := by
 obtain ⟨us, h1, h2⟩ := z5L hP h hr
 refine ⟨us, _, ?_, h2, rfl⟩
 unfold results
 rw [← Array.toArray_toList (xs := fn.results)]
 rw [List.mapM_toArray]
 simp only [Sem.run_bind, Sem.run_map]
 generalize hq : Sem.run P (List.mapM _ fn.results.toList) w = q
 have hq' : q = .ok us w := hq.symm.trans h1
 subst hq'
 rfl
theorem z3B {w w' : World} {ok ok' : Nat → Prop} : ∀ (t : Ty) (x : t.den) (us : List Value), t.flat = true → Rz w ok t x us → Rz w' ok' t x us
 | .int _, _, _, _, h => h
 | .bool, _, _, _, h => h
 | .str, _, _, _, h => h
 | .sl _, _, _, hf, _ => by cases hf
 | .pr a b, _, _, hf, ⟨us, vr, e, h1, h2⟩ => by
  simp only [Ty.flat, Bool.and_eq_true] at hf
  exact ⟨us, vr, e, z3B a _ _ hf.1 h1, z3B b _ _ hf.2 h2⟩
 | .un, _, _, _, h => h
 | .fk _, _, _, _, h => h
 | .ic, _, _, _, h => h
 | .fv, _, _, _, h => h
 | .tr _ _, _, _, hf, _ => by cases hf
theorem z5d {w w' : World} {ok ok' : Nat → Prop} {ι ι' : Nat → Option Value} : ∀ (t : Ty) (x : t.den) (us : List Value), t.flat = true → RelL w ok ι (unpack t x) us → RelL w' ok' ι' (unpack t x) us
 | .int k, x, us, _, h => by
  obtain ⟨v, vr, e, h1, h2⟩ := z0b.1 h
  exact z0b.2 ⟨v, vr, e, (by simp only [RelV] at h1 ⊢; exact h1), z0d.2 (z0d.1 h2)⟩
 | .bool, x, us, _, h => by
  obtain ⟨v, vr, e, h1, h2⟩ := z0b.1 h
  exact z0b.2 ⟨v, vr, e, (by simp only [RelV] at h1 ⊢; exact h1), z0d.2 (z0d.1 h2)⟩
 | .str, x, us, _, h => by
  obtain ⟨v, vr, e, h1, h2⟩ := z0b.1 h
  exact z0b.2 ⟨v, vr, e, (by simp only [RelV] at h1 ⊢; exact h1), z0d.2 (z0d.1 h2)⟩
 | .ic, x, us, _, h => by
  obtain ⟨v, vr, e, h1, h2⟩ := z0b.1 h
  exact z0b.2 ⟨v, vr, e, (by simp only [RelV] at h1 ⊢; exact h1), z0d.2 (z0d.1 h2)⟩
 | .fv, x, us, _, h => by
  obtain ⟨v, vr, e, h1, h2⟩ := z0b.1 h
  exact z0b.2 ⟨v, vr, e, (by simp only [RelV] at h1 ⊢; exact h1), z0d.2 (z0d.1 h2)⟩
 | .sl t, x, us, hf, h => by cases hf
 | .pr a b, x, us, hf, h => by
  simp only [Ty.flat, Bool.and_eq_true] at hf
  obtain ⟨u1, u2, e, h1, h2⟩ := z1V h
  rw [e]
  exact z0B (z5d a _ _ hf.1 h1) (z5d b _ _ hf.2 h2)
 | .un, x, us, _, h => z0d.2 (z0d.1 h)
 | .fk f, x, us, _, h => by
  obtain ⟨v, vr, e, h1, h2⟩ := z0b.1 h
  refine z0b.2 ⟨v, vr, e, ?_, z0d.2 (z0d.1 h2)⟩
  simp only [RelV] at h1 ⊢
  obtain ⟨us, e, h3⟩ := h1
  exact ⟨us, e, z0d.2 (z0d.1 h3)⟩
 | .tr _ _, _, _, hf, _ => by cases hf
theorem avD_flat {w w' : World} {ok ok' : Nat → Prop} {ι ι' : Nat → Option Value} {agg : Bool} {t : Ty} {x : t.den} {u : Value} (hf : t.flat = true) (h : RelV w ok ι (avD agg t x) u) : RelV w' ok' ι' (avD agg t x) u := by
 unfold avD at h ⊢
 split at h
 ·rename_i ha
  simp only [ha, if_true]
  simp only [RelV] at h ⊢
  obtain ⟨us, e, h1⟩ := h
  exact ⟨us, e, z5d t x us hf h1⟩
 ·rename_i ha
  rw [if_neg ha]
  split at h
  ·rename_i v hv
   have h1 : RelL w ok ι (unpack t x) [u] := by rw [hv]; exact z0b.2 ⟨u, [], rfl, h, z0d.2 rfl⟩
   have h2 := z5d (w' := w') (ok' := ok') (ι' := ι') t x _ hf h1
   rw [hv] at h2
   obtain ⟨v', vr, e, h3, _⟩ := z0b.1 h2
   injection e with e _
   subst e
   exact h3
  ·simp only [RelV]
theorem NrL_turn {w : World} {ok ok' : Nat → Prop} {t t2 : Ty} {ie : Nat} (h1 : ∀ x us, Rz w ok t x us → Rz w ok' t x us) (h2 : ∀ x us, Rz w ok t2 x us → Rz w ok' t2 x us) : ∀ {xs : List (t.den × List t2.den)} {cs vs : List Value}, NrL w ok t t2 ie xs cs vs → NrL w ok' t t2 ie xs cs vs
 | [], _, _, h => h
 | _ :: _, _, _, ⟨us, v, cr, vr, ds, q1, q2, q3, q4, q5, q6⟩ => ⟨us, v, cr, vr, ds, q1, q2, h1 _ _ q3, q4, z0w h2 q5, NrL_turn h1 h2 q6⟩
theorem RzM_flat {w w' : World} {ok ok' : Nat → Prop} {ι ι' : Nat → Option Value} {kt : Ty} {va : Bool} {vt : Ty} (hk : kt.flat = true) (hv : vt.flat = true) : ∀ {l : List (kt.den × vt.den)} {es : List MapEntry}, RzM w ok ι kt va vt l es → RzM w' ok' ι' kt va vt l es
 | [], _, h => h
 | _ :: _, _, ⟨e, er, q1, q2, q3, q4⟩ => ⟨e, er, q1, avD_flat hk q2, avD_flat hv q3, RzM_flat hk hv q4⟩
theorem RelL_mv {w : World} {ok ok' : Nat → Prop} {ι ι' : Nat → Option Value} (hok : ∀ b, ok b → ok' b) : ∀ (t : Ty) (x : t.den) (us : List Value), RelL w ok ι (unpack t x) us → RelL w ok' ι' (unpack t x) us
 | .int k, x, us, h => by
  obtain ⟨v, vr, e, h1, h2⟩ := z0b.1 h
  exact z0b.2 ⟨v, vr, e, (by simp only [RelV] at h1 ⊢; exact h1), z0d.2 (z0d.1 h2)⟩
 | .bool, x, us, h => by
  obtain ⟨v, vr, e, h1, h2⟩ := z0b.1 h
  exact z0b.2 ⟨v, vr, e, (by simp only [RelV] at h1 ⊢; exact h1), z0d.2 (z0d.1 h2)⟩
 | .str, x, us, h => by
  obtain ⟨v, vr, e, h1, h2⟩ := z0b.1 h
  exact z0b.2 ⟨v, vr, e, (by simp only [RelV] at h1 ⊢; exact h1), z0d.2 (z0d.1 h2)⟩
 | .ic, x, us, h => by
  obtain ⟨v, vr, e, h1, h2⟩ := z0b.1 h
  exact z0b.2 ⟨v, vr, e, (by simp only [RelV] at h1 ⊢; exact h1), z0d.2 (z0d.1 h2)⟩
 | .fv, x, us, h => by
  obtain ⟨v, vr, e, h1, h2⟩ := z0b.1 h
  exact z0b.2 ⟨v, vr, e, (by simp only [RelV] at h1 ⊢; exact h1), z0d.2 (z0d.1 h2)⟩
 | .sl t, x, us, h => by
  obtain ⟨v, vr, e, h1, h2⟩ := z0b.1 h
  refine z0b.2 ⟨v, vr, e, ?_, z0d.2 (z0d.1 h2)⟩
  simp only [RelV] at h1 ⊢
  exact z0m (fun _ _ _ _ e => e) hok _ _ _ h1
 | .pr a b, x, us, h => by
  obtain ⟨u1, u2, e, h1, h2⟩ := z1V h
  rw [e]
  exact z0B (RelL_mv hok a _ _ h1) (RelL_mv hok b _ _ h2)
 | .un, x, us, h => z0d.2 (z0d.1 h)
 | .fk f, x, us, h => by
  obtain ⟨v, vr, e, h1, h2⟩ := z0b.1 h
  refine z0b.2 ⟨v, vr, e, ?_, z0d.2 (z0d.1 h2)⟩
  simp only [RelV] at h1 ⊢
  obtain ⟨us, e, h3⟩ := h1
  exact ⟨us, e, z0d.2 (z0d.1 h3)⟩
 | .tr a b, x, us, h => by
  obtain ⟨v, vr, e, h1, h2⟩ := z0b.1 h
  refine z0b.2 ⟨v, vr, e, ?_, z0d.2 (z0d.1 h2)⟩
  simp only [RelV] at h1 ⊢
  exact z0m (fun _ _ _ _ e => e) hok _ _ _ h1
section
variable {w' : World} {ok ok' : Nat → Prop} {ι2 ι'' : Nat → Option Value} {nb : Nat} {fl : Bool}
theorem avD_mv (hok : fl = false → ∀ b, ok b → ok' b) {agg : Bool} {ty : Ty} {x : ty.den} {u : Value} (hf : fl = true → ty.flat = true) (h0 : RelV w' ok ι2 (avD agg ty x) u) : RelV w' ok' ι'' (avD agg ty x) u := by
 cases fl with
 | true => exact avD_flat (hf rfl) h0
 | false =>
  unfold avD at h0 ⊢
  split at h0
  ·rename_i ha
   simp only [ha, if_true]
   simp only [RelV] at h0 ⊢
   obtain ⟨us, e, h1⟩ := h0
   exact ⟨us, e, RelL_mv (hok rfl) ty x us h1⟩
  ·rename_i ha
   rw [if_neg ha]
   split at h0
   ·rename_i v hv
    have h1 : RelL w' ok ι2 (unpack ty x) [u] := by rw [hv]; exact z0b.2 ⟨u, [], rfl, h0, z0d.2 rfl⟩
    have h2 := RelL_mv (ι' := ι'') (hok rfl) ty x _ h1
    rw [hv] at h2
    obtain ⟨v', vr, e, h3, _⟩ := z0b.1 h2
    injection e with e _
    subst e
    exact h3
   ·simp only [RelV]
mutual
theorem SV.ret_rel (hok : fl = false → ∀ b, ok b → ok' b) (hι : ∀ b v, ι2 b = some v → ι'' (nb + b) = some v) : ∀ (sv : SV) (x : sv.den) (u : Value), (fl = true → sv.flat = true) → RelV w' ok ι2 (sv.put x) u → RelV w' ok' ι'' (sv.ret nb x) u
 | .d agg t, x, u, hf, h => avD_mv hok hf h
 | .rs b sz, p, u, _, h => by
  simp only [SV.put, SV.ret, RelV] at h ⊢
  obtain ⟨A, n, c, A', c', h1, h2⟩ := h
  exact ⟨A, n, c, A', c', hι _ _ h1, h2⟩
 | .rz b sz, p, u, _, h => by
  simp only [SV.put, SV.ret, RelV] at h ⊢
  obtain ⟨A, n, c, A', c', h1, h2⟩ := h
  exact ⟨A, n, c, A', c', hι _ _ h1, h2⟩
 | .fn f cs, x, u, hf, h => by
  simp only [SV.put, SV.ret, RelV] at h ⊢
  obtain ⟨us, e, h1⟩ := h
  exact ⟨us, e, SV.z4E hok hι cs x us hf h1⟩
 | .rf b, x, u, _, h => by
  simp only [SV.put, SV.ret, RelV] at h ⊢
  exact ⟨hι _ _ h.1, h.2⟩
 | .pt b o, x, u, _, h => by
  simp only [SV.put, SV.ret, RelV] at h ⊢
  obtain ⟨g, h1, h2⟩ := h
  exact ⟨g, hι _ _ h1, h2⟩
 | .ud, x, u, _, h => by
  simp only [SV.put, SV.ret, RelV] at h ⊢
  exact h
 | .mp b, x, u, _, h => by
  simp only [SV.put, SV.ret, RelV] at h ⊢
  obtain ⟨g, h1, h2⟩ := h
  exact ⟨g, hι _ _ h1, h2⟩
 | .np, x, u, _, h => by
  simp only [SV.put, SV.ret, RelV] at h ⊢
  exact h
 | .mnil, x, u, _, h => by
  simp only [SV.put, SV.ret, RelV] at h ⊢
  exact h
 | .nl, x, u, _, h => by
  simp only [SV.put, SV.ret, RelV] at h ⊢
  exact h
 | .ro b, x, u, _, h => by
  simp only [SV.put, SV.ret, RelV] at h ⊢
  obtain ⟨arr, h1, h2⟩ := h
  exact ⟨arr, hι _ _ h1, h2⟩
 | .fs b sz, p, u, _, h => by
  simp only [SV.put, SV.ret, RelV] at h ⊢
  obtain ⟨A', c', h1, h2, h3⟩ := h
  refine ⟨A', c', h1, h2, fun q => ?_⟩
  obtain ⟨arr, g, n, c, k1, k2⟩ := h3 q
  exact ⟨arr, g, n, c, hι _ _ k1, k2⟩
 | .ag cs, x, u, hf, h => by
  simp only [SV.put, SV.ret, RelV] at h ⊢
  obtain ⟨us, e, h1⟩ := h
  exact ⟨us, e, SV.z4E hok hι cs x us hf h1⟩
 | .ve cs, x, u, hf, h => by
  have hfl : fl = false := by
   cases h0 : fl with
   | false => rfl
   | true => have := hf h0; simp [SV.flat] at this
  simp only [SV.put, SV.ret, RelV] at h ⊢
  obtain ⟨g, o, us, e, h0, h1, h2⟩ := h
  exact ⟨g, o, us, e, hok hfl g h0, SV.z4E hok hι cs x us (fun q => by rw [hfl] at q; cases q) h1, h2⟩
theorem SV.z4E (hok : fl = false → ∀ b, ok b → ok' b) (hι : ∀ b v, ι2 b = some v → ι'' (nb + b) = some v) : ∀ (l : List SV) (x : SV.denL l) (us : List Value), (fl = true → SV.flatL l = true) → RelL w' ok ι2 (SV.putL l x) us → RelL w' ok' ι'' (SV.retL nb l x) us
 | [], x, us, _, h => by simpa only [SV.putL, SV.retL, RelL] using h
 | a :: r, x, us, hf, h => by
  simp only [SV.putL, SV.retL, RelL] at h ⊢
  obtain ⟨v, vr, e, h1, h2⟩ := h
  have hf' : fl = true → a.flat = true ∧ SV.flatL r = true := fun q => by
   have := hf q
   simpa only [SV.flatL, Bool.and_eq_true] using this
  exact ⟨v, vr, e, SV.ret_rel hok hι a x.1 v (fun q => (hf' q).1) h1, SV.z4E hok hι r x.2 vr (fun q => (hf' q).2) h2⟩
end
theorem SB.ret_rel (hok : fl = false → ∀ b, ok b → ok' b) (hι : ∀ b v, ι2 b = some v → ι'' (nb + b) = some v) {j : Nat} : ∀ (sb : SB) (x : sb.den), (fl = true → sb.flat = true) → RelB w' ok ι2 j (sb.put x) → RelB w' ok' ι'' (nb + j) (sb.ret nb x)
 | .row t e, xs, hf, h => by
  obtain ⟨v, cs, h1, h2, h3⟩ := h
  refine ⟨v, cs, hι _ _ h1, h2, z0w (fun x us hx => ?_) h3⟩
  cases hfl : fl with
  | true => exact z3B t x us (hf hfl) hx
  | false => exact z0m (fun _ _ _ _ e => e) (hok hfl) t x us hx
 | .box e cs, x, hf, h => by
  obtain ⟨g, us, h1, h2, h3⟩ := h
  exact ⟨g, us, hι _ _ h1, h2, SV.z4E hok hι cs x us hf h3⟩
 | .it, _, _, _ => trivial
 | .map kt va vt, l, hf, h => by
  obtain ⟨g, es, ck, l', h1, h2, h3, h4, h5, h6⟩ := h
  refine ⟨g, es, ck, l', hι _ _ h1, h2, h3, h4, h5, ?_⟩
  cases hfl : fl with
  | true =>
   have := hf hfl
   simp only [SB.flat, Bool.and_eq_true] at this
   exact RzM_flat this.1 this.2 h6
  | false => exact z3h (fun _ _ _ _ e => e) (hok hfl) h6
 | .nr t t2 e ie, l, hf, h => by
  obtain ⟨arr, u, vs, cs, h1, h2, h3, h4, h5⟩ := h
  refine ⟨arr, u, vs, cs, hι _ _ h1, h2, h3, ?_, h5⟩
  cases hfl : fl with
  | true =>
   have := hf hfl
   simp only [SB.flat, Bool.and_eq_true] at this
   exact NrL_turn (fun x us => z3B t x us this.1) (fun x us => z3B t2 x us this.2) h4
  | false => exact z1L (fun _ _ _ _ e => e) (hok hfl) h4 (fun _ _ _ _ => rfl)
end
theorem z6x (nb : Nat) : ∀ (l : List SB) (x : denB l), (retB nb l x).length = l.length
 | [], _ => rfl
 | _ :: r, x => by simp [retB, z6x nb r x.2]
theorem retB_get (nb : Nat) : ∀ (l : List SB) (x : denB l) (j : Nat), getB (retB nb l x) j = .dead ∨ ∃ sb, l[j]? = some sb ∧ ∃ y : sb.den, getB (retB nb l x) j = sb.ret nb y ∧ getB (putB l x) j = sb.put y
 | [], _, _ => .inl rfl
 | a :: r, x, 0 => .inr ⟨a, rfl, x.1, rfl, rfl⟩
 | a :: r, x, j + 1 => by
  rcases retB_get nb r x.2 j with h | ⟨sb, h1, y, h2, h3⟩
  ·exact .inl h
  ·exact .inr ⟨sb, by simpa using h1, y, h2, h3⟩
theorem z4S : ∀ {l : List SB} {j : Nat} {sb : SB}, flatB l = true → l[j]? = some sb → sb.flat = true
 | [], j, _, _, h => by simp at h
 | a :: r, 0, sb, hf, h => by
  simp only [List.getElem?_cons_zero, Option.some.injEq] at h
  subst h
  simp only [flatB, Bool.and_eq_true] at hf
  exact hf.1
 | a :: r, j + 1, sb, hf, h => by
  simp only [flatB, Bool.and_eq_true] at hf
  exact z4S (l := r) (j := j) hf.2 (by simpa using h)
theorem SB.ret_bk {ι2 ι'' : Nat → Option Value} {C2 C'' : Nat → Blk} {nb j k : Nat} {b : Nat} : ∀ (sb : SB) (y : sb.den), C'' k = sb.ret nb y → C2 j = sb.put y → ι'' k = ι2 j → b ∈ bk ι'' C'' k → b ∈ bk ι2 C2 j
 | .row t e, xs, h1, h2, h3, h => by
  unfold bk at h ⊢
  rw [h1, h3] at h
  rw [h2]
  exact h
 | .box e cs, x, h1, h2, h3, h => by
  unfold bk at h ⊢
  rw [h1, h3] at h
  rw [h2]
  simp only [SB.ret, SB.put] at h ⊢
  cases hι : ι2 j with
  | none => rw [hι] at h; cases h
  | some v =>
   rw [hι] at h
   cases v <;> (try (cases h; done))
   rename_i p
   cases p with
   | none => cases h
   | some a => exact h
 | .it, _, h1, _, _, h => by
  rw [z0S h1] at h
  cases h
 | .map kt va vt, l, h1, h2, h3, h => by
  unfold bk at h ⊢
  rw [h1, h3] at h
  rw [h2]
  exact h
 | .nr t t2 e ie, l, h1, h2, h3, h => by
  unfold bk at h ⊢
  rw [h1, h3] at h
  rw [h2]
  exact h
theorem addC_at : ∀ (new : List Blk) (C : Nat → Blk) (nb j : Nat), j < new.length → addC C nb new (nb + j) = getB new j
 | [], _, _, j, h => by simp at h
 | b :: r, C, nb, 0, _ => by
  show addC (setC C nb b) (nb + 1) r (nb + 0) = b
  rw [z1F _ _ _ _ (by omega), Nat.add_zero, z0e]
 | b :: r, C, nb, j + 1, h => by
  show addC (setC C nb b) (nb + 1) r (nb + (j + 1)) = getB r j
  rw [show nb + (j + 1) = nb + 1 + j by omega]
  exact addC_at r _ (nb + 1) j (by simpa using h)
def slotsFrom : Nat → List (Nat × SV) → Bool
 | _, [] => true
 | i, p :: r => Nat.beq p.1 i && slotsFrom (i + 1) r
theorem retS_rel {w' : World} {ok ok' : Nat → Prop} {ι2 ι'' : Nat → Option Value} {nb : Nat} {fl : Bool} (hok : fl = false → ∀ b, ok b → ok' b) (hι : ∀ b v, ι2 b = some v → ι'' (nb + b) = some v) :
  ∀ (l : List (Nat × SV)) (x : denS l) (i : Nat) (us : List Value), slotsFrom i l = true → (fl = true → flatS l = true) → us.length = l.length → (∀ t, t < us.length → RelV w' ok ι2 (getT (putS l x) (i + t)) (us.getD t undef)) → RelL w' ok' ι'' (retS nb l x) us
 | [], x, i, us, _, _, hl, _ => z0d.2 (List.length_eq_zero_iff.1 hl)
 | p :: r, x, i, us, hs, hf, hl, h => by
  cases us with
  | nil => simp at hl
  | cons u ur =>
   simp only [slotsFrom, Bool.and_eq_true] at hs
   have hp := Nat.eq_of_beq_eq_true hs.1
   have hf' : fl = true → p.2.flat = true ∧ flatS r = true := fun q => by
    have := hf q
    simpa only [flatS, Bool.and_eq_true] using this
   refine z0b.2 ⟨u, ur, rfl, ?_, retS_rel hok hι r x.2 (i + 1) ur hs.2 (fun q => (hf' q).2) (by simpa using hl) fun t ht => ?_⟩
   ·have h0 := h 0 (by simp)
    rw [Nat.add_zero] at h0
    simp only [putS, getT] at h0
    rw [if_pos (by rw [hp]; exact Nat.beq_refl i)] at h0
    exact SV.ret_rel hok hι p.2 x.1 u (fun q => (hf' q).1) h0
   ·have h1 := h (t + 1) (by simpa using ht)
    simp only [putS, getT] at h1
    rw [if_neg (fun q => by have := Nat.eq_of_beq_eq_true q; omega)] at h1
    rw [show i + 1 + t = i + (t + 1) by omega]
    simpa using h1
end
end Go.Proofs.Rf
namespace Go.Proofs.Rf
open Go Go.RowKit
section
variable {X keep : Nat → Prop} {w0 w : World} {ι : Nat → Option Value} {C : Nat → Blk} {P : Program} {TT : Tab} {Δ : Nat → Option z0K}
def z0M (base k : Nat) : z0N := ⟨true, base, upTo k, fun tm => tm.size = k, fun tm d h hd => by
 have hd : Nat.blt d k = true := hd
 rw [h]; exact Nat.le_of_ble_eq_true hd, fun tm d v h _ => by simpa using h⟩
theorem z6I {e m n b : Nat} {v : Value} {cs : List Value} (h : w.ownsRow 0 e m v n cs) (hb : v.ownBlock = some b) : w.heap[b]? ≠ some (.deferred (some [])) := by
 rcases h.2 with ⟨h4, _⟩ | ⟨g, cap, cur, hv, _, h6, _⟩
 ·rw [h4] at hb; cases hb
 ·rw [hv] at hb
  injection hb with hb
  have hb : g = b := hb
  subst hb
  rw [h6]; intro e; cases e
theorem HRel.z4L (h : HRel X keep w0 ι C w) {b : Nat} (hb : owned ι C b) : w.heap[b]? ≠ some (.deferred (some [])) := by
 obtain ⟨k, hk⟩ := hb
 have hB := h.bl k
 unfold bk at hk
 cases hC : C k with
 | row t e xs rw =>
  rw [hC] at hB hk
  cases rw with
  | true =>
   obtain ⟨v, cs, h1, h2, h3⟩ := hB
   rw [h1] at hk
   exact z6I h2 (Option.mem_toList.1 hk)
  | false => cases hι : ι k <;> rw [hι] at hk <;> cases hk
 | box e cs =>
  rw [hC] at hB hk
  obtain ⟨g, us, h1, h2, h3⟩ := hB
  rw [h1] at hk
  have hk : b = g := List.mem_singleton.1 hk
  subst hk
  rw [h2]; intro e; cases e
 | it s pos =>
  rw [hC] at hB hk
  obtain ⟨g, h1, h2⟩ := hB
  rw [h1] at hk
  have hk : b = g := List.mem_singleton.1 hk
  subst hk
  rw [h2]; intro e; cases e
 | map kt va vt l =>
  rw [hC] at hB hk
  obtain ⟨g, es, ck, l', h1, h2, _⟩ := hB
  rw [h1] at hk
  have hk : b = g := List.mem_singleton.1 hk
  subst hk
  rw [h2]; intro e; cases e
 | nr t t2 e ie xs =>
  rw [hC] at hB hk
  obtain ⟨arr, u, vs, cs, h1, h2, h3, h4, h5⟩ := hB
  rw [h1] at hk
  obtain ⟨v, hv, hb⟩ := List.mem_filterMap.1 hk
  rw [h2] at hv
  rcases List.mem_cons.1 hv with rfl | hv
  ·exact z6I h3 hb
  ·obtain ⟨n, ds, h6⟩ := z6h h4 v hv
   exact z6I h6 hb
 | nz t it xs => rw [hC] at hk; cases hι : ι k <;> rw [hι] at hk <;> cases hk
 | bz cs => rw [hC] at hk; cases hι : ι k <;> rw [hι] at hk <;> cases hk
 | dead => rw [hC] at hk; cases hι : ι k <;> rw [hι] at hk <;> cases hk
def z7v (base : Nat) (w : World) : List Deferred → Prop
 | [] => True
 | d :: ds => (∃ D, d.target = .collected D ∧ base ≤ D ∧ w.heap[D]? = some (.deferred (some [])) ∧ ∀ e ∈ ds, e.target ≠ .collected D) ∧ z7v base w ds
theorem z3J {base : Nat} {keep : Nat → Prop} {w0 w : World} (hk : Kept keep w0 w) : ∀ {ds : List Deferred}, z5B base keep w0 ds → z7v base w ds
 | [], _ => trivial
 | d :: ds, ⟨⟨D, h1, h2, h3, h4, h5⟩, h6⟩ => ⟨⟨D, h1, h2, by rw [hk.block D h3 (Array.getElem?_eq_some_iff.1 h4).1]; exact h4, h5⟩, z3J hk h6⟩
theorem z6O {base : Nat} {w : World} {D : Nat} {o : Obj} : ∀ {ds : List Deferred}, (∀ e ∈ ds, e.target ≠ .collected D) → z7v base w ds → z7v base (w.putObj D o) ds
 | [], _, _ => trivial
 | d :: ds, hd, ⟨⟨D', h1, h2, h4, h5⟩, h6⟩ => by
  refine ⟨⟨D', h1, h2, ?_, h5⟩, z6O (fun e he => hd e (List.mem_cons_of_mem _ he)) h6⟩
  rw [World.putObj_heap_other ?_]
  ·exact h4
  ·rintro rfl
   exact hd d (List.mem_cons_self ..) h1
theorem z2D {dp base : Nat} {fn : Func} {tmps : Array Value} {R : Ending → World → Prop} {G : World → Prop} (hfin : ∀ w, G w → ∃ v, (results fn tmps).run P w = .ok v w ∧ R (.returned v) w)
  (hstep : ∀ w D, G w → base ≤ D → w.heap[D]? = some (.deferred (some [])) → G (w.putObj D (.deferred none))) : ∀ (ds : List Deferred) (w : World), G w → z7v base w ds → LeavesInM (WF none) dp P fn tmps R ds .returning w
 | [], w, hg, _ => hfin w hg
 | d :: ds, w, hg, ⟨⟨D, h1, h2, h4, h5⟩, h6⟩ =>
  ⟨by simp, .inl ⟨D, _, h1, run_takeDeferred h4, z2D hfin hstep ds _ (hstep w D hg h2 h4) (z6O h5 h6)⟩⟩
theorem retV_rel {ok : Nat → Prop} {vs : List AV} {us : List Value} (h : RelL w ok ι vs us) : RelV w ok ι (retV vs) (if h : us.toArray.size = 1 then us.toArray[0] else .tuple us.toArray) := by
 match vs, h with
 | [], h =>
  rw [z0d.1 h]
  simp only [retV, RelV]
  exact ⟨[], rfl, z0d.2 rfl⟩
 | [v], h =>
  obtain ⟨u, ur, e, h1, h2⟩ := z0b.1 h
  have h2 := z0d.1 h2
  subst h2
  subst e
  exact h1
 | v1 :: v2 :: r, h =>
  have hl := z0j h
  rw [dif_neg (by simp only [List.size_toArray, hl, List.length_cons]; omega)]
  simp only [retV, RelV]
  exact ⟨us, rfl, h⟩
theorem z5I {C : Nat → Blk} {ρ : List Nat} : ∀ (l : List SV) (vs : List AV) (p : SV.denL l × List (Nat × Blk)), SV.takeL C ρ l vs = some p → vs.length = l.length
 | [], [], _, _ => rfl
 | [], _ :: _, _, h => by simp only [SV.takeL] at h; cases h
 | a :: r, [], _, h => by simp only [SV.takeL] at h; cases h
 | a :: r, v :: vs, p, h => by
  simp only [SV.takeL] at h
  split at h
  ·split at h
   ·rename_i y g e2
    have := z5I r vs _ e2
    simp [this]
   ·cases h
  ·cases h
structure FnOK (P : Program) (f : Nat) (fn : Func) (c : Code) (ps : List SV) (rsh : Shape) : Prop where
 at_ : P.funcs[f]? = some fn
 body : fn.body = some c
 name : (fn.name == "runtime.NumGoroutine") = false
 len : Nat.ble ps.length fn.ntmps = true
 slots : slotsFrom 0 rsh.sl = true
 res : Nat.beq rsh.sl.length fn.results.toList.length = true
theorem mkCall_ok (hm : P.follows .mixedOrders = true) (hP : z0q P TT) (hΔ : z0O P Δ) {Λ : Nat → Option z0Y} {f : Nat} {fn : Func} {c : Code} {ps : List SV} {rsh : Shape} (hF : FnOK P f fn c ps rsh)
  (hL : ∀ base, LoopsIn P (z0M base fn.ntmps) none Λ c) {F : SV.denL ps → Option rsh.den} (hrun : ∀ x y, F x = some y → runF TT Δ (upTo fn.ntmps) Λ c fn.results.toList ps rsh x = some y) : z0a P f (mkCall ps rsh F) := by
 refine ⟨⟨fn, hF.at_, hF.name, by rw [hF.body]; rfl⟩, ?_, ?_⟩
 ·intro X keep w0 w ι C nb args vs e h hv hco hn
  unfold mkCall at hco
  split at hco
  ·rename_i x fz hx
   obtain ⟨y, hy, hco⟩ := z0H hco
   injection hco with hco
   subst hco
   obtain ⟨⟨H1, hFr, E1⟩, hrel⟩ := SV.z0V ps C args vs h (z0v.refl C) hv x fz hx
   have hlen : vs.length = ps.length := (z0j hv).trans (z5I ps args _ hx)
   have hnt : ps.length ≤ fn.ntmps := Nat.le_of_ble_eq_true hF.len
   let X' : Nat → Prop := fun b => b < w.heap.size ∧ ¬ okb X w ι (updC C fz) b
   let keep' : Nat → Prop := fun b => b < w.heap.size
   let ι0 : Nat → Option Value := fun _ => none
   have hno : ∀ b, ¬ owned ι0 (getB []) b := by rintro b ⟨k, hk⟩; rw [z0S rfl] at hk; cases hk
   have Hc : HRel X' keep' w ι0 (getB []) w := ⟨fun k => trivial, fun k k' b h1 _ => (by rw [z0S rfl] at h1; cases h1), Kept.refl _ _, fun b hb => (hno b hb).elim, fun b hb => hb, fun b hb => (hno b hb).elim, fun b hb => hb.1, H1.gl.mono fun b hb => ⟨⟨hb.1, hno b, fun hx => hx.2 hb⟩, rfl⟩⟩
   have hokc : ∀ b, okb X w ι (updC C fz) b → okb X' w ι0 (getB []) b := fun b hb => ⟨hb.1, hno b, fun hx => hx.2 hb⟩
   have hargs : RelL w (okb X' w ι0 (getB [])) ι0 (SV.putL ps x) vs := hrel _ ι0 hokc (fun b i hb => by simp at hb)
   let a0 : Act := { tmps := vs.toArray ++ Array.replicate (fn.ntmps - vs.toArray.size) undef, defers := [] }
   have hT0 : ∀ t, RelV w (okb X' w ι0 (getB [])) ι0 (getT (numT 0 (SV.putL ps x)) t) (a0.tmps.getD t undef) := by
    intro t
    have h1 := (z1u (SV.putL ps x) vs 0 t hargs).1
    rw [Nat.zero_add] at h1
    have h2 : a0.tmps.getD t undef = vs.getD t undef := by
     show (vs.toArray ++ Array.replicate (fn.ntmps - vs.toArray.size) undef).getD t undef = _
     rw [Array.getD_eq_getD_getElem?, List.getD_eq_getElem?_getD]
     rcases Nat.lt_or_ge t vs.length with ht | ht
     ·rw [Array.getElem?_append_left (by simpa using ht)]
      simp
     ·rw [Array.getElem?_append_right (by simpa using ht), List.getElem?_eq_none ht, Array.getElem?_replicate]
      split <;> rfl
    rw [h2]
    exact h1
   have S0 : SRel X' keep' w (z0M w.heap.size fn.ntmps) ι0 ⟨numT 0 (SV.putL ps x), []⟩ a0 w := by
    refine ⟨⟨Hc, hT0, ?_, Nat.le_refl _, fun _ => rfl, trivial⟩, fun _ _ => rfl⟩
    show a0.tmps.size = fn.ntmps
    simp only [a0, Array.size_append, Array.size_replicate, List.size_toArray]
    omega
   have hev := hrun x y hy
   unfold runF at hev
   refine callsIn_wide.1 (callsIn_of_wp_marks (F := WF none) (n := 0) hF.at_ hF.body trivial (z0L hm hP hΔ c (hL _) _ _ _ a0 w ι0 keep' w S0 hev fun e s' a' w1 ι1 k1 v1 hlat hk h1 => ?_) rfl)
   have hsr : SRel X' keep' w (z0M w.heap.size fn.ntmps) ι1 s' { tmps := a'.tmps, defers := [] } w1 :=
    ⟨⟨h1.f.h.weaken hlat.mono hlat.kept (fun b hb => hb) (fun b hb => hb.1), h1.f.tm, h1.f.size, Nat.le_refl _, fun _ => rfl, trivial⟩, h1.dom⟩
   have fin : ∀ (w' : World) (ι' : Nat → Option Value), SRel X' keep' w (z0M w.heap.size fn.ntmps) ι' s' { tmps := a'.tmps, defers := [] } w' → (match retsOf TT s' fn.results.toList with
     | some vs => rsh.take ⟨numT 0 vs, s'.bl⟩
     | none => none) = some y → ∃ v, (results fn a'.tmps).run P w' = .ok v w' ∧ ∃ v', Ending.returned v = .returned v' ∧ Out X keep w0 ι C w nb ⟨retV (retS nb rsh.sl y.1), if rsh.flat = true then [] else fz, retB nb rsh.bl y.2⟩ v' w' := by
    intro w' ι' h' hk
    split at hk
    ·rename_i rs hrs
     obtain ⟨us, v, r1, r2, r3⟩ := z2i hP h' hrs
     refine ⟨v, r1, v, rfl, ?_⟩
     let a2 : Act := { tmps := us.toArray, defers := [] }
     have S1 : SRel X' keep' w (z0M w.heap.size us.length) ι' ⟨numT 0 rs, s'.bl⟩ a2 w' := by
      refine ⟨⟨h'.f.h, fun t => ?_, (by show a2.tmps.size = us.length; simp [a2]), Nat.le_refl _, fun _ => rfl, trivial⟩, h'.dom⟩
      have := (z1u rs us 0 t r2).1
      rw [Nat.zero_add] at this
      have h2 : a2.tmps.getD t undef = us.getD t undef := by
       show us.toArray.getD t undef = _
       rw [Array.getD_eq_getD_getElem?, List.getD_eq_getElem?_getD]
       simp
      rw [h2]
      exact this
     obtain ⟨ι2, S2⟩ := Shape.z0A S1 hk
     have hul : us.length = rsh.sl.length := by
      have h1 := Nat.eq_of_beq_eq_true hF.res
      have h2 := z0j r2
      have h3 : ∀ {l : List ResultVar} {vs : List AV}, retsOf TT s' l = some vs → vs.length = l.length := by
       intro l
       induction l with
       | nil => intro vs hvs; simp only [retsOf] at hvs; injection hvs with hvs; subst hvs; rfl
       | cons q l ih =>
        intro vs hvs
        simp only [retsOf] at hvs
        split at hvs
        ·split at hvs
         ·rename_i vr hvr
          injection hvs with hvs
          subst hvs
          simp [ih hvr]
         ·cases hvs
        ·cases hvs
      have h4 := h3 hrs
      omega
     let fl := rsh.flat
     let Cz := updC C (if fl = true then [] else fz)
     have hz : HRel X keep w0 ι Cz w ∧ Ext X ι C w ι Cz w := by
      show HRel X keep w0 ι (updC C (if fl = true then [] else fz)) w ∧ Ext X ι C w ι (updC C (if fl = true then [] else fz)) w
      cases fl
      ·exact ⟨H1, E1⟩
      ·exact ⟨h, Ext.refl _ _ _ _⟩
     obtain ⟨Hz, Ez⟩ := hz
     let new := retB nb rsh.bl y.2
     have hnl : new.length = rsh.bl.length := z6x _ _ _
     let ι'' : Nat → Option Value := fun k => if nb ≤ k ∧ k < nb + new.length then ι2 (k - nb) else ι k
     have hin : ∀ j, j < new.length → ι'' (nb + j) = ι2 j := by
      intro j hj
      show (if nb ≤ nb + j ∧ nb + j < nb + new.length then ι2 (nb + j - nb) else ι (nb + j)) = _
      rw [if_pos (by omega), Nat.add_sub_cancel_left]
     have hou : ∀ k, ¬ (nb ≤ k ∧ k < nb + new.length) → ι'' k = ι k := fun k hk => if_neg hk
     let C'' := addC Cz nb new
     have hCin : ∀ j, j < new.length → C'' (nb + j) = getB new j := fun j hj => addC_at new Cz nb j hj
     have hbkn : ∀ j b, j < new.length → b ∈ bk ι'' C'' (nb + j) → b ∈ bk ι2 (getB (putB rsh.bl y.2)) j := by
      intro j b hj hb
      rcases retB_get nb rsh.bl y.2 j with q | ⟨sb, q1, z, q2, q3⟩
      ·rw [z0S (by rw [hCin j hj]; exact q)] at hb; cases hb
      ·exact SB.ret_bk sb z (by rw [hCin j hj]; exact q2) q3 (hin j hj) hb
     have hout : ∀ k, ¬ (nb ≤ k ∧ k < nb + new.length) → C'' k = Cz k := fun k hk => z1F _ _ _ _ hk
     have hX : ∀ b, ¬ X' b → b < w.heap.size → okb X w ι (updC C fz) b := fun b h1 h2 => Classical.byContradiction fun h3 => h1 ⟨h2, h3⟩
     have okT : fl = false → ∀ b, okb X' w' ι2 (getB (rsh.put y).bl) b → okb X w' ι'' C'' b := by
      intro hfl b hb
      have hCz : Cz = updC C fz := by show updC C (if fl = true then [] else fz) = _; rw [hfl]; rfl
      refine ⟨hb.1, ?_, fun hx => ?_⟩
      ·rintro ⟨k, hk⟩
       by_cases hs : nb ≤ k ∧ k < nb + new.length
       ·obtain ⟨j, rfl⟩ : ∃ j, k = nb + j := ⟨k - nb, by omega⟩
        exact hb.2.1 ⟨j, hbkn j b (by omega) hk⟩
       ·rw [z0D (hout k hs) (hou k hs)] at hk
        have := hX b hb.2.2 (Hz.lt ⟨k, hk⟩)
        rw [hCz] at hk
        exact this.2.1 ⟨k, hk⟩
      ·exact (hX b hb.2.2 (Nat.lt_of_lt_of_le (h.xl b hx) h.fr.size)).2.2 hx
     have hfl2 : fl = true → flatS rsh.sl = true ∧ flatB rsh.bl = true := by
      intro q
      have q : (flatS rsh.sl && flatB rsh.bl) = true := q
      simpa only [Bool.and_eq_true] using q
     have hlen2 : (rsh.put y).bl.length = new.length := by rw [hnl]; exact z0C _ _
     have hιn : ∀ b v, ι2 b = some v → ι'' (nb + b) = some v := by
      intro b v hb
      have hb' : b < new.length := by
       rcases Nat.lt_or_ge b new.length with q | q
       ·exact q
       ·rw [S2.dom b (by omega)] at hb; cases hb
      rw [hin b hb']; exact hb
     obtain ⟨HF, EF⟩ := Hz.step (C' := C'') (ι' := ι'') (w' := w') (fun k => nb ≤ k ∧ k < nb + new.length) S2.f.h.fr.os S2.f.h.fr.tape S2.f.h.fr.output S2.f.h.fr.size hout
      (fun k v hk => by
       have hs : ¬ (nb ≤ k ∧ k < nb + new.length) := fun q => by rw [hn k q.1 q.2] at hk; cases hk
       rw [hou k hs]; exact hk) hou
      (by
       intro k b hs hb
       obtain ⟨j, rfl⟩ : ∃ j, k = nb + j := ⟨k - nb, by omega⟩
       exact .inl (Nat.le_of_not_lt (S2.f.h.own b ⟨j, hbkn j b (by omega) hb⟩)))
      (by
       intro k k' b hs hs' hb hb'
       obtain ⟨j, rfl⟩ : ∃ j, k = nb + j := ⟨k - nb, by omega⟩
       obtain ⟨j', rfl⟩ : ∃ j, k' = nb + j := ⟨k' - nb, by omega⟩
       rw [S2.f.h.inj j j' b (hbkn j b (by omega) hb) (hbkn j' b (by omega) hb')])
      (fun b hb _ => S2.f.h.fr.block b hb hb)
      (by
       intro _ k hs
       obtain ⟨j, rfl⟩ : ∃ j, k = nb + j := ⟨k - nb, by omega⟩
       have hj : j < new.length := by omega
       rw [hCin j hj]
       rcases retB_get nb rsh.bl y.2 j with q | ⟨sb, q1, z, q2, q3⟩
       ·rw [show getB new j = .dead from q]; trivial
       ·rw [show getB new j = _ from q2]
        have hB := S2.f.h.bl j
        rw [show getB (rsh.put y).bl j = _ from q3] at hB
        exact SB.ret_rel (fl := fl) okT hιn sb z (fun q => z4S (hfl2 q).2 q1) hB)
     have hret : RelL w' (okb X w' ι'' C'') ι'' (retS nb rsh.sl y.1) us := by
      refine retS_rel (ι2 := ι2) (fl := fl) okT hιn rsh.sl y.1 0 us hF.slots (fun q => (hfl2 q).1) hul fun t _ => ?_
      ·rw [Nat.zero_add]
       have := S2.f.tm t
       have h2 : a2.tmps.getD t undef = us.getD t undef := by
        show us.toArray.getD t undef = _
        rw [Array.getD_eq_getD_getElem?, List.getD_eq_getElem?_getD]
        simp
       rw [h2] at this
       exact this
     refine ⟨ι'', HF, Ez.trans EF, ?_, hou⟩
     rw [r3]
     exact retV_rel hret
    ·cases hk
   have leave : (match retsOf TT s' fn.results.toList with
     | some vs => rsh.take ⟨numT 0 vs, s'.bl⟩
     | none => none) = some y → LeavesInM (WF none) 0 P fn a'.tmps (fun en w' => ∃ v, en = .returned v ∧ Out X keep w0 ι C w nb ⟨retV (retS nb rsh.sl y.1), if rsh.flat = true then [] else fz, retB nb rsh.bl y.2⟩ v w') a'.defers .returning w1 := by
    intro hk
    refine z2D (base := w.heap.size) (G := fun w' => SRel X' keep' w (z0M w.heap.size fn.ntmps) ι1 s' { tmps := a'.tmps, defers := [] } w') (fun w' h' => fin w' ι1 h' hk) (fun w' D h' hD hd => ?_) a'.defers w1 hsr (z3J h1.f.h.fr h1.f.defers.2.2)
    obtain ⟨q1, q2⟩ := h'.f.h.quiet (w' := w'.putObj D (.deferred none)) D rfl rfl rfl (by simp) (fun b hb _ => World.putObj_heap_other hb) (fun o v hc => by simp [World.cell?, hd] at hc)
     (fun b hb e => h'.f.h.z4L hb (by rw [e]; exact hd)) (fun hk' => absurd hk' (Nat.not_lt.2 hD))
    exact ⟨⟨q1, fun t => q2 _ _ (h'.f.tm t), h'.f.size, Nat.le_refl _, fun _ => rfl, trivial⟩, h'.dom⟩
   cases e with
   | nm => exact leave hk
   | ex j => cases hk
   | rt => exact leave hk
  ·cases hco
 ·intro args C nb R K
  unfold mkCall
  split
  ·rename_i x fz hx
   cases F x <;> rfl
  ·rfl
end
end Go.Proofs.Rf
namespace Go.Proofs.Rf
open Go Go.RowKit
def ifTK : TK := .ifc
theorem und_if {P : Program} {t : Nat} (h : ∃ ms, P.underlying t = some (.interface ms)) : UndOK P t ifTK := by
 obtain ⟨ms, h⟩ := h
 exact ⟨ms, h⟩
def tkOf : TypeDesc → TK
 | .int k => .int k
 | .bool => .bool
 | .string => .str
 | .slice e => .sl e
 | .array n e => .ar n e
 | .struct fields => .st (fields.toList.map fun f => (f.offset, f.type))
 | .pointer e => .pt e
 | .map k e => .mp k e
 | .unsafePointer => .up
 | .interface _ => ifTK
 | _ => .oth
def prL : List Ty → Ty
 | [] => .un
 | [a] => a
 | a :: b :: r => .pr a (prL (b :: r))
def allT {α β : Type} (f : α → Option β) : List α → Option (List β)
 | [] => some []
 | a :: r => match f a with
  | some b => match allT f r with
   | some bs => some (b :: bs)
   | none => none
  | none => none
def tyOf (P : Program) : Nat → Nat → Option Ty
 | 0, _ => none
 | k + 1, t => match P.underlying t with
  | some (.int i) => some (.int i)
  | some .bool => some .bool
  | some .string => some .str
  | some (.slice e) => (match tyOf P k e with
   | some ty => some (.sl ty)
   | none => none)
  | some (.array n e) => (match tyOf P k e with
   | some ty => some (prL (List.replicate n ty))
   | none => none)
  | some (.interface _) => some .ic
  | some (.func _ _ _) => if fnsR.isEmpty = true then none else some .fv
  | some (.pointer e) => (match treeOf e with
   | some (a, b) => some (.tr a b)
   | none => none)
  | some (.struct fields) => (match allT (fun f : Field => tyOf P k f.type) fields.toList with
   | some ts => some (prL ts)
   | none => none)
  | _ => none
def zInt (k : IntKind) : List Value → Bool
 | [.int k' n] => ikEq k' k && (n == 0)
 | _ => false
def zBool : List Value → Bool
 | [.bool b] => !b
 | _ => false
def zStr : List Value → Bool
 | [.string s] => Nat.beq s.data.size 0
 | _ => false
def zSl : List Value → Bool
 | [.slice none 0 0] => true
 | _ => false
def zNil : List Value → Bool
 | [] => true
 | _ => false
def zPtr : List Value → Bool
 | [.pointer none] => true
 | _ => false
def zIf : List Value → Bool
 | [.nilIface] => true
 | _ => false
def zFn : List Value → Bool
 | [.nilFunc] => true
 | _ => false
def zB : Ty → List Value → Bool
 | .int k, vs => zInt k vs
 | .bool, vs => zBool vs
 | .str, vs => zStr vs
 | .sl _, vs => zSl vs
 | .pr a b, vs => zB a (vs.take a.size) && zB b (vs.drop a.size)
 | .un, vs => zNil vs
 | .fk _, _ => false
 | .ic, vs => zIf vs
 | .fv, vs => zFn vs
 | .tr _ _, vs => zPtr vs
theorem zB_sound {w : World} {ok : Nat → Prop} : ∀ (t : Ty) (vs : List Value), zB t vs = true → Rz w ok t t.dflt vs
 | .int k, vs, h => by
  unfold zB zInt at h
  split at h
  ·simp only [Bool.and_eq_true, beq_iff_eq] at h
   rw [z3w h.1, h.2]
   rfl
  ·cases h
 | .bool, vs, h => by
  unfold zB zBool at h
  split at h
  ·rename_i b
   cases b
   ·rfl
   ·cases h
  ·cases h
 | .str, vs, h => by
  unfold zB zStr at h
  split at h
  ·rename_i s
   have h := Nat.eq_of_beq_eq_true h
   have : s = ⟨[].toArray⟩ := by
    cases s with
    | mk d =>
     congr 1
     exact Array.eq_empty_of_size_eq_zero h
   rw [this]
   rfl
  ·cases h
 | .sl t, vs, h => by
  unfold zB zSl at h
  split at h
  ·exact ⟨none, 0, rfl, Nat.le_refl _, fun hp => by simp [Ty.dflt] at hp⟩
  ·cases h
 | .pr a b, vs, h => by
  simp only [zB, Bool.and_eq_true] at h
  exact ⟨vs.take a.size, vs.drop a.size, (List.take_append_drop _ _).symm, zB_sound a _ h.1, zB_sound b _ h.2⟩
 | .un, vs, h => by
  unfold zB zNil at h
  split at h
  ·rfl
  ·cases h
 | .fk f, vs, h => by simp [zB] at h
 | .ic, vs, h => by
  unfold zB zIf at h
  split at h
  ·exact ⟨_, rfl, rfl⟩
  ·cases h
 | .fv, vs, h => by
  unfold zB zFn at h
  split at h
  ·rfl
  ·cases h
 | .tr a b, vs, h => by
  unfold zB zPtr at h
  split at h
  ·exact ⟨_, rfl, rfl⟩
  ·cases h
def tdOf (P : Program) (t : Nat) : Option TD :=
 match P.info? t, P.underlying t with
 | some i, some d => match i.zero with
  | some z => if (Nat.beq z.cells.toList.length i.size && z.cells.toList.all Value.oneCell' && eqBB (isAgV z) (tkOf d).agg) = true then
    some ⟨tkOf d, i.size, i.bytes, z.cells.toList.map avc, match tyOf P 16 t with
     | some ty => if (Nat.beq ty.size i.size && zB ty z.cells.toList) = true then some ty else none
     | none => none, (match d with
      | .struct fields => (fields.toList.all fun f => f.name != "_") && !P.stoodInHeld t
      | _ => true) && !P.eqGuardType P.depth t⟩ else none
  | none => none
 | _, _ => none
theorem tdOf_ok {P : Program} {t : Nat} {td : TD} (h : tdOf P t = some td) : InfoOK P t td := by
 unfold tdOf at h
 split at h
 ·rename_i i d hi hd
  split at h
  ·rename_i z hz
   split at h
   ·rename_i hc
    simp only [Bool.and_eq_true] at hc
    injection h with h
    subst h
    refine ⟨⟨i, z, hi, rfl, rfl, hz, fun w ok ι => ?_, fun u hu => List.all_eq_true.1 hc.1.2 u hu, fun ty hty => ?_⟩, ?_, ?_, fun i' z' q1 q2 => ?_, fun q => ?_⟩
    ·generalize z.cells.toList = vs
     induction vs with
     | nil => exact z0d.2 rfl
     | cons v r ih => exact z0b.2 ⟨v, r, rfl, avc_rel v, ih⟩
    ·simp only at hty
     split at hty
     ·split at hty
      ·rename_i hb
       injection hty with hty
       subst hty
       simp only [Bool.and_eq_true] at hb
       exact ⟨Nat.eq_of_beq_eq_true hb.1, fun w ok => zB_sound _ _ hb.2⟩
      ·cases hty
     ·cases hty
    ·cases d <;> first | exact und_if ⟨_, hd⟩ | (simp only [tkOf, UndOK]; first | exact hd | exact ⟨_, hd, rfl⟩)
    ·simp only [List.length_map]
     exact Nat.eq_of_beq_eq_true hc.1.1
    ·rw [hi] at q1
     injection q1 with q1
     subst q1
     rw [hz] at q2
     injection q2 with q2
     subst q2
     exact z3L hc.2
    ·rw [Bool.and_eq_true, Bool.not_eq_true'] at q
     refine ⟨fun fields hf => ?_, q.2⟩
     rw [hd] at hf
     injection hf with hf
     subst hf
     have := q.1
     simpa using this
   ·cases h
  ·cases h
 ·cases h
def tabOf : List (Nat × TD) → Tab
 | [], _ => none
 | (k, td) :: r, t => if Nat.beq k t = true then some td else tabOf r t
theorem tabOf_ok {P : Program} : ∀ {l : List (Nat × TD)}, l.map (fun p => tdOf P p.1) = l.map (fun p => some p.2) → z0q P (tabOf l)
 | [], _, t, td, h => by cases h
 | (k, d) :: r, he, t, td, h => by
  simp only [List.map_cons, List.cons.injEq] at he
  simp only [tabOf] at h
  split at h
  ·rename_i hk
   have hk := Nat.eq_of_beq_eq_true hk
   subst hk
   injection h with h
   subst h
   exact tdOf_ok he.1
  ·exact tabOf_ok he.2 t td h
end Go.Proofs.Rf
namespace Go.Proofs.Rf
open Go Go.RowKit
def z1N (f : Func) : Code := match f.body with
 | some c => c
 | none => .skip
def z7I (r : Nat) : Code → Option Code
 | .seq a b => match z7I r a with
  | some c => some c
  | none => z7I r b
 | .cond _ a b => match z7I r a with
  | some c => some c
  | none => z7I r b
 | .block _ c => z7I r c
 | .scope c => z7I r c
 | .loop c => if Nat.beq (z1Z c) r = true then some c else z7I r c
 | .rangeFunc _ _ a b => match z7I r a with
  | some c => some c
  | none => z7I r b
 | _ => none
def z1E (f : Func) (r : Nat) : Code := match z7I r (z1N f) with
 | some c => c
 | none => .skip
def lookL.{u} {α : Type u} : List (Nat × α) → Nat → Option α
 | [], _ => none
 | (k, a) :: r, t => if Nat.beq k t = true then some a else lookL r t
noncomputable def z0t (TT : Tab) (Δ : List (Nat × z0K)) (Λ : List (Nat × z0Y)) (f : Func) (ps : List SV) (rsh : Shape) (x : SV.denL ps) : Option rsh.den :=
 runF TT (lookL Δ) (upTo f.ntmps) (lookL Λ) (z1N f) f.results.toList ps rsh x
noncomputable def z0Z (TT : Tab) (Δ : List (Nat × z0K)) (Λ : List (Nat × z0Y)) (ok : Nat → Bool) (f : Func) (r : Nat) (head : Shape) (ways : List Way) (x : head.den) : Option (head.den ⊕ denX ways) :=
 stepL TT (lookL Δ) ok (lookL Λ) head ways (z1E f r) x
def z2A : Code → List Code
 | .seq a b => z2A a ++ z2A b
 | .cond _ a b => z2A a ++ z2A b
 | .block _ c => z2A c
 | .scope c => z2A c
 | .loop c => [.loop c]
 | .rangeFunc g ps asg body => [.rangeFunc g ps asg body]
 | _ => []
def z6S : Code → Nat
 | .loop c => z1Z c
 | .rangeFunc _ _ asg _ => z1Z asg
 | _ => 0
theorem lookL_mem.{u} {α : Type u} {k : Nat} {a : α} : ∀ {l : List (Nat × α)}, lookL l k = some a → (k, a) ∈ l
 | [], h => by cases h
 | (j, b) :: r, h => by
  simp only [lookL] at h
  split at h
  ·rename_i hj
   injection h with h
   rw [Nat.eq_of_beq_eq_true hj, h]
   exact List.mem_cons_self ..
  ·exact List.mem_cons_of_mem _ (lookL_mem h)
def LoopAt (P : Program) (ok : Nat → Bool) (inn : Bool) (l : z0Y) (c : Code) : Prop := ∀ n : z0N, n.ok = ok → ∀ ρ, (inn = true ∨ (ρ = none ∧ n.marks = true)) → CodeOK P n ρ l c
def z3D (P : Program) (ok : Nat → Bool) (inn : Bool) (Λ : List (Nat × z0Y)) (c : Code) : Prop := ∀ n : z0N, n.ok = ok → ∀ ρ, (inn = true ∨ (ρ = none ∧ n.marks = true)) → LoopsIn P n ρ (lookL Λ) c
theorem z1S {P : Program} {n : z0N} {ρ : Option Nat} {Λ : Nat → Option z0Y} : ∀ (c : Code), (∀ d ∈ z2A c, ∀ l, Λ (z6S d) = some l → CodeOK P n ρ l d) → LoopsIn P n ρ Λ c
 | .seq a b, h => ⟨z1S a fun d hd => h d (List.mem_append_left _ hd), z1S b fun d hd => h d (List.mem_append_right _ hd)⟩
 | .cond _ a b, h => ⟨z1S a fun d hd => h d (List.mem_append_left _ hd), z1S b fun d hd => h d (List.mem_append_right _ hd)⟩
 | .block _ c, h => z1S c h
 | .scope c, h => z1S c h
 | .loop c, h => fun l hl => h (.loop c) (List.mem_singleton.2 rfl) l hl
 | .rangeFunc g ps asg body, h => fun l hl => h (.rangeFunc g ps asg body) (List.mem_singleton.2 rfl) l hl
 | .skip, _ => trivial
 | .region .., _ => trivial
 | .exit _, _ => trivial
 | .label _, _ => trivial
 | .goto _, _ => trivial
 | .ret, _ => trivial
 | .refuse _, _ => trivial
def ZipOK (P : Program) (ok : Nat → Bool) (inn : Bool) : List (Nat × z0Y) → List Code → Prop
 | [], [] => True
 | p :: r, c :: cs => LoopAt P ok inn p.2 c ∧ ZipOK P ok inn r cs
 | _, _ => False
theorem zip_get {P : Program} {n : z0N} {ok : Nat → Bool} {inn : Bool} (hn : n.ok = ok) {ρ : Option Nat} (hi : inn = true ∨ (ρ = none ∧ n.marks = true)) : ∀ {Λ : List (Nat × z0Y)} {cs : List Code}, ZipOK P ok inn Λ cs → cs.map z6S = Λ.map (fun p => p.1) → (Λ.map (fun p => p.1)).Nodup → ∀ d ∈ cs, ∀ l, lookL Λ (z6S d) = some l → CodeOK P n ρ l d
 | [], [], _, _, _, d, hd, _, _ => by cases hd
 | [], _ :: _, h, _, _, _, _, _, _ => h.elim
 | _ :: _, [], h, _, _, _, _, _, _ => h.elim
 | (j, l0) :: r, c :: cs, h, he, hnd, d, hd, l, hl => by
  simp only [List.map_cons, List.cons.injEq] at he
  simp only [List.map_cons, List.nodup_cons] at hnd
  simp only [lookL] at hl
  rcases List.mem_cons.1 hd with rfl | hd
  ·rw [if_pos (by rw [he.1]; exact Nat.beq_refl _)] at hl
   injection hl with hl
   subst hl
   exact h.1 n hn ρ hi
  ·have hmem : z6S d ∈ r.map (fun p => p.1) := by rw [← he.2]; exact List.mem_map_of_mem hd
   rw [if_neg (fun q => hnd.1 (by rw [Nat.eq_of_beq_eq_true q]; exact hmem))] at hl
   exact zip_get hn hi h.2 he.2 hnd.2 d hd l hl
theorem z0c {P : Program} {ok : Nat → Bool} {inn : Bool} {Λ : List (Nat × z0Y)} {c : Code} {cs : List Code} (hc : z2A c = cs) (hr : cs.map z6S = Λ.map (fun p => p.1)) (hn : nodupN (Λ.map (fun p => p.1)) = true) (h : ZipOK P ok inn Λ cs) : z3D P ok inn Λ c :=
 fun n hok ρ hi => z1S c fun d hd => zip_get hok hi h hr (z2n hn) d (by rw [← hc]; exact hd)
def z2H (P : Program) : List (Nat × z0K) → Prop
 | [] => True
 | p :: r => AnyOK P p.1 p.2 ∧ z2H P r
theorem z2p {P : Program} {Δ : List (Nat × z0K)} (h : z2H P Δ) : z0O P (lookL Δ) := by
 intro f co hf
 have hm := lookL_mem hf
 clear hf
 induction Δ with
 | nil => cases hm
 | cons p r ih =>
  rcases List.mem_cons.1 hm with e | hm
  ·subst e; exact h.1
  ·exact ih h.2 hm
theorem z0g {P : Program} {TT : Tab} (hm : P.follows .mixedOrders = true) (hP : z0q P TT) {Δ : List (Nat × z0K)} (hΔ : z2H P Δ) {Λ : List (Nat × z0Y)} {f : Nat} {fn : Func} {ps : List SV} {rsh : Shape} {c : Code} (hF : FnOK P f fn c ps rsh) (hc : z1N fn = c)
  (hL : z3D P (upTo fn.ntmps) false Λ c) : z0a P f (mkCall ps rsh (z0t TT Δ Λ fn ps rsh)) := by
 subst hc
 exact mkCall_ok hm hP (z2p hΔ) hF (fun base => hL (z0M base fn.ntmps) rfl none (.inr ⟨rfl, rfl⟩)) fun x y h => h
end Go.Proofs.Rf
