/- Rf, part l: regions in the text's order. -/
import Derived.Test.YtgkgjgcoalmldaaFk
import Derived.CallsIn
import Derived.OrdersIn
namespace Go.Proofs.Rf
open Go Go.RowKit

/-- No fence; in a round of a loop over a function (ρ), or in none. -/
def WF (ρ : Option Nat) : Fence := { fn := fun _ => True, depth := none, alive := false, round := ρ }

theorem wpIn_of_wp {P : Program} {ρ : Option Nat} {d : Nat} {o : Oper} {a : Act} {w : World} {K : Act → World → Prop} {Q : Exit → Act → World → Prop} (hd : ∀ c, o.op ≠ .defer c) (h : o.wp P a w K Q) : o.wpIn (WF ρ) d P a w K Q := by
  refine ⟨fun _ _ => trivial, ?_⟩
  rw [Oper.semAt_eq _ _ _ hd]
  unfold Oper.wp at h
  have hn : (WF ρ).depth.isSome = true → 1 ≤ d := fun h => by cases h
  generalize (execOp a.eval o).run P w = r at *
  cases r with
  | ok x w' =>
    cases x <;> simp only [Oper.upon, Oper.uponIn] at h ⊢
    case value v => exact h
    case skip => exact h
    case defer q => exact h
    case enter f args => exact ⟨hn, callsIn_wide.2 h⟩
    case row row args =>
      refine ⟨hn, fun c cs _ => ?_⟩
      obtain ⟨v, w'', h1, h2⟩ := h c cs
      exact ⟨v, w'', h1, stepsIn_wide.2 h2⟩
  | halt x w' => cases x <;> simp only [Oper.upon, Oper.uponIn] at h ⊢ <;> exact h

/-- The slots of a frame: which ones are written, what is kept of the rest; how it is left. -/
structure Slots where
  marks : Bool
  base : Nat
  ok : Nat → Bool
  G : Array Value → Prop
  lt : ∀ tm d, G tm → ok d = true → d < tm.size
  set : ∀ tm d v, G tm → ok d = true → G (tm.setIfInBounds d v)

/-- Deferred are marks alone, whose blocks are kept. -/
def MarksOK (base : Nat) (keep : Nat → Prop) (w0 : World) : List Deferred → Prop
  | [] => True
  | d :: ds => (∃ D, d.target = .collected D ∧ base ≤ D ∧ keep D ∧ w0.heap[D]? = some (.deferred (some [])) ∧ ∀ e ∈ ds, e.target ≠ .collected D) ∧ MarksOK base keep w0 ds

section
variable {X keep : Nat → Prop} {w0 w : World} {ι : Nat → Option Value} {C : Nat → Blk} {P : Program} {TT : Tab} {Δ : Nat → Option CallO} {n : Slots}

theorem evOp_nat (hΔ : CallsOK P Δ) {R : Type} (o : Oper) (T : Nat → AV) (C : Nat → Blk) (nb : Nat) (K : Eff → Option R) : evOp TT Δ o T C nb K = (evOp TT Δ o T C nb some).bind K := by
  have hb : ∀ {x : Option AV} {L : Option R} {M : Option Eff}, L = x.bind (fun a => K ⟨a, [], []⟩) → M = x.bind (fun a => some ⟨a, [], []⟩) → L = M.bind K := by
    rintro x L M rfl rfl
    cases x <;> rfl
  unfold evOp
  split
  case h_11 op tt x y yt hop =>
    exact hb (bin_nat ..) (bin_nat ..)
  case h_12 op xt x hop =>
    exact hb (uny_nat ..) (uny_nat ..)
  case h_15 tt x lo hi hop =>
    exact hb (sliceOp_nat ..) (sliceOp_nat ..)
  case h_18 tt x ix hop =>
    repeat' split
    all_goals first
      | rfl
      | exact hb (idxAV_nat ..) (idxAV_nat ..)
      | exact hb (chain_nat ..) (chain_nat ..)
  case h_19 tt x ix hop =>
    repeat' split
    all_goals first
      | rfl
      | exact hb (chainA_nat ..) (chainA_nat ..)
  case h_24 c hop =>
    split
    · repeat' split
      all_goals rfl
    · repeat' split
      all_goals rfl
    · repeat' split
      all_goals rfl
    · repeat' split
      all_goals rfl
    · split
      · split
        · rename_i co hco
          exact (hΔ _ co hco).nat ..
        · rfl
      · split
        · rename_i co hco
          exact (hΔ _ co hco).nat ..
        · rfl
      · rfl
    · rfl
  all_goals ((repeat' split) <;> rfl)

/-! ### Blocks as a list, and as a function -/
theorem setB_length : ∀ (bl : List Blk) (k : Nat) (b : Blk), (setB bl k b).length = bl.length
  | [], _, _ => rfl
  | _ :: _, 0, _ => rfl
  | _ :: r, k + 1, b => by simp [setB, setB_length r k b]

theorem getB_setB : ∀ (bl : List Blk) (k : Nat) (b : Blk), k < bl.length → getB (setB bl k b) = setC (getB bl) k b
  | [], k, _, h => by simp at h
  | c :: r, 0, b, _ => by
    funext j
    cases j with
    | zero => simp [setB, getB, setC]
    | succ j => simp [setB, getB, setC]
  | c :: r, k + 1, b, h => by
    funext j
    have ih := getB_setB r k b (by simpa using h)
    cases j with
    | zero => simp [setB, getB, setC]
    | succ j =>
      have := congrFun ih j
      simp only [setB, getB, setC, Nat.add_right_cancel_iff] at this ⊢
      exact this

theorem updB_length : ∀ (u : List (Nat × Blk)) (bl : List Blk), (updB bl u).length = bl.length
  | [], _ => rfl
  | (k, b) :: r, bl => by
    show (updB (setB bl k b) r).length = _
    rw [updB_length r, setB_length]

theorem getB_updB : ∀ (u : List (Nat × Blk)) (bl : List Blk), updLt bl.length u = true → getB (updB bl u) = updC (getB bl) u
  | [], _, _ => rfl
  | (k, b) :: r, bl, h => by
    simp only [updLt, Bool.and_eq_true] at h
    have hk : k < bl.length := Nat.le_of_ble_eq_true h.1
    show getB (updB (setB bl k b) r) = updC (setC (getB bl) k b) r
    rw [getB_updB r _ (by rw [setB_length]; exact h.2), getB_setB _ _ _ hk]

theorem getB_out : ∀ (bl : List Blk) (k : Nat), bl.length ≤ k → getB bl k = .dead
  | [], _, _ => rfl
  | _ :: r, 0, h => by simp at h
  | _ :: r, k + 1, h => getB_out r k (by simpa using h)

theorem getB_append1 : ∀ (bl : List Blk) (b : Blk), getB (bl ++ [b]) = setC (getB bl) bl.length b
  | [], b => by
    funext j
    cases j with
    | zero => rfl
    | succ j => simp [getB, setC]
  | c :: r, b => by
    funext j
    have ih := getB_append1 r b
    cases j with
    | zero => simp [getB, setC]
    | succ j =>
      have := congrFun ih j
      simp only [List.cons_append, getB, setC, List.length_cons, Nat.add_right_cancel_iff] at this ⊢
      exact this

theorem getB_append : ∀ (new bl : List Blk), getB (bl ++ new) = addC (getB bl) bl.length new
  | [], bl => by rw [List.append_nil]; rfl
  | b :: r, bl => by
    show getB (bl ++ b :: r) = addC (setC (getB bl) bl.length b) (bl.length + 1) r
    rw [← getB_append1, show bl ++ b :: r = (bl ++ [b]) ++ r by simp, getB_append r, List.length_append]
    rfl

theorem getB_eff {bl : List Blk} {e : Eff} (h : updLt bl.length e.upd = true) : getB (updB bl e.upd ++ e.new) = effC (getB bl) bl.length e := by
  rw [getB_append, updB_length, getB_updB _ _ h]; rfl

def effT (T : Nat → AV) (dst : Option Nat) (x : AV) : Nat → AV := fun t => if dst = some t then x else T t

structure FRel (X keep : Nat → Prop) (w0 : World) (n : Slots) (ι : Nat → Option Value) (T : Nat → AV) (C : Nat → Blk) (a : Act) (w : World) : Prop where
  h : HRel X keep w0 ι C w
  tm : ∀ t, RelV w (okb X w ι C) ι (T t) (a.tmps.getD t undef)
  size : n.G a.tmps
  defers : n.base ≤ w0.heap.size ∧ (n.marks = false → a.defers = []) ∧ MarksOK n.base keep w0 a.defers

theorem put_getD {a : Act} {dst : Option Nat} {v : Value} (h : ∀ d, dst = some d → d < a.tmps.size) (t : Nat) : (a.put dst v).tmps.getD t undef = if dst = some t then v else a.tmps.getD t undef := by
  cases dst with
  | none => simp [Act.put]
  | some d =>
    have hd := h d rfl
    by_cases ht : d = t
    · subst ht
      simp [Act.put, hd]
    · have : ¬ (some d = some t) := fun e => ht (by injection e)
      rw [if_neg this]
      simp [Act.put, Array.getD_eq_getD_getElem?, Array.getElem?_setIfInBounds_ne ht]

theorem put_size (a : Act) (dst : Option Nat) (v : Value) : (a.put dst v).tmps.size = a.tmps.size := by cases dst <;> simp [Act.put]
theorem put_defers (a : Act) (dst : Option Nat) (v : Value) : (a.put dst v).defers = a.defers := by cases dst <;> rfl

theorem FRel.step {T : Nat → AV} {a : Act} {ι' : Nat → Option Value} {C' : Nat → Blk} {w' : World} (h : FRel X keep w0 n ι T C a w) {dst : Option Nat} (hd : ∀ d, dst = some d → n.ok d = true) {x : AV} {v : Value}
    (h1 : HRel X keep w0 ι' C' w') (h2 : Ext X ι C w ι' C' w') (h3 : RelV w' (okb X w' ι' C') ι' x v) : FRel X keep w0 n ι' (effT T dst x) C' (a.put dst v) w' := by
  have hG : n.G (a.put dst v).tmps := by
    cases dst with
    | none => exact h.size
    | some d => exact n.set _ _ _ h.size (hd d rfl)
  refine ⟨h1, fun t => ?_, hG, by rw [put_defers]; exact h.defers⟩
  rw [put_getD (fun d hdd => n.lt _ _ h.size (hd d hdd))]
  unfold effT
  split
  · exact h3
  · exact h2.val (h.tm t)

/-- A draw of the order changes nothing that is told. -/
theorem FRel.drawn {T : Nat → AV} {a : Act} (h : FRel X keep w0 n ι T C a w) (k : Nat) : FRel X keep w0 n ι T C a { w with drawn := k } := by
  have hc : ∀ p, ({ w with drawn := k } : World).cell? p = w.cell? p := fun _ => rfl
  have hext : Ext X ι C w ι C { w with drawn := k } := ⟨fun _ _ e => e, fun _ e => e, fun _ _ => rfl⟩
  refine ⟨⟨fun j => RelB_keep hext j (h.h.bl j) rfl (fun _ _ => rfl), h.h.inj, ⟨h.h.fr.os, h.h.fr.tape, h.h.fr.output, h.h.fr.size, h.h.fr.block⟩, h.h.own, h.h.kl, h.h.ox, h.h.xl⟩, fun t => hext.val (h.tm t), h.size, h.defers⟩

structure SRel (X keep : Nat → Prop) (w0 : World) (n : Slots) (ι : Nat → Option Value) (s : St) (a : Act) (w : World) : Prop where
  f : FRel X keep w0 n ι (getT s.tm) (getB s.bl) a w
  dom : ∀ k, s.bl.length ≤ k → ι k = none

theorem getT_cons (d : Nat) (x : AV) (tm : List (Nat × AV)) : getT ((d, x) :: tm) = effT (getT tm) (some d) x := by
  funext t
  show (if Nat.beq d t = true then x else getT tm t) = if some d = some t then x else getT tm t
  by_cases h : d = t
  · subst h
    rw [if_pos rfl, if_pos (Nat.beq_refl d)]
  · rw [if_neg (fun e => h (Nat.eq_of_beq_eq_true e)), if_neg (fun e => h (by injection e))]

theorem dstOk_lt {o : Oper} (h : dstOk n.ok o = true) : ∀ d, o.dst = some d → n.ok d = true := by
  intro d hd
  unfold dstOk at h
  rw [hd] at h
  exact h

theorem stepE_tm (o : Oper) (s : St) (e : Eff) : getT (stepE o s e).tm = effT (getT s.tm) o.dst e.dst := by
  unfold stepE
  cases o.dst with
  | none => funext t; simp [effT]
  | some d => exact getT_cons d e.dst s.tm
theorem stepE_bl (o : Oper) (s : St) (e : Eff) : (stepE o s e).bl = updB s.bl e.upd ++ e.new := by unfold stepE; cases o.dst <;> rfl
theorem stepS_tm (o : Oper) (s : St) : getT (stepS o s).tm = effT (getT s.tm) o.dst .ud := by
  unfold stepS
  cases o.dst with
  | none => funext t; simp [effT]
  | some d => exact getT_cons d .ud s.tm
theorem stepS_bl (o : Oper) (s : St) : (stepS o s).bl = s.bl := by unfold stepS; cases o.dst <;> rfl

/-- An operation that is carried out, in the text's order. -/
theorem SRel.run (hP : TabOK P TT) (hΔ : CallsOK P Δ) {s : St} {a : Act} (h : SRel X keep w0 n ι s a w) {o : Oper} (hd : dstOk n.ok o = true) {e : Eff}
    (hev : evOp TT Δ o (getT s.tm) (getB s.bl) s.bl.length some = some e) (hu : updLt s.bl.length e.upd = true) {K : Act → World → Prop} {Q : Exit → Act → World → Prop}
    (hK : ∀ ι' a' w', SRel X keep w0 n ι' (stepE o s e) a' w' → K a' w') : o.wp P a w K Q := by
  refine Oper.wp_mono ?_ (evOp_sound hP hΔ h.f.h h.f.tm hev (fun k hk _ => h.dom k hk) (Q := Q))
  rintro a' w' ⟨v, rfl, ι', h1, h2, h3, h4⟩
  refine hK ι' _ w' ⟨?_, fun k hk => ?_⟩
  · have := h.f.step (dstOk_lt hd) h1 h2 h3
    rw [stepE_tm, stepE_bl, getB_eff hu]
    exact this
  · rw [stepE_bl, List.length_append, updB_length] at hk
    rw [h4 k (by omega)]
    exact h.dom k (by omega)

theorem SRel.skip {s : St} {a : Act} (h : SRel X keep w0 n ι s a w) {o : Oper} (hd : dstOk n.ok o = true) : SRel X keep w0 n ι (stepS o s) (a.put o.dst undef) w := by
  refine ⟨?_, fun k hk => ?_⟩
  · rw [stepS_tm, stepS_bl]
    exact h.f.step (dstOk_lt hd) h.f.h (Ext.refl _ _ _ _) (by simp only [RelV])
  · rw [stepS_bl] at hk
    exact h.dom k hk

theorem yielded_bool {ops : Array Oper} {a : Act} {j g : Nat} (hg : (ops[j]?).bind (·.dst) = some g) {b : Bool} (hv : a.tmps.getD g undef = .bool b) : yielded ops a.tmps j = some b := by
  unfold yielded
  rw [hg]
  have : a.tmps[g]? = some (.bool b) := by
    rw [Array.getD_eq_getD_getElem?] at hv
    cases hq : a.tmps[g]? with
    | none => rw [hq] at hv; cases hv
    | some u => rw [hq] at hv; rw [← hv]; rfl
  simp [this]

theorem yielded_ud {ops : Array Oper} {a : Act} {j g : Nat} (hg : (ops[j]?).bind (·.dst) = some g) (hv : a.tmps.getD g undef = undef) : yielded ops a.tmps j = none := by
  unfold yielded
  rw [hg]
  show (match a.tmps[g]? with | some (.bool b) => some b | _ => none) = none
  rw [Array.getD_eq_getD_getElem?] at hv
  cases hq : a.tmps[g]? with
  | none => rfl
  | some u => rw [hq] at hv; rw [show u = undef from hv]; rfl

/-- A test that is decided: the state tells the same. -/
theorem SRel.known {s : St} {a : Act} (h : SRel X keep w0 n ι s a w) {g : Nat} {b : Bool} (hg : getT s.tm g = .d .bool b) : SRel X keep w0 n ι ⟨(g, .d .bool b) :: s.tm, s.bl⟩ a w := by
  refine ⟨?_, h.dom⟩
  have : getT ((g, .d .bool b) :: s.tm) = getT s.tm := by
    rw [getT_cons]
    funext t
    unfold effT
    split
    · rename_i e
      injection e with e
      subst e
      exact hg.symm
    · rfl
  rw [this]
  exact h.f

theorem evOpD_false {R : Type} (o : Oper) (s : St) (K : Eff → Option R) : evOpD TT Δ false o s K = evOp TT Δ o (getT s.tm) (getB s.bl) s.bl.length K := rfl

theorem bind_some' {α β : Type} {x : Option α} {f : α → Option β} {r : β} (h : x.bind f = some r) : ∃ y, x = some y ∧ f y = some r := by
  cases x with
  | none => cases h
  | some y => exact ⟨y, rfl, h⟩

theorem evOp_no_defer {R : Type} {o : Oper} {T : Nat → AV} {C : Nat → Blk} {nb : Nat} {K : Eff → Option R} {r : R} (h : evOp TT Δ o T C nb K = some r) : ∀ c, o.op ≠ .defer c := by
  intro c hc
  unfold evOp at h
  rw [hc] at h
  cases h

/-- A region in the text's order. -/
theorem evOps_seq (hP : TabOK P TT) (hΔ : CallsOK P Δ) {ρ : Option Nat} {dp : Nat} {R : Type} {ops : Array Oper} {Q : Exit → Act → World → Prop} {r : R} {K : St → List LogE → Option R} : ∀ (l : List (Nat × Oper)) (s : St) (lg : List LogE) (a : Act) (w : World) (ι : Nat → Option Value),
    (∀ p ∈ l, ops[p.1]? = some p.2) → evOps TT Δ n.ok ops false l s lg K = some r → SRel X keep w0 n ι s a w → (∀ s' lg' a' w' ι', K s' lg' = some r → SRel X keep w0 n ι' s' a' w' → Q .normal a' w') → wpOpsIn (WF ρ) dp P ops Q (l.map (·.1)) a w
  | [], s, lg, a, w, ι, _, hev, h, hQ => hQ s lg a w ι hev h
  | (i, o) :: rest, s, lg, a, w, ι, hl, hev, h, hQ => by
    have hi : ops[i]? = some o := hl (i, o) (List.mem_cons_self ..)
    have hrest := fun p hp => hl p (List.mem_cons_of_mem _ hp)
    simp only [evOps] at hev
    split at hev
    · rename_i hd
      have hrun : ∀ (s : St) (a : Act) (w : World) (ι : Nat → Option Value), SRel X keep w0 n ι s a w → (evOpD TT Δ false o s fun e => if updLt s.bl.length e.upd = true then evOps TT Δ n.ok ops false rest (stepE o s e) (logOf i o s e :: lg) K else none) = some r →
          Region.wanted o (yielded ops a.tmps) = true → wpOpsIn (WF ρ) dp P ops Q (((i, o) :: rest).map (·.1)) a w := by
        intro s a w ι h hev hw
        rw [evOpD_false, evOp_nat hΔ] at hev
        obtain ⟨e, he, hev⟩ := bind_some' hev
        split at hev
        · rename_i hu
          rw [List.map_cons, wpOpsIn_cons]
          unfold wpOpIn
          rw [hi]
          simp only [hw, if_true]
          refine wpIn_of_wp (evOp_no_defer he) (h.run hP hΔ hd he hu fun ι' a' w' h' => ?_)
          exact evOps_seq hP hΔ rest _ _ a' w' ι' hrest hev h' hQ
        · cases hev
      have hskip : ∀ (s : St) (a : Act) (w : World) (ι : Nat → Option Value), SRel X keep w0 n ι s a w → evOps TT Δ n.ok ops false rest (stepS o s) lg K = some r → Region.wanted o (yielded ops a.tmps) = false → wpOpsIn (WF ρ) dp P ops Q (((i, o) :: rest).map (·.1)) a w := by
        intro s a w ι h hev hw
        rw [List.map_cons, wpOpsIn_cons]
        unfold wpOpIn
        rw [hi]
        simp only [hw]
        exact ⟨fun _ _ => trivial, evOps_seq hP hΔ rest _ _ _ w ι hrest hev (h.skip hd) hQ⟩
      split at hev
      · rename_i hg
        exact hrun s a w ι h hev (by simp [Region.wanted, hg])
      · rename_i j want hg
        split at hev
        · cases hev
        · rename_i g hgd
          have htm := h.f.tm g
          split at hev
          · rename_i b hb
            rw [hb, rel_bool] at htm
            have hy := yielded_bool hgd htm
            have hw : Region.wanted o (yielded ops a.tmps) = (b == want) := by
              unfold Region.wanted
              rw [hg]
              simp only [hy]
              cases b <;> cases want <;> rfl
            have hk := h.known hb
            split at hev
            · rename_i hbt
              subst hbt
              split at hev
              · rename_i hwt
                subst hwt
                exact hrun _ a w ι hk hev (by rw [hw]; rfl)
              · rename_i hwt
                have hwt : want = false := by simpa using hwt
                subst hwt
                exact hskip _ a w ι hk hev (by rw [hw]; rfl)
            · rename_i hbt
              have hbt : b = false := by simpa using hbt
              subst hbt
              split at hev
              · rename_i hwt
                subst hwt
                exact hskip _ a w ι hk hev (by rw [hw]; rfl)
              · rename_i hwt
                have hwt : want = false := by simpa using hwt
                subst hwt
                exact hrun _ a w ι hk hev (by rw [hw]; rfl)
          · rename_i hb
            rw [hb] at htm
            simp only [RelV] at htm
            have hy := yielded_ud hgd htm
            exact hskip s a w ι h hev (by unfold Region.wanted; rw [hg]; simp [hy])
          · cases hev
    · cases hev
end
end Go.Proofs.Rf
