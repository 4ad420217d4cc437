/- Texts put together: Fp, Fq, Fr, Fs, Ft, Fu, Fv, Fw, Fx, Tab, Fy. -/
import Derived.Test.YtofmlmonkfocnaaGreatDoorM1
import Derived.RangeFuncLeaves
import Derived.RangeFuncWrites
import Derived.RangeFuncNested
import Derived.Test.YtofmlmonkfocnaaGreatDoorProg
/- Rf, part p: the law of regions that draw their order: the walk through any order. -/
namespace Go.Proofs.Rf
open Go Go.RowKit

section
variable {X keep : Nat → Prop} {w0 w : World} {ι : Nat → Option Value} {C : Nat → Blk} {P : Program} {TT : Tab} {Δ : Nat → Option CallO} {n : Slots} {no : Nat → Bool}

theorem wanted_on {ops : Array Oper} {T : Nat → AV} {a : Act} {okb : Nat → Prop} {o : Oper} (hT : ∀ t, RelV w okb ι (T t) (a.tmps.getD t undef)) (h : GuardOn ops T o) : Region.wanted o (yielded ops a.tmps) = true := by
  rcases h with h | ⟨j, want, g, hg, hgd, hb⟩
  · simp [Region.wanted, h]
  · have htm := hT g
    rw [hb, rel_bool] at htm
    have hy := yielded_bool hgd htm
    unfold Region.wanted
    rw [hg]
    simp only [hy]
    cases want <;> rfl

theorem wanted_off {ops : Array Oper} {T : Nat → AV} {a : Act} {okb : Nat → Prop} {o : Oper} (hT : ∀ t, RelV w okb ι (T t) (a.tmps.getD t undef)) (h : GuardOff ops T o) : Region.wanted o (yielded ops a.tmps) = false := by
  obtain ⟨j, want, g, hg, hgd, hb⟩ := h
  have htm := hT g
  rcases hb with hb | hb
  · rw [hb, rel_bool] at htm
    have hy := yielded_bool hgd htm
    unfold Region.wanted
    rw [hg]
    simp only [hy]
    cases want <;> rfl
  · rw [hb] at htm
    simp only [RelV] at htm
    have hy := yielded_ud hgd htm
    unfold Region.wanted
    rw [hg]
    simp [hy]

/-- The facts of a checked trace. -/
structure Drawn (TT : Tab) (Δ : Nat → Option CallO) (n : Nat → Bool) (ops : Array Oper) (T0 : Nat → AV) (C0 : Nat → Blk) (nb0 : Nat) (es : List Ent) : Prop where
  ents : EntsOK TT Δ n ops 0 T0 C0 nb0 es
  map : es.map (·.o) = ops.toList
  hE : edgesOk 0 ops.toList = true
  hT : tmpsOk ops (masks ops.toList []) 0 ops.toList = true
  hL : logOk (masks ops.toList []) (logsOf es) = true

theorem waits_iff {ops : Array Oper} {i j : Nat} : waits (masks ops.toList []) i j = true ↔ PB ops j i ∨ PB ops i j := by
  unfold waits PB
  rw [Bool.or_eq_true]

namespace Drawn
variable {ops : Array Oper} {T0 : Nat → AV} {C0 : Nat → Blk} {nb0 : Nat} {es : List Ent}

theorem len (D : Drawn TT Δ no ops T0 C0 nb0 es) : es.length = ops.size := by
  rw [← Array.length_toList, ← D.map, List.length_map]

theorem idx (D : Drawn TT Δ no ops T0 C0 nb0 es) {y : Ent} (hy : y ∈ es) : ops[y.i]? = some y.o ∧ y.i < ops.size := by
  obtain ⟨es1, es2, rfl⟩ := List.append_of_mem hy
  obtain ⟨_, _, hi, _⟩ := D.ents.split y es1 es2 rfl
  rw [Nat.zero_add] at hi
  have h1 : ops.toList[y.i]? = some y.o := by
    rw [← D.map, hi]
    simp
  rw [Array.getElem?_toList] at h1
  exact ⟨h1, (Array.getElem?_eq_some_iff.1 h1).1⟩

/-- What another operation may have done to what this one looks at. -/
theorem other (D : Drawn TT Δ no ops T0 C0 nb0 es) {S : Nat → Bool} (hS : Shut ops S) {x y : Ent} (hj : S x.i = false) (hr : ∀ k, PB ops x.i k → S k = true)
    (h : y.i = x.i ∨ waits (masks ops.toList []) x.i y.i = true) : S y.i = Nat.blt y.i x.i := by
  rcases h with h | h
  · rw [h, hj]
    symm
    exact Bool.eq_false_iff.2 fun e => Nat.lt_irrefl _ (Nat.le_of_ble_eq_true e)
  · rcases waits_iff.1 h with h | h
    · have hlt := PB_lt D.hE _ _ _ (Nat.le_refl _) h
      have hs : S y.i = false := by
        cases hs : S y.i with
        | false => rfl
        | true => rw [hS _ _ hs h] at hj; cases hj
      rw [hs]
      symm
      exact Bool.eq_false_iff.2 fun e => by have := Nat.le_of_ble_eq_true e; omega
    · have hlt := PB_lt D.hE _ _ _ (Nat.le_refl _) h
      rw [hr _ h]
      symm
      exact Nat.ble_eq_true_of_le hlt

theorem later (D : Drawn TT Δ no ops T0 C0 nb0 es) {S : Nat → Bool} (hS : Shut ops S) {x y : Ent} (hlt : x.i < y.i) (hj : S x.i = false)
    (h : waits (masks ops.toList []) x.i y.i = true) : S y.i = false := by
  rcases waits_iff.1 h with h | h
  · cases hs : S y.i with
    | false => rfl
    | true => rw [hS _ _ hs h] at hj; cases hj
  · have := PB_lt D.hE _ _ _ (Nat.le_refl _) h
    omega

/-- Two operations: the same, one waits for the other, or apart. -/
theorem tmp2 (D : Drawn TT Δ no ops T0 C0 nb0 es) {x y : Ent} (hx : x ∈ es) (hy : y ∈ es) : y.i = x.i ∨ waits (masks ops.toList []) x.i y.i = true ∨ (x.o.apart ops y.o = true ∨ y.o.apart ops x.o = true) := by
  have h1 := (D.idx hx).1
  have h2 := (D.idx hy).1
  rw [← Array.getElem?_toList] at h1 h2
  rcases Nat.lt_trichotomy y.i x.i with h | h | h
  · have := tmpsOk_at ops.toList 0 y.i x.i _ _ D.hT h h2 h1
    rw [Nat.zero_add, Nat.zero_add] at this
    exact .inr (this.imp waits_symm .inr)
  · exact .inl h
  · have := tmpsOk_at ops.toList 0 x.i y.i _ _ D.hT h h1 h2
    rw [Nat.zero_add, Nat.zero_add] at this
    exact .inr (this.imp id .inl)

theorem selTb (D : Drawn TT Δ no ops T0 C0 nb0 es) {x : Ent} (hx : x ∈ es) : x.T = selT (fun i => Nat.blt i x.i) es T0 ∧ x.C = selC (fun i => Nat.blt i x.i) es C0 := by
  obtain ⟨es1, es2, rfl⟩ := List.append_of_mem hx
  obtain ⟨h1, h2, h3, _, _, h6, h7, _⟩ := D.ents.split x es1 es2 rfl
  have hb : ∀ y ∈ es1, Nat.blt y.i x.i = true := fun y hy => Nat.ble_eq_true_of_le (h6 y hy).1
  have ha : ∀ y ∈ x :: es2, Nat.blt y.i x.i = false := by
    intro y hy
    refine Bool.eq_false_iff.2 fun e => ?_
    have e := Nat.le_of_ble_eq_true e
    rcases List.mem_cons.1 hy with rfl | hy
    · omega
    · have := (h7 y hy).1; omega
  constructor
  · funext t
    rw [h1, selT_append, selT_none (x :: es2) _ (fun y hy _ => ha y hy)]
    exact selT_congr es1 _ _ rfl (fun y hy _ => (hb y hy).symm)
  · funext k
    rw [h2, selC_append, selC_none (x :: es2) _ (fun y hy _ _ => ha y hy)]
    exact selC_congr es1 _ _ rfl (fun y hy _ _ => (hb y hy).symm)

theorem lookT (D : Drawn TT Δ no ops T0 C0 nb0 es) {S : Nat → Bool} (hS : Shut ops S) {x : Ent} (hx : x ∈ es) (hj : S x.i = false) (hr : ∀ k, PB ops x.i k → S k = true) {t : Nat} (ht : t ∈ x.o.looksAt ops) : selT S es T0 t = x.T t := by
  rw [(D.selTb hx).1]
  refine selT_congr es _ _ rfl fun y hy hd => D.other hS hj hr ?_
  rcases D.tmp2 hx hy with h | h | h
  · exact .inl h
  · exact .inr h
  · exact absurd ht (apart_both h.symm t hd).1

theorem log2 (D : Drawn TT Δ no ops T0 C0 nb0 es) {x y : Ent} (hx : x ∈ es) (hy : y ∈ es) (hsx : x.skip = false) (hsy : y.skip = false) : y.i = x.i ∨ waits (masks ops.toList []) x.i y.i = true ∨ apartL x.log y.log = true := by
  rcases (logOk_at D.hL).2 _ (mem_logsOf hx hsx) _ (mem_logsOf hy hsy) with h | h | h
  · left
    exact (congrArg LogE.i h).symm
  · exact .inr (.inr h)
  · exact .inr (.inl h)

theorem sub (D : Drawn TT Δ no ops T0 C0 nb0 es) {x : Ent} (hx : x ∈ es) (hsx : x.skip = false) : ∀ k ∈ updIds x.e.upd, k ∈ x.ids := subN_iff ((logOk_at D.hL).1 _ (mem_logsOf hx hsx))

theorem wrote_mem {y : Ent} {k : Nat} (h : wrote y.nb y.e k) : k ∈ y.log.wr ++ y.log.new := by
  rw [List.mem_append]
  exact h.imp id fun h => mem_rangeN.2 h

theorem apartL_out {x y : Ent} (h : apartL x.log y.log = true) : (∀ k, wrote x.nb x.e k → k ∉ y.log.touch ++ y.log.new) ∧ ∀ k, wrote y.nb y.e k → k ∉ x.log.touch ++ x.log.new := by
  unfold apartL at h
  rw [Bool.and_eq_true, Bool.not_eq_true', Bool.not_eq_true'] at h
  exact ⟨fun k hk => meetN_false h.1 k (wrote_mem hk), fun k hk => meetN_false h.2 k (wrote_mem hk)⟩

theorem lookC (D : Drawn TT Δ no ops T0 C0 nb0 es) {S : Nat → Bool} (hS : Shut ops S) {x : Ent} (hx : x ∈ es) (hsx : x.skip = false) (hj : S x.i = false) (hr : ∀ k, PB ops x.i k → S k = true) {k : Nat} (hk : k ∈ x.ids) : selC S es C0 k = x.C k := by
  rw [(D.selTb hx).2]
  refine selC_congr es _ _ rfl fun y hy hsy hw => D.other hS hj hr ?_
  rcases D.log2 hx hy hsx hsy with h | h | h
  · exact .inl h
  · exact .inr h
  · exact absurd (List.mem_append_left _ hk) ((apartL_out h).2 k hw)

def add (S : Nat → Bool) (j : Nat) : Nat → Bool := fun i => if i = j then true else S i
theorem add_self (S : Nat → Bool) (j : Nat) : add S j j = true := by simp [add]
theorem add_ne {S : Nat → Bool} {i j : Nat} (h : i ≠ j) : add S j i = S i := by simp [add, h]

theorem stepT (D : Drawn TT Δ no ops T0 C0 nb0 es) {S : Nat → Bool} (hS : Shut ops S) {x : Ent} (hx : x ∈ es) (hj : S x.i = false) : selT (add S x.i) es T0 = effT (selT S es T0) x.o.dst x.dv := by
  funext t
  by_cases hd : x.o.dst = some t
  · have hd' : effT (selT S es T0) x.o.dst x.dv t = x.dv := by simp only [effT, hd, if_true]
    rw [hd']
    obtain ⟨es1, es2, e⟩ := List.append_of_mem hx
    obtain ⟨_, _, h3, _, _, h6, h7, _⟩ := D.ents.split x es1 es2 e
    rw [e, selT_append]
    show selT (add S x.i) es2 _ t = _
    rw [if_pos (add_self S x.i), selT_none es2 _ fun y hy hyd => ?_]
    · simp only [effT, hd, if_true]
    · have hlt := (h7 y hy).1
      rw [add_ne (by omega)]
      rcases D.tmp2 hx (y := y) (by rw [e]; exact List.mem_append_right _ (List.mem_cons_of_mem _ hy)) with h | h | h
      · omega
      · exact D.later hS hlt hj h
      · exact absurd hyd (apart_both h t hd).2
  · have hd' : effT (selT S es T0) x.o.dst x.dv t = selT S es T0 t := by simp only [effT, hd, if_false]
    rw [hd']
    refine selT_congr es _ _ rfl fun y hy hyd => add_ne fun e => hd ?_
    have h1 := (D.idx hx).1
    have h2 := (D.idx hy).1
    rw [e, h1] at h2
    injection h2 with h2
    rw [h2]; exact hyd

theorem same (D : Drawn TT Δ no ops T0 C0 nb0 es) {x y : Ent} (hx : x ∈ es) (hy : y ∈ es) (h : y.i = x.i) : y = x := by
  have h2 : ∀ {z : Ent}, z ∈ es → es[z.i]? = some z := by
    intro z hz
    obtain ⟨es1, es2, e⟩ := List.append_of_mem hz
    obtain ⟨_, _, h3, _⟩ := D.ents.split z es1 es2 e
    rw [e, h3, Nat.zero_add]
    simp
  have a1 := h2 hx
  have a2 := h2 hy
  rw [h, a1] at a2
  injection a2 with a2
  exact a2.symm

theorem stepC (D : Drawn TT Δ no ops T0 C0 nb0 es) {S : Nat → Bool} (hS : Shut ops S) {x : Ent} (hx : x ∈ es) (hsx : x.skip = false) (hj : S x.i = false) : selC (add S x.i) es C0 = effC (selC S es C0) x.nb x.e := by
  funext k
  by_cases hw : wrote x.nb x.e k
  · have hsub := fun (y : Ent) (hy : y ∈ es) (h : y.skip = false) => D.sub hy h
    obtain ⟨es1, es2, e⟩ := List.append_of_mem hx
    obtain ⟨_, _, h3, _, _, h6, h7, _⟩ := D.ents.split x es1 es2 e
    have hl : selC (add S x.i) es C0 k = effC (selC (add S x.i) es1 C0) x.nb x.e k := by
      rw [e, selC_append]
      show selC (add S x.i) es2 _ k = _
      rw [if_pos ⟨add_self S x.i, hsx⟩, selC_none es2 _ fun y hy hsy hyw => ?_]
      have hlt := (h7 y hy).1
      have hy' : y ∈ es := by rw [e]; exact List.mem_append_right _ (List.mem_cons_of_mem _ hy)
      rw [add_ne (by omega)]
      rcases D.log2 hx hy' hsx hsy with h | h | h
      · omega
      · exact D.later hS hlt hj h
      · exfalso
        refine (apartL_out h).1 k hw ?_
        rcases hyw with hyw | hyw
        · exact List.mem_append_left _ (hsub y hy' hsy k hyw)
        · exact List.mem_append_right _ (mem_rangeN.2 hyw)
    rw [hl]
    exact effC_congr (.inr hw)
  · rw [effC_other hw]
    refine selC_congr es _ _ rfl fun y hy hsy hyw => add_ne fun e => hw ?_
    rw [← D.same hx hy e]; exact hyw

theorem stepCs (D : Drawn TT Δ no ops T0 C0 nb0 es) {S : Nat → Bool} {x : Ent} (hx : x ∈ es) (hsx : x.skip = true) : selC (add S x.i) es C0 = selC S es C0 := by
  funext k
  refine selC_congr es _ _ rfl fun y hy hsy hyw => add_ne fun e => ?_
  rw [D.same hx hy e, hsx] at hsy
  cases hsy

end Drawn

/-- The state amid a region: some of its operations are done. -/
structure Mid (X keep : Nat → Prop) (w0 : World) (n : Slots) (T0 : Nat → AV) (C0 : Nat → Blk) (nb0 : Nat) (es : List Ent) (S : Nat → Bool) (ι : Nat → Option Value) (a : Act) (w : World) : Prop where
  f : FRel X keep w0 n ι (selT S es T0) (selC S es C0) a w
  dom : ∀ k, ι k ≠ none → k < nb0 ∨ ∃ y ∈ es, y.skip = false ∧ S y.i = true ∧ y.nb ≤ k ∧ k < y.nb + y.e.new.length

variable {ops : Array Oper} {T0 : Nat → AV} {C0 : Nat → Blk} {nb0 : Nat} {es : List Ent}

theorem Mid.step (hP : TabOK P TT) (hΔ : CallsOK P Δ) (D : Drawn TT Δ n.ok ops T0 C0 nb0 es) {ρ : Option Nat} {dp : Nat} {S : Nat → Bool} (hS : Shut ops S) {a : Act} (M : Mid X keep w0 n T0 C0 nb0 es S ι a w) {x : Ent} (hx : x ∈ es) (hj : S x.i = false) (hr : ∀ k, PB ops x.i k → S k = true)
    {K : Act → World → Prop} {Q : Exit → Act → World → Prop} (hK : ∀ ι' a' w', Mid X keep w0 n T0 C0 nb0 es (Drawn.add S x.i) ι' a' w' → K a' w') : wpOpIn (WF ρ) dp P ops Q x.i K a w := by
  unfold wpOpIn
  rw [(D.idx hx).1]
  have hlook := fun t ht => D.lookT hS hx hj hr (t := t) ht
  have hgT : ∀ {j want g}, x.o.guard = some (j, want) → (ops[j]?).bind (·.dst) = some g → selT S es T0 g = x.T g := fun h1 h2 => hlook _ (looks_guard h1 h2)
  have hse : ∃ es1 es2, es = es1 ++ x :: es2 := List.append_of_mem hx
  obtain ⟨es1, es2, e⟩ := hse
  obtain ⟨_, _, h3, hnb, hdst, h6, h7, hev⟩ := D.ents.split x es1 es2 e
  cases hsk : x.skip
  · simp only [hsk, Bool.false_eq_true, if_false] at hev
    obtain ⟨hg, hev⟩ := hev
    have hg' : GuardOn ops (selT S es T0) x.o := by
      rcases hg with hg | ⟨j, want, g, h1, h2, h3⟩
      · exact .inl hg
      · exact .inr ⟨j, want, g, h1, h2, by rw [hgT h1 h2]; exact h3⟩
    have hw := wanted_on M.f.tm hg'
    simp only [hw, if_true]
    refine wpIn_of_wp (evOp_no_defer hev) ?_
    have hT : resT (opTmps x.o.op.operands.toList) (selT S es T0) = resT (opTmps x.o.op.operands.toList) x.T := by
      funext t
      unfold resT
      split
      · rename_i hm
        exact hlook t (looks_op (memN_iff.1 hm))
      · rfl
    have hC : resC x.ids (selC S es C0) = resC x.ids x.C := by
      funext k
      unfold resC
      split
      · rename_i hm
        exact D.lookC hS hx hsk hj hr (memN_iff.1 hm)
      · rfl
    rw [← hT, ← hC] at hev
    refine Oper.wp_mono ?_ (evOp_local hP hΔ M.f hev (D.sub hx hsk) (fun k h1 h2 => ?_) (Q := Q))
    · rintro a' w' ⟨v, rfl, ι', o1, o2, o3, o4⟩
      refine hK ι' _ w' ⟨?_, fun k hk => ?_⟩
      · rw [D.stepT hS hx hj, D.stepC hS hx hsk hj]
        have hdv : x.dv = x.e.dst := by unfold Ent.dv; simp [hsk]
        rw [hdv]
        exact M.f.step (dstOk_lt hdst) o1 o2 o3
      · by_cases hkn : x.nb ≤ k ∧ k < x.nb + x.e.new.length
        · exact .inr ⟨x, hx, hsk, Drawn.add_self .., hkn⟩
        · rw [o4 k hkn] at hk
          rcases M.dom k hk with h | ⟨y, q1, q2, q3, q4⟩
          · exact .inl h
          · refine .inr ⟨y, q1, q2, ?_, q4⟩
            unfold Drawn.add
            split
            · rfl
            · exact q3
    · cases hι : ι k with
      | none => rfl
      | some v =>
        exfalso
        rcases M.dom k (by rw [hι]; simp) with h | ⟨y, q1, q2, q3, q4, q5⟩
        · omega
        · have hne : y.i ≠ x.i := fun e => by rw [e, hj] at q3; cases q3
          have hynb : y.nb' = y.nb + y.e.new.length := by unfold Ent.nb'; simp [q2]
          have hxnb : x.nb' = x.nb + x.e.new.length := by unfold Ent.nb'; simp [hsk]
          rw [e] at q1
          rcases List.mem_append.1 q1 with q1 | q1
          · have := (h6 y q1).2
            omega
          · rcases List.mem_cons.1 q1 with rfl | q1
            · exact hne rfl
            · have := (h7 y q1).2
              omega
  · simp only [hsk, if_true] at hev
    have hg' : GuardOff ops (selT S es T0) x.o := by
      obtain ⟨j, want, g, h1, h2, h3⟩ := hev
      exact ⟨j, want, g, h1, h2, by rw [hgT h1 h2]; exact h3⟩
    have hw := wanted_off M.f.tm hg'
    simp only [hw]
    refine ⟨fun _ _ => trivial, hK ι _ w ⟨?_, fun k hk => ?_⟩⟩
    · rw [D.stepT hS hx hj, D.stepCs hx hsk]
      have hdv : x.dv = .ud := by unfold Ent.dv; simp [hsk]
      rw [hdv]
      exact M.f.step (dstOk_lt hdst) M.f.h (Ext.refl _ _ _ _) (by simp only [RelV])
    · rcases M.dom k hk with h | ⟨y, q1, q2, q3, q4⟩
      · exact .inl h
      · refine .inr ⟨y, q1, q2, ?_, q4⟩
        unfold Drawn.add
        split
        · rfl
        · exact q3

theorem Drawn.ent (D : Drawn TT Δ n.ok ops T0 C0 nb0 es) {j : Nat} (h : j < ops.size) : ∃ x ∈ es, x.i = j := by
  have hl : j < es.length := by rw [D.len]; exact h
  refine ⟨es[j], List.getElem_mem hl, ?_⟩
  have e : es = es.take j ++ es[j] :: es.drop (j + 1) := by simp
  obtain ⟨_, _, h3, _⟩ := D.ents.split es[j] _ _ e
  rw [h3, List.length_take, Nat.min_eq_left (Nat.le_of_lt hl), Nat.zero_add]

/-- What all the operations that are listed wait for is listed. -/
theorem all_listed (hE : edgesOk 0 ops.toList = true) {listed : Array Bool} (hs : listed.size = ops.size) (hr : Region.ready .any ops listed = []) : ∀ j, j < ops.size → listed.getD j false = true := by
  intro j
  induction j using Nat.strongRecOn with
  | ind j ih =>
    intro hj
    cases hl : listed.getD j false with
    | true => rfl
    | false =>
      exfalso
      have : j ∈ Region.ready .any ops listed := by
        rw [mem_ready]
        refine ⟨?_, ops[j], Array.getElem?_eq_getElem hj, fun e he hb => ?_⟩
        · rw [Array.getD_eq_getD_getElem?] at hl ⊢
          rw [Array.getElem?_eq_getElem (by omega)] at hl ⊢
          exact hl
        · have hlt := edgesOk_at ops.toList 0 j ops[j] hE (by rw [Array.getElem?_toList]; exact Array.getElem?_eq_getElem hj) e (by simpa using he) hb
          exact ih e.on (by omega) (by omega)
      rw [hr] at this
      cases this

theorem walk_any (hP : TabOK P TT) (hΔ : CallsOK P Δ) (D : Drawn TT Δ n.ok ops T0 C0 nb0 es) {ρ : Option Nat} {dp : Nat} {Q : Exit → Act → World → Prop} (hQ : ∀ ι' a' w', Mid X keep w0 n T0 C0 nb0 es (fun _ => true) ι' a' w' → Q .normal a' w') :
    ∀ (fuel : Nat) (U : List Nat) (listed : Array Bool) (a : Act) (w : World) (ι : Nat → Option Value), U.length ≤ fuel → (∀ j, j < ops.size → listed.getD j false = false → j ∈ U) → listed.size = ops.size → Shut ops (fun i => listed.getD i false) → Mid X keep w0 n T0 C0 nb0 es (fun i => listed.getD i false) ι a w →
      wpAnyIn (WF ρ) dp P .any ops Q fuel listed a w := by
  have hdone : ∀ (listed : Array Bool) (a : Act) (w : World) (ι : Nat → Option Value), listed.size = ops.size → Mid X keep w0 n T0 C0 nb0 es (fun i => listed.getD i false) ι a w → Region.ready .any ops listed = [] → Q .normal a w := by
    intro listed a w ι hs M hr
    have hall := all_listed D.hE hs hr
    have hy : ∀ y ∈ es, (fun i => listed.getD i false) y.i = (fun _ => true) y.i := fun y hy => hall y.i (D.idx hy).2
    refine hQ ι a w ⟨?_, fun k hk => ?_⟩
    · have e1 : selT (fun _ => true) es T0 = selT (fun i => listed.getD i false) es T0 := funext fun t => (selT_congr es _ _ rfl fun y h _ => hy y h).symm
      have e2 : selC (fun _ => true) es C0 = selC (fun i => listed.getD i false) es C0 := funext fun t => (selC_congr es _ _ rfl fun y h _ _ => hy y h).symm
      rw [e1, e2]
      exact M.f
    · rcases M.dom k hk with h | ⟨y, q1, q2, q3, q4⟩
      · exact .inl h
      · exact .inr ⟨y, q1, q2, rfl, q4⟩
  intro fuel
  induction fuel with
  | zero =>
    intro U listed a w ι hU hm hs _ M
    have hU : U = [] := List.length_eq_zero_iff.1 (by omega)
    subst hU
    have hr : Region.ready .any ops listed = [] := by
      cases hr : Region.ready .any ops listed with
      | nil => rfl
      | cons j r =>
        exfalso
        have hj : j ∈ Region.ready .any ops listed := by rw [hr]; exact List.mem_cons_self ..
        obtain ⟨h1, o, h2, _⟩ := mem_ready.1 hj
        have hlt := (Array.getElem?_eq_some_iff.1 h2).1
        refine absurd (hm j hlt ?_) (by simp)
        rw [Array.getD_eq_getD_getElem?] at h1 ⊢
        rw [Array.getElem?_eq_getElem (by omega)] at h1 ⊢
        exact h1
    exact ⟨hr, hdone listed a w ι hs M hr⟩
  | succ fuel ih =>
    intro U listed a w ι hU hm hs hS M
    refine ⟨hdone listed a w ι hs M, fun j hj => ?_⟩
    obtain ⟨h1, o, h2, h3⟩ := mem_ready.1 hj
    have hlt := (Array.getElem?_eq_some_iff.1 h2).1
    have hf : listed.getD j false = false := by
      rw [Array.getD_eq_getD_getElem?] at h1 ⊢
      rw [Array.getElem?_eq_getElem (by omega)] at h1 ⊢
      exact h1
    obtain ⟨x, hx, rfl⟩ := D.ent hlt
    have hpb : ∀ k, PB ops x.i k → listed.getD k false = true := by
      intro k hk
      obtain ⟨e, q1, q2, q3⟩ := (PB_iff D.hE h2 k).1 hk
      have hl := h3 e (by simpa using q1) q2
      rcases q3 with rfl | q3
      · exact hl
      · exact hS _ _ hl q3
    have hadd : (fun i => (listed.setIfInBounds x.i true).getD i false) = Drawn.add (fun i => listed.getD i false) x.i := by
      funext i
      unfold Drawn.add
      split
      · rename_i h
        subst h
        simp [hs, hlt]
      · rename_i h
        exact getD_set_ne false (Ne.symm h)
    refine Mid.step hP hΔ D hS M hx hf hpb fun ι' a' w' M' => ih (U.erase x.i) _ a' w' ι' ?_ (fun k hk hkf => ?_) (by simp [hs]) ?_ (by rw [hadd]; exact M')
    · have hmem := hm x.i hlt hf
      rw [List.length_erase_of_mem hmem]
      omega
    · have hne : k ≠ x.i := by
        intro e
        subst e
        rw [congrFun hadd, Drawn.add_self] at hkf
        cases hkf
      rw [getD_set_ne false (Ne.symm hne)] at hkf
      exact (List.mem_erase_of_ne hne).2 (hm k hk hkf)
    · rw [hadd]
      intro d k hd hk
      by_cases hkx : k = x.i
      · subst hkx; exact Drawn.add_self ..
      · rw [Drawn.add_ne hkx]
        by_cases hdx : d = x.i
        · subst hdx; exact hpb k hk
        · rw [Drawn.add_ne hdx] at hd
          exact hS d k hd hk

/-- A region that draws its order. -/
theorem evOps_draw (hm : P.follows .mixedOrders = true) (hP : TabOK P TT) (hΔ : CallsOK P Δ) {ρ : Option Nat} {dp : Nat} {R : Type} {Q : Exit → Act → World → Prop} {r : R} {K : St → Option R} {id : Nat} {s : St} {a : Act}
    (hev : evOps TT Δ n.ok ops true (zipN 0 ops.toList) s [] (fun s' lg => if drawOk ops lg = true then K s' else none) = some r) (h : SRel X keep w0 n ι s a w)
    (hQ : ∀ s' a' w' ι', K s' = some r → SRel X keep w0 n ι' s' a' w' → Q .normal a' w') : (Code.region id ops true).wpIn (WF ρ) dp P Q a w := by
  obtain ⟨es, s', ht, hk⟩ := trace hΔ _ _ _ hev
  rw [List.append_nil] at hk
  split at hk
  · rename_i hd
    obtain ⟨k1, k2, k3, k4, k5, k6⟩ := Tr.ents ops.toList 0 _ _ _ es _ _ _ ht
    simp only [drawOk, Bool.and_eq_true] at hd
    have D : Drawn TT Δ n.ok ops (getT s.tm) (getB s.bl) s.bl.length es := ⟨k1, k2, hd.1.1, hd.1.2, hd.2⟩
    refine wpIn_region_any hm (walk_any (X := X) (keep := keep) (w0 := w0) hP hΔ D (fun ι' a' w' M => hQ s' a' w' ι' hk ⟨?_, fun k hk => ?_⟩) ops.size (List.range ops.size) _ a _ ι (by simp) (fun j hj _ => by simpa using hj) (by simp) ?_ ?_)
    · rw [k3, k4]; exact M.f
    · cases hι : ι' k with
      | none => rfl
      | some v =>
        exfalso
        rcases M.dom k (by rw [hι]; simp) with h | ⟨y, q1, q2, q3, q4, q5⟩
        · omega
        · have := (k6 y q1).2.2
          have hynb : y.nb' = y.nb + y.e.new.length := by unfold Ent.nb'; simp [q2]
          omega
    · intro d j hd _
      exfalso
      revert hd
      simp only [Array.getD_eq_getD_getElem?, Array.getElem?_replicate]
      split <;> simp
    · have hz : (fun i => (Array.replicate ops.size false).getD i false) = fun _ => false := by
        funext i
        simp only [Array.getD_eq_getD_getElem?, Array.getElem?_replicate]
        split <;> rfl
      rw [hz]
      refine ⟨?_, fun k hk => ?_⟩
      · have e1 : selT (fun _ => false) es (getT s.tm) = getT s.tm := funext fun t => selT_none es _ fun _ _ _ => rfl
        have e2 : selC (fun _ => false) es (getB s.bl) = getB s.bl := funext fun t => selC_none es _ fun _ _ _ _ => rfl
        rw [e1, e2]
        exact h.f.drawn _
      · left
        rcases Nat.lt_or_ge k s.bl.length with q | q
        · exact q
        · exact absurd (h.dom k q) hk
  · cases hk
end
end Go.Proofs.Rf
/- Rf, part q: a state cut down to what is wanted of it; loops; code. -/
namespace Go.Proofs.Rf
open Go Go.RowKit

/-! ### A state cut down -/
def posN (k : Nat) : List Nat → Option Nat
  | [] => none
  | j :: r => if Nat.beq j k = true then some 0 else match posN k r with
    | some i => some (i + 1)
    | none => none

mutual
def AV.ren (C : Nat → Blk) (f : Nat → Option Nat) : AV → AV
  | .d t x => .d t x
  | .un => .un
  | .ud => .ud
  | .nl => .nl
  | .ub => .ub
  | .np => .np
  | .rf b => match C b with
    | .row t _ xs false => .d (.sl t) xs
    | _ => match f b with
      | some j => .rf j
      | none => .un
  | .rs b sz off len => match f b with
    | some j => .rs j sz off len
    | none => .un
  | .pt b o => match f b with
    | some j => .pt j o
    | none => .un
  | .pe b sz i o => match f b with
    | some j => .pe j sz i o
    | none => .un
  | .ve cs => .ve (AV.renL C f cs)
  | .ag cs => .ag (AV.renL C f cs)
  | .tp cs => .tp (AV.renL C f cs)
  | .fn g cs => .fn g (AV.renL C f cs)
  | .fm g cs => .fm g (AV.renL C f cs)
  | .mp b => match f b with
    | some j => .mp j
    | none => .un
  | .mnil => .mnil
  | .pa b => match f b with
    | some j => .pa j
    | none => .un
def AV.renL (C : Nat → Blk) (f : Nat → Option Nat) : List AV → List AV
  | [] => []
  | a :: r => a.ren C f :: AV.renL C f r
end

def Blk.ren (C : Nat → Blk) (f : Nat → Option Nat) : Blk → Blk
  | .box e cs => .box e (AV.renL C f cs)
  | b => b

def Blk.ids : Blk → List Nat
  | .box _ cs => AV.idsL cs
  | _ => []

def Blk.frozen : Blk → Bool
  | .row _ _ _ false => true
  | _ => false

/-- The blocks that are reached. -/
def reachN (C : Nat → Blk) : Nat → List Nat → List Nat → List Nat
  | 0, _, done => done
  | _ + 1, [], done => done
  | k + 1, i :: todo, done => if memN i done = true then reachN C k todo done else reachN C k ((C i).ids ++ todo) (done ++ [i])

def unfrozen (C : Nat → Blk) (T : Nat → AV) : List Nat → List Nat
  | [] => []
  | t :: r => (match T t with
    | .rf b => if (C b).frozen = true then [] else [b]
    | v => v.ids) ++ unfrozen C T r

def cutIds (live : List Nat) (s : St) : List Nat := reachN (getB s.bl) 64 (unfrozen (getB s.bl) (getT s.tm) live) []

def cutT (C : Nat → Blk) (f : Nat → Option Nat) (T : Nat → AV) : List Nat → List (Nat × AV)
  | [] => []
  | t :: r => (t, (T t).ren C f) :: cutT C f T r

def cutB (C : Nat → Blk) (f : Nat → Option Nat) : List Nat → List Blk
  | [] => []
  | i :: r => (C i).ren C f :: cutB C f r

def cut (live : List Nat) (s : St) : St :=
  ⟨cutT (getB s.bl) (fun k => posN k (cutIds live s)) (getT s.tm) live, cutB (getB s.bl) (fun k => posN k (cutIds live s)) (cutIds live s)⟩

theorem posN_get {k : Nat} : ∀ {l : List Nat} {i : Nat}, posN k l = some i → l[i]? = some k
  | [], _, h => by cases h
  | j :: r, i, h => by
    unfold posN at h
    split at h
    · rename_i hj
      injection h with h
      subst h
      rw [Nat.eq_of_beq_eq_true hj]
      rfl
    · cases hp : posN k r with
      | none => rw [hp] at h; cases h
      | some m =>
        rw [hp] at h
        injection h with h
        subst h
        simpa using posN_get hp

theorem reachN_nodup (C : Nat → Blk) : ∀ (n : Nat) (todo done : List Nat), done.Nodup → (reachN C n todo done).Nodup
  | 0, _, _, h => h
  | _ + 1, [], _, h => h
  | n + 1, i :: todo, done, h => by
    unfold reachN
    split
    · exact reachN_nodup C n _ _ h
    · rename_i hm
      refine reachN_nodup C n _ _ ?_
      rw [List.nodup_append]
      refine ⟨h, by simp, fun a ha b hb => ?_⟩
      rw [List.mem_singleton] at hb
      subst hb
      intro e
      subst e
      exact hm (memN_iff.2 ha)

theorem cutB_get (C : Nat → Blk) (f : Nat → Option Nat) : ∀ (l : List Nat) (j : Nat), getB (cutB C f l) j = match l[j]? with
    | some i => (C i).ren C f
    | none => .dead
  | [], j => by simp [cutB, getB]
  | i :: r, 0 => rfl
  | i :: r, j + 1 => by
    show getB (cutB C f r) j = _
    rw [cutB_get C f r j]
    simp

theorem cutB_length (C : Nat → Blk) (f : Nat → Option Nat) : ∀ (l : List Nat), (cutB C f l).length = l.length
  | [] => rfl
  | _ :: r => by simp [cutB, cutB_length C f r]

section
variable {X keep : Nat → Prop} {w0 w : World} {ι ι' : Nat → Option Value} {C : Nat → Blk} {ok ok' : Nat → Prop} {f : Nat → Option Nat}

mutual
theorem AV.ren_rel (hok : ∀ g, ok g → ok' g) (hB : ∀ k, RelB w ok ι k (C k)) (hf : ∀ k j, f k = some j → ι' j = ι k) : ∀ (v : AV) (u : Value), RelV w ok ι v u → RelV w ok' ι' (v.ren C f) u
  | .d t x, u, h => by
    simp only [RelV, AV.ren] at h ⊢
    exact Rz_mono (fun _ _ _ _ e => e) hok t x _ h
  | .un, _, _ => by simp only [RelV, AV.ren]
  | .ud, _, h => by simpa only [RelV, AV.ren] using h
  | .nl, _, h => by simpa only [RelV, AV.ren] using h
  | .ub, _, h => by simpa only [RelV, AV.ren] using h
  | .np, _, h => by simpa only [RelV, AV.ren] using h
  | .rf b, u, h => by
    simp only [RelV] at h
    have hb := hB b
    simp only [AV.ren]
    split
    · rename_i t e xs hC
      rw [hC] at hb
      obtain ⟨v, h1, _, h3⟩ := hb
      rw [h.1] at h1
      injection h1 with h1
      subst h1
      simp only [RelV]
      exact Rz_mono (fun _ _ _ _ e => e) hok _ _ _ h3
    · split
      · rename_i j hj
        simp only [RelV]
        rw [hf b j hj]
        exact h
      · simp only [RelV]
  | .rs b sz off len, u, h => by
    simp only [RelV] at h
    simp only [AV.ren]
    split
    · rename_i j hj
      simp only [RelV]
      rw [hf b j hj]
      exact h
    · simp only [RelV]
  | .pt b o, u, h => by
    simp only [RelV] at h
    simp only [AV.ren]
    split
    · rename_i j hj
      simp only [RelV]
      rw [hf b j hj]
      exact h
    · simp only [RelV]
  | .pe b sz i o, u, h => by
    simp only [RelV] at h
    simp only [AV.ren]
    split
    · rename_i j hj
      simp only [RelV]
      rw [hf b j hj]
      exact h
    · simp only [RelV]
  | .ve cs, u, h => by
    simp only [RelV, AV.ren] at h ⊢
    obtain ⟨g, o, us, h1, h2, h3, h4⟩ := h
    exact ⟨g, o, us, h1, hok _ h2, AV.renL_rel hok hB hf cs us h3, h4⟩
  | .ag cs, u, h => by
    simp only [RelV, AV.ren] at h ⊢
    obtain ⟨us, h1, h2⟩ := h
    exact ⟨us, h1, AV.renL_rel hok hB hf cs us h2⟩
  | .tp cs, u, h => by
    simp only [RelV, AV.ren] at h ⊢
    obtain ⟨us, h1, h2⟩ := h
    exact ⟨us, h1, AV.renL_rel hok hB hf cs us h2⟩
  | .fn g cs, u, h => by
    simp only [RelV, AV.ren] at h ⊢
    obtain ⟨us, h1, h2⟩ := h
    exact ⟨us, h1, AV.renL_rel hok hB hf cs us h2⟩
  | .fm g cs, u, h => by
    simp only [RelV, AV.ren] at h ⊢
    obtain ⟨us, h1, h2⟩ := h
    exact ⟨us, h1, AV.renL_rel hok hB hf cs us h2⟩
  | .mp b, u, h => by
    simp only [RelV] at h
    simp only [AV.ren]
    split
    · rename_i j hj
      simp only [RelV]
      rw [hf b j hj]
      exact h
    · simp only [RelV]
  | .mnil, _, h => by simpa only [RelV, AV.ren] using h
  | .pa b, _, h => by
    simp only [RelV] at h
    simp only [AV.ren]
    split
    · rename_i j hj
      simp only [RelV]
      rw [hf b j hj]
      exact h
    · simp only [RelV]
theorem AV.renL_rel (hok : ∀ g, ok g → ok' g) (hB : ∀ k, RelB w ok ι k (C k)) (hf : ∀ k j, f k = some j → ι' j = ι k) : ∀ (cs : List AV) (us : List Value), RelL w ok ι cs us → RelL w ok' ι' (AV.renL C f cs) us
  | [], us, h => by simpa only [RelL, AV.renL] using h
  | a :: r, us, h => by
    simp only [RelL, AV.renL] at h ⊢
    obtain ⟨v, vr, h1, h2, h3⟩ := h
    exact ⟨v, vr, h1, AV.ren_rel hok hB hf a v h2, AV.renL_rel hok hB hf r vr h3⟩
end

theorem Blk.ren_rel (hok : ∀ g, ok g → ok' g) (hB : ∀ k, RelB w ok ι k (C k)) (hf : ∀ k j, f k = some j → ι' j = ι k) {i j : Nat} (hi : ι' j = ι i) : RelB w ok' ι' j ((C i).ren C f) := by
  have hb := hB i
  cases hC : C i with
  | row t e xs rw =>
    rw [hC] at hb
    cases rw with
    | true =>
      obtain ⟨v, cs, h1, h2, h3⟩ := hb
      exact ⟨v, cs, by rw [hi]; exact h1, h2, RzL_mono (Rz_mono (fun _ _ _ _ e => e) hok t) h3⟩
    | false =>
      obtain ⟨v, h1, h0, h2⟩ := hb
      exact ⟨v, by rw [hi]; exact h1, h0, Rz_mono (fun _ _ _ _ e => e) hok _ _ _ h2⟩
  | box e cs =>
    rw [hC] at hb
    obtain ⟨g, us, h1, h2, h3⟩ := hb
    exact ⟨g, us, by rw [hi]; exact h1, h2, AV.renL_rel hok hB hf cs us h3⟩
  | it s pos =>
    rw [hC] at hb
    obtain ⟨g, h1, h2⟩ := hb
    exact ⟨g, by rw [hi]; exact h1, h2⟩
  | map kt va vt l =>
    rw [hC] at hb
    obtain ⟨g, es, ck, l', h1, h2, h3, h4, h5, h6⟩ := hb
    exact ⟨g, es, ck, l', by rw [hi]; exact h1, h2, h3, h4, h5, RzM_dat (fun _ _ _ _ e => e) hok h6⟩
  | dead => trivial

theorem bk_ren {i j : Nat} {C' : Nat → Blk} (hC : C' j = (C i).ren C f) (hi : ι' j = ι i) : bk ι' C' j = bk ι C i := by
  unfold bk
  rw [hC, hi]
  cases C i with
  | box e cs =>
    show (match Blk.box e (AV.renL C f cs), ι i with
      | .row _ _ _ true, some v => v.ownBlock
      | .box _ _, some (.pointer (some a)) => some a.block
      | .it _ _, some (.pointer (some a)) => some a.block
      | .map _ _ _ _, some (.map (some r)) => some r
      | _, _ => none) = _
    cases ι i with
    | none => rfl
    | some v =>
      cases v <;> try rfl
      rename_i p
      cases p <;> rfl
  | row t e xs rw => rfl
  | it s pos => rfl
  | map kt va vt l => rfl
  | dead => rfl

theorem cutT_get (live : List Nat) (C : Nat → Blk) (f : Nat → Option Nat) (T : Nat → AV) (t : Nat) : getT (cutT C f T live) t = .un ∨ getT (cutT C f T live) t = (T t).ren C f := by
  induction live with
  | nil => exact .inl rfl
  | cons u r ih =>
    show (if Nat.beq u t = true then _ else _) = _ ∨ (if Nat.beq u t = true then _ else _) = _
    split
    · rename_i h
      rw [Nat.eq_of_beq_eq_true h]
      exact .inr rfl
    · exact ih

theorem SRel.cut {n : Slots} {s : St} {a : Act} (h : SRel X keep w0 n ι s a w) (live : List Nat) : ∃ ι', SRel X keep w0 n ι' (cut live s) a w := by
  let ids := cutIds live s
  let f : Nat → Option Nat := fun k => posN k ids
  have hnd : ids.Nodup := reachN_nodup _ _ _ _ List.nodup_nil
  let ι' : Nat → Option Value := fun j => (ids[j]?).bind ι
  let C' := getB (Rf.cut live s).bl
  have hC' : ∀ j, C' j = match ids[j]? with
      | some i => (getB s.bl i).ren (getB s.bl) f
      | none => .dead := fun j => cutB_get _ f ids j
  have hι' : ∀ j i, ids[j]? = some i → ι' j = ι i := fun j i e => by show (ids[j]?).bind ι = _; rw [e]; rfl
  have hf : ∀ k j, f k = some j → ι' j = ι k := fun k j e => hι' j k (posN_get e)
  have hbk : ∀ j b, bk ι' C' j = some b → ∃ i, ids[j]? = some i ∧ bk ι (getB s.bl) i = some b := by
    intro j b hb
    cases hi : ids[j]? with
    | none =>
      have h1 : C' j = .dead := by rw [hC' j, hi]
      rw [bk_dead h1] at hb
      cases hb
    | some i =>
      refine ⟨i, rfl, ?_⟩
      rw [← hb]
      exact (bk_ren (by rw [hC' j, hi]) (hι' j i hi)).symm
  have hown : ∀ b, owned ι' C' b → owned ι (getB s.bl) b := by
    rintro b ⟨j, hj⟩
    obtain ⟨i, _, hi⟩ := hbk j b hj
    exact ⟨i, hi⟩
  have hok : ∀ b, okb X w ι (getB s.bl) b → okb X w ι' C' b := fun b hb => ⟨hb.1, fun ho => hb.2.1 (hown b ho), hb.2.2⟩
  refine ⟨ι', ⟨⟨fun j => ?_, fun j j' b h1 h2 => ?_, h.f.h.fr, fun b hb => h.f.h.own b (hown b hb), h.f.h.kl, fun b hb => h.f.h.ox b (hown b hb), h.f.h.xl, h.f.h.gl.mono fun g hg => ⟨hok g hg, rfl⟩⟩, fun t => ?_, h.f.size, h.f.defers⟩, fun j hj => ?_⟩
  · show RelB w (okb X w ι' C') ι' j (C' j)
    rw [hC' j]
    cases hi : ids[j]? with
    | none => trivial
    | some i => exact Blk.ren_rel hok h.f.h.bl hf (hι' j i hi)
  · obtain ⟨i, hi, hb⟩ := hbk j b h1
    obtain ⟨i', hi', hb'⟩ := hbk j' b h2
    have e := h.f.h.inj i i' b hb hb'
    subst e
    have hlt := (List.getElem?_eq_some_iff.1 hi).1
    exact (List.getElem?_inj hlt hnd).1 (hi.trans hi'.symm)
  · rcases cutT_get live (getB s.bl) f (getT s.tm) t with e | e
    · show RelV w (okb X w ι' C') ι' (getT (cutT (getB s.bl) f (getT s.tm) live) t) _
      rw [e]
      simp only [RelV]
    · show RelV w (okb X w ι' C') ι' (getT (cutT (getB s.bl) f (getT s.tm) live) t) _
      rw [e]
      exact AV.ren_rel hok h.f.h.bl hf _ _ (h.f.tm t)
  · have hl : (Rf.cut live s).bl.length = ids.length := cutB_length _ _ _
    show (ids[j]?).bind ι = none
    rw [List.getElem?_eq_none (by omega)]
    rfl

/-- A block that holds no cells is turned, or there is more memory: nothing that is told is touched. -/
theorem HRel.quiet (h : HRel X keep w0 ι C w) {w' : World} (r : Nat) (hos : w'.os = w.os) (htape : w'.tape = w.tape) (hout : w'.output = w.output) (hsz : w.heap.size ≤ w'.heap.size)
    (hh : ∀ b, b ≠ r → b < w.heap.size → w'.heap[b]? = w.heap[b]?) (hc : ∀ o v, w.cell? ⟨r, o, none⟩ = some v → False) (hb : ∀ b, owned ι C b → b ≠ r) (hk : ¬ keep r) :
    HRel X keep w0 ι C w' ∧ ∀ v u, RelV w (okb X w ι C) ι v u → RelV w' (okb X w' ι C) ι v u := by
  have hok : ∀ g, okb X w ι C g → okb X w' ι C g := fun g hg => ⟨Nat.lt_of_lt_of_le hg.1 hsz, hg.2⟩
  have hcell : ∀ g o v, okb X w ι C g → w.cell? ⟨g, o, none⟩ = some v → w'.cell? ⟨g, o, none⟩ = some v := by
    intro g o v hg hv
    by_cases e : g = r
    · subst e; exact (hc o v hv).elim
    · rw [← hv]; exact World.cell?_of_block (hh g e hg.1)
  have hown : ∀ b, owned ι C b → w'.heap[b]? = w.heap[b]? := fun b ho => hh b (hb b ho) (h.lt ho)
  refine ⟨⟨fun k => ?_, h.inj, ⟨hos.trans h.fr.os, htape.trans h.fr.tape, hout.trans h.fr.output, Nat.le_trans h.fr.size hsz, fun b hb' hl => ?_⟩, h.own, h.kl, h.ox, h.xl, fun g us hg => ?_⟩, fun v u hv => RelV_mono hcell hok (fun _ _ e => e) v u hv⟩
  · have hB := h.bl k
    cases hC : C k with
    | row t e xs rw =>
      rw [hC] at hB
      cases rw with
      | true =>
        obtain ⟨v, cs, h1, h2, h3⟩ := hB
        refine ⟨v, cs, h1, ⟨h2.1, ?_⟩, RzL_mono (Rz_mono hcell hok t) h3⟩
        rcases h2.2 with h4 | ⟨g, cap, cur, hv, h5, h6, h7⟩
        · exact .inl h4
        · refine .inr ⟨g, cap, cur, hv, h5, ?_, h7⟩
          rw [hown g ⟨k, by unfold bk; rw [hC, h1, hv]; rfl⟩]
          exact h6
      | false =>
        obtain ⟨v, h1, h0, h2⟩ := hB
        exact ⟨v, h1, h0, Rz_mono hcell hok _ _ _ h2⟩
    | box e cs =>
      rw [hC] at hB
      obtain ⟨g, us, h1, h2, h3⟩ := hB
      refine ⟨g, us, h1, ?_, RelL_mono hcell hok (fun _ _ e => e) cs us h3⟩
      rw [hown g ⟨k, by unfold bk; rw [hC, h1]⟩]
      exact h2
    | it s pos =>
      rw [hC] at hB
      obtain ⟨g, h1, h2⟩ := hB
      refine ⟨g, h1, ?_⟩
      rw [hown g ⟨k, by unfold bk; rw [hC, h1]⟩]
      exact h2
    | map kt va vt l =>
      rw [hC] at hB
      obtain ⟨g, es, ck, l', h1, h2, h3, h4, h5, h6⟩ := hB
      refine ⟨g, es, ck, l', h1, ?_, h3, h4, h5, RzM_dat hcell hok h6⟩
      rw [hown g ⟨k, by unfold bk; rw [hC, h1]⟩]
      exact h2
    | dead => trivial
  · have hne : b ≠ r := by rintro rfl; exact hk hb'
    rw [hh b hne (Nat.lt_of_lt_of_le hl h.fr.size)]
    exact h.fr.block b hb' hl
  · obtain ⟨h1, h0, e, fz, h2⟩ := h.gl g us hg
    refine ⟨hok g h1, h0, e, fz, ?_⟩
    rw [hh g ?_ h1.1]
    · exact h2
    · rintro rfl
      exact hc 0 us[0] (by simp [World.cell?, h2, h0])

/-- Less is asked to be kept. -/
theorem HRel.weaken (h : HRel X keep w0 ι C w) {keep1 : Nat → Prop} {w1 : World} (hk : ∀ b, keep1 b → keep b) (hw : Kept keep1 w1 w0) (hl : ∀ b, keep1 b → b < w1.heap.size) (hx : ∀ b, X b → b < w1.heap.size) : HRel X keep1 w1 ι C w :=
  ⟨h.bl, h.inj, hw.trans (h.fr.weak hk), fun b hb hb' => h.own b hb (hk b hb'), hl, h.ox, hx, h.gl⟩

/-- From here on all is kept that is no one's own. -/
theorem HRel.rebase (h : HRel X keep w0 ι C w) : HRel X (fun b => b < w.heap.size ∧ ¬ owned ι C b) w ι C w :=
  ⟨h.bl, h.inj, Kept.refl _ _, fun _ hb hb' => hb'.2 hb, fun _ hb => hb.1, h.ox, fun b hb => Nat.lt_of_lt_of_le (h.xl b hb) h.fr.size, h.gl⟩
end
end Go.Proofs.Rf
/- Rf, part r: code: its evaluation is what the program does. -/
namespace Go.Proofs.Rf
open Go Go.RowKit
section
variable {P : Program} {TT : Tab} {Δ : Nat → Option CallO} {n : Nat → Bool}
end

/-! ### The program's code -/
def Ex.out : Ex → Exit
  | .nm => .normal
  | .ex j => .exit j
  | .rt => .ret

theorem wp_loop_ix {P : Program} {F : Fence} {dp : Nat} {c : Code} {Q : Exit → Act → World → Prop} (I : Nat → Act → World → Prop) (h0 : ∀ a w, ¬ I 0 a w)
    (round : ∀ k a w, I (k + 1) a w → c.wpIn F dp P (Exit.then (fun a' w' => I k a' w') Q) a w) {k : Nat} {a : Act} {w : World} (h : I k a w) : (Code.loop c).wpIn F dp P Q a w := by
  intro b t cs hro hb hr
  have key : ∀ k a w, I k a w → ∃ e a' w', Q e a' w' ∧ ArrivesIn (Machine.fenced P F) P (lone (b.atR a (.code c :: .inLoop c :: t)) cs w) b t cs e a' w' := by
    intro k
    induction k with
    | zero => exact fun a w hI => (h0 a w hI).elim
    | succ k ih =>
      intro a w hI
      obtain ⟨e, a₁, w₁, hq, harr⟩ := round k a w hI b (.inLoop c :: t) cs hro hb hr
      cases e with
      | normal =>
        obtain ⟨e₂, a₂, w₂, hq₂, harr₂⟩ := ih a₁ w₁ hq
        exact ⟨e₂, a₂, w₂, hq₂, .of_steps (StepsIn.trans harr (.one (fenced_calm hb hr rfl) stepR_inLoop)) harr₂⟩
      | exit id => exact ⟨_, a₁, w₁, hq, .pass (x := .inLoop c) rfl (fun _ _ => .inl (by simp)) harr⟩
      | goto l => exact ⟨_, a₁, w₁, hq, .pass (x := .inLoop c) rfl (fun _ _ => .inl (by simp)) harr⟩
      | ret => exact ⟨_, a₁, w₁, hq, .pass (x := .inLoop c) rfl (fun _ _ => .inl (by simp)) harr⟩
      | panic ch => exact ⟨_, a₁, w₁, hq, .pass (x := .inLoop c) rfl (fun _ _ => .inl (by simp)) harr⟩
      | outgrown => exact ⟨_, a₁, w₁, hq, .pass (x := .inLoop c) rfl (fun _ _ => .inl (by simp)) harr⟩
  obtain ⟨e, a', w', hq, harr⟩ := key k a w h
  exact ⟨e, a', w', hq, .of_steps (.one (fenced_calm hb hr rfl) stepR_loop) harr⟩

/-- A later point to which things are kept. -/
structure Later (keep : Nat → Prop) (w0 : World) (keep' : Nat → Prop) (w0' : World) : Prop where
  mono : ∀ b, keep b → keep' b
  kept : Kept keep w0 w0'

theorem Later.refl (keep : Nat → Prop) (w0 : World) : Later keep w0 keep w0 := ⟨fun _ h => h, Kept.refl _ _⟩
theorem Later.trans {k1 k2 k3 : Nat → Prop} {w1 w2 w3 : World} (h : Later k1 w1 k2 w2) (k : Later k2 w2 k3 w3) : Later k1 w1 k3 w3 :=
  ⟨fun b hb => k.mono b (h.mono b hb), h.kept.trans (k.kept.weak h.mono)⟩

section
variable {P : Program} {TT : Tab} {Δ : Nat → Option CallO} {n : Slots}

/-- A loop's evaluation is what the loop does. -/
def CodeOK (P : Program) (n : Slots) (ρ : Option Nat) (l : LoopO) (c : Code) : Prop :=
  ∀ (dp : Nat) (X keep : Nat → Prop) (w0 w : World) (ι : Nat → Option Value) (s : St) (a : Act) (R : Type) (K : Ex → St → Option R) (r : R) (Q : Exit → Act → World → Prop),
    SRel X keep w0 n ι s a w → l s R K = some r → (∀ e s' a' w' ι' keep' w0', Later keep w0 keep' w0' → K e s' = some r → SRel X keep' w0' n ι' s' a' w' → Q e.out a' w') → c.wpIn (WF ρ) dp P Q a w

def LoopOK (P : Program) (n : Slots) (ρ : Option Nat) (l : LoopO) (c : Code) : Prop := CodeOK P n ρ l (.loop c)

/-- The loops of a text are told of. -/
def LoopsIn (P : Program) (n : Slots) (ρ : Option Nat) (Λ : Nat → Option LoopO) : Code → Prop
  | .seq a b => LoopsIn P n ρ Λ a ∧ LoopsIn P n ρ Λ b
  | .cond _ a b => LoopsIn P n ρ Λ a ∧ LoopsIn P n ρ Λ b
  | .block _ c => LoopsIn P n ρ Λ c
  | .scope c => LoopsIn P n ρ Λ c
  | .loop c => ∀ l, Λ (firstReg c) = some l → LoopOK P n ρ l c
  | .rangeFunc g ps asg body => ∀ l, Λ (firstReg asg) = some l → CodeOK P n ρ l (.rangeFunc g ps asg body)
  | _ => True

theorem stepR_scope' {P : Program} {b : Frame} {a : Act} {k : List Item} {cs : List Frame} {w : World} {c : Code} : step P (lone (b.atR a (.code (.scope c) :: k)) cs w) = .next (lone (b.atR a (.code c :: .inScope c :: k)) cs w) :=
  step_lone_go (by simp [stepG, stepG.exec, Frame.atR])
theorem stepR_inScope' {P : Program} {b : Frame} {a : Act} {k : List Item} {cs : List Frame} {w : World} {c : Code} : step P (lone (b.atR a (.inScope c :: k)) cs w) = .next (lone (b.atR a k) cs w) :=
  step_lone_go (by simp [stepG, stepG.exec, Frame.atR])

def noJump (Q : Exit → Act → World → Prop) : Exit → Act → World → Prop
  | .goto _, _, _ => False
  | e, a, w => Q e a w

/-- A scope without jumps. -/
theorem wpIn_scope' {F : Fence} {d : Nat} {P : Program} {Q : Exit → Act → World → Prop} {a : Act} {w : World} {c : Code} (h : c.wpIn F d P (noJump Q) a w) : (Code.scope c).wpIn F d P Q a w := by
  intro b k cs hro hb hr
  have h0 : (lone (b.atR a (.code (.scope c) :: k)) cs w).fenced P F := fenced_calm hb hr rfl
  obtain ⟨e, a₁, w₁, hq, harr⟩ := h b (.inScope c :: k) cs hro hb hr
  cases e with
  | normal => exact ⟨.normal, a₁, w₁, hq, .head h0 stepR_scope' (StepsIn.trans harr (.one (fenced_calm hb hr rfl) stepR_inScope'))⟩
  | exit id =>
    have hx : exitTo id (.inScope c :: k) = exitTo id k := by simp [exitTo]
    exact ⟨.exit id, a₁, w₁, hq, fun k' hk => .head h0 stepR_scope' (harr.1 k' (by rw [hx]; exact hk)),
      fun hr' hk => let ⟨k₁, h1, h2⟩ := harr.2 hr' (by rw [hx]; exact hk); ⟨k₁, h1, .head h0 stepR_scope' h2⟩⟩
  | goto l => exact hq.elim
  | ret => exact ⟨_, a₁, w₁, hq, .of_steps (.one h0 stepR_scope') harr⟩
  | panic ch => exact ⟨_, a₁, w₁, hq, .of_steps (.one h0 stepR_scope') harr⟩
  | outgrown => exact ⟨_, a₁, w₁, hq, .of_steps (.one h0 stepR_scope') harr⟩

theorem evC_sound (hm : P.follows .mixedOrders = true) (hP : TabOK P TT) (hΔ : CallsOK P Δ) {Λ : Nat → Option LoopO} {X : Nat → Prop} {ρ : Option Nat} {dp : Nat} : ∀ (c : Code), LoopsIn P n ρ Λ c → ∀ {R : Type} {r : R} (s : St) (K : Ex → St → Option R) (Q : Exit → Act → World → Prop) (a : Act) (w : World) (ι : Nat → Option Value) (keep : Nat → Prop) (w0 : World),
    SRel X keep w0 n ι s a w → evC TT Δ n.ok Λ c s K = some r → (∀ e s' a' w' ι' keep' w0', Later keep w0 keep' w0' → K e s' = some r → SRel X keep' w0' n ι' s' a' w' → Q e.out a' w') → c.wpIn (WF ρ) dp P Q a w
  | .skip, _, _, _, s, K, Q, a, w, ι, keep, w0, h, hev, hQ => wpIn_skip (hQ .nm s a w ι keep w0 (Later.refl _ _) hev h)
  | .region id ops draw, _, R, r, s, K, Q, a, w, ι, keep, w0, h, hev, hQ => by
    simp only [evC] at hev
    cases draw with
    | false =>
      refine wpIn_region ?_
      have hz : ∀ (l : List Oper) (i : Nat), (zipN i l).map (·.1) = List.range' i l.length := by
        intro l
        induction l with
        | nil => intro i; rfl
        | cons o l ih => intro i; simp [zipN, ih, List.range'_succ]
      have hg : ∀ (l : List Oper) (i : Nat), ∀ p ∈ zipN i l, ∃ k, p.1 = i + k ∧ l[k]? = some p.2 := by
        intro l
        induction l with
        | nil => intro i p hp; cases hp
        | cons o l ih =>
          intro i p hp
          rcases List.mem_cons.1 hp with rfl | hp
          · exact ⟨0, rfl, rfl⟩
          · obtain ⟨k, h1, h2⟩ := ih (i + 1) p hp
            exact ⟨k + 1, by omega, by simpa using h2⟩
      have := evOps_seq (ops := ops) (Q := Q) (ρ := ρ) (dp := dp) hP hΔ (zipN 0 ops.toList) s [] a w ι (fun p hp => by
        obtain ⟨k, h1, h2⟩ := hg _ _ p hp
        rw [h1, Nat.zero_add, ← Array.getElem?_toList]
        exact h2) hev h (fun s' lg' a' w' ι' hk h' => hQ .nm s' a' w' ι' keep w0 (Later.refl _ _) (by simpa using hk) h')
      rw [hz, Array.length_toList, ← List.range_eq_range'] at this
      exact this
    | true =>
      simp only [if_true] at hev
      exact evOps_draw hm hP hΔ (K := fun s' => K .nm s') hev h fun s' a' w' ι' hk h' => hQ .nm s' a' w' ι' keep w0 (Later.refl _ _) hk h'
  | .seq x y, hL, R, r, s, K, Q, a, w, ι, keep, w0, h, hev, hQ => by
    simp only [evC] at hev
    refine wpIn_seq (evC_sound hm hP hΔ x hL.1 s _ _ a w ι keep w0 h hev fun e s' a' w' ι' k1 v1 hl hk h' => ?_)
    cases e with
    | nm => exact evC_sound hm hP hΔ y hL.2 s' K Q a' w' ι' k1 v1 h' hk fun e s2 a2 w2 ι2 k2 v2 hl2 => hQ e s2 a2 w2 ι2 k2 v2 (hl.trans hl2)
    | ex j => exact hQ (.ex j) s' a' w' ι' k1 v1 hl hk h'
    | rt => exact hQ .rt s' a' w' ι' k1 v1 hl hk h'
  | .cond c x y, hL, R, r, s, K, Q, a, w, ι, keep, w0, h, hev, hQ => by
    simp only [evC] at hev
    have hc := ev_rel h.f.tm c
    split at hev
    · rename_i g hg
      rw [hg, rel_bool] at hc
      refine wpIn_cond hc ?_
      split at hev
      · rename_i ht
        subst ht
        exact evC_sound hm hP hΔ x hL.1 s K Q a w ι keep w0 h hev hQ
      · rename_i ht
        have ht : g = false := by simpa using ht
        subst ht
        exact evC_sound hm hP hΔ y hL.2 s K Q a w ι keep w0 h hev hQ
    · rename_i hg
      rw [hg] at hc
      simp only [RelV] at hc
      obtain ⟨g, hc⟩ := hc
      obtain ⟨h1, h2⟩ := meet_some hev
      refine wpIn_cond hc ?_
      cases g
      · exact evC_sound hm hP hΔ y hL.2 s K Q a w ι keep w0 h h2 hQ
      · exact evC_sound hm hP hΔ x hL.1 s K Q a w ι keep w0 h h1 hQ
    · cases hev
  | .block id c, hL, R, r, s, K, Q, a, w, ι, keep, w0, h, hev, hQ => by
    simp only [evC] at hev
    refine wpIn_block (evC_sound hm hP hΔ c hL s _ _ a w ι keep w0 h hev fun e s' a' w' ι' k1 v1 hl hk h' => ?_)
    cases e with
    | nm => exact hQ .nm s' a' w' ι' k1 v1 hl hk h'
    | ex j =>
      show Exit.inBlock id Q (.exit j) a' w'
      simp only at hk
      split at hk
      · rename_i hj
        have hj := Nat.eq_of_beq_eq_true hj
        subst hj
        have := hQ .nm s' a' w' ι' k1 v1 hl hk h'
        simpa [Exit.inBlock, Ex.out] using this
      · rename_i hj
        have hj : j ≠ id := fun e => hj (by rw [e]; exact Nat.beq_refl id)
        have := hQ (.ex j) s' a' w' ι' k1 v1 hl hk h'
        simpa [Exit.inBlock, hj, Ex.out] using this
    | rt => exact hQ .rt s' a' w' ι' k1 v1 hl hk h'
  | .loop c, hL, R, r, s, K, Q, a, w, ι, keep, w0, h, hev, hQ => by
    simp only [evC] at hev
    split at hev
    · rename_i l hl
      exact hL l hl dp X keep w0 w ι s a R K r Q h hev hQ
    · cases hev
  | .rangeFunc g ps asg body, hL, R, r, s, K, Q, a, w, ι, keep, w0, h, hev, hQ => by
    simp only [evC] at hev
    split at hev
    · rename_i l hl
      exact hL l hl dp X keep w0 w ι s a R K r Q h hev hQ
    · cases hev
  | .exit id, _, _, _, s, K, Q, a, w, ι, keep, w0, h, hev, hQ => wpIn_exit (hQ (.ex id) s a w ι keep w0 (Later.refl _ _) hev h)
  | .ret, _, _, _, s, K, Q, a, w, ι, keep, w0, h, hev, hQ => wpIn_ret (hQ .rt s a w ι keep w0 (Later.refl _ _) hev h)
  | .scope c, hL, R, r, s, K, Q, a, w, ι, keep, w0, h, hev, hQ => by
    simp only [evC] at hev
    refine wpIn_scope' (evC_sound hm hP hΔ c hL s K _ a w ι keep w0 h hev fun e s' a' w' ι' k1 v1 hl hk h' => ?_)
    have := hQ e s' a' w' ι' k1 v1 hl hk h'
    cases e <;> exact this
  | .label _, _, _, _, s, K, Q, a, w, ι, keep, w0, h, hev, hQ => wpIn_label (hQ .nm s a w ι keep w0 (Later.refl _ _) hev h)
  | .goto _, _, _, _, _, _, _, _, _, _, _, _, _, hev, _ => by cases hev
  | .refuse _, _, _, _, _, _, _, _, _, _, _, _, _, hev, _ => by cases hev
end
end Go.Proofs.Rf
/- Rf, part s: shapes of states: a state's data, and the state that data stand for. -/
namespace Go.Proofs.Rf
open Go Go.RowKit

inductive SV where
  | d (agg : Bool) (t : Ty)
  | rf (b : Nat)
  | rs (b sz : Nat)
  | rz (b sz : Nat)
  | pt (b o : Nat)
  | ud
  | fn (f : Nat) (cs : List SV)
  | mp (b : Nat)
  | np
  | mnil
  | nl

inductive SB where
  | row (t : Ty) (e : Nat)
  | box (e : Nat) (cs : List SV)
  | it
  | map (kt : Ty) (va : Bool) (vt : Ty)

mutual
@[reducible] def SV.den : SV → Type
  | .d _ t => t.den
  | .rs _ _ => Nat × Nat
  | .rz _ _ => Nat
  | .fn _ cs => SV.denL cs
  | .rf _ => Unit
  | .pt _ _ => Unit
  | .ud => Unit
  | .mp _ => Unit
  | .np => Unit
  | .mnil => Unit
  | .nl => Unit
@[reducible] def SV.denL : List SV → Type
  | [] => Unit
  | a :: r => a.den × SV.denL r
end

@[reducible] def SB.den : SB → Type
  | .row t _ => List t.den
  | .box _ cs => SV.denL cs
  | .it => List UInt8 × Nat
  | .map kt _ vt => List (kt.den × vt.den)

@[reducible] def denB : List SB → Type
  | [] => Unit
  | a :: r => a.den × denB r

@[reducible] def denS : List (Nat × SV) → Type
  | [] => Unit
  | p :: r => p.2.den × denS r

structure Shape where
  sl : List (Nat × SV)
  bl : List SB

@[reducible] def Shape.den (sh : Shape) : Type := denS sh.sl × denB sh.bl

mutual
def SV.put : (s : SV) → s.den → AV
  | .d agg t, x => avD agg t x
  | .rs b sz, p => .rs b sz p.1 p.2
  | .rz b sz, p => .rs b sz 0 p
  | .fn f cs, x => .fn f (SV.putL cs x)
  | .rf b, _ => .rf b
  | .pt b o, _ => .pt b o
  | .ud, _ => .ud
  | .mp b, _ => .mp b
  | .np, _ => .np
  | .mnil, _ => .mnil
  | .nl, _ => .nl
def SV.putL : (l : List SV) → SV.denL l → List AV
  | [], _ => []
  | a :: r, x => a.put x.1 :: SV.putL r x.2
end

def SB.put : (s : SB) → s.den → Blk
  | .row t e, xs => .row t e xs true
  | .box e cs, x => .box e (SV.putL cs x)
  | .it, p => .it p.1 p.2
  | .map kt va vt, l => .map kt va vt l

def putB : (l : List SB) → denB l → List Blk
  | [], _ => []
  | a :: r, x => a.put x.1 :: putB r x.2

def putS : (l : List (Nat × SV)) → denS l → List (Nat × AV)
  | [], _ => []
  | p :: r, x => (p.1, p.2.put x.1) :: putS r x.2

/-- The state that data stand for. -/
def Shape.put (sh : Shape) (x : sh.den) : St := ⟨putS sh.sl x.1, putB sh.bl x.2⟩

def eqB : Bool → Bool → Bool
  | true, true | false, false => true
  | _, _ => false

theorem eqB_iff : ∀ {a b : Bool}, eqB a b = true → a = b := by decide

def atN (ρ : List Nat) (b i : Nat) : Bool := match ρ[b]? with
  | some j => Nat.beq j i
  | none => false

theorem atN_iff {ρ : List Nat} {b i : Nat} (h : atN ρ b i = true) : ρ[b]? = some i := by
  unfold atN at h
  split at h
  · rename_i j hj
    rw [hj, Nat.eq_of_beq_eq_true h]
  · cases h

mutual
def SV.take (C : Nat → Blk) (ρ : List Nat) : (s : SV) → AV → Option (s.den × List (Nat × Blk))
  | .d agg t, v => if eqB v.isAg agg = true then dat C t v else none
  | .rf b, .rf i => if atN ρ b i = true then some ((), []) else none
  | .rs b sz, .rs i sz' off len => if (atN ρ b i && Nat.beq sz' sz) = true then some ((off, len), []) else none
  | .rz b sz, .rs i sz' off len => if (atN ρ b i && Nat.beq sz' sz && Nat.beq off 0) = true then some (len, []) else none
  | .pt b o, .pt i o' => if (atN ρ b i && Nat.beq o' o) = true then some ((), []) else none
  | .ud, .ud => some ((), [])
  | .mp b, .mp i => if atN ρ b i = true then some ((), []) else none
  | .np, .np => some ((), [])
  | .mnil, .mnil => some ((), [])
  | .nl, .nl => some ((), [])
  | .fn f cs, .fn g vs => if Nat.beq g f = true then SV.takeL C ρ cs vs else none
  | _, _ => none
def SV.takeL (C : Nat → Blk) (ρ : List Nat) : (l : List SV) → List AV → Option (SV.denL l × List (Nat × Blk))
  | [], [] => some ((), [])
  | a :: r, v :: vs => match a.take C ρ v with
    | some (x, f) => match SV.takeL C ρ r vs with
      | some (y, g) => some ((x, y), f ++ g)
      | none => none
    | none => none
  | _, _ => none
end

def oneMore (ρ : List Nat) (b i : Nat) : List Nat := if Nat.beq b ρ.length = true then ρ ++ [i] else ρ

mutual
def SV.blks : List Nat → SV → AV → List Nat
  | ρ, .rf b, .rf i => oneMore ρ b i
  | ρ, .rs b _, .rs i _ _ _ => oneMore ρ b i
  | ρ, .rz b _, .rs i _ _ _ => oneMore ρ b i
  | ρ, .pt b _, .pt i _ => oneMore ρ b i
  | ρ, .mp b, .mp i => oneMore ρ b i
  | ρ, .fn _ cs, .fn _ vs => SV.blksL ρ cs vs
  | ρ, _, _ => ρ
def SV.blksL : List Nat → List SV → List AV → List Nat
  | ρ, a :: r, v :: vs => SV.blksL (SV.blks ρ a v) r vs
  | ρ, _, _ => ρ
end

def blkS (T : Nat → AV) : List (Nat × SV) → List Nat → List Nat
  | [], ρ => ρ
  | p :: r, ρ => blkS T r (SV.blks ρ p.2 (T p.1))

def blkB (C : Nat → Blk) : List SB → Nat → List Nat → List Nat
  | [], _, ρ => ρ
  | .box _ cs :: r, j, ρ => match ρ[j]? with
    | some i => match C i with
      | .box _ vs => blkB C r (j + 1) (SV.blksL ρ cs vs)
      | _ => blkB C r (j + 1) ρ
    | none => blkB C r (j + 1) ρ
  | _ :: r, j, ρ => blkB C r (j + 1) ρ

def takeS (C : Nat → Blk) (T : Nat → AV) (ρ : List Nat) : (l : List (Nat × SV)) → Option (denS l × List (Nat × Blk))
  | [] => some ((), [])
  | p :: r => match p.2.take C ρ (T p.1) with
    | some (x, f) => match takeS C T ρ r with
      | some (y, g) => some ((x, y), f ++ g)
      | none => none
    | none => none

def SB.take (C : Nat → Blk) (ρ : List Nat) : (s : SB) → Blk → Option (s.den × List (Nat × Blk))
  | .row t e, .row t' e' xs true => match t'.eqv t with
    | some h => if Nat.beq e' e = true then some (Ty.castL h.down xs, []) else none
    | none => none
  | .box e cs, .box e' vs => if Nat.beq e' e = true then SV.takeL C ρ cs vs else none
  | .it, .it s p => some ((s, p), [])
  | .map kt va vt, .map kt' va' vt' l => match kt'.eqv kt, vt'.eqv vt with
    | some h, some k => if eqBB va' va = true then some (Ty.castM h.down k.down l, []) else none
    | _, _ => none
  | _, _ => none

def takeB (C : Nat → Blk) (ρ : List Nat) : (l : List SB) → List Nat → Option (denB l × List (Nat × Blk))
  | [], [] => some ((), [])
  | a :: r, i :: is => match a.take C ρ (C i) with
    | some (x, f) => match takeB C ρ r is with
      | some (y, g) => some ((x, y), f ++ g)
      | none => none
    | none => none
  | _, _ => none

def nodupN : List Nat → Bool
  | [] => true
  | k :: r => !(memN k r) && nodupN r

theorem nodupN_iff : ∀ {l : List Nat}, nodupN l = true → l.Nodup
  | [], _ => List.nodup_nil
  | k :: r, h => by
    simp only [nodupN, Bool.and_eq_true, Bool.not_eq_true'] at h
    exact List.nodup_cons.2 ⟨fun hm => (by rw [memN_iff.2 hm] at h; cases h.1), nodupN_iff h.2⟩

/-- A slice that is nil where a row of the call's own is wanted; the first elements of such a row, where no more of it is wanted. -/
def nlfix1 (bl : List SB) (p : Nat × SV) (s : St) : St := match p.2 with
  | .rf b => match getT s.tm p.1, bl[b]? with
    | .nl, some (.row ty e) => ⟨(p.1, .rf s.bl.length) :: s.tm, s.bl ++ [.row ty e [] true]⟩
    | .rs i sz off len, some (.row _ _) => (match getB s.bl i with
      | .row ty' e' xs true => if (Nat.beq off 0 && Nat.beq sz ty'.size && Nat.blt i s.bl.length) = true then ⟨(p.1, .rf s.bl.length) :: s.tm, setB s.bl i .dead ++ [.row ty' e' (xs.take len) true]⟩ else s
      | _ => s)
    | _, _ => s
  | _ => s

def nlfix (bl : List SB) : List (Nat × SV) → St → St
  | [], s => s
  | p :: r, s => nlfix bl r (nlfix1 bl p s)

def rsOf : AV → List Nat
  | .rs i _ _ _ => [i]
  | _ => []

/-- The rows that are cut so. -/
def nlsrc (bl : List SB) : List (Nat × SV) → St → List Nat
  | [], _ => []
  | p :: r, s => rsOf (getT s.tm p.1) ++ nlsrc bl r (nlfix1 bl p s)

def Shape.ids (sh : Shape) (s : St) : List Nat := blkB (getB s.bl) sh.bl 0 (blkS (getT s.tm) sh.sl [])

def Shape.take1 (sh : Shape) (s : St) (ρ : List Nat) : Option sh.den :=
  if nodupN ρ = true then match takeS (getB s.bl) (getT s.tm) ρ sh.sl with
    | some (x, f) => match takeB (getB s.bl) ρ sh.bl ρ with
      | some (y, g) => if meetN ρ (updIds (f ++ g)) = true then none else some (x, y)
      | none => none
    | none => none
  else none

/-- A box's cell that is nil where a row of the call's own is wanted. -/
def nlcell1 (bl : List SB) (i k : Nat) (sv : SV) (s : St) : St := match sv with
  | .rf b => match bl[b]? with
    | some (.row ty e) => (match getB s.bl i with
      | .box be vs => (match vs[k]? with
        | some .nl => if Nat.blt i s.bl.length = true then ⟨s.tm, setB s.bl i (.box be (vs.set k (.rf s.bl.length))) ++ [.row ty e [] true]⟩ else s
        | _ => s)
      | _ => s)
    | _ => s
  | _ => s

def nlcells (bl : List SB) (i : Nat) : Nat → List SV → St → St
  | _, [], s => s
  | k, sv :: r, s => nlcells bl i (k + 1) r (nlcell1 bl i k sv s)

def Shape.nlboxes (sh : Shape) : Nat → List SB → St → St
  | _, [], s => s
  | j, .box _ cs :: r, s => match (sh.ids s)[j]? with
    | some i => Shape.nlboxes sh (j + 1) r (nlcells sh.bl i 0 cs s)
    | none => Shape.nlboxes sh (j + 1) r s
  | j, .row _ _ :: r, s => Shape.nlboxes sh (j + 1) r s
  | j, .it :: r, s => Shape.nlboxes sh (j + 1) r s
  | j, .map _ _ _ :: r, s => Shape.nlboxes sh (j + 1) r s

def Shape.fixd (sh : Shape) (s : St) : St := sh.nlboxes 0 sh.bl (nlfix sh.bl sh.sl s)

/-- A state's data. -/
def Shape.take (sh : Shape) (s : St) : Option sh.den := sh.take1 (sh.fixd s) (sh.ids (sh.fixd s))

section
variable {X keep : Nat → Prop} {w0 w : World} {ι ι' : Nat → Option Value} {C C0 : Nat → Blk}

def Renames (ρ : List Nat) (ι ι' : Nat → Option Value) : Prop := ∀ b i, ρ[b]? = some i → ι' b = ι i

mutual
theorem SV.take_sound {ρ : List Nat} : ∀ (sv : SV) (C0 : Nat → Blk) (v : AV) (u : Value), HRel X keep w0 ι C0 w → FrozenOf C C0 → RelV w (okb X w ι C0) ι v u → ∀ (x : sv.den) (f : List (Nat × Blk)), sv.take C ρ v = some (x, f) →
    Frz X keep w0 ι C C0 w f ∧ ∀ (ok' : Nat → Prop) (ι' : Nat → Option Value), (∀ g, okb X w ι (updC C0 f) g → ok' g) → Renames ρ ι ι' → RelV w ok' ι' (sv.put x) u
  | .d agg t, C0, v, u, h, hf, hv, x, f, ht => by
    simp only [SV.take] at ht
    split at ht
    · rename_i hag
      obtain ⟨h1, h2⟩ := dat_sound h hf hv ht
      refine ⟨h1, fun ok' ι' ho hr => ?_⟩
      have hun : v ≠ .un := by rintro rfl; simp [dat] at ht
      have hud : v ≠ .ud := by rintro rfl; simp [dat] at ht
      exact avD_rel hv hun hud (eqB_iff hag) (Rz_mono (fun _ _ _ _ e => e) ho _ _ _ h2)
    · cases ht
  | .rf b, C0, v, u, h, hf, hv, x, f, ht => by
    cases v <;> simp only [SV.take] at ht <;> (try (cases ht; done))
    rename_i i
    split at ht
    · rename_i hi
      injection ht with ht
      injection ht with q1 q2
      subst q2
      refine ⟨Frz.nil h hf, fun ok' ι' ho hr => ?_⟩
      simp only [SV.put, RelV] at hv ⊢
      rw [hr b i (atN_iff hi)]
      exact hv
    · cases ht
  | .rs b sz, C0, v, u, h, hf, hv, x, f, ht => by
    cases v <;> simp only [SV.take] at ht <;> (try (cases ht; done))
    rename_i i sz' off len
    split at ht
    · rename_i hi
      simp only [Bool.and_eq_true] at hi
      have hsz := Nat.eq_of_beq_eq_true hi.2
      subst hsz
      injection ht with ht
      injection ht with q1 q2
      subst q1; subst q2
      refine ⟨Frz.nil h hf, fun ok' ι' ho hr => ?_⟩
      simp only [SV.put, RelV] at hv ⊢
      rw [hr b i (atN_iff hi.1)]
      exact hv
    · cases ht
  | .rz b sz, C0, v, u, h, hf, hv, x, f, ht => by
    cases v <;> simp only [SV.take] at ht <;> (try (cases ht; done))
    rename_i i sz' off len
    split at ht
    · rename_i hi
      simp only [Bool.and_eq_true] at hi
      have hsz := Nat.eq_of_beq_eq_true hi.1.2
      subst hsz
      have hof := Nat.eq_of_beq_eq_true hi.2
      subst hof
      injection ht with ht
      injection ht with q1 q2
      subst q1; subst q2
      refine ⟨Frz.nil h hf, fun ok' ι' ho hr => ?_⟩
      simp only [SV.put, RelV] at hv ⊢
      rw [hr b i (atN_iff hi.1.1)]
      exact hv
    · cases ht
  | .pt b o, C0, v, u, h, hf, hv, x, f, ht => by
    cases v <;> simp only [SV.take] at ht <;> (try (cases ht; done))
    rename_i i o'
    split at ht
    · rename_i hi
      simp only [Bool.and_eq_true] at hi
      have hsz := Nat.eq_of_beq_eq_true hi.2
      subst hsz
      injection ht with ht
      injection ht with q1 q2
      subst q2
      refine ⟨Frz.nil h hf, fun ok' ι' ho hr => ?_⟩
      simp only [SV.put, RelV] at hv ⊢
      rw [hr b i (atN_iff hi.1)]
      exact hv
    · cases ht
  | .ud, C0, v, u, h, hf, hv, x, f, ht => by
    cases v <;> simp only [SV.take] at ht <;> (try (cases ht; done))
    injection ht with ht
    injection ht with q1 q2
    subst q2
    refine ⟨Frz.nil h hf, fun ok' ι' ho hr => ?_⟩
    simp only [SV.put, RelV] at hv ⊢
    exact hv
  | .np, C0, v, u, h, hf, hv, x, f, ht => by
    cases v <;> simp only [SV.take] at ht <;> (try (cases ht; done))
    injection ht with ht
    injection ht with q1 q2
    subst q2
    refine ⟨Frz.nil h hf, fun ok' ι' ho hr => ?_⟩
    simp only [SV.put, RelV] at hv ⊢
    exact hv
  | .mnil, C0, v, u, h, hf, hv, x, f, ht => by
    cases v <;> simp only [SV.take] at ht <;> (try (cases ht; done))
    injection ht with ht
    injection ht with q1 q2
    subst q2
    refine ⟨Frz.nil h hf, fun ok' ι' ho hr => ?_⟩
    simp only [SV.put, RelV] at hv ⊢
    exact hv
  | .nl, C0, v, u, h, hf, hv, x, f, ht => by
    cases v <;> simp only [SV.take] at ht <;> (try (cases ht; done))
    injection ht with ht
    injection ht with q1 q2
    subst q2
    refine ⟨Frz.nil h hf, fun ok' ι' ho hr => ?_⟩
    simp only [SV.put, RelV] at hv ⊢
    exact hv
  | .mp b, C0, v, u, h, hf, hv, x, f, ht => by
    cases v <;> simp only [SV.take] at ht <;> (try (cases ht; done))
    rename_i i
    split at ht
    · rename_i hi
      injection ht with ht
      injection ht with q1 q2
      subst q2
      refine ⟨Frz.nil h hf, fun ok' ι' ho hr => ?_⟩
      simp only [SV.put, RelV] at hv ⊢
      rw [hr b i (atN_iff hi)]
      exact hv
    · cases ht
  | .fn g cs, C0, v, u, h, hf, hv, x, f, ht => by
    cases v <;> simp only [SV.take] at ht <;> (try (cases ht; done))
    rename_i g' vs
    split at ht
    · rename_i hg
      have hg := Nat.eq_of_beq_eq_true hg
      subst hg
      simp only [RelV] at hv
      obtain ⟨us, e, h1⟩ := hv
      obtain ⟨k1, k2⟩ := SV.takeL_sound cs C0 vs us h hf h1 x f ht
      refine ⟨k1, fun ok' ι' ho hr => ?_⟩
      simp only [SV.put, RelV]
      exact ⟨us, e, k2 ok' ι' ho hr⟩
    · cases ht
theorem SV.takeL_sound {ρ : List Nat} : ∀ (l : List SV) (C0 : Nat → Blk) (vs : List AV) (us : List Value), HRel X keep w0 ι C0 w → FrozenOf C C0 → RelL w (okb X w ι C0) ι vs us → ∀ (x : SV.denL l) (f : List (Nat × Blk)), SV.takeL C ρ l vs = some (x, f) →
    Frz X keep w0 ι C C0 w f ∧ ∀ (ok' : Nat → Prop) (ι' : Nat → Option Value), (∀ g, okb X w ι (updC C0 f) g → ok' g) → Renames ρ ι ι' → RelL w ok' ι' (SV.putL l x) us
  | [], C0, vs, us, h, hf, hv, x, f, ht => by
    cases vs <;> simp only [SV.takeL] at ht <;> (try (cases ht; done))
    injection ht with ht
    injection ht with q1 q2
    subst q2
    refine ⟨Frz.nil h hf, fun ok' ι' ho hr => ?_⟩
    simp only [SV.putL]
    rw [RelL_nil.1 hv]
    exact RelL_nil.2 rfl
  | a :: r, C0, vs, us, h, hf, hv, x, f, ht => by
    cases vs <;> simp only [SV.takeL] at ht <;> (try (cases ht; done))
    rename_i v vs
    obtain ⟨u, ur, e, h1, h2⟩ := RelL_cons.1 hv
    split at ht
    · rename_i x1 f1 e1
      split at ht
      · rename_i x2 f2 e2
        injection ht with ht
        injection ht with q1 q2
        subst q1; subst q2
        obtain ⟨k1, k2⟩ := SV.take_sound a C0 v u h hf h1 x1 f1 e1
        obtain ⟨l1, l2⟩ := SV.takeL_sound r (updC C0 f1) vs ur k1.1 k1.2.1 (k1.2.2.vals h2) x2 f2 e2
        refine ⟨k1.append l1, fun ok' ι' ho hr => ?_⟩
        rw [updC_append] at ho
        simp only [SV.putL]
        exact RelL_cons.2 ⟨u, ur, e, k2 ok' ι' (fun g hg => ho g (l1.2.2.ok g hg)) hr, l2 ok' ι' ho hr⟩
      · cases ht
    · cases ht
end

theorem takeS_sound {ρ : List Nat} {T : Nat → AV} {V : Nat → Value} : ∀ (l : List (Nat × SV)) (C0 : Nat → Blk), HRel X keep w0 ι C0 w → FrozenOf C C0 → (∀ t, RelV w (okb X w ι C0) ι (T t) (V t)) → ∀ (x : denS l) (f : List (Nat × Blk)), takeS C T ρ l = some (x, f) →
    Frz X keep w0 ι C C0 w f ∧ ∀ (ok' : Nat → Prop) (ι' : Nat → Option Value), (∀ g, okb X w ι (updC C0 f) g → ok' g) → Renames ρ ι ι' → ∀ t, RelV w ok' ι' (getT (putS l x) t) (V t)
  | [], C0, h, hf, hT, x, f, ht => by
    simp only [takeS] at ht
    injection ht with ht
    injection ht with q1 q2
    subst q2
    exact ⟨Frz.nil h hf, fun ok' ι' ho hr t => by simp only [putS, getT, RelV]⟩
  | p :: r, C0, h, hf, hT, x, f, ht => by
    simp only [takeS] at ht
    split at ht
    · rename_i x1 f1 e1
      split at ht
      · rename_i x2 f2 e2
        injection ht with ht
        injection ht with q1 q2
        subst q1; subst q2
        obtain ⟨k1, k2⟩ := SV.take_sound p.2 C0 (T p.1) (V p.1) h hf (hT _) x1 f1 e1
        obtain ⟨l1, l2⟩ := takeS_sound r (updC C0 f1) k1.1 k1.2.1 (fun t => k1.2.2.val (hT t)) x2 f2 e2
        refine ⟨k1.append l1, fun ok' ι' ho hr t => ?_⟩
        rw [updC_append] at ho
        simp only [putS, getT]
        split
        · rename_i hb
          rw [← Nat.eq_of_beq_eq_true hb]
          exact k2 ok' ι' (fun g hg => ho g (l1.2.2.ok g hg)) hr
        · exact l2 ok' ι' ho hr t
      · cases ht
    · cases ht

theorem SB.take_sound {ρ : List Nat} (sb : SB) (C0 : Nat → Blk) {i : Nat} (h : HRel X keep w0 ι C0 w) (hf : FrozenOf C C0) (x : sb.den) (f : List (Nat × Blk)) (ht : sb.take C ρ (C i) = some (x, f)) :
    Frz X keep w0 ι C C0 w f ∧ ∀ (C1 : Nat → Blk) (ok' : Nat → Prop) (ι' : Nat → Option Value) (j : Nat), C1 i = C i → RelB w (okb X w ι C1) ι i (C1 i) → (∀ g, okb X w ι (updC C0 f) g → ok' g) → (∀ g, okb X w ι C1 g → ok' g) → Renames ρ ι ι' → ι' j = ι i →
      RelB w ok' ι' j (sb.put x) ∧ ∀ C' : Nat → Blk, C' j = sb.put x → bk ι' C' j = bk ι C1 i := by
  have hC0 := hf i
  cases sb with
  | row t e =>
    cases hC : C i with
    | row t' e' xs rw =>
      rw [hC] at ht
      cases rw with
      | true =>
        simp only [SB.take] at ht
        split at ht
        · rename_i hty _
          have hty := hty.down
          subst hty
          split at ht
          · rename_i he
            have he := Nat.eq_of_beq_eq_true he
            subst he
            injection ht with ht
            injection ht with q1 q2
            subst q1; subst q2
            refine ⟨Frz.nil h hf, fun C1 ok' ι' j h1 h2 ho ho1 hr hi => ?_⟩
            rw [h1] at h2
            obtain ⟨v, cs, k1, k2, k3⟩ := h2
            refine ⟨⟨v, cs, by rw [hi]; exact k1, k2, RzL_mono (Rz_mono (fun _ _ _ _ e => e) ho1 _) k3⟩, fun C' hC' => ?_⟩
            unfold bk
            rw [hC', h1, hi]
            rfl
          · cases ht
        · cases ht
      | false => cases ht
    | box e cs => rw [hC] at ht; cases ht
    | it s p => rw [hC] at ht; cases ht
    | map _ _ _ _ => rw [hC] at ht; cases ht
    | dead => rw [hC] at ht; cases ht
  | box be cs =>
    cases hC : C i with
    | row t' e' xs rw => rw [hC] at ht; cases rw <;> cases ht
    | box be' vs =>
      rw [hC] at ht
      simp only [SB.take] at ht
      split at ht
      · rename_i hbe
        have hbe := Nat.eq_of_beq_eq_true hbe
        subst hbe
        have hbx : C0 i = .box be' vs := by
          rcases hC0 with e | ⟨t, e, xs, e1, _⟩
          · rw [e, hC]
          · rw [hC] at e1; cases e1
        have hb := h.bl i
        rw [hbx] at hb
        obtain ⟨g, us, k1, k2, k3⟩ := hb
        obtain ⟨l1, l2⟩ := SV.takeL_sound cs C0 vs us h hf k3 x f ht
        refine ⟨l1, fun C1 ok' ι' j h1 h2 ho ho1 hr hi => ⟨⟨g, us, by rw [hi]; exact k1, k2, l2 ok' ι' ho hr⟩, fun C' hC' => ?_⟩⟩
        unfold bk
        rw [hC', h1, hi, k1]
        rfl
      · cases ht
    | it s p => rw [hC] at ht; cases ht
    | map _ _ _ _ => rw [hC] at ht; cases ht
    | dead => rw [hC] at ht; cases ht
  | it =>
    cases hC : C i with
    | row t' e' xs rw => rw [hC] at ht; cases rw <;> cases ht
    | box _ vs => rw [hC] at ht; cases ht
    | it s p =>
      rw [hC] at ht
      simp only [SB.take] at ht
      injection ht with ht
      injection ht with q1 q2
      subst q1; subst q2
      refine ⟨Frz.nil h hf, fun C1 ok' ι' j h1 h2 ho ho1 hr hi => ?_⟩
      rw [h1] at h2
      obtain ⟨g, k1, k2⟩ := h2
      refine ⟨⟨g, by rw [hi]; exact k1, k2⟩, fun C' hC' => ?_⟩
      unfold bk
      rw [hC', h1, hi]
      rfl
    | map _ _ _ _ => rw [hC] at ht; cases ht
    | dead => rw [hC] at ht; cases ht
  | map kt va vt =>
    cases hC : C i with
    | row t' e' xs rw => rw [hC] at ht; cases rw <;> cases ht
    | box _ vs => rw [hC] at ht; cases ht
    | it s p => rw [hC] at ht; cases ht
    | map kt' va' vt' l =>
      rw [hC] at ht
      simp only [SB.take] at ht
      split at ht
      · rename_i h1 h2 _ _
        obtain ⟨h1⟩ := h1
        obtain ⟨h2⟩ := h2
        subst h1; subst h2
        split at ht
        · rename_i hva
          have hva := eqBB_iff hva
          subst hva
          injection ht with ht
          injection ht with q1 q2
          subst q1; subst q2
          refine ⟨Frz.nil h hf, fun C1 ok' ι' j h1 h2 ho ho1 hr hi => ?_⟩
          rw [h1] at h2
          obtain ⟨g, es, ck, l', k1, k2, k3, k4, k5, k6⟩ := h2
          refine ⟨⟨g, es, ck, l', by rw [hi]; exact k1, k2, k3, k4, k5, RzM_dat (fun _ _ _ _ e => e) ho1 k6⟩, fun C' hC' => ?_⟩
          unfold bk
          rw [hC', h1, hi]
          rfl
        · cases ht
      · cases ht
    | dead => rw [hC] at ht; cases ht

theorem takeB_sound {ρ : List Nat} : ∀ (l : List SB) (is : List Nat) (j0 : Nat) (C0 : Nat → Blk), HRel X keep w0 ι C0 w → FrozenOf C C0 → (∀ k i, is[k]? = some i → ρ[j0 + k]? = some i) → ∀ (x : denB l) (f : List (Nat × Blk)), takeB C ρ l is = some (x, f) →
    Frz X keep w0 ι C C0 w f ∧ l.length = is.length ∧ ∀ (C1 : Nat → Blk) (ok' : Nat → Prop) (ι' : Nat → Option Value), (∀ i ∈ is, C1 i = C i) → (∀ i, RelB w (okb X w ι C1) ι i (C1 i)) → (∀ g, okb X w ι (updC C0 f) g → ok' g) → (∀ g, okb X w ι C1 g → ok' g) → Renames ρ ι ι' →
      ∀ k i, is[k]? = some i → RelB w ok' ι' (j0 + k) (getB (putB l x) k) ∧ ∀ C' : Nat → Blk, C' (j0 + k) = getB (putB l x) k → bk ι' C' (j0 + k) = bk ι C1 i
  | [], is, j0, C0, h, hf, hi, x, f, ht => by
    cases is <;> simp only [takeB] at ht <;> (try (cases ht; done))
    injection ht with ht
    injection ht with q1 q2
    subst q2
    exact ⟨Frz.nil h hf, rfl, fun C1 ok' ι' _ _ _ _ _ k i hk => by simp at hk⟩
  | a :: r, is, j0, C0, h, hf, hi, x, f, ht => by
    cases is <;> simp only [takeB] at ht <;> (try (cases ht; done))
    rename_i i0 is
    split at ht
    · rename_i x1 f1 e1
      split at ht
      · rename_i x2 f2 e2
        injection ht with ht
        injection ht with q1 q2
        subst q1; subst q2
        obtain ⟨k1, k2⟩ := SB.take_sound a C0 h hf x1 f1 e1
        obtain ⟨l1, l2, l3⟩ := takeB_sound r is (j0 + 1) (updC C0 f1) k1.1 k1.2.1 (fun k i hk => by
          have := hi (k + 1) i (by simpa using hk)
          rwa [show j0 + 1 + k = j0 + (k + 1) by omega]) x2 f2 e2
        refine ⟨k1.append l1, by simp [l2], fun C1 ok' ι' hC1 hB ho ho1 hr k i hk => ?_⟩
        rw [updC_append] at ho
        cases k with
        | zero =>
          simp only [List.getElem?_cons_zero, Option.some.injEq] at hk
          subst hk
          exact k2 C1 ok' ι' j0 (hC1 _ (List.mem_cons_self ..)) (hB _) (fun g hg => ho g (l1.2.2.ok g hg)) ho1 hr (hr _ _ (hi 0 _ rfl))
        | succ k =>
          have := l3 C1 ok' ι' (fun i hi => hC1 i (List.mem_cons_of_mem _ hi)) hB ho ho1 hr k i (by simpa using hk)
          rw [show j0 + 1 + k = j0 + (k + 1) by omega] at this
          exact this
      · cases ht
    · cases ht

theorem putB_length : ∀ (l : List SB) (x : denB l), (putB l x).length = l.length
  | [], _ => rfl
  | _ :: r, x => by simp [putB, putB_length r x.2]

/-- A box's memory. -/
def Bx (ι : Nat → Option Value) (C : Nat → Blk) (b : Nat) : Prop := ∃ k e vs, C k = .box e vs ∧ bk ι C k = some b

theorem Bx_of {ι ι' : Nat → Option Value} {C C' : Nat → Blk} (h : ∀ k e vs, C k = .box e vs → (∃ e' vs', C' k = .box e' vs') ∧ ι' k = ι k) {b : Nat} : Bx ι C b → Bx ι' C' b := by
  rintro ⟨k, e, vs, h1, h2⟩
  obtain ⟨⟨e', vs', h3⟩, h4⟩ := h k e vs h1
  refine ⟨k, e', vs', h3, ?_⟩
  rw [← h2]
  unfold bk
  rw [h3, h1, h4]
  cases ι k with
  | none => rfl
  | some v =>
    cases v <;> (try rfl)
    rename_i p
    cases p <;> rfl

theorem Shape.take1_sound {n : Slots} {sh : Shape} {s : St} {a : Act} {ρ : List Nat} (h : SRel X keep w0 n ι s a w) {x : sh.den} (ht : sh.take1 s ρ = some x) (Y : Nat → Prop) (hY : ∀ b, Y b → Bx ι (getB s.bl) b ∧ b < w0.heap.size ∧ ∀ i ∈ ρ, bk ι (getB s.bl) i ≠ some b) :
    ∃ ι', SRel (fun b => X b ∨ Y b) keep w0 n ι' (sh.put x) a w ∧ ∀ b, owned ι' (getB (sh.put x).bl) b → ∃ i ∈ ρ, bk ι (getB s.bl) i = some b := by
  unfold Shape.take1 at ht
  split at ht
  · rename_i hnd
    have hnd := nodupN_iff hnd
    split at ht
    · rename_i x1 f1 e1
      split at ht
      · rename_i x2 f2 e2
        split at ht
        · cases ht
        · rename_i hmt
          have hmt : meetN ρ (updIds (f1 ++ f2)) = false := by simpa using hmt
          injection ht with ht
          subst ht
          obtain ⟨a1, a2⟩ := takeS_sound sh.sl _ h.f.h (FrozenOf.refl _) h.f.tm x1 f1 e1
          obtain ⟨b1, b2, b3⟩ := takeB_sound sh.bl ρ 0 _ a1.1 a1.2.1 (fun k i hk => by rw [Nat.zero_add]; exact hk) x2 f2 e2
          have hF := a1.append b1
          let C1 := updC (getB s.bl) (f1 ++ f2)
          have hC1 : C1 = updC (updC (getB s.bl) f1) f2 := updC_append _ _ _
          let ι' : Nat → Option Value := fun j => (ρ[j]?).bind ι
          have hι' : Renames ρ ι ι' := fun j i e => by show (ρ[j]?).bind ι = _; rw [e]; rfl
          let C' := getB (putB sh.bl x2)
          have hHR : HRel X keep w0 ι C1 w := hF.1
          have same : ∀ i ∈ ρ, C1 i = getB s.bl i := fun i hi => updC_other _ _ _ (meetN_false hmt i hi)
          -- who owns what
          have hbk : ∀ j b, bk ι' C' j = some b → ∃ i, ρ[j]? = some i ∧ bk ι C1 i = some b := by
            intro j b hb
            cases hi : ρ[j]? with
            | none =>
              have h1 : C' j = .dead := getB_out _ _ (by rw [putB_length, b2]; exact List.getElem?_eq_none_iff.1 hi)
              rw [bk_dead h1] at hb
              cases hb
            | some i =>
              refine ⟨i, rfl, ?_⟩
              rw [← hb]
              have := (b3 C1 (fun _ => True) ι' same hHR.bl (fun _ _ => trivial) (fun _ _ => trivial) hι' j i hi).2 C' (by rw [Nat.zero_add])
              rw [Nat.zero_add] at this
              exact this.symm
          have hown : ∀ b, owned ι' C' b → owned ι C1 b := by
            rintro b ⟨j, hj⟩
            obtain ⟨i, _, hi⟩ := hbk j b hj
            exact ⟨i, hi⟩
          have hYo : ∀ b, Y b → owned ι C1 b := by
            intro b hb
            obtain ⟨⟨k, _, vs, q1, q2⟩, _, _⟩ := hY b hb
            refine ⟨k, ?_⟩
            rw [← q2]
            refine bk_congr ?_ rfl
            rcases hF.2.1 k with q | ⟨t, e, xs, q, _⟩
            · exact q
            · rw [q1] at q; cases q
          have hok : ∀ b, okb X w ι C1 b → okb (fun b => X b ∨ Y b) w ι' C' b := fun b hb => ⟨hb.1, fun ho => hb.2.1 (hown b ho), fun hx => hx.elim hb.2.2 fun hy => hb.2.1 (hYo b hy)⟩
          have hfin : ∀ b, owned ι' (getB (sh.put (x1, x2)).bl) b → ∃ i ∈ ρ, bk ι (getB s.bl) i = some b := by
            rintro b ⟨j, hj⟩
            obtain ⟨i, hi, hb⟩ := hbk j b hj
            have hm : i ∈ ρ := List.mem_of_getElem? hi
            exact ⟨i, hm, by rw [← hb]; exact (bk_congr (same i hm) rfl).symm⟩
          refine ⟨ι', ⟨⟨⟨fun j => ?_, fun j j' b h1 h2 => ?_, hHR.fr, fun b hb => hHR.own b (hown b hb), hHR.kl, fun b hb hx => hx.elim (hHR.ox b (hown b hb)) fun hy => (by
            obtain ⟨j, hj⟩ := hb
            obtain ⟨i, hi, hb'⟩ := hbk j b hj
            have hm : i ∈ ρ := List.mem_of_getElem? hi
            exact (hY b hy).2.2 i hm (by rw [← hb']; exact (bk_congr (same i hm) rfl).symm)), fun b hb => hb.elim (hHR.xl b) fun hy => (hY b hy).2.1, hHR.gl.mono fun g hg => ⟨hok g hg, rfl⟩⟩, fun t => ?_, h.f.size, h.f.defers⟩, fun j hj => ?_⟩, hfin⟩
          · show RelB w (okb (fun b => X b ∨ Y b) w ι' C') ι' j (C' j)
            cases hi : ρ[j]? with
            | none =>
              have h1 : C' j = .dead := getB_out _ _ (by rw [putB_length, b2]; exact List.getElem?_eq_none_iff.1 hi)
              rw [h1]
              trivial
            | some i =>
              have := (b3 C1 (okb (fun b => X b ∨ Y b) w ι' C') ι' same hHR.bl (fun g hg => hok g (by rw [hC1]; exact hg)) hok hι' j i hi).1
              rw [Nat.zero_add] at this
              exact this
          · obtain ⟨i, hi, hb⟩ := hbk j b h1
            obtain ⟨i', hi', hb'⟩ := hbk j' b h2
            have e := hHR.inj i i' b hb hb'
            subst e
            have hlt := (List.getElem?_eq_some_iff.1 hi).1
            exact (List.getElem?_inj hlt hnd).1 (hi.trans hi'.symm)
          · exact a2 (okb (fun b => X b ∨ Y b) w ι' C') ι' (fun g hg => hok g (by rw [hC1]; exact b1.2.2.ok g hg)) hι' t
          · have hl : (sh.put (x1, x2)).bl.length = ρ.length := by rw [← b2]; exact putB_length _ _
            show (ρ[j]?).bind ι = none
            rw [List.getElem?_eq_none (by omega)]
            rfl
      · cases ht
    · cases ht
  · cases ht
end
end Go.Proofs.Rf
/- Rf, part t: loops over data. -/
namespace Go.Proofs.Rf
open Go Go.RowKit

section
variable {X keep : Nat → Prop} {w0 w : World} {ι : Nat → Option Value} {C : Nat → Blk}

theorem box_lt {bl : List Blk} {k : Nat} {e : Nat} {vs : List AV} (h : getB bl k = .box e vs) : k < bl.length := by
  rcases Nat.lt_or_ge k bl.length with q | q
  · exact q
  · rw [getB_out _ _ q] at h; cases h

theorem SRel.nil_row {n : Slots} {s : St} {a : Act} (h : SRel X keep w0 n ι s a w) {t : Nat} (ht : getT s.tm t = .nl) (ty : Ty) (e : Nat) :
    ∃ ι', SRel X keep w0 n ι' ⟨(t, .rf s.bl.length) :: s.tm, s.bl ++ [.row ty e [] true]⟩ a w ∧ (∀ k b, bk ι' (getB (s.bl ++ [.row ty e [] true])) k = some b → bk ι (getB s.bl) k = some b) ∧ ∀ b, Bx ι (getB s.bl) b → Bx ι' (getB (s.bl ++ [.row ty e [] true])) b := by
  have hnone : ι s.bl.length = none := h.dom _ (Nat.le_refl _)
  have hbk : bk (setI ι s.bl.length (.slice none 0 0)) (setC (getB s.bl) s.bl.length (.row ty e [] true)) s.bl.length = none := by
    unfold bk
    rw [setC_self, setI_self]
    rfl
  obtain ⟨h1, h2⟩ := h.f.h.step (C' := setC (getB s.bl) s.bl.length (.row ty e [] true)) (ι' := setI ι s.bl.length (.slice none 0 0)) (w' := w) (fun k => k = s.bl.length) rfl rfl rfl (Nat.le_refl _)
    (fun k hk => setC_ne hk) (fun k v hk => by
      have hne : k ≠ s.bl.length := by rintro rfl; rw [hnone] at hk; cases hk
      rw [setI_ne hne]; exact hk) (fun k hk => setI_ne hk)
    (by rintro k b rfl hb; rw [hbk] at hb; cases hb) (fun k k' b e1 e2 _ _ => e1.trans e2.symm) (fun _ _ _ => rfl)
    (by
      rintro _ k rfl
      rw [setC_self]
      exact ⟨.slice none 0 0, [], setI_self .., ⟨by simp, .inl ⟨rfl, rfl⟩⟩, rfl⟩)
  refine ⟨setI ι s.bl.length (.slice none 0 0), ⟨?_, fun k hk => ?_⟩, fun k b hb => ?_, fun b hb => Bx_of (fun k be' vs hk => ?_) hb⟩
  · show FRel X keep w0 n _ (getT ((t, .rf s.bl.length) :: s.tm)) (getB (s.bl ++ [.row ty e [] true])) a w
    rw [getB_append1]
    refine ⟨h1, fun u => ?_, h.f.size, h.f.defers⟩
    have hu := h.f.tm u
    simp only [getT]
    split
    · rename_i hb
      have hb := Nat.eq_of_beq_eq_true hb
      subst hb
      rw [ht] at hu
      simp only [RelV] at hu ⊢
      rw [hu]
      exact ⟨setI_self .., _, _, _, rfl⟩
    · exact h2.val hu
  · simp only [List.length_append, List.length_singleton] at hk
    rw [setI_ne (by omega)]
    exact h.dom k (by omega)
  · rw [getB_append1] at hb
    by_cases e : k = s.bl.length
    · subst e
      rw [hbk] at hb
      cases hb
    · rw [← hb]
      exact (bk_congr (setC_ne e) (setI_ne e)).symm
  · have := box_lt hk
    rw [getB_append1]
    exact ⟨⟨_, vs, (setC_ne (by omega)).trans hk⟩, setI_ne (by omega)⟩

theorem getB_setB_append (bl : List Blk) (i : Nat) (b : Blk) (hi : i < bl.length) : getB (setB bl i .dead ++ [b]) = setC (setC (getB bl) i .dead) bl.length b := by
  rw [getB_append1, setB_length, getB_setB bl i .dead hi]

theorem SRel.rs_row {n : Slots} {s : St} {a : Act} (h : SRel X keep w0 n ι s a w) {t i sz len : Nat} (ht : getT s.tm t = .rs i sz 0 len) {ty : Ty} {e : Nat} {xs : List ty.den} (hC : getB s.bl i = .row ty e xs true) (hi : i < s.bl.length) :
    ∃ ι', SRel X keep w0 n ι' ⟨(t, .rf s.bl.length) :: s.tm, setB s.bl i .dead ++ [.row ty e (xs.take len) true]⟩ a w ∧ (∀ k b, bk ι' (getB (setB s.bl i .dead ++ [.row ty e (xs.take len) true])) k = some b → bk ι (getB s.bl) k = some b ∨ bk ι (getB s.bl) i = some b) ∧ ∀ b, Bx ι (getB s.bl) b → Bx ι' (getB (setB s.bl i .dead ++ [.row ty e (xs.take len) true])) b := by
  have hnone : ι s.bl.length = none := h.dom _ (Nat.le_refl _)
  have hv := h.f.tm t
  rw [ht] at hv
  simp only [RelV] at hv
  obtain ⟨A, nn, c, A', c', v1, v2, v3, v4, v5, v6⟩ := hv
  obtain ⟨rfl, rfl⟩ := v6 trivial
  have hB := h.f.h.bl i
  rw [hC] at hB
  obtain ⟨v, cs, b1, b2, b3⟩ := hB
  rw [v1] at b1
  injection b1 with b1
  subst b1
  obtain ⟨u, hu⟩ : ∃ u, u = Value.slice A' len c' := ⟨_, rfl⟩
  have hne : i ≠ s.bl.length := by omega
  let C' := setC (setC (getB s.bl) i .dead) s.bl.length (.row ty e (xs.take len) true)
  let ι' := setI ι s.bl.length u
  have hlen : nn = xs.length := by
    rcases b2.2 with ⟨q, q'⟩ | ⟨g, cap, cur, q, _⟩
    · injection q with _ q1 _
      omega
    · injection q
  have hxl : (xs.take len).length = len := by rw [List.length_take]; omega
  have hbk : ∀ b, bk ι' C' s.bl.length = some b → bk ι (getB s.bl) i = some b := by
    intro b hb
    unfold bk at hb ⊢
    rw [show C' s.bl.length = .row ty e (xs.take len) true from setC_self .., show ι' s.bl.length = some u from setI_self .., hu] at hb
    rw [hC, v1]
    cases A' with
    | none => exact hb
    | some A => exact hb
  have hdead : bk ι' C' i = none := bk_dead (by show setC (setC (getB s.bl) i .dead) s.bl.length _ i = .dead; rw [setC_ne hne, setC_self])
  obtain ⟨h1, h2⟩ := h.f.h.step (C' := C') (ι' := ι') (w' := w) (fun k => k = i ∨ k = s.bl.length) rfl rfl rfl (Nat.le_refl _)
    (fun k hk => by
      have k1 : k ≠ i := fun q => hk (.inl q)
      have k2 : k ≠ s.bl.length := fun q => hk (.inr q)
      show setC (setC (getB s.bl) i .dead) s.bl.length _ k = _
      rw [setC_ne k2, setC_ne k1])
    (fun k v hk => by
      have hne : k ≠ s.bl.length := by rintro rfl; rw [hnone] at hk; cases hk
      show setI ι s.bl.length u k = _
      rw [setI_ne hne]; exact hk) (fun k hk => setI_ne (fun q => hk (.inr q)))
    (by
      rintro k b (rfl | rfl) hb
      · rw [hdead] at hb; cases hb
      · exact .inr ⟨i, .inl rfl, hbk b hb⟩)
    (by
      rintro k k' b (rfl | rfl) (rfl | rfl) e1 e2
      · rfl
      · rw [hdead] at e1; cases e1
      · rw [hdead] at e2; cases e2
      · rfl) (fun _ _ _ => rfl)
    (by
      rintro hext k (rfl | rfl)
      · show RelB w _ ι' k (C' k)
        rw [show C' k = .dead from (show setC (setC (getB s.bl) k .dead) s.bl.length _ k = .dead by rw [setC_ne hne, setC_self])]
        trivial
      · show RelB w _ ι' _ (C' _)
        rw [show C' s.bl.length = .row ty e (xs.take len) true from setC_self ..]
        refine ⟨u, cs.take (len * ty.size), setI_self .., ⟨?_, ?_⟩, ?_⟩
        · rw [List.length_take, b2.1, hxl]
          exact Nat.min_eq_left (Nat.mul_le_mul_right _ (by omega))
        · rw [hxl, hu]
          rcases b2.2 with ⟨q, q'⟩ | ⟨g, cap, cur, q, q1, q2, q3, q4, q5, q6⟩
          · left
            injection q with p1 p2 p3
            exact ⟨by rw [p1, p3, show len = 0 by omega], by omega⟩
          · right
            injection q with p1 p2 p3
            refine ⟨g, cap, cur, by rw [p1, p3], q1, q2, by omega, q4, q5, ?_⟩
            rw [← q6, List.take_take, Nat.min_eq_left (Nat.mul_le_mul_right _ (by omega))]
        · exact RzL_take (fun x us hx => Rz_length _ _ _ hx) len (RzL_mono (Rz_mono (fun _ _ _ _ e => e) hext.ok _) b3))
  refine ⟨ι', ⟨?_, fun k hk => ?_⟩, fun k b hb => ?_, fun b hb => Bx_of (fun k be' vs hk => ?_) hb⟩
  · show FRel X keep w0 n _ (getT ((t, .rf s.bl.length) :: s.tm)) (getB (setB s.bl i .dead ++ [.row ty e (xs.take len) true])) a w
    rw [getB_setB_append _ _ _ hi]
    refine ⟨h1, fun x => ?_, h.f.size, h.f.defers⟩
    have hx := h.f.tm x
    simp only [getT]
    split
    · rename_i hb
      have hb := Nat.eq_of_beq_eq_true hb
      subst hb
      simp only [RelV]
      rw [v3]
      exact ⟨(setI_self ..).trans (congrArg some hu), _, _, _, rfl⟩
    · exact h2.val hx
  · simp only [List.length_append, List.length_singleton, setB_length] at hk
    show setI ι s.bl.length u k = none
    rw [setI_ne (by omega)]
    exact h.dom k (by omega)
  · rw [getB_setB_append _ _ _ hi] at hb
    by_cases e1 : k = s.bl.length
    · subst e1
      exact .inr (hbk b hb)
    · by_cases e2 : k = i
      · subst e2
        rw [hdead] at hb
        cases hb
      · left
        rw [← hb]
        exact (bk_congr (by show setC (setC (getB s.bl) i .dead) s.bl.length _ k = _; rw [setC_ne e1, setC_ne e2]) (setI_ne e1)).symm
  · have hl := box_lt hk
    have hki : k ≠ i := by rintro rfl; rw [hC] at hk; cases hk
    rw [getB_setB_append _ _ _ hi]
    refine ⟨⟨be', vs, ?_⟩, setI_ne (by omega)⟩
    rw [setC_ne (show k ≠ s.bl.length by omega), setC_ne hki, hk]

theorem nlfix1_sound {n : Slots} {bl : List SB} (p : Nat × SV) {s : St} {a : Act} (h : SRel X keep w0 n ι s a w) : ∃ ι', SRel X keep w0 n ι' (nlfix1 bl p s) a w ∧ (∀ k b, bk ι' (getB (nlfix1 bl p s).bl) k = some b → bk ι (getB s.bl) k = some b ∨ ∃ k' ∈ rsOf (getT s.tm p.1), bk ι (getB s.bl) k' = some b) ∧ ∀ b, Bx ι (getB s.bl) b → Bx ι' (getB (nlfix1 bl p s).bl) b := by
  obtain ⟨t, sv⟩ := p
  have stay : ∃ ι', SRel X keep w0 n ι' s a w ∧ (∀ k b, bk ι' (getB s.bl) k = some b → bk ι (getB s.bl) k = some b ∨ ∃ k' ∈ rsOf (getT s.tm t), bk ι (getB s.bl) k' = some b) ∧ ∀ b, Bx ι (getB s.bl) b → Bx ι' (getB s.bl) b := ⟨ι, h, fun _ _ e => .inl e, fun _ e => e⟩
  cases sv with
  | rf b =>
    simp only [nlfix1]
    split
    · rename_i ty e ht _
      obtain ⟨ι', h', h2, h3⟩ := h.nil_row ht ty e
      exact ⟨ι', h', fun k b hb => .inl (h2 k b hb), h3⟩
    · rename_i i sz off len _ _ ht _
      split
      · rename_i ty' e' xs hC
        split
        · rename_i hc
          simp only [Bool.and_eq_true] at hc
          have hof := Nat.eq_of_beq_eq_true hc.1.1
          subst hof
          obtain ⟨ι', h', h2, h3⟩ := h.rs_row ht hC (Nat.le_of_ble_eq_true hc.2)
          refine ⟨ι', h', fun k b hb => ?_, h3⟩
          rcases h2 k b hb with q | q
          · exact .inl q
          · exact .inr ⟨i, by rw [ht]; exact List.mem_singleton.2 rfl, q⟩
        · exact stay
      · exact stay
    · exact stay
  | _ => exact stay

theorem nlfix_sound {n : Slots} {bl : List SB} : ∀ (sl : List (Nat × SV)) {s : St} {a : Act} {ι : Nat → Option Value}, SRel X keep w0 n ι s a w → ∃ ι', SRel X keep w0 n ι' (nlfix bl sl s) a w ∧ (∀ k b, bk ι' (getB (nlfix bl sl s).bl) k = some b → bk ι (getB s.bl) k = some b ∨ ∃ k' ∈ nlsrc bl sl s, bk ι (getB s.bl) k' = some b) ∧ ∀ b, Bx ι (getB s.bl) b → Bx ι' (getB (nlfix bl sl s).bl) b
  | [], _, _, ι, h => ⟨ι, h, fun _ _ e => .inl e, fun _ e => e⟩
  | p :: r, s, a, ι, h => by
    obtain ⟨ι1, h1, e1, x1⟩ := nlfix1_sound (bl := bl) p h
    obtain ⟨ι2, h2, e2, x2⟩ := nlfix_sound (bl := bl) r h1
    refine ⟨ι2, h2, fun k b hb => ?_, fun b hb => x2 b (x1 b hb)⟩
    rcases e2 k b hb with q | ⟨k', q1, q2⟩
    · rcases e1 k b q with q | ⟨k', q1, q2⟩
      · exact .inl q
      · exact .inr ⟨k', List.mem_append_left _ q1, q2⟩
    · rcases e1 k' b q2 with q | ⟨k2, q3, q4⟩
      · exact .inr ⟨k', List.mem_append_right _ q1, q⟩
      · exact .inr ⟨k2, List.mem_append_left _ q3, q4⟩

theorem RelL_set {w : World} {ok : Nat → Prop} {ι : Nat → Option Value} {x : AV} : ∀ {vs : List AV} {us : List Value} (k : Nat) (u : Value), RelL w ok ι vs us → us[k]? = some u → RelV w ok ι x u → RelL w ok ι (vs.set k x) us
  | [], us, k, u, h, hu, hx => by
    have := RelL_nil.1 h
    subst this
    simp at hu
  | v :: vs, us, 0, u, h, hu, hx => by
    obtain ⟨u', ur, e, h1, h2⟩ := RelL_cons.1 h
    subst e
    simp only [List.getElem?_cons_zero, Option.some.injEq] at hu
    subst hu
    exact RelL_cons.2 ⟨_, _, rfl, hx, h2⟩
  | v :: vs, us, k + 1, u, h, hu, hx => by
    obtain ⟨u', ur, e, h1, h2⟩ := RelL_cons.1 h
    subst e
    exact RelL_cons.2 ⟨_, _, rfl, h1, RelL_set k u h2 (by simpa using hu) hx⟩

theorem nlcell1_sound {n : Slots} {bl : List SB} {i k : Nat} (sv : SV) {s : St} {a : Act} (h : SRel X keep w0 n ι s a w) : ∃ ι', SRel X keep w0 n ι' (nlcell1 bl i k sv s) a w ∧ (∀ j b, bk ι' (getB (nlcell1 bl i k sv s).bl) j = some b → bk ι (getB s.bl) j = some b) ∧ ∀ b, Bx ι (getB s.bl) b → Bx ι' (getB (nlcell1 bl i k sv s).bl) b := by
  have stay : ∃ ι', SRel X keep w0 n ι' s a w ∧ (∀ j b, bk ι' (getB s.bl) j = some b → bk ι (getB s.bl) j = some b) ∧ ∀ b, Bx ι (getB s.bl) b → Bx ι' (getB s.bl) b := ⟨ι, h, fun _ _ e => e, fun _ e => e⟩
  unfold nlcell1
  split
  · split
    · rename_i ty e _
      split
      · rename_i be vs hC
        split
        · rename_i hk
          split
          · rename_i hi
            have hi : i < s.bl.length := Nat.le_of_ble_eq_true hi
            have hne : i ≠ s.bl.length := by omega
            have hnone : ι s.bl.length = none := h.dom _ (Nat.le_refl _)
            have hB := h.f.h.bl i
            rw [hC] at hB
            obtain ⟨g, us, b1, b2, b3⟩ := hB
            obtain ⟨u, hu, hr⟩ := RelL_get k .nl b3 hk
            simp only [RelV] at hr
            subst hr
            let x : Blk := .box be (vs.set k (.rf s.bl.length))
            let C' := setC (setC (getB s.bl) i x) s.bl.length (.row ty e [] true)
            let ι' := setI ι s.bl.length (.slice none 0 0)
            have e1 : C' s.bl.length = .row ty e [] true := setC_self ..
            have e2 : C' i = x := (setC_ne hne).trans (setC_self ..)
            have e3 : ι' s.bl.length = some (.slice none 0 0) := setI_self ..
            have e4 : ι' i = ι i := setI_ne hne
            have k1 : bk ι' C' s.bl.length = none := by unfold bk; rw [e1, e3]; rfl
            have k2 : bk ι' C' i = bk ι (getB s.bl) i := by unfold bk; rw [e2, e4, hC, b1]
            obtain ⟨h1, h2⟩ := h.f.h.step (C' := C') (ι' := ι') (w' := w) (fun k => k = i ∨ k = s.bl.length) rfl rfl rfl (Nat.le_refl _)
              (fun k hk => by
                have q1 : k ≠ i := fun q => hk (.inl q)
                have q2 : k ≠ s.bl.length := fun q => hk (.inr q)
                show setC (setC (getB s.bl) i x) s.bl.length _ k = _
                rw [setC_ne q2, setC_ne q1])
              (fun k v hk => by
                have hne : k ≠ s.bl.length := by rintro rfl; rw [hnone] at hk; cases hk
                show setI ι s.bl.length _ k = _
                rw [setI_ne hne]; exact hk) (fun k hk => setI_ne (fun q => hk (.inr q)))
              (by
                rintro k b (rfl | rfl) hb
                · exact .inr ⟨k, .inl rfl, by rw [← k2]; exact hb⟩
                · rw [k1] at hb; cases hb)
              (by
                rintro k k' b (rfl | rfl) (rfl | rfl) q1 q2
                · rfl
                · rw [k1] at q2; cases q2
                · rw [k1] at q1; cases q1
                · rfl) (fun _ _ _ => rfl)
              (by
                rintro hext k (rfl | rfl)
                · show RelB w _ ι' k (C' k)
                  rw [e2]
                  refine ⟨g, us, e4.trans b1, b2, RelL_set _ _ (hext.vals b3) hu ?_⟩
                  simp only [RelV]
                  exact ⟨e3, _, _, _, rfl⟩
                · show RelB w _ ι' _ (C' _)
                  rw [e1]
                  exact ⟨.slice none 0 0, [], e3, ⟨by simp, .inl ⟨rfl, rfl⟩⟩, rfl⟩)
            have hg : getB (setB s.bl i x ++ [.row ty e [] true]) = C' := by rw [getB_append1, setB_length, getB_setB s.bl i x hi]
            refine ⟨ι', ⟨?_, fun j hj => ?_⟩, fun j b hb => ?_, fun b hb => Bx_of (fun j be' ws hj => ?_) hb⟩
            · show FRel X keep w0 n ι' (getT s.tm) (getB (setB s.bl i x ++ [.row ty e [] true])) a w
              rw [hg]
              exact ⟨h1, fun t => h2.val (h.f.tm t), h.f.size, h.f.defers⟩
            · simp only [List.length_append, List.length_singleton, setB_length] at hj
              show setI ι s.bl.length _ j = none
              rw [setI_ne (by omega)]
              exact h.dom j (by omega)
            · have hb : bk ι' (getB (setB s.bl i x ++ [.row ty e [] true])) j = some b := hb
              rw [hg] at hb
              by_cases q1 : j = s.bl.length
              · subst q1; rw [k1] at hb; cases hb
              · by_cases q2 : j = i
                · subst q2; rw [← k2]; exact hb
                · rw [← hb]
                  exact (bk_congr (by show setC (setC (getB s.bl) i x) s.bl.length _ j = _; rw [setC_ne q1, setC_ne q2]) (setI_ne q1)).symm
            · have hl := box_lt hj
              show (∃ e' vs', getB (setB s.bl i x ++ [.row ty e [] true]) j = .box e' vs') ∧ ι' j = ι j
              rw [hg]
              by_cases q2 : j = i
              · subst q2; exact ⟨⟨_, _, e2⟩, e4⟩
              · refine ⟨⟨be', ws, ?_⟩, setI_ne (by omega)⟩
                show setC (setC (getB s.bl) i x) s.bl.length _ j = _
                rw [setC_ne (show j ≠ s.bl.length by omega), setC_ne q2, hj]
          · exact stay
        · exact stay
      · exact stay
    · exact stay
  · exact stay

theorem nlcells_sound {n : Slots} {bl : List SB} {i : Nat} : ∀ (l : List SV) (k : Nat) {s : St} {a : Act} {ι : Nat → Option Value}, SRel X keep w0 n ι s a w → ∃ ι', SRel X keep w0 n ι' (nlcells bl i k l s) a w ∧ (∀ j b, bk ι' (getB (nlcells bl i k l s).bl) j = some b → bk ι (getB s.bl) j = some b) ∧ ∀ b, Bx ι (getB s.bl) b → Bx ι' (getB (nlcells bl i k l s).bl) b
  | [], _, _, _, ι, h => ⟨ι, h, fun _ _ e => e, fun _ e => e⟩
  | sv :: r, k, s, a, ι, h => by
    obtain ⟨ι1, h1, e1, x1⟩ := nlcell1_sound (bl := bl) (i := i) (k := k) sv h
    obtain ⟨ι2, h2, e2, x2⟩ := nlcells_sound (bl := bl) (i := i) r (k + 1) h1
    exact ⟨ι2, h2, fun j b hb => e1 j b (e2 j b hb), fun b hb => x2 b (x1 b hb)⟩

theorem nlboxes_sound {n : Slots} {sh : Shape} : ∀ (l : List SB) (j : Nat) {s : St} {a : Act} {ι : Nat → Option Value}, SRel X keep w0 n ι s a w → ∃ ι', SRel X keep w0 n ι' (sh.nlboxes j l s) a w ∧ (∀ k b, bk ι' (getB (sh.nlboxes j l s).bl) k = some b → bk ι (getB s.bl) k = some b) ∧ ∀ b, Bx ι (getB s.bl) b → Bx ι' (getB (sh.nlboxes j l s).bl) b
  | [], _, _, _, ι, h => ⟨ι, h, fun _ _ e => e, fun _ e => e⟩
  | .row _ _ :: r, j, s, a, ι, h => nlboxes_sound r (j + 1) h
  | .it :: r, j, s, a, ι, h => nlboxes_sound r (j + 1) h
  | .map _ _ _ :: r, j, s, a, ι, h => nlboxes_sound r (j + 1) h
  | .box _ cs :: r, j, s, a, ι, h => by
    simp only [Shape.nlboxes]
    split
    · rename_i i _
      obtain ⟨ι1, h1, e1, x1⟩ := nlcells_sound (bl := sh.bl) (i := i) cs 0 h
      obtain ⟨ι2, h2, e2, x2⟩ := nlboxes_sound (sh := sh) r (j + 1) h1
      exact ⟨ι2, h2, fun k b hb => e1 k b (e2 k b hb), fun b hb => x2 b (x1 b hb)⟩
    · exact nlboxes_sound r (j + 1) h

theorem Shape.fixd_sound {n : Slots} {sh : Shape} {s : St} {a : Act} (h : SRel X keep w0 n ι s a w) : ∃ ι', SRel X keep w0 n ι' (sh.fixd s) a w ∧ (∀ k b, bk ι' (getB (sh.fixd s).bl) k = some b → bk ι (getB s.bl) k = some b ∨ ∃ k' ∈ nlsrc sh.bl sh.sl s, bk ι (getB s.bl) k' = some b) ∧ ∀ b, Bx ι (getB s.bl) b → Bx ι' (getB (sh.fixd s).bl) b := by
  obtain ⟨ι1, h1, e1, x1⟩ := nlfix_sound (bl := sh.bl) sh.sl h
  obtain ⟨ι2, h2, e2, x2⟩ := nlboxes_sound (sh := sh) sh.bl 0 h1
  exact ⟨ι2, h2, fun k b hb => e1 k b (e2 k b hb), fun b hb => x2 b (x1 b hb)⟩

/-- Some boxes are let alone from here on: nothing that is taken leads to them. -/
theorem Shape.take_own {n : Slots} {sh : Shape} {s : St} {a : Act} (h : SRel X keep w0 n ι s a w) {x : sh.den} (ht : sh.take s = some x) (Y : Nat → Prop) (hY : ∀ b, Y b → Bx ι (getB s.bl) b ∧ b < w0.heap.size ∧ ∀ i ∈ sh.ids (sh.fixd s) ++ nlsrc sh.bl sh.sl s, bk ι (getB s.bl) i ≠ some b) :
    ∃ ι', SRel (fun b => X b ∨ Y b) keep w0 n ι' (sh.put x) a w ∧ ∀ b, owned ι' (getB (sh.put x).bl) b → ∃ i ∈ sh.ids (sh.fixd s) ++ nlsrc sh.bl sh.sl s, bk ι (getB s.bl) i = some b := by
  unfold Shape.take at ht
  obtain ⟨ι', h', h2, h3⟩ := Shape.fixd_sound (sh := sh) h
  obtain ⟨ι2, h4, h5⟩ := Shape.take1_sound h' ht Y (fun b hb => by
    obtain ⟨q1, q2, q3⟩ := hY b hb
    refine ⟨h3 b q1, q2, fun i hi hbi => ?_⟩
    rcases h2 i b hbi with q | ⟨k, q4, q5⟩
    · exact q3 i (List.mem_append_left _ hi) q
    · exact q3 k (List.mem_append_right _ q4) q5)
  refine ⟨ι2, h4, fun b hb => ?_⟩
  obtain ⟨i, hi, hb⟩ := h5 b hb
  rcases h2 i b hb with q | ⟨k, q1, q2⟩
  · exact ⟨i, List.mem_append_left _ hi, q⟩
  · exact ⟨k, List.mem_append_right _ q1, q2⟩

theorem SRel.noY {n : Slots} {s : St} {a : Act} (h : SRel (fun b => X b ∨ False) keep w0 n ι s a w) : SRel X keep w0 n ι s a w := by
  have e : (fun b => X b ∨ False) = X := funext fun b => propext (iff_of_eq (or_false _))
  rw [e] at h
  exact h

theorem Shape.take_sound {n : Slots} {sh : Shape} {s : St} {a : Act} (h : SRel X keep w0 n ι s a w) {x : sh.den} (ht : sh.take s = some x) : ∃ ι', SRel X keep w0 n ι' (sh.put x) a w := by
  obtain ⟨ι', h', _⟩ := Shape.take_own h ht (fun _ => False) (fun _ q => q.elim)
  exact ⟨ι', h'.noY⟩
end

/-! ### A loop by its data -/
/-- A way out of a loop: the block that is left (none: the function returns), the state's shape. -/
abbrev Way := Option Nat × Shape

def exIs : Option Nat → Ex → Bool
  | none, .rt => true
  | some i, .ex j => Nat.beq i j
  | _, _ => false

def exOf : Option Nat → Ex
  | none => .rt
  | some i => .ex i

theorem exIs_eq : ∀ {i : Option Nat} {e : Ex}, exIs i e = true → e = exOf i
  | none, .rt, _ => rfl
  | some i, .ex j, h => by rw [Nat.eq_of_beq_eq_true h]; rfl
  | none, .nm, h => by cases h
  | none, .ex _, h => by cases h
  | some _, .nm, h => by cases h
  | some _, .rt, h => by cases h

@[reducible] def denX : List Way → Type
  | [] => Empty
  | [p] => p.2.den
  | p :: q :: r => p.2.den ⊕ denX (q :: r)

def toX {R : Type} : (l : List Way) → Ex → St → (denX l → Option R) → Option R
  | [], _, _, _ => none
  | [p], e, s, K => if exIs p.1 e = true then (match p.2.take s with
      | some x => K x
      | none => none) else none
  | p :: q :: r, e, s, K => if exIs p.1 e = true then (match p.2.take s with
      | some x => K (.inl x)
      | none => toX (q :: r) e s fun y => K (.inr y)) else toX (q :: r) e s fun y => K (.inr y)

def onX {R : Type} : (l : List Way) → denX l → (Ex → St → Option R) → Option R
  | [], _, _ => none
  | [p], x, K => K (exOf p.1) (p.2.put x)
  | p :: q :: r, x, K => Sum.elim (fun y => K (exOf p.1) (p.2.put y)) (fun z => onX (q :: r) z K) x

theorem toX_sound {R : Type} {X keep : Nat → Prop} {w0 w : World} {ι : Nat → Option Value} {n : Slots} {s : St} {a : Act} (h : SRel X keep w0 n ι s a w) {e : Ex} {r : R} : ∀ (l : List Way) (K : denX l → Option R), toX l e s K = some r →
    ∃ y, K y = some r ∧ ∀ {R' : Type} (K' : Ex → St → Option R') (r' : R'), onX l y K' = some r' → ∃ s' ι', SRel X keep w0 n ι' s' a w ∧ K' e s' = some r'
  | [], _, h => by cases h
  | [p], K, ht => by
    simp only [toX] at ht
    split at ht
    · rename_i he
      split at ht
      · rename_i x hx
        obtain ⟨ι', h'⟩ := Shape.take_sound h hx
        refine ⟨x, ht, fun K' r' hk => ⟨_, ι', h', ?_⟩⟩
        rw [exIs_eq he]
        exact hk
      · cases ht
    · cases ht
  | p :: q :: t, K, ht => by
    have hrest : (toX (q :: t) e s fun y => K (.inr y)) = some r → ∃ y, K y = some r ∧ ∀ {R' : Type} (K' : Ex → St → Option R') (r' : R'), onX (p :: q :: t) y K' = some r' → ∃ s' ι', SRel X keep w0 n ι' s' a w ∧ K' e s' = some r' := by
      intro ht
      obtain ⟨y, h1, h2⟩ := toX_sound h (q :: t) (fun y => K (.inr y)) ht
      exact ⟨.inr y, h1, fun K' r' hk => h2 K' r' hk⟩
    simp only [toX] at ht
    split at ht
    · rename_i he
      split at ht
      · rename_i x hx
        obtain ⟨ι', h'⟩ := Shape.take_sound h hx
        refine ⟨.inl x, ht, fun K' r' hk => ⟨_, ι', h', ?_⟩⟩
        rw [exIs_eq he]
        exact hk
      · exact hrest ht
    · exact hrest ht

section
variable (TT : Tab) (Δ : Nat → Option CallO) (n : Nat → Bool) (Λ : Nat → Option LoopO)

/-- One round of a loop, over its data. -/
noncomputable def stepL (head : Shape) (ways : List Way) (c : Code) (x : head.den) : Option (head.den ⊕ denX ways) :=
  evC TT Δ n Λ c (head.put x) fun e s => match e with
    | .nm => (match head.take s with
      | some y => some (.inl y)
      | none => none)
    | .ex j => toX ways (.ex j) s fun y => some (.inr y)
    | .rt => toX ways .rt s fun y => some (.inr y)
end

def iterL {A B : Type} (f : A → Option (A ⊕ B)) : Nat → A → Option B
  | 0, _ => none
  | k + 1, x => match f x with
    | some (.inl y) => iterL f k y
    | some (.inr z) => some z
    | none => none

theorem iterL_mono {A B : Type} {f : A → Option (A ⊕ B)} : ∀ (k m : Nat) (x : A) (y : B), k ≤ m → iterL f k x = some y → iterL f m x = some y
  | 0, _, _, _, _, h => by cases h
  | k + 1, 0, _, _, hm, _ => by omega
  | k + 1, m + 1, x, y, hm, h => by
    simp only [iterL] at h ⊢
    split at h
    · rename_i z hz
      exact iterL_mono k m z y (by omega) h
    · exact h
    · cases h

open Classical in
/-- As many rounds as it takes. -/
noncomputable def limL {A B : Type} (f : A → Option (A ⊕ B)) (x : A) : Option B := if h : ∃ y k, iterL f k x = some y then some h.choose else none

theorem limL_some {A B : Type} {f : A → Option (A ⊕ B)} {x : A} {y : B} (k : Nat) (h : iterL f k x = some y) : limL f x = some y := by
  unfold limL
  have hex : ∃ y k, iterL f k x = some y := ⟨y, k, h⟩
  rw [dif_pos hex]
  obtain ⟨m, hm⟩ := hex.choose_spec
  have h1 := iterL_mono k (max k m) x y (Nat.le_max_left ..) h
  have h2 := iterL_mono m (max k m) x _ (Nat.le_max_right ..) hm
  rw [h1] at h2
  exact h2.symm

theorem limL_inv {A B : Type} {f : A → Option (A ⊕ B)} {x : A} {y : B} (h : limL f x = some y) : ∃ k, iterL f k x = some y := by
  unfold limL at h
  split at h
  · rename_i hex
    injection h with h
    rw [← h]
    exact hex.choose_spec
  · cases h

/-- The round's equation, for the limit. -/
theorem limL_eq {A B : Type} (f : A → Option (A ⊕ B)) (x : A) : limL f x = match f x with
    | some (.inl y) => limL f y
    | some (.inr z) => some z
    | none => none := by
  cases hf : f x with
  | none =>
    show limL f x = none
    cases h : limL f x with
    | none => rfl
    | some y =>
      obtain ⟨k, hk⟩ := limL_inv h
      cases k with
      | zero => cases hk
      | succ k => simp [iterL, hf] at hk
  | some z =>
    cases z with
    | inr z => exact limL_some 1 (by simp [iterL, hf])
    | inl y =>
      show limL f x = limL f y
      cases h : limL f y with
      | some z =>
        obtain ⟨k, hk⟩ := limL_inv h
        exact limL_some (k + 1) (by simp [iterL, hf, hk])
      | none =>
        cases h' : limL f x with
        | none => rfl
        | some z =>
          obtain ⟨k, hk⟩ := limL_inv h'
          cases k with
          | zero => cases hk
          | succ k =>
            simp only [iterL, hf] at hk
            rw [limL_some k hk] at h
            cases h

/-- The loop, over its data. -/
def lp (head : Shape) (ways : List Way) (g : head.den → Option (denX ways)) : LoopO := fun s _ K =>
  match head.take s with
  | some x => (g x).bind fun y => onX ways y K
  | none => none

section
variable {P : Program} {TT : Tab} {Δ : Nat → Option CallO} {n : Slots}

theorem lp_ok (hm : P.follows .mixedOrders = true) (hP : TabOK P TT) (hΔ : CallsOK P Δ) {ρ : Option Nat} {Λ : Nat → Option LoopO} {head : Shape} {ways : List Way} {c : Code} (hL : LoopsIn P n ρ Λ c) {g : head.den → Option (denX ways)}
    (hg : ∀ x y, g x = some y → ∃ k, iterL (stepL TT Δ n.ok Λ head ways c) k x = some y) : LoopOK P n ρ (lp head ways g) c := by
  intro dp X keep w0 w ι s a R K r Q h hev hQ
  unfold lp at hev
  split at hev
  · rename_i x hx
    obtain ⟨y, hy, hk⟩ := bind_some' hev
    obtain ⟨k, hit⟩ := hg x y hy
    obtain ⟨ι', h'⟩ := Shape.take_sound h hx
    refine wp_loop_ix (fun k a w => ∃ x ι k1 v1, Later keep w0 k1 v1 ∧ SRel X k1 v1 n ι (head.put x) a w ∧ iterL (stepL TT Δ n.ok Λ head ways c) k x = some y) ?_ ?_ (k := k) ⟨x, ι', keep, w0, Later.refl _ _, h', hit⟩
    · rintro a w ⟨x, ι, _, _, _, _, h⟩
      cases h
    · rintro k a w ⟨x, ι, k1, v1, hl, h, hit⟩
      simp only [iterL] at hit
      have hwp : ∀ (v : head.den ⊕ denX ways), stepL TT Δ n.ok Λ head ways c x = some v → (∀ x', v = .inl x' → iterL (stepL TT Δ n.ok Λ head ways c) k x' = some y) → (∀ z, v = .inr z → z = y) →
          c.wpIn (WF ρ) dp P (Exit.then (fun a' w' => ∃ x ι k1 v1, Later keep w0 k1 v1 ∧ SRel X k1 v1 n ι (head.put x) a' w' ∧ iterL (stepL TT Δ n.ok Λ head ways c) k x = some y) Q) a w := by
        intro v hv h1 h2
        refine evC_sound hm hP hΔ c hL _ _ _ a w ι k1 v1 h hv fun e s' a' w' ι'' k2 v2 hl2 hk' h'' => ?_
        have hout : ∀ e : Ex, (toX ways e s' fun y => some (Sum.inr y : head.den ⊕ denX ways)) = some v → Q e.out a' w' := by
          intro e hk'
          obtain ⟨z, hz1, hz2⟩ := toX_sound h'' ways _ hk'
          injection hz1 with hz1
          have hz := h2 z hz1.symm
          subst hz
          obtain ⟨s2, ι2, q1, q2⟩ := hz2 K r hk
          exact hQ e s2 a' w' ι2 k2 v2 (hl.trans hl2) q2 q1
        cases e with
        | nm =>
          simp only at hk'
          split at hk'
          · rename_i x' hx'
            injection hk' with hk'
            obtain ⟨ι3, h3⟩ := Shape.take_sound h'' hx'
            exact ⟨x', ι3, k2, v2, hl.trans hl2, h3, h1 x' hk'.symm⟩
          · cases hk'
        | ex j => exact hout (.ex j) hk'
        | rt => exact hout .rt hk'
      cases hst : stepL TT Δ n.ok Λ head ways c x with
      | none => rw [hst] at hit; cases hit
      | some v =>
        rw [hst] at hit
        cases v with
        | inl x' => exact hwp _ hst (fun x'' e => by injection e with e; subst e; exact hit) (fun z e => by cases e)
        | inr z => exact hwp _ hst (fun x'' e => by cases e) (fun z' e => by injection e with e; subst e; injection hit)
  · cases hev
end
end Go.Proofs.Rf
/- Rf, part u: functions over data: a call's contract. -/
namespace Go.Proofs.Rf
open Go Go.RowKit

def numT (i : Nat) : List AV → List (Nat × AV)
  | [] => []
  | v :: r => (i, v) :: numT (i + 1) r

mutual
/-- A result's value, where blocks nb.. are the call's new ones. -/
def SV.ret (nb : Nat) : (s : SV) → s.den → AV
  | .d agg t, x => avD agg t x
  | .rs b sz, p => .rs (nb + b) sz p.1 p.2
  | .rz b sz, p => .rs (nb + b) sz 0 p
  | .fn f cs, x => .fn f (SV.retL nb cs x)
  | .rf b, _ => .rf (nb + b)
  | .pt b o, _ => .pt (nb + b) o
  | .ud, _ => .ud
  | .mp b, _ => .mp (nb + b)
  | .np, _ => .np
  | .mnil, _ => .mnil
  | .nl, _ => .nl
def SV.retL (nb : Nat) : (l : List SV) → SV.denL l → List AV
  | [], _ => []
  | a :: r, x => a.ret nb x.1 :: SV.retL nb r x.2
end

def retS (nb : Nat) : (l : List (Nat × SV)) → denS l → List AV
  | [], _ => []
  | p :: r, x => p.2.ret nb x.1 :: retS nb r x.2

def retV : List AV → AV
  | [v] => v
  | vs => .tp vs

def SB.ret (nb : Nat) : (s : SB) → s.den → Blk
  | .row t e, xs => .row t e xs true
  | .box e cs, x => .box e (SV.retL nb cs x)
  | .it, _ => .dead
  | .map kt va vt, l => .map kt va vt l

def retB (nb : Nat) : (l : List SB) → denB l → List Blk
  | [], _ => []
  | a :: r, x => a.ret nb x.1 :: retB nb r x.2

/-- Data that lead nowhere. -/
def Ty.flat : Ty → Bool
  | .sl _ => false
  | .tr _ _ => false
  | .pr a b => a.flat && b.flat
  | _ => true

mutual
def SV.flat : SV → Bool
  | .d _ t => t.flat
  | .fn _ cs => SV.flatL cs
  | _ => true
def SV.flatL : List SV → Bool
  | [] => true
  | a :: r => a.flat && SV.flatL r
end

def SB.flat : SB → Bool
  | .row t _ => t.flat
  | .box _ cs => SV.flatL cs
  | .it => true
  | .map kt _ vt => kt.flat && vt.flat

def flatS : List (Nat × SV) → Bool
  | [] => true
  | p :: r => p.2.flat && flatS r

def flatB : List SB → Bool
  | [] => true
  | a :: r => a.flat && flatB r

def Shape.flat (sh : Shape) : Bool := flatS sh.sl && flatB sh.bl

/-- A call, over data. -/
def mkCall (ps : List SV) (rsh : Shape) (F : SV.denL ps → Option rsh.den) : CallO := fun args C nb _ K =>
  match SV.takeL C [] ps args with
  | some (x, f) => (F x).bind fun y => K ⟨retV (retS nb rsh.sl y.1), if rsh.flat = true then [] else f, retB nb rsh.bl y.2⟩
  | none => none

section
variable (TT : Tab)
def retOf (s : St) : ResultVar → Option AV
  | .tmp t => some (getT s.tm t)
  | .cell a tt => match getT s.tm a with
    | .pt b o => match getB s.bl b with
      | .box _ cs => loadC TT tt (cs.drop o)
      | _ => none
    | _ => none

def retsOf (s : St) : List ResultVar → Option (List AV)
  | [] => some []
  | r :: rs => match retOf TT s r with
    | some v => match retsOf s rs with
      | some vs => some (v :: vs)
      | none => none
    | none => none

/-- A function's body, over data. -/
noncomputable def runF (Δ : Nat → Option CallO) (n : Nat → Bool) (Λ : Nat → Option LoopO) (c : Code) (rvs : List ResultVar) (ps : List SV) (rsh : Shape) (x : SV.denL ps) : Option rsh.den :=
  evC TT Δ n Λ c ⟨numT 0 (SV.putL ps x), []⟩ fun e s => match e with
    | .ex _ => none
    | .nm => (match retsOf TT s rvs with
      | some vs => rsh.take ⟨numT 0 vs, s.bl⟩
      | none => none)
    | .rt => (match retsOf TT s rvs with
      | some vs => rsh.take ⟨numT 0 vs, s.bl⟩
      | none => none)
end

section
variable {X keep : Nat → Prop} {w0 w : World} {ι : Nat → Option Value} {C : Nat → Blk} {P : Program} {TT : Tab} {Δ : Nat → Option CallO} {n : Slots}

theorem getT_numT {ok : Nat → Prop} : ∀ (vs : List AV) (us : List Value) (i t : Nat), RelL w ok ι vs us → RelV w ok ι (getT (numT i vs) (i + t)) (us.getD t undef) ∧ ∀ j, j < i → getT (numT i vs) j = .un
  | [], us, i, t, h => ⟨by simp only [numT, getT, RelV], fun _ _ => rfl⟩
  | v :: r, us, i, t, h => by
    obtain ⟨u, ur, e, h1, h2⟩ := RelL_cons.1 h
    subst e
    constructor
    · simp only [numT, getT]
      cases t with
      | zero =>
        rw [if_pos (by rw [Nat.add_zero]; exact Nat.beq_refl i)]
        exact h1
      | succ t =>
        rw [if_neg (fun q => by have := Nat.eq_of_beq_eq_true q; omega)]
        have := (getT_numT r ur (i + 1) t h2).1
        rw [show i + 1 + t = i + (t + 1) by omega] at this
        simpa using this
    · intro j hj
      simp only [numT, getT]
      rw [if_neg (fun q => by have := Nat.eq_of_beq_eq_true q; omega)]
      exact (getT_numT r ur (i + 1) t h2).2 j (by omega)

theorem retOf_sound (hP : TabOK P TT) {s : St} {a : Act} (h : SRel X keep w0 n ι s a w) {rv : ResultVar} {v : AV} (hr : retOf TT s rv = some v) :
    ∃ u, ((match rv with
      | .tmp t => pure (a.tmps.getD t undef)
      | .cell b t => do loadVar t (← asAddr (a.tmps.getD b undef))) : Sem Value).run P w = .ok u w ∧ RelV w (okb X w ι (getB s.bl)) ι v u := by
  cases rv with
  | tmp t =>
    simp only [retOf] at hr
    injection hr with hr
    subst hr
    exact ⟨a.tmps.getD t undef, rfl, h.f.tm t⟩
  | cell b tt =>
    simp only [retOf] at hr
    split at hr
    · rename_i k o hk
      split at hr
      · rename_i cs hcs
        have h1 := h.f.tm b
        rw [hk] at h1
        simp only [RelV] at h1
        obtain ⟨g, g1, g2⟩ := h1
        have hb := h.f.h.bl k
        rw [hcs] at hb
        obtain ⟨g', us, k1, k2, k3⟩ := hb
        rw [g1] at k1
        injection k1 with k1
        injection k1 with k1
        injection k1 with k1
        injection k1 with k1 _
        subst k1
        obtain ⟨u, r1, r2⟩ := load_sound (w := w) (P := P) hP (g := g) (o := o) (us := us.drop o) (fun j u hu => by
          rw [List.getElem?_drop] at hu
          simp only [World.cell?, k2]
          simpa using hu) (RelL_drop k3 o) hr
        refine ⟨u, ?_, r2⟩
        show ((do loadVar tt (← asAddr (a.tmps.getD b undef))) : Sem Value).run P w = _
        rw [g2]
        simp [asAddr, r1]
      · cases hr
    · cases hr

theorem retsOf_sound (hP : TabOK P TT) {s : St} {a : Act} (h : SRel X keep w0 n ι s a w) : ∀ {rvs : List ResultVar} {vs : List AV}, retsOf TT s rvs = some vs →
    ∃ us, (rvs.mapM (fun rv => ((match rv with
      | .tmp t => pure (a.tmps.getD t undef)
      | .cell b t => do loadVar t (← asAddr (a.tmps.getD b undef))) : Sem Value)) : Sem (List Value)).run P w = .ok us w ∧ RelL w (okb X w ι (getB s.bl)) ι vs us
  | [], vs, hr => by
    simp only [retsOf] at hr
    injection hr with hr
    subst hr
    exact ⟨[], rfl, RelL_nil.2 rfl⟩
  | rv :: rvs, vs, hr => by
    simp only [retsOf] at hr
    split at hr
    · rename_i v hv
      split at hr
      · rename_i vr hvr
        injection hr with hr
        subst hr
        obtain ⟨u, r1, r2⟩ := retOf_sound hP h hv
        obtain ⟨ur, s1, s2⟩ := retsOf_sound hP h hvr
        refine ⟨u :: ur, ?_, RelL_cons.2 ⟨u, ur, rfl, r2, s2⟩⟩
        rw [List.mapM_cons]
        simp only [Sem.run_bind, r1, s1, Result.andThen_ok]
        rfl
      · cases hr
    · cases hr

theorem results_sound (hP : TabOK P TT) {s : St} {a : Act} (h : SRel X keep w0 n ι s a w) {fn : Func} {vs : List AV} (hr : retsOf TT s fn.results.toList = some vs) :
    ∃ us v, (results fn a.tmps).run P w = .ok v w ∧ RelL w (okb X w ι (getB s.bl)) ι vs us ∧ v = (if h : us.toArray.size = 1 then us.toArray[0] else .tuple us.toArray) := by
  obtain ⟨us, h1, h2⟩ := retsOf_sound hP h hr
  refine ⟨us, _, ?_, h2, rfl⟩
  unfold results
  rw [← Array.toArray_toList (xs := fn.results)]
  rw [List.mapM_toArray]
  simp only [Sem.run_bind, Sem.run_map]
  generalize hq : Sem.run P (List.mapM _ fn.results.toList) w = q
  have hq' : q = .ok us w := hq.symm.trans h1
  subst hq'
  rfl

theorem Rz_flat {w w' : World} {ok ok' : Nat → Prop} : ∀ (t : Ty) (x : t.den) (us : List Value), t.flat = true → Rz w ok t x us → Rz w' ok' t x us
  | .int _, _, _, _, h => h
  | .bool, _, _, _, h => h
  | .str, _, _, _, h => h
  | .sl _, _, _, hf, _ => by cases hf
  | .pr a b, _, _, hf, ⟨us, vr, e, h1, h2⟩ => by
    simp only [Ty.flat, Bool.and_eq_true] at hf
    exact ⟨us, vr, e, Rz_flat a _ _ hf.1 h1, Rz_flat b _ _ hf.2 h2⟩
  | .un, _, _, _, h => h
  | .fk _, _, _, _, h => h
  | .ic, _, _, _, h => h
  | .fv, _, _, _, h => h
  | .tr _ _, _, _, hf, _ => by cases hf

theorem RelL_flat {w w' : World} {ok ok' : Nat → Prop} {ι ι' : Nat → Option Value} : ∀ (t : Ty) (x : t.den) (us : List Value), t.flat = true → RelL w ok ι (unpack t x) us → RelL w' ok' ι' (unpack t x) us
  | .int k, x, us, _, h => by
    obtain ⟨v, vr, e, h1, h2⟩ := RelL_cons.1 h
    exact RelL_cons.2 ⟨v, vr, e, (by simp only [RelV] at h1 ⊢; exact h1), RelL_nil.2 (RelL_nil.1 h2)⟩
  | .bool, x, us, _, h => by
    obtain ⟨v, vr, e, h1, h2⟩ := RelL_cons.1 h
    exact RelL_cons.2 ⟨v, vr, e, (by simp only [RelV] at h1 ⊢; exact h1), RelL_nil.2 (RelL_nil.1 h2)⟩
  | .str, x, us, _, h => by
    obtain ⟨v, vr, e, h1, h2⟩ := RelL_cons.1 h
    exact RelL_cons.2 ⟨v, vr, e, (by simp only [RelV] at h1 ⊢; exact h1), RelL_nil.2 (RelL_nil.1 h2)⟩
  | .ic, x, us, _, h => by
    obtain ⟨v, vr, e, h1, h2⟩ := RelL_cons.1 h
    exact RelL_cons.2 ⟨v, vr, e, (by simp only [RelV] at h1 ⊢; exact h1), RelL_nil.2 (RelL_nil.1 h2)⟩
  | .fv, x, us, _, h => by
    obtain ⟨v, vr, e, h1, h2⟩ := RelL_cons.1 h
    exact RelL_cons.2 ⟨v, vr, e, (by simp only [RelV] at h1 ⊢; exact h1), RelL_nil.2 (RelL_nil.1 h2)⟩
  | .sl t, x, us, hf, h => by cases hf
  | .pr a b, x, us, hf, h => by
    simp only [Ty.flat, Bool.and_eq_true] at hf
    obtain ⟨u1, u2, e, h1, h2⟩ := RelL_split h
    rw [e]
    exact RelL_append (RelL_flat a _ _ hf.1 h1) (RelL_flat b _ _ hf.2 h2)
  | .un, x, us, _, h => RelL_nil.2 (RelL_nil.1 h)
  | .fk f, x, us, _, h => by
    obtain ⟨v, vr, e, h1, h2⟩ := RelL_cons.1 h
    refine RelL_cons.2 ⟨v, vr, e, ?_, RelL_nil.2 (RelL_nil.1 h2)⟩
    simp only [RelV] at h1 ⊢
    obtain ⟨us, e, h3⟩ := h1
    exact ⟨us, e, RelL_nil.2 (RelL_nil.1 h3)⟩
  | .tr _ _, _, _, hf, _ => by cases hf

theorem avD_flat {w w' : World} {ok ok' : Nat → Prop} {ι ι' : Nat → Option Value} {agg : Bool} {t : Ty} {x : t.den} {u : Value} (hf : t.flat = true) (h : RelV w ok ι (avD agg t x) u) : RelV w' ok' ι' (avD agg t x) u := by
  unfold avD at h ⊢
  split at h
  · rename_i ha
    simp only [ha, if_true]
    simp only [RelV] at h ⊢
    obtain ⟨us, e, h1⟩ := h
    exact ⟨us, e, RelL_flat t x us hf h1⟩
  · rename_i ha
    rw [if_neg ha]
    split at h
    · rename_i v hv
      have h1 : RelL w ok ι (unpack t x) [u] := by rw [hv]; exact RelL_cons.2 ⟨u, [], rfl, h, RelL_nil.2 rfl⟩
      have h2 := RelL_flat (w' := w') (ok' := ok') (ι' := ι') t x _ hf h1
      rw [hv] at h2
      obtain ⟨v', vr, e, h3, _⟩ := RelL_cons.1 h2
      injection e with e _
      subst e
      exact h3
    · simp only [RelV]

theorem RzM_flat {w w' : World} {ok ok' : Nat → Prop} {ι ι' : Nat → Option Value} {kt : Ty} {va : Bool} {vt : Ty} (hk : kt.flat = true) (hv : vt.flat = true) : ∀ {l : List (kt.den × vt.den)} {es : List MapEntry}, RzM w ok ι kt va vt l es → RzM w' ok' ι' kt va vt l es
  | [], _, h => h
  | _ :: _, _, ⟨e, er, q1, q2, q3, q4⟩ => ⟨e, er, q1, avD_flat hk q2, avD_flat hv q3, RzM_flat hk hv q4⟩

theorem RelL_mv {w : World} {ok ok' : Nat → Prop} {ι ι' : Nat → Option Value} (hok : ∀ b, ok b → ok' b) : ∀ (t : Ty) (x : t.den) (us : List Value), RelL w ok ι (unpack t x) us → RelL w ok' ι' (unpack t x) us
  | .int k, x, us, h => by
    obtain ⟨v, vr, e, h1, h2⟩ := RelL_cons.1 h
    exact RelL_cons.2 ⟨v, vr, e, (by simp only [RelV] at h1 ⊢; exact h1), RelL_nil.2 (RelL_nil.1 h2)⟩
  | .bool, x, us, h => by
    obtain ⟨v, vr, e, h1, h2⟩ := RelL_cons.1 h
    exact RelL_cons.2 ⟨v, vr, e, (by simp only [RelV] at h1 ⊢; exact h1), RelL_nil.2 (RelL_nil.1 h2)⟩
  | .str, x, us, h => by
    obtain ⟨v, vr, e, h1, h2⟩ := RelL_cons.1 h
    exact RelL_cons.2 ⟨v, vr, e, (by simp only [RelV] at h1 ⊢; exact h1), RelL_nil.2 (RelL_nil.1 h2)⟩
  | .ic, x, us, h => by
    obtain ⟨v, vr, e, h1, h2⟩ := RelL_cons.1 h
    exact RelL_cons.2 ⟨v, vr, e, (by simp only [RelV] at h1 ⊢; exact h1), RelL_nil.2 (RelL_nil.1 h2)⟩
  | .fv, x, us, h => by
    obtain ⟨v, vr, e, h1, h2⟩ := RelL_cons.1 h
    exact RelL_cons.2 ⟨v, vr, e, (by simp only [RelV] at h1 ⊢; exact h1), RelL_nil.2 (RelL_nil.1 h2)⟩
  | .sl t, x, us, h => by
    obtain ⟨v, vr, e, h1, h2⟩ := RelL_cons.1 h
    refine RelL_cons.2 ⟨v, vr, e, ?_, RelL_nil.2 (RelL_nil.1 h2)⟩
    simp only [RelV] at h1 ⊢
    exact Rz_mono (fun _ _ _ _ e => e) hok _ _ _ h1
  | .pr a b, x, us, h => by
    obtain ⟨u1, u2, e, h1, h2⟩ := RelL_split h
    rw [e]
    exact RelL_append (RelL_mv hok a _ _ h1) (RelL_mv hok b _ _ h2)
  | .un, x, us, h => RelL_nil.2 (RelL_nil.1 h)
  | .fk f, x, us, h => by
    obtain ⟨v, vr, e, h1, h2⟩ := RelL_cons.1 h
    refine RelL_cons.2 ⟨v, vr, e, ?_, RelL_nil.2 (RelL_nil.1 h2)⟩
    simp only [RelV] at h1 ⊢
    obtain ⟨us, e, h3⟩ := h1
    exact ⟨us, e, RelL_nil.2 (RelL_nil.1 h3)⟩
  | .tr a b, x, us, h => by
    obtain ⟨v, vr, e, h1, h2⟩ := RelL_cons.1 h
    refine RelL_cons.2 ⟨v, vr, e, ?_, RelL_nil.2 (RelL_nil.1 h2)⟩
    simp only [RelV] at h1 ⊢
    exact Rz_mono (fun _ _ _ _ e => e) hok _ _ _ h1

section
variable {w' : World} {ok ok' : Nat → Prop} {ι2 ι'' : Nat → Option Value} {nb : Nat} {fl : Bool}

theorem avD_mv (hok : fl = false → ∀ b, ok b → ok' b) {agg : Bool} {ty : Ty} {x : ty.den} {u : Value} (hf : fl = true → ty.flat = true) (h0 : RelV w' ok ι2 (avD agg ty x) u) : RelV w' ok' ι'' (avD agg ty x) u := by
  cases fl with
  | true => exact avD_flat (hf rfl) h0
  | false =>
    unfold avD at h0 ⊢
    split at h0
    · rename_i ha
      simp only [ha, if_true]
      simp only [RelV] at h0 ⊢
      obtain ⟨us, e, h1⟩ := h0
      exact ⟨us, e, RelL_mv (hok rfl) ty x us h1⟩
    · rename_i ha
      rw [if_neg ha]
      split at h0
      · rename_i v hv
        have h1 : RelL w' ok ι2 (unpack ty x) [u] := by rw [hv]; exact RelL_cons.2 ⟨u, [], rfl, h0, RelL_nil.2 rfl⟩
        have h2 := RelL_mv (ι' := ι'') (hok rfl) ty x _ h1
        rw [hv] at h2
        obtain ⟨v', vr, e, h3, _⟩ := RelL_cons.1 h2
        injection e with e _
        subst e
        exact h3
      · simp only [RelV]

mutual
theorem SV.ret_rel (hok : fl = false → ∀ b, ok b → ok' b) (hι : ∀ b v, ι2 b = some v → ι'' (nb + b) = some v) : ∀ (sv : SV) (x : sv.den) (u : Value), (fl = true → sv.flat = true) → RelV w' ok ι2 (sv.put x) u → RelV w' ok' ι'' (sv.ret nb x) u
  | .d agg t, x, u, hf, h => avD_mv hok hf h
  | .rs b sz, p, u, _, h => by
    simp only [SV.put, SV.ret, RelV] at h ⊢
    obtain ⟨A, n, c, A', c', h1, h2⟩ := h
    exact ⟨A, n, c, A', c', hι _ _ h1, h2⟩
  | .rz b sz, p, u, _, h => by
    simp only [SV.put, SV.ret, RelV] at h ⊢
    obtain ⟨A, n, c, A', c', h1, h2⟩ := h
    exact ⟨A, n, c, A', c', hι _ _ h1, h2⟩
  | .fn f cs, x, u, hf, h => by
    simp only [SV.put, SV.ret, RelV] at h ⊢
    obtain ⟨us, e, h1⟩ := h
    exact ⟨us, e, SV.retL_rel hok hι cs x us hf h1⟩
  | .rf b, x, u, _, h => by
    simp only [SV.put, SV.ret, RelV] at h ⊢
    exact ⟨hι _ _ h.1, h.2⟩
  | .pt b o, x, u, _, h => by
    simp only [SV.put, SV.ret, RelV] at h ⊢
    obtain ⟨g, h1, h2⟩ := h
    exact ⟨g, hι _ _ h1, h2⟩
  | .ud, x, u, _, h => by
    simp only [SV.put, SV.ret, RelV] at h ⊢
    exact h
  | .mp b, x, u, _, h => by
    simp only [SV.put, SV.ret, RelV] at h ⊢
    obtain ⟨g, h1, h2⟩ := h
    exact ⟨g, hι _ _ h1, h2⟩
  | .np, x, u, _, h => by
    simp only [SV.put, SV.ret, RelV] at h ⊢
    exact h
  | .mnil, x, u, _, h => by
    simp only [SV.put, SV.ret, RelV] at h ⊢
    exact h
  | .nl, x, u, _, h => by
    simp only [SV.put, SV.ret, RelV] at h ⊢
    exact h
theorem SV.retL_rel (hok : fl = false → ∀ b, ok b → ok' b) (hι : ∀ b v, ι2 b = some v → ι'' (nb + b) = some v) : ∀ (l : List SV) (x : SV.denL l) (us : List Value), (fl = true → SV.flatL l = true) → RelL w' ok ι2 (SV.putL l x) us → RelL w' ok' ι'' (SV.retL nb l x) us
  | [], x, us, _, h => by simpa only [SV.putL, SV.retL, RelL] using h
  | a :: r, x, us, hf, h => by
    simp only [SV.putL, SV.retL, RelL] at h ⊢
    obtain ⟨v, vr, e, h1, h2⟩ := h
    have hf' : fl = true → a.flat = true ∧ SV.flatL r = true := fun q => by
      have := hf q
      simpa only [SV.flatL, Bool.and_eq_true] using this
    exact ⟨v, vr, e, SV.ret_rel hok hι a x.1 v (fun q => (hf' q).1) h1, SV.retL_rel hok hι r x.2 vr (fun q => (hf' q).2) h2⟩
end

theorem SB.ret_rel (hok : fl = false → ∀ b, ok b → ok' b) (hι : ∀ b v, ι2 b = some v → ι'' (nb + b) = some v) {j : Nat} : ∀ (sb : SB) (x : sb.den), (fl = true → sb.flat = true) → RelB w' ok ι2 j (sb.put x) → RelB w' ok' ι'' (nb + j) (sb.ret nb x)
  | .row t e, xs, hf, h => by
    obtain ⟨v, cs, h1, h2, h3⟩ := h
    refine ⟨v, cs, hι _ _ h1, h2, RzL_mono (fun x us hx => ?_) h3⟩
    cases hfl : fl with
    | true => exact Rz_flat t x us (hf hfl) hx
    | false => exact Rz_mono (fun _ _ _ _ e => e) (hok hfl) t x us hx
  | .box e cs, x, hf, h => by
    obtain ⟨g, us, h1, h2, h3⟩ := h
    exact ⟨g, us, hι _ _ h1, h2, SV.retL_rel hok hι cs x us hf h3⟩
  | .it, _, _, _ => trivial
  | .map kt va vt, l, hf, h => by
    obtain ⟨g, es, ck, l', h1, h2, h3, h4, h5, h6⟩ := h
    refine ⟨g, es, ck, l', hι _ _ h1, h2, h3, h4, h5, ?_⟩
    cases hfl : fl with
    | true =>
      have := hf hfl
      simp only [SB.flat, Bool.and_eq_true] at this
      exact RzM_flat this.1 this.2 h6
    | false => exact RzM_dat (fun _ _ _ _ e => e) (hok hfl) h6
end

theorem retB_length (nb : Nat) : ∀ (l : List SB) (x : denB l), (retB nb l x).length = l.length
  | [], _ => rfl
  | _ :: r, x => by simp [retB, retB_length nb r x.2]

theorem retB_get (nb : Nat) : ∀ (l : List SB) (x : denB l) (j : Nat), getB (retB nb l x) j = .dead ∨ ∃ sb, l[j]? = some sb ∧ ∃ y : sb.den, getB (retB nb l x) j = sb.ret nb y ∧ getB (putB l x) j = sb.put y
  | [], _, _ => .inl rfl
  | a :: r, x, 0 => .inr ⟨a, rfl, x.1, rfl, rfl⟩
  | a :: r, x, j + 1 => by
    rcases retB_get nb r x.2 j with h | ⟨sb, h1, y, h2, h3⟩
    · exact .inl h
    · exact .inr ⟨sb, by simpa using h1, y, h2, h3⟩

theorem flatB_get : ∀ {l : List SB} {j : Nat} {sb : SB}, flatB l = true → l[j]? = some sb → sb.flat = true
  | [], j, _, _, h => by simp at h
  | a :: r, 0, sb, hf, h => by
    simp only [List.getElem?_cons_zero, Option.some.injEq] at h
    subst h
    simp only [flatB, Bool.and_eq_true] at hf
    exact hf.1
  | a :: r, j + 1, sb, hf, h => by
    simp only [flatB, Bool.and_eq_true] at hf
    exact flatB_get (l := r) (j := j) hf.2 (by simpa using h)

theorem SB.ret_bk {ι2 ι'' : Nat → Option Value} {C2 C'' : Nat → Blk} {nb j k : Nat} {b : Nat} : ∀ (sb : SB) (y : sb.den), C'' k = sb.ret nb y → C2 j = sb.put y → ι'' k = ι2 j → bk ι'' C'' k = some b → bk ι2 C2 j = some b
  | .row t e, xs, h1, h2, h3, h => by
    unfold bk at h ⊢
    rw [h1, h3] at h
    rw [h2]
    exact h
  | .box e cs, x, h1, h2, h3, h => by
    unfold bk at h ⊢
    rw [h1, h3] at h
    rw [h2]
    simp only [SB.ret, SB.put] at h ⊢
    cases hι : ι2 j with
    | none => rw [hι] at h; cases h
    | some v =>
      rw [hι] at h
      cases v <;> (try (cases h; done))
      rename_i p
      cases p with
      | none => cases h
      | some a => exact h
  | .it, _, h1, _, _, h => by
    rw [bk_dead h1] at h
    cases h
  | .map kt va vt, l, h1, h2, h3, h => by
    unfold bk at h ⊢
    rw [h1, h3] at h
    rw [h2]
    exact h

theorem addC_at : ∀ (new : List Blk) (C : Nat → Blk) (nb j : Nat), j < new.length → addC C nb new (nb + j) = getB new j
  | [], _, _, j, h => by simp at h
  | b :: r, C, nb, 0, _ => by
    show addC (setC C nb b) (nb + 1) r (nb + 0) = b
    rw [addC_other _ _ _ _ (by omega), Nat.add_zero, setC_self]
  | b :: r, C, nb, j + 1, h => by
    show addC (setC C nb b) (nb + 1) r (nb + (j + 1)) = getB r j
    rw [show nb + (j + 1) = nb + 1 + j by omega]
    exact addC_at r _ (nb + 1) j (by simpa using h)

def slotsFrom : Nat → List (Nat × SV) → Bool
  | _, [] => true
  | i, p :: r => Nat.beq p.1 i && slotsFrom (i + 1) r

theorem retS_rel {w' : World} {ok ok' : Nat → Prop} {ι2 ι'' : Nat → Option Value} {nb : Nat} {fl : Bool} (hok : fl = false → ∀ b, ok b → ok' b) (hι : ∀ b v, ι2 b = some v → ι'' (nb + b) = some v) :
    ∀ (l : List (Nat × SV)) (x : denS l) (i : Nat) (us : List Value), slotsFrom i l = true → (fl = true → flatS l = true) → us.length = l.length → (∀ t, t < us.length → RelV w' ok ι2 (getT (putS l x) (i + t)) (us.getD t undef)) → RelL w' ok' ι'' (retS nb l x) us
  | [], x, i, us, _, _, hl, _ => RelL_nil.2 (List.length_eq_zero_iff.1 hl)
  | p :: r, x, i, us, hs, hf, hl, h => by
    cases us with
    | nil => simp at hl
    | cons u ur =>
      simp only [slotsFrom, Bool.and_eq_true] at hs
      have hp := Nat.eq_of_beq_eq_true hs.1
      have hf' : fl = true → p.2.flat = true ∧ flatS r = true := fun q => by
        have := hf q
        simpa only [flatS, Bool.and_eq_true] using this
      refine RelL_cons.2 ⟨u, ur, rfl, ?_, retS_rel hok hι r x.2 (i + 1) ur hs.2 (fun q => (hf' q).2) (by simpa using hl) fun t ht => ?_⟩
      · have h0 := h 0 (by simp)
        rw [Nat.add_zero] at h0
        simp only [putS, getT] at h0
        rw [if_pos (by rw [hp]; exact Nat.beq_refl i)] at h0
        exact SV.ret_rel hok hι p.2 x.1 u (fun q => (hf' q).1) h0
      · have h1 := h (t + 1) (by simpa using ht)
        simp only [putS, getT] at h1
        rw [if_neg (fun q => by have := Nat.eq_of_beq_eq_true q; omega)] at h1
        rw [show i + 1 + t = i + (t + 1) by omega]
        simpa using h1
end
end Go.Proofs.Rf
/- Rf, part v: a function's contract, from its body's evaluation. -/
namespace Go.Proofs.Rf
open Go Go.RowKit

section
variable {X keep : Nat → Prop} {w0 w : World} {ι : Nat → Option Value} {C : Nat → Blk} {P : Program} {TT : Tab} {Δ : Nat → Option CallO}

/-- The slots of a function's frame. -/
def frameSlots (base k : Nat) : Slots := ⟨true, base, upTo k, fun tm => tm.size = k, fun tm d h hd => by
  have hd : Nat.blt d k = true := hd
  rw [h]; exact Nat.le_of_ble_eq_true hd, fun tm d v h _ => by simpa using h⟩

/-- What is owned is no mark. -/
theorem HRel.owned_obj (h : HRel X keep w0 ι C w) {b : Nat} (hb : owned ι C b) : w.heap[b]? ≠ some (.deferred (some [])) := by
  obtain ⟨k, hk⟩ := hb
  have hB := h.bl k
  unfold bk at hk
  cases hC : C k with
  | row t e xs rw =>
    rw [hC] at hB hk
    cases rw with
    | true =>
      obtain ⟨v, cs, h1, h2, h3⟩ := hB
      rw [h1] at hk
      rcases h2.2 with ⟨h4, _⟩ | ⟨g, cap, cur, hv, _, h6, _⟩
      · rw [h4] at hk; cases hk
      · rw [hv] at hk
        injection hk with hk
        have hk : g = b := hk
        subst hk
        rw [h6]; intro e; cases e
    | false => cases hι : ι k <;> rw [hι] at hk <;> cases hk
  | box e cs =>
    rw [hC] at hB hk
    obtain ⟨g, us, h1, h2, h3⟩ := hB
    rw [h1] at hk
    injection hk with hk
    have hk : g = b := hk
    subst hk
    rw [h2]; intro e; cases e
  | it s pos =>
    rw [hC] at hB hk
    obtain ⟨g, h1, h2⟩ := hB
    rw [h1] at hk
    injection hk with hk
    have hk : g = b := hk
    subst hk
    rw [h2]; intro e; cases e
  | map kt va vt l =>
    rw [hC] at hB hk
    obtain ⟨g, es, ck, l', h1, h2, _⟩ := hB
    rw [h1] at hk
    injection hk with hk
    have hk : g = b := hk
    subst hk
    rw [h2]; intro e; cases e
  | dead => rw [hC] at hk; cases hι : ι k <;> rw [hι] at hk <;> cases hk

/-- The marks of a world. -/
def MarksIn (base : Nat) (w : World) : List Deferred → Prop
  | [] => True
  | d :: ds => (∃ D, d.target = .collected D ∧ base ≤ D ∧ w.heap[D]? = some (.deferred (some [])) ∧ ∀ e ∈ ds, e.target ≠ .collected D) ∧ MarksIn base w ds

theorem marksIn_of {base : Nat} {keep : Nat → Prop} {w0 w : World} (hk : Kept keep w0 w) : ∀ {ds : List Deferred}, MarksOK base keep w0 ds → MarksIn base w ds
  | [], _ => trivial
  | d :: ds, ⟨⟨D, h1, h2, h3, h4, h5⟩, h6⟩ => ⟨⟨D, h1, h2, by rw [hk.block D h3 (Array.getElem?_eq_some_iff.1 h4).1]; exact h4, h5⟩, marksIn_of hk h6⟩

theorem marksIn_put {base : Nat} {w : World} {D : Nat} {o : Obj} : ∀ {ds : List Deferred}, (∀ e ∈ ds, e.target ≠ .collected D) → MarksIn base w ds → MarksIn base (w.putObj D o) ds
  | [], _, _ => trivial
  | d :: ds, hd, ⟨⟨D', h1, h2, h4, h5⟩, h6⟩ => by
    refine ⟨⟨D', h1, h2, ?_, h5⟩, marksIn_put (fun e he => hd e (List.mem_cons_of_mem _ he)) h6⟩
    rw [World.putObj_heap_other ?_]
    · exact h4
    · rintro rfl
      exact hd d (List.mem_cons_self ..) h1

theorem leaves_marks {dp base : Nat} {fn : Func} {tmps : Array Value} {R : Ending → World → Prop} {G : World → Prop} (hfin : ∀ w, G w → ∃ v, (results fn tmps).run P w = .ok v w ∧ R (.returned v) w)
    (hstep : ∀ w D, G w → base ≤ D → w.heap[D]? = some (.deferred (some [])) → G (w.putObj D (.deferred none))) : ∀ (ds : List Deferred) (w : World), G w → MarksIn base w ds → LeavesInM (WF none) dp P fn tmps R ds .returning w
  | [], w, hg, _ => hfin w hg
  | d :: ds, w, hg, ⟨⟨D, h1, h2, h4, h5⟩, h6⟩ =>
    ⟨by simp, .inl ⟨D, _, h1, run_takeDeferred h4, leaves_marks hfin hstep ds _ (hstep w D hg h2 h4) (marksIn_put h5 h6)⟩⟩

theorem retV_rel {ok : Nat → Prop} {vs : List AV} {us : List Value} (h : RelL w ok ι vs us) : RelV w ok ι (retV vs) (if h : us.toArray.size = 1 then us.toArray[0] else .tuple us.toArray) := by
  match vs, h with
  | [], h =>
    rw [RelL_nil.1 h]
    simp only [retV, RelV]
    exact ⟨[], rfl, RelL_nil.2 rfl⟩
  | [v], h =>
    obtain ⟨u, ur, e, h1, h2⟩ := RelL_cons.1 h
    have h2 := RelL_nil.1 h2
    subst h2
    subst e
    exact h1
  | v1 :: v2 :: r, h =>
    have hl := RelL_length h
    rw [dif_neg (by simp only [List.size_toArray, hl, List.length_cons]; omega)]
    simp only [retV, RelV]
    exact ⟨us, rfl, h⟩

theorem takeL_length {C : Nat → Blk} {ρ : List Nat} : ∀ (l : List SV) (vs : List AV) (p : SV.denL l × List (Nat × Blk)), SV.takeL C ρ l vs = some p → vs.length = l.length
  | [], [], _, _ => rfl
  | [], _ :: _, _, h => by simp only [SV.takeL] at h; cases h
  | a :: r, [], _, h => by simp only [SV.takeL] at h; cases h
  | a :: r, v :: vs, p, h => by
    simp only [SV.takeL] at h
    split at h
    · split at h
      · rename_i y g e2
        have := takeL_length r vs _ e2
        simp [this]
      · cases h
    · cases h

/-- What a function's contract wants of its text. -/
structure FnOK (P : Program) (f : Nat) (fn : Func) (c : Code) (ps : List SV) (rsh : Shape) : Prop where
  at_ : P.funcs[f]? = some fn
  body : fn.body = some c
  name : (fn.name == "runtime.NumGoroutine") = false
  len : Nat.ble ps.length fn.ntmps = true
  slots : slotsFrom 0 rsh.sl = true
  res : Nat.beq rsh.sl.length fn.results.toList.length = true

theorem mkCall_ok (hm : P.follows .mixedOrders = true) (hP : TabOK P TT) (hΔ : CallsOK P Δ) {Λ : Nat → Option LoopO} {f : Nat} {fn : Func} {c : Code} {ps : List SV} {rsh : Shape} (hF : FnOK P f fn c ps rsh)
    (hL : ∀ base, LoopsIn P (frameSlots base fn.ntmps) none Λ c) {F : SV.denL ps → Option rsh.den} (hrun : ∀ x y, F x = some y → runF TT Δ (upTo fn.ntmps) Λ c fn.results.toList ps rsh x = some y) : CallOK P f (mkCall ps rsh F) := by
  refine ⟨⟨fn, hF.at_, hF.name, by rw [hF.body]; rfl⟩, ?_, ?_⟩
  · intro X keep w0 w ι C nb args vs e h hv hco hn
    unfold mkCall at hco
    split at hco
    · rename_i x fz hx
      obtain ⟨y, hy, hco⟩ := bind_some' hco
      injection hco with hco
      subst hco
      obtain ⟨⟨H1, hFr, E1⟩, hrel⟩ := SV.takeL_sound ps C args vs h (FrozenOf.refl C) hv x fz hx
      have hlen : vs.length = ps.length := (RelL_length hv).trans (takeL_length ps args _ hx)
      have hnt : ps.length ≤ fn.ntmps := Nat.le_of_ble_eq_true hF.len
      -- the callee's frame
      let X' : Nat → Prop := fun b => b < w.heap.size ∧ ¬ okb X w ι (updC C fz) b
      let keep' : Nat → Prop := fun b => b < w.heap.size
      let ι0 : Nat → Option Value := fun _ => none
      have hno : ∀ b, ¬ owned ι0 (getB []) b := by rintro b ⟨k, hk⟩; rw [bk_dead rfl] at hk; cases hk
      have Hc : HRel X' keep' w ι0 (getB []) w := ⟨fun k => trivial, fun k k' b h1 _ => (by rw [bk_dead rfl] at h1; cases h1), Kept.refl _ _, fun b hb => (hno b hb).elim, fun b hb => hb, fun b hb => (hno b hb).elim, fun b hb => hb.1, H1.gl.mono fun b hb => ⟨⟨hb.1, hno b, fun hx => hx.2 hb⟩, rfl⟩⟩
      have hokc : ∀ b, okb X w ι (updC C fz) b → okb X' w ι0 (getB []) b := fun b hb => ⟨hb.1, hno b, fun hx => hx.2 hb⟩
      have hargs : RelL w (okb X' w ι0 (getB [])) ι0 (SV.putL ps x) vs := hrel _ ι0 hokc (fun b i hb => by simp at hb)
      let a0 : Act := { tmps := vs.toArray ++ Array.replicate (fn.ntmps - vs.toArray.size) undef, defers := [] }
      have hT0 : ∀ t, RelV w (okb X' w ι0 (getB [])) ι0 (getT (numT 0 (SV.putL ps x)) t) (a0.tmps.getD t undef) := by
        intro t
        have h1 := (getT_numT (SV.putL ps x) vs 0 t hargs).1
        rw [Nat.zero_add] at h1
        have h2 : a0.tmps.getD t undef = vs.getD t undef := by
          show (vs.toArray ++ Array.replicate (fn.ntmps - vs.toArray.size) undef).getD t undef = _
          rw [Array.getD_eq_getD_getElem?, List.getD_eq_getElem?_getD]
          rcases Nat.lt_or_ge t vs.length with ht | ht
          · rw [Array.getElem?_append_left (by simpa using ht)]
            simp
          · rw [Array.getElem?_append_right (by simpa using ht), List.getElem?_eq_none ht, Array.getElem?_replicate]
            split <;> rfl
        rw [h2]
        exact h1
      have S0 : SRel X' keep' w (frameSlots w.heap.size fn.ntmps) ι0 ⟨numT 0 (SV.putL ps x), []⟩ a0 w := by
        refine ⟨⟨Hc, hT0, ?_, Nat.le_refl _, fun _ => rfl, trivial⟩, fun _ _ => rfl⟩
        show a0.tmps.size = fn.ntmps
        simp only [a0, Array.size_append, Array.size_replicate, List.size_toArray]
        omega
      have hev := hrun x y hy
      unfold runF at hev
      refine callsIn_wide.1 (callsIn_of_wp_marks (F := WF none) (n := 0) hF.at_ hF.body trivial (evC_sound hm hP hΔ c (hL _) _ _ _ a0 w ι0 keep' w S0 hev fun e s' a' w1 ι1 k1 v1 hlat hk h1 => ?_) rfl)
      have hsr : SRel X' keep' w (frameSlots w.heap.size fn.ntmps) ι1 s' { tmps := a'.tmps, defers := [] } w1 :=
        ⟨⟨h1.f.h.weaken hlat.mono hlat.kept (fun b hb => hb) (fun b hb => hb.1), h1.f.tm, h1.f.size, Nat.le_refl _, fun _ => rfl, trivial⟩, h1.dom⟩
      -- at the end
      have fin : ∀ (w' : World) (ι' : Nat → Option Value), SRel X' keep' w (frameSlots w.heap.size fn.ntmps) ι' s' { tmps := a'.tmps, defers := [] } w' → (match retsOf TT s' fn.results.toList with
          | some vs => rsh.take ⟨numT 0 vs, s'.bl⟩
          | none => none) = some y → ∃ v, (results fn a'.tmps).run P w' = .ok v w' ∧ ∃ v', Ending.returned v = .returned v' ∧ Out X keep w0 ι C w nb ⟨retV (retS nb rsh.sl y.1), if rsh.flat = true then [] else fz, retB nb rsh.bl y.2⟩ v' w' := by
        intro w' ι' h' hk
        split at hk
        · rename_i rs hrs
          obtain ⟨us, v, r1, r2, r3⟩ := results_sound hP h' hrs
          refine ⟨v, r1, v, rfl, ?_⟩
          let a2 : Act := { tmps := us.toArray, defers := [] }
          have S1 : SRel X' keep' w (frameSlots w.heap.size us.length) ι' ⟨numT 0 rs, s'.bl⟩ a2 w' := by
            refine ⟨⟨h'.f.h, fun t => ?_, (by show a2.tmps.size = us.length; simp [a2]), Nat.le_refl _, fun _ => rfl, trivial⟩, h'.dom⟩
            have := (getT_numT rs us 0 t r2).1
            rw [Nat.zero_add] at this
            have h2 : a2.tmps.getD t undef = us.getD t undef := by
              show us.toArray.getD t undef = _
              rw [Array.getD_eq_getD_getElem?, List.getD_eq_getElem?_getD]
              simp
            rw [h2]
            exact this
          obtain ⟨ι2, S2⟩ := Shape.take_sound S1 hk
          have hul : us.length = rsh.sl.length := by
            have h1 := Nat.eq_of_beq_eq_true hF.res
            have h2 := RelL_length r2
            have h3 : ∀ {l : List ResultVar} {vs : List AV}, retsOf TT s' l = some vs → vs.length = l.length := by
              intro l
              induction l with
              | nil => intro vs hvs; simp only [retsOf] at hvs; injection hvs with hvs; subst hvs; rfl
              | cons q l ih =>
                intro vs hvs
                simp only [retsOf] at hvs
                split at hvs
                · split at hvs
                  · rename_i vr hvr
                    injection hvs with hvs
                    subst hvs
                    simp [ih hvr]
                  · cases hvs
                · cases hvs
            have h4 := h3 hrs
            omega
          -- the caller's state behind the call
          let fl := rsh.flat
          let Cz := updC C (if fl = true then [] else fz)
          have hz : HRel X keep w0 ι Cz w ∧ Ext X ι C w ι Cz w := by
            show HRel X keep w0 ι (updC C (if fl = true then [] else fz)) w ∧ Ext X ι C w ι (updC C (if fl = true then [] else fz)) w
            cases fl
            · exact ⟨H1, E1⟩
            · exact ⟨h, Ext.refl _ _ _ _⟩
          obtain ⟨Hz, Ez⟩ := hz
          let new := retB nb rsh.bl y.2
          have hnl : new.length = rsh.bl.length := retB_length _ _ _
          let ι'' : Nat → Option Value := fun k => if nb ≤ k ∧ k < nb + new.length then ι2 (k - nb) else ι k
          have hin : ∀ j, j < new.length → ι'' (nb + j) = ι2 j := by
            intro j hj
            show (if nb ≤ nb + j ∧ nb + j < nb + new.length then ι2 (nb + j - nb) else ι (nb + j)) = _
            rw [if_pos (by omega), Nat.add_sub_cancel_left]
          have hou : ∀ k, ¬ (nb ≤ k ∧ k < nb + new.length) → ι'' k = ι k := fun k hk => if_neg hk
          let C'' := addC Cz nb new
          have hCin : ∀ j, j < new.length → C'' (nb + j) = getB new j := fun j hj => addC_at new Cz nb j hj
          have hbkn : ∀ j b, j < new.length → bk ι'' C'' (nb + j) = some b → bk ι2 (getB (putB rsh.bl y.2)) j = some b := by
            intro j b hj hb
            rcases retB_get nb rsh.bl y.2 j with q | ⟨sb, q1, z, q2, q3⟩
            · rw [bk_dead (by rw [hCin j hj]; exact q)] at hb; cases hb
            · exact SB.ret_bk sb z (by rw [hCin j hj]; exact q2) q3 (hin j hj) hb
          have hout : ∀ k, ¬ (nb ≤ k ∧ k < nb + new.length) → C'' k = Cz k := fun k hk => addC_other _ _ _ _ hk
          have hX : ∀ b, ¬ X' b → b < w.heap.size → okb X w ι (updC C fz) b := fun b h1 h2 => Classical.byContradiction fun h3 => h1 ⟨h2, h3⟩
          have okT : fl = false → ∀ b, okb X' w' ι2 (getB (rsh.put y).bl) b → okb X w' ι'' C'' b := by
            intro hfl b hb
            have hCz : Cz = updC C fz := by show updC C (if fl = true then [] else fz) = _; rw [hfl]; rfl
            refine ⟨hb.1, ?_, fun hx => ?_⟩
            · rintro ⟨k, hk⟩
              by_cases hs : nb ≤ k ∧ k < nb + new.length
              · obtain ⟨j, rfl⟩ : ∃ j, k = nb + j := ⟨k - nb, by omega⟩
                exact hb.2.1 ⟨j, hbkn j b (by omega) hk⟩
              · rw [bk_congr (hout k hs) (hou k hs)] at hk
                have := hX b hb.2.2 (Hz.lt ⟨k, hk⟩)
                rw [hCz] at hk
                exact this.2.1 ⟨k, hk⟩
            · exact (hX b hb.2.2 (Nat.lt_of_lt_of_le (h.xl b hx) h.fr.size)).2.2 hx
          have hfl2 : fl = true → flatS rsh.sl = true ∧ flatB rsh.bl = true := by
            intro q
            have q : (flatS rsh.sl && flatB rsh.bl) = true := q
            simpa only [Bool.and_eq_true] using q
          have hlen2 : (rsh.put y).bl.length = new.length := by rw [hnl]; exact putB_length _ _
          have hιn : ∀ b v, ι2 b = some v → ι'' (nb + b) = some v := by
            intro b v hb
            have hb' : b < new.length := by
              rcases Nat.lt_or_ge b new.length with q | q
              · exact q
              · rw [S2.dom b (by omega)] at hb; cases hb
            rw [hin b hb']; exact hb
          obtain ⟨HF, EF⟩ := Hz.step (C' := C'') (ι' := ι'') (w' := w') (fun k => nb ≤ k ∧ k < nb + new.length) S2.f.h.fr.os S2.f.h.fr.tape S2.f.h.fr.output S2.f.h.fr.size hout
            (fun k v hk => by
              have hs : ¬ (nb ≤ k ∧ k < nb + new.length) := fun q => by rw [hn k q.1 q.2] at hk; cases hk
              rw [hou k hs]; exact hk) hou
            (by
              intro k b hs hb
              obtain ⟨j, rfl⟩ : ∃ j, k = nb + j := ⟨k - nb, by omega⟩
              exact .inl (Nat.le_of_not_lt (S2.f.h.own b ⟨j, hbkn j b (by omega) hb⟩)))
            (by
              intro k k' b hs hs' hb hb'
              obtain ⟨j, rfl⟩ : ∃ j, k = nb + j := ⟨k - nb, by omega⟩
              obtain ⟨j', rfl⟩ : ∃ j, k' = nb + j := ⟨k' - nb, by omega⟩
              rw [S2.f.h.inj j j' b (hbkn j b (by omega) hb) (hbkn j' b (by omega) hb')])
            (fun b hb _ => S2.f.h.fr.block b hb hb)
            (by
              intro _ k hs
              obtain ⟨j, rfl⟩ : ∃ j, k = nb + j := ⟨k - nb, by omega⟩
              have hj : j < new.length := by omega
              rw [hCin j hj]
              rcases retB_get nb rsh.bl y.2 j with q | ⟨sb, q1, z, q2, q3⟩
              · rw [show getB new j = .dead from q]; trivial
              · rw [show getB new j = _ from q2]
                have hB := S2.f.h.bl j
                rw [show getB (rsh.put y).bl j = _ from q3] at hB
                exact SB.ret_rel (fl := fl) okT hιn sb z (fun q => flatB_get (hfl2 q).2 q1) hB)
          have hret : RelL w' (okb X w' ι'' C'') ι'' (retS nb rsh.sl y.1) us := by
            refine retS_rel (ι2 := ι2) (fl := fl) okT hιn rsh.sl y.1 0 us hF.slots (fun q => (hfl2 q).1) hul fun t _ => ?_
            · rw [Nat.zero_add]
              have := S2.f.tm t
              have h2 : a2.tmps.getD t undef = us.getD t undef := by
                show us.toArray.getD t undef = _
                rw [Array.getD_eq_getD_getElem?, List.getD_eq_getElem?_getD]
                simp
              rw [h2] at this
              exact this
          refine ⟨ι'', HF, Ez.trans EF, ?_, hou⟩
          rw [r3]
          exact retV_rel hret
        · cases hk
      have leave : (match retsOf TT s' fn.results.toList with
          | some vs => rsh.take ⟨numT 0 vs, s'.bl⟩
          | none => none) = some y → LeavesInM (WF none) 0 P fn a'.tmps (fun en w' => ∃ v, en = .returned v ∧ Out X keep w0 ι C w nb ⟨retV (retS nb rsh.sl y.1), if rsh.flat = true then [] else fz, retB nb rsh.bl y.2⟩ v w') a'.defers .returning w1 := by
        intro hk
        refine leaves_marks (base := w.heap.size) (G := fun w' => SRel X' keep' w (frameSlots w.heap.size fn.ntmps) ι1 s' { tmps := a'.tmps, defers := [] } w') (fun w' h' => fin w' ι1 h' hk) (fun w' D h' hD hd => ?_) a'.defers w1 hsr (marksIn_of h1.f.h.fr h1.f.defers.2.2)
        obtain ⟨q1, q2⟩ := h'.f.h.quiet (w' := w'.putObj D (.deferred none)) D rfl rfl rfl (by simp) (fun b hb _ => World.putObj_heap_other hb) (fun o v hc => by simp [World.cell?, hd] at hc)
          (fun b hb e => h'.f.h.owned_obj hb (by rw [e]; exact hd)) (fun hk' => absurd hk' (Nat.not_lt.2 hD))
        exact ⟨⟨q1, fun t => q2 _ _ (h'.f.tm t), h'.f.size, Nat.le_refl _, fun _ => rfl, trivial⟩, h'.dom⟩
      cases e with
      | nm => exact leave hk
      | ex j => cases hk
      | rt => exact leave hk
    · cases hco
  · intro args C nb R K
    unfold mkCall
    split
    · rename_i x fz hx
      cases F x <;> rfl
    · rfl
end
end Go.Proofs.Rf
/- Rf, part w: the table of types, out of a program. -/
namespace Go.Proofs.Rf
open Go Go.RowKit

def ifTK : TK := if fnsR.isEmpty = true then .oth else .ifc

theorem und_if {P : Program} {t : Nat} (h : ∃ ms, P.underlying t = some (.interface ms)) : UndOK P t ifTK := by
  unfold ifTK
  obtain ⟨ms, h⟩ := h
  split
  · exact ⟨_, h, rfl⟩
  · exact ⟨ms, h⟩

def tkOf : TypeDesc → TK
  | .int k => .int k
  | .bool => .bool
  | .string => .str
  | .slice e => .sl e
  | .array n e => .ar n e
  | .struct fields => .st (fields.toList.map fun f => (f.offset, f.type))
  | .pointer e => .pt e
  | .map k e => .mp k e
  | .unsafePointer => .up
  | .interface _ => ifTK
  | _ => .oth

def prL : List Ty → Ty
  | [] => .un
  | [a] => a
  | a :: b :: r => .pr a (prL (b :: r))

def allT {α β : Type} (f : α → Option β) : List α → Option (List β)
  | [] => some []
  | a :: r => match f a with
    | some b => match allT f r with
      | some bs => some (b :: bs)
      | none => none
    | none => none

def tyOf (P : Program) : Nat → Nat → Option Ty
  | 0, _ => none
  | k + 1, t => match P.underlying t with
    | some (.int i) => some (.int i)
    | some .bool => some .bool
    | some .string => some .str
    | some (.slice e) => (match tyOf P k e with
      | some ty => some (.sl ty)
      | none => none)
    | some (.array n e) => (match tyOf P k e with
      | some ty => some (prL (List.replicate n ty))
      | none => none)
    | some (.interface _) => some .ic
    | some (.func _ _ _) => if fnsR.isEmpty = true then none else some .fv
    | some (.pointer e) => (match treeOf e with
      | some (a, b) => some (.tr a b)
      | none => none)
    | some (.struct fields) => (match allT (fun f : Field => tyOf P k f.type) fields.toList with
      | some ts => some (prL ts)
      | none => none)
    | _ => none

def zInt (k : IntKind) : List Value → Bool
  | [.int k' n] => ikEq k' k && (n == 0)
  | _ => false
def zBool : List Value → Bool
  | [.bool b] => !b
  | _ => false
def zStr : List Value → Bool
  | [.string s] => Nat.beq s.data.size 0
  | _ => false
def zSl : List Value → Bool
  | [.slice none 0 0] => true
  | _ => false
def zNil : List Value → Bool
  | [] => true
  | _ => false

def zPtr : List Value → Bool
  | [.pointer none] => true
  | _ => false

def zIf : List Value → Bool
  | [.nilIface] => true
  | _ => false

def zFn : List Value → Bool
  | [.nilFunc] => true
  | _ => false

/-- The zero value's cells are what the datum's default says. -/
def zB : Ty → List Value → Bool
  | .int k, vs => zInt k vs
  | .bool, vs => zBool vs
  | .str, vs => zStr vs
  | .sl _, vs => zSl vs
  | .pr a b, vs => zB a (vs.take a.size) && zB b (vs.drop a.size)
  | .un, vs => zNil vs
  | .fk _, _ => false
  | .ic, vs => zIf vs
  | .fv, vs => zFn vs
  | .tr _ _, vs => zPtr vs

theorem zB_sound {w : World} {ok : Nat → Prop} : ∀ (t : Ty) (vs : List Value), zB t vs = true → Rz w ok t t.dflt vs
  | .int k, vs, h => by
    unfold zB zInt at h
    split at h
    · simp only [Bool.and_eq_true, beq_iff_eq] at h
      rw [ikEq_eq h.1, h.2]
      rfl
    · cases h
  | .bool, vs, h => by
    unfold zB zBool at h
    split at h
    · rename_i b
      cases b
      · rfl
      · cases h
    · cases h
  | .str, vs, h => by
    unfold zB zStr at h
    split at h
    · rename_i s
      have h := Nat.eq_of_beq_eq_true h
      have : s = ⟨[].toArray⟩ := by
        cases s with
        | mk d =>
          congr 1
          exact Array.eq_empty_of_size_eq_zero h
      rw [this]
      rfl
    · cases h
  | .sl t, vs, h => by
    unfold zB zSl at h
    split at h
    · exact ⟨none, 0, rfl, Nat.le_refl _, fun hp => by simp [Ty.dflt] at hp⟩
    · cases h
  | .pr a b, vs, h => by
    simp only [zB, Bool.and_eq_true] at h
    exact ⟨vs.take a.size, vs.drop a.size, (List.take_append_drop _ _).symm, zB_sound a _ h.1, zB_sound b _ h.2⟩
  | .un, vs, h => by
    unfold zB zNil at h
    split at h
    · rfl
    · cases h
  | .fk f, vs, h => by simp [zB] at h
  | .ic, vs, h => by
    unfold zB zIf at h
    split at h
    · exact ⟨_, rfl, rfl⟩
    · cases h
  | .fv, vs, h => by
    unfold zB zFn at h
    split at h
    · rfl
    · cases h
  | .tr a b, vs, h => by
    unfold zB zPtr at h
    split at h
    · exact ⟨_, rfl, rfl⟩
    · cases h

/-- A type of the program, whole. -/
def tdOf (P : Program) (t : Nat) : Option TD :=
  match P.info? t, P.underlying t with
  | some i, some d => match i.zero with
    | some z => if (Nat.beq z.cells.toList.length i.size && z.cells.toList.all Value.oneCell' && eqBB (isAgV z) (tkOf d).agg) = true then
        some ⟨tkOf d, i.size, i.bytes, z.cells.toList.map avc, match tyOf P 16 t with
          | some ty => if (Nat.beq ty.size i.size && zB ty z.cells.toList) = true then some ty else none
          | none => none, (match d with
            | .struct fields => (fields.toList.all fun f => f.name != "_") && !P.stoodInHeld t
            | _ => true) && !P.eqGuardType P.depth t⟩ else none
    | none => none
  | _, _ => none

theorem tdOf_ok {P : Program} {t : Nat} {td : TD} (h : tdOf P t = some td) : InfoOK P t td := by
  unfold tdOf at h
  split at h
  · rename_i i d hi hd
    split at h
    · rename_i z hz
      split at h
      · rename_i hc
        simp only [Bool.and_eq_true] at hc
        injection h with h
        subst h
        refine ⟨⟨i, z, hi, rfl, rfl, hz, fun w ok ι => ?_, fun u hu => List.all_eq_true.1 hc.1.2 u hu, fun ty hty => ?_⟩, ?_, ?_, fun i' z' q1 q2 => ?_, fun q => ?_⟩
        · generalize z.cells.toList = vs
          induction vs with
          | nil => exact RelL_nil.2 rfl
          | cons v r ih => exact RelL_cons.2 ⟨v, r, rfl, avc_rel v, ih⟩
        · simp only at hty
          split at hty
          · split at hty
            · rename_i hb
              injection hty with hty
              subst hty
              simp only [Bool.and_eq_true] at hb
              exact ⟨Nat.eq_of_beq_eq_true hb.1, fun w ok => zB_sound _ _ hb.2⟩
            · cases hty
          · cases hty
        · cases d <;> first | exact und_if ⟨_, hd⟩ | (simp only [tkOf, UndOK]; first | exact hd | exact ⟨_, hd, rfl⟩)
        · simp only [List.length_map]
          exact Nat.eq_of_beq_eq_true hc.1.1
        · rw [hi] at q1
          injection q1 with q1
          subst q1
          rw [hz] at q2
          injection q2 with q2
          subst q2
          exact eqBB_iff hc.2
        · rw [Bool.and_eq_true, Bool.not_eq_true'] at q
          refine ⟨fun fields hf => ?_, q.2⟩
          rw [hd] at hf
          injection hf with hf
          subst hf
          have := q.1
          simpa using this
      · cases h
    · cases h
  · cases h

def tabOf : List (Nat × TD) → Tab
  | [], _ => none
  | (k, td) :: r, t => if Nat.beq k t = true then some td else tabOf r t

theorem tabOf_ok {P : Program} : ∀ {l : List (Nat × TD)}, l.map (fun p => tdOf P p.1) = l.map (fun p => some p.2) → TabOK P (tabOf l)
  | [], _, t, td, h => by cases h
  | (k, d) :: r, he, t, td, h => by
    simp only [List.map_cons, List.cons.injEq] at he
    simp only [tabOf] at h
    split at h
    · rename_i hk
      have hk := Nat.eq_of_beq_eq_true hk
      subst hk
      injection h with h
      subst h
      exact tdOf_ok he.1
    · exact tabOf_ok he.2 t td h
end Go.Proofs.Rf
/- Rf, part x: a function's text; its loops' texts. -/
namespace Go.Proofs.Rf
open Go Go.RowKit

def bodyOf (f : Func) : Code := match f.body with
  | some c => c
  | none => .skip

/-- The loop whose first region is r. -/
def findL (r : Nat) : Code → Option Code
  | .seq a b => match findL r a with
    | some c => some c
    | none => findL r b
  | .cond _ a b => match findL r a with
    | some c => some c
    | none => findL r b
  | .block _ c => findL r c
  | .scope c => findL r c
  | .loop c => if Nat.beq (firstReg c) r = true then some c else findL r c
  | .rangeFunc _ _ a b => match findL r a with
    | some c => some c
    | none => findL r b
  | _ => none

def loopOf (f : Func) (r : Nat) : Code := match findL r (bodyOf f) with
  | some c => c
  | none => .skip

def lookL.{u} {α : Type u} : List (Nat × α) → Nat → Option α
  | [], _ => none
  | (k, a) :: r, t => if Nat.beq k t = true then some a else lookL r t

/-- A function, over data. -/
noncomputable def runFn (TT : Tab) (Δ : List (Nat × CallO)) (Λ : List (Nat × LoopO)) (f : Func) (ps : List SV) (rsh : Shape) (x : SV.denL ps) : Option rsh.den :=
  runF TT (lookL Δ) (upTo f.ntmps) (lookL Λ) (bodyOf f) f.results.toList ps rsh x

noncomputable def stepFn (TT : Tab) (Δ : List (Nat × CallO)) (Λ : List (Nat × LoopO)) (ok : Nat → Bool) (f : Func) (r : Nat) (head : Shape) (ways : List Way) (x : head.den) : Option (head.den ⊕ denX ways) :=
  stepL TT (lookL Δ) ok (lookL Λ) head ways (loopOf f r) x

/-! ### Putting a program's functions together -/
/-- The loops of a text, those over functions too; none within another. -/
def topLoops : Code → List Code
  | .seq a b => topLoops a ++ topLoops b
  | .cond _ a b => topLoops a ++ topLoops b
  | .block _ c => topLoops c
  | .scope c => topLoops c
  | .loop c => [.loop c]
  | .rangeFunc g ps asg body => [.rangeFunc g ps asg body]
  | _ => []

def headReg : Code → Nat
  | .loop c => firstReg c
  | .rangeFunc _ _ asg _ => firstReg asg
  | _ => 0

theorem lookL_mem.{u} {α : Type u} {k : Nat} {a : α} : ∀ {l : List (Nat × α)}, lookL l k = some a → (k, a) ∈ l
  | [], h => by cases h
  | (j, b) :: r, h => by
    simp only [lookL] at h
    split at h
    · rename_i hj
      injection h with h
      rw [Nat.eq_of_beq_eq_true hj, h]
      exact List.mem_cons_self ..
    · exact List.mem_cons_of_mem _ (lookL_mem h)

/-- A loop's evaluation, in whatever frame that writes these slots. -/
def LoopAt (P : Program) (ok : Nat → Bool) (inn : Bool) (l : LoopO) (c : Code) : Prop := ∀ n : Slots, n.ok = ok → ∀ ρ, (inn = true ∨ (ρ = none ∧ n.marks = true)) → CodeOK P n ρ l c

/-- A text's loops are told of. -/
def LoopsAt (P : Program) (ok : Nat → Bool) (inn : Bool) (Λ : List (Nat × LoopO)) (c : Code) : Prop := ∀ n : Slots, n.ok = ok → ∀ ρ, (inn = true ∨ (ρ = none ∧ n.marks = true)) → LoopsIn P n ρ (lookL Λ) c

theorem loopsIn_of {P : Program} {n : Slots} {ρ : Option Nat} {Λ : Nat → Option LoopO} : ∀ (c : Code), (∀ d ∈ topLoops c, ∀ l, Λ (headReg d) = some l → CodeOK P n ρ l d) → LoopsIn P n ρ Λ c
  | .seq a b, h => ⟨loopsIn_of a fun d hd => h d (List.mem_append_left _ hd), loopsIn_of b fun d hd => h d (List.mem_append_right _ hd)⟩
  | .cond _ a b, h => ⟨loopsIn_of a fun d hd => h d (List.mem_append_left _ hd), loopsIn_of b fun d hd => h d (List.mem_append_right _ hd)⟩
  | .block _ c, h => loopsIn_of c h
  | .scope c, h => loopsIn_of c h
  | .loop c, h => fun l hl => h (.loop c) (List.mem_singleton.2 rfl) l hl
  | .rangeFunc g ps asg body, h => fun l hl => h (.rangeFunc g ps asg body) (List.mem_singleton.2 rfl) l hl
  | .skip, _ => trivial
  | .region .., _ => trivial
  | .exit _, _ => trivial
  | .label _, _ => trivial
  | .goto _, _ => trivial
  | .ret, _ => trivial
  | .refuse _, _ => trivial

/-- The loops of a text, one by one. -/
def ZipOK (P : Program) (ok : Nat → Bool) (inn : Bool) : List (Nat × LoopO) → List Code → Prop
  | [], [] => True
  | p :: r, c :: cs => LoopAt P ok inn p.2 c ∧ ZipOK P ok inn r cs
  | _, _ => False

theorem zip_get {P : Program} {n : Slots} {ok : Nat → Bool} {inn : Bool} (hn : n.ok = ok) {ρ : Option Nat} (hi : inn = true ∨ (ρ = none ∧ n.marks = true)) : ∀ {Λ : List (Nat × LoopO)} {cs : List Code}, ZipOK P ok inn Λ cs → cs.map headReg = Λ.map (fun p => p.1) → (Λ.map (fun p => p.1)).Nodup → ∀ d ∈ cs, ∀ l, lookL Λ (headReg d) = some l → CodeOK P n ρ l d
  | [], [], _, _, _, d, hd, _, _ => by cases hd
  | [], _ :: _, h, _, _, _, _, _, _ => h.elim
  | _ :: _, [], h, _, _, _, _, _, _ => h.elim
  | (j, l0) :: r, c :: cs, h, he, hnd, d, hd, l, hl => by
    simp only [List.map_cons, List.cons.injEq] at he
    simp only [List.map_cons, List.nodup_cons] at hnd
    simp only [lookL] at hl
    rcases List.mem_cons.1 hd with rfl | hd
    · rw [if_pos (by rw [he.1]; exact Nat.beq_refl _)] at hl
      injection hl with hl
      subst hl
      exact h.1 n hn ρ hi
    · have hmem : headReg d ∈ r.map (fun p => p.1) := by rw [← he.2]; exact List.mem_map_of_mem hd
      rw [if_neg (fun q => hnd.1 (by rw [Nat.eq_of_beq_eq_true q]; exact hmem))] at hl
      exact zip_get hn hi h.2 he.2 hnd.2 d hd l hl

theorem loopsAt_zip {P : Program} {ok : Nat → Bool} {inn : Bool} {Λ : List (Nat × LoopO)} {c : Code} {cs : List Code} (hc : topLoops c = cs) (hr : cs.map headReg = Λ.map (fun p => p.1)) (hn : nodupN (Λ.map (fun p => p.1)) = true) (h : ZipOK P ok inn Λ cs) : LoopsAt P ok inn Λ c :=
  fun n hok ρ hi => loopsIn_of c fun d hd => zip_get hok hi h hr (nodupN_iff hn) d (by rw [← hc]; exact hd)

/-- The calls, one by one. -/
def AllCalls (P : Program) : List (Nat × CallO) → Prop
  | [] => True
  | p :: r => AnyOK P p.1 p.2 ∧ AllCalls P r

theorem callsOK_of {P : Program} {Δ : List (Nat × CallO)} (h : AllCalls P Δ) : CallsOK P (lookL Δ) := by
  intro f co hf
  have hm := lookL_mem hf
  clear hf
  induction Δ with
  | nil => cases hm
  | cons p r ih =>
    rcases List.mem_cons.1 hm with e | hm
    · subst e; exact h.1
    · exact ih h.2 hm

/-- A function's contract. -/
theorem runFn_ok {P : Program} {TT : Tab} (hm : P.follows .mixedOrders = true) (hP : TabOK P TT) {Δ : List (Nat × CallO)} (hΔ : AllCalls P Δ) {Λ : List (Nat × LoopO)} {f : Nat} {fn : Func} {ps : List SV} {rsh : Shape} {c : Code} (hF : FnOK P f fn c ps rsh) (hc : bodyOf fn = c)
    (hL : LoopsAt P (upTo fn.ntmps) false Λ c) : CallOK P f (mkCall ps rsh (runFn TT Δ Λ fn ps rsh)) := by
  subst hc
  exact mkCall_ok hm hP (callsOK_of hΔ) hF (fun base => hL (frameSlots base fn.ntmps) rfl none (.inr ⟨rfl, rfl⟩)) fun x y h => h

end Go.Proofs.Rf
/- The table of types of the program. -/
namespace Go.Proofs.Rf
open Go Go.RowKit
def tyTab : List (Nat × TD) := [(1, { k := TK.oth, size := 1, bytes := 8, zero := [AV.d Ty.fv (Int.ofNat 0)], ty := some Ty.fv, cmp := true }),
  (2, { k := TK.int Go.IntKind.i64, size := 1, bytes := 8, zero := [AV.d (Ty.int Go.IntKind.i64) (Int.ofNat 0)], ty := some (Ty.int Go.IntKind.i64), cmp := true }),
  (3, { k := TK.int Go.IntKind.i64, size := 1, bytes := 8, zero := [AV.d (Ty.int Go.IntKind.i64) (Int.ofNat 0)], ty := some (Ty.int Go.IntKind.i64), cmp := true }),
  (4, { k := TK.bool, size := 1, bytes := 1, zero := [AV.d Ty.bool false], ty := some Ty.bool, cmp := true }),
  (5, { k := TK.int Go.IntKind.u8, size := 1, bytes := 1, zero := [AV.d (Ty.int Go.IntKind.u8) (Int.ofNat 0)], ty := some (Ty.int Go.IntKind.u8), cmp := true }),
  (6, { k := TK.int Go.IntKind.u8, size := 1, bytes := 1, zero := [AV.d (Ty.int Go.IntKind.u8) (Int.ofNat 0)], ty := some (Ty.int Go.IntKind.u8), cmp := true }),
  (7, { k := TK.st [(0, 2), (1, 3), (2, 4), (3, 6)], size := 4, bytes := 24, zero := [AV.d (Ty.int Go.IntKind.i64) (Int.ofNat 0), AV.d (Ty.int Go.IntKind.i64) (Int.ofNat 0), AV.d Ty.bool false, AV.d (Ty.int Go.IntKind.u8) (Int.ofNat 0)], ty := some (Ty.pr (Ty.int Go.IntKind.i64) (Ty.pr (Ty.int Go.IntKind.i64) (Ty.pr Ty.bool (Ty.int Go.IntKind.u8)))), cmp := true }),
  (8, { k := TK.st [(0, 2), (1, 3), (2, 4), (3, 6)], size := 4, bytes := 24, zero := [AV.d (Ty.int Go.IntKind.i64) (Int.ofNat 0), AV.d (Ty.int Go.IntKind.i64) (Int.ofNat 0), AV.d Ty.bool false, AV.d (Ty.int Go.IntKind.u8) (Int.ofNat 0)], ty := some (Ty.pr (Ty.int Go.IntKind.i64) (Ty.pr (Ty.int Go.IntKind.i64) (Ty.pr Ty.bool (Ty.int Go.IntKind.u8)))), cmp := true }),
  (9, { k := TK.str, size := 1, bytes := 16, zero := [AV.d Ty.str []], ty := some Ty.str, cmp := true }),
  (10, { k := TK.str, size := 1, bytes := 16, zero := [AV.d Ty.str []], ty := some Ty.str, cmp := true }),
  (11, { k := TK.str, size := 1, bytes := 16, zero := [AV.d Ty.str []], ty := some Ty.str, cmp := true }),
  (12, { k := TK.int Go.IntKind.u64, size := 1, bytes := 8, zero := [AV.d (Ty.int Go.IntKind.u64) (Int.ofNat 0)], ty := some (Ty.int Go.IntKind.u64), cmp := true }),
  (13, { k := TK.st [(0, 9), (1, 12)], size := 2, bytes := 24, zero := [AV.d Ty.str [], AV.d (Ty.int Go.IntKind.u64) (Int.ofNat 0)], ty := some (Ty.pr Ty.str (Ty.int Go.IntKind.u64)), cmp := false }),
  (14, { k := TK.st [(0, 9), (1, 12)], size := 2, bytes := 24, zero := [AV.d Ty.str [], AV.d (Ty.int Go.IntKind.u64) (Int.ofNat 0)], ty := some (Ty.pr Ty.str (Ty.int Go.IntKind.u64)), cmp := false }),
  (15, { k := TK.pt 238, size := 1, bytes := 8, zero := [AV.np], ty := none, cmp := true }),
  (16, { k := TK.pt 241, size := 1, bytes := 8, zero := [AV.np], ty := none, cmp := true }),
  (17, { k := TK.pt 248, size := 1, bytes := 8, zero := [AV.np], ty := none, cmp := true }),
  (18, { k := TK.st [(0, 17)], size := 1, bytes := 8, zero := [AV.np], ty := none, cmp := false }),
  (19, { k := TK.st [(0, 17)], size := 1, bytes := 8, zero := [AV.np], ty := none, cmp := false }),
  (20, { k := TK.ifc, size := 1, bytes := 16, zero := [AV.d Ty.ic true], ty := some Ty.ic, cmp := true }),
  (21, { k := TK.int Go.IntKind.i32, size := 1, bytes := 4, zero := [AV.d (Ty.int Go.IntKind.i32) (Int.ofNat 0)], ty := some (Ty.int Go.IntKind.i32), cmp := true }),
  (22, { k := TK.oth, size := 1, bytes := 8, zero := [AV.d Ty.fv (Int.ofNat 0)], ty := some Ty.fv, cmp := true }),
  (23, { k := TK.oth, size := 1, bytes := 8, zero := [AV.d Ty.fv (Int.ofNat 0)], ty := some Ty.fv, cmp := true }),
  (24, { k := TK.int Go.IntKind.i64, size := 1, bytes := 8, zero := [AV.d (Ty.int Go.IntKind.i64) (Int.ofNat 0)], ty := some (Ty.int Go.IntKind.i64), cmp := true }),
  (26, { k := TK.oth, size := 1, bytes := 8, zero := [AV.d Ty.fv (Int.ofNat 0)], ty := some Ty.fv, cmp := true }),
  (28, { k := TK.oth, size := 1, bytes := 8, zero := [AV.d Ty.fv (Int.ofNat 0)], ty := some Ty.fv, cmp := true }),
  (30, { k := TK.oth, size := 1, bytes := 8, zero := [AV.d Ty.fv (Int.ofNat 0)], ty := some Ty.fv, cmp := true }),
  (32, { k := TK.oth, size := 1, bytes := 8, zero := [AV.d Ty.fv (Int.ofNat 0)], ty := some Ty.fv, cmp := true }),
  (33, { k := TK.oth, size := 1, bytes := 8, zero := [AV.d Ty.fv (Int.ofNat 0)], ty := some Ty.fv, cmp := true }),
  (34, { k := TK.oth, size := 1, bytes := 8, zero := [AV.d Ty.fv (Int.ofNat 0)], ty := some Ty.fv, cmp := true }),
  (35, { k := TK.oth, size := 1, bytes := 8, zero := [AV.d Ty.fv (Int.ofNat 0)], ty := some Ty.fv, cmp := true }),
  (36, { k := TK.int Go.IntKind.u64, size := 1, bytes := 8, zero := [AV.d (Ty.int Go.IntKind.u64) (Int.ofNat 0)], ty := some (Ty.int Go.IntKind.u64), cmp := true }),
  (38, { k := TK.oth, size := 1, bytes := 8, zero := [AV.d Ty.fv (Int.ofNat 0)], ty := some Ty.fv, cmp := true }),
  (40, { k := TK.oth, size := 1, bytes := 8, zero := [AV.d Ty.fv (Int.ofNat 0)], ty := some Ty.fv, cmp := true }),
  (42, { k := TK.oth, size := 1, bytes := 8, zero := [AV.d Ty.fv (Int.ofNat 0)], ty := some Ty.fv, cmp := true }),
  (44, { k := TK.oth, size := 1, bytes := 8, zero := [AV.d Ty.fv (Int.ofNat 0)], ty := some Ty.fv, cmp := true }),
  (45, { k := TK.oth, size := 1, bytes := 8, zero := [AV.d Ty.fv (Int.ofNat 0)], ty := some Ty.fv, cmp := true }),
  (46, { k := TK.oth, size := 1, bytes := 8, zero := [AV.d Ty.fv (Int.ofNat 0)], ty := some Ty.fv, cmp := true }),
  (47, { k := TK.oth, size := 1, bytes := 8, zero := [AV.d Ty.fv (Int.ofNat 0)], ty := some Ty.fv, cmp := true }),
  (48, { k := TK.oth, size := 1, bytes := 8, zero := [AV.d Ty.fv (Int.ofNat 0)], ty := some Ty.fv, cmp := true }),
  (50, { k := TK.oth, size := 1, bytes := 8, zero := [AV.d Ty.fv (Int.ofNat 0)], ty := some Ty.fv, cmp := true }),
  (51, { k := TK.sl 36, size := 1, bytes := 24, zero := [AV.nl], ty := some (Ty.sl (Ty.int Go.IntKind.u64)), cmp := true }),
  (52, { k := TK.oth, size := 1, bytes := 8, zero := [AV.d Ty.fv (Int.ofNat 0)], ty := some Ty.fv, cmp := true }),
  (53, { k := TK.oth, size := 1, bytes := 8, zero := [AV.d Ty.fv (Int.ofNat 0)], ty := some Ty.fv, cmp := true }),
  (54, { k := TK.sl 53, size := 1, bytes := 24, zero := [AV.nl], ty := some (Ty.sl Ty.fv), cmp := true }),
  (55, { k := TK.oth, size := 1, bytes := 8, zero := [AV.d Ty.fv (Int.ofNat 0)], ty := some Ty.fv, cmp := true }),
  (56, { k := TK.sl 55, size := 1, bytes := 24, zero := [AV.nl], ty := some (Ty.sl Ty.fv), cmp := true }),
  (57, { k := TK.oth, size := 1, bytes := 8, zero := [AV.d Ty.fv (Int.ofNat 0)], ty := some Ty.fv, cmp := true }),
  (58, { k := TK.oth, size := 1, bytes := 8, zero := [AV.d Ty.fv (Int.ofNat 0)], ty := some Ty.fv, cmp := true }),
  (59, { k := TK.sl 58, size := 1, bytes := 24, zero := [AV.nl], ty := some (Ty.sl Ty.fv), cmp := true }),
  (60, { k := TK.oth, size := 1, bytes := 8, zero := [AV.d Ty.fv (Int.ofNat 0)], ty := some Ty.fv, cmp := true }),
  (62, { k := TK.oth, size := 1, bytes := 8, zero := [AV.d Ty.fv (Int.ofNat 0)], ty := some Ty.fv, cmp := true }),
  (64, { k := TK.oth, size := 1, bytes := 8, zero := [AV.d Ty.fv (Int.ofNat 0)], ty := some Ty.fv, cmp := true }),
  (65, { k := TK.oth, size := 1, bytes := 8, zero := [AV.d Ty.fv (Int.ofNat 0)], ty := some Ty.fv, cmp := true }),
  (66, { k := TK.sl 9, size := 1, bytes := 24, zero := [AV.nl], ty := some (Ty.sl Ty.str), cmp := true }),
  (67, { k := TK.st [(0, 3), (1, 4)], size := 2, bytes := 16, zero := [AV.d (Ty.int Go.IntKind.i64) (Int.ofNat 0), AV.d Ty.bool false], ty := some (Ty.pr (Ty.int Go.IntKind.i64) Ty.bool), cmp := true }),
  (68, { k := TK.st [(0, 3), (1, 4)], size := 2, bytes := 16, zero := [AV.d (Ty.int Go.IntKind.i64) (Int.ofNat 0), AV.d Ty.bool false], ty := some (Ty.pr (Ty.int Go.IntKind.i64) Ty.bool), cmp := true }),
  (69, { k := TK.st [(0, 68), (2, 9)], size := 3, bytes := 32, zero := [AV.d (Ty.int Go.IntKind.i64) (Int.ofNat 0), AV.d Ty.bool false, AV.d Ty.str []], ty := some (Ty.pr (Ty.pr (Ty.int Go.IntKind.i64) Ty.bool) Ty.str), cmp := true }),
  (70, { k := TK.st [(0, 68), (2, 9)], size := 3, bytes := 32, zero := [AV.d (Ty.int Go.IntKind.i64) (Int.ofNat 0), AV.d Ty.bool false, AV.d Ty.str []], ty := some (Ty.pr (Ty.pr (Ty.int Go.IntKind.i64) Ty.bool) Ty.str), cmp := true }),
  (72, { k := TK.oth, size := 1, bytes := 8, zero := [AV.d Ty.fv (Int.ofNat 0)], ty := some Ty.fv, cmp := true }),
  (74, { k := TK.oth, size := 1, bytes := 8, zero := [AV.d Ty.fv (Int.ofNat 0)], ty := some Ty.fv, cmp := true }),
  (75, { k := TK.ar 2 9, size := 2, bytes := 32, zero := [AV.d Ty.str [], AV.d Ty.str []], ty := some (Ty.pr Ty.str Ty.str), cmp := true }),
  (76, { k := TK.oth, size := 1, bytes := 8, zero := [AV.d Ty.fv (Int.ofNat 0)], ty := some Ty.fv, cmp := true }),
  (77, { k := TK.sl 3, size := 1, bytes := 24, zero := [AV.nl], ty := some (Ty.sl (Ty.int Go.IntKind.i64)), cmp := true }),
  (78, { k := TK.st [(0, 4), (1, 77)], size := 2, bytes := 32, zero := [AV.d Ty.bool false, AV.nl], ty := some (Ty.pr Ty.bool (Ty.sl (Ty.int Go.IntKind.i64))), cmp := true }),
  (79, { k := TK.st [(0, 4), (1, 77)], size := 2, bytes := 32, zero := [AV.d Ty.bool false, AV.nl], ty := some (Ty.pr Ty.bool (Ty.sl (Ty.int Go.IntKind.i64))), cmp := true }),
  (81, { k := TK.oth, size := 1, bytes := 8, zero := [AV.d Ty.fv (Int.ofNat 0)], ty := some Ty.fv, cmp := true }),
  (82, { k := TK.oth, size := 1, bytes := 8, zero := [AV.d Ty.fv (Int.ofNat 0)], ty := some Ty.fv, cmp := true }),
  (83, { k := TK.sl 102, size := 1, bytes := 24, zero := [AV.nl], ty := some (Ty.sl (Ty.int Go.IntKind.u32)), cmp := true }),
  (84, { k := TK.st [(0, 4), (1, 83)], size := 2, bytes := 32, zero := [AV.d Ty.bool false, AV.nl], ty := some (Ty.pr Ty.bool (Ty.sl (Ty.int Go.IntKind.u32))), cmp := true }),
  (85, { k := TK.st [(0, 4), (1, 83)], size := 2, bytes := 32, zero := [AV.d Ty.bool false, AV.nl], ty := some (Ty.pr Ty.bool (Ty.sl (Ty.int Go.IntKind.u32))), cmp := true }),
  (87, { k := TK.oth, size := 1, bytes := 8, zero := [AV.d Ty.fv (Int.ofNat 0)], ty := some Ty.fv, cmp := true }),
  (88, { k := TK.oth, size := 1, bytes := 8, zero := [AV.d Ty.fv (Int.ofNat 0)], ty := some Ty.fv, cmp := true }),
  (89, { k := TK.oth, size := 1, bytes := 8, zero := [AV.d Ty.fv (Int.ofNat 0)], ty := some Ty.fv, cmp := true }),
  (90, { k := TK.oth, size := 1, bytes := 8, zero := [AV.d Ty.fv (Int.ofNat 0)], ty := some Ty.fv, cmp := true }),
  (91, { k := TK.oth, size := 1, bytes := 8, zero := [AV.d Ty.fv (Int.ofNat 0)], ty := some Ty.fv, cmp := true }),
  (92, { k := TK.oth, size := 1, bytes := 8, zero := [AV.d Ty.fv (Int.ofNat 0)], ty := some Ty.fv, cmp := true }),
  (93, { k := TK.oth, size := 1, bytes := 8, zero := [AV.d Ty.fv (Int.ofNat 0)], ty := some Ty.fv, cmp := true }),
  (94, { k := TK.oth, size := 1, bytes := 8, zero := [AV.d Ty.fv (Int.ofNat 0)], ty := some Ty.fv, cmp := true }),
  (95, { k := TK.oth, size := 1, bytes := 8, zero := [AV.d Ty.fv (Int.ofNat 0)], ty := some Ty.fv, cmp := true }),
  (96, { k := TK.oth, size := 1, bytes := 8, zero := [AV.d Ty.fv (Int.ofNat 0)], ty := some Ty.fv, cmp := true }),
  (97, { k := TK.oth, size := 1, bytes := 8, zero := [AV.d Ty.fv (Int.ofNat 0)], ty := some Ty.fv, cmp := true }),
  (98, { k := TK.oth, size := 1, bytes := 8, zero := [AV.d Ty.fv (Int.ofNat 0)], ty := some Ty.fv, cmp := true }),
  (99, { k := TK.oth, size := 1, bytes := 8, zero := [AV.d Ty.fv (Int.ofNat 0)], ty := some Ty.fv, cmp := true }),
  (100, { k := TK.oth, size := 1, bytes := 8, zero := [AV.d Ty.fv (Int.ofNat 0)], ty := some Ty.fv, cmp := true }),
  (101, { k := TK.oth, size := 1, bytes := 8, zero := [AV.d Ty.fv (Int.ofNat 0)], ty := some Ty.fv, cmp := true }),
  (102, { k := TK.int Go.IntKind.u32, size := 1, bytes := 4, zero := [AV.d (Ty.int Go.IntKind.u32) (Int.ofNat 0)], ty := some (Ty.int Go.IntKind.u32), cmp := true }),
  (103, { k := TK.oth, size := 1, bytes := 8, zero := [AV.d Ty.fv (Int.ofNat 0)], ty := some Ty.fv, cmp := true }),
  (104, { k := TK.st [(0, 9), (1, 102), (2, 103)], size := 3, bytes := 32, zero := [AV.d Ty.str [], AV.d (Ty.int Go.IntKind.u32) (Int.ofNat 0), AV.d Ty.fv (Int.ofNat 0)], ty := some (Ty.pr Ty.str (Ty.pr (Ty.int Go.IntKind.u32) Ty.fv)), cmp := true }),
  (105, { k := TK.st [(0, 9), (1, 102), (2, 103)], size := 3, bytes := 32, zero := [AV.d Ty.str [], AV.d (Ty.int Go.IntKind.u32) (Int.ofNat 0), AV.d Ty.fv (Int.ofNat 0)], ty := some (Ty.pr Ty.str (Ty.pr (Ty.int Go.IntKind.u32) Ty.fv)), cmp := true }),
  (106, { k := TK.ar 4 105, size := 12, bytes := 128, zero := [AV.d Ty.str [], AV.d (Ty.int Go.IntKind.u32) (Int.ofNat 0), AV.d Ty.fv (Int.ofNat 0), AV.d Ty.str [], AV.d (Ty.int Go.IntKind.u32) (Int.ofNat 0), AV.d Ty.fv (Int.ofNat 0), AV.d Ty.str [], AV.d (Ty.int Go.IntKind.u32) (Int.ofNat 0), AV.d Ty.fv (Int.ofNat 0), AV.d Ty.str [], AV.d (Ty.int Go.IntKind.u32) (Int.ofNat 0), AV.d Ty.fv (Int.ofNat 0)], ty := some (Ty.pr (Ty.pr Ty.str (Ty.pr (Ty.int Go.IntKind.u32) Ty.fv)) (Ty.pr (Ty.pr Ty.str (Ty.pr (Ty.int Go.IntKind.u32) Ty.fv)) (Ty.pr (Ty.pr Ty.str (Ty.pr (Ty.int Go.IntKind.u32) Ty.fv)) (Ty.pr Ty.str (Ty.pr (Ty.int Go.IntKind.u32) Ty.fv))))), cmp := true }),
  (108, { k := TK.oth, size := 1, bytes := 8, zero := [AV.d Ty.fv (Int.ofNat 0)], ty := some Ty.fv, cmp := true }),
  (109, { k := TK.oth, size := 1, bytes := 8, zero := [AV.d Ty.fv (Int.ofNat 0)], ty := some Ty.fv, cmp := true }),
  (110, { k := TK.oth, size := 1, bytes := 8, zero := [AV.d Ty.fv (Int.ofNat 0)], ty := some Ty.fv, cmp := true }),
  (111, { k := TK.oth, size := 1, bytes := 8, zero := [AV.d Ty.fv (Int.ofNat 0)], ty := some Ty.fv, cmp := true }),
  (112, { k := TK.oth, size := 1, bytes := 8, zero := [AV.d Ty.fv (Int.ofNat 0)], ty := some Ty.fv, cmp := true }),
  (113, { k := TK.oth, size := 1, bytes := 8, zero := [AV.d Ty.fv (Int.ofNat 0)], ty := some Ty.fv, cmp := true }),
  (114, { k := TK.oth, size := 1, bytes := 8, zero := [AV.d Ty.fv (Int.ofNat 0)], ty := some Ty.fv, cmp := true }),
  (115, { k := TK.oth, size := 1, bytes := 8, zero := [AV.d Ty.fv (Int.ofNat 0)], ty := some Ty.fv, cmp := true }),
  (116, { k := TK.int Go.IntKind.u64, size := 1, bytes := 8, zero := [AV.d (Ty.int Go.IntKind.u64) (Int.ofNat 0)], ty := some (Ty.int Go.IntKind.u64), cmp := true }),
  (117, { k := TK.oth, size := 1, bytes := 8, zero := [AV.d Ty.fv (Int.ofNat 0)], ty := some Ty.fv, cmp := true }),
  (118, { k := TK.oth, size := 1, bytes := 8, zero := [AV.d Ty.fv (Int.ofNat 0)], ty := some Ty.fv, cmp := true }),
  (119, { k := TK.oth, size := 1, bytes := 8, zero := [AV.d Ty.fv (Int.ofNat 0)], ty := some Ty.fv, cmp := true }),
  (120, { k := TK.oth, size := 1, bytes := 8, zero := [AV.d Ty.fv (Int.ofNat 0)], ty := some Ty.fv, cmp := true }),
  (121, { k := TK.oth, size := 1, bytes := 8, zero := [AV.d Ty.fv (Int.ofNat 0)], ty := some Ty.fv, cmp := true }),
  (122, { k := TK.oth, size := 1, bytes := 8, zero := [AV.d Ty.fv (Int.ofNat 0)], ty := some Ty.fv, cmp := true }),
  (123, { k := TK.ar 2 85, size := 4, bytes := 64, zero := [AV.d Ty.bool false, AV.nl, AV.d Ty.bool false, AV.nl], ty := some (Ty.pr (Ty.pr Ty.bool (Ty.sl (Ty.int Go.IntKind.u32))) (Ty.pr Ty.bool (Ty.sl (Ty.int Go.IntKind.u32)))), cmp := true }),
  (124, { k := TK.oth, size := 1, bytes := 8, zero := [AV.d Ty.fv (Int.ofNat 0)], ty := some Ty.fv, cmp := true }),
  (125, { k := TK.oth, size := 1, bytes := 8, zero := [AV.d Ty.fv (Int.ofNat 0)], ty := some Ty.fv, cmp := true }),
  (126, { k := TK.oth, size := 1, bytes := 8, zero := [AV.d Ty.fv (Int.ofNat 0)], ty := some Ty.fv, cmp := true }),
  (127, { k := TK.oth, size := 1, bytes := 8, zero := [AV.d Ty.fv (Int.ofNat 0)], ty := some Ty.fv, cmp := true }),
  (128, { k := TK.ar 1 9, size := 1, bytes := 16, zero := [AV.d Ty.str []], ty := some Ty.str, cmp := true }),
  (129, { k := TK.oth, size := 1, bytes := 8, zero := [AV.d Ty.fv (Int.ofNat 0)], ty := some Ty.fv, cmp := true }),
  (131, { k := TK.oth, size := 1, bytes := 8, zero := [AV.d Ty.fv (Int.ofNat 0)], ty := some Ty.fv, cmp := true }),
  (132, { k := TK.mp 9 4, size := 1, bytes := 8, zero := [AV.mnil], ty := none, cmp := true }),
  (134, { k := TK.ifc, size := 1, bytes := 16, zero := [AV.d Ty.ic true], ty := some Ty.ic, cmp := false }),
  (135, { k := TK.ifc, size := 1, bytes := 16, zero := [AV.d Ty.ic true], ty := some Ty.ic, cmp := false }),
  (137, { k := TK.oth, size := 1, bytes := 8, zero := [AV.d Ty.fv (Int.ofNat 0)], ty := some Ty.fv, cmp := true }),
  (139, { k := TK.oth, size := 1, bytes := 8, zero := [AV.d Ty.fv (Int.ofNat 0)], ty := some Ty.fv, cmp := true }),
  (140, { k := TK.oth, size := 1, bytes := 8, zero := [AV.d Ty.fv (Int.ofNat 0)], ty := some Ty.fv, cmp := true }),
  (141, { k := TK.oth, size := 1, bytes := 8, zero := [AV.d Ty.fv (Int.ofNat 0)], ty := some Ty.fv, cmp := true }),
  (142, { k := TK.sl 5, size := 1, bytes := 24, zero := [AV.nl], ty := some (Ty.sl (Ty.int Go.IntKind.u8)), cmp := true }),
  (143, { k := TK.oth, size := 1, bytes := 8, zero := [AV.d Ty.fv (Int.ofNat 0)], ty := some Ty.fv, cmp := true }),
  (144, { k := TK.oth, size := 1, bytes := 8, zero := [AV.d Ty.fv (Int.ofNat 0)], ty := some Ty.fv, cmp := true }),
  (145, { k := TK.oth, size := 1, bytes := 8, zero := [AV.d Ty.fv (Int.ofNat 0)], ty := some Ty.fv, cmp := true }),
  (146, { k := TK.oth, size := 1, bytes := 8, zero := [AV.d Ty.fv (Int.ofNat 0)], ty := some Ty.fv, cmp := true }),
  (147, { k := TK.oth, size := 1, bytes := 8, zero := [AV.d Ty.fv (Int.ofNat 0)], ty := some Ty.fv, cmp := true }),
  (148, { k := TK.sl 24, size := 1, bytes := 24, zero := [AV.nl], ty := some (Ty.sl (Ty.int Go.IntKind.i64)), cmp := true }),
  (149, { k := TK.oth, size := 1, bytes := 8, zero := [AV.d Ty.fv (Int.ofNat 0)], ty := some Ty.fv, cmp := true }),
  (150, { k := TK.oth, size := 1, bytes := 8, zero := [AV.d Ty.fv (Int.ofNat 0)], ty := some Ty.fv, cmp := true }),
  (151, { k := TK.oth, size := 1, bytes := 8, zero := [AV.d Ty.fv (Int.ofNat 0)], ty := some Ty.fv, cmp := true }),
  (152, { k := TK.oth, size := 1, bytes := 8, zero := [AV.d Ty.fv (Int.ofNat 0)], ty := some Ty.fv, cmp := true }),
  (153, { k := TK.oth, size := 1, bytes := 8, zero := [AV.d Ty.fv (Int.ofNat 0)], ty := some Ty.fv, cmp := true }),
  (154, { k := TK.oth, size := 1, bytes := 8, zero := [AV.d Ty.fv (Int.ofNat 0)], ty := some Ty.fv, cmp := true }),
  (155, { k := TK.oth, size := 1, bytes := 8, zero := [AV.d Ty.fv (Int.ofNat 0)], ty := some Ty.fv, cmp := true }),
  (156, { k := TK.oth, size := 1, bytes := 8, zero := [AV.d Ty.fv (Int.ofNat 0)], ty := some Ty.fv, cmp := true }),
  (157, { k := TK.oth, size := 1, bytes := 8, zero := [AV.d Ty.fv (Int.ofNat 0)], ty := some Ty.fv, cmp := true }),
  (158, { k := TK.oth, size := 1, bytes := 8, zero := [AV.d Ty.fv (Int.ofNat 0)], ty := some Ty.fv, cmp := true }),
  (159, { k := TK.oth, size := 1, bytes := 8, zero := [AV.d Ty.fv (Int.ofNat 0)], ty := some Ty.fv, cmp := true }),
  (160, { k := TK.oth, size := 1, bytes := 8, zero := [AV.d Ty.fv (Int.ofNat 0)], ty := some Ty.fv, cmp := true }),
  (161, { k := TK.oth, size := 1, bytes := 8, zero := [AV.d Ty.fv (Int.ofNat 0)], ty := some Ty.fv, cmp := true }),
  (163, { k := TK.oth, size := 1, bytes := 8, zero := [AV.d Ty.fv (Int.ofNat 0)], ty := some Ty.fv, cmp := true }),
  (164, { k := TK.oth, size := 1, bytes := 8, zero := [AV.d Ty.fv (Int.ofNat 0)], ty := some Ty.fv, cmp := true }),
  (165, { k := TK.oth, size := 1, bytes := 8, zero := [AV.d Ty.fv (Int.ofNat 0)], ty := some Ty.fv, cmp := true }),
  (166, { k := TK.oth, size := 1, bytes := 8, zero := [AV.d Ty.fv (Int.ofNat 0)], ty := some Ty.fv, cmp := true }),
  (167, { k := TK.oth, size := 1, bytes := 8, zero := [AV.d Ty.fv (Int.ofNat 0)], ty := some Ty.fv, cmp := true }),
  (168, { k := TK.oth, size := 1, bytes := 8, zero := [AV.d Ty.fv (Int.ofNat 0)], ty := some Ty.fv, cmp := true }),
  (169, { k := TK.oth, size := 1, bytes := 8, zero := [AV.d Ty.fv (Int.ofNat 0)], ty := some Ty.fv, cmp := true }),
  (170, { k := TK.oth, size := 1, bytes := 8, zero := [AV.d Ty.fv (Int.ofNat 0)], ty := some Ty.fv, cmp := true }),
  (171, { k := TK.oth, size := 1, bytes := 8, zero := [AV.d Ty.fv (Int.ofNat 0)], ty := some Ty.fv, cmp := true }),
  (172, { k := TK.ar 24 5, size := 24, bytes := 24, zero := [AV.d (Ty.int Go.IntKind.u8) (Int.ofNat 0), AV.d (Ty.int Go.IntKind.u8) (Int.ofNat 0), AV.d (Ty.int Go.IntKind.u8) (Int.ofNat 0), AV.d (Ty.int Go.IntKind.u8) (Int.ofNat 0), AV.d (Ty.int Go.IntKind.u8) (Int.ofNat 0), AV.d (Ty.int Go.IntKind.u8) (Int.ofNat 0), AV.d (Ty.int Go.IntKind.u8) (Int.ofNat 0), AV.d (Ty.int Go.IntKind.u8) (Int.ofNat 0), AV.d (Ty.int Go.IntKind.u8) (Int.ofNat 0), AV.d (Ty.int Go.IntKind.u8) (Int.ofNat 0), AV.d (Ty.int Go.IntKind.u8) (Int.ofNat 0), AV.d (Ty.int Go.IntKind.u8) (Int.ofNat 0), AV.d (Ty.int Go.IntKind.u8) (Int.ofNat 0), AV.d (Ty.int Go.IntKind.u8) (Int.ofNat 0), AV.d (Ty.int Go.IntKind.u8) (Int.ofNat 0), AV.d (Ty.int Go.IntKind.u8) (Int.ofNat 0), AV.d (Ty.int Go.IntKind.u8) (Int.ofNat 0), AV.d (Ty.int Go.IntKind.u8) (Int.ofNat 0), AV.d (Ty.int Go.IntKind.u8) (Int.ofNat 0), AV.d (Ty.int Go.IntKind.u8) (Int.ofNat 0), AV.d (Ty.int Go.IntKind.u8) (Int.ofNat 0), AV.d (Ty.int Go.IntKind.u8) (Int.ofNat 0), AV.d (Ty.int Go.IntKind.u8) (Int.ofNat 0), AV.d (Ty.int Go.IntKind.u8) (Int.ofNat 0)], ty := some (Ty.pr (Ty.int Go.IntKind.u8) (Ty.pr (Ty.int Go.IntKind.u8) (Ty.pr (Ty.int Go.IntKind.u8) (Ty.pr (Ty.int Go.IntKind.u8) (Ty.pr (Ty.int Go.IntKind.u8) (Ty.pr (Ty.int Go.IntKind.u8) (Ty.pr (Ty.int Go.IntKind.u8) (Ty.pr (Ty.int Go.IntKind.u8) (Ty.pr (Ty.int Go.IntKind.u8) (Ty.pr (Ty.int Go.IntKind.u8) (Ty.pr (Ty.int Go.IntKind.u8) (Ty.pr (Ty.int Go.IntKind.u8) (Ty.pr (Ty.int Go.IntKind.u8) (Ty.pr (Ty.int Go.IntKind.u8) (Ty.pr (Ty.int Go.IntKind.u8) (Ty.pr (Ty.int Go.IntKind.u8) (Ty.pr (Ty.int Go.IntKind.u8) (Ty.pr (Ty.int Go.IntKind.u8) (Ty.pr (Ty.int Go.IntKind.u8) (Ty.pr (Ty.int Go.IntKind.u8) (Ty.pr (Ty.int Go.IntKind.u8) (Ty.pr (Ty.int Go.IntKind.u8) (Ty.pr (Ty.int Go.IntKind.u8) (Ty.int Go.IntKind.u8)))))))))))))))))))))))), cmp := true }),
  (173, { k := TK.oth, size := 1, bytes := 8, zero := [AV.d Ty.fv (Int.ofNat 0)], ty := some Ty.fv, cmp := true }),
  (174, { k := TK.oth, size := 1, bytes := 8, zero := [AV.d Ty.fv (Int.ofNat 0)], ty := some Ty.fv, cmp := true }),
  (176, { k := TK.oth, size := 1, bytes := 8, zero := [AV.d Ty.fv (Int.ofNat 0)], ty := some Ty.fv, cmp := true }),
  (178, { k := TK.oth, size := 1, bytes := 8, zero := [AV.d Ty.fv (Int.ofNat 0)], ty := some Ty.fv, cmp := true }),
  (179, { k := TK.pt 181, size := 1, bytes := 8, zero := [AV.np], ty := none, cmp := true }),
  (180, { k := TK.st [(0, 179), (1, 142)], size := 2, bytes := 32, zero := [AV.np, AV.nl], ty := none, cmp := true }),
  (181, { k := TK.st [(0, 179), (1, 142)], size := 2, bytes := 32, zero := [AV.np, AV.nl], ty := none, cmp := true }),
  (182, { k := TK.oth, size := 1, bytes := 8, zero := [AV.d Ty.fv (Int.ofNat 0)], ty := some Ty.fv, cmp := true }),
  (183, { k := TK.oth, size := 1, bytes := 8, zero := [AV.d Ty.fv (Int.ofNat 0)], ty := some Ty.fv, cmp := true }),
  (184, { k := TK.oth, size := 1, bytes := 8, zero := [AV.d Ty.fv (Int.ofNat 0)], ty := some Ty.fv, cmp := true }),
  (185, { k := TK.oth, size := 1, bytes := 8, zero := [AV.d Ty.fv (Int.ofNat 0)], ty := some Ty.fv, cmp := true }),
  (189, { k := TK.oth, size := 1, bytes := 8, zero := [AV.d Ty.fv (Int.ofNat 0)], ty := some Ty.fv, cmp := true }),
  (190, { k := TK.oth, size := 1, bytes := 8, zero := [AV.d Ty.fv (Int.ofNat 0)], ty := some Ty.fv, cmp := true }),
  (191, { k := TK.pt 187, size := 1, bytes := 8, zero := [AV.np], ty := none, cmp := true }),
  (192, { k := TK.oth, size := 1, bytes := 8, zero := [AV.d Ty.fv (Int.ofNat 0)], ty := some Ty.fv, cmp := true }),
  (193, { k := TK.oth, size := 1, bytes := 8, zero := [AV.d Ty.fv (Int.ofNat 0)], ty := some Ty.fv, cmp := true }),
  (194, { k := TK.int Go.IntKind.i64, size := 1, bytes := 8, zero := [AV.d (Ty.int Go.IntKind.i64) (Int.ofNat 0)], ty := some (Ty.int Go.IntKind.i64), cmp := true }),
  (196, { k := TK.oth, size := 1, bytes := 8, zero := [AV.d Ty.fv (Int.ofNat 0)], ty := some Ty.fv, cmp := true }),
  (197, { k := TK.pt 218, size := 1, bytes := 8, zero := [AV.np], ty := none, cmp := true }),
  (198, { k := TK.oth, size := 1, bytes := 8, zero := [AV.d Ty.fv (Int.ofNat 0)], ty := some Ty.fv, cmp := true }),
  (199, { k := TK.oth, size := 1, bytes := 8, zero := [AV.d Ty.fv (Int.ofNat 0)], ty := some Ty.fv, cmp := true }),
  (200, { k := TK.oth, size := 1, bytes := 8, zero := [AV.d Ty.fv (Int.ofNat 0)], ty := some Ty.fv, cmp := true }),
  (201, { k := TK.oth, size := 1, bytes := 8, zero := [AV.d Ty.fv (Int.ofNat 0)], ty := some Ty.fv, cmp := true }),
  (202, { k := TK.oth, size := 1, bytes := 8, zero := [AV.d Ty.fv (Int.ofNat 0)], ty := some Ty.fv, cmp := true }),
  (203, { k := TK.oth, size := 1, bytes := 8, zero := [AV.d Ty.fv (Int.ofNat 0)], ty := some Ty.fv, cmp := true }),
  (204, { k := TK.ar 20 36, size := 20, bytes := 160, zero := [AV.d (Ty.int Go.IntKind.u64) (Int.ofNat 0), AV.d (Ty.int Go.IntKind.u64) (Int.ofNat 0), AV.d (Ty.int Go.IntKind.u64) (Int.ofNat 0), AV.d (Ty.int Go.IntKind.u64) (Int.ofNat 0), AV.d (Ty.int Go.IntKind.u64) (Int.ofNat 0), AV.d (Ty.int Go.IntKind.u64) (Int.ofNat 0), AV.d (Ty.int Go.IntKind.u64) (Int.ofNat 0), AV.d (Ty.int Go.IntKind.u64) (Int.ofNat 0), AV.d (Ty.int Go.IntKind.u64) (Int.ofNat 0), AV.d (Ty.int Go.IntKind.u64) (Int.ofNat 0), AV.d (Ty.int Go.IntKind.u64) (Int.ofNat 0), AV.d (Ty.int Go.IntKind.u64) (Int.ofNat 0), AV.d (Ty.int Go.IntKind.u64) (Int.ofNat 0), AV.d (Ty.int Go.IntKind.u64) (Int.ofNat 0), AV.d (Ty.int Go.IntKind.u64) (Int.ofNat 0), AV.d (Ty.int Go.IntKind.u64) (Int.ofNat 0), AV.d (Ty.int Go.IntKind.u64) (Int.ofNat 0), AV.d (Ty.int Go.IntKind.u64) (Int.ofNat 0), AV.d (Ty.int Go.IntKind.u64) (Int.ofNat 0), AV.d (Ty.int Go.IntKind.u64) (Int.ofNat 0)], ty := some (Ty.pr (Ty.int Go.IntKind.u64) (Ty.pr (Ty.int Go.IntKind.u64) (Ty.pr (Ty.int Go.IntKind.u64) (Ty.pr (Ty.int Go.IntKind.u64) (Ty.pr (Ty.int Go.IntKind.u64) (Ty.pr (Ty.int Go.IntKind.u64) (Ty.pr (Ty.int Go.IntKind.u64) (Ty.pr (Ty.int Go.IntKind.u64) (Ty.pr (Ty.int Go.IntKind.u64) (Ty.pr (Ty.int Go.IntKind.u64) (Ty.pr (Ty.int Go.IntKind.u64) (Ty.pr (Ty.int Go.IntKind.u64) (Ty.pr (Ty.int Go.IntKind.u64) (Ty.pr (Ty.int Go.IntKind.u64) (Ty.pr (Ty.int Go.IntKind.u64) (Ty.pr (Ty.int Go.IntKind.u64) (Ty.pr (Ty.int Go.IntKind.u64) (Ty.pr (Ty.int Go.IntKind.u64) (Ty.pr (Ty.int Go.IntKind.u64) (Ty.int Go.IntKind.u64)))))))))))))))))))), cmp := true }),
  (205, { k := TK.ar 65 5, size := 65, bytes := 65, zero := [AV.d (Ty.int Go.IntKind.u8) (Int.ofNat 0), AV.d (Ty.int Go.IntKind.u8) (Int.ofNat 0), AV.d (Ty.int Go.IntKind.u8) (Int.ofNat 0), AV.d (Ty.int Go.IntKind.u8) (Int.ofNat 0), AV.d (Ty.int Go.IntKind.u8) (Int.ofNat 0), AV.d (Ty.int Go.IntKind.u8) (Int.ofNat 0), AV.d (Ty.int Go.IntKind.u8) (Int.ofNat 0), AV.d (Ty.int Go.IntKind.u8) (Int.ofNat 0), AV.d (Ty.int Go.IntKind.u8) (Int.ofNat 0), AV.d (Ty.int Go.IntKind.u8) (Int.ofNat 0), AV.d (Ty.int Go.IntKind.u8) (Int.ofNat 0), AV.d (Ty.int Go.IntKind.u8) (Int.ofNat 0), AV.d (Ty.int Go.IntKind.u8) (Int.ofNat 0), AV.d (Ty.int Go.IntKind.u8) (Int.ofNat 0), AV.d (Ty.int Go.IntKind.u8) (Int.ofNat 0), AV.d (Ty.int Go.IntKind.u8) (Int.ofNat 0), AV.d (Ty.int Go.IntKind.u8) (Int.ofNat 0), AV.d (Ty.int Go.IntKind.u8) (Int.ofNat 0), AV.d (Ty.int Go.IntKind.u8) (Int.ofNat 0), AV.d (Ty.int Go.IntKind.u8) (Int.ofNat 0), AV.d (Ty.int Go.IntKind.u8) (Int.ofNat 0), AV.d (Ty.int Go.IntKind.u8) (Int.ofNat 0), AV.d (Ty.int Go.IntKind.u8) (Int.ofNat 0), AV.d (Ty.int Go.IntKind.u8) (Int.ofNat 0), AV.d (Ty.int Go.IntKind.u8) (Int.ofNat 0), AV.d (Ty.int Go.IntKind.u8) (Int.ofNat 0), AV.d (Ty.int Go.IntKind.u8) (Int.ofNat 0), AV.d (Ty.int Go.IntKind.u8) (Int.ofNat 0), AV.d (Ty.int Go.IntKind.u8) (Int.ofNat 0), AV.d (Ty.int Go.IntKind.u8) (Int.ofNat 0), AV.d (Ty.int Go.IntKind.u8) (Int.ofNat 0), AV.d (Ty.int Go.IntKind.u8) (Int.ofNat 0), AV.d (Ty.int Go.IntKind.u8) (Int.ofNat 0), AV.d (Ty.int Go.IntKind.u8) (Int.ofNat 0), AV.d (Ty.int Go.IntKind.u8) (Int.ofNat 0), AV.d (Ty.int Go.IntKind.u8) (Int.ofNat 0), AV.d (Ty.int Go.IntKind.u8) (Int.ofNat 0), AV.d (Ty.int Go.IntKind.u8) (Int.ofNat 0), AV.d (Ty.int Go.IntKind.u8) (Int.ofNat 0), AV.d (Ty.int Go.IntKind.u8) (Int.ofNat 0), AV.d (Ty.int Go.IntKind.u8) (Int.ofNat 0), AV.d (Ty.int Go.IntKind.u8) (Int.ofNat 0), AV.d (Ty.int Go.IntKind.u8) (Int.ofNat 0), AV.d (Ty.int Go.IntKind.u8) (Int.ofNat 0), AV.d (Ty.int Go.IntKind.u8) (Int.ofNat 0), AV.d (Ty.int Go.IntKind.u8) (Int.ofNat 0), AV.d (Ty.int Go.IntKind.u8) (Int.ofNat 0), AV.d (Ty.int Go.IntKind.u8) (Int.ofNat 0), AV.d (Ty.int Go.IntKind.u8) (Int.ofNat 0), AV.d (Ty.int Go.IntKind.u8) (Int.ofNat 0), AV.d (Ty.int Go.IntKind.u8) (Int.ofNat 0), AV.d (Ty.int Go.IntKind.u8) (Int.ofNat 0), AV.d (Ty.int Go.IntKind.u8) (Int.ofNat 0), AV.d (Ty.int Go.IntKind.u8) (Int.ofNat 0), AV.d (Ty.int Go.IntKind.u8) (Int.ofNat 0), AV.d (Ty.int Go.IntKind.u8) (Int.ofNat 0), AV.d (Ty.int Go.IntKind.u8) (Int.ofNat 0), AV.d (Ty.int Go.IntKind.u8) (Int.ofNat 0), AV.d (Ty.int Go.IntKind.u8) (Int.ofNat 0), AV.d (Ty.int Go.IntKind.u8) (Int.ofNat 0), AV.d (Ty.int Go.IntKind.u8) (Int.ofNat 0), AV.d (Ty.int Go.IntKind.u8) (Int.ofNat 0), AV.d (Ty.int Go.IntKind.u8) (Int.ofNat 0), AV.d (Ty.int Go.IntKind.u8) (Int.ofNat 0), AV.d (Ty.int Go.IntKind.u8) (Int.ofNat 0)], ty := some (Ty.pr (Ty.int Go.IntKind.u8) (Ty.pr (Ty.int Go.IntKind.u8) (Ty.pr (Ty.int Go.IntKind.u8) (Ty.pr (Ty.int Go.IntKind.u8) (Ty.pr (Ty.int Go.IntKind.u8) (Ty.pr (Ty.int Go.IntKind.u8) (Ty.pr (Ty.int Go.IntKind.u8) (Ty.pr (Ty.int Go.IntKind.u8) (Ty.pr (Ty.int Go.IntKind.u8) (Ty.pr (Ty.int Go.IntKind.u8) (Ty.pr (Ty.int Go.IntKind.u8) (Ty.pr (Ty.int Go.IntKind.u8) (Ty.pr (Ty.int Go.IntKind.u8) (Ty.pr (Ty.int Go.IntKind.u8) (Ty.pr (Ty.int Go.IntKind.u8) (Ty.pr (Ty.int Go.IntKind.u8) (Ty.pr (Ty.int Go.IntKind.u8) (Ty.pr (Ty.int Go.IntKind.u8) (Ty.pr (Ty.int Go.IntKind.u8) (Ty.pr (Ty.int Go.IntKind.u8) (Ty.pr (Ty.int Go.IntKind.u8) (Ty.pr (Ty.int Go.IntKind.u8) (Ty.pr (Ty.int Go.IntKind.u8) (Ty.pr (Ty.int Go.IntKind.u8) (Ty.pr (Ty.int Go.IntKind.u8) (Ty.pr (Ty.int Go.IntKind.u8) (Ty.pr (Ty.int Go.IntKind.u8) (Ty.pr (Ty.int Go.IntKind.u8) (Ty.pr (Ty.int Go.IntKind.u8) (Ty.pr (Ty.int Go.IntKind.u8) (Ty.pr (Ty.int Go.IntKind.u8) (Ty.pr (Ty.int Go.IntKind.u8) (Ty.pr (Ty.int Go.IntKind.u8) (Ty.pr (Ty.int Go.IntKind.u8) (Ty.pr (Ty.int Go.IntKind.u8) (Ty.pr (Ty.int Go.IntKind.u8) (Ty.pr (Ty.int Go.IntKind.u8) (Ty.pr (Ty.int Go.IntKind.u8) (Ty.pr (Ty.int Go.IntKind.u8) (Ty.pr (Ty.int Go.IntKind.u8) (Ty.pr (Ty.int Go.IntKind.u8) (Ty.pr (Ty.int Go.IntKind.u8) (Ty.pr (Ty.int Go.IntKind.u8) (Ty.pr (Ty.int Go.IntKind.u8) (Ty.pr (Ty.int Go.IntKind.u8) (Ty.pr (Ty.int Go.IntKind.u8) (Ty.pr (Ty.int Go.IntKind.u8) (Ty.pr (Ty.int Go.IntKind.u8) (Ty.pr (Ty.int Go.IntKind.u8) (Ty.pr (Ty.int Go.IntKind.u8) (Ty.pr (Ty.int Go.IntKind.u8) (Ty.pr (Ty.int Go.IntKind.u8) (Ty.pr (Ty.int Go.IntKind.u8) (Ty.pr (Ty.int Go.IntKind.u8) (Ty.pr (Ty.int Go.IntKind.u8) (Ty.pr (Ty.int Go.IntKind.u8) (Ty.pr (Ty.int Go.IntKind.u8) (Ty.pr (Ty.int Go.IntKind.u8) (Ty.pr (Ty.int Go.IntKind.u8) (Ty.pr (Ty.int Go.IntKind.u8) (Ty.pr (Ty.int Go.IntKind.u8) (Ty.pr (Ty.int Go.IntKind.u8) (Ty.pr (Ty.int Go.IntKind.u8) (Ty.pr (Ty.int Go.IntKind.u8) (Ty.int Go.IntKind.u8))))))))))))))))))))))))))))))))))))))))))))))))))))))))))))))))), cmp := true }),
  (206, { k := TK.oth, size := 1, bytes := 8, zero := [AV.d Ty.fv (Int.ofNat 0)], ty := some Ty.fv, cmp := true }),
  (207, { k := TK.oth, size := 1, bytes := 8, zero := [AV.d Ty.fv (Int.ofNat 0)], ty := some Ty.fv, cmp := true }),
  (209, { k := TK.oth, size := 1, bytes := 8, zero := [AV.d Ty.fv (Int.ofNat 0)], ty := some Ty.fv, cmp := true }),
  (210, { k := TK.pt 5, size := 1, bytes := 8, zero := [AV.np], ty := none, cmp := true }),
  (212, { k := TK.oth, size := 1, bytes := 8, zero := [AV.d Ty.fv (Int.ofNat 0)], ty := some Ty.fv, cmp := true }),
  (213, { k := TK.oth, size := 1, bytes := 8, zero := [AV.d Ty.fv (Int.ofNat 0)], ty := some Ty.fv, cmp := true }),
  (215, { k := TK.oth, size := 1, bytes := 8, zero := [AV.d Ty.fv (Int.ofNat 0)], ty := some Ty.fv, cmp := true }),
  (216, { k := TK.oth, size := 1, bytes := 8, zero := [AV.d Ty.fv (Int.ofNat 0)], ty := some Ty.fv, cmp := true }),
  (217, { k := TK.st [(0, 9), (1, 9), (2, 135)], size := 3, bytes := 48, zero := [AV.d Ty.str [], AV.d Ty.str [], AV.d Ty.ic true], ty := some (Ty.pr Ty.str (Ty.pr Ty.str Ty.ic)), cmp := false }),
  (218, { k := TK.st [(0, 9), (1, 9), (2, 135)], size := 3, bytes := 48, zero := [AV.d Ty.str [], AV.d Ty.str [], AV.d Ty.ic true], ty := some (Ty.pr Ty.str (Ty.pr Ty.str Ty.ic)), cmp := false }),
  (219, { k := TK.oth, size := 1, bytes := 8, zero := [AV.d Ty.fv (Int.ofNat 0)], ty := some Ty.fv, cmp := true }),
  (220, { k := TK.oth, size := 1, bytes := 8, zero := [AV.d Ty.fv (Int.ofNat 0)], ty := some Ty.fv, cmp := true }),
  (221, { k := TK.up, size := 1, bytes := 8, zero := [AV.np], ty := none, cmp := true }),
  (222, { k := TK.oth, size := 1, bytes := 8, zero := [AV.d Ty.fv (Int.ofNat 0)], ty := some Ty.fv, cmp := true }),
  (223, { k := TK.oth, size := 1, bytes := 8, zero := [AV.d Ty.fv (Int.ofNat 0)], ty := some Ty.fv, cmp := true }),
  (224, { k := TK.oth, size := 1, bytes := 8, zero := [AV.d Ty.fv (Int.ofNat 0)], ty := some Ty.fv, cmp := true }),
  (225, { k := TK.oth, size := 1, bytes := 8, zero := [AV.d Ty.fv (Int.ofNat 0)], ty := some Ty.fv, cmp := true }),
  (226, { k := TK.pt 228, size := 1, bytes := 8, zero := [AV.np], ty := none, cmp := true }),
  (227, { k := TK.st [(0, 9)], size := 1, bytes := 16, zero := [AV.d Ty.str []], ty := some Ty.str, cmp := true }),
  (228, { k := TK.st [(0, 9)], size := 1, bytes := 16, zero := [AV.d Ty.str []], ty := some Ty.str, cmp := true }),
  (229, { k := TK.ar 32 5, size := 32, bytes := 32, zero := [AV.d (Ty.int Go.IntKind.u8) (Int.ofNat 0), AV.d (Ty.int Go.IntKind.u8) (Int.ofNat 0), AV.d (Ty.int Go.IntKind.u8) (Int.ofNat 0), AV.d (Ty.int Go.IntKind.u8) (Int.ofNat 0), AV.d (Ty.int Go.IntKind.u8) (Int.ofNat 0), AV.d (Ty.int Go.IntKind.u8) (Int.ofNat 0), AV.d (Ty.int Go.IntKind.u8) (Int.ofNat 0), AV.d (Ty.int Go.IntKind.u8) (Int.ofNat 0), AV.d (Ty.int Go.IntKind.u8) (Int.ofNat 0), AV.d (Ty.int Go.IntKind.u8) (Int.ofNat 0), AV.d (Ty.int Go.IntKind.u8) (Int.ofNat 0), AV.d (Ty.int Go.IntKind.u8) (Int.ofNat 0), AV.d (Ty.int Go.IntKind.u8) (Int.ofNat 0), AV.d (Ty.int Go.IntKind.u8) (Int.ofNat 0), AV.d (Ty.int Go.IntKind.u8) (Int.ofNat 0), AV.d (Ty.int Go.IntKind.u8) (Int.ofNat 0), AV.d (Ty.int Go.IntKind.u8) (Int.ofNat 0), AV.d (Ty.int Go.IntKind.u8) (Int.ofNat 0), AV.d (Ty.int Go.IntKind.u8) (Int.ofNat 0), AV.d (Ty.int Go.IntKind.u8) (Int.ofNat 0), AV.d (Ty.int Go.IntKind.u8) (Int.ofNat 0), AV.d (Ty.int Go.IntKind.u8) (Int.ofNat 0), AV.d (Ty.int Go.IntKind.u8) (Int.ofNat 0), AV.d (Ty.int Go.IntKind.u8) (Int.ofNat 0), AV.d (Ty.int Go.IntKind.u8) (Int.ofNat 0), AV.d (Ty.int Go.IntKind.u8) (Int.ofNat 0), AV.d (Ty.int Go.IntKind.u8) (Int.ofNat 0), AV.d (Ty.int Go.IntKind.u8) (Int.ofNat 0), AV.d (Ty.int Go.IntKind.u8) (Int.ofNat 0), AV.d (Ty.int Go.IntKind.u8) (Int.ofNat 0), AV.d (Ty.int Go.IntKind.u8) (Int.ofNat 0), AV.d (Ty.int Go.IntKind.u8) (Int.ofNat 0)], ty := some (Ty.pr (Ty.int Go.IntKind.u8) (Ty.pr (Ty.int Go.IntKind.u8) (Ty.pr (Ty.int Go.IntKind.u8) (Ty.pr (Ty.int Go.IntKind.u8) (Ty.pr (Ty.int Go.IntKind.u8) (Ty.pr (Ty.int Go.IntKind.u8) (Ty.pr (Ty.int Go.IntKind.u8) (Ty.pr (Ty.int Go.IntKind.u8) (Ty.pr (Ty.int Go.IntKind.u8) (Ty.pr (Ty.int Go.IntKind.u8) (Ty.pr (Ty.int Go.IntKind.u8) (Ty.pr (Ty.int Go.IntKind.u8) (Ty.pr (Ty.int Go.IntKind.u8) (Ty.pr (Ty.int Go.IntKind.u8) (Ty.pr (Ty.int Go.IntKind.u8) (Ty.pr (Ty.int Go.IntKind.u8) (Ty.pr (Ty.int Go.IntKind.u8) (Ty.pr (Ty.int Go.IntKind.u8) (Ty.pr (Ty.int Go.IntKind.u8) (Ty.pr (Ty.int Go.IntKind.u8) (Ty.pr (Ty.int Go.IntKind.u8) (Ty.pr (Ty.int Go.IntKind.u8) (Ty.pr (Ty.int Go.IntKind.u8) (Ty.pr (Ty.int Go.IntKind.u8) (Ty.pr (Ty.int Go.IntKind.u8) (Ty.pr (Ty.int Go.IntKind.u8) (Ty.pr (Ty.int Go.IntKind.u8) (Ty.pr (Ty.int Go.IntKind.u8) (Ty.pr (Ty.int Go.IntKind.u8) (Ty.pr (Ty.int Go.IntKind.u8) (Ty.pr (Ty.int Go.IntKind.u8) (Ty.int Go.IntKind.u8)))))))))))))))))))))))))))))))), cmp := true }),
  (230, { k := TK.ar 64 5, size := 64, bytes := 64, zero := [AV.d (Ty.int Go.IntKind.u8) (Int.ofNat 0), AV.d (Ty.int Go.IntKind.u8) (Int.ofNat 0), AV.d (Ty.int Go.IntKind.u8) (Int.ofNat 0), AV.d (Ty.int Go.IntKind.u8) (Int.ofNat 0), AV.d (Ty.int Go.IntKind.u8) (Int.ofNat 0), AV.d (Ty.int Go.IntKind.u8) (Int.ofNat 0), AV.d (Ty.int Go.IntKind.u8) (Int.ofNat 0), AV.d (Ty.int Go.IntKind.u8) (Int.ofNat 0), AV.d (Ty.int Go.IntKind.u8) (Int.ofNat 0), AV.d (Ty.int Go.IntKind.u8) (Int.ofNat 0), AV.d (Ty.int Go.IntKind.u8) (Int.ofNat 0), AV.d (Ty.int Go.IntKind.u8) (Int.ofNat 0), AV.d (Ty.int Go.IntKind.u8) (Int.ofNat 0), AV.d (Ty.int Go.IntKind.u8) (Int.ofNat 0), AV.d (Ty.int Go.IntKind.u8) (Int.ofNat 0), AV.d (Ty.int Go.IntKind.u8) (Int.ofNat 0), AV.d (Ty.int Go.IntKind.u8) (Int.ofNat 0), AV.d (Ty.int Go.IntKind.u8) (Int.ofNat 0), AV.d (Ty.int Go.IntKind.u8) (Int.ofNat 0), AV.d (Ty.int Go.IntKind.u8) (Int.ofNat 0), AV.d (Ty.int Go.IntKind.u8) (Int.ofNat 0), AV.d (Ty.int Go.IntKind.u8) (Int.ofNat 0), AV.d (Ty.int Go.IntKind.u8) (Int.ofNat 0), AV.d (Ty.int Go.IntKind.u8) (Int.ofNat 0), AV.d (Ty.int Go.IntKind.u8) (Int.ofNat 0), AV.d (Ty.int Go.IntKind.u8) (Int.ofNat 0), AV.d (Ty.int Go.IntKind.u8) (Int.ofNat 0), AV.d (Ty.int Go.IntKind.u8) (Int.ofNat 0), AV.d (Ty.int Go.IntKind.u8) (Int.ofNat 0), AV.d (Ty.int Go.IntKind.u8) (Int.ofNat 0), AV.d (Ty.int Go.IntKind.u8) (Int.ofNat 0), AV.d (Ty.int Go.IntKind.u8) (Int.ofNat 0), AV.d (Ty.int Go.IntKind.u8) (Int.ofNat 0), AV.d (Ty.int Go.IntKind.u8) (Int.ofNat 0), AV.d (Ty.int Go.IntKind.u8) (Int.ofNat 0), AV.d (Ty.int Go.IntKind.u8) (Int.ofNat 0), AV.d (Ty.int Go.IntKind.u8) (Int.ofNat 0), AV.d (Ty.int Go.IntKind.u8) (Int.ofNat 0), AV.d (Ty.int Go.IntKind.u8) (Int.ofNat 0), AV.d (Ty.int Go.IntKind.u8) (Int.ofNat 0), AV.d (Ty.int Go.IntKind.u8) (Int.ofNat 0), AV.d (Ty.int Go.IntKind.u8) (Int.ofNat 0), AV.d (Ty.int Go.IntKind.u8) (Int.ofNat 0), AV.d (Ty.int Go.IntKind.u8) (Int.ofNat 0), AV.d (Ty.int Go.IntKind.u8) (Int.ofNat 0), AV.d (Ty.int Go.IntKind.u8) (Int.ofNat 0), AV.d (Ty.int Go.IntKind.u8) (Int.ofNat 0), AV.d (Ty.int Go.IntKind.u8) (Int.ofNat 0), AV.d (Ty.int Go.IntKind.u8) (Int.ofNat 0), AV.d (Ty.int Go.IntKind.u8) (Int.ofNat 0), AV.d (Ty.int Go.IntKind.u8) (Int.ofNat 0), AV.d (Ty.int Go.IntKind.u8) (Int.ofNat 0), AV.d (Ty.int Go.IntKind.u8) (Int.ofNat 0), AV.d (Ty.int Go.IntKind.u8) (Int.ofNat 0), AV.d (Ty.int Go.IntKind.u8) (Int.ofNat 0), AV.d (Ty.int Go.IntKind.u8) (Int.ofNat 0), AV.d (Ty.int Go.IntKind.u8) (Int.ofNat 0), AV.d (Ty.int Go.IntKind.u8) (Int.ofNat 0), AV.d (Ty.int Go.IntKind.u8) (Int.ofNat 0), AV.d (Ty.int Go.IntKind.u8) (Int.ofNat 0), AV.d (Ty.int Go.IntKind.u8) (Int.ofNat 0), AV.d (Ty.int Go.IntKind.u8) (Int.ofNat 0), AV.d (Ty.int Go.IntKind.u8) (Int.ofNat 0), AV.d (Ty.int Go.IntKind.u8) (Int.ofNat 0)], ty := some (Ty.pr (Ty.int Go.IntKind.u8) (Ty.pr (Ty.int Go.IntKind.u8) (Ty.pr (Ty.int Go.IntKind.u8) (Ty.pr (Ty.int Go.IntKind.u8) (Ty.pr (Ty.int Go.IntKind.u8) (Ty.pr (Ty.int Go.IntKind.u8) (Ty.pr (Ty.int Go.IntKind.u8) (Ty.pr (Ty.int Go.IntKind.u8) (Ty.pr (Ty.int Go.IntKind.u8) (Ty.pr (Ty.int Go.IntKind.u8) (Ty.pr (Ty.int Go.IntKind.u8) (Ty.pr (Ty.int Go.IntKind.u8) (Ty.pr (Ty.int Go.IntKind.u8) (Ty.pr (Ty.int Go.IntKind.u8) (Ty.pr (Ty.int Go.IntKind.u8) (Ty.pr (Ty.int Go.IntKind.u8) (Ty.pr (Ty.int Go.IntKind.u8) (Ty.pr (Ty.int Go.IntKind.u8) (Ty.pr (Ty.int Go.IntKind.u8) (Ty.pr (Ty.int Go.IntKind.u8) (Ty.pr (Ty.int Go.IntKind.u8) (Ty.pr (Ty.int Go.IntKind.u8) (Ty.pr (Ty.int Go.IntKind.u8) (Ty.pr (Ty.int Go.IntKind.u8) (Ty.pr (Ty.int Go.IntKind.u8) (Ty.pr (Ty.int Go.IntKind.u8) (Ty.pr (Ty.int Go.IntKind.u8) (Ty.pr (Ty.int Go.IntKind.u8) (Ty.pr (Ty.int Go.IntKind.u8) (Ty.pr (Ty.int Go.IntKind.u8) (Ty.pr (Ty.int Go.IntKind.u8) (Ty.pr (Ty.int Go.IntKind.u8) (Ty.pr (Ty.int Go.IntKind.u8) (Ty.pr (Ty.int Go.IntKind.u8) (Ty.pr (Ty.int Go.IntKind.u8) (Ty.pr (Ty.int Go.IntKind.u8) (Ty.pr (Ty.int Go.IntKind.u8) (Ty.pr (Ty.int Go.IntKind.u8) (Ty.pr (Ty.int Go.IntKind.u8) (Ty.pr (Ty.int Go.IntKind.u8) (Ty.pr (Ty.int Go.IntKind.u8) (Ty.pr (Ty.int Go.IntKind.u8) (Ty.pr (Ty.int Go.IntKind.u8) (Ty.pr (Ty.int Go.IntKind.u8) (Ty.pr (Ty.int Go.IntKind.u8) (Ty.pr (Ty.int Go.IntKind.u8) (Ty.pr (Ty.int Go.IntKind.u8) (Ty.pr (Ty.int Go.IntKind.u8) (Ty.pr (Ty.int Go.IntKind.u8) (Ty.pr (Ty.int Go.IntKind.u8) (Ty.pr (Ty.int Go.IntKind.u8) (Ty.pr (Ty.int Go.IntKind.u8) (Ty.pr (Ty.int Go.IntKind.u8) (Ty.pr (Ty.int Go.IntKind.u8) (Ty.pr (Ty.int Go.IntKind.u8) (Ty.pr (Ty.int Go.IntKind.u8) (Ty.pr (Ty.int Go.IntKind.u8) (Ty.pr (Ty.int Go.IntKind.u8) (Ty.pr (Ty.int Go.IntKind.u8) (Ty.pr (Ty.int Go.IntKind.u8) (Ty.pr (Ty.int Go.IntKind.u8) (Ty.pr (Ty.int Go.IntKind.u8) (Ty.pr (Ty.int Go.IntKind.u8) (Ty.int Go.IntKind.u8)))))))))))))))))))))))))))))))))))))))))))))))))))))))))))))))), cmp := true }),
  (232, { k := TK.st [(0, 5), (1, 5)], size := 2, bytes := 2, zero := [AV.d (Ty.int Go.IntKind.u8) (Int.ofNat 0), AV.d (Ty.int Go.IntKind.u8) (Int.ofNat 0)], ty := some (Ty.pr (Ty.int Go.IntKind.u8) (Ty.int Go.IntKind.u8)), cmp := true }),
  (233, { k := TK.st [(0, 5), (1, 5)], size := 2, bytes := 2, zero := [AV.d (Ty.int Go.IntKind.u8) (Int.ofNat 0), AV.d (Ty.int Go.IntKind.u8) (Int.ofNat 0)], ty := some (Ty.pr (Ty.int Go.IntKind.u8) (Ty.int Go.IntKind.u8)), cmp := true }),
  (234, { k := TK.ar 16 233, size := 32, bytes := 32, zero := [AV.d (Ty.int Go.IntKind.u8) (Int.ofNat 0), AV.d (Ty.int Go.IntKind.u8) (Int.ofNat 0), AV.d (Ty.int Go.IntKind.u8) (Int.ofNat 0), AV.d (Ty.int Go.IntKind.u8) (Int.ofNat 0), AV.d (Ty.int Go.IntKind.u8) (Int.ofNat 0), AV.d (Ty.int Go.IntKind.u8) (Int.ofNat 0), AV.d (Ty.int Go.IntKind.u8) (Int.ofNat 0), AV.d (Ty.int Go.IntKind.u8) (Int.ofNat 0), AV.d (Ty.int Go.IntKind.u8) (Int.ofNat 0), AV.d (Ty.int Go.IntKind.u8) (Int.ofNat 0), AV.d (Ty.int Go.IntKind.u8) (Int.ofNat 0), AV.d (Ty.int Go.IntKind.u8) (Int.ofNat 0), AV.d (Ty.int Go.IntKind.u8) (Int.ofNat 0), AV.d (Ty.int Go.IntKind.u8) (Int.ofNat 0), AV.d (Ty.int Go.IntKind.u8) (Int.ofNat 0), AV.d (Ty.int Go.IntKind.u8) (Int.ofNat 0), AV.d (Ty.int Go.IntKind.u8) (Int.ofNat 0), AV.d (Ty.int Go.IntKind.u8) (Int.ofNat 0), AV.d (Ty.int Go.IntKind.u8) (Int.ofNat 0), AV.d (Ty.int Go.IntKind.u8) (Int.ofNat 0), AV.d (Ty.int Go.IntKind.u8) (Int.ofNat 0), AV.d (Ty.int Go.IntKind.u8) (Int.ofNat 0), AV.d (Ty.int Go.IntKind.u8) (Int.ofNat 0), AV.d (Ty.int Go.IntKind.u8) (Int.ofNat 0), AV.d (Ty.int Go.IntKind.u8) (Int.ofNat 0), AV.d (Ty.int Go.IntKind.u8) (Int.ofNat 0), AV.d (Ty.int Go.IntKind.u8) (Int.ofNat 0), AV.d (Ty.int Go.IntKind.u8) (Int.ofNat 0), AV.d (Ty.int Go.IntKind.u8) (Int.ofNat 0), AV.d (Ty.int Go.IntKind.u8) (Int.ofNat 0), AV.d (Ty.int Go.IntKind.u8) (Int.ofNat 0), AV.d (Ty.int Go.IntKind.u8) (Int.ofNat 0)], ty := some (Ty.pr (Ty.pr (Ty.int Go.IntKind.u8) (Ty.int Go.IntKind.u8)) (Ty.pr (Ty.pr (Ty.int Go.IntKind.u8) (Ty.int Go.IntKind.u8)) (Ty.pr (Ty.pr (Ty.int Go.IntKind.u8) (Ty.int Go.IntKind.u8)) (Ty.pr (Ty.pr (Ty.int Go.IntKind.u8) (Ty.int Go.IntKind.u8)) (Ty.pr (Ty.pr (Ty.int Go.IntKind.u8) (Ty.int Go.IntKind.u8)) (Ty.pr (Ty.pr (Ty.int Go.IntKind.u8) (Ty.int Go.IntKind.u8)) (Ty.pr (Ty.pr (Ty.int Go.IntKind.u8) (Ty.int Go.IntKind.u8)) (Ty.pr (Ty.pr (Ty.int Go.IntKind.u8) (Ty.int Go.IntKind.u8)) (Ty.pr (Ty.pr (Ty.int Go.IntKind.u8) (Ty.int Go.IntKind.u8)) (Ty.pr (Ty.pr (Ty.int Go.IntKind.u8) (Ty.int Go.IntKind.u8)) (Ty.pr (Ty.pr (Ty.int Go.IntKind.u8) (Ty.int Go.IntKind.u8)) (Ty.pr (Ty.pr (Ty.int Go.IntKind.u8) (Ty.int Go.IntKind.u8)) (Ty.pr (Ty.pr (Ty.int Go.IntKind.u8) (Ty.int Go.IntKind.u8)) (Ty.pr (Ty.pr (Ty.int Go.IntKind.u8) (Ty.int Go.IntKind.u8)) (Ty.pr (Ty.pr (Ty.int Go.IntKind.u8) (Ty.int Go.IntKind.u8)) (Ty.pr (Ty.int Go.IntKind.u8) (Ty.int Go.IntKind.u8))))))))))))))))), cmp := true }),
  (235, { k := TK.oth, size := 1, bytes := 8, zero := [AV.d Ty.fv (Int.ofNat 0)], ty := some Ty.fv, cmp := true }),
  (236, { k := TK.oth, size := 1, bytes := 8, zero := [AV.d Ty.fv (Int.ofNat 0)], ty := some Ty.fv, cmp := true }),
  (237, { k := TK.st [(0, 17), (1, 17), (2, 17), (3, 9)], size := 4, bytes := 40, zero := [AV.np, AV.np, AV.np, AV.d Ty.str []], ty := none, cmp := false }),
  (238, { k := TK.st [(0, 17), (1, 17), (2, 17), (3, 9)], size := 4, bytes := 40, zero := [AV.np, AV.np, AV.np, AV.d Ty.str []], ty := none, cmp := false }),
  (239, { k := TK.ar 0 16, size := 0, bytes := 0, zero := [], ty := none, cmp := true }),
  (240, { k := TK.st [(0, 239)], size := 0, bytes := 0, zero := [], ty := none, cmp := false }),
  (241, { k := TK.st [(0, 239)], size := 0, bytes := 0, zero := [], ty := none, cmp := false }),
  (242, { k := TK.int Go.IntKind.u8, size := 1, bytes := 1, zero := [AV.d (Ty.int Go.IntKind.u8) (Int.ofNat 0)], ty := some (Ty.int Go.IntKind.u8), cmp := true }),
  (243, { k := TK.int Go.IntKind.u8, size := 1, bytes := 1, zero := [AV.d (Ty.int Go.IntKind.u8) (Int.ofNat 0)], ty := some (Ty.int Go.IntKind.u8), cmp := true }),
  (244, { k := TK.oth, size := 1, bytes := 8, zero := [AV.d Ty.fv (Int.ofNat 0)], ty := some Ty.fv, cmp := true }),
  (245, { k := TK.int Go.IntKind.i32, size := 1, bytes := 4, zero := [AV.d (Ty.int Go.IntKind.i32) (Int.ofNat 0)], ty := some (Ty.int Go.IntKind.i32), cmp := true }),
  (246, { k := TK.int Go.IntKind.i32, size := 1, bytes := 4, zero := [AV.d (Ty.int Go.IntKind.i32) (Int.ofNat 0)], ty := some (Ty.int Go.IntKind.i32), cmp := true }),
  (247, { k := TK.st [(0, 12), (1, 12), (2, 102), (3, 242), (4, 5), (5, 5), (6, 243), (7, 244), (8, 210), (9, 245), (10, 246)], size := 11, bytes := 48, zero := [AV.d (Ty.int Go.IntKind.u64) (Int.ofNat 0), AV.d (Ty.int Go.IntKind.u64) (Int.ofNat 0), AV.d (Ty.int Go.IntKind.u32) (Int.ofNat 0), AV.d (Ty.int Go.IntKind.u8) (Int.ofNat 0), AV.d (Ty.int Go.IntKind.u8) (Int.ofNat 0), AV.d (Ty.int Go.IntKind.u8) (Int.ofNat 0), AV.d (Ty.int Go.IntKind.u8) (Int.ofNat 0), AV.d Ty.fv (Int.ofNat 0), AV.np, AV.d (Ty.int Go.IntKind.i32) (Int.ofNat 0), AV.d (Ty.int Go.IntKind.i32) (Int.ofNat 0)], ty := none, cmp := false }),
  (248, { k := TK.st [(0, 12), (1, 12), (2, 102), (3, 242), (4, 5), (5, 5), (6, 243), (7, 244), (8, 210), (9, 245), (10, 246)], size := 11, bytes := 48, zero := [AV.d (Ty.int Go.IntKind.u64) (Int.ofNat 0), AV.d (Ty.int Go.IntKind.u64) (Int.ofNat 0), AV.d (Ty.int Go.IntKind.u32) (Int.ofNat 0), AV.d (Ty.int Go.IntKind.u8) (Int.ofNat 0), AV.d (Ty.int Go.IntKind.u8) (Int.ofNat 0), AV.d (Ty.int Go.IntKind.u8) (Int.ofNat 0), AV.d (Ty.int Go.IntKind.u8) (Int.ofNat 0), AV.d Ty.fv (Int.ofNat 0), AV.np, AV.d (Ty.int Go.IntKind.i32) (Int.ofNat 0), AV.d (Ty.int Go.IntKind.i32) (Int.ofNat 0)], ty := none, cmp := false })]
theorem tabOK : TabOK Tryz.prog (tabOf tyTab) := tabOf_ok (by kernel_rfl)
end Go.Proofs.Rf
/- Rf, part y: loops over a function (iterators). -/
namespace Go.Proofs.Rf
open Go Go.RowKit

/-! ### What a round's head writes -/
/-- The assignments at a round's head: slot out of slot. -/
def asgs : Code → Option (List (Nat × Nat))
  | .skip => some []
  | .seq a b => match asgs a, asgs b with
    | some x, some y => some (x ++ y)
    | _, _ => none
  | .region _ ops false => match ops.toList with
    | [o] => match o.dst, o.op, o.guard with
      | some d, .assign (.tmp t), none => some [(d, t)]
      | _, _, _ => none
    | _ => none
  | _ => none

def asgA : List (Nat × Nat) → Act → Act
  | [], a => a
  | p :: r, a => asgA r (a.put (some p.1) (a.tmps.getD p.2 undef))

def asgT : List (Nat × Nat) → List (Nat × AV) → List (Nat × AV)
  | [], tm => tm
  | p :: r, tm => asgT r ((p.1, getT tm p.2) :: tm)

def putsA : List (Nat × Value) → Act → Act
  | [], a => a
  | p :: r, a => putsA r (a.put (some p.1) p.2)

def putsT : List Nat → List AV → List (Nat × AV) → List (Nat × AV)
  | p :: ps, v :: vs, tm => putsT ps vs ((p, v) :: tm)
  | _, _, tm => tm

theorem asgA_append : ∀ (x y : List (Nat × Nat)) (a : Act), asgA (x ++ y) a = asgA y (asgA x a)
  | [], _, _ => rfl
  | _ :: r, y, _ => asgA_append r y _

theorem asgs_wp {P : Program} {ρ : Option Nat} {dp : Nat} : ∀ (c : Code) (l : List (Nat × Nat)) (a : Act) (W : World) (K : Act → World → Prop) (Q : Exit → Act → World → Prop), asgs c = some l → K (asgA l a) W → c.wpIn (WF ρ) dp P (Exit.then K Q) a W
  | .skip, l, a, W, K, Q, h, hk => by
    simp only [asgs] at h
    injection h with h
    subst h
    exact wpIn_skip hk
  | .seq x y, l, a, W, K, Q, h, hk => by
    simp only [asgs] at h
    split at h
    · rename_i l1 l2 h1 h2
      injection h with h
      subst h
      rw [asgA_append] at hk
      refine wpIn_seq (asgs_wp x l1 a W _ _ h1 ?_)
      exact asgs_wp y l2 _ W K Q h2 hk
    · cases h
  | .region id ops dr, l, a, W, K, Q, h, hk => by
    cases dr with
    | true => simp only [asgs] at h; cases h
    | false =>
      simp only [asgs] at h
      split at h
      · rename_i o ho
        split at h
        · rename_i d t hd hop hg
          injection h with h
          subst h
          have hsz : ops.size = 1 := by rw [← Array.length_toList, ho]; rfl
          have h0 : ops[0]? = some o := by rw [← Array.getElem?_toList, ho]; rfl
          refine wpIn_region ?_
          rw [hsz]
          show wpOpsIn (WF ρ) dp P ops _ [0] a W
          rw [wpOpsIn_cons]
          unfold wpOpIn
          rw [h0]
          have hw : Region.wanted o (yielded ops a.tmps) = true := by simp [Region.wanted, hg]
          simp only [hw, if_true]
          refine wpIn_of_wp (fun c hc => by rw [hop] at hc; cases hc) ?_
          unfold Oper.wp
          have hr : (execOp a.eval o).run P W = .ok (.value (a.eval (.tmp t))) W := by
            unfold execOp
            rw [hop]
            rfl
          rw [hr]
          show K (a.put o.dst (a.eval (.tmp t))) W
          rw [hd]
          exact hk
        · cases h
      · cases h
  | .cond .., _, _, _, _, _, h, _ => by simp only [asgs] at h; cases h
  | .block .., _, _, _, _, _, h, _ => by simp only [asgs] at h; cases h
  | .loop .., _, _, _, _, _, h, _ => by simp only [asgs] at h; cases h
  | .rangeFunc .., _, _, _, _, _, h, _ => by simp only [asgs] at h; cases h
  | .exit .., _, _, _, _, _, h, _ => by simp only [asgs] at h; cases h
  | .scope .., _, _, _, _, _, h, _ => by simp only [asgs] at h; cases h
  | .label .., _, _, _, _, _, h, _ => by simp only [asgs] at h; cases h
  | .goto .., _, _, _, _, _, h, _ => by simp only [asgs] at h; cases h
  | .ret, _, _, _, _, _, h, _ => by simp only [asgs] at h; cases h
  | .refuse .., _, _, _, _, _, h, _ => by simp only [asgs] at h; cases h

theorem putsA_tmps : ∀ (l : List (Nat × Value)) (a : Act), (putsA l a).tmps = l.foldl (fun t p => t.setIfInBounds p.1 p.2) a.tmps ∧ (putsA l a).defers = a.defers
  | [], _ => ⟨rfl, rfl⟩
  | p :: r, a => putsA_tmps r (a.put (some p.1) p.2)

/-- The slots of a round's frame: those that are pinned are not written. -/
def roundSlots (n : Slots) (pins : List Nat) (a : Act) : Slots :=
  ⟨n.marks, n.base, fun d => n.ok d && !memN d pins, fun tm => n.G tm ∧ ∀ t ∈ pins, tm.getD t undef = a.tmps.getD t undef,
    fun tm d h hd => by
      rw [Bool.and_eq_true] at hd
      exact n.lt tm d h.1 hd.1,
    fun tm d v h hd => by
      rw [Bool.and_eq_true, Bool.not_eq_true'] at hd
      refine ⟨n.set tm d v h.1 hd.1, fun t ht => ?_⟩
      rw [← h.2 t ht]
      have hne : d ≠ t := by rintro rfl; rw [memN_iff.2 ht] at hd; cases hd.2
      rw [Array.getD_eq_getD_getElem?, Array.getD_eq_getD_getElem?, Array.getElem?_setIfInBounds_ne hne]⟩

def roundOk (ok : Nat → Bool) (pins : List Nat) (d : Nat) : Bool := ok d && !memN d pins

def noItB : List SB → Bool
  | [] => true
  | .it :: _ => false
  | .map _ _ _ :: _ => false
  | _ :: r => noItB r

def noItX : List Way → Bool
  | [] => true
  | p :: r => noItB p.2.bl && noItX r

def NoIt (s : St) : Prop := (∀ k st p, getB s.bl k ≠ .it st p) ∧ ∀ k kt va vt l, getB s.bl k ≠ .map kt va vt l

theorem putB_noIt : ∀ (l : List SB), noItB l = true → ∀ (x : denB l), (∀ (k : Nat) (st : List UInt8) (p : Nat), getB (putB l x) k ≠ .it st p) ∧ ∀ (k : Nat) kt va vt m, getB (putB l x) k ≠ .map kt va vt m
  | [], _, _ => ⟨fun _ _ _ h => (by cases h), fun _ _ _ _ _ h => (by cases h)⟩
  | a :: r, hn, x => by
    have hr : noItB r = true := by
      cases a with
      | row t e => exact hn
      | box e cs => exact hn
      | it => cases hn
      | map _ _ _ => cases hn
    obtain ⟨h1, h2⟩ := putB_noIt r hr x.2
    refine ⟨fun k st p h => ?_, fun k kt va vt m h => ?_⟩
    · cases k with
      | zero =>
        cases a with
        | row t e => cases h
        | box e cs => cases h
        | it => cases hn
        | map _ _ _ => cases hn
      | succ k => exact h1 k st p h
    · cases k with
      | zero =>
        cases a with
        | row t e => cases h
        | box e cs => cases h
        | it => cases hn
        | map _ _ _ => cases hn
      | succ k => exact h2 k kt va vt m h

def slotsOf : List (Nat × SV) → List Nat
  | [] => []
  | p :: r => p.1 :: slotsOf r

def slotsX : List Way → List Nat
  | [] => []
  | p :: r => slotsOf p.2.sl ++ slotsX r

theorem putS_out : ∀ (l : List (Nat × SV)) (x : denS l) (t : Nat), t ∉ slotsOf l → getT (putS l x) t = .un
  | [], _, _, _ => rfl
  | p :: r, x, t, h => by
    simp only [slotsOf, List.mem_cons, not_or] at h
    simp only [putS, getT]
    rw [if_neg (fun q => h.1 (Nat.eq_of_beq_eq_true q).symm)]
    exact putS_out r x.2 t h.2

/-- The ways out of a loop, kept together with what is told of the state. -/
theorem toX_sound2 {R : Type} {X keep : Nat → Prop} {w0 w : World} {ι : Nat → Option Value} {n : Slots} {s : St} {a : Act} (h : SRel X keep w0 n ι s a w) {e : Ex} {r : R} : ∀ (l : List Way) (K : denX l → Option R), noItX l = true → toX l e s K = some r →
    ∃ y, K y = some r ∧ ∀ {R' : Type} (K' : Ex → St → Option R') (r' : R'), onX l y K' = some r' → ∃ s' ι', SRel X keep w0 n ι' s' a w ∧ NoIt s' ∧ (∀ t, t ∉ slotsX l → getT s'.tm t = .un) ∧ K' e s' = some r'
  | [], _, _, h => by cases h
  | [p], K, hn, ht => by
    simp only [noItX, Bool.and_eq_true] at hn
    simp only [toX] at ht
    split at ht
    · rename_i he
      split at ht
      · rename_i x hx
        obtain ⟨ι', h'⟩ := Shape.take_sound h hx
        refine ⟨x, ht, fun K' r' hk => ⟨_, ι', h', putB_noIt _ hn.1 _, fun t ht => putS_out _ _ _ (fun q => ht (by simp [slotsX, q])), ?_⟩⟩
        rw [exIs_eq he]
        exact hk
      · cases ht
    · cases ht
  | p :: q :: t, K, hn, ht => by
    have hn' : noItB p.2.bl = true ∧ noItX (q :: t) = true := by
      have := hn
      simp only [noItX, Bool.and_eq_true] at this ⊢
      exact ⟨this.1, this.2⟩
    have hrest : (toX (q :: t) e s fun y => K (.inr y)) = some r → ∃ y, K y = some r ∧ ∀ {R' : Type} (K' : Ex → St → Option R') (r' : R'), onX (p :: q :: t) y K' = some r' → ∃ s' ι', SRel X keep w0 n ι' s' a w ∧ NoIt s' ∧ (∀ u, u ∉ slotsX (p :: q :: t) → getT s'.tm u = .un) ∧ K' e s' = some r' := by
      intro ht
      obtain ⟨y, h1, h2⟩ := toX_sound2 h (q :: t) (fun y => K (.inr y)) hn'.2 ht
      refine ⟨.inr y, h1, fun K' r' hk => ?_⟩
      obtain ⟨s', ι', g1, g2, g3, g4⟩ := h2 K' r' hk
      exact ⟨s', ι', g1, g2, fun u hu => g3 u (fun q => hu (List.mem_append_right _ q)), g4⟩
    simp only [toX] at ht
    split at ht
    · rename_i he
      split at ht
      · rename_i x hx
        obtain ⟨ι', h'⟩ := Shape.take_sound h hx
        refine ⟨.inl x, ht, fun K' r' hk => ⟨_, ι', h', putB_noIt _ hn'.1 _, fun u hu => putS_out _ _ _ (fun q => hu (List.mem_append_left _ q)), ?_⟩⟩
        rw [exIs_eq he]
        exact hk
      · exact hrest ht
    · exact hrest ht

section
variable {X keep : Nat → Prop} {w0 w : World} {ι : Nat → Option Value} {n : Slots}

/-- Without iterators over strings, what is owned are cells. -/
theorem SRel.owned_cells {s : St} {a : Act} (h : SRel X keep w0 n ι s a w) (hn : NoIt s) {b : Nat} (hb : owned ι (getB s.bl) b) : ∃ o : Obj, w.heap[b]? = some o ∧ o.isCells = true := by
  obtain ⟨k, hk⟩ := hb
  have hB := h.f.h.bl k
  unfold bk at hk
  cases hC : getB s.bl k with
  | row t e xs rw =>
    rw [hC] at hB hk
    cases rw with
    | true =>
      obtain ⟨v, cs, h1, h2, h3⟩ := hB
      rw [h1] at hk
      rcases h2.2 with ⟨h4, _⟩ | ⟨g, cap, cur, hv, _, h6, _⟩
      · rw [h4] at hk; cases hk
      · rw [hv] at hk
        injection hk with hk
        have hk : g = b := hk
        subst hk
        exact ⟨_, h6, rfl⟩
    | false => cases hι : ι k <;> rw [hι] at hk <;> cases hk
  | box e cs =>
    rw [hC] at hB hk
    obtain ⟨g, us, h1, h2, h3⟩ := hB
    rw [h1] at hk
    injection hk with hk
    have hk : g = b := hk
    subst hk
    exact ⟨_, h2, rfl⟩
  | it s p => exact absurd hC (hn.1 k s p)
  | map kt va vt l => exact absurd hC (hn.2 k kt va vt l)
  | dead => rw [hC] at hk; cases hι : ι k <;> rw [hι] at hk <;> cases hk

/-- Some blocks are turned, and there is more memory. -/
structure Turned (S : Nat → Prop) (A B : World) : Prop where
  os : B.os = A.os
  tape : B.tape = A.tape
  output : B.output = A.output
  size : A.heap.size ≤ B.heap.size
  block : ∀ b, b < A.heap.size → ¬ S b → B.heap[b]? = A.heap[b]?

theorem Turned.refl (S : Nat → Prop) (A : World) : Turned S A A := ⟨rfl, rfl, rfl, Nat.le_refl _, fun _ _ _ => rfl⟩
theorem Turned.trans {S : Nat → Prop} {A B D : World} (h : Turned S A B) (k : Turned S B D) : Turned S A D :=
  ⟨k.os.trans h.os, k.tape.trans h.tape, k.output.trans h.output, Nat.le_trans h.size k.size, fun b hb hs => (k.block b (Nat.lt_of_lt_of_le hb h.size) hs).trans (h.block b hb hs)⟩
theorem HRel.mod {C : Nat → Blk} (h : HRel X keep w0 ι C w) {w' : World} {S : Nat → Prop} (hm : Turned S w w') (hS : ∀ b, S b → ¬ keep b ∧ ¬ owned ι C b ∧ (X b ∨ ∀ o v, w.cell? ⟨b, o, none⟩ = some v → False)) :
    HRel X keep w0 ι C w' ∧ ∀ v u, RelV w (okb X w ι C) ι v u → RelV w' (okb X w' ι C) ι v u := by
  have hok : ∀ g, okb X w ι C g → okb X w' ι C g := fun g hg => ⟨Nat.lt_of_lt_of_le hg.1 hm.size, hg.2⟩
  have hcell : ∀ g o v, okb X w ι C g → w.cell? ⟨g, o, none⟩ = some v → w'.cell? ⟨g, o, none⟩ = some v := by
    intro g o v hg hv
    by_cases e : S g
    · rcases (hS g e).2.2 with q | q
      · exact (hg.2.2 q).elim
      · exact (q o v hv).elim
    · rw [← hv]; exact World.cell?_of_block (hm.block g hg.1 e)
  have hown : ∀ b, owned ι C b → w'.heap[b]? = w.heap[b]? := fun b ho => hm.block b (h.lt ho) fun e => (hS b e).2.1 ho
  refine ⟨⟨fun k => ?_, h.inj, ⟨hm.os.trans h.fr.os, hm.tape.trans h.fr.tape, hm.output.trans h.fr.output, Nat.le_trans h.fr.size hm.size, fun b hb' hl => ?_⟩, h.own, h.kl, h.ox, h.xl, fun g us hg => ?_⟩, fun v u hv => RelV_mono hcell hok (fun _ _ e => e) v u hv⟩
  · have hB := h.bl k
    cases hC : C k with
    | row t e xs rw =>
      rw [hC] at hB
      cases rw with
      | true =>
        obtain ⟨v, cs, h1, h2, h3⟩ := hB
        refine ⟨v, cs, h1, ⟨h2.1, ?_⟩, RzL_mono (Rz_mono hcell hok t) h3⟩
        rcases h2.2 with h4 | ⟨g, cap, cur, hv, h5, h6, h7⟩
        · exact .inl h4
        · refine .inr ⟨g, cap, cur, hv, h5, ?_, h7⟩
          rw [hown g ⟨k, by unfold bk; rw [hC, h1, hv]; rfl⟩]
          exact h6
      | false =>
        obtain ⟨v, h1, h0, h2⟩ := hB
        exact ⟨v, h1, h0, Rz_mono hcell hok _ _ _ h2⟩
    | box e cs =>
      rw [hC] at hB
      obtain ⟨g, us, h1, h2, h3⟩ := hB
      refine ⟨g, us, h1, ?_, RelL_mono hcell hok (fun _ _ e => e) cs us h3⟩
      rw [hown g ⟨k, by unfold bk; rw [hC, h1]⟩]
      exact h2
    | it s pos =>
      rw [hC] at hB
      obtain ⟨g, h1, h2⟩ := hB
      refine ⟨g, h1, ?_⟩
      rw [hown g ⟨k, by unfold bk; rw [hC, h1]⟩]
      exact h2
    | map kt va vt l =>
      rw [hC] at hB
      obtain ⟨g, es, ck, l', h1, h2, h3, h4, h5, h6⟩ := hB
      refine ⟨g, es, ck, l', h1, ?_, h3, h4, h5, RzM_dat hcell hok h6⟩
      rw [hown g ⟨k, by unfold bk; rw [hC, h1]⟩]
      exact h2
    | dead => trivial
  · rw [hm.block b (Nat.lt_of_lt_of_le hl h.fr.size) fun e => (hS b e).1 hb']
    exact h.fr.block b hb' hl
  · obtain ⟨h1, h0, e, fz, h2⟩ := h.gl g us hg
    refine ⟨hok g h1, h0, e, fz, ?_⟩
    rw [hm.block g h1.1 ?_]
    · exact h2
    · intro q
      rcases (hS g q).2.2 with q2 | q2
      · exact h1.2.2 q2
      · exact q2 0 us[0] (by simp [World.cell?, h2, h0])

theorem SRel.mod {s : St} {a : Act} (h : SRel X keep w0 n ι s a w) {W' : World} {S : Nat → Prop} (hm : Turned S w W') (hS : ∀ b, S b → ¬ keep b ∧ ¬ owned ι (getB s.bl) b ∧ (X b ∨ ∀ o v, w.cell? ⟨b, o, none⟩ = some v → False)) : SRel X keep w0 n ι s a W' := by
  obtain ⟨q1, q2⟩ := h.f.h.mod hm hS
  exact ⟨⟨q1, fun t => q2 _ _ (h.f.tm t), h.f.size, h.f.defers⟩, h.dom⟩

theorem HRel.lessX {C : Nat → Blk} {X' : Nat → Prop} (h : HRel X' keep w0 ι C w) (hX : ∀ b, X b → X' b) : HRel X keep w0 ι C w ∧ ∀ v u, RelV w (okb X' w ι C) ι v u → RelV w (okb X w ι C) ι v u := by
  have hok : ∀ g, okb X' w ι C g → okb X w ι C g := fun g hg => ⟨hg.1, hg.2.1, fun hx => hg.2.2 (hX g hx)⟩
  refine ⟨⟨fun k => ?_, h.inj, h.fr, h.own, h.kl, fun b hb hx => h.ox b hb (hX b hx), fun b hb => h.xl b (hX b hb), h.gl.mono fun g hg => ⟨hok g hg, rfl⟩⟩, fun v u hv => RelV_mono (fun _ _ _ _ e => e) hok (fun _ _ e => e) v u hv⟩
  have hB := h.bl k
  cases hC : C k with
  | row t e xs rw =>
    rw [hC] at hB
    cases rw with
    | true =>
      obtain ⟨v, cs, h1, h2, h3⟩ := hB
      exact ⟨v, cs, h1, h2, RzL_mono (Rz_mono (fun _ _ _ _ e => e) hok t) h3⟩
    | false =>
      obtain ⟨v, h1, h0, h2⟩ := hB
      exact ⟨v, h1, h0, Rz_mono (fun _ _ _ _ e => e) hok _ _ _ h2⟩
  | box e cs =>
    rw [hC] at hB
    obtain ⟨g, us, h1, h2, h3⟩ := hB
    exact ⟨g, us, h1, h2, RelL_mono (fun _ _ _ _ e => e) hok (fun _ _ e => e) cs us h3⟩
  | it s pos =>
    rw [hC] at hB
    exact hB
  | map kt va vt l =>
    rw [hC] at hB
    obtain ⟨g, es, ck, l', h1, h2, h3, h4, h5, h6⟩ := hB
    exact ⟨g, es, ck, l', h1, h2, h3, h4, h5, RzM_dat (fun _ _ _ _ e => e) hok h6⟩
  | dead => trivial

theorem SRel.lessX {X' : Nat → Prop} {s : St} {a : Act} (h : SRel X' keep w0 n ι s a w) (hX : ∀ b, X b → X' b) : SRel X keep w0 n ι s a w := by
  obtain ⟨q1, q2⟩ := h.f.h.lessX hX
  exact ⟨⟨q1, fun t => q2 _ _ (h.f.tm t), h.f.size, h.f.defers⟩, h.dom⟩

/-- A record's block is turned, or there is more memory. -/
theorem SRel.grown {s : St} {a : Act} (h : SRel X keep w0 n ι s a w) (hn : NoIt s) {W' : World} {row : Option Nat} (hg : w.grownBy W' row) (hr : ∀ r, row = some r → w0.heap.size ≤ r ∧ ∃ o : Obj, w.heap[r]? = some o ∧ o.isCells = false) : SRel X keep w0 n ι s a W' := by
  obtain ⟨r, hr1, hr2, hr3, hr4⟩ : ∃ r : Nat, (∀ b, b ≠ r → b < w.heap.size → W'.heap[b]? = w.heap[b]?) ∧ (∀ o v, w.cell? ⟨r, o, none⟩ = some v → False) ∧ (∀ b, owned ι (getB s.bl) b → b ≠ r) ∧ ¬ keep r := by
    cases row with
    | none =>
      refine ⟨w.heap.size, fun b _ hl => hg.block b hl (by simp), fun o v hc => by simp [World.cell?] at hc, fun b hb e => ?_, fun hk => ?_⟩
      · have := h.f.h.lt hb; omega
      · have := h.f.h.kl _ hk
        have := h.f.h.fr.size
        omega
    | some r =>
      obtain ⟨h1, o, h2, h3⟩ := hr r rfl
      refine ⟨r, fun b hb hl => hg.block b hl (fun e => hb (by injection e)), fun o' v hc => ?_, fun b hb e => ?_, fun hk => ?_⟩
      · simp only [World.cell?, h2] at hc
        cases o <;> simp_all [Obj.isCells]
      · subst e
        obtain ⟨o', q1, q2⟩ := h.owned_cells hn hb
        rw [h2] at q1
        injection q1 with q1
        subst q1
        rw [h3] at q2
        cases q2
      · have := h.f.h.kl _ hk
        omega
  obtain ⟨q1, q2⟩ := h.f.h.quiet r hg.os hg.tape hg.output hg.size hr1 hr2 hr3 hr4
  exact ⟨⟨q1, fun t => q2 _ _ (h.f.tm t), h.f.size, h.f.defers⟩, h.dom⟩
end
end Go.Proofs.Rf
