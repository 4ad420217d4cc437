/- Rf, part p: the law of regions that draw their order: the walk through any order. -/
import Derived.Test.YtgkgjgcoalmldaaFo
namespace Go.Proofs.Rf
open Go Go.RowKit

section
variable {X keep : Nat → Prop} {w0 w : World} {ι : Nat → Option Value} {C : Nat → Blk} {P : Program} {TT : Tab} {Δ : Nat → Option CallO} {n : Slots} {no : Nat → Bool}

theorem wanted_on {ops : Array Oper} {T : Nat → AV} {a : Act} {okb : Nat → Prop} {o : Oper} (hT : ∀ t, RelV w okb ι (T t) (a.tmps.getD t undef)) (h : GuardOn ops T o) : Region.wanted o (yielded ops a.tmps) = true := by
  rcases h with h | ⟨j, want, g, hg, hgd, hb⟩
  · simp [Region.wanted, h]
  · have htm := hT g
    rw [hb, rel_bool] at htm
    have hy := yielded_bool hgd htm
    unfold Region.wanted
    rw [hg]
    simp only [hy]
    cases want <;> rfl

theorem wanted_off {ops : Array Oper} {T : Nat → AV} {a : Act} {okb : Nat → Prop} {o : Oper} (hT : ∀ t, RelV w okb ι (T t) (a.tmps.getD t undef)) (h : GuardOff ops T o) : Region.wanted o (yielded ops a.tmps) = false := by
  obtain ⟨j, want, g, hg, hgd, hb⟩ := h
  have htm := hT g
  rcases hb with hb | hb
  · rw [hb, rel_bool] at htm
    have hy := yielded_bool hgd htm
    unfold Region.wanted
    rw [hg]
    simp only [hy]
    cases want <;> rfl
  · rw [hb] at htm
    simp only [RelV] at htm
    have hy := yielded_ud hgd htm
    unfold Region.wanted
    rw [hg]
    simp [hy]

/-- The facts of a checked trace. -/
structure Drawn (TT : Tab) (Δ : Nat → Option CallO) (n : Nat → Bool) (ops : Array Oper) (T0 : Nat → AV) (C0 : Nat → Blk) (nb0 : Nat) (es : List Ent) : Prop where
  ents : EntsOK TT Δ n ops 0 T0 C0 nb0 es
  map : es.map (·.o) = ops.toList
  hE : edgesOk 0 ops.toList = true
  hT : tmpsOk ops (masks ops.toList []) 0 ops.toList = true
  hL : logOk (masks ops.toList []) (logsOf es) = true

theorem waits_iff {ops : Array Oper} {i j : Nat} : waits (masks ops.toList []) i j = true ↔ PB ops j i ∨ PB ops i j := by
  unfold waits PB
  rw [Bool.or_eq_true]

namespace Drawn
variable {ops : Array Oper} {T0 : Nat → AV} {C0 : Nat → Blk} {nb0 : Nat} {es : List Ent}

theorem len (D : Drawn TT Δ no ops T0 C0 nb0 es) : es.length = ops.size := by
  rw [← Array.length_toList, ← D.map, List.length_map]

theorem idx (D : Drawn TT Δ no ops T0 C0 nb0 es) {y : Ent} (hy : y ∈ es) : ops[y.i]? = some y.o ∧ y.i < ops.size := by
  obtain ⟨es1, es2, rfl⟩ := List.append_of_mem hy
  obtain ⟨_, _, hi, _⟩ := D.ents.split y es1 es2 rfl
  rw [Nat.zero_add] at hi
  have h1 : ops.toList[y.i]? = some y.o := by
    rw [← D.map, hi]
    simp
  rw [Array.getElem?_toList] at h1
  exact ⟨h1, (Array.getElem?_eq_some_iff.1 h1).1⟩

/-- What another operation may have done to what this one looks at. -/
theorem other (D : Drawn TT Δ no ops T0 C0 nb0 es) {S : Nat → Bool} (hS : Shut ops S) {x y : Ent} (hj : S x.i = false) (hr : ∀ k, PB ops x.i k → S k = true)
    (h : y.i = x.i ∨ waits (masks ops.toList []) x.i y.i = true) : S y.i = Nat.blt y.i x.i := by
  rcases h with h | h
  · rw [h, hj]
    symm
    exact Bool.eq_false_iff.2 fun e => Nat.lt_irrefl _ (Nat.le_of_ble_eq_true e)
  · rcases waits_iff.1 h with h | h
    · have hlt := PB_lt D.hE _ _ _ (Nat.le_refl _) h
      have hs : S y.i = false := by
        cases hs : S y.i with
        | false => rfl
        | true => rw [hS _ _ hs h] at hj; cases hj
      rw [hs]
      symm
      exact Bool.eq_false_iff.2 fun e => by have := Nat.le_of_ble_eq_true e; omega
    · have hlt := PB_lt D.hE _ _ _ (Nat.le_refl _) h
      rw [hr _ h]
      symm
      exact Nat.ble_eq_true_of_le hlt

theorem later (D : Drawn TT Δ no ops T0 C0 nb0 es) {S : Nat → Bool} (hS : Shut ops S) {x y : Ent} (hlt : x.i < y.i) (hj : S x.i = false)
    (h : waits (masks ops.toList []) x.i y.i = true) : S y.i = false := by
  rcases waits_iff.1 h with h | h
  · cases hs : S y.i with
    | false => rfl
    | true => rw [hS _ _ hs h] at hj; cases hj
  · have := PB_lt D.hE _ _ _ (Nat.le_refl _) h
    omega

/-- Two operations: the same, one waits for the other, or apart. -/
theorem tmp2 (D : Drawn TT Δ no ops T0 C0 nb0 es) {x y : Ent} (hx : x ∈ es) (hy : y ∈ es) : y.i = x.i ∨ waits (masks ops.toList []) x.i y.i = true ∨ (x.o.apart ops y.o = true ∨ y.o.apart ops x.o = true) := by
  have h1 := (D.idx hx).1
  have h2 := (D.idx hy).1
  rw [← Array.getElem?_toList] at h1 h2
  rcases Nat.lt_trichotomy y.i x.i with h | h | h
  · have := tmpsOk_at ops.toList 0 y.i x.i _ _ D.hT h h2 h1
    rw [Nat.zero_add, Nat.zero_add] at this
    exact .inr (this.imp waits_symm .inr)
  · exact .inl h
  · have := tmpsOk_at ops.toList 0 x.i y.i _ _ D.hT h h1 h2
    rw [Nat.zero_add, Nat.zero_add] at this
    exact .inr (this.imp id .inl)

theorem selTb (D : Drawn TT Δ no ops T0 C0 nb0 es) {x : Ent} (hx : x ∈ es) : x.T = selT (fun i => Nat.blt i x.i) es T0 ∧ x.C = selC (fun i => Nat.blt i x.i) es C0 := by
  obtain ⟨es1, es2, rfl⟩ := List.append_of_mem hx
  obtain ⟨h1, h2, h3, _, _, h6, h7, _⟩ := D.ents.split x es1 es2 rfl
  have hb : ∀ y ∈ es1, Nat.blt y.i x.i = true := fun y hy => Nat.ble_eq_true_of_le (h6 y hy).1
  have ha : ∀ y ∈ x :: es2, Nat.blt y.i x.i = false := by
    intro y hy
    refine Bool.eq_false_iff.2 fun e => ?_
    have e := Nat.le_of_ble_eq_true e
    rcases List.mem_cons.1 hy with rfl | hy
    · omega
    · have := (h7 y hy).1; omega
  constructor
  · funext t
    rw [h1, selT_append, selT_none (x :: es2) _ (fun y hy _ => ha y hy)]
    exact selT_congr es1 _ _ rfl (fun y hy _ => (hb y hy).symm)
  · funext k
    rw [h2, selC_append, selC_none (x :: es2) _ (fun y hy _ _ => ha y hy)]
    exact selC_congr es1 _ _ rfl (fun y hy _ _ => (hb y hy).symm)

theorem lookT (D : Drawn TT Δ no ops T0 C0 nb0 es) {S : Nat → Bool} (hS : Shut ops S) {x : Ent} (hx : x ∈ es) (hj : S x.i = false) (hr : ∀ k, PB ops x.i k → S k = true) {t : Nat} (ht : t ∈ x.o.looksAt ops) : selT S es T0 t = x.T t := by
  rw [(D.selTb hx).1]
  refine selT_congr es _ _ rfl fun y hy hd => D.other hS hj hr ?_
  rcases D.tmp2 hx hy with h | h | h
  · exact .inl h
  · exact .inr h
  · exact absurd ht (apart_both h.symm t hd).1

theorem log2 (D : Drawn TT Δ no ops T0 C0 nb0 es) {x y : Ent} (hx : x ∈ es) (hy : y ∈ es) (hsx : x.skip = false) (hsy : y.skip = false) : y.i = x.i ∨ waits (masks ops.toList []) x.i y.i = true ∨ apartL x.log y.log = true := by
  rcases (logOk_at D.hL).2 _ (mem_logsOf hx hsx) _ (mem_logsOf hy hsy) with h | h | h
  · left
    exact (congrArg LogE.i h).symm
  · exact .inr (.inr h)
  · exact .inr (.inl h)

theorem sub (D : Drawn TT Δ no ops T0 C0 nb0 es) {x : Ent} (hx : x ∈ es) (hsx : x.skip = false) : ∀ k ∈ updIds x.e.upd, k ∈ x.ids := subN_iff ((logOk_at D.hL).1 _ (mem_logsOf hx hsx))

theorem wrote_mem {y : Ent} {k : Nat} (h : wrote y.nb y.e k) : k ∈ y.log.wr ++ y.log.new := by
  rw [List.mem_append]
  exact h.imp id fun h => mem_rangeN.2 h

theorem apartL_out {x y : Ent} (h : apartL x.log y.log = true) : (∀ k, wrote x.nb x.e k → k ∉ y.log.touch ++ y.log.new) ∧ ∀ k, wrote y.nb y.e k → k ∉ x.log.touch ++ x.log.new := by
  unfold apartL at h
  rw [Bool.and_eq_true, Bool.not_eq_true', Bool.not_eq_true'] at h
  exact ⟨fun k hk => meetN_false h.1 k (wrote_mem hk), fun k hk => meetN_false h.2 k (wrote_mem hk)⟩

theorem lookC (D : Drawn TT Δ no ops T0 C0 nb0 es) {S : Nat → Bool} (hS : Shut ops S) {x : Ent} (hx : x ∈ es) (hsx : x.skip = false) (hj : S x.i = false) (hr : ∀ k, PB ops x.i k → S k = true) {k : Nat} (hk : k ∈ x.ids) : selC S es C0 k = x.C k := by
  rw [(D.selTb hx).2]
  refine selC_congr es _ _ rfl fun y hy hsy hw => D.other hS hj hr ?_
  rcases D.log2 hx hy hsx hsy with h | h | h
  · exact .inl h
  · exact .inr h
  · exact absurd (List.mem_append_left _ hk) ((apartL_out h).2 k hw)

def add (S : Nat → Bool) (j : Nat) : Nat → Bool := fun i => if i = j then true else S i
theorem add_self (S : Nat → Bool) (j : Nat) : add S j j = true := by simp [add]
theorem add_ne {S : Nat → Bool} {i j : Nat} (h : i ≠ j) : add S j i = S i := by simp [add, h]

theorem stepT (D : Drawn TT Δ no ops T0 C0 nb0 es) {S : Nat → Bool} (hS : Shut ops S) {x : Ent} (hx : x ∈ es) (hj : S x.i = false) : selT (add S x.i) es T0 = effT (selT S es T0) x.o.dst x.dv := by
  funext t
  by_cases hd : x.o.dst = some t
  · have hd' : effT (selT S es T0) x.o.dst x.dv t = x.dv := by simp only [effT, hd, if_true]
    rw [hd']
    obtain ⟨es1, es2, e⟩ := List.append_of_mem hx
    obtain ⟨_, _, h3, _, _, h6, h7, _⟩ := D.ents.split x es1 es2 e
    rw [e, selT_append]
    show selT (add S x.i) es2 _ t = _
    rw [if_pos (add_self S x.i), selT_none es2 _ fun y hy hyd => ?_]
    · simp only [effT, hd, if_true]
    · have hlt := (h7 y hy).1
      rw [add_ne (by omega)]
      rcases D.tmp2 hx (y := y) (by rw [e]; exact List.mem_append_right _ (List.mem_cons_of_mem _ hy)) with h | h | h
      · omega
      · exact D.later hS hlt hj h
      · exact absurd hyd (apart_both h t hd).2
  · have hd' : effT (selT S es T0) x.o.dst x.dv t = selT S es T0 t := by simp only [effT, hd, if_false]
    rw [hd']
    refine selT_congr es _ _ rfl fun y hy hyd => add_ne fun e => hd ?_
    have h1 := (D.idx hx).1
    have h2 := (D.idx hy).1
    rw [e, h1] at h2
    injection h2 with h2
    rw [h2]; exact hyd

theorem same (D : Drawn TT Δ no ops T0 C0 nb0 es) {x y : Ent} (hx : x ∈ es) (hy : y ∈ es) (h : y.i = x.i) : y = x := by
  have h2 : ∀ {z : Ent}, z ∈ es → es[z.i]? = some z := by
    intro z hz
    obtain ⟨es1, es2, e⟩ := List.append_of_mem hz
    obtain ⟨_, _, h3, _⟩ := D.ents.split z es1 es2 e
    rw [e, h3, Nat.zero_add]
    simp
  have a1 := h2 hx
  have a2 := h2 hy
  rw [h, a1] at a2
  injection a2 with a2
  exact a2.symm

theorem stepC (D : Drawn TT Δ no ops T0 C0 nb0 es) {S : Nat → Bool} (hS : Shut ops S) {x : Ent} (hx : x ∈ es) (hsx : x.skip = false) (hj : S x.i = false) : selC (add S x.i) es C0 = effC (selC S es C0) x.nb x.e := by
  funext k
  by_cases hw : wrote x.nb x.e k
  · have hsub := fun (y : Ent) (hy : y ∈ es) (h : y.skip = false) => D.sub hy h
    obtain ⟨es1, es2, e⟩ := List.append_of_mem hx
    obtain ⟨_, _, h3, _, _, h6, h7, _⟩ := D.ents.split x es1 es2 e
    have hl : selC (add S x.i) es C0 k = effC (selC (add S x.i) es1 C0) x.nb x.e k := by
      rw [e, selC_append]
      show selC (add S x.i) es2 _ k = _
      rw [if_pos ⟨add_self S x.i, hsx⟩, selC_none es2 _ fun y hy hsy hyw => ?_]
      have hlt := (h7 y hy).1
      have hy' : y ∈ es := by rw [e]; exact List.mem_append_right _ (List.mem_cons_of_mem _ hy)
      rw [add_ne (by omega)]
      rcases D.log2 hx hy' hsx hsy with h | h | h
      · omega
      · exact D.later hS hlt hj h
      · exfalso
        refine (apartL_out h).1 k hw ?_
        rcases hyw with hyw | hyw
        · exact List.mem_append_left _ (hsub y hy' hsy k hyw)
        · exact List.mem_append_right _ (mem_rangeN.2 hyw)
    rw [hl]
    exact effC_congr (.inr hw)
  · rw [effC_other hw]
    refine selC_congr es _ _ rfl fun y hy hsy hyw => add_ne fun e => hw ?_
    rw [← D.same hx hy e]; exact hyw

theorem stepCs (D : Drawn TT Δ no ops T0 C0 nb0 es) {S : Nat → Bool} {x : Ent} (hx : x ∈ es) (hsx : x.skip = true) : selC (add S x.i) es C0 = selC S es C0 := by
  funext k
  refine selC_congr es _ _ rfl fun y hy hsy hyw => add_ne fun e => ?_
  rw [D.same hx hy e, hsx] at hsy
  cases hsy

end Drawn

/-- The state amid a region: some of its operations are done. -/
structure Mid (X keep : Nat → Prop) (w0 : World) (n : Slots) (T0 : Nat → AV) (C0 : Nat → Blk) (nb0 : Nat) (es : List Ent) (S : Nat → Bool) (ι : Nat → Option Value) (a : Act) (w : World) : Prop where
  f : FRel X keep w0 n ι (selT S es T0) (selC S es C0) a w
  dom : ∀ k, ι k ≠ none → k < nb0 ∨ ∃ y ∈ es, y.skip = false ∧ S y.i = true ∧ y.nb ≤ k ∧ k < y.nb + y.e.new.length

variable {ops : Array Oper} {T0 : Nat → AV} {C0 : Nat → Blk} {nb0 : Nat} {es : List Ent}

theorem Mid.step (hP : TabOK P TT) (hΔ : CallsOK P Δ) (D : Drawn TT Δ n.ok ops T0 C0 nb0 es) {ρ : Option Nat} {dp : Nat} {S : Nat → Bool} (hS : Shut ops S) {a : Act} (M : Mid X keep w0 n T0 C0 nb0 es S ι a w) {x : Ent} (hx : x ∈ es) (hj : S x.i = false) (hr : ∀ k, PB ops x.i k → S k = true)
    {K : Act → World → Prop} {Q : Exit → Act → World → Prop} (hK : ∀ ι' a' w', Mid X keep w0 n T0 C0 nb0 es (Drawn.add S x.i) ι' a' w' → K a' w') : wpOpIn (WF ρ) dp P ops Q x.i K a w := by
  unfold wpOpIn
  rw [(D.idx hx).1]
  have hlook := fun t ht => D.lookT hS hx hj hr (t := t) ht
  have hgT : ∀ {j want g}, x.o.guard = some (j, want) → (ops[j]?).bind (·.dst) = some g → selT S es T0 g = x.T g := fun h1 h2 => hlook _ (looks_guard h1 h2)
  have hse : ∃ es1 es2, es = es1 ++ x :: es2 := List.append_of_mem hx
  obtain ⟨es1, es2, e⟩ := hse
  obtain ⟨_, _, h3, hnb, hdst, h6, h7, hev⟩ := D.ents.split x es1 es2 e
  cases hsk : x.skip
  · simp only [hsk, Bool.false_eq_true, if_false] at hev
    obtain ⟨hg, hev⟩ := hev
    have hg' : GuardOn ops (selT S es T0) x.o := by
      rcases hg with hg | ⟨j, want, g, h1, h2, h3⟩
      · exact .inl hg
      · exact .inr ⟨j, want, g, h1, h2, by rw [hgT h1 h2]; exact h3⟩
    have hw := wanted_on M.f.tm hg'
    simp only [hw, if_true]
    refine wpIn_of_wp (evOp_no_defer hev) ?_
    have hT : resT (opTmps x.o.op.operands.toList) (selT S es T0) = resT (opTmps x.o.op.operands.toList) x.T := by
      funext t
      unfold resT
      split
      · rename_i hm
        exact hlook t (looks_op (memN_iff.1 hm))
      · rfl
    have hC : resC x.ids (selC S es C0) = resC x.ids x.C := by
      funext k
      unfold resC
      split
      · rename_i hm
        exact D.lookC hS hx hsk hj hr (memN_iff.1 hm)
      · rfl
    rw [← hT, ← hC] at hev
    refine Oper.wp_mono ?_ (evOp_local hP hΔ M.f hev (D.sub hx hsk) (fun k h1 h2 => ?_) (Q := Q))
    · rintro a' w' ⟨v, rfl, ι', o1, o2, o3, o4⟩
      refine hK ι' _ w' ⟨?_, fun k hk => ?_⟩
      · rw [D.stepT hS hx hj, D.stepC hS hx hsk hj]
        have hdv : x.dv = x.e.dst := by unfold Ent.dv; simp [hsk]
        rw [hdv]
        exact M.f.step (dstOk_lt hdst) o1 o2 o3
      · by_cases hkn : x.nb ≤ k ∧ k < x.nb + x.e.new.length
        · exact .inr ⟨x, hx, hsk, Drawn.add_self .., hkn⟩
        · rw [o4 k hkn] at hk
          rcases M.dom k hk with h | ⟨y, q1, q2, q3, q4⟩
          · exact .inl h
          · refine .inr ⟨y, q1, q2, ?_, q4⟩
            unfold Drawn.add
            split
            · rfl
            · exact q3
    · cases hι : ι k with
      | none => rfl
      | some v =>
        exfalso
        rcases M.dom k (by rw [hι]; simp) with h | ⟨y, q1, q2, q3, q4, q5⟩
        · omega
        · have hne : y.i ≠ x.i := fun e => by rw [e, hj] at q3; cases q3
          have hynb : y.nb' = y.nb + y.e.new.length := by unfold Ent.nb'; simp [q2]
          have hxnb : x.nb' = x.nb + x.e.new.length := by unfold Ent.nb'; simp [hsk]
          rw [e] at q1
          rcases List.mem_append.1 q1 with q1 | q1
          · have := (h6 y q1).2
            omega
          · rcases List.mem_cons.1 q1 with rfl | q1
            · exact hne rfl
            · have := (h7 y q1).2
              omega
  · simp only [hsk, if_true] at hev
    have hg' : GuardOff ops (selT S es T0) x.o := by
      obtain ⟨j, want, g, h1, h2, h3⟩ := hev
      exact ⟨j, want, g, h1, h2, by rw [hgT h1 h2]; exact h3⟩
    have hw := wanted_off M.f.tm hg'
    simp only [hw]
    refine ⟨fun _ _ => trivial, hK ι _ w ⟨?_, fun k hk => ?_⟩⟩
    · rw [D.stepT hS hx hj, D.stepCs hx hsk]
      have hdv : x.dv = .ud := by unfold Ent.dv; simp [hsk]
      rw [hdv]
      exact M.f.step (dstOk_lt hdst) M.f.h (Ext.refl _ _ _ _) (by simp only [RelV])
    · rcases M.dom k hk with h | ⟨y, q1, q2, q3, q4⟩
      · exact .inl h
      · refine .inr ⟨y, q1, q2, ?_, q4⟩
        unfold Drawn.add
        split
        · rfl
        · exact q3

theorem Drawn.ent (D : Drawn TT Δ n.ok ops T0 C0 nb0 es) {j : Nat} (h : j < ops.size) : ∃ x ∈ es, x.i = j := by
  have hl : j < es.length := by rw [D.len]; exact h
  refine ⟨es[j], List.getElem_mem hl, ?_⟩
  have e : es = es.take j ++ es[j] :: es.drop (j + 1) := by simp
  obtain ⟨_, _, h3, _⟩ := D.ents.split es[j] _ _ e
  rw [h3, List.length_take, Nat.min_eq_left (Nat.le_of_lt hl), Nat.zero_add]

/-- What all the operations that are listed wait for is listed. -/
theorem all_listed (hE : edgesOk 0 ops.toList = true) {listed : Array Bool} (hs : listed.size = ops.size) (hr : Region.ready .any ops listed = []) : ∀ j, j < ops.size → listed.getD j false = true := by
  intro j
  induction j using Nat.strongRecOn with
  | ind j ih =>
    intro hj
    cases hl : listed.getD j false with
    | true => rfl
    | false =>
      exfalso
      have : j ∈ Region.ready .any ops listed := by
        rw [mem_ready]
        refine ⟨?_, ops[j], Array.getElem?_eq_getElem hj, fun e he hb => ?_⟩
        · rw [Array.getD_eq_getD_getElem?] at hl ⊢
          rw [Array.getElem?_eq_getElem (by omega)] at hl ⊢
          exact hl
        · have hlt := edgesOk_at ops.toList 0 j ops[j] hE (by rw [Array.getElem?_toList]; exact Array.getElem?_eq_getElem hj) e (by simpa using he) hb
          exact ih e.on (by omega) (by omega)
      rw [hr] at this
      cases this

theorem walk_any (hP : TabOK P TT) (hΔ : CallsOK P Δ) (D : Drawn TT Δ n.ok ops T0 C0 nb0 es) {ρ : Option Nat} {dp : Nat} {Q : Exit → Act → World → Prop} (hQ : ∀ ι' a' w', Mid X keep w0 n T0 C0 nb0 es (fun _ => true) ι' a' w' → Q .normal a' w') :
    ∀ (fuel : Nat) (U : List Nat) (listed : Array Bool) (a : Act) (w : World) (ι : Nat → Option Value), U.length ≤ fuel → (∀ j, j < ops.size → listed.getD j false = false → j ∈ U) → listed.size = ops.size → Shut ops (fun i => listed.getD i false) → Mid X keep w0 n T0 C0 nb0 es (fun i => listed.getD i false) ι a w →
      wpAnyIn (WF ρ) dp P .any ops Q fuel listed a w := by
  have hdone : ∀ (listed : Array Bool) (a : Act) (w : World) (ι : Nat → Option Value), listed.size = ops.size → Mid X keep w0 n T0 C0 nb0 es (fun i => listed.getD i false) ι a w → Region.ready .any ops listed = [] → Q .normal a w := by
    intro listed a w ι hs M hr
    have hall := all_listed D.hE hs hr
    have hy : ∀ y ∈ es, (fun i => listed.getD i false) y.i = (fun _ => true) y.i := fun y hy => hall y.i (D.idx hy).2
    refine hQ ι a w ⟨?_, fun k hk => ?_⟩
    · have e1 : selT (fun _ => true) es T0 = selT (fun i => listed.getD i false) es T0 := funext fun t => (selT_congr es _ _ rfl fun y h _ => hy y h).symm
      have e2 : selC (fun _ => true) es C0 = selC (fun i => listed.getD i false) es C0 := funext fun t => (selC_congr es _ _ rfl fun y h _ _ => hy y h).symm
      rw [e1, e2]
      exact M.f
    · rcases M.dom k hk with h | ⟨y, q1, q2, q3, q4⟩
      · exact .inl h
      · exact .inr ⟨y, q1, q2, rfl, q4⟩
  intro fuel
  induction fuel with
  | zero =>
    intro U listed a w ι hU hm hs _ M
    have hU : U = [] := List.length_eq_zero_iff.1 (by omega)
    subst hU
    have hr : Region.ready .any ops listed = [] := by
      cases hr : Region.ready .any ops listed with
      | nil => rfl
      | cons j r =>
        exfalso
        have hj : j ∈ Region.ready .any ops listed := by rw [hr]; exact List.mem_cons_self ..
        obtain ⟨h1, o, h2, _⟩ := mem_ready.1 hj
        have hlt := (Array.getElem?_eq_some_iff.1 h2).1
        refine absurd (hm j hlt ?_) (by simp)
        rw [Array.getD_eq_getD_getElem?] at h1 ⊢
        rw [Array.getElem?_eq_getElem (by omega)] at h1 ⊢
        exact h1
    exact ⟨hr, hdone listed a w ι hs M hr⟩
  | succ fuel ih =>
    intro U listed a w ι hU hm hs hS M
    refine ⟨hdone listed a w ι hs M, fun j hj => ?_⟩
    obtain ⟨h1, o, h2, h3⟩ := mem_ready.1 hj
    have hlt := (Array.getElem?_eq_some_iff.1 h2).1
    have hf : listed.getD j false = false := by
      rw [Array.getD_eq_getD_getElem?] at h1 ⊢
      rw [Array.getElem?_eq_getElem (by omega)] at h1 ⊢
      exact h1
    obtain ⟨x, hx, rfl⟩ := D.ent hlt
    have hpb : ∀ k, PB ops x.i k → listed.getD k false = true := by
      intro k hk
      obtain ⟨e, q1, q2, q3⟩ := (PB_iff D.hE h2 k).1 hk
      have hl := h3 e (by simpa using q1) q2
      rcases q3 with rfl | q3
      · exact hl
      · exact hS _ _ hl q3
    have hadd : (fun i => (listed.setIfInBounds x.i true).getD i false) = Drawn.add (fun i => listed.getD i false) x.i := by
      funext i
      unfold Drawn.add
      split
      · rename_i h
        subst h
        simp [hs, hlt]
      · rename_i h
        exact getD_set_ne false (Ne.symm h)
    refine Mid.step hP hΔ D hS M hx hf hpb fun ι' a' w' M' => ih (U.erase x.i) _ a' w' ι' ?_ (fun k hk hkf => ?_) (by simp [hs]) ?_ (by rw [hadd]; exact M')
    · have hmem := hm x.i hlt hf
      rw [List.length_erase_of_mem hmem]
      omega
    · have hne : k ≠ x.i := by
        intro e
        subst e
        rw [congrFun hadd, Drawn.add_self] at hkf
        cases hkf
      rw [getD_set_ne false (Ne.symm hne)] at hkf
      exact (List.mem_erase_of_ne hne).2 (hm k hk hkf)
    · rw [hadd]
      intro d k hd hk
      by_cases hkx : k = x.i
      · subst hkx; exact Drawn.add_self ..
      · rw [Drawn.add_ne hkx]
        by_cases hdx : d = x.i
        · subst hdx; exact hpb k hk
        · rw [Drawn.add_ne hdx] at hd
          exact hS d k hd hk

/-- A region that draws its order. -/
theorem evOps_draw (hm : P.follows .mixedOrders = true) (hP : TabOK P TT) (hΔ : CallsOK P Δ) {ρ : Option Nat} {dp : Nat} {R : Type} {Q : Exit → Act → World → Prop} {r : R} {K : St → Option R} {id : Nat} {s : St} {a : Act}
    (hev : evOps TT Δ n.ok ops true (zipN 0 ops.toList) s [] (fun s' lg => if drawOk ops lg = true then K s' else none) = some r) (h : SRel X keep w0 n ι s a w)
    (hQ : ∀ s' a' w' ι', K s' = some r → SRel X keep w0 n ι' s' a' w' → Q .normal a' w') : (Code.region id ops true).wpIn (WF ρ) dp P Q a w := by
  obtain ⟨es, s', ht, hk⟩ := trace hΔ _ _ _ hev
  rw [List.append_nil] at hk
  split at hk
  · rename_i hd
    obtain ⟨k1, k2, k3, k4, k5, k6⟩ := Tr.ents ops.toList 0 _ _ _ es _ _ _ ht
    simp only [drawOk, Bool.and_eq_true] at hd
    have D : Drawn TT Δ n.ok ops (getT s.tm) (getB s.bl) s.bl.length es := ⟨k1, k2, hd.1.1, hd.1.2, hd.2⟩
    refine wpIn_region_any hm (walk_any (X := X) (keep := keep) (w0 := w0) hP hΔ D (fun ι' a' w' M => hQ s' a' w' ι' hk ⟨?_, fun k hk => ?_⟩) ops.size (List.range ops.size) _ a _ ι (by simp) (fun j hj _ => by simpa using hj) (by simp) ?_ ?_)
    · rw [k3, k4]; exact M.f
    · cases hι : ι' k with
      | none => rfl
      | some v =>
        exfalso
        rcases M.dom k (by rw [hι]; simp) with h | ⟨y, q1, q2, q3, q4, q5⟩
        · omega
        · have := (k6 y q1).2.2
          have hynb : y.nb' = y.nb + y.e.new.length := by unfold Ent.nb'; simp [q2]
          omega
    · intro d j hd _
      exfalso
      revert hd
      simp only [Array.getD_eq_getD_getElem?, Array.getElem?_replicate]
      split <;> simp
    · have hz : (fun i => (Array.replicate ops.size false).getD i false) = fun _ => false := by
        funext i
        simp only [Array.getD_eq_getD_getElem?, Array.getElem?_replicate]
        split <;> rfl
      rw [hz]
      refine ⟨?_, fun k hk => ?_⟩
      · have e1 : selT (fun _ => false) es (getT s.tm) = getT s.tm := funext fun t => selT_none es _ fun _ _ _ => rfl
        have e2 : selC (fun _ => false) es (getB s.bl) = getB s.bl := funext fun t => selC_none es _ fun _ _ _ _ => rfl
        rw [e1, e2]
        exact h.f.drawn _
      · left
        rcases Nat.lt_or_ge k s.bl.length with q | q
        · exact q
        · exact absurd (h.dom k q) hk
  · cases hk
end
end Go.Proofs.Rf
