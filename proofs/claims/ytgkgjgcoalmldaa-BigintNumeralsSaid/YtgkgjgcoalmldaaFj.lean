/- Rf, part j: places; aggregates; what remains. -/
import Derived.Test.YtgkgjgcoalmldaaFi
namespace Go.Proofs.Rf
open Go Go.RowKit

section
variable {X keep : Nat → Prop} {w0 w : World} {ι : Nat → Option Value} {C : Nat → Blk} {P : Program} {TT : Tab}

theorem int_arg {x : AV} {k : IntKind} {n : Int} {v : Value} {ok : Nat → Prop} (h : RelV w ok ι x v) (hx : x = .d (.int k) n) : v = .int k n := by
  subst hx; exact rel_int.1 h

theorem run_indexAt_sl (hP : TabOK P TT) {tt e : Nat} {td : TD} (ht : TT tt = some td) (hk : td.k = .sl e) (hs : (TT e).isSome = true) {k : IntKind} {i : Int} {g o len c : Nat} (h0 : 0 ≤ i) (h1 : i < (len : Int)) :
    (Instr.indexAt tt (.slice (some ⟨g, o, none⟩) len c) (.int k i)).run P w = .ok (.pointer (some ⟨g, o + i.toNat * sizeT TT e, none⟩)) w := by
  obtain ⟨te, he⟩ := Option.isSome_iff_exists.1 hs
  have hu := (hP tt td ht).und
  rw [hk] at hu
  have hu : P.underlying tt = some (.slice e) := hu
  simp [Instr.indexAt, asIntOf, run_und hu, h0, h1, run_size hP he, sizeT, he, addr_add]

/-- The place of a slice's element. -/
theorem indexAddr_sl (hP : TabOK P TT) (h : HRel X keep w0 ι C w) {tt e : Nat} {td : TD} (ht : TT tt = some td) (hk : td.k = .sl e) {k : IntKind} {i : Int} {x : AV} {vx : Value} (hx : RelV w (okb X w ι C) ι x vx) {r : AV}
    (hr : idxAV TT C e i x some = some r) : ∃ v, (Instr.indexAt tt vx (.int k i)).run P w = .ok v w ∧ RelV w (okb X w ι C) ι r v := by
  unfold idxAV at hr
  cases x
  case rf b =>
    simp only at hr
    split at hr
    · rename_i t e' xs rw hb
      split at hr
      · rename_i hc
        rw [Bool.and_eq_true] at hc
        obtain ⟨c1, c2⟩ := hc
        have c2 := Nat.eq_of_beq_eq_true c2
        split at hr
        · rename_i h0
          split at hr
          · rename_i h1
            injection hr with hr
            subst hr
            obtain ⟨A, c, e1, e2, e3⟩ := row_cells h hb
            simp only [RelV] at hx
            obtain ⟨hx1, _⟩ := hx
            rw [e1] at hx1
            injection hx1 with hx1
            subst hx1
            obtain ⟨g, o, cs, p1, p2, p3⟩ := e3 (by omega)
            have ho := row_zero h hb e1 p1
            subst ho
            subst p1
            refine ⟨_, run_indexAt_sl hP ht hk c1 h0 h1, ?_⟩
            simp only [RelV]
            exact ⟨g, xs.length, c, e1, by omega, by rw [c2]; simp⟩
          · cases hr
        · cases hr
      · cases hr
    · cases hr
  case rs b sz off len =>
    simp only at hr
    split at hr
    · rename_i hc
      rw [Bool.and_eq_true] at hc
      obtain ⟨c1, c2⟩ := hc
      have c2 := Nat.eq_of_beq_eq_true c2
      split at hr
      · rename_i h0
        split at hr
        · rename_i h1
          injection hr with hr
          subst hr
          simp only [RelV] at hx
          obtain ⟨A, n, c, A', c', e1, e2, e3, e4, e5⟩ := hx
          subst e3
          obtain ⟨g, p1, p2⟩ := e5.1 (by omega)
          subst p1; subst p2
          refine ⟨_, run_indexAt_sl hP ht hk c1 h0 h1, ?_⟩
          simp only [RelV]
          exact ⟨g, n, c, e1, by omega, by rw [← c2]; simp [Nat.add_mul]⟩
        · cases hr
      · cases hr
    · cases hr
  case d t xs =>
    cases t
    case sl t =>
     simp only at hr
     split at hr
     · rename_i hc
       rw [Bool.and_eq_true] at hc
       obtain ⟨c1, c2⟩ := hc
       have c2 := Nat.eq_of_beq_eq_true c2
       split at hr
       · rename_i h0
         split at hr
         · rename_i h1
           injection hr with hr
           subst hr
           simp only [RelV] at hx
           obtain ⟨A, c, e1, e2, e3⟩ := hx
           injection e1 with e1 _
           subst e1
           obtain ⟨g, o, cs, p1, p2, p3, p4⟩ := e3 (by omega)
           subst p1
           refine ⟨_, run_indexAt_sl hP ht hk c1 h0 h1, ?_⟩
           have hi : i.toNat < xs.length := by omega
           have hx1 : xs[i.toNat]? = some (xs.getD i.toNat t.dflt) := by
             rw [List.getD_eq_getElem?_getD, List.getElem?_eq_getElem hi]; rfl
           obtain ⟨us, r1, r2, r3⟩ := RzL_get (Rz_length t) i.toNat _ p3 hx1
           simp only [RelV]
           refine ⟨g, o + i.toNat * sizeT TT e, us, rfl, p2, RelL_unpack t _ us r1, fun j u hu => ?_⟩
           rw [← c2, Nat.add_assoc]
           exact p4 _ _ (r3 j u hu)
         · cases hr
       · cases hr
     · cases hr
    all_goals cases hr
  all_goals cases hr

/-- The place of an array's element. -/
theorem chain_sound {b o sz : Nat} {x : Int} {r : AV} : ∀ (n i : Nat), chain (R := AV) i b o sz x some n = some r → ∃ j : Nat, i ≤ j ∧ j < i + n ∧ x = (j : Int) ∧ r = .pt b (o + j * sz)
  | 0, i, h => by simp [chain] at h
  | n + 1, i, h => by
    simp only [chain] at h
    split at h
    · rename_i hx
      injection h with h
      exact ⟨i, Nat.le_refl _, by omega, hx, h.symm⟩
    · obtain ⟨j, h1, h2, h3, h4⟩ := chain_sound n (i + 1) h
      exact ⟨j, by omega, by omega, h3, h4⟩

theorem indexAddr_ar (hP : TabOK P TT) {ok : Nat → Prop} {tt m e : Nat} {td : TD} (ht : TT tt = some td) (hk : td.k = .ar m e) (hs : (TT e).isSome = true) {k : IntKind} {i : Int} {b o : Nat} {vx : Value} (hx : RelV w ok ι (.pt b o) vx) {r : AV}
    (hr : chain (R := AV) 0 b o (sizeT TT e) i some m = some r) : ∃ v, (Instr.indexAt tt vx (.int k i)).run P w = .ok v w ∧ RelV w ok ι r v := by
  obtain ⟨j, h1, h2, h3, h4⟩ := chain_sound m 0 hr
  obtain ⟨te, he⟩ := Option.isSome_iff_exists.1 hs
  have hu := (hP tt td ht).und
  rw [hk] at hu
  have hu : P.underlying tt = some (.array m e) := hu
  simp only [RelV] at hx
  obtain ⟨g, q1, q2⟩ := hx
  subst q2; subst h4; subst h3
  refine ⟨.pointer (some ⟨g, o + j * sizeT TT e, none⟩), ?_, by simp only [RelV]; exact ⟨g, q1, rfl⟩⟩
  have hj : j < m := by omega
  simp [Instr.indexAt, asIntOf, run_und hu, Instr.sureAddr, hj, run_size hP he, sizeT, he, addr_add]

theorem fieldOf_sound (hP : TabOK P TT) {tt f off ft : Nat} (h : fieldOf TT tt f = some (off, ft)) : ∃ (fields : Array Field) (fd : Field), P.underlying tt = some (.struct fields) ∧ fields[f]? = some fd ∧ fd.offset = off ∧ fd.type = ft := by
  unfold fieldOf at h
  split at h
  · rename_i td htd
    split at h
    · rename_i fs hk
      have hu := (hP tt td htd).und
      rw [hk] at hu
      obtain ⟨fields, h1, h2⟩ := hu
      rw [← h2, List.getElem?_map] at h
      cases hf : fields.toList[f]? with
      | none => rw [hf] at h; cases h
      | some fd =>
        rw [hf] at h
        injection h with h
        injection h with q1 q2
        exact ⟨fields, fd, h1, by simpa using hf, q1, q2⟩
    · cases h
  · cases h

theorem run_fieldAt (hP : TabOK P TT) {tt f off ft : Nat} (h : fieldOf TT tt f = some (off, ft)) (hs : Nat.blt 0 (sizeT TT ft) = true) {g o : Nat} :
    (Instr.fieldAt tt (.pointer (some ⟨g, o, none⟩)) f).run P w = .ok (.pointer (some ⟨g, o + off, none⟩)) w := by
  obtain ⟨fields, fd, h1, h2, h3, h4⟩ := fieldOf_sound hP h
  have hs : 0 < sizeT TT ft := Nat.le_of_ble_eq_true hs
  obtain ⟨td, htd⟩ : ∃ td, TT ft = some td := by
    cases ht : TT ft with
    | none => simp [sizeT, ht] at hs
    | some td => exact ⟨td, rfl⟩
  rw [show sizeT TT ft = td.size by simp [sizeT, htd]] at hs
  have hne : ¬ td.size = 0 := by omega
  subst h4; subst h3
  simp [Instr.fieldAt, run_und h1, h2, Instr.sureAddr, fieldPlace, run_size hP htd, hne, addr_add]

theorem fieldAddr_op (hP : TabOK P TT) {ok : Nat → Prop} {tt f off ft : Nat} (h : fieldOf TT tt f = some (off, ft)) (hs : Nat.blt 0 (sizeT TT ft) = true) {x : AV} {vx : Value} (hx : RelV w ok ι x vx) {r : AV}
    (hr : fldAV off x = some r) : ∃ v, (Instr.fieldAt tt vx f).run P w = .ok v w ∧ RelV w ok ι r v := by
  unfold fldAV at hr
  cases x
  case pt b o' =>
    injection hr with hr
    subst hr
    simp only [RelV] at hx
    obtain ⟨g, q1, q2⟩ := hx
    subst q2
    exact ⟨_, run_fieldAt hP h hs, by simp only [RelV]; exact ⟨g, q1, rfl⟩⟩
  case pe b s i o' =>
    injection hr with hr
    subst hr
    simp only [RelV] at hx
    obtain ⟨g, n, c, q1, q2, q3⟩ := hx
    subst q3
    exact ⟨_, run_fieldAt hP h hs, by simp only [RelV]; exact ⟨g, n, c, q1, q2, by rw [Nat.add_assoc]⟩⟩
  case ve cs =>
    injection hr with hr
    subst hr
    simp only [RelV] at hx
    obtain ⟨g, o, us, q1, q2, q3, q4⟩ := hx
    subst q1
    refine ⟨_, run_fieldAt hP h hs, ?_⟩
    simp only [RelV]
    refine ⟨g, o + off, us.drop off, rfl, q2, RelL_drop q3 off, fun j u hu => ?_⟩
    rw [List.getElem?_drop] at hu
    rw [Nat.add_assoc]
    exact q4 _ _ hu
  all_goals cases hr

/-- A part of an aggregate. -/
theorem part_sound (hP : TabOK P TT) {ok : Nat → Prop} {ft off : Nat} {cs : List AV} {us : List Value} (hr : RelL w ok ι cs us) {x : AV} (hl : loadC TT ft (cs.drop off) = some x) :
    ∃ v, (part ft us.toArray off).run P w = .ok v w ∧ RelV w ok ι x v := by
  unfold loadC at hl
  split at hl
  · rename_i td htd
    split at hl
    · rename_i hagg
      split at hl
      · rename_i hsz
        injection hl with hl
        subst hl
        refine ⟨.agg (us.toArray.extract off (off + td.size)), ?_, ?_⟩
        · simp [part, run_agg hP htd, hagg, run_size hP htd]
        · simp only [RelV]
          refine ⟨(us.drop off).take td.size, ?_, RelL_take (RelL_drop hr off) _⟩
          congr 1
          apply Array.ext'
          simp [List.extract_eq_take_drop]
      · cases hl
    · rename_i hagg
      have hagg : td.k.agg = false := by simpa using hagg
      split at hl
      · rename_i a r hd
        injection hl with hl
        subst hl
        have := RelL_drop hr off
        rw [hd] at this
        obtain ⟨v, vr, e, h1, h2⟩ := RelL_cons.1 this
        have hv : us[off]? = some v := by
          have := congrArg (fun l : List Value => l[0]?) e
          simpa using this
        exact ⟨v, by simp [part, run_agg hP htd, hagg, hv], h1⟩
      · cases hl
  · cases hl

theorem field_op (hP : TabOK P TT) {ok : Nat → Prop} {tt f off ft : Nat} (h : fieldOf TT tt f = some (off, ft)) {cs : List AV} {vx : Value} (hx : RelV w ok ι (.ag cs) vx) {x : AV} (hl : loadC TT ft (cs.drop off) = some x) :
    ∃ v, (Instr.field tt vx f).run P w = .ok v w ∧ RelV w ok ι x v := by
  obtain ⟨fields, fd, h1, h2, h3, h4⟩ := fieldOf_sound hP h
  simp only [RelV] at hx
  obtain ⟨us, e, hr⟩ := hx
  subst e
  obtain ⟨v, r1, r2⟩ := part_sound hP hr hl
  subst h4; subst h3
  exact ⟨v, by simp [Instr.field, run_und h1, h2, asAgg, r1], r2⟩

theorem chainA_sound {TT : Tab} {e sz : Nat} {cs : List AV} {x : Int} {r : AV} : ∀ (i n : Nat), chainA (R := AV) TT e sz cs x some i n = some r → ∃ j : Nat, j < i + n ∧ x = (j : Int) ∧ loadC TT e (cs.drop (j * sz)) = some r
  | i, 0, h => by simp [chainA] at h
  | i, n + 1, h => by
    simp only [chainA] at h
    split at h
    · rename_i hx
      split at h
      · rename_i y hy
        injection h with h
        subst h
        exact ⟨i, by omega, hx, hy⟩
      · cases h
    · obtain ⟨j, h1, h2, h3⟩ := chainA_sound (i + 1) n h
      exact ⟨j, by omega, h2, h3⟩

theorem index_ar (hP : TabOK P TT) {ok : Nat → Prop} {tt m e : Nat} {td : TD} (ht : TT tt = some td) (hk : td.k = .ar m e) (hs : (TT e).isSome = true) {k : IntKind} {i : Int} {cs : List AV} {vx : Value} (hx : RelV w ok ι (.ag cs) vx) {r : AV}
    (hr : chainA (R := AV) TT e (sizeT TT e) cs i some 0 m = some r) : ∃ v, (Instr.index tt vx (.int k i)).run P w = .ok v w ∧ RelV w ok ι r v := by
  obtain ⟨j, h1, h2, h3⟩ := chainA_sound 0 m hr
  obtain ⟨te, he⟩ := Option.isSome_iff_exists.1 hs
  have hu := (hP tt td ht).und
  rw [hk] at hu
  have hu : P.underlying tt = some (.array m e) := hu
  simp only [RelV] at hx
  obtain ⟨us, q1, q2⟩ := hx
  subst q1; subst h2
  obtain ⟨v, r1, r2⟩ := part_sound hP q2 h3
  have hj : j < m := by omega
  refine ⟨v, ?_, r2⟩
  simp only [sizeT, he] at r1
  simp [Instr.index, asIntOf, run_und hu, hj, run_size hP he, r1]

theorem index_op {tt : Nat} (hu : P.underlying tt = some .string) {k : IntKind} {i : Int} {s : List UInt8} (h0 : 0 ≤ i) (h1 : i < (s.length : Int)) :
    (Instr.index tt (.string ⟨s.toArray⟩) (.int k i)).run P w = .ok (.int .u8 ((s.getD i.toNat 0).toNat : Int)) w := by
  have hi : i.toNat < s.length := by omega
  have hg : (⟨s.toArray⟩ : ByteArray)[i.toNat]? = some (s.getD i.toNat 0) := by
    rw [List.getD_eq_getElem?_getD, List.getElem?_eq_getElem hi]
    show (if h : i.toNat < (⟨s.toArray⟩ : ByteArray).size then some _ else none) = _
    rw [dif_pos (by rw [size_mk]; exact hi)]
    rfl
  simp only [Instr.index, asIntOf, Sem.run_bind, Sem.run_pure, Result.andThen_ok, run_und hu, if_pos h0, hg]

/-! ### Aggregates -/
theorem splice_fill {cs : Array Value} {off : Nat} {vs : Array Value} (h : off + vs.size ≤ cs.size) :
    (vs.zipIdx.foldl (fun cs (c, j) => cs.setIfInBounds (off + j) c) cs).toList = cs.toList.take off ++ vs.toList ++ cs.toList.drop (off + vs.size) := by
  have h1 := Great.foldl_set off vs.toList 0 cs
  have h2 : vs.zipIdx.foldl (fun cs (c, j) => cs.setIfInBounds (off + j) c) cs = (vs.toList.zipIdx 0).foldl (fun cs (x : Value × Nat) => cs.setIfInBounds (off + x.2) x.1) cs := by
    rw [← Array.foldl_toList, Array.toList_zipIdx]
  rw [h2]
  generalize (vs.toList.zipIdx 0).foldl (fun cs (x : Value × Nat) => cs.setIfInBounds (off + x.2) x.1) cs = r at h1
  obtain ⟨h3, h4⟩ := h1
  apply List.ext_getElem?
  intro k
  rw [Array.getElem?_toList, h4 k]
  simp only [Nat.add_zero, Array.length_toList]
  by_cases hk : off ≤ k ∧ k < off + vs.size ∧ k < cs.size
  · rw [if_pos hk, List.append_assoc, List.getElem?_append_right (by simp; omega), List.getElem?_append_left (by simp; omega)]
    simp only [List.length_take, Array.length_toList]
    rw [Nat.min_eq_left (by omega)]
  · rw [if_neg hk]
    by_cases hlt : k < off
    · rw [List.append_assoc, List.getElem?_append_left (by simp; omega), List.getElem?_take, if_pos hlt, Array.getElem?_toList]
    · rw [List.append_assoc, List.getElem?_append_right (by simp; omega), List.getElem?_append_right (by simp; omega)]
      simp only [List.length_take, Array.length_toList, List.getElem?_drop]
      rw [Nat.min_eq_left (by omega)]
      by_cases hlt2 : k < cs.size
      · rw [show off + vs.size + (k - off - vs.size) = k by omega, Array.getElem?_toList]
      · rw [Array.getElem?_eq_none (by omega), List.getElem?_eq_none (by simp; omega)]

theorem fill_sound {ok : Nat → Prop} {place : Nat → Option (Nat × Nat)} {T : Nat → AV} {a : Act} (hT : ∀ t, RelV w ok ι (T t) (a.tmps.getD t undef)) : ∀ (ps : List (Nat × Operand)) (cs : List AV) (us : Array Value) (r : List AV),
    RelL w ok ι cs us.toList → (∀ p ∈ ps, ev T p.2 ≠ .un ∧ ev T p.2 ≠ .ud) → fillC place cs (ps.map fun p => (p.1, ev T p.2)) = some r →
    ∃ us', Instr.fill place us (ps.map fun p => (p.1, a.eval p.2)) = some us' ∧ RelL w ok ι r us'.toList
  | [], cs, us, r, h, _, hf => by
    simp only [List.map_nil, fillC, Option.some.injEq] at hf
    subst hf
    exact ⟨us, rfl, h⟩
  | (i, x) :: ps, cs, us, r, h, hne, hf => by
    simp only [List.map_cons, fillC] at hf
    split at hf
    · rename_i off size hp
      split at hf
      · rename_i hc
        rw [Bool.and_eq_true] at hc
        obtain ⟨c1, c2⟩ := hc
        have c1 := Nat.eq_of_beq_eq_true c1
        have c2 := Nat.le_of_ble_eq_true c2
        obtain ⟨n1, n2⟩ := hne (i, x) (List.mem_cons_self ..)
        have hcl := RelV_cells (ev_rel hT x) n1 n2
        have hl1 := RelL_length hcl
        have hl2 := RelL_length h
        rw [Array.length_toList] at hl1 hl2
        have hb : off + (a.eval x).cells.size ≤ us.size := by omega
        have hs := splice_fill hb
        have hrel : RelL w ok ι (splice cs off (cellsOf (ev T x))) ((a.eval x).cells.zipIdx.foldl (fun cs (c, j) => cs.setIfInBounds (off + j) c) us).toList := by
          rw [hs, ← Array.length_toList]
          exact RelL_splice h hcl off
        obtain ⟨us', r1, r2⟩ := fill_sound hT ps _ _ r hrel (fun p hp => hne p (List.mem_cons_of_mem _ hp)) hf
        refine ⟨us', ?_, r2⟩
        have e1 : ¬ ((a.eval x).cells.size ≠ size) := by omega
        have e2 : ¬ (off + (a.eval x).cells.size > us.size) := by omega
        simp only [List.map_cons, Instr.fill, hp, e1, e2, decide_false, Bool.or_self, Bool.false_eq_true, if_false]
        exact r1
      · cases hf
    · cases hf
end
end Go.Proofs.Rf
