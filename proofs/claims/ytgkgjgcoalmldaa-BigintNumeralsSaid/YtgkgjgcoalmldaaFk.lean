/- Rf, part k: an operation of the abstract evaluator, and the model's. -/
import Derived.Laws.BytesArg
import Derived.Test.YtgkgjgcoalmldaaFj
namespace Go.Proofs.Rf
open Go Go.RowKit

/-- What is asked of a contract in the table of calls. -/
structure CallOK (P : Program) (f : Nat) (co : CallO) : Prop where
  fn : ∃ fn, P.funcs[f]? = some fn ∧ (fn.name == "runtime.NumGoroutine") = false ∧ fn.body.isNone = false
  run : ∀ (X keep : Nat → Prop) (w0 w : World) (ι : Nat → Option Value) (C : Nat → Blk) (nb : Nat) (args : List AV) (vs : List Value) (e : Eff), HRel X keep w0 ι C w → RelL w (okb X w ι C) ι args vs →
    co args C nb Eff some = some e → (∀ k, nb ≤ k → k < nb + e.new.length → ι k = none) → Calls P f vs.toArray w fun en w' => ∃ v, en = .returned v ∧ Out X keep w0 ι C w nb e v w'
  nat : ∀ (args : List AV) (C : Nat → Blk) (nb : Nat) (R : Type) (K : Eff → Option R), co args C nb R K = (co args C nb Eff some).bind K

def CallsOK (P : Program) (Δ : Nat → Option CallO) : Prop := ∀ f co, Δ f = some co → CallOK P f co

section
variable {X keep : Nat → Prop} {w0 w : World} {ι : Nat → Option Value} {C : Nat → Blk} {P : Program} {TT : Tab} {Δ : Nat → Option CallO}

theorem RelL_map {ok : Nat → Prop} {T : Nat → AV} {a : Act} (hT : ∀ t, RelV w ok ι (T t) (a.tmps.getD t undef)) : ∀ l : List Operand, RelL w ok ι (l.map (ev T)) (l.map a.eval)
  | [] => RelL_nil.2 rfl
  | x :: r => RelL_cons.2 ⟨_, _, rfl, ev_rel hT x, RelL_map hT r⟩

theorem df_ne {a : AV} (h : a.df = true) : a ≠ .un ∧ a ≠ .ud := by constructor <;> rintro rfl <;> simp [AV.df] at h

theorem RzL_bytes {ok : Nat → Prop} : ∀ {xs : List Int} {cs : List Value}, RzL (Rz w ok (.int .u8)) xs cs → cs = xs.map (Value.int .u8)
  | [], _, h => h
  | x :: r, _, ⟨us, vr, e, h1, h2⟩ => by
    have h1 : us = [.int .u8 x] := h1
    rw [e, h1, RzL_bytes h2]
    rfl

/-- A row of bytes made a string. -/
theorem conv_bytes {ok : Nat → Prop} {src dst e : Nat} {xs : List Int} {vx : Value} (hx : Rz w ok (.sl (.int .u8)) xs [vx]) (hs : P.underlying src = some (.slice e)) (he : P.underlying e = some (.int .u8)) (hd : P.underlying dst = some .string) :
    (convert src dst vx).run P w = .ok (.string ⟨(xs.map fun n : Int => UInt8.ofNat n.toNat).toArray⟩) w := by
  obtain ⟨A, c, e1, e2, e3⟩ := hx
  have e1 : vx = .slice A xs.length c := by injection e1
  subst e1
  rw [run_convert_bytes_string w src dst e A xs.length c hs he hd]
  cases A with
  | none =>
    have hl : xs = [] := by
      rcases Nat.eq_zero_or_pos xs.length with h | h
      · exact List.length_eq_zero_iff.1 h
      · obtain ⟨g, o, cs, q, _⟩ := e3 h
        cases q
    subst hl
    simp [Conv.bytesToString]
    rfl
  | some a =>
    have hl : (loadCells a xs.length).run P w = .ok (xs.map (Value.int .u8)).toArray w := by
      rcases Nat.eq_zero_or_pos xs.length with h | h
      · have h := List.length_eq_zero_iff.1 h
        subst h
        have := run_loadCells_list (P := P) w a [] (fun j v hj => by simp at hj)
        simpa using this
      · obtain ⟨g, o, cs, q1, q2, q3, q4⟩ := e3 h
        injection q1 with q1
        subst q1
        have hc := RzL_bytes q3
        have := run_loadCells_list (P := P) w ⟨g, o, none⟩ cs (fun j v hj => by rw [addr_add]; exact q4 j v hj)
        rw [hc] at this
        simpa using this
    rw [run_bytesToString w a xs.length c xs hl, foldl_push_bytes]
    simp [ByteArray.empty, ByteArray.emptyWithCapacity]
    rfl

/-- The next rune of a string. -/
theorem next_op (h : HRel X keep w0 ι C w) {nb b pos : Nat} {s : List UInt8} {vx : Value} {ty : TypeId} (hx : RelV w (okb X w ι C) ι (.pt b 0) vx) (hb : C b = .it s pos) :
    (pos < s.length → ∃ v w', (Instr.next vx true ty).run P w = .ok v w' ∧
      Out X keep w0 ι C w nb ⟨.tp [.d .bool true, .d (.int .i64) (pos : Int), .d (.int .i32) ((Utf8.decode ⟨s.toArray⟩ pos).1 : Int)], [(b, .it s (pos + (Utf8.decode ⟨s.toArray⟩ pos).2))], []⟩ v w') ∧
    (¬ pos < s.length → ∃ v, (Instr.next vx true ty).run P w = .ok v w ∧ RelV w (okb X w ι C) ι (.tp [.d .bool false]) v) := by
  have hB := h.bl b
  rw [hb] at hB
  obtain ⟨g, h1, h2⟩ := hB
  simp only [RelV] at hx
  obtain ⟨g', h3, h4⟩ := hx
  rw [h1] at h3
  injection h3 with h3
  injection h3 with h3
  injection h3 with h3
  injection h3 with h3
  subst h3; subst h4
  have hgo : (getObj g).run P w = .ok (.stringIter ⟨s.toArray⟩ pos) w := by simp [getObj, Sem.run, h2]
  refine ⟨fun hp => ?_, fun hp => ?_⟩
  · have hset : (setObj g (.stringIter ⟨s.toArray⟩ (pos + (Utf8.decode ⟨s.toArray⟩ pos).2))).run P w = .ok () { w with heap := w.heap.setIfInBounds g (.stringIter ⟨s.toArray⟩ (pos + (Utf8.decode ⟨s.toArray⟩ pos).2)) } := by
      simp [setObj, Sem.run, h2]
    have hp' : pos < (⟨s.toArray⟩ : ByteArray).size := by rw [size_mk]; exact hp
    refine ⟨.tuple #[.bool true, goInt pos, .int .i32 (Utf8.decode ⟨s.toArray⟩ pos).1], { w with heap := w.heap.setIfInBounds g (.stringIter ⟨s.toArray⟩ (pos + (Utf8.decode ⟨s.toArray⟩ pos).2)) }, ?_, ?_⟩
    · simp only [Instr.next, Sem.run_bind, hgo, Result.andThen_ok, hp', if_true, hset, Sem.run_pure]
    · have hlt : g < w.heap.size := (Array.getElem?_eq_some_iff.1 h2).1
      have hbk : bk ι C b = some g := by unfold bk; rw [hb, h1]
      have hbk' : bk ι (setC C b (.it s (pos + (Utf8.decode ⟨s.toArray⟩ pos).2))) b = some g := by unfold bk; rw [setC_self, h1]
      have := h.step (C' := setC C b (.it s (pos + (Utf8.decode ⟨s.toArray⟩ pos).2))) (ι' := ι) (w' := { w with heap := w.heap.setIfInBounds g (.stringIter ⟨s.toArray⟩ (pos + (Utf8.decode ⟨s.toArray⟩ pos).2)) }) (fun j => j = b) rfl rfl rfl (by simp)
        (fun j hj => setC_ne hj) (fun _ _ q => q) (fun _ _ => rfl) (fun k b' hk q => by
          subst hk
          rw [hbk'] at q
          injection q with q
          subst q
          exact .inr ⟨_, rfl, hbk⟩) (fun k k' b' hk hk' _ _ => hk.trans hk'.symm) (fun b' hb' hk => by
            have hne : g ≠ b' := by rintro rfl; exact hk b rfl hbk
            simp [hne]) (fun hext k hk => by
          subst hk
          rw [setC_self]
          exact ⟨g, h1, by simp [hlt]⟩)
      refine ⟨ι, this.1, this.2, ?_, fun _ _ => rfl⟩
      simp only [RelV]
      exact ⟨[.bool true, goInt pos, .int .i32 (Utf8.decode ⟨s.toArray⟩ pos).1], rfl, RelL_cons.2 ⟨_, _, rfl, rel_bool.2 rfl, RelL_cons.2 ⟨_, _, rfl, rel_int.2 rfl, RelL_cons.2 ⟨_, _, rfl, rel_int.2 rfl, RelL_nil.2 rfl⟩⟩⟩⟩
  · have hp' : ¬ pos < (⟨s.toArray⟩ : ByteArray).size := by rw [size_mk]; exact hp
    refine ⟨.tuple #[.bool false], ?_, ?_⟩
    · simp only [Instr.next, Sem.run_bind, hgo, Result.andThen_ok, hp', if_false, Sem.run_pure]
    · simp only [RelV]
      exact ⟨[.bool false], rfl, RelL_cons.2 ⟨_, _, rfl, rel_bool.2 rfl, RelL_nil.2 rfl⟩⟩

theorem lenOf_sound (h : HRel X keep w0 ι C w) {x : AV} {vx : Value} (hx : RelV w (okb X w ι C) ι x vx) {n : Int} (hl : lenOf C x = some n) : ∃ (A : Option Addr) (m c : Nat), vx = .slice A m c ∧ n = m := by
  unfold lenOf at hl
  split at hl
  · injection hl with hl
    subst hl
    simp only [RelV] at hx
    obtain ⟨A, c, e, _⟩ := hx
    injection e with e _
    exact ⟨A, _, c, e, rfl⟩
  · injection hl with hl
    subst hl
    simp only [RelV] at hx
    exact ⟨none, 0, 0, hx, rfl⟩
  · split at hl
    · rename_i b t e xs rw hb
      injection hl with hl
      subst hl
      obtain ⟨A, c, e1, _⟩ := row_cells h hb
      simp only [RelV] at hx
      rw [e1] at hx
      injection hx.1 with q
      exact ⟨A, _, c, q.symm, rfl⟩
    · cases hl
  · injection hl with hl
    subst hl
    simp only [RelV] at hx
    obtain ⟨A, n, c, A', c', _, _, e, _⟩ := hx
    exact ⟨A', _, c', e, rfl⟩
  · cases hl

theorem places_sound (hP : TabOK P TT) : ∀ (fl : List Field), (fl.map (fun f => (f.offset, f.type))).all (fun p => (TT p.2).isSome) = true →
    fl.mapM (fun f => (P.info? f.type).map fun i => (f.offset, i.size)) = some (fl.map fun f => (f.offset, sizeT TT f.type))
  | [], _ => rfl
  | f :: r, h => by
    simp only [List.map_cons, List.all_cons, Bool.and_eq_true] at h
    obtain ⟨td, htd⟩ := Option.isSome_iff_exists.1 h.1
    obtain ⟨i, z, i1, i2, _⟩ := (hP f.type td htd).ex
    have ih := places_sound hP r h.2
    simp [List.mapM_cons, i1, i2, ih, sizeT, htd]

theorem build_st (hP : TabOK P TT) {ok : Nat → Prop} {tt : Nat} {td : TD} (htd : TT tt = some td) {fs : List (Nat × Nat)} (hk : td.k = .st fs) {T : Nat → AV} {a : Act} (hT : ∀ t, RelV w ok ι (T t) (a.tmps.getD t undef)) {parts : Array (Nat × Operand)}
    (hc : (fs.all (fun p => (TT p.2).isSome) && parts.toList.all (fun p => (ev T p.2).df)) = true) {cs : List AV}
    (hf : fillC (placeSt TT fs) td.zero (parts.toList.map fun p => (p.1, ev T p.2)) = some cs) :
    ∃ v, (Instr.build tt (parts.map fun (i, x) => (i, a.eval x))).run P w = .ok v w ∧ RelV w ok ι (.ag cs) v := by
  rw [Bool.and_eq_true] at hc
  obtain ⟨c1, c2⟩ := hc
  obtain ⟨i, z, i1, i2, i3, i4, i5, i6, i7⟩ := (hP tt td htd).ex
  have hu := (hP tt td htd).und
  rw [hk] at hu
  obtain ⟨fields, hu, hfs⟩ := hu
  have hpl : placeSt TT fs = fun i => (fields.toList.map fun f => (f.offset, sizeT TT f.type)).toArray[i]? := by
    funext i
    rw [← hfs]
    simp only [placeSt, List.getElem?_map, List.getElem?_toArray]
    cases fields.toList[i]? <;> rfl
  rw [hpl] at hf
  obtain ⟨us', r1, r2⟩ := fill_sound hT parts.toList td.zero z.cells cs (i5 _ _ _) (fun p hp => df_ne (List.all_eq_true.1 c2 p hp)) hf
  refine ⟨.agg us', run_build w tt _ us' ?_, ?_⟩
  · have hp := places_sound hP fields.toList (by rw [hfs]; exact c1)
    have hparts : (parts.map fun (i, x) => (i, a.eval x)).toList = parts.toList.map fun p => (p.1, a.eval p.2) := by rw [Array.toList_map]
    simp only [Program.built, i1, hu, i4, hp, hparts, r1]
  · simp only [RelV]
    exact ⟨us'.toList, by simp, r2⟩

theorem build_ar (hP : TabOK P TT) {ok : Nat → Prop} {tt m e : Nat} {td : TD} (htd : TT tt = some td) (hk : td.k = .ar m e) {T : Nat → AV} {a : Act} (hT : ∀ t, RelV w ok ι (T t) (a.tmps.getD t undef)) {parts : Array (Nat × Operand)}
    (hc : ((TT e).isSome && parts.toList.all (fun p => (ev T p.2).df)) = true) {cs : List AV}
    (hf : fillC (fun i => some (i * sizeT TT e, sizeT TT e)) td.zero (parts.toList.map fun p => (p.1, ev T p.2)) = some cs) :
    ∃ v, (Instr.build tt (parts.map fun (i, x) => (i, a.eval x))).run P w = .ok v w ∧ RelV w ok ι (.ag cs) v := by
  rw [Bool.and_eq_true] at hc
  obtain ⟨c1, c2⟩ := hc
  obtain ⟨te, hte⟩ := Option.isSome_iff_exists.1 c1
  obtain ⟨i, z, i1, i2, i3, i4, i5, i6, i7⟩ := (hP tt td htd).ex
  obtain ⟨ie, ze, j1, j2, _⟩ := (hP e te hte).ex
  have hu := (hP tt td htd).und
  rw [hk] at hu
  have hu : P.underlying tt = some (.array m e) := hu
  obtain ⟨us', r1, r2⟩ := fill_sound hT parts.toList td.zero z.cells cs (i5 _ _ _) (fun p hp => df_ne (List.all_eq_true.1 c2 p hp)) hf
  refine ⟨.agg us', run_build w tt _ us' ?_, ?_⟩
  · have hparts : (parts.map fun (i, x) => (i, a.eval x)).toList = parts.toList.map fun p => (p.1, a.eval p.2) := by rw [Array.toList_map]
    rw [show sizeT TT e = ie.size by simp [sizeT, hte, j2]] at r1
    simp only [Program.built, i1, hu, i4, j1, hparts, r1]
  · simp only [RelV]
    exact ⟨us'.toList, by simp, r2⟩

theorem isSlT_sound (hP : TabOK P TT) {tt : Nat} : isSlT TT tt = true → ∃ e, P.underlying tt = some (.slice e) := by
  intro h
  unfold isSlT at h
  split at h
  · rename_i td htd
    split at h
    · rename_i e hk
      have := (hP tt td htd).und
      rw [hk] at this
      exact ⟨e, this⟩
    · cases h
  · cases h

theorem bin_nat {R : Type} (bt st : Bool) (op : BinOp) (a b : AV) (K : AV → Option R) : bin bt st op a b K = (bin bt st op a b some).bind K := by
  unfold bin
  repeat' split
  all_goals rfl

theorem uny_nat {R : Type} (op : UnOp) (a : AV) (K : AV → Option R) : uny op a K = (uny op a some).bind K := by
  unfold uny
  repeat' split
  all_goals rfl

theorem sliceGo_nat {R : Type} (n l h : Int) (sub : AV) (K : AV → Option R) : sliceGo n l h sub K = (sliceGo n l h sub some).bind K := by
  unfold sliceGo
  repeat' split
  all_goals rfl

theorem sliceAt_nat {R : Type} (n : Int) (lo hi : Option AV) (cut : Int → Int → AV) (full : Int → AV) (all : AV) (K : AV → Option R) : sliceAt n lo hi cut full all K = (sliceAt n lo hi cut full all some).bind K := by
  unfold sliceAt
  split
  · rfl
  · exact sliceGo_nat ..
  · exact sliceGo_nat ..
  · exact sliceGo_nat ..
  · rfl

theorem sliceOp_nat {R : Type} (tt : Nat) (C : Nat → Blk) (v : AV) (lo hi : Option AV) (K : AV → Option R) : sliceOp TT tt C v lo hi K = (sliceOp TT tt C v lo hi some).bind K := by
  unfold sliceOp
  split
  · split
    · exact sliceAt_nat ..
    · split
      · exact sliceAt_nat ..
      · rfl
    · split
      · split
        · exact sliceAt_nat ..
        · rfl
      · rfl
    · split
      · exact sliceAt_nat ..
      · rfl
    · rfl
  · rfl

theorem idxAV_nat {R : Type} (C : Nat → Blk) (e : Nat) (n : Int) (x : AV) (K : AV → Option R) : idxAV TT C e n x K = (idxAV TT C e n x some).bind K := by
  unfold idxAV
  split
  · split
    · repeat' split
      all_goals rfl
    · rfl
  · repeat' split
    all_goals rfl
  · repeat' split
    all_goals rfl
  · rfl

theorem chain_nat {R : Type} (i b o sz : Nat) (x : Int) (K : AV → Option R) : ∀ n, chain i b o sz x K n = (chain i b o sz x some n).bind K := by
  intro n
  induction n generalizing i with
  | zero => rfl
  | succ n ih =>
    simp only [chain]
    split
    · rfl
    · exact ih _

theorem chainA_nat {R : Type} (TT : Tab) (e sz : Nat) (cs : List AV) (x : Int) (K : AV → Option R) : ∀ i n, chainA TT e sz cs x K i n = (chainA TT e sz cs x some i n).bind K := by
  intro i n
  induction n generalizing i with
  | zero => rfl
  | succ n ih =>
    simp only [chainA]
    split
    · split <;> rfl
    · exact ih _

theorem isBoolT_sound (hP : TabOK P TT) {tt : Nat} (h : isBoolT TT tt = true) : P.underlying tt = some .bool := by
  unfold isBoolT at h
  split at h
  · rename_i td htd
    split at h
    · rename_i hk
      have hu := (hP tt td htd).und
      rw [hk] at hu
      exact hu
    · cases h
  · cases h

theorem kindOf_str (hP : TabOK P TT) {tt : Nat} (h : kindOf TT tt = .str) : P.underlying tt = some .string := by
  unfold kindOf at h
  split at h
  · rename_i td htd
    have hu := (hP tt td htd).und
    rw [h] at hu
    exact hu
  · cases h

theorem kindOf_sl (hP : TabOK P TT) {tt e : Nat} (h : kindOf TT tt = .sl e) : P.underlying tt = some (.slice e) := by
  unfold kindOf at h
  split at h
  · rename_i td htd
    have hu := (hP tt td htd).und
    rw [h] at hu
    exact hu
  · cases h

theorem runs_v {s : Sem Value} {Post : Value → World → Prop} (h : ∃ v w', s.run P w = .ok v w' ∧ Post v w') : Runs P (do pure (.value (← s))) w Post := by
  obtain ⟨v, w', h1, h2⟩ := h
  exact ⟨v, w', .inl (by simp [h1]), h2⟩
theorem runs_u {s : Sem Unit} {Post : Value → World → Prop} (h : ∃ w', s.run P w = .ok () w' ∧ Post undef w') : Runs P (do s; pure .skip) w Post := by
  obtain ⟨w', h1, h2⟩ := h
  exact ⟨undef, w', .inr ⟨by simp [h1], rfl⟩, h2⟩
theorem runs_pure {v : Value} {Post : Value → World → Prop} (h : Post v w) : Runs P (pure (.value v)) w Post := ⟨v, w, .inl rfl, h⟩

theorem evOp_sound (hP : TabOK P TT) (hΔ : CallsOK P Δ) (h : HRel X keep w0 ι C w) {T : Nat → AV} {a : Act} (hT : ∀ t, RelV w (okb X w ι C) ι (T t) (a.tmps.getD t undef)) {o : Oper} {nb : Nat} {e : Eff}
    (hev : evOp TT Δ o T C nb (R := Eff) some = some e) (hn : ∀ k, nb ≤ k → k < nb + e.new.length → ι k = none) {Q : Exit → Act → World → Prop} :
    o.wp P a w (fun a' w' => ∃ v, a' = a.put o.dst v ∧ Out X keep w0 ι C w nb e v w') Q := by
  unfold evOp at hev
  have hE := fun x => ev_rel (ok := okb X w ι C) hT x
  split at hev
  case h_1 x hop =>
    refine Runs.wp (Post := Out X keep w0 ι C w nb e) ?_ (fun v w' hv => ⟨v, rfl, hv⟩)
    unfold execOp
    rw [hop]
    exact runs_pure (Out.of_some h hev (hE x))
  case h_2 x hop =>
    refine Runs.wp (Post := Out X keep w0 ι C w nb e) ?_ (fun v w' hv => ⟨v, rfl, hv⟩)
    unfold execOp
    rw [hop]
    exact runs_pure (Out.of_some h hev (hE x))
  case h_3 c x y hop =>
    refine Runs.wp (Post := Out X keep w0 ι C w nb e) ?_ (fun v w' hv => ⟨v, rfl, hv⟩)
    unfold execOp
    rw [hop]
    split at hev
    · rename_i cb hc
      have h1 := hE c
      rw [hc, rel_bool] at h1
      refine ⟨if cb = true then a.eval x else a.eval y, w, .inl (by simp [h1, asBool]), ?_⟩
      split at hev
      · rename_i bx by' hx hy
        have h2 := hE x
        have h3 := hE y
        rw [hx, rel_bool] at h2
        rw [hy, rel_bool] at h3
        exact Out.of_some h hev (rel_bool.2 (by cases cb <;> simp [h2, h3]))
      · cases cb
        · exact Out.of_some h (by simpa using hev) (by simpa using hE y)
        · exact Out.of_some h (by simpa using hev) (by simpa using hE x)
    · cases hev
  case h_4 e0 hop =>
    refine Runs.wp (Post := Out X keep w0 ι C w nb e) ?_ (fun v w' hv => ⟨v, rfl, hv⟩)
    unfold execOp
    rw [hop]
    split at hev
    · rename_i td htd
      injection hev with hev
      subst hev
      exact runs_v (alloc_op hP h (hn nb (Nat.le_refl _) (by simp)) htd)
    · cases hev
  case h_5 e0 x hop =>
    refine Runs.wp (Post := Out X keep w0 ι C w nb e) ?_ (fun v w' hv => ⟨v, rfl, hv⟩)
    unfold execOp
    rw [hop]
    split at hev
    · cases hev
    · cases hev
    · rename_i n1 n2
      injection hev with hev
      subst hev
      exact runs_v (box_op h (hn nb (Nat.le_refl _) (by simp)) (hE x) n1 n2)
  case h_6 tt parts hop =>
    refine Runs.wp (Post := Out X keep w0 ι C w nb e) ?_ (fun v w' hv => ⟨v, rfl, hv⟩)
    unfold execOp
    rw [hop]
    split at hev
    · rename_i td htd
      split at hev
      · rename_i fs hk
        split at hev
        · rename_i hc
          split at hev
          · rename_i cs hf
            obtain ⟨v, r1, r2⟩ := build_st hP htd hk hT hc hf
            exact runs_v ⟨v, w, r1, Out.of_some h hev r2⟩
          · cases hev
        · cases hev
      · rename_i m e1 hk
        split at hev
        · rename_i hc
          split at hev
          · rename_i cs hf
            obtain ⟨v, r1, r2⟩ := build_ar hP htd hk hT hc hf
            exact runs_v ⟨v, w, r1, Out.of_some h hev r2⟩
          · cases hev
        · cases hev
      · cases hev
    · cases hev
  case h_7 tt len parts hop =>
    refine Runs.wp (Post := Out X keep w0 ι C w nb e) ?_ (fun v w' hv => ⟨v, rfl, hv⟩)
    unfold execOp
    rw [hop]
    split at hev
    · rename_i td htd
      split at hev
      · rename_i e1 hk
        split at hev
        · rename_i te hte
          split at hev
          · rename_i ty hty
            split at hev
            · rename_i xs f hp
              split at hev
              · rename_i hc
                injection hev with hev
                subst hev
                exact runs_v (buildSlice_op hP h (hn nb (Nat.le_refl _) (by simp)) htd hk hte hty hT hp hc)
              · cases hev
            · cases hev
          · cases hev
        · cases hev
      · cases hev
    · cases hev
  case h_8 tt x hop =>
    refine Runs.wp (Post := Out X keep w0 ι C w nb e) ?_ (fun v w' hv => ⟨v, rfl, hv⟩)
    unfold execOp
    rw [hop]
    split at hev
    · rename_i r hr
      obtain ⟨v, r1, r2⟩ := load_op hP h (hE x) hr
      exact runs_v ⟨v, w, r1, Out.of_some h hev r2⟩
    · cases hev
  case h_9 tt ad x hop =>
    refine Runs.wp (Post := Out X keep w0 ι C w nb e) ?_ (fun v w' hv => ⟨v, rfl, hv⟩)
    unfold execOp
    rw [hop]
    have ha := hE ad
    generalize ev T ad = av at hev ha
    cases av
    case pt b o' =>
      simp only at hev
      split at hev
      · rename_i cs hb
        split at hev
        · rename_i hc
          injection hev with hev
          subst hev
          exact runs_u (store_box hP h ha (hE x) hb hc)
        · cases hev
      · cases hev
    case pe b sz i o' =>
      simp only at hev
      split at hev
      · rename_i t e1 xs hb
        split at hev
        · rename_i hc
          split at hev
          · rename_i y hp
            injection hev with hev
            subst hev
            exact runs_u (store_row hP h ha (hE x) hb hc hp)
          · cases hev
        · cases hev
      · cases hev
    all_goals cases hev
  case h_10 x hop =>
    refine Runs.wp (Post := Out X keep w0 ι C w nb e) ?_ (fun v w' hv => ⟨v, rfl, hv⟩)
    unfold execOp
    rw [hop]
    have hx := hE x
    split at hev
    · rename_i b o' hb
      rw [hb] at hx
      have h0 := hx
      simp only [RelV] at h0
      obtain ⟨g, _, h2⟩ := h0
      rw [h2] at hx
      simp only [h2]
      exact runs_pure (Out.of_some h hev hx)
    · rename_i b s i o' hb
      rw [hb] at hx
      have h0 := hx
      simp only [RelV] at h0
      obtain ⟨g, n, c, _, _, h2⟩ := h0
      rw [h2] at hx
      simp only [h2]
      exact runs_pure (Out.of_some h hev hx)
    · rename_i cs hb
      rw [hb] at hx
      have h0 := hx
      simp only [RelV] at h0
      obtain ⟨g, o, us, h2, _⟩ := h0
      rw [h2] at hx
      simp only [h2]
      exact runs_pure (Out.of_some h hev hx)
    · rename_i f cs hb
      rw [hb] at hx
      have h0 := hx
      simp only [RelV] at h0
      obtain ⟨us, h2, _⟩ := h0
      rw [h2] at hx
      simp only [h2]
      exact runs_pure (Out.of_some h hev hx)
    · rename_i f cs hb
      rw [hb] at hx
      have h0 := hx
      simp only [RelV] at h0
      obtain ⟨us, h2, _⟩ := h0
      rw [h2] at hx
      simp only [h2]
      exact runs_pure (Out.of_some h hev hx)
    · cases hev
  case h_11 op tt x y yt hop =>
    refine Runs.wp (Post := Out X keep w0 ι C w nb e) ?_ (fun v w' hv => ⟨v, rfl, hv⟩)
    unfold execOp
    rw [hop]
    have hev : ∃ r, bin (isBoolT TT tt) (isSlT TT tt) op (ev T x) (ev T y) some = some r ∧ (some (⟨r, [], []⟩ : Eff)) = some e := by
      have hnat := bin_nat (isBoolT TT tt) (isSlT TT tt) op (ev T x) (ev T y) (fun r => some (⟨r, [], []⟩ : Eff))
      rw [hnat] at hev
      cases hb : bin (isBoolT TT tt) (isSlT TT tt) op (ev T x) (ev T y) some with
      | none => rw [hb] at hev; cases hev
      | some r => rw [hb] at hev; exact ⟨r, rfl, hev⟩
    obtain ⟨r, h1, h2⟩ := hev
    obtain ⟨v, r1, r2⟩ := bin_sound (P := P) (t := tt) (x := x) (y := y) (isBoolT_sound hP) (isSlT_sound hP) (hE x) (hE y) h1
    exact runs_v ⟨v, w, r1, Out.of_some h h2 r2⟩
  case h_12 op xt x hop =>
    refine Runs.wp (Post := Out X keep w0 ι C w nb e) ?_ (fun v w' hv => ⟨v, rfl, hv⟩)
    unfold execOp
    rw [hop]
    have hev : ∃ r, uny op (ev T x) some = some r ∧ (some (⟨r, [], []⟩ : Eff)) = some e := by
      rw [uny_nat op (ev T x) (fun r => some (⟨r, [], []⟩ : Eff))] at hev
      cases hb : uny op (ev T x) some with
      | none => rw [hb] at hev; cases hev
      | some r => rw [hb] at hev; exact ⟨r, rfl, hev⟩
    obtain ⟨r, h1, h2⟩ := hev
    obtain ⟨v, r1, r2⟩ := uny_sound (P := P) (hE x) h1
    exact runs_v ⟨v, w, r1, Out.of_some h h2 r2⟩
  case h_13 src dst x hop =>
    refine Runs.wp (Post := Out X keep w0 ι C w nb e) ?_ (fun v w' hv => ⟨v, rfl, hv⟩)
    unfold execOp
    rw [hop]
    split at hev
    · rename_i ts td k n hts htd hx
      have h1 := hE x
      rw [hx, rel_int] at h1
      split at hev
      · rename_i k' hk
        have hu := (hP dst td htd).und
        rw [hk] at hu
        have hu : P.underlying dst = some (.int k') := hu
        obtain ⟨ds, hds⟩ : ∃ ds, P.underlying src = some ds := by
          have := (hP src ts hts).und
          cases hk2 : ts.k <;> rw [hk2] at this
          · exact ⟨_, this⟩
          · exact ⟨_, this⟩
          · exact ⟨_, this⟩
          · exact ⟨_, this⟩
          · exact ⟨_, this⟩
          · obtain ⟨fields, h3, _⟩ := this; exact ⟨_, h3⟩
          · obtain ⟨d, h3, _⟩ := this; exact ⟨_, h3⟩
        refine runs_v ⟨.int k' (k'.wrap n), w, ?_, Out.of_some h hev (rel_int.2 rfl)⟩
        rw [h1]
        simp [convert, run_und hds, run_und hu, Conv.intToInt]
      · cases hev
    · rename_i ts td hts htd _
      split at hev
      · rename_i e1 hk1 hk2
        split at hev
        · rename_i xs fz hk3 hdat
          have hx := (dat1_sound h (FrozenOf.refl C) (hE x) hdat).2
          have hu1 : P.underlying src = some (.slice e1) := by
            have := (hP src ts hts).und
            rw [hk1] at this
            exact this
          have hu2 : P.underlying dst = some .string := by
            have := (hP dst td htd).und
            rw [hk2] at this
            exact this
          have hu3 : P.underlying e1 = some (.int .u8) := by
            unfold kindOf at hk3
            cases hte : TT e1 with
            | none => rw [hte] at hk3; cases hk3
            | some te =>
              rw [hte] at hk3
              have := (hP e1 te hte).und
              rw [show te.k = .int .u8 from hk3] at this
              exact this
          exact runs_v ⟨_, w, conv_bytes hx hu1 hu3 hu2, Out.of_some h hev (rel_str.2 rfl)⟩
        · cases hev
      · cases hev
    · cases hev
  case h_14 tt l c hop =>
    refine Runs.wp (Post := Out X keep w0 ι C w nb e) ?_ (fun v w' hv => ⟨v, rfl, hv⟩)
    unfold execOp
    rw [hop]
    split at hev
    · rename_i td htd
      split at hev
      · rename_i e1 hk
        split at hev
        · rename_i te hte
          split at hev
          · rename_i ty k x k' y hty hl hc
            have h1 := hE l
            have h2 := hE c
            rw [hl, rel_int] at h1
            rw [hc, rel_int] at h2
            split at hev
            · rename_i hcc
              simp only [Bool.and_eq_true] at hcc
              obtain ⟨⟨⟨c1, c2⟩, c3⟩, c4⟩ := hcc
              obtain rfl := ikEq_eq c1
              obtain rfl := ikEq_eq c2
              split at hev
              · rename_i d1
                split at hev
                · rename_i d2
                  split at hev
                  · rename_i d3
                    injection hev with hev
                    subst hev
                    simp only [h1, h2]
                    exact runs_v (make_op hP h (hn nb (Nat.le_refl _) (by simp)) htd hk hte hty (Nat.le_of_ble_eq_true c3) (Nat.le_of_ble_eq_true c4) d1 d2 d3)
                  · cases hev
                · cases hev
              · cases hev
            · cases hev
          · cases hev
        · cases hev
      · cases hev
    · cases hev
  case h_15 tt x lo hi hop =>
    refine Runs.wp (Post := Out X keep w0 ι C w nb e) ?_ (fun v w' hv => ⟨v, rfl, hv⟩)
    unfold execOp
    rw [hop]
    have hev : ∃ r, sliceOp TT tt C (ev T x) (lo.map (ev T)) (hi.map (ev T)) some = some r ∧ (some (⟨r, [], []⟩ : Eff)) = some e := by
      rw [sliceOp_nat tt C (ev T x) (lo.map (ev T)) (hi.map (ev T)) (fun r => some (⟨r, [], []⟩ : Eff))] at hev
      cases hb : sliceOp TT tt C (ev T x) (lo.map (ev T)) (hi.map (ev T)) some with
      | none => rw [hb] at hev; cases hev
      | some r => rw [hb] at hev; exact ⟨r, rfl, hev⟩
    obtain ⟨r, h1, h2⟩ := hev
    have hopt : ∀ (y : Option Operand) (z : AV), y.map (ev T) = some z → ∃ v, y.map a.eval = some v ∧ RelV w (okb X w ι C) ι z v := by
      intro y z hz
      cases y with
      | none => cases hz
      | some y => injection hz with hz; subst hz; exact ⟨_, rfl, hE y⟩
    have hopt' : ∀ (y : Option Operand), y.map (ev T) = none → y.map a.eval = none := by
      intro y hz
      cases y with
      | none => rfl
      | some y => cases hz
    obtain ⟨v, r1, r2⟩ := slice_op hP h (hE x) (hopt lo) (hopt' lo) (hopt hi) (hopt' hi) h1
    exact runs_v ⟨v, w, r1, Out.of_some h h2 r2⟩
  case h_16 tt x f hop =>
    refine Runs.wp (Post := Out X keep w0 ι C w nb e) ?_ (fun v w' hv => ⟨v, rfl, hv⟩)
    unfold execOp
    rw [hop]
    split at hev
    · rename_i off ft hf
      split at hev
      · rename_i hs
        split at hev
        · rename_i r hr
          obtain ⟨v, r1, r2⟩ := fieldAddr_op hP hf hs (hE x) hr
          exact runs_v ⟨v, w, r1, Out.of_some h hev r2⟩
        · cases hev
      · cases hev
    · cases hev
  case h_17 tt x f hop =>
    refine Runs.wp (Post := Out X keep w0 ι C w nb e) ?_ (fun v w' hv => ⟨v, rfl, hv⟩)
    unfold execOp
    rw [hop]
    split at hev
    · rename_i off ft hf
      split at hev
      · rename_i cs hx
        split at hev
        · rename_i r hl
          have h1 := hE x
          rw [hx] at h1
          obtain ⟨v, r1, r2⟩ := field_op hP hf h1 hl
          exact runs_v ⟨v, w, r1, Out.of_some h hev r2⟩
        · cases hev
      · cases hev
    · cases hev
  case h_18 tt x ix hop =>
    refine Runs.wp (Post := Out X keep w0 ι C w nb e) ?_ (fun v w' hv => ⟨v, rfl, hv⟩)
    unfold execOp
    rw [hop]
    split at hev
    · rename_i td k n htd hix
      have h1 := hE ix
      rw [hix, rel_int] at h1
      simp only [h1]
      have hx := hE x
      split at hev
      · rename_i e1 hk
        have : ∃ r, idxAV TT C e1 n (ev T x) some = some r ∧ (some (⟨r, [], []⟩ : Eff)) = some e := by
          rw [idxAV_nat C e1 n (ev T x) (fun r => some (⟨r, [], []⟩ : Eff))] at hev
          cases hc : idxAV TT C e1 n (ev T x) some with
          | none => rw [hc] at hev; cases hev
          | some r => rw [hc] at hev; exact ⟨r, rfl, hev⟩
        obtain ⟨r, h2, h3⟩ := this
        obtain ⟨v, r1, r2⟩ := indexAddr_sl hP h htd hk hx h2
        exact runs_v ⟨v, w, r1, Out.of_some h h3 r2⟩
      · rename_i m e1 hk
        split at hev
        · rename_i b o' hb
          rw [hb] at hx
          split at hev
          · rename_i hs
            have : ∃ r, chain (R := AV) 0 b o' (sizeT TT e1) n some m = some r ∧ (some (⟨r, [], []⟩ : Eff)) = some e := by
              rw [chain_nat 0 b o' (sizeT TT e1) n (fun r => some (⟨r, [], []⟩ : Eff)) m] at hev
              cases hc : chain (R := AV) 0 b o' (sizeT TT e1) n some m with
              | none => rw [hc] at hev; cases hev
              | some r => rw [hc] at hev; exact ⟨r, rfl, hev⟩
            obtain ⟨r, h2, h3⟩ := this
            obtain ⟨v, r1, r2⟩ := indexAddr_ar hP htd hk hs hx h2
            exact runs_v ⟨v, w, r1, Out.of_some h h3 r2⟩
          · cases hev
        · cases hev
      · cases hev
    · cases hev
  case h_19 tt x ix hop =>
    refine Runs.wp (Post := Out X keep w0 ι C w nb e) ?_ (fun v w' hv => ⟨v, rfl, hv⟩)
    unfold execOp
    rw [hop]
    split at hev
    · rename_i td k n s htd hix hx
      split at hev
      · rename_i hk
        split at hev
        · rename_i d1
          split at hev
          · rename_i d2
            have h1 := hE ix
            rw [hix, rel_int] at h1
            have h2 := hE x
            rw [hx, rel_str] at h2
            have hu := (hP tt td htd).und
            rw [hk] at hu
            simp only [h1, h2]
            exact runs_v ⟨_, w, index_op hu d1 d2, Out.of_some h hev (rel_int.2 rfl)⟩
          · cases hev
        · cases hev
      · cases hev
    · rename_i td k n cs htd hix hx
      split at hev
      · rename_i m e1 hk
        split at hev
        · rename_i hs
          have h1 := hE ix
          rw [hix, rel_int] at h1
          have h2 := hE x
          rw [hx] at h2
          simp only [h1]
          have : ∃ r, chainA (R := AV) TT e1 (sizeT TT e1) cs n some 0 m = some r ∧ (some (⟨r, [], []⟩ : Eff)) = some e := by
            rw [chainA_nat TT e1 (sizeT TT e1) cs n (fun r => some (⟨r, [], []⟩ : Eff)) 0 m] at hev
            cases hc : chainA (R := AV) TT e1 (sizeT TT e1) cs n some 0 m with
            | none => rw [hc] at hev; cases hev
            | some r => rw [hc] at hev; exact ⟨r, rfl, hev⟩
          obtain ⟨r, h3, h4⟩ := this
          obtain ⟨v, r1, r2⟩ := index_ar hP htd hk hs h2 h3
          exact runs_v ⟨v, w, r1, Out.of_some h h4 r2⟩
        · cases hev
      · cases hev
    · cases hev
  case h_20 x i hop =>
    refine Runs.wp (Post := Out X keep w0 ι C w nb e) ?_ (fun v w' hv => ⟨v, rfl, hv⟩)
    unfold execOp
    rw [hop]
    split at hev
    · rename_i cs hx
      split at hev
      · rename_i y hy
        have h1 := hE x
        rw [hx] at h1
        simp only [RelV] at h1
        obtain ⟨us, h2, h3⟩ := h1
        obtain ⟨v, h4, h5⟩ := RelL_get i y h3 hy
        refine runs_v ⟨v, w, ?_, Out.of_some h hev h5⟩
        rw [h2]
        simp [Instr.extract, h4]
      · cases hev
    · cases hev
  case h_21 f first captured hop =>
    refine Runs.wp (Post := Out X keep w0 ι C w nb e) ?_ (fun v w' hv => ⟨v, rfl, hv⟩)
    unfold execOp
    rw [hop]
    split at hev
    · rename_i hf
      have hf := Nat.eq_of_beq_eq_true hf
      have hf : first = #[] := Array.eq_empty_of_size_eq_zero hf
      subst hf
      refine runs_v ⟨.func (.func f) #[] (captured.map a.eval), w, by simp [Instr.makeFunc], Out.of_some h hev ?_⟩
      simp only [RelV]
      exact ⟨captured.toList.map a.eval, by rw [← Array.toList_map], RelL_map hT captured.toList⟩
    · split at hev
      · rename_i hf
        have hf := Nat.eq_of_beq_eq_true hf
        have hf : captured = #[] := Array.eq_empty_of_size_eq_zero hf
        subst hf
        refine runs_v ⟨.func (.func f) (first.map a.eval) #[], w, by simp [Instr.makeFunc], Out.of_some h hev ?_⟩
        simp only [RelV]
        exact ⟨first.toList.map a.eval, by rw [← Array.toList_map], RelL_map hT first.toList⟩
      · cases hev
  case h_22 tt x hop =>
    refine Runs.wp (Post := Out X keep w0 ι C w nb e) ?_ (fun v w' hv => ⟨v, rfl, hv⟩)
    unfold execOp
    rw [hop]
    split at hev
    · rename_i s hk hx
      injection hev with hev
      subst hev
      have h1 := hE x
      rw [hx, rel_str] at h1
      simp only [h1]
      exact runs_v (range_op (kindOf_str hP hk) h (hn nb (Nat.le_refl _) (by simp)))
    · cases hev
  case h_23 x hop =>
    refine Runs.wp (Post := Out X keep w0 ι C w nb e) ?_ (fun v w' hv => ⟨v, rfl, hv⟩)
    unfold execOp
    rw [hop]
    split at hev
    · rename_i b hb
      have h1 := hE x
      rw [hb] at h1
      split at hev
      · rename_i s pos hC
        obtain ⟨q1, q2⟩ := next_op (nb := nb) (ty := o.type) h h1 hC
        split at hev
        · rename_i hp
          injection hev with hev
          subst hev
          exact runs_v (q1 hp)
        · rename_i hp
          obtain ⟨v, r1, r2⟩ := q2 hp
          exact runs_v ⟨v, w, r1, Out.of_some h hev r2⟩
      · cases hev
    · cases hev
  case h_24 c hop =>
    split at hev
    · rename_i hcal
      split at hev
      · rename_i x tt hargs hty
        have hargs : c.args = #[x] := by rw [← Array.toArray_toList (xs := c.args), hargs]
        have hty : c.argTypes = #[tt] := by rw [← Array.toArray_toList (xs := c.argTypes), hty]
        refine Runs.wp (Post := Out X keep w0 ι C w nb e) ?_ (fun v w' hv => ⟨v, rfl, hv⟩)
        unfold execOp
        rw [hop]
        have hx := hE x
        split at hev
        · rename_i s hk hs
          rw [hs, rel_str] at hx
          refine ⟨.int .i64 s.length, w, .inl ?_, Out.of_some h hev (rel_int.2 rfl)⟩
          simp [resolve, hcal, invoke, builtin, hargs, hty, Builtin.len_, run_und (kindOf_str hP hk), hx, goInt, size_mk]
        · rename_i e1 hk
          split at hev
          · rename_i n hl
            obtain ⟨A, m, cc, q1, q2⟩ := lenOf_sound h hx hl
            subst q2
            refine ⟨.int .i64 m, w, .inl ?_, Out.of_some h hev (rel_int.2 rfl)⟩
            simp [resolve, hcal, invoke, builtin, hargs, hty, Builtin.len_, run_und (kindOf_sl hP hk), q1, goInt]
          · cases hev
        · cases hev
      · cases hev
    · rename_i hcal
      split at hev
      · rename_i x y tt tt' hargs hty
        have hargs : c.args = #[x, y] := by rw [← Array.toArray_toList (xs := c.args), hargs]
        have hty : c.argTypes = #[tt, tt'] := by rw [← Array.toArray_toList (xs := c.argTypes), hty]
        split at hev
        · rename_i td htd
          split at hev
          · rename_i e1 hk
            split at hev
            · rename_i te hte
              split at hev
              · rename_i ty htye
                split at hev
                · rename_i hc
                  simp only [Bool.and_eq_true] at hc
                  obtain ⟨⟨c1, c2⟩, c3⟩ := hc
                  obtain rfl := Nat.eq_of_beq_eq_true c1
                  have c2 : 0 < ty.size := Nat.le_of_ble_eq_true c2
                  have c3 := Nat.le_of_ble_eq_true c3
                  split at hev
                  · rename_i ys f hel
                    refine Runs.wp (Post := Out X keep w0 ι C w nb e) ?_ (fun v w' hv => ⟨v, rfl, hv⟩)
                    unfold execOp
                    rw [hop]
                    have hx := hE x
                    have hap : ∀ (s : Value → World → Prop), (∃ v w', (Builtin.append_ #[tt, tt] o.type #[a.eval x, a.eval y]).run P w = .ok v w' ∧ s v w') → Runs P (do let d ← resolve a.eval c o.type; invoke d.target d.args) w s := by
                      rintro s ⟨v, w', r1, r2⟩
                      refine ⟨v, w', .inl ?_, r2⟩
                      simp [resolve, hcal, invoke, builtin, hargs, hty, r1]
                    split at hev
                    · rename_i hxn
                      split at hev
                      · rename_i hl
                        injection hev with hev
                        subst hev
                        rw [hxn] at hx
                        simp only [RelV] at hx
                        refine hap _ ?_
                        rw [hx]
                        exact append_nil_op hP h (hn nb (Nat.le_refl _) (by simp)) htd hk hte htye o.type c2 c3 (hE y) hel hl
                      · cases hev
                    · rename_i b hxb
                      rw [hxb] at hx
                      split at hev
                      · rename_i t e' xs hC
                        split at hev
                        · rename_i hq _
                          obtain ⟨hq⟩ := hq
                          subst hq
                          split at hev
                          · rename_i hcc
                            rw [Bool.and_eq_true] at hcc
                            obtain ⟨d1, d2⟩ := hcc
                            obtain rfl := Nat.eq_of_beq_eq_true d1
                            split at hev
                            · rename_i hl
                              injection hev with hev
                              subst hev
                              refine hap _ ?_
                              exact append_row_op hP h (hn nb (Nat.le_refl _) (by simp)) htd hk hte htye o.type c2 c3 hx hC (hE y) hel (by simpa using d2) hl
                            · cases hev
                          · cases hev
                        · cases hev
                      · cases hev
                    · cases hev
                  · cases hev
                · cases hev
              · cases hev
            · cases hev
          · cases hev
        · cases hev
      · cases hev
    · rename_i hcal
      split at hev
      · rename_i x y tt tt' hargs hty
        have hargs : c.args = #[x, y] := by rw [← Array.toArray_toList (xs := c.args), hargs]
        have hty : c.argTypes = #[tt, tt'] := by rw [← Array.toArray_toList (xs := c.argTypes), hty]
        refine Runs.wp (Post := Out X keep w0 ι C w nb e) ?_ (fun v w' hv => ⟨v, rfl, hv⟩)
        unfold execOp
        rw [hop]
        have hx := hE x
        have hy := hE y
        split at hev
        · rename_i td htd
          split at hev
          · rename_i e1 hk
            split at hev
            · rename_i te b sz off len t' ys hte h1 h2
              rw [h1] at hx
              rw [h2] at hy
              split at hev
              · rename_i t e' xs hC
                split at hev
                · rename_i hq _
                  obtain ⟨hq⟩ := hq
                  subst hq
                  split at hev
                  · rename_i hc
                    simp only [Bool.and_eq_true] at hc
                    obtain ⟨⟨c1, c2⟩, c3⟩ := hc
                    obtain rfl := Nat.eq_of_beq_eq_true c1
                    injection hev with hev
                    subst hev
                    simp only [RelV] at hy
                    obtain ⟨v, w', r1, r2⟩ := copy_op (nb := nb) hP h htd hk hte (Nat.eq_of_beq_eq_true c3) (Nat.eq_of_beq_eq_true c2) hC hx hy tt' o.type
                    refine ⟨v, w', .inl ?_, r2⟩
                    simp [resolve, hcal, invoke, builtin, hargs, hty, r1]
                  · cases hev
                · cases hev
              · cases hev
            · cases hev
          · cases hev
        · cases hev
      · cases hev
    · rename_i hcal
      split at hev
      · rename_i x y hargs
        have hargs : c.args = #[x, y] := by rw [← Array.toArray_toList (xs := c.args), hargs]
        refine Runs.wp (Post := Out X keep w0 ι C w nb e) ?_ (fun v w' hv => ⟨v, rfl, hv⟩)
        unfold execOp
        rw [hop]
        have hx := hE x
        have hy := hE y
        split at hev
        · rename_i k i k' j h1 h2
          rw [h1, rel_int] at hx
          rw [h2, rel_int] at hy
          refine ⟨.int k (if j > i then j else i), w, .inl ?_, Out.of_some h hev (rel_int.2 (by unfold imax; rfl))⟩
          simp [resolve, hcal, invoke, builtin, hargs, Builtin.max_, Builtin.max2, hx, hy]
        · cases hev
      · cases hev
    · rename_i fo hcal
      split at hev
      · rename_i g cs hfn
        split at hev
        · rename_i co hco
          have hok := hΔ g co hco
          obtain ⟨fn, f1, f2, f3⟩ := hok.fn
          have hf := hE fo
          rw [hfn] at hf
          simp only [RelV] at hf
          obtain ⟨us, hu, hr⟩ := hf
          have hargs : RelL w (okb X w ι C) ι (c.args.toList.map (ev T) ++ cs) (c.args.toList.map a.eval ++ us) := RelL_append (RelL_map hT _) hr
          rw [hok.nat] at hev
          have hev : co (c.args.toList.map (ev T) ++ cs) C nb Eff some = some e := by
            cases hc : co (c.args.toList.map (ev T) ++ cs) C nb Eff some with
            | none => rw [hc] at hev; cases hev
            | some e' => rw [hc] at hev; exact hev
          have hrun := hok.run X keep w0 w ι C nb _ _ e h hargs hev hn
          have hexec : (execOp a.eval o).run P w = .ok (.enter g (c.args.toList.map a.eval ++ us).toArray) w := by
            unfold execOp
            rw [hop]
            have hname : ¬ fn.name = "runtime.NumGoroutine" := by simpa using f2
            have hb : ¬ fn.body = none := by
              intro hb
              rw [hb] at f3
              cases f3
            have harr : Array.map a.eval c.args ++ us.toArray = (List.map a.eval c.args.toList ++ us).toArray := by
              apply Array.ext'
              simp
            simp [resolve, hcal, hu, Deferred.ofValue, invoke, callFunc, f1, hname, hb, harr]
          unfold Oper.wp
          rw [hexec, Oper.upon_enter]
          refine hrun.mono ?_
          rintro en w' ⟨v, rfl, hv⟩
          exact ⟨v, rfl, hv⟩
        · cases hev
      · rename_i g cs hfn
        split at hev
        · rename_i co hco
          have hok := hΔ g co hco
          obtain ⟨fn, f1, f2, f3⟩ := hok.fn
          have hf := hE fo
          rw [hfn] at hf
          simp only [RelV] at hf
          obtain ⟨us, hu, hr⟩ := hf
          have hargs : RelL w (okb X w ι C) ι (cs ++ c.args.toList.map (ev T)) (us ++ c.args.toList.map a.eval) := RelL_append hr (RelL_map hT _)
          rw [hok.nat] at hev
          have hev : co (cs ++ c.args.toList.map (ev T)) C nb Eff some = some e := by
            cases hc : co (cs ++ c.args.toList.map (ev T)) C nb Eff some with
            | none => rw [hc] at hev; cases hev
            | some e' => rw [hc] at hev; exact hev
          have hrun := hok.run X keep w0 w ι C nb _ _ e h hargs hev hn
          have hexec : (execOp a.eval o).run P w = .ok (.enter g (us ++ c.args.toList.map a.eval).toArray) w := by
            unfold execOp
            rw [hop]
            have hname : ¬ fn.name = "runtime.NumGoroutine" := by simpa using f2
            have hb : ¬ fn.body = none := by
              intro hb
              rw [hb] at f3
              cases f3
            have harr : us.toArray ++ Array.map a.eval c.args = (us ++ List.map a.eval c.args.toList).toArray := by
              apply Array.ext'
              simp
            simp [resolve, hcal, hu, Deferred.ofValue, invoke, callFunc, f1, hname, hb, harr]
          unfold Oper.wp
          rw [hexec, Oper.upon_enter]
          refine hrun.mono ?_
          rintro en w' ⟨v, rfl, hv⟩
          exact ⟨v, rfl, hv⟩
        · cases hev
      · cases hev
    · cases hev
  all_goals cases hev
end
end Go.Proofs.Rf
